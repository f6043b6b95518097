/- node: the writer's num. -/
import Derived.Test.YtgeiafijibgdhaaNod5
import Derived.Test.YtgeiafijibgdhaaFrm
set_option linter.unusedVariables false
set_option linter.unusedSimpArgs false
namespace Go.Proofs.Ytgeiafijibgdhaa.Cl
open Go Go.Proofs Go.RowKit Fl Rely

abbrev WrtAt (w : World) (g : Nat) (v : Value) : Prop := RowAt w g 76 #[v]
/-- the writer's own step -/
def KpW (g : Nat) (w : World) (v : Value) (w' : World) (u : Value) : Prop := Frm (fun k => k = g ∨ v.ownBlock = some k) w w' ∧ Lies w v u
theorem KpW.refl (g : Nat) (w : World) (v : Value) : KpW g w v w v := ⟨Frm.refl _ _, Lies.refl _ _⟩
theorem KpW.trans {g : Nat} {w w1 w2 : World} {v v1 v2 : Value} (h : KpW g w v w1 v1) (k : KpW g w1 v1 w2 v2) : KpW g w v w2 v2 :=
  ⟨h.1.step k.1 fun j hj hG => by
    rcases hG with e | e
    · exact .inl e
    · rcases h.2 j e with e | e
      · exact .inr e
      · omega, h.2.trans k.2 h.1.size⟩
theorem own_kept_ne {w w1 : World} {B e s n g : Nat} {v : Value} {xs : List Value} (h : w.ownsRow B e s v n xs) (hg : w.grownBy w1 (some g)) (hn : v.ownBlock ≠ some g) : w1.ownsRow B e s v n xs := h.kept hg (.inr hn)
theorem wrap_byte (x m : Nat) : IntKind.u8.wrap ((x : Int) / 2 ^ ((8 * (m : Int)).toNat)) = ((UInt8.ofNat (x / 256 ^ m)).toNat : Int) := by
  have h1 : (8 * (m : Int)).toNat = 8 * m := by omega
  have h2 : ((2 : Int) ^ (8 * m)) = ((256 ^ m : Nat) : Int) := by
    rw [Int.natCast_pow, show ((256 : Nat) : Int) = 2 ^ 8 from rfl, ← Int.pow_mul]
  rw [h1, h2, show (x : Int) / ((256 ^ m : Nat) : Int) = ((x / 256 ^ m : Nat) : Int) from rfl, IntKind.wrap_u8, UInt8.toNat_ofNat']
  omega
def NumRel (g n x : Nat) (l : List UInt8) (w : World) (v i : Value) (wr : World) : Prop := ∃ (k : Nat) (u : Value), k ≤ n ∧ i = .int .i64 ((n : Int) - 1 - k) ∧ WrtAt wr g u ∧ OB wr (g + 1) u (l ++ (be n x).take k) ∧ KpW g w v wr u
set_option maxRecDepth 100000 in
set_option maxHeartbeats 4000000 in
theorem wnum_any (g : Nat) (v : Value) (l : List UInt8) (x n : Nat) (w : World) (hg : WrtAt w g v) (ho : OB w (g + 1) v l) (hl : l.length ≤ 1000) (hx : x < 4294967296) (hn : n ≤ 4) :
    Calls Try.prog 44 #[.pointer (some ⟨g, 0, none⟩), .int .u32 (x : Int), .int .i64 (n : Int)] w fun e w' => ∃ u, e = .returned (.tuple #[]) ∧ WrtAt w' g u ∧ OB w' (g + 1) u (l ++ be n x) ∧ KpW g w v w' u := by
  go_enter Try.func44, Try.ntmps44
  go_wp2_with fail
  go_loopw [6] (fun i wr => NumRel g n x l w v i wr) (fun i _ => (intOf i + 1).toNat)
  case atStart => exact ⟨0, v, Nat.zero_le _, by simp, hg, by simpa using ho, KpW.refl _ _ _⟩
  case round =>
    clear hg ho
    obtain ⟨k, u, hk, rfl, hg, ho, hK0⟩ := hrel
    by_cases hlt : k < n
    · obtain ⟨m, hm⟩ : ∃ m, n = m + k + 1 := ⟨n - k - 1, by omega⟩
      have em : ((n : Nat) : Int) - 1 - (k : Int) = (m : Int) := by omega
      have hm1 : m + k + 1 ≤ n := by omega
      have hm2 : n ≤ m + k + 1 := by omega
      have hgl := hg.lt
      have hns : u.ownBlock ≠ some g := fun e => by have := (ho.lt g e).1; omega
      have hb8 := wrap_byte x m
      have hbt := Lib.hid (be_take n x k (by omega))
      rw [show n - 1 - k = m by omega] at hbt
      clear hm
      have hc : wr.drew.cell? ⟨g, 0, none⟩ = some u := hg.drew.cell 0 _ rfl
      have hlen : (l ++ (be n x).take k).length ≤ 1004 := by rw [List.length_append, List.length_take]; omega
      generalize UInt8.ofNat (x / 256 ^ m) = c at *
      obtain ⟨l1, hl1⟩ : ∃ l1, l1 = l ++ (be n x).take k := ⟨_, rfl⟩
      rw [← hl1] at ho hlen
      have L1 := Lib.hid hl1.symm
      clear hl1
      rw [em]
      clear em
      have hgd := hg.drew
      have hdr := (Below.refl wr.heap.size wr).drew
      have hod : OB wr.drew (g + 1) u l1 := ho
      clear hc hg ho
      have y0 : (0 : Int) ≤ 8 * (m : Int) := by omega
      have y1 : 8 * (m : Int) ≤ 32 := by omega
      have y2 : IntKind.i64.wrap (8 * (m : Int)) = 8 * (m : Int) := IntWalk.i64_in _ (by omega)
      go_wp2_with fail
      refine Zig.wp_region_zig [(false, 0), (false, 1), (false, 2), (false, 3), (false, 4), (false, 5), (false, 6), (false, 7), (false, 8), (false, 9), (true, 10), (true, 11), (false, 12), (false, 13), (true, 14)] (fun W => WrtAt W g u) (by kernel_rfl) (by kernel_rfl) hgd ?_
      simp only [Zig.sel, List.drop_succ_cons, List.drop_zero]
      generalize World.drew wr = w1 at *
      haveI : Nonempty (Zig.Lt (fun W => WrtAt W g u)) := ⟨⟨w1, hgd⟩⟩
      have x0 := fun x : Zig.Lt (fun W => WrtAt W g u) => RowAt.cell x.2 0 u rfl
      repeat (refine Zig.zig_step (fun K hK => ?_); go_simp; refine hK _ ?_; clear hK K)
      refine Zig.zig_do rfl (fun K hK => ?_)
      unfold Oper.wp
      go_simp
      generalize hw2 : World.alloc w1 _ = w2
      have b2 : Below w1.heap.size w1 w2 := by rw [← hw2]; exact below_new _ _
      have r2 : Rd w2 (.slice (some ⟨w1.heap.size, 0, none⟩) 1 1) (bs [c]) := by rw [← hw2]; exact Rd.new w1 #[u8 c] 5 (0, 0) 1 rfl (by simp)
      have b2' : Below wr.heap.size wr w2 := (hdr.trans (b2.mono hdr.size))
      have hg2 := RowAt.later hgd b2
      have ho2 := hod.below b2
      clear hw2
      refine hK _ _ hg2 ?_
      clear hK K
      refine Zig.zig_do rfl (fun K hK => ?_)
      refine wp_appO (g + 1) _ _ l1 [c] (by simp; omega) ho2 r2 (by have := b2.size; have := hgd.lt; omega) rfl rfl rfl ?_
      intro u3 w3 o3 t3
      have hg3 : WrtAt w3 g u := t3.row hg2 hns
      refine hK _ _ hg3 ?_
      clear hK K
      repeat (refine Zig.zig_step (fun K hK => ?_); go_simp; refine hK _ ?_; clear hK K)
      obtain ⟨a3, k3, e3, _⟩ := id o3.rd
      generalize (bs (l1 ++ [c])).length = n3 at e3
      subst e3
      obtain ⟨hg4, g4, z4⟩ := hg3.set 0 (Value.slice a3 n3 k3)
      have c3 := hg3.cell 0 u rfl
      have f3 := hg3.frozen (i := 0)
      refine Zig.zig_end rfl (by kernel_rfl) (fun K hK => ?_)
      unfold Oper.wp
      go_simp
      refine hK _ _ ?_
      clear hK K
      refine Zig.zig_nil ?_
      generalize World.setCell w3 ⟨g, 0, none⟩ _ = w4 at *
      clear c3 f3 x0
      have ho4 : OB w4 (g + 1) _ (l1 ++ [c]) := own_kept_ne o3 g4 (fun e => by have := (o3.lt g e).1; omega)
      go_wp2_with fail
      go_roundw
      case rel =>
        refine ⟨k + 1, _, by omega, ?_, hg4, ?_, hK0.trans ⟨?_, ?_⟩⟩
        · refine int_val ?_
          omega
        · rw [hbt.out, ← List.append_assoc, L1.out]
          exact ho4
        · refine (((Frm.of_below _ b2').step t3.frm fun j hj h => .inr h).step (Frm.of_grown g4 fun k e => Option.some.inj e.symm) fun j hj h => .inl h)
        · exact fun j hj => by
            rcases t3.2 j hj with e | e
            · exact .inl e
            · have := b2'.size
              exact .inr (by omega)
      case measure => simp [intOf]
    · obtain rfl : k = n := by omega
      have em : (k : Int) - 1 - (k : Int) = -1 := by omega
      rw [em]
      rw [List.take_of_length_le (by rw [be_length]; exact Nat.le_refl _)] at ho
      go_wp2_with fail
      go_end0
      exact ⟨u, rfl, hg, ho, hK0⟩
end Go.Proofs.Ytgeiafijibgdhaa.Cl
