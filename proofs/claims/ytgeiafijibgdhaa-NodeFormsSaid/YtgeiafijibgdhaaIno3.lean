/- The walks of ino.Take and of the reference's TakeID. -/
import Derived.Test.YtgeiafijibgdhaaIno2
import Derived.Test.YtgeiafijibgdhaaBits
set_option linter.unusedVariables false
set_option linter.unusedSimpArgs false
namespace Go.Proofs.Ytgeiafijibgdhaa.Cl
open Go Go.Proofs Go.RowKit Fl Rely

/-- a new box of three noughts, of which nothing else is known -/
def New3 (B : Nat) (x y z : Value) (v : Value) (W : World) : Prop := ∃ g, v = .pointer (some ⟨g, 0, none⟩) ∧ B ≤ g ∧ g < W.heap.size ∧ Box3 W g x y z ∧ W.frozen? ⟨g, 0, none⟩ = false ∧ W.frozen? ⟨g, 1, none⟩ = false ∧ W.frozen? ⟨g, 2, none⟩ = false
theorem persist_new3 (B : Nat) (x y z : Value) : Persist (New3 B x y z) := by
  rintro v W W' ⟨g, h1, h2, h3, h4, h5, h6, h7⟩ hb
  exact ⟨g, h1, h2, Nat.lt_of_lt_of_le h3 hb.size, h4.below hb, (hb.frozen h3).trans h5, (hb.frozen h3).trans h6, (hb.frozen h3).trans h7⟩

def Free3 (w : World) (g : Nat) : Prop := w.frozen? ⟨g, 0, none⟩ = false ∧ w.frozen? ⟨g, 1, none⟩ = false ∧ w.frozen? ⟨g, 2, none⟩ = false
theorem Free3.new (w : World) (x y z : Value) (e : TypeId) : Free3 (w.alloc (.cells #[x, y, z] e)).drew w.heap.size := ⟨by simp, by simp, by simp⟩
theorem Free3.below {B : Nat} {w w1 : World} {g : Nat} (h : Free3 w g) (hb : Below B w w1) (hg : g < B) : Free3 w1 g := ⟨(hb.frozen hg).trans h.1, (hb.frozen hg).trans h.2.1, (hb.frozen hg).trans h.2.2⟩
theorem take_7 (l : List UInt8) (h : l.length = 7) : ∃ b0 b1 b2 b3 b4 b5 b6, l = [b0, b1, b2, b3, b4, b5, b6] := by
  match l, h with
  | [b0, b1, b2, b3, b4, b5, b6], _ => exact ⟨_, _, _, _, _, _, _, rfl⟩

/-- who bytes say -/
def idA (b0 : UInt8) : Int := if b0 = 255 then -1 else (b0.toNat : Int)
def idB (b1 b2 : UInt8) : Int := ((b1.toNat * 256 + b2.toNat : Nat) : Int)
def idC (b3 b4 b5 b6 : UInt8) : Int := ((b3.toNat * 16777216 + b4.toNat * 65536 + b5.toNat * 256 + b6.toNat : Nat) : Int)
def takeID : List UInt8 → Int × Int × Int × Bool
  | [b0, b1, b2, b3, b4, b5, b6] => if putID (idA b0) (idB b1 b2) (idC b3 b4 b5 b6) = [b0, b1, b2, b3, b4, b5, b6] then (idA b0, idB b1 b2, idC b3 b4 b5 b6, true) else (0, 0, 0, false)
  | _ => (0, 0, 0, false)
def takeV (l : List UInt8) : Value := .tuple #[idv (takeID l).1 (takeID l).2.1 (takeID l).2.2.1, .bool (takeID l).2.2.2]

set_option maxRecDepth 100000 in
set_option maxHeartbeats 4000000 in
theorem take7_any (v : Value) (b0 b1 b2 b3 b4 b5 b6 : UInt8) (w : World) (hv : Rd w v (bs [b0, b1, b2, b3, b4, b5, b6])) :
    Calls Try.prog 58 #[v] w fun e w' => e = .returned (takeV [b0, b1, b2, b3, b4, b5, b6]) ∧ Below w.heap.size w w' := by
  obtain ⟨ad, cap, rfl, hc1, hc2⟩ := hv.some_ (by simp)
  have hlB : idB b1 b2 < 65536 := by have := b1.toNat_lt; have := b2.toNat_lt; unfold idB; omega
  have hlC : idC b3 b4 b5 b6 < 4294967296 := by have := b3.toNat_lt; have := b4.toNat_lt; have := b5.toNat_lt; have := b6.toNat_lt; unfold idC; omega
  have hB0 : 0 ≤ idB b1 b2 := by unfold idB; omega
  have hA0 : -1 ≤ idA b0 ∧ idA b0 ≤ 255 := by unfold idA; have := b0.toNat_lt; split <;> omega
  have hcase : (((b0.toNat : Int) == 255) = true ∧ idA b0 = -1) ∨ (((b0.toNat : Int) == 255) = false ∧ idA b0 = (b0.toNat : Int)) := by
    unfold idA
    by_cases h : b0 = 255
    · left; rw [if_pos h, h]; exact ⟨rfl, rfl⟩
    · right; rw [if_neg h]
      exact ⟨beq_eq_false_iff_ne.2 (fun h' => h (UInt8.toNat_inj.1 (by simpa using (Int.ofNat.inj h' : b0.toNat = 255)))), rfl⟩
  have e0 : IntKind.i64.wrap (b0.toNat : Int) = (b0.toNat : Int) := IntWalk.i64_in _ (by have := b0.toNat_lt; omega)
  have e1 : bits .or .i64 (IntKind.i64.wrap (IntKind.i64.wrap (b1.toNat : Int) * 256)) (IntKind.i64.wrap (b2.toNat : Int)) = idB b1 b2 := i64_two b1 b2
  have e2 : bits .or .u32 (bits .or .u32 (bits .or .u32 (IntKind.u32.wrap (IntKind.u32.wrap (b3.toNat : Int) * 16777216)) (IntKind.u32.wrap (IntKind.u32.wrap (b4.toNat : Int) * 65536))) (IntKind.u32.wrap (IntKind.u32.wrap (b5.toNat : Int) * 256))) (IntKind.u32.wrap (b6.toNat : Int)) = idC b3 b4 b5 b6 := u32_four b3 b4 b5 b6
  have htk : takeID [b0, b1, b2, b3, b4, b5, b6] = if putID (idA b0) (idB b1 b2) (idC b3 b4 b5 b6) = [b0, b1, b2, b3, b4, b5, b6] then (idA b0, idB b1 b2, idC b3 b4 b5 b6, true) else (0, 0, 0, false) := rfl
  generalize hidB : idB b1 b2 = B at *
  generalize hidC : idC b3 b4 b5 b6 = C at *
  clear hidB hidC
  have hb : Below w.heap.size w (w.alloc (.cells #[.int .i64 0, .int .i64 0, .int .u32 0] 41)).drew := (below_new _ _).drew
  have hx0 := fun x : Lat (w.alloc (.cells #[.int .i64 0, .int .i64 0, .int .u32 0] 41)).drew => ((hv.below hb).below x.2).cell0 (by simp)
  have hx1 := fun x : Lat (w.alloc (.cells #[.int .i64 0, .int .i64 0, .int .u32 0] 41)).drew => ((hv.below hb).below x.2).cellS 0 (by simp)
  have hx2 := fun x : Lat (w.alloc (.cells #[.int .i64 0, .int .i64 0, .int .u32 0] 41)).drew => ((hv.below hb).below x.2).cellS 1 (by simp)
  have hx3 := fun x : Lat (w.alloc (.cells #[.int .i64 0, .int .i64 0, .int .u32 0] 41)).drew => ((hv.below hb).below x.2).cellS 2 (by simp)
  have hx4 := fun x : Lat (w.alloc (.cells #[.int .i64 0, .int .i64 0, .int .u32 0] 41)).drew => ((hv.below hb).below x.2).cellS 3 (by simp)
  have hx5 := fun x : Lat (w.alloc (.cells #[.int .i64 0, .int .i64 0, .int .u32 0] 41)).drew => ((hv.below hb).below x.2).cellS 4 (by simp)
  have hx6 := fun x : Lat (w.alloc (.cells #[.int .i64 0, .int .i64 0, .int .u32 0] 41)).drew => ((hv.below hb).below x.2).cellS 5 (by simp)
  simp only [List.map_cons, List.getElem_cons_zero, List.getElem_cons_succ] at hx0 hx1 hx2 hx3 hx4 hx5 hx6
  have hsz0 : w.heap.size < (w.alloc (.cells #[.int .i64 0, .int .i64 0, .int .u32 0] 41)).drew.heap.size := by simp
  have hr0 : Box3 (w.alloc (.cells #[.int .i64 0, .int .i64 0, .int .u32 0] 41)).drew w.heap.size (.int .i64 0) (.int .i64 0) (.int .u32 0) := Box3.new w (.int .i64 0) (.int .i64 0) (.int .u32 0) 41
  have hrf : Free3 (w.alloc (.cells #[.int .i64 0, .int .i64 0, .int .u32 0] 41)).drew w.heap.size := Free3.new _ _ _ _ _
  rcases hcase with ⟨e3, hA⟩ | ⟨e3, hA⟩
  all_goals
    generalize idA b0 = A at *
    have HA := Lib.hid hA
    clear hA
    go_enter Try.func58, Try.ntmps58
    go_wp2_with fail
    refine wp_region_rely 38 (by kernel_rfl) (by kernel_rfl) ?_
    simp only [List.take_succ_cons, List.take_zero]
    generalize World.drew (w.alloc _) = w1 at *
    repeat (first
      | (refine wpR_step0 ?_ ?_ (fun K hK => ?_); rfl; rfl; go_simp; refine hK _ ?_; clear hK K))
    refine wpR_fresh (New3 w1.heap.size (.int .i64 0) (.int .i64 0) (.int .u32 0)) 4 rfl rfl rfl rfl (of_decide_eq_true rfl) (persist_new3 _ _ _ _) (fun x => ?_) ?_
    · go_simp
      exact ⟨below_new _ _, _, rfl, x.2.size, by simp, Box3.new _ _ _ _ _, by simp, by simp, by simp⟩
    refine wpR_nil fun x => ?_
    obtain ⟨w2, w2b⟩ := x
    simp only [close, List.drop_succ_cons, List.drop_zero]
    rintro u ⟨g, rfl, hg1, hg2, ⟨hg3, hg4, hg5⟩, hg6, hg7, hg8⟩
    simp only [Act.put, List.setIfInBounds_toArray, List.set_cons_zero, List.set_cons_succ]
    have hgw : w.heap.size ≤ g := Nat.le_trans (Nat.le_of_lt hsz0) hg1
    have hb2 := hb.trans (w2b.mono (Nat.le_of_lt hsz0))
    have hy0 := (hv.below (((hb2.setCell hgw (p := ⟨g, 0, none⟩) (.int .i64 (b0.toNat : Int))).setCell hgw (p := ⟨g, 1, none⟩) (.int .i64 B)).setCell hgw (p := ⟨g, 2, none⟩) (.int .u32 C))).cell0 (by simp)
    simp only [List.map_cons, List.getElem_cons_zero] at hy0
    clear e0 e1 e2 hx0 hx1 hx2 hx3 hx4 hx5 hx6
    go_wp2_with fail
    refine at_world fun W3 hW3 => ?_
    have hb3 : Below w.heap.size w W3 := by rw [hW3]; repeat (first | exact hb2 | refine Below.setCell ?_ hgw _)
    have hb13 : Below w1.heap.size w1 W3 := by rw [hW3]; repeat (first | exact w2b | refine Below.setCell ?_ hg1 _)
    have hs3 : g < W3.heap.size := by rw [hW3]; simpa using hg2
    have hc3 : Box3 W3 g (.int .i64 A) (.int .i64 B) (.int .u32 C) := by rw [hW3, HA.out]; exact ⟨by go_simp, by go_simp, by go_simp⟩
    clear hW3 hg3 hg4 hg5 hg6 hg7 hg8 hy0
    obtain rfl := HA.out
    clear HA
    have hr3 := hr0.in_ hb13 hsz0
    have hf3 := hrf.below hb13 hsz0
    refine (put_any _ B C _ ⟨by omega, by omega⟩ ⟨by omega, by omega⟩ hlC).mono ?_
    rintro e w4 ⟨u, rfl, hu1, hu2, hu3, hb4⟩
    have hc4 := hc3.below hb4
    have hr4 := hr3.below hb4
    have hf4 := hf3.below hb4 (Nat.lt_of_lt_of_le hsz0 hb13.size)
    have hb04 : Below w.heap.size w w4 := hb3.trans (hb4.mono hb3.size)
    have hs4 : w.heap.size < w4.heap.size := Nat.lt_of_lt_of_le (Nat.lt_of_lt_of_le hsz0 hb13.size) hb4.size
    clear hc3 hr3 hf3 hr0 hrf hb13 hb2 hsz0 hb3 hb4 hb
    obtain ⟨hc40, hc41, hc42⟩ := hc4
    obtain ⟨hr40, hr41, hr42⟩ := hr4
    obtain ⟨hf40, hf41, hf42⟩ := hf4
    generalize hmy : mayID _ B C = my at hu2 hu3
    cases my
    · obtain rfl := hu2 rfl
      have hn := fun w => Lib.run_eql_slice_nil (P := Try.prog) w 37 5 none 0 0 0 0 Try.underlying37
      rw [put_nil _ _ _ hmy, if_neg (by simp)] at htk
      clear hu1 hu2 hu3 hmy
      go_wp2_with fail
      refine bodyPost_ret (v := .tuple #[idv 0 0 0, .bool false]) (by simp [results, Try.results58, go_sem, hr40, hr41, hr42]) rfl ⟨?_, by go_grown⟩
      unfold takeV
      rw [htk]
    · obtain ⟨g', rfl⟩ := hu3 rfl
      have hn := fun w => Lib.run_eql_slice_nil (P := Try.prog) w 37 5 (some ⟨g', 0, none⟩) 7 7 0 0 Try.underlying37
      clear hu2 hu3 hmy
      generalize putID _ B C = pl at *
      by_cases hp : pl = [b0, b1, b2, b3, b4, b5, b6]
      · rw [if_pos hp] at htk
        have hE := fun w h1 h2 => equal_any (.slice (some ⟨g', 0, none⟩) 7 7) (.slice (some ad) 7 cap) pl [b0, b1, b2, b3, b4, b5, b6] w h1 h2
        rw [show decide (pl = [b0, b1, b2, b3, b4, b5, b6]) = true by simpa using hp] at hE
        clear hp
        go_wp2_with fail
        refine (hE _ (OB.rd hu1) (hv.below hb04)).mono ?_
        rintro e w5 ⟨rfl, rfl⟩
        go_wp2_with fail
        refine bodyPost_ret (v := .tuple #[idv _ B C, .bool true]) (by simp [results, Try.results58, go_sem, hr40, hr41, hr42]; rfl) rfl ⟨?_, by go_grown⟩
        unfold takeV
        rw [htk]
      · rw [if_neg hp] at htk
        have hE := fun w h1 h2 => equal_any (.slice (some ⟨g', 0, none⟩) 7 7) (.slice (some ad) 7 cap) pl [b0, b1, b2, b3, b4, b5, b6] w h1 h2
        rw [show decide (pl = [b0, b1, b2, b3, b4, b5, b6]) = false by simpa using hp] at hE
        clear hp
        go_wp2_with fail
        refine (hE _ (OB.rd hu1) (hv.below hb04)).mono ?_
        rintro e w5 ⟨rfl, rfl⟩
        go_wp2_with fail
        refine bodyPost_ret (v := .tuple #[idv 0 0 0, .bool false]) (by simp [results, Try.results58, go_sem, hr40, hr41, hr42]) rfl ⟨?_, by go_grown⟩
        unfold takeV
        rw [htk]
end Go.Proofs.Ytgeiafijibgdhaa.Cl
