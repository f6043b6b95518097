/- block.four, block.Seal. -/
import Derived.Test.YtojebhpjllkdpaaBlock
import Derived.Test.YtojebhpjllkdpaaSum
set_option linter.unusedVariables false
set_option linter.unusedSimpArgs false
namespace Go.Proofs.Ytojebhpjllkdpaa.Cl
open Go Go.Proofs Go.RowKit Fl Rely

def body60 (k : Nat) (label : UInt8) (at_ : Nat) (b : List UInt8) : List UInt8 := [UInt8.ofNat k, label, UInt8.ofNat (at_ / 256), UInt8.ofNat at_] ++ b
def sealedB (x : List UInt8) : List UInt8 := x ++ be 4 (sumN x)
theorem sumN_u32 (x : List UInt8) : sumN x < 4294967296 := by
  have := sumSt_lt x
  unfold sumN
  omega
theorem oneCell_u8s (l : List UInt8) : ∀ u ∈ bs l, u.oneCell' = true := by
  intro u hu
  obtain ⟨b, _, rfl⟩ := List.mem_map.1 hu
  rfl
theorem rd_new (w : World) (l : List UInt8) (e : TypeId) (cs : Array Value) (hcs : cs = (bs l).toArray) (n : Nat) (hn : l.length = n) (hb : n ≤ 1000000) : Rd (w.alloc (.cells cs e)) (.slice (some ⟨w.heap.size, 0, none⟩) n n) (bs l) := by
  subst hcs hn
  refine ⟨some ⟨w.heap.size, 0, none⟩, l.length, by rw [bs_length], by rw [bs_length]; exact Nat.le_refl _, by omega, fun j hj => ⟨_, rfl, ?_⟩, fun h => by cases h⟩
  rw [Addr.add_mid, Nat.zero_add, cell_of_row _ _ j _ _ _ (heap_alloc_last w _)]
  simp
  rw [bs_length] at hj
  simp [hj]
theorem cells4 {a b c d : Int} {x y z t : UInt8} (h1 : a = (x.toNat : Int)) (h2 : b = (y.toNat : Int)) (h3 : c = (z.toNat : Int)) (h4 : d = (t.toNat : Int)) : (#[Value.int .u8 a, Value.int .u8 b, Value.int .u8 c, Value.int .u8 d] : Array Value) = (bs [x, y, z, t]).toArray := by
  subst h1 h2 h3 h4
  rfl
set_option maxRecDepth 100000 in
theorem four_any (n : Nat) (w : World) (hn : n < 4294967296) : Calls Try.prog 54 #[.int .u32 n] w fun e w' => ∃ u, e = .returned u ∧ Rd w' u (bs (be 4 n)) ∧ Below w.heap.size w w' := by
  go_enter Try.func54, Try.ntmps54
  go_wp2_with fail
  go_returns
  exact ⟨_, rfl, rd_new w (be 4 n) _ _ (by rw [be4 n hn]; exact cells4 (by rw [UInt8.toNat_ofNat']; omega) (by rw [UInt8.toNat_ofNat']; omega) (by rw [UInt8.toNat_ofNat']; omega) (by rw [UInt8.toNat_ofNat']; omega)) 4 (be_length _ _) (by omega), below_new _ _⟩

def Row4 (l : List UInt8) (v : Value) (W : World) : Prop := ∃ g, v = .slice (some ⟨g, 0, none⟩) 4 4 ∧ Rd W v (bs l)
theorem persist_row4 (l : List UInt8) : Persist (Row4 l) := fun v W W' ⟨g, h1, h2⟩ hb => ⟨g, h1, h2.below hb⟩
def Two (l : List UInt8) (x : Value) (v : Value) (W : World) : Prop := ∃ g v0, v = .slice (some ⟨g, 0, none⟩) 2 2 ∧ W.cell? ⟨g, 0, none⟩ = some v0 ∧ W.cell? ⟨g, 1, none⟩ = some x ∧ Rd W v0 (bs l)
theorem persist_two (l : List UInt8) (x : Value) : Persist (Two l x) := fun v W W' ⟨g, v0, h1, h2, h3, h4⟩ hb => ⟨g, v0, h1, cell_later hb h2, cell_later hb h3, h4.below hb⟩

def OB14 (wa : World) (l : List UInt8) (v : Value) (W : World) : Prop := OB W wa.heap.size v l
theorem persist_ob14 (wa : World) (l : List UInt8) : Persist (OB14 wa l) := fun v W W' h hb => h.below hb

set_option maxRecDepth 100000 in
set_option maxHeartbeats 4000000 in
theorem seal_any (label : UInt8) (kn an : Nat) (b : List UInt8) (w : World) (hk : kn ≤ 7) (ha : an < 200) (hb56 : b.length = 56) :
    Calls Try.prog 38 #[.int .u8 (label.toNat : Int), .int .i64 (an : Int), blkV (kn : Int) b] w fun e w' => ∃ u, e = .returned (.tuple #[u, .bool true]) ∧ OB w' w.heap.size u (sealedB (body60 kn label an b)) ∧ Below w.heap.size w w' := by
  go_enter Try.func38, Try.ntmps38
  go_wp2_with (refine wp_want rfl fun K hK => ?_; refine wp_blk_box rfl rfl hb56 ?_)
  intro w1 B1 b1 s1
  refine hK _ _ ?_
  clear hK K
  go_wp2_with fail
  refine wp_scope_straight ?_
  have k0 := B1.kind
  have hk7 : ¬ ((7 : Int) < (kn : Int)) := by omega
  have hk7' : ¬ (7 < kn) := by omega
  have ha2 : ¬ ((200 : Int) ≤ (an : Int)) := by omega
  have ha2' : ¬ (200 ≤ an) := by omega
  go_wp2_with fail
  have hdr := (Below.refl w1.heap.size w1).drew
  have B1d := B1.later hdr
  have yk := fun x : Lat w1.drew => cell_later x.2 B1d.kind
  have ys := fun w2 => slice_body_all (g := w.heap.size) w2
  have e1 : IntKind.u8.wrap (kn : Int) = (kn : Int) := by rw [IntKind.wrap_u8]; omega
  have e2 : IntKind.u8.wrap (an : Int) = (an : Int) := by rw [IntKind.wrap_u8]; omega
  refine wp_region_rely 14 (by kernel_rfl) (by kernel_rfl) ?_
  simp only [List.take_succ_cons, List.take_zero]
  generalize World.drew w1 = wa at *
  repeat (first
    | (refine wpR_step0 ?_ ?_ (fun K hK => ?_); rfl; rfl; go_simp; refine hK _ ?_; clear hK K))
  have e3 : IntKind.u8.wrap ((an : Int) / 256) = (an : Int) / 256 := by rw [IntKind.wrap_u8]; omega
  refine wpR_fresh (Row4 [UInt8.ofNat kn, label, UInt8.ofNat (an / 256), UInt8.ofNat an]) 34 rfl rfl rfl rfl (of_decide_eq_true rfl) (persist_row4 _) (fun x => ?_) ?_
  · go_simp
    exact ⟨below_new _ _, _, rfl, rd_new _ _ _ _ (cells4 (by rw [UInt8.toNat_ofNat']; omega) rfl (by rw [UInt8.toNat_ofNat']; omega) (by rw [UInt8.toNat_ofNat']; omega)) 4 rfl (by omega)⟩
  repeat (first
    | (refine wpR_step0 ?_ ?_ (fun K hK => ?_); rfl; rfl; go_simp; refine hK _ ?_; clear hK K))
  let R4 := [UInt8.ofNat kn, label, UInt8.ofNat (an / 256), UInt8.ofNat an]
  refine wpR_freshE (Two R4 (.slice (some ⟨w.heap.size, 1, none⟩) 56 56)) 37 [(34, Row4 R4)] rfl rfl rfl rfl (of_decide_eq_true rfl) (persist_two _ _) (fun x => ?_) ?_
  · simp only [close]
    rintro u34 ⟨g4, rfl, h4⟩
    go_simp
    have hc := heap_alloc_last x.val (.cells #[Value.slice (some ⟨g4, 0, none⟩) 4 4, Value.slice (some ⟨w.heap.size, 1, none⟩) 56 56] 22)
    exact ⟨below_new _ _, _, _, rfl, by rw [cell_of_row _ _ 0 _ _ _ hc]; rfl, by rw [cell_of_row _ _ 1 _ _ _ hc]; rfl, h4.below (below_new _ _)⟩
  refine wpR_freshE (OB14 wa (body60 kn label an b)) 38 [(37, Two R4 (.slice (some ⟨w.heap.size, 1, none⟩) 56 56))] rfl rfl rfl rfl (of_decide_eq_true rfl) (persist_ob14 _ _) (fun x => ?_) ?_
  · simp only [close]
    rintro u37 ⟨g5, v5, rfl, h5, h6, h7⟩
    go_simp
    refine (concat_any g5 v5 _ R4 b x.val h5 h6 h7 (B1d.later x.2).rdAll (by simp [R4]; omega) (by simp [R4]; omega)).mono ?_
    rintro e wq ⟨u, rfl, hO, hb⟩
    exact ⟨u, rfl, hb, hO.mono x.2.size⟩
  repeat (first
    | (refine wpR_step0 ?_ ?_ (fun K hK => ?_); rfl; rfl; go_simp; refine hK _ ?_; clear hK K))
  refine wpR_nil fun x => ?_
  obtain ⟨wz, wzb⟩ := x
  simp only [close, List.drop_succ_cons, List.drop_zero]
  intro u38 h38 u37 _ u34 _
  have h38' : OB wz w.heap.size u38 (body60 kn label an b) := OB.mono h38 (by have := hdr.size; omega)
  have bz : Below w.heap.size w wz := b1.trans ((hdr.mono (by omega)).trans (wzb.mono (by have := hdr.size; omega)))
  clear h38 wzb
  have hlen : (body60 kn label an b).length = 60 := by simp [body60, hb56]
  go_wp2_with fail
  refine (sum_any u38 (body60 kn label an b) wz h38'.rd).mono ?_
  rintro e wq ⟨rfl, rfl⟩
  go_wp2_with fail
  refine (four_any (sumN (body60 kn label an b)) wz (sumN_u32 _)).mono ?_
  rintro e wq ⟨u42, rfl, h42, b42⟩
  have b42' := bz.trans (b42.mono bz.size)
  have h38q := h38'.below b42
  clear h38' bz b42
  go_wp2_with (at_builtin; go_loud (refine wpList_app w.heap.size _ _ (body60 kn label an b) _ rfl _ _ rfl rfl rfl h38q h42 (by rw [hlen, be_length]; omega) b42'.size ?_))
  intro u3 w3 hO3 hb3 _
  have hb3 := b42'.trans hb3
  go_wp2_with fail
  simp only [Exit.noGoto]
  go_returns
  exact ⟨_, rfl, hO3, hb3⟩
end Go.Proofs.Ytojebhpjllkdpaa.Cl
