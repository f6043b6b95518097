/- dev: two devices that lie apart; what is read is what was written in order. -/
import Derived.Test.YtbagicjimfhmeaaDevI
set_option linter.unusedVariables false
set_option linter.unusedSimpArgs false
namespace Go.Proofs.Ytbagicjimfhmeaa.Cl
open Go Go.Proofs Go.RowKit Fl

structure Two (B : Nat) (w : World) (g1 n1 : Nat) (D1 : Dv) (g2 n2 : Nat) (D2 : Dv) : Prop where
  ok1 : DOk n1 D1
  ok2 : DOk n2 D2
  two : ∃ F1 F2 : Nat → Prop, DevRep w g1 F1 D1 ∧ DevRep w g2 F2 D2 ∧ (∀ k, F1 k → B ≤ k ∧ k < w.heap.size) ∧ (∀ k, F2 k → B ≤ k ∧ k < w.heap.size) ∧ ∀ k, F1 k → ¬ F2 k
section
variable {B : Nat} {w w' : World} {g1 n1 : Nat} {D1 D1' : Dv} {g2 n2 : Nat} {D2 : Dv}
theorem Two.swap (h : Two B w g1 n1 D1 g2 n2 D2) : Two B w g2 n2 D2 g1 n1 D1 := by
  obtain ⟨o1, o2, F1, F2, a, b, c, d, e⟩ := h
  exact ⟨o2, o1, F2, F1, b, a, d, c, fun k hk hk' => e k hk' hk⟩
theorem Two.fst (h : Two B w g1 n1 D1 g2 n2 D2) : DAt B w g1 n1 D1 := by
  obtain ⟨o1, o2, F1, F2, a, b, c, d, e⟩ := h
  exact ⟨o1, F1, a, fun k hk => (c k hk).1⟩
theorem Two.snd (h : Two B w g1 n1 D1 g2 n2 D2) : DAt B w g2 n2 D2 := h.swap.fst
theorem Two.below (h : Two B w g1 n1 D1 g2 n2 D2) (hb : Below w.heap.size w w') : Two B w' g1 n1 D1 g2 n2 D2 := by
  obtain ⟨o1, o2, F1, F2, a, b, c, d, e⟩ := h
  exact ⟨o1, o2, F1, F2, a.below hb, b.below hb, fun k hk => ⟨(c k hk).1, Nat.lt_of_lt_of_le (c k hk).2 hb.size⟩, fun k hk => ⟨(d k hk).1, Nat.lt_of_lt_of_le (d k hk).2 hb.size⟩, e⟩
theorem Two.mono {m1 m2 : Nat} (h : Two B w g1 n1 D1 g2 n2 D2) (h1 : n1 ≤ m1) (h2 : n2 ≤ m2) : Two B w g1 m1 D1 g2 m2 D2 := ⟨h.ok1.mono h1, h.ok2.mono h2, h.two⟩
theorem Two.mk' (h : DAt B w g1 n1 D1) (hb : Below w.heap.size w w') (k : DAt w.heap.size w' g2 n2 D2) (hB : B ≤ w.heap.size) : Two B w' g1 n1 D1 g2 n2 D2 := by
  obtain ⟨o1, F1, a, c⟩ := h
  obtain ⟨o2, F2, b, d⟩ := k
  refine ⟨o1, o2, fun j => F1 j ∧ j < w.heap.size, fun j => F2 j ∧ j < w'.heap.size, (a.mono fun j hj hF => ⟨hF, hj⟩).below hb, b.mono fun j hj hF => ⟨hF, hj⟩, fun j hj => ⟨c j hj.1, Nat.lt_of_lt_of_le hj.2 hb.size⟩, fun j hj => ⟨Nat.le_trans hB (d j hj.1), hj.2⟩, fun j hj hk => ?_⟩
  have := d j hk.1
  have := hj.2
  omega
end
theorem tWrite {B : Nat} {w : World} {g1 n1 : Nat} {D1 : Dv} {g2 n2 : Nat} {D2 : Dv} (h : Two B w g1 n1 D1 g2 n2 D2) (hB : B ≤ w.heap.size) (hn : n1 ≤ 100000) (r i : Int) (v : Value) (b : List UInt8) (hv : LB B w v b) :
    Calls Try.prog 16 #[ptr g1, .int .i64 r, .int .i64 i, v] w fun e w' => e = .returned (.bool (inB D1 r i && decide (b.length = 64))) ∧ Two B w' g1 (n1 + 1) (writeZ D1 r i b) g2 n2 D2 ∧ Ch B w w' := by
  obtain ⟨o1, o2, F1, F2, a, b', c, d, e⟩ := id h
  refine (writeZ_any a o1 hn r i v b (hv.lasts (fun k hk => (c k hk).1) hB)).mono ?_
  rintro e' w' ⟨rfl, F', k1, k2⟩
  have h' : Two B w g1 n1 D1 g2 n2 D2 := h
  refine ⟨rfl, ⟨o1.writeZ r i b, o2, fun j => F' j ∧ j < w'.heap.size, F2, k1.mono fun j hj hF => ⟨hF, hj⟩, b'.frm k2.1 k2.2.1 (fun j _ hj hF => e j hF hj), fun j hj => ⟨(step_ch k2 (fun j hj => (c j hj).1) hB).2 j hj.1, hj.2⟩, fun j hj => ⟨(d j hj).1, Nat.lt_of_lt_of_le (d j hj).2 k2.size⟩, fun j hj hk => ?_⟩, (step_ch k2 (fun j hj => (c j hj).1) hB).1⟩
  rcases k2.2.2 j hj.1 with hf | hf
  · exact e j hf hk
  · have := (d j hk).2
    omega
theorem tBarrier {B : Nat} {w : World} {g1 n1 : Nat} {D1 : Dv} {g2 n2 : Nat} {D2 : Dv} (h : Two B w g1 n1 D1 g2 n2 D2) (hB : B ≤ w.heap.size) (hn : n1 ≤ 100000) (r : Int) :
    Calls Try.prog 15 #[ptr g1, .int .i64 r] w fun e w' => e = .returned (.bool (inB D1 r 0)) ∧ Two B w' g1 (n1 + 1) (barrierZ D1 r) g2 n2 D2 ∧ Ch B w w' := by
  obtain ⟨o1, o2, F1, F2, a, b', c, d, e⟩ := id h
  refine (barrierZ_any a o1 hn r).mono ?_
  rintro e' w' ⟨rfl, F', k1, k2⟩
  refine ⟨rfl, ⟨o1.barrierZ r, o2, fun j => F' j ∧ j < w'.heap.size, F2, k1.mono fun j hj hF => ⟨hF, hj⟩, b'.frm k2.1 k2.2.1 (fun j _ hj hF => e j hF hj), fun j hj => ⟨(step_ch k2 (fun j hj => (c j hj).1) hB).2 j hj.1, hj.2⟩, fun j hj => ⟨(d j hj).1, Nat.lt_of_lt_of_le (d j hj).2 k2.size⟩, fun j hj hk => ?_⟩, (step_ch k2 (fun j hj => (c j hj).1) hB).1⟩
  rcases k2.2.2 j hj.1 with hf | hf
  · exact e j hf hk
  · have := (d j hk).2
    omega
theorem tCrash {B : Nat} {w : World} {g1 n1 : Nat} {D1 : Dv} {g2 n2 : Nat} {D2 : Dv} (h : Two B w g1 n1 D1 g2 n2 D2) (hB : B ≤ w.heap.size) (hn : n1 ≤ 100000) (keep : List (List UInt8)) (v : Value) (hv : LBL B w v keep) :
    Calls Try.prog 17 #[ptr g1, v] w fun e w' => e = .returned (.tuple #[]) ∧ Two B w' g1 n1 (crashD D1 keep) g2 n2 D2 ∧ Ch B w w' := by
  obtain ⟨o1, o2, F1, F2, a, b', c, d, e⟩ := id h
  refine (crashZ_any a o1 hn keep v (hv.lasts (fun k hk => (c k hk).1) hB)).mono ?_
  rintro e' w' ⟨rfl, F', k1, k2⟩
  refine ⟨rfl, ⟨o1.crash keep, o2, fun j => F' j ∧ j < w'.heap.size, F2, k1.mono fun j hj hF => ⟨hF, hj⟩, b'.frm k2.1 k2.2.1 (fun j _ hj hF => e j hF hj), fun j hj => ⟨(step_ch k2 (fun j hj => (c j hj).1) hB).2 j hj.1, hj.2⟩, fun j hj => ⟨(d j hj).1, Nat.lt_of_lt_of_le (d j hj).2 k2.size⟩, fun j hj hk => ?_⟩, (step_ch k2 (fun j hj => (c j hj).1) hB).1⟩
  rcases k2.2.2 j hj.1 with hf | hf
  · exact e j hf hk
  · have := (d j hk).2
    omega
/-! ### in order -/
def setAll (S : List (List UInt8)) (L : List (Nat × List UInt8)) : List (List UInt8) := L.foldl (fun s x => s.set x.1 x.2) S
def Seq (D : Dv) : Prop := ∀ R ∈ D.1, R.seen = setAll R.sure R.later
theorem Seq.writeZ {D : Dv} (h : Seq D) (r i : Int) (b : List UInt8) : Seq (Cl.writeZ D r i b) := by
  unfold Cl.writeZ
  split
  · unfold writeD
    split
    · exact h
    · rename_i R hR
      split
      · exact h
      · intro Q hQ
        rcases mem_set_elim hQ with rfl | hQ
        · simp only [writeR, setAll, List.foldl_append, List.foldl_cons, List.foldl_nil]
          rw [h R (List.mem_of_getElem? hR)]
          rfl
        · exact h Q hQ
  · exact h
theorem Seq.barrierZ {D : Dv} (h : Seq D) (r : Int) : Seq (Cl.barrierZ D r) := by
  unfold Cl.barrierZ
  split
  · unfold barrierD
    split
    · exact h
    · split
      · exact h
      · intro Q hQ
        rcases mem_set_elim hQ with rfl | hQ
        · rfl
        · exact h Q hQ
  · exact h
theorem Seq.new (l : List Nat) : Seq (newD l) := by
  intro R hR
  simp only [newD, List.mem_map] at hR
  obtain ⟨n, _, rfl⟩ := hR
  rfl
/-- where all survives -/
theorem crashS_full (bits : List UInt8) (S : List (List UInt8)) (L : List (Nat × List UInt8)) (h : ∀ j, j < L.length → bitAt bits j = true) : crashS bits S L = setAll S L := by
  have : ∀ (k : Nat), k ≤ L.length → crashS bits S (L.take k) = setAll S (L.take k) := by
    intro k
    induction k with
    | zero => intro _; simp [crashS, setAll]
    | succ k ih =>
      intro hk
      rw [take_snoc L k (by omega), crashS_snoc]
      have hl : (L.take k).length = k := by rw [List.length_take]; omega
      rw [hl, h k (by omega), if_pos rfl, ih (by omega)]
      unfold setAll
      rw [List.foldl_append]
      rfl
  have := this L.length (Nat.le_refl _)
  rwa [List.take_of_length_le (Nat.le_refl _)] at this
theorem crashS_nil (bits : List UInt8) (S : List (List UInt8)) : crashS bits S [] = S := rfl
end Go.Proofs.Ytbagicjimfhmeaa.Cl
