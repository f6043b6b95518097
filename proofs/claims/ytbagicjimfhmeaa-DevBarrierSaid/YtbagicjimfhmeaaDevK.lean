/- dev: what crashes leave, by regions. -/
import Derived.Test.YtbagicjimfhmeaaDevJ
import Derived.Laws.BitsLemmas
set_option linter.unusedVariables false
set_option linter.unusedSimpArgs false
namespace Go.Proofs.Ytbagicjimfhmeaa.Cl
open Go Go.Proofs Go.RowKit Fl

theorem i64_and1 (n : Int) : bits .and .i64 n 1 = n % 2 := by
  have h127 : (BitVec.ofInt 64 1).toNat = 2 ^ 1 - 1 := by decide
  have key : (BitVec.ofInt 64 n &&& BitVec.ofInt 64 1).toNat = (n % ((2 ^ 64 : Nat) : Int)).toNat % 2 ^ 1 := by
    rw [BitVec.toNat_and, BitVec.toNat_ofInt, h127, Nat.and_two_pow_sub_one_eq_mod]
  show IntKind.i64.wrap ((BitVec.ofInt 64 n &&& BitVec.ofInt 64 1).toNat : Nat) = n % 2
  rw [key, IntKind.wrap_i64]
  omega
theorem i64_and3 (n : Int) : bits .and .i64 n 3 = n % 4 := by
  have h127 : (BitVec.ofInt 64 3).toNat = 2 ^ 2 - 1 := by decide
  have key : (BitVec.ofInt 64 n &&& BitVec.ofInt 64 3).toNat = (n % ((2 ^ 64 : Nat) : Int)).toNat % 2 ^ 2 := by
    rw [BitVec.toNat_and, BitVec.toNat_ofInt, h127, Nat.and_two_pow_sub_one_eq_mod]
  show IntKind.i64.wrap ((BitVec.ofInt 64 n &&& BitVec.ofInt 64 3).toNat : Nat) = n % 4
  rw [key, IntKind.wrap_i64]
  omega
def lens (D : Dv) : List Nat := D.1.map fun R => R.seen.length
def seens (D : Dv) : List (List (List UInt8)) := D.1.map fun R => R.seen
theorem map_set_same {α β : Type} (f : α → β) (l : List α) (i : Nat) (a : α) (h : ∀ x, l[i]? = some x → f a = f x) : (l.set i a).map f = l.map f := by
  rw [List.map_set]
  apply List.ext_getElem?
  intro j
  rw [List.getElem?_set]
  split
  · rename_i e
    subst e
    split
    · rename_i hj
      rw [List.length_map] at hj
      rw [h _ (List.getElem?_eq_getElem hj), List.getElem?_map, List.getElem?_eq_getElem hj]
      rfl
    · rename_i hj
      rw [List.getElem?_eq_none (by omega)]
  · rfl
theorem lens_writeZ (D : Dv) (r i : Int) (b : List UInt8) : lens (writeZ D r i b) = lens D := by
  unfold writeZ
  split
  · unfold writeD
    split
    · rfl
    · rename_i R hR
      split
      · rfl
      · refine map_set_same _ _ _ _ fun x hx => ?_
        rw [hR] at hx
        obtain rfl := Option.some.inj hx
        simp [writeR]
  · rfl
theorem lens_barrierZ (D : Dv) (r : Int) : lens (barrierZ D r) = lens D ∧ seens (barrierZ D r) = seens D := by
  unfold barrierZ
  split
  · unfold barrierD
    split
    · exact ⟨rfl, rfl⟩
    · rename_i R hR
      split
      · exact ⟨rfl, rfl⟩
      · refine ⟨map_set_same _ _ _ _ fun x hx => ?_, map_set_same _ _ _ _ fun x hx => ?_⟩ <;> rw [hR] at hx <;> obtain rfl := Option.some.inj hx <;> rfl
  · exact ⟨rfl, rfl⟩
theorem left_writeZ {D : Dv} (h : D.2 = -1) (r i : Int) (b : List UInt8) : (writeZ D r i b).2 = -1 := by
  unfold writeZ
  split
  · unfold writeD
    split
    · exact h
    · split
      · exact h
      · simp [h]
  · exact h
theorem left_barrierZ {D : Dv} (h : D.2 = -1) (r : Int) : (barrierZ D r).2 = -1 := by
  unfold barrierZ
  split
  · unfold barrierD
    split
    · exact h
    · split
      · exact h
      · exact h
  · exact h
theorem inB_lens {D : Dv} {m : List Nat} (h : lens D = m) (r i : Nat) : inB D r i = match m[r]? with | some n => decide (i < n) | none => false := by
  subst h
  unfold inB lens
  rw [Int.toNat_natCast, List.getElem?_map]
  cases D.1[r]? <;> simp
theorem readZ_seens {D D' : Dv} (h : seens D = seens D') (r i : Int) : readZ D r i = readZ D' r i := by
  have e : ∀ D : Dv, readZ D r i = match (seens D)[r.toNat]? with | some s => s.getD i.toNat [] | none => [] := by
    intro D
    unfold readZ seens
    rw [List.getElem?_map]
    cases D.1[r.toNat]? <;> rfl
  rw [e, e, h]
theorem lens_seens {D D' : Dv} (h : seens D = seens D') : lens D = lens D' := by
  have e : ∀ D : Dv, lens D = (seens D).map List.length := fun D => by simp [lens, seens]
  rw [e, e, h]
theorem readZ_len {n : Nat} {D : Dv} (ok : DOk n D) (r i : Int) (h : inB D r i = true) : (readZ D r i).length = 64 := by
  obtain ⟨x, y, hx, rfl, rfl, hy⟩ := inB_nat h
  unfold readZ
  rw [Int.toNat_natCast, Int.toNat_natCast, List.getElem?_eq_getElem hx]
  simp only
  rw [List.getD_eq_getElem?_getD, List.getElem?_eq_getElem hy]
  exact (ok.rg _ (List.getElem_mem hx)).s64 _ (List.getElem_mem hy)
theorem two_of_lens {D : Dv} (h : lens D = [4, 4]) : ∃ R0 R1, D.1 = [R0, R1] ∧ R0.seen.length = 4 ∧ R1.seen.length = 4 := by
  unfold lens at h
  match hD : D.1 with
  | [] => rw [hD] at h; simp at h
  | [a] => rw [hD] at h; simp at h
  | [a, b] => rw [hD] at h; simp at h; exact ⟨a, b, rfl, h.1, h.2⟩
  | a :: b :: c :: l => rw [hD] at h; simp at h
def FF6 : List UInt8 := [255, 255, 255, 255, 255, 255]
theorem ff6 (j : Nat) (h : j < 48) : bitAt FF6 j = true := by
  have : ∀ j : Fin 48, bitAt FF6 j.val = true := by decide +kernel
  exact this ⟨j, h⟩
/-- behind its barriers nothing is lost -/
theorem seens_crash_sure {D : Dv} (keep : List (List UInt8)) (h : ∀ R ∈ D.1, R.later = [] ∧ R.sure = R.seen) : seens (crashD D keep) = seens D := by
  unfold seens crashD crashTo
  simp only
  apply List.ext_getElem?
  intro i
  rw [List.getElem?_map, List.getElem?_mapIdx, List.getElem?_map]
  cases hi : D.1[i]? with
  | none => rfl
  | some R =>
    have hlt := (List.getElem?_eq_some_iff.1 hi).1
    obtain ⟨h1, h2⟩ := h R (List.mem_of_getElem? hi)
    simp only [Option.map_some, if_pos hlt, crashR, h1, h2, crashS_nil]
/-- where all survives nothing is lost -/
theorem seens_crash_all {D : Dv} (keep : List (List UInt8)) (hs : Seq D) (h : ∀ i R, D.1[i]? = some R → ∀ j, j < R.later.length → bitAt (keep.getD i []) j = true) : seens (crashD D keep) = seens D := by
  unfold seens crashD crashTo
  simp only
  apply List.ext_getElem?
  intro i
  rw [List.getElem?_map, List.getElem?_mapIdx, List.getElem?_map]
  cases hi : D.1[i]? with
  | none => rfl
  | some R =>
    have hlt := (List.getElem?_eq_some_iff.1 hi).1
    simp only [Option.map_some, if_pos hlt, crashR]
    rw [crashS_full _ _ _ (h i R hi), ← hs R (List.mem_of_getElem? hi)]
/-- two barriers and all is sure -/
theorem sure_two {D : Dv} (h : lens D = [4, 4]) (hl : D.2 = -1) : ∀ R ∈ (barrierZ (barrierZ D 0) 1).1, R.later = [] ∧ R.sure = R.seen := by
  obtain ⟨R0, R1, e, l0, l1⟩ := two_of_lens h
  have hD : D = ([R0, R1], -1) := Prod.ext e hl
  have i0 : inB ([R0, R1], -1) 0 0 = true := by unfold inB; simp [l0]
  have i1 : inB ([barrierR R0, R1], -1) 1 0 = true := by unfold inB; simp [l1]
  have e0 : barrierZ ([R0, R1], -1) 0 = ([barrierR R0, R1], -1) := by unfold barrierZ; rw [if_pos i0]; rfl
  have e1 : barrierZ ([barrierR R0, R1], -1) 1 = ([barrierR R0, barrierR R1], -1) := by unfold barrierZ; rw [if_pos i1]; rfl
  rw [hD, e0, e1]
  intro R hR
  simp only [List.mem_cons, List.not_mem_nil, or_false] at hR
  rcases hR with rfl | rfl <;> exact ⟨rfl, rfl⟩
end Go.Proofs.Ytbagicjimfhmeaa.Cl
