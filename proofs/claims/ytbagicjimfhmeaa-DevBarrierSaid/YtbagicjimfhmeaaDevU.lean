/- dev: what a block may be behind a crash (for DevBarrier), and eight maps of texts in a row. -/
import Derived.Test.YtbagicjimfhmeaaDevT
import Derived.Test.YtbagicjimfhmeaaMapK
set_option linter.unusedVariables false
set_option linter.unusedSimpArgs false
namespace Go.Proofs.Ytbagicjimfhmeaa.Cl
open Go Go.Proofs Go.RowKit Fl

/-! ### plain: each block is what it was at the last Barrier, or what was written since -/
structure BInv (D : Dv) (L U : List (List UInt8)) (M : List (List (List UInt8))) : Prop where
  k : KInv D L U
  len : M.length = 8
  sure : ∀ j (h : j < U.length), U[j] ∈ M.getD j []
  later : ∀ r (R : Rg), D.1[r]? = some R → ∀ x ∈ R.later, x.1 < 4 ∧ x.2 ∈ M.getD (r * 4 + x.1) []
def putM (j : Nat) (b : List UInt8) (M : List (List (List UInt8))) : List (List (List UInt8)) := M.set j (b :: M.getD j [])
theorem putM_get (j : Nat) (b : List UInt8) (M : List (List (List UInt8))) (i : Nat) (hj : j < M.length) : (putM j b M).getD i [] = if j = i then b :: M.getD i [] else M.getD i [] := by
  simp only [putM, List.getD_eq_getElem?_getD, List.getElem?_set]
  by_cases h : j = i
  · subst h
    simp [hj]
  · simp [h]
theorem mem_putM {j : Nat} {b : List UInt8} {M : List (List (List UInt8))} {i : Nat} {x : List UInt8} (hj : j < M.length) (h : x ∈ M.getD i []) : x ∈ (putM j b M).getD i [] := by
  rw [putM_get j b M i hj]
  split
  · exact List.mem_cons_of_mem _ h
  · exact h
theorem BInv.new : BInv (newD [4, 4]) (List.replicate 8 Z64) (List.replicate 8 Z64) (List.replicate 8 [Z64]) where
  k := KInv.new
  len := rfl
  sure j h := by
    have h8 : j < 8 := by simpa using h
    rw [List.getElem_replicate, List.getD_eq_getElem?_getD, List.getElem?_replicate, if_pos h8]
    exact List.mem_cons_self ..
  later r R hR x hx := by
    have : R = newR 4 := by
      match r, hR with
      | 0, hR => exact (Option.some.inj hR).symm
      | 1, hR => exact (Option.some.inj hR).symm
    subst this
    simp [newR] at hx
theorem BInv.write {D : Dv} {L U : List (List UInt8)} {M : List (List (List UInt8))} (h : BInv D L U M) (r i : Nat) (hr : r < 2) (hi : i < 4) (b : List UInt8) (hb : b.length = 64) : BInv (writeZ D r i b) (L.set (r * 4 + i) b) U (putM (r * 4 + i) b M) where
  k := h.k.write r i hr hi b hb
  len := by simp [putM, h.len]
  sure j hj := mem_putM (by rw [h.len]; omega) (h.sure j hj)
  later := by
    have hin := h.k.inB r i hr hi
    obtain ⟨R0, R1, rfl, a0, a1, c0, c1, rfl, rfl⟩ := h.k
    have e : writeZ ([R0, R1], -1) r i b = writeD ([R0, R1], -1) r i b := by
      unfold writeZ
      rw [hin, hb]
      rfl
    have hl := h.later
    have hlen := h.len
    rw [e]
    have mn : r * 4 + i < M.length := by rw [hlen]; omega
    rcases (show r = 0 ∨ r = 1 by omega) with rfl | rfl
    · have e2 : writeD ([R0, R1], -1) 0 i b = ([writeR R0 i b, R1], -1) := by simp [writeD]
      rw [e2]
      intro q R hR x hx
      match q, hR with
      | 0, hR =>
        obtain rfl := Option.some.inj hR
        simp only [writeR, List.mem_append, List.mem_singleton] at hx
        rcases hx with hx | rfl
        · obtain ⟨p1, p2⟩ := hl 0 R0 rfl x hx
          exact ⟨p1, mem_putM mn p2⟩
        · refine ⟨hi, ?_⟩
          rw [putM_get _ _ _ _ mn, if_pos rfl]
          exact List.mem_cons_self ..
      | 1, hR =>
        obtain rfl := Option.some.inj hR
        obtain ⟨p1, p2⟩ := hl 1 R1 rfl x hx
        exact ⟨p1, mem_putM mn p2⟩
    · have e2 : writeD ([R0, R1], -1) 1 i b = ([R0, writeR R1 i b], -1) := by simp [writeD]
      rw [e2]
      intro q R hR x hx
      match q, hR with
      | 0, hR =>
        obtain rfl := Option.some.inj hR
        obtain ⟨p1, p2⟩ := hl 0 R0 rfl x hx
        exact ⟨p1, mem_putM mn p2⟩
      | 1, hR =>
        obtain rfl := Option.some.inj hR
        simp only [writeR, List.mem_append, List.mem_singleton] at hx
        rcases hx with hx | rfl
        · obtain ⟨p1, p2⟩ := hl 1 R1 rfl x hx
          exact ⟨p1, mem_putM mn p2⟩
        · refine ⟨hi, ?_⟩
          rw [putM_get _ _ _ _ mn, if_pos rfl]
          exact List.mem_cons_self ..
/-- the sets begun anew, one by one -/
def layM (r n : Nat) (U : List (List UInt8)) (M : List (List (List UInt8))) : List (List (List UInt8)) := M.mapIdx fun j S => if r * 4 ≤ j ∧ j < r * 4 + n then [U.getD j []] else S
theorem layM_len (r n : Nat) (U : List (List UInt8)) (M : List (List (List UInt8))) : (layM r n U M).length = M.length := by simp [layM]
theorem layM_get (r n : Nat) (U : List (List UInt8)) (M : List (List (List UInt8))) (j : Nat) (hj : j < M.length) : (layM r n U M).getD j [] = if r * 4 ≤ j ∧ j < r * 4 + n then [U.getD j []] else M.getD j [] := by
  simp [layM, List.getD_eq_getElem?_getD, List.getElem?_mapIdx, List.getElem?_eq_getElem hj]
theorem layM_zero (r : Nat) (U : List (List UInt8)) (M : List (List (List UInt8))) : layM r 0 U M = M := by
  apply List.ext_getElem?
  intro j
  simp only [layM, List.getElem?_mapIdx]
  rw [show (fun S : List (List UInt8) => if r * 4 ≤ j ∧ j < r * 4 + 0 then [U.getD j []] else S) = id from by funext S; rw [if_neg (by omega)]; rfl]
  simp
theorem layM_step (r n : Nat) (U : List (List UInt8)) (M : List (List (List UInt8))) : (layM r n U M).set (r * 4 + n) [U.getD (r * 4 + n) []] = layM r (n + 1) U M := by
  apply List.ext_getElem?
  intro j
  rw [List.getElem?_set]
  simp only [layM, List.getElem?_mapIdx, List.length_mapIdx]
  by_cases h : r * 4 + n = j
  · subst h
    rw [if_pos rfl]
    by_cases hl : r * 4 + n < M.length
    · rw [if_pos hl, List.getElem?_eq_getElem hl]
      simp
    · rw [if_neg hl, List.getElem?_eq_none (by omega)]
      rfl
  · rw [if_neg h]
    congr 1
    funext S
    by_cases h2 : r * 4 ≤ j ∧ j < r * 4 + n
    · rw [if_pos h2, if_pos (by omega)]
    · rw [if_neg h2, if_neg (by omega)]
theorem lay_get (r : Nat) (hr : r < 2) (L U : List (List UInt8)) (hL : L.length = 8) (hU : U.length = 8) (j : Nat) : (lay r L U)[j]? = if r * 4 ≤ j ∧ j < r * 4 + 4 then L[j]? else U[j]? := by
  unfold lay
  simp only [List.getElem?_append, List.length_append, List.length_take, List.length_drop, List.getElem?_take, List.getElem?_drop]
  rcases (show r = 0 ∨ r = 1 by omega) with rfl | rfl
  · by_cases h : j < 4
    · rw [if_pos (by omega), if_neg (by omega), if_pos (by omega), if_pos (by omega)]; congr 1; omega
    · rw [if_neg (by omega), if_neg (by omega)]; congr 1; omega
  · by_cases h : j < 4
    · rw [if_pos (by omega), if_pos (by omega), if_pos (by omega), if_neg (by omega)]
    · by_cases h8 : j < 8
      · rw [if_pos (by omega), if_neg (by omega), if_pos (by omega), if_pos (by omega)]; congr 1; omega
      · rw [if_neg (by omega), if_neg (by omega), List.getElem?_eq_none (by omega), List.getElem?_eq_none (by omega)]
theorem BInv.barrier {D : Dv} {L U : List (List UInt8)} {M : List (List (List UInt8))} (h : BInv D L U M) (r : Nat) (hr : r < 2) : BInv (barrierZ D r) L (lay r L U) (layM r 4 (lay r L U) M) where
  k := h.k.barrier r hr
  len := by rw [layM_len, h.len]
  sure j hj := by
    have h8 := (h.k.barrier r hr).len.2
    rw [layM_get _ _ _ _ _ (by rw [h.len]; omega)]
    split
    · rw [List.getD_eq_getElem?_getD, List.getElem?_eq_getElem hj]
      exact List.mem_cons_self ..
    · rename_i hn
      have e := lay_get r hr L U h.k.len.1 h.k.len.2 j
      rw [if_neg hn, List.getElem?_eq_getElem hj, List.getElem?_eq_getElem (by rw [h.k.len.2]; omega)] at e
      rw [Option.some.inj e]
      exact h.sure j _
  later := by
    have hin : Cl.inB D r 0 = true := h.k.inB r 0 hr (by decide)
    obtain ⟨R0, R1, rfl, a0, a1, c0, c1, rfl, rfl⟩ := h.k
    have e : barrierZ ([R0, R1], -1) r = barrierD ([R0, R1], -1) r := by
      unfold barrierZ
      rw [if_pos hin]
      rfl
    have hl := h.later
    have hlen := h.len
    rw [e]
    rcases (show r = 0 ∨ r = 1 by omega) with rfl | rfl
    · have e2 : barrierD ([R0, R1], -1) 0 = ([barrierR R0, R1], -1) := by simp [barrierD]
      rw [e2]
      intro q R hR x hx
      match q, hR with
      | 0, hR =>
        obtain rfl := Option.some.inj hR
        simp [barrierR] at hx
      | 1, hR =>
        obtain rfl := Option.some.inj hR
        obtain ⟨p1, p2⟩ := hl 1 R1 rfl x hx
        refine ⟨p1, ?_⟩
        rw [layM_get _ _ _ _ _ (by rw [hlen]; omega), if_neg (by omega)]
        exact p2
    · have e2 : barrierD ([R0, R1], -1) 1 = ([R0, barrierR R1], -1) := by simp [barrierD]
      rw [e2]
      intro q R hR x hx
      match q, hR with
      | 0, hR =>
        obtain rfl := Option.some.inj hR
        obtain ⟨p1, p2⟩ := hl 0 R0 rfl x hx
        refine ⟨p1, ?_⟩
        rw [layM_get _ _ _ _ _ (by rw [hlen]; omega), if_neg (by omega)]
        exact p2
      | 1, hR =>
        obtain rfl := Option.some.inj hR
        simp [barrierR] at hx
theorem crashS_mem (bits : List UInt8) (S : List (List UInt8)) (L : List (Nat × List UInt8)) (P : Nat → List UInt8 → Prop) (hS : ∀ j (h : j < S.length), P j S[j]) (hL : ∀ x ∈ L, P x.1 x.2) : ∀ j (h : j < (crashS bits S L).length), P j (crashS bits S L)[j] := by
  unfold crashS
  have : ∀ (M : List ((Nat × List UInt8) × Nat)) (S : List (List UInt8)), (∀ x ∈ M, P x.1.1 x.1.2) → (∀ j (h : j < S.length), P j S[j]) → ∀ j (h : j < (M.foldl (fun s x => if bitAt bits x.2 then s.set x.1.1 x.1.2 else s) S).length), P j (M.foldl (fun s x => if bitAt bits x.2 then s.set x.1.1 x.1.2 else s) S)[j] := by
    intro M
    induction M with
    | nil => intro S _ hS; exact hS
    | cons x M ih =>
      intro S hM hS
      simp only [List.foldl_cons]
      refine ih _ (fun y hy => hM y (List.mem_cons_of_mem _ hy)) ?_
      intro j hj
      split at hj
      · rename_i hb
        simp only [hb, if_true, List.getElem_set]
        split
        · rename_i e; subst e; exact hM x (List.mem_cons_self ..)
        · exact hS j (by simpa [hb] using hj)
      · rename_i hb
        simp only [hb]
        exact hS j hj
  refine this _ S (fun x hx => ?_) hS
  have := List.mem_zipIdx hx
  exact hL x.1 (by rw [this.2.2]; exact List.getElem_mem _)
/-- behind a crash -/
theorem BInv.crash {D : Dv} {L U : List (List UInt8)} {M : List (List (List UInt8))} (h : BInv D L U M) (keep : List (List UInt8)) : ∀ q s : Nat, q < 2 → s < 4 → Cl.inB (crashD D keep) q s = true ∧ readZ (crashD D keep) q s ∈ M.getD (q * 4 + s) [] := by
  obtain ⟨R0, R1, rfl, a0, a1, c0, c1, rfl, rfl⟩ := h.k
  have hl := h.later
  have hs := h.sure
  intro q s hq hs4
  obtain ⟨k0, hk0⟩ : ∃ k0, k0 = keep.getD 0 [] := ⟨_, rfl⟩
  obtain ⟨k1, hk1⟩ : ∃ k1, k1 = keep.getD 1 [] := ⟨_, rfl⟩
  have cl0 : (crashS k0 R0.sure R0.later).length = 4 := by rw [crashS_length, c0]
  have cl1 : (crashS k1 R1.sure R1.later).length = 4 := by rw [crashS_length, c1]
  have m0 := crashS_mem k0 R0.sure R0.later (fun j b => b ∈ M.getD j []) (fun j hj => by
      have := hs j (by rw [List.length_append]; omega)
      rw [List.getElem_append_left hj] at this
      exact this) (fun x hx => by have := (hl 0 R0 rfl x hx).2; rwa [Nat.zero_mul, Nat.zero_add] at this)
  have m1 := crashS_mem k1 R1.sure R1.later (fun j b => b ∈ M.getD (4 + j) []) (fun j hj => by
      have := hs (4 + j) (by rw [List.length_append]; omega)
      rw [List.getElem_append_right (by omega)] at this
      simpa [c0] using this) (fun x hx => by have := (hl 1 R1 rfl x hx).2; rwa [Nat.one_mul] at this)
  have eD : crashD ([R0, R1], -1) keep = ([crashR k0 R0, crashR k1 R1], -1) := by rw [hk0, hk1]; rfl
  have hlen : lens (crashD ([R0, R1], -1) keep) = [4, 4] := by rw [eD]; simp [lens, crashR, cl0, cl1]
  refine ⟨?_, ?_⟩
  · rw [inB_lens hlen]
    rcases (show q = 0 ∨ q = 1 by omega) with rfl | rfl <;> simpa using hs4
  · unfold readZ
    rw [Int.toNat_natCast, Int.toNat_natCast, eD]
    rcases (show q = 0 ∨ q = 1 by omega) with rfl | rfl
    · have := m0 s (by omega)
      simp only [List.getElem?_cons_zero, crashR, Nat.zero_mul, Nat.zero_add]
      have e : (crashS k0 R0.sure R0.later).getD s [] = (crashS k0 R0.sure R0.later)[s] := by rw [List.getD_eq_getElem?_getD, List.getElem?_eq_getElem]; rfl
      rw [e]
      exact this
    · have := m1 s (by omega)
      simp only [List.getElem?_cons_succ, List.getElem?_cons_zero, crashR, Nat.one_mul]
      have e : (crashS k1 R1.sure R1.later).getD s [] = (crashS k1 R1.sure R1.later)[s] := by rw [List.getD_eq_getElem?_getD, List.getElem?_eq_getElem]; rfl
      rw [e]
      exact this
end Go.Proofs.Ytbagicjimfhmeaa.Cl
