/- dev: seen and sure, flat (for DevKeeps, DevBarrier). -/
import Derived.Test.YtbagicjimfhmeaaDevM
set_option linter.unusedVariables false
set_option linter.unusedSimpArgs false
namespace Go.Proofs.Ytbagicjimfhmeaa.Cl
open Go Go.Proofs Go.RowKit Fl

structure KInv (D : Dv) (L U : List (List UInt8)) : Prop where
  two : ∃ R0 R1, D = ([R0, R1], -1) ∧ R0.seen.length = 4 ∧ R1.seen.length = 4 ∧ R0.sure.length = 4 ∧ R1.sure.length = 4 ∧ L = R0.seen ++ R1.seen ∧ U = R0.sure ++ R1.sure
theorem KInv.len {D : Dv} {L U : List (List UInt8)} (h : KInv D L U) : L.length = 8 ∧ U.length = 8 := by
  obtain ⟨R0, R1, _, a, b, c, d, rfl, rfl⟩ := h
  simp [a, b, c, d]
theorem KInv.left {D : Dv} {L U : List (List UInt8)} (h : KInv D L U) : D.2 = -1 := by
  obtain ⟨R0, R1, rfl, _⟩ := h
  rfl
theorem KInv.lens {D : Dv} {L U : List (List UInt8)} (h : KInv D L U) : Cl.lens D = [4, 4] := by
  obtain ⟨R0, R1, rfl, a, b, _⟩ := h
  simp [Cl.lens, a, b]
theorem KInv.new : KInv (newD [4, 4]) (List.replicate 8 Z64) (List.replicate 8 Z64) := ⟨newR 4, newR 4, rfl, rfl, rfl, rfl, rfl, rfl, rfl⟩
theorem KInv.inB {D : Dv} {L U : List (List UInt8)} (h : KInv D L U) (r i : Nat) (hr : r < 2) (hi : i < 4) : Cl.inB D r i = true := by
  rw [inB_lens h.lens]
  rcases (show r = 0 ∨ r = 1 by omega) with rfl | rfl <;> simpa using hi
theorem KInv.write {D : Dv} {L U : List (List UInt8)} (h : KInv D L U) (r i : Nat) (hr : r < 2) (hi : i < 4) (b : List UInt8) (hb : b.length = 64) : KInv (writeZ D r i b) (L.set (r * 4 + i) b) U := by
  have hin := h.inB r i hr hi
  obtain ⟨R0, R1, rfl, a0, a1, c0, c1, rfl, rfl⟩ := h
  have e : writeZ ([R0, R1], -1) r i b = writeD ([R0, R1], -1) r i b := by
    unfold writeZ
    rw [hin, hb]
    rfl
  rw [e]
  rcases (show r = 0 ∨ r = 1 by omega) with rfl | rfl
  · refine ⟨writeR R0 i b, R1, by simp [writeD], by simp [writeR, a0], a1, c0, c1, ?_, rfl⟩
    rw [List.set_append, if_pos (by omega)]
    simp [writeR]
  · refine ⟨R0, writeR R1 i b, by simp [writeD], a0, by simp [writeR, a1], c0, c1, ?_, rfl⟩
    rw [List.set_append, if_neg (by omega)]
    simp [writeR, a0, show 1 * 4 + i - 4 = i by omega]
def lay (r : Nat) (L U : List (List UInt8)) : List (List UInt8) := U.take (r * 4) ++ (L.drop (r * 4)).take 4 ++ U.drop (r * 4 + 4)
theorem KInv.barrier {D : Dv} {L U : List (List UInt8)} (h : KInv D L U) (r : Nat) (hr : r < 2) : KInv (barrierZ D r) L (lay r L U) := by
  have hin : Cl.inB D r 0 = true := h.inB r 0 hr (by decide)
  obtain ⟨R0, R1, rfl, a0, a1, c0, c1, rfl, rfl⟩ := h
  have e : barrierZ ([R0, R1], -1) r = barrierD ([R0, R1], -1) r := by
    unfold barrierZ
    rw [if_pos hin]
    rfl
  rw [e]
  rcases (show r = 0 ∨ r = 1 by omega) with rfl | rfl
  · refine ⟨barrierR R0, R1, by simp [barrierD], a0, a1, a0, c1, rfl, ?_⟩
    simp [lay, barrierR, List.take_append, List.drop_append, a0, c0]
  · refine ⟨R0, barrierR R1, by simp [barrierD], a0, a1, c0, a1, rfl, ?_⟩
    simp [lay, barrierR, List.take_append, List.drop_append, a0, a1, c0, c1]
    rw [List.take_of_length_le (by omega), List.drop_eq_nil_of_le (by omega), List.drop_eq_nil_of_le (by omega)]
    simp
theorem KInv.read {D : Dv} {L U : List (List UInt8)} (h : KInv D L U) (q s : Nat) (hq : q < 2) (hs : s < 4) (hl : q * 4 + s < L.length) : readZ D q s = L[q * 4 + s] := by
  obtain ⟨R0, R1, rfl, a0, a1, c0, c1, rfl, rfl⟩ := h
  unfold readZ
  rw [Int.toNat_natCast, Int.toNat_natCast]
  rcases (show q = 0 ∨ q = 1 by omega) with rfl | rfl
  · simp only [List.getElem?_cons_zero, List.getD_eq_getElem?_getD]
    rw [List.getElem_append_left (by omega), List.getElem?_eq_getElem (by omega)]
    simp
  · simp only [List.getElem?_cons_succ, List.getElem?_cons_zero, List.getD_eq_getElem?_getD]
    rw [List.getElem_append_right (by omega), List.getElem?_eq_getElem (by omega)]
    simp [a0, show 1 * 4 + s - 4 = s by omega]
theorem crashS_none (S : List (List UInt8)) (L : List (Nat × List UInt8)) : crashS [] S L = S := by
  have : ∀ (k : Nat), k ≤ L.length → crashS [] S (L.take k) = S := by
    intro k
    induction k with
    | zero => intro _; simp [crashS]
    | succ k ih =>
      intro hk
      rw [take_snoc L k (by omega), crashS_snoc, if_neg (by simp [bitAt]), ih (by omega)]
  have := this L.length (Nat.le_refl _)
  rwa [List.take_of_length_le (Nat.le_refl _)] at this
/-- where nothing survives -/
theorem KInv.crash {D : Dv} {L U : List (List UInt8)} (h : KInv D L U) : KInv (crashD D []) U U := by
  obtain ⟨R0, R1, rfl, a0, a1, c0, c1, rfl, rfl⟩ := h
  refine ⟨crashR [] R0, crashR [] R1, rfl, ?_, ?_, ?_, ?_, ?_, ?_⟩ <;> simp only [crashR, crashS_none] <;> assumption
def FF5 : List UInt8 := [255, 255, 255, 255, 255]
theorem ff5 (j : Nat) (h : j < 40) : bitAt FF5 j = true := by
  have : ∀ j : Fin 40, bitAt FF5 j.val = true := by decide +kernel
  exact this ⟨j, h⟩
/-- where all survives -/
theorem KInv.crashAll {D : Dv} {L U : List (List UInt8)} {n : Nat} (h : KInv D L U) (hs : Seq D) (ok : DOk n D) (hn : n ≤ 40) : KInv (crashD D [FF5, FF5]) L L := by
  obtain ⟨R0, R1, rfl, a0, a1, c0, c1, rfl, rfl⟩ := h
  have k0 := (ok.rg R0 (by simp)).ln
  have k1 := (ok.rg R1 (by simp)).ln
  have e0 : crashS FF5 R0.sure R0.later = R0.seen := by rw [crashS_full _ _ _ (fun j hj => ff5 j (by omega))]; exact (hs R0 (by simp)).symm
  have e1 : crashS FF5 R1.sure R1.later = R1.seen := by rw [crashS_full _ _ _ (fun j hj => ff5 j (by omega))]; exact (hs R1 (by simp)).symm
  refine ⟨crashR FF5 R0, crashR FF5 R1, rfl, ?_, ?_, ?_, ?_, ?_, ?_⟩ <;> simp only [crashR, e0, e1] <;> assumption
end Go.Proofs.Ytbagicjimfhmeaa.Cl
