/- rec: plain laws of what comes back. -/
import Derived.Test.YtgeiafijibgdhaaRecO
set_option linter.unusedVariables false
set_option linter.unusedSimpArgs false
namespace Go.Proofs.Ytgeiafijibgdhaa.Cl
open Go Go.Proofs Go.RowKit Fl Rely

section
variable {label : UInt8} {epoch seq : Nat} {l : List Wr}
theorem recB_get64 (hok : okW l) (hw : ∀ x ∈ l, WrOk x) (j : Nat) (hj : j < (recB label epoch seq l).length) : (recB label epoch seq l)[j].length = 64 := by
  cases j with
  | zero => exact headB_length hok.2.2
  | succ j =>
    have h : j < l.length := by rw [recB_length] at hj; omega
    show ((l.map (imageB epoch seq))[j]'(by simpa using h)).length = 64
    rw [List.getElem_map]
    exact image_length _ (hw _ (List.getElem_mem h))
theorem recB_sealed {label : UInt8} {epoch seq : Nat} {l : List Wr} (hl : l.length ≤ 12) (hw : ∀ x ∈ l, WrOk x) (j : Nat) (hj : j < (recB label epoch seq l).length) : sealedT (recB label epoch seq l)[j] := by
  cases j with
  | zero => exact sealed_filled (headL_short hl)
  | succ j =>
    have h : j < l.length := by rw [recB_length] at hj; omega
    show sealedT ((l.map (imageB epoch seq))[j]'(by simpa using h))
    rw [List.getElem_map]
    have := hw _ (List.getElem_mem h)
    exact sealed_filled (by simp [be_length, show l[j].2.2.length = 56 from this])
theorem good_sealed {L : List (List UInt8)} (h : goodR label epoch seq L) (j : Nat) (hj : j < manyR L + 1) (hL : j < L.length) : sealedT L[j] := by
  obtain ⟨⟨_, _, hm, _⟩, _, he⟩ := h
  have hj' : j < (recB label epoch seq (readAll L (manyR L))).length := by rw [recB_length, readAll_length]; exact hj
  have hs := recB_sealed (label := label) (epoch := epoch) (seq := seq) (by rw [readAll_length]; exact hm) (readAll_ok L (manyR L)) j hj'
  have : (recB label epoch seq (readAll L (manyR L)))[j]? = L[j]? := by rw [he, List.getElem?_take, if_pos hj]
  rw [List.getElem?_eq_getElem hj', List.getElem?_eq_getElem hL] at this
  rwa [Option.some.inj this] at hs
theorem turned_not (hok : okW l) (hw : ∀ x ∈ l, WrOk x) (k : Nat) (hk : k < (recB label epoch seq l).length) (j : Nat) (hj : j < (recB label epoch seq l)[k].length) (x : UInt8) (hx : x ≠ (recB label epoch seq l)[k][j]) {label' : UInt8} {epoch' seq' : Nat} :
    ¬ goodR label' epoch' seq' ((recB label epoch seq l).set k ((recB label epoch seq l)[k].set j x)) := by
  intro h
  have hkl : k < ((recB label epoch seq l).set k ((recB label epoch seq l)[k].set j x)).length := by rw [List.length_set]; exact hk
  have hkm : k < manyR ((recB label epoch seq l).set k ((recB label epoch seq l)[k].set j x)) + 1 := by
    cases k with
    | zero => omega
    | succ k =>
      have e : manyR ((recB label epoch seq l).set (k + 1) ((recB label epoch seq l)[k + 1].set j x)) = l.length := by
        have := many_own (label := label) (epoch := epoch) (seq := seq) [] hok.2.2
        rw [List.append_nil] at this
        rw [← this]
        rfl
      rw [e]
      rw [recB_length] at hk
      exact hk
  have hs := good_sealed h k hkm hkl
  rw [List.getElem_set_self] at hs
  exact sealed_turn (recB_sealed hok.2.2 hw k hk) j hj x hx hs
theorem short_not (hok : okW l) {label' : UInt8} {epoch' seq' : Nat} : ¬ goodR label' epoch' seq' ((recB label epoch seq l).take l.length) := by
  rintro ⟨⟨_, _, _, hlen⟩, _⟩
  have h1 := hok.2.1
  have e : manyR ((recB label epoch seq l).take l.length) = l.length := by
    have := many_own (label := label) (epoch := epoch) (seq := seq) [] hok.2.2
    rw [List.append_nil] at this
    refine Eq.trans ?_ this
    unfold manyR headOf
    have e0 : ((recB label epoch seq l).take l.length)[0]? = (recB label epoch seq l)[0]? := by rw [List.getElem?_take, if_pos (show 0 < l.length by omega)]
    rw [e0]
  rw [e, List.length_take, recB_length] at hlen
  omega
theorem good_iff (hok : okW l) (hw : ∀ x ∈ l, WrOk x) {label' : UInt8} {epoch' seq' : Nat} (h1 : epoch < 4294967296) (h2 : epoch' < 4294967296) (h3 : seq < 4294967296) (h4 : seq' < 4294967296) :
    goodR label' epoch' seq' (recB label epoch seq l) ↔ label' = label ∧ epoch' = epoch ∧ seq' = seq := by
  constructor
  · intro h
    rw [← List.append_nil (recB label epoch seq l)] at h
    exact good_head [] h1 h2 h3 h4 hok.2.2 h
  · rintro ⟨rfl, rfl, rfl⟩
    have := good_own (label := label') (epoch := epoch') (seq := seq') [] hok hw
    rwa [List.append_nil] at this
end
theorem RdL.take {w : World} {a : Option Addr} {n c : Nat} {L : List (List UInt8)} (h : RdL w (.slice a n c) L) (k : Nat) (hk : k ≤ L.length) : RdL w (.slice a k c) (L.take k) := by
  obtain ⟨sl, h1, h2, h3⟩ := h
  refine ⟨sl.take k, h1.take k (by omega), by simp [h2], fun j hj hj' => ?_⟩
  rw [List.getElem_take, List.getElem_take]
  exact h3 j (by rw [List.length_take] at hj; omega) (by rw [List.length_take] at hj'; omega)
end Go.Proofs.Ytgeiafijibgdhaa.Cl
