/- Records one behind the other: plain laws; lists of lists of writes. -/
import Derived.Test.YtgeiafijibgdhaaRecG
set_option linter.unusedVariables false
set_option linter.unusedSimpArgs false
namespace Go.Proofs.Ytgeiafijibgdhaa.Cl
open Go Go.Proofs Go.RowKit Fl Rely

section
variable {label : UInt8} {epoch seq : Nat} {l : List Wr}
theorem turned_more (more : List (List UInt8)) (hok : okW l) (hw : ∀ x ∈ l, WrOk x) (k : Nat) (hk : k < (recB label epoch seq l).length) (j : Nat) (hj : j < (recB label epoch seq l)[k].length) (x : UInt8) (hx : x ≠ (recB label epoch seq l)[k][j]) {label' : UInt8} {epoch' seq' : Nat} :
    ¬ goodR label' epoch' seq' ((recB label epoch seq l).set k ((recB label epoch seq l)[k].set j x) ++ more) := by
  intro h
  have hkl' : k < ((recB label epoch seq l).set k ((recB label epoch seq l)[k].set j x)).length := by rw [List.length_set]; exact hk
  have hkl : k < ((recB label epoch seq l).set k ((recB label epoch seq l)[k].set j x) ++ more).length := by rw [List.length_append]; omega
  have hkm : k < manyR ((recB label epoch seq l).set k ((recB label epoch seq l)[k].set j x) ++ more) + 1 := by
    cases k with
    | zero => omega
    | succ k =>
      have e : manyR ((recB label epoch seq l).set (k + 1) ((recB label epoch seq l)[k + 1].set j x) ++ more) = l.length := by
        have := many_own (label := label) (epoch := epoch) (seq := seq) more hok.2.2
        rw [← this]
        rfl
      rw [e]
      rw [recB_length] at hk
      exact hk
  have hs := good_sealed h k hkm hkl
  rw [List.getElem_append_left hkl', List.getElem_set_self] at hs
  exact sealed_turn (recB_sealed hok.2.2 hw k hk) j hj x hx hs
theorem empty_not : ¬ goodR label epoch seq [] := fun h => by
  have := h.1.1
  simp at this
/-- what stands for a record in the log -/
def PartIs (label : UInt8) (epoch bad j : Nat) (l : List Wr) (p : List (List UInt8)) : Prop :=
  p.length = l.length + 1 ∧ (j = bad → ∀ more, ¬ goodR label epoch j (p ++ more)) ∧ (j ≠ bad → p = recB label epoch j l)
theorem flat_le : ∀ {ps : List (List (List UInt8))}, (∀ p ∈ ps, p.length ≤ 13) → ps.flatten.length ≤ 13 * ps.length
  | [], _ => by simp
  | p :: ps, h => by
    have h1 := h p (List.mem_cons_self ..)
    have h2 := flat_le (fun q hq => h q (List.mem_cons_of_mem _ hq))
    rw [List.flatten_cons, List.length_append, List.length_cons]
    omega
end
theorem set_head {q : List UInt8} (h : 0 < q.length) (x : UInt8) : [x] ++ q.drop 1 = q.set 0 x := by
  cases q with
  | nil => simp at h
  | cons a q => rfl

/-! ### lists of lists of writes -/
def RdWs (w : World) (v : Value) (ls : List (List Wr)) : Prop := ∃ sl, Rd w v sl ∧ sl.length = ls.length ∧ ∀ j (h : j < sl.length) (h' : j < ls.length), RdW w sl[j] ls[j]
theorem RdWs.below {w w1 : World} {v : Value} {ls : List (List Wr)} (h : RdWs w v ls) (hb : Below w.heap.size w w1) : RdWs w1 v ls := by
  obtain ⟨sl, h1, h2, h3⟩ := h
  exact ⟨sl, h1.below hb, h2, fun j h h' => (h3 j h h').below hb⟩
theorem RdWs.shape {w : World} {v : Value} {ls : List (List Wr)} (h : RdWs w v ls) (h0 : 0 < ls.length) : ∃ ad cap, v = .slice (some ad) ls.length cap := by
  obtain ⟨sl, h1, h2, h3⟩ := h
  obtain ⟨ad, cap, e, _⟩ := h1.some_ (by omega)
  exact ⟨ad, cap, by rw [e, h2]⟩
theorem RdWs.elem {w : World} {ad : Addr} {n cap : Nat} {ls : List (List Wr)} (h : RdWs w (.slice (some ad) n cap) ls) (j : Nat) (hj : j < ls.length) : ∃ y, w.cell? (ad.add j) = some y ∧ RdW w y ls[j] := by
  obtain ⟨sl, h1, h2, h3⟩ := h
  obtain ⟨ad', e, hc⟩ := h1.at_ j (by omega)
  obtain rfl := Option.some.inj e
  exact ⟨_, hc, h3 j (by omega) hj⟩
theorem RdL.drop {w : World} {a : Option Addr} {n c : Nat} {L : List (List UInt8)} (h : RdL w (.slice a n c) L) (k : Nat) (hk : k ≤ L.length) : RdL w (sliced a k L.length c 1) (L.drop k) := by
  obtain ⟨sl, h1, h2, h3⟩ := h
  refine ⟨sl.drop k, ?_, by simp [h2], fun j hj hj' => ?_⟩
  · have := h1.sub k L.length hk (by omega)
    rwa [List.take_of_length_le (by rw [List.length_drop]; omega)] at this
  · rw [List.length_drop] at hj hj'
    rw [List.getElem_drop, List.getElem_drop]
    exact h3 (k + j) (by omega) (by omega)
theorem RdL.shape {w : World} {v : Value} {L : List (List UInt8)} (h : RdL w v L) (h0 : 0 < L.length) : ∃ ad cap, v = .slice (some ad) L.length cap ∧ L.length ≤ cap := by
  obtain ⟨sl, h1, h2, h3⟩ := h
  obtain ⟨ad, cap, e, h4, _⟩ := h1.some_ (by omega)
  exact ⟨ad, cap, by rw [e, h2], by omega⟩
end Go.Proofs.Ytgeiafijibgdhaa.Cl
