/- Lists of texts: a whole list appended, an element stored. -/
import Derived.Test.YtgeiafijibgdhaaRecR
set_option linter.unusedVariables false
set_option linter.unusedSimpArgs false
namespace Go.Proofs.Ytgeiafijibgdhaa.Cl
open Go Go.Proofs Go.RowKit Fl Rely

/-- 'append(s, x...)' of texts -/
theorem wp_appLL {w : World} {o : Oper} {a : Act} {K : Act → World → Prop} {Q : Exit → Act → World → Prop} (B B' : Nat) (v u : Value) (L L' : List (List UInt8)) {s x : Operand} (hl : L.length + L'.length ≤ 100000)
    (hown : OL w B v L) {w0 : World} (hrd : OL w0 B' u L') (hb : Below w0.heap.size w0 w) (hge : w0.heap.size ≤ B) (hB : B ≤ w.heap.size)
    (ho : o.op = .call { callee := .builtin .append, args := #[s, x], argTypes := #[54, 54] })
    (hs : a.eval s = v) (hx : a.eval x = u)
    (h : ∀ v' w', OL w' B v' (L ++ L') → Onto w v w' v' → K (a.put o.dst v') w') : o.wp Try.prog a w K Q := by
  obtain ⟨i5, hi5, hz5, hs5, hb5⟩ := info_parts infoSl
  obtain ⟨sl, h1, h2, h3⟩ := hown
  obtain ⟨sl', k1, k2, k3⟩ := hrd
  have hrd' := (Rd.of_own k1).below hb
  have hone' : ∀ y ∈ sl', y.oneCell' = true := fun y hy => by
    obtain ⟨j, hj, rfl⟩ := List.getElem_of_mem hy
    obtain ⟨⟨a', c', e, _⟩, _⟩ := k3 j hj (by omega)
    rw [e]; rfl
  obtain ⟨ad, cap, rfl, g1, g2, g3, g4⟩ := hrd'
  cases ad with
  | some ad =>
    refine wp_append_onto B 37 i5 (.slice none 0 0) 1 24 Try.underlying54 hi5 hz5 hs5 hb5 rfl (by decide) v sl.length sl ad sl'.length cap sl' (by simp) hone' (by unfold maxLen; omega) (by omega) ho hs hx h1 (fun j y hj => ?_) hB fun v' w' m1 m2 => h v' w' ⟨sl ++ sl', by simpa using m1, by simp [h2, k2], fun j hj hj' => ?_⟩ m2
    · have hjl := (List.getElem?_eq_some_iff.1 hj).1
      obtain ⟨ad', e', hc⟩ := g3 j hjl
      obtain rfl := Option.some.inj e'
      rw [hc, ← hj, List.getElem?_eq_getElem hjl]
    · have far : ∀ (y : Value), (∀ g, v.ownBlock = some g → ¬ inBlock y g) → (∀ g, inBlock y g → g < w.heap.size) → ∀ g, v'.ownBlock = some g → ¬ inBlock y g := fun y hy hy2 g hg hin => by
        rcases m2.2 g hg with e | e
        · exact hy g e hin
        · have := hy2 g hin; omega
      by_cases hjl : j < sl.length
      · have e1 : (sl ++ sl')[j] = sl[j] := List.getElem_append_left hjl
        have e2 : (L ++ L')[j] = L[j]'(by omega) := List.getElem_append_left (by omega)
        rw [e1, e2]
        obtain ⟨r1, r2, r3⟩ := h3 j hjl (by omega)
        exact ⟨r1.kept m2.1 (fun g hg => r2 g hg), far _ r2 r3, fun g hg => Nat.lt_of_lt_of_le (r3 g hg) m2.size⟩
      · rw [List.length_append] at hj
        have e1 : (sl ++ sl')[j]'(by rw [List.length_append]; exact hj) = sl'[j - sl.length]'(by omega) := List.getElem_append_right (by omega)
        have e2 : (L ++ L')[j] = L'[j - sl.length]'(by rw [List.length_append] at hj'; omega) := by
          rw [List.getElem_append_right (by omega)]
          simp only [h2]
        rw [e1, e2]
        obtain ⟨r1, r2, r3⟩ := k3 (j - sl.length) (by omega) (by rw [List.length_append] at hj'; omega)
        have r2' : ∀ g, v.ownBlock = some g → ¬ inBlock sl'[j - sl.length] g := fun g hg hin => by
          have a := own_ge h1 g hg
          have b := r3 g hin
          omega
        have r3' : ∀ g, inBlock sl'[j - sl.length] g → g < w.heap.size := fun g hg => Nat.lt_of_lt_of_le (r3 g hg) hb.size
        exact ⟨(r1.below hb).kept m2.1 r2', far _ r2' r3', fun g hg => Nat.lt_of_lt_of_le (r3' g hg) m2.size⟩
  | none =>
    have hc0 := g4 rfl
    have hn0 : sl' = [] := List.eq_nil_of_length_eq_zero (by omega)
    subst hn0
    subst hc0
    have hL0 : L' = [] := List.eq_nil_of_length_eq_zero (by simpa using k2.symm)
    subst hL0
    refine wp_append_run ho hs hx (run_append_owned_none (P := Try.prog) w B 54 o.type 37 i5 1 Try.underlying54 hi5 v sl.length sl h1) (h v w ?_ (Onto.refl _ _))
    rw [List.append_nil]
    exact ⟨sl, h1, h2, h3⟩

/-- an element stored -/
theorem OL.set {w : World} {B g n c : Nat} {L : List (List UInt8)} (h : OL w B (.slice (some ⟨g, 0, none⟩) n c) L) (i : Nat) (hi : i < L.length) {y : Value} {l : List UInt8} (hy : Rd w y (bs l)) (hng : ¬ inBlock y g) (hlt : ∀ k, inBlock y k → k < w.heap.size) :
    (∃ z, w.cell? ⟨g, i, none⟩ = some z) ∧ w.frozen? ⟨g, i, none⟩ = false ∧ OL (w.setCell ⟨g, i, none⟩ y) B (.slice (some ⟨g, 0, none⟩) n c) (L.set i l) ∧ w.grownBy (w.setCell ⟨g, i, none⟩ y) (some g) ∧ (w.setCell ⟨g, i, none⟩ y).heap.size = w.heap.size := by
  obtain ⟨sl, ⟨h1, h2⟩, h3, h4⟩ := h
  rcases h2 with ⟨e, _⟩ | ⟨g', cap, cur, e, hb, hg, hnc, hcm, hcs, ht⟩
  · cases e
  · simp only [Value.slice.injEq, Option.some.injEq, Addr.mk.injEq, and_true] at e
    obtain ⟨rfl, rfl, rfl⟩ := e
    have hr : RowAt w g 37 cur := hg
    have hc : cur[i]? = some (sl[i]'(by omega)) := by
      have : (cur.toList.take (sl.length * 1))[i]? = sl[i]? := by rw [ht]
      rw [List.getElem?_take, if_pos (by omega)] at this
      rw [← Array.getElem?_toList, this, List.getElem?_eq_getElem (by omega)]
    obtain ⟨s1, s2, s3⟩ := RowAt.set hr i y
    refine ⟨⟨_, hr.cell i _ hc⟩, hr.frozen, ⟨sl.set i y, ⟨by simp, Or.inr ⟨g, c, _, by rw [List.length_set], hb, s1, by rw [List.length_set]; exact hnc, hcm, by rw [Array.size_setIfInBounds]; exact hcs, ?_⟩⟩, by simp [h3], fun j hj hj' => ?_⟩, s2, s3⟩
    · rw [Array.toList_setIfInBounds, List.length_set, List.take_set, ht]
    · rw [s3]
      by_cases hji : i = j
      · subst hji
        rw [List.getElem_set_self, List.getElem_set_self]
        exact ⟨hy.kept s2 (fun k hk => by cases hk; exact hng), fun k hk => by cases hk; exact hng, hlt⟩
      · rw [List.getElem_set_ne hji, List.getElem_set_ne hji]
        obtain ⟨r1, r2, r3⟩ := h4 j (by simpa using hj) (by simpa using hj')
        exact ⟨r1.kept s2 (fun k hk => by cases hk; exact r2 g rfl), r2, r3⟩
end Go.Proofs.Ytgeiafijibgdhaa.Cl
