/- Lists of texts that are all the call's own: what Put makes; appended onto an elder list. -/
import Derived.Test.YtgeiafijibgdhaaRecB
set_option linter.unusedVariables false
set_option linter.unusedSimpArgs false
namespace Go.Proofs.Ytgeiafijibgdhaa.Cl
open Go Go.Proofs Go.RowKit Fl Rely

/-- as OL, and no element lies in a block below B -/
def OLf (w : World) (B : Nat) (v : Value) (L : List (List UInt8)) : Prop := ∃ sl, w.ownsRow B 37 1 v sl.length sl ∧ sl.length = L.length ∧ ∀ j (h : j < sl.length) (h' : j < L.length), Rd w sl[j] (bs L[j]) ∧ (∀ g, v.ownBlock = some g → ¬ inBlock sl[j] g) ∧ ∀ g, inBlock sl[j] g → B ≤ g ∧ g < w.heap.size
theorem OLf.ol {w : World} {B : Nat} {v : Value} {L : List (List UInt8)} (h : OLf w B v L) : OL w B v L := by
  obtain ⟨sl, h1, h2, h3⟩ := h
  exact ⟨sl, h1, h2, fun j h h' => ⟨(h3 j h h').1, (h3 j h h').2.1, fun g hg => ((h3 j h h').2.2 g hg).2⟩⟩
theorem OLf.below {w w1 : World} {B : Nat} {v : Value} {L : List (List UInt8)} (h : OLf w B v L) (hb : Below w.heap.size w w1) : OLf w1 B v L := by
  obtain ⟨sl, h1, h2, h3⟩ := h
  exact ⟨sl, own_below h1 hb, h2, fun j h h' => ⟨(h3 j h h').1.below hb, (h3 j h h').2.1, fun g hg => ⟨((h3 j h h').2.2 g hg).1, Nat.lt_of_lt_of_le ((h3 j h h').2.2 g hg).2 hb.size⟩⟩⟩
theorem OLf.lt {w : World} {B : Nat} {v : Value} {L : List (List UInt8)} (h : OLf w B v L) : ∀ k, v.ownBlock = some k → k < w.heap.size := h.ol.lt
theorem OLf.ge {w : World} {B : Nat} {v : Value} {L : List (List UInt8)} (h : OLf w B v L) : ∀ k, v.ownBlock = some k → B ≤ k := h.ol.ge
theorem OLf.one (B : Nat) (w : World) (u : Value) (l : List UInt8) (hrd : Rd w u (bs l)) {g n c : Nat} (hu : u = .slice (some ⟨g, 0, none⟩) n c) (hg : g < w.heap.size) (hgB : B ≤ g) (hB : B ≤ w.heap.size) : OLf (w.alloc (.cells #[u] 37)) B (.slice (some ⟨w.heap.size, 0, none⟩) 1 1) [l] := by
  refine ⟨[u], own_lit B w 37 #[u] 1 hB rfl (by simp), rfl, fun j hj hj' => ?_⟩
  obtain rfl : j = 0 := by simpa using hj
  refine ⟨hrd.below (below_new w _), fun k hk hin => ?_, fun k hin => ?_⟩
  · obtain ⟨a, n', c', e, rfl⟩ := hin
    simp only [List.getElem_cons_zero] at e
    rw [hu] at e
    simp only [Value.slice.injEq, Option.some.injEq] at e
    obtain ⟨rfl, _⟩ := e
    simp [Value.ownBlock] at hk
    omega
  · obtain ⟨a, n', c', e, rfl⟩ := hin
    simp only [List.getElem_cons_zero] at e
    rw [hu] at e
    simp only [Value.slice.injEq, Option.some.injEq] at e
    obtain ⟨rfl, _⟩ := e
    simp
    omega
theorem wp_appLf {w : World} {o : Oper} {a : Act} {K : Act → World → Prop} {Q : Exit → Act → World → Prop} (B : Nat) (v u : Value) (L : List (List UInt8)) (l : List UInt8) {s x : Operand} (ad : Addr) (hl : L.length ≤ 100000)
    (hown : OLf w B v L) (hrd : Rd w u (bs l)) (hin : ∀ g, v.ownBlock = some g → ¬ inBlock u g) (hlt : ∀ g, inBlock u g → B ≤ g ∧ g < w.heap.size) (hu : u.oneCell' = true) (hcell : w.cell? ad = some u) (hB : B ≤ w.heap.size)
    (ho : o.op = .call { callee := .builtin .append, args := #[s, x], argTypes := #[54, 54] })
    (hs : a.eval s = v) (hx : a.eval x = .slice (some ad) 1 1)
    (h : ∀ v' w', OLf w' B v' (L ++ [l]) → Onto w v w' v' → K (a.put o.dst v') w') : o.wp Try.prog a w K Q := by
  obtain ⟨i5, hi5, hz5, hs5, hb5⟩ := info_parts infoSl
  obtain ⟨sl, h1, h2, h3⟩ := hown
  refine wp_append_onto B 37 i5 (.slice none 0 0) 1 24 Try.underlying54 hi5 hz5 hs5 hb5 rfl (by decide) v sl.length sl ad 1 1 [u] rfl (by simpa using hu) (by unfold maxLen; omega) (by omega) ho hs hx h1 (fun j y hj => ?_) hB fun v' w' k1 k2 => h v' w' ⟨sl ++ [u], by simpa using k1, by simp [h2], fun j hj hj' => ?_⟩ k2
  · obtain ⟨hj0, hj1⟩ := List.getElem?_eq_some_iff.1 hj
    obtain rfl : j = 0 := by simpa using hj0
    rw [Addr.add_zero', hcell, ← hj1]
    rfl
  · have far : ∀ (y : Value), (∀ g, v.ownBlock = some g → ¬ inBlock y g) → (∀ g, inBlock y g → B ≤ g ∧ g < w.heap.size) → ∀ g, v'.ownBlock = some g → ¬ inBlock y g := fun y hy hy2 g hg hin => by
      rcases k2.2 g hg with e | e
      · exact hy g e hin
      · have := (hy2 g hin).2; omega
    by_cases hjl : j < sl.length
    · have e1 : (sl ++ [u])[j] = sl[j] := List.getElem_append_left hjl
      have e2 : (L ++ [l])[j] = L[j]'(by omega) := List.getElem_append_left (by omega)
      rw [e1, e2]
      obtain ⟨r1, r2, r3⟩ := h3 j hjl (by omega)
      exact ⟨r1.kept k2.1 (fun g hg => r2 g hg), far _ r2 r3, fun g hg => ⟨(r3 g hg).1, Nat.lt_of_lt_of_le (r3 g hg).2 k2.size⟩⟩
    · have e1 : (sl ++ [u])[j] = u := by
        have : j = sl.length := by simp at hj; omega
        subst this
        simp
      have e2 : (L ++ [l])[j] = l := by
        have : j = L.length := by simp at hj'; omega
        subst this
        simp
      rw [e1, e2]
      exact ⟨hrd.kept k2.1 hin, far u hin hlt, fun g hg => ⟨(hlt g hg).1, Nat.lt_of_lt_of_le (hlt g hg).2 k2.size⟩⟩
/-- a whole list of the call's own, appended onto an elder list -/
theorem wp_appLn {w : World} {o : Oper} {a : Act} {K : Act → World → Prop} {Q : Exit → Act → World → Prop} (B B' : Nat) (v u : Value) (L L' : List (List UInt8)) {s x : Operand} (hl : L.length + L'.length ≤ 100000)
    (hown : OL w B v L) (hrd : OLf w B' u L') (hfar : ∀ g, v.ownBlock = some g → g < B') (hB : B ≤ w.heap.size)
    (ho : o.op = .call { callee := .builtin .append, args := #[s, x], argTypes := #[54, 54] })
    (hs : a.eval s = v) (hx : a.eval x = u)
    (h : ∀ v' w', OL w' B v' (L ++ L') → Onto w v w' v' → K (a.put o.dst v') w') : o.wp Try.prog a w K Q := by
  obtain ⟨i5, hi5, hz5, hs5, hb5⟩ := info_parts infoSl
  obtain ⟨sl, h1, h2, h3⟩ := hown
  obtain ⟨sl', k1, k2, k3⟩ := hrd
  have hrd' := Rd.of_own k1
  have hone' : ∀ y ∈ sl', y.oneCell' = true := fun y hy => by
    obtain ⟨j, hj, rfl⟩ := List.getElem_of_mem hy
    obtain ⟨⟨a', c', e, _⟩, _⟩ := k3 j hj (by omega)
    rw [e]; rfl
  obtain ⟨ad, cap, rfl, g1, g2, g3, g4⟩ := hrd'
  cases ad with
  | some ad =>
    refine wp_append_onto B 37 i5 (.slice none 0 0) 1 24 Try.underlying54 hi5 hz5 hs5 hb5 rfl (by decide) v sl.length sl ad sl'.length cap sl' (by simp) hone' (by unfold maxLen; omega) (by omega) ho hs hx h1 (fun j y hj => ?_) hB fun v' w' m1 m2 => h v' w' ⟨sl ++ sl', by simpa using m1, by simp [h2, k2], fun j hj hj' => ?_⟩ m2
    · have hjl := (List.getElem?_eq_some_iff.1 hj).1
      obtain ⟨ad', e', hc⟩ := g3 j hjl
      obtain rfl := Option.some.inj e'
      rw [hc, ← hj, List.getElem?_eq_getElem hjl]
    · have far : ∀ (y : Value), (∀ g, v.ownBlock = some g → ¬ inBlock y g) → (∀ g, inBlock y g → g < w.heap.size) → ∀ g, v'.ownBlock = some g → ¬ inBlock y g := fun y hy hy2 g hg hin => by
        rcases m2.2 g hg with e | e
        · exact hy g e hin
        · have := hy2 g hin; omega
      by_cases hjl : j < sl.length
      · have e1 : (sl ++ sl')[j] = sl[j] := List.getElem_append_left hjl
        have e2 : (L ++ L')[j] = L[j]'(by omega) := List.getElem_append_left (by omega)
        rw [e1, e2]
        obtain ⟨r1, r2, r3⟩ := h3 j hjl (by omega)
        exact ⟨r1.kept m2.1 (fun g hg => r2 g hg), far _ r2 r3, fun g hg => Nat.lt_of_lt_of_le (r3 g hg) m2.size⟩
      · rw [List.length_append] at hj
        have e1 : (sl ++ sl')[j]'(by rw [List.length_append]; exact hj) = sl'[j - sl.length]'(by omega) := List.getElem_append_right (by omega)
        have e2 : (L ++ L')[j] = L'[j - sl.length]'(by rw [List.length_append] at hj'; omega) := by
          rw [List.getElem_append_right (by omega)]
          simp only [h2]
        rw [e1, e2]
        obtain ⟨r1, r2, r3⟩ := k3 (j - sl.length) (by omega) (by rw [List.length_append] at hj'; omega)
        have r2' : ∀ g, v.ownBlock = some g → ¬ inBlock sl'[j - sl.length] g := fun g hg hin => by
          have a := hfar g hg
          have b := (r3 g hin).1
          omega
        have r3' : ∀ g, inBlock sl'[j - sl.length] g → g < w.heap.size := fun g hg => (r3 g hg).2
        exact ⟨r1.kept m2.1 r2', far _ r2' r3', fun g hg => Nat.lt_of_lt_of_le (r3' g hg) m2.size⟩
  | none =>
    have hc0 := g4 rfl
    have hn0 : sl' = [] := List.eq_nil_of_length_eq_zero (by omega)
    subst hn0
    subst hc0
    have hL0 : L' = [] := List.eq_nil_of_length_eq_zero (by simpa using k2.symm)
    subst hL0
    refine wp_append_run ho hs hx (run_append_owned_none (P := Try.prog) w B 54 o.type 37 i5 1 Try.underlying54 hi5 v sl.length sl h1) (h v w ?_ (Onto.refl _ _))
    rw [List.append_nil]
    exact ⟨sl, h1, h2, h3⟩

/-- an element stored -/
theorem OLf.set {w : World} {B g n c : Nat} {L : List (List UInt8)} (h : OLf w B (.slice (some ⟨g, 0, none⟩) n c) L) (i : Nat) (hi : i < L.length) {y : Value} {l : List UInt8} (hy : Rd w y (bs l)) (hng : ¬ inBlock y g) (hlt : ∀ k, inBlock y k → B ≤ k ∧ k < w.heap.size) :
    (∃ z, w.cell? ⟨g, i, none⟩ = some z) ∧ w.frozen? ⟨g, i, none⟩ = false ∧ OLf (w.setCell ⟨g, i, none⟩ y) B (.slice (some ⟨g, 0, none⟩) n c) (L.set i l) ∧ w.grownBy (w.setCell ⟨g, i, none⟩ y) (some g) ∧ (w.setCell ⟨g, i, none⟩ y).heap.size = w.heap.size := by
  obtain ⟨sl, ⟨h1, h2⟩, h3, h4⟩ := h
  rcases h2 with ⟨e, _⟩ | ⟨g', cap, cur, e, hb, hg, hnc, hcm, hcs, ht⟩
  · cases e
  · simp only [Value.slice.injEq, Option.some.injEq, Addr.mk.injEq, and_true] at e
    obtain ⟨rfl, rfl, rfl⟩ := e
    have hr : RowAt w g 37 cur := hg
    have hc : cur[i]? = some (sl[i]'(by omega)) := by
      have : (cur.toList.take (sl.length * 1))[i]? = sl[i]? := by rw [ht]
      rw [List.getElem?_take, if_pos (by omega)] at this
      rw [← Array.getElem?_toList, this, List.getElem?_eq_getElem (by omega)]
    obtain ⟨s1, s2, s3⟩ := RowAt.set hr i y
    refine ⟨⟨_, hr.cell i _ hc⟩, hr.frozen, ⟨sl.set i y, ⟨by simp, Or.inr ⟨g, c, _, by rw [List.length_set], hb, s1, by rw [List.length_set]; exact hnc, hcm, by rw [Array.size_setIfInBounds]; exact hcs, ?_⟩⟩, by simp [h3], fun j hj hj' => ?_⟩, s2, s3⟩
    · rw [Array.toList_setIfInBounds, List.length_set, List.take_set, ht]
    · rw [s3]
      by_cases hji : i = j
      · subst hji
        rw [List.getElem_set_self, List.getElem_set_self]
        exact ⟨hy.kept s2 (fun k hk => by cases hk; exact hng), fun k hk => by cases hk; exact hng, hlt⟩
      · rw [List.getElem_set_ne hji, List.getElem_set_ne hji]
        obtain ⟨r1, r2, r3⟩ := h4 j (by simpa using hj) (by simpa using hj')
        exact ⟨r1.kept s2 (fun k hk => by cases hk; exact r2 g rfl), r2, r3⟩
set_option maxRecDepth 100000 in
set_option maxHeartbeats 2000000 in
theorem recPut_f (label : UInt8) (epoch seq : Nat) (v : Value) (l : List Wr) (w : World) (he : epoch < 4294967296) (hs : seq < 4294967296) (h : okW l) (hok : ∀ x ∈ l, WrOk x) (hv : RdW w v l) :
    Calls Try.prog 33 #[u8 label, .int .u32 epoch, .int .u32 seq, v] w fun e w' => ∃ u, e = .returned (.tuple #[u, .bool true]) ∧ OLf w' w.heap.size u (recB label epoch seq l) ∧ Below w.heap.size w w' := by
  have hm := fun w h' => recMay_any v l w (Nat.le_trans h.2.2 (by decide)) hok h'
  obtain ⟨a, cap, rfl, hc1, hc2, hcell, _⟩ := id hv
  rw [decide_eq_true h] at hm
  have hnum := okW_num h
  have h12 := h.2.2
  have H := Lib.hid h
  clear h
  go_enter Try.func33, Try.ntmps33
  go_wp2_with fail
  refine (hm _ hv).mono ?_
  rintro e w1 ⟨rfl, b1⟩
  have hv1 := hv.below b1
  clear hm
  go_wp2_with fail
  refine (recHead_any label epoch seq _ l _ he hs h12 hok hnum hv1).mono ?_
  rintro e w2 ⟨u2, rfl, h2, b2⟩
  have b2 := b1.trans (b2.mono b1.size)
  have h2 := h2.mono b1.size
  have hlh : (headB label epoch seq l).length = 64 := filledB_length (by rw [headL_length]; omega)
  obtain ⟨g2, c2, rfl, k1, k2, k3, k4⟩ := ob_shape h2 hlh (by decide)
  clear hlh
  have hL3 := OLf.one w.heap.size w2 _ _ h2.rd (g := g2) rfl k2 k1 b2.size
  have b3 := b2.trans (below_mono (below_new w2 (.cells #[.slice (some ⟨g2, 0, none⟩) 64 c2] 37)) b2.size)
  go_wp2_with fail
  go_loopw [10, 12, 24] (fun u _ i wr => ∃ k : Nat, k ≤ l.length ∧ i = .int .i64 k ∧ OLf wr w.heap.size u (headB label epoch seq l :: (l.take k).map (imageB epoch seq)) ∧ Below w.heap.size w wr) (fun _ _ i _ => l.length - (intOf i).toNat)
  case atStart => exact ⟨0, Nat.zero_le _, rfl, hL3, b3⟩
  case round =>
    clear hL3 b3
    obtain ⟨k, hk, rfl, hU, hb⟩ := hrel
    by_cases hlt : k < l.length
    · obtain ⟨ad, rfl, hcx⟩ := hcell k hlt
      have hcx : ∀ i u, (wrC l[k])[i]? = some u → wr.cell? ((ad.add (k * 58)).add i) = some u := fun i u hu => cell_later hb (hcx i u hu)
      have hx := hok _ (List.getElem_mem hlt)
      have hts := Lib.hid (take_snoc l k hlt)
      generalize l[k] = x at *
      clear hv hv1 hcell
      go_wp2_with (refine wp_want rfl fun K hK => ?_; first | (refine wp_wr_elem x hx hcx rfl rfl ?_; refine hK _ _ ?_; clear hK K) | refine wp_wr_alloc rfl ?_)
      intro w5 A5 b5 s5
      refine hK _ _ ?_
      clear hK K
      go_wp2_with (refine wp_want rfl fun K hK => ?_; refine wp_wr_store A5 Z56_length hx rfl rfl rfl ?_)
      intro w6 A6 g6 z6
      refine hK _ _ ?_
      clear hK K
      have hb6 : Below wr.heap.size wr w6 := below_row b5 g6 b5.size (Nat.le_refl _)
      have hU6 := hU.below hb6
      have hb6 := hb.trans (hb6.mono hb.size)
      clear A5 b5 g6 hcx
      go_wp2_with (refine wp_want rfl fun K hK => ?_; (refine wp_wr_load A6 hx rfl rfl ?_; refine hK _ _ ?_; clear hK K))
      refine (image_any epoch seq x _ he hs hx).mono ?_
      rintro e w7 ⟨u7, rfl, h7, b7⟩
      have hU7 := hU6.below b7
      have hb7 := hb6.trans (b7.mono hb6.size)
      have hli : (imageB epoch seq x).length = 64 := filledB_length (by rw [List.length_append, List.length_append, be_length, be_length]; have : x.2.2.length = 56 := hx; omega)
      obtain ⟨g7, c7, rfl, q1, q2, q3, q4⟩ := ob_shape h7 hli (by decide)
      clear hli
      have hin7 : ∀ g, inBlock (.slice (some ⟨g7, 0, none⟩) 64 c7) g → g = g7 := fun g hin => by
        obtain ⟨a, n, c, e, rfl⟩ := hin
        simp only [Value.slice.injEq, Option.some.injEq] at e
        rw [← e.1]
      have hfar : ∀ g, g < w6.heap.size → ¬ inBlock (.slice (some ⟨g7, 0, none⟩) 64 c7) g := fun g hg hin => by have := hin7 g hin; omega
      have hbl : ∀ g, inBlock (.slice (some ⟨g7, 0, none⟩) 64 c7) g → w.heap.size ≤ g ∧ g < (w7.alloc (.cells #[.slice (some ⟨g7, 0, none⟩) 64 c7] 37)).heap.size := fun g hin => by have := hin7 g hin; have := hb6.size; simp; omega
      have hcl := (RowAt.new w7 37 #[.slice (some ⟨g7, 0, none⟩) 64 c7]).cell 0 _ rfl
      have hU8 := hU7.below (below_new w7 (.cells #[.slice (some ⟨g7, 0, none⟩) 64 c7] 37))
      go_wp2_with (at_builtin; go_loud (refine wp_want rfl fun K hK => ?_; refine wp_appLf w.heap.size _ _ _ (imageB epoch seq x) ⟨w7.heap.size, 0, none⟩ (by simp; omega) hU8 (Rd.below (OB.rd h7) (below_new w7 _)) (fun g hg => hfar g (hU6.lt g hg)) hbl rfl hcl (Nat.le_trans hb7.size (le_new _ _)) rfl rfl rfl ?_))
      intro u8' w8 hO8 t8
      have hb8 := hb7.trans ((Onto.after (below_new w7 _) t8).below hb7.size hU7.ge)
      refine hK _ _ ?_
      clear hK K
      go_wp2_with fail
      go_roundw
      case rel =>
        refine ⟨k + 1, by omega, by go_num, ?_, hb8⟩
        rw [hts.out, List.map_append, List.map_take]
        exact hO8
      case measure => simp only [intOf]; omega
    · obtain rfl : k = l.length := by omega
      rw [List.take_length] at hU
      clear hv hv1 hcell
      go_wp2_with fail
      go_ret2
      exact ⟨_, rfl, hU, hb⟩
end Go.Proofs.Ytgeiafijibgdhaa.Cl
