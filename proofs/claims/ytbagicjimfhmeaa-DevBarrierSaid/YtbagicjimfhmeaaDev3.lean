/- dev: what is cloned. -/
import Derived.Test.YtbagicjimfhmeaaDev2
import Derived.Lib.BufferMore
import Derived.Lib.LazyBuf
set_option linter.unusedVariables false
set_option linter.unusedSimpArgs false
namespace Go.Proofs.Ytbagicjimfhmeaa.Cl
open Go Go.Proofs Go.RowKit Fl

set_option maxRecDepth 100000 in
theorem clone8_any (v : Value) (l : List UInt8) (w : World) (hv : Rd w v (bs l)) (h0 : 0 < l.length) (hl : l.length ≤ 100000) : Calls Try.prog 43 #[v] w fun e w' => ∃ u, e = .returned u ∧ OB w' w.heap.size u l ∧ Below w.heap.size w w' := by
  obtain ⟨a, cap, rfl, hc1, hc2⟩ := hv.some_ (by rw [bs_length]; exact h0)
  rw [bs_length] at hv hc1 ⊢
  have hn := fun w => Lib.run_eql_slice_nil (P := Try.prog) w 34 5 (some a) l.length cap 0 0 Try.underlying34
  go_enter Try.func43, Try.ntmps43
  have hE : OB (w.alloc (.cells #[] 5)) w.heap.size (.slice (some ⟨w.heap.size, 0, none⟩) 0 0) [] := OB.lit' w.heap.size w #[] [] 0 rfl rfl (Nat.le_refl _) (by simp)
  go_wp2_with (at_builtin; go_loud (refine wp_want rfl fun K hK => ?_; refine wp_appO w.heap.size _ _ [] l (by simp; omega) hE (hv.below (below_new w _)) (le_new _ _) rfl rfl rfl ?_))
  intro u2 w2 h2 t2
  have b2 := (below_new w (.cells #[] 5)).trans (t2.below (le_new _ _) hE.ge)
  refine hK _ _ ?_
  clear hK K
  go_wp2_with fail
  go_ret
  exact ⟨_, rfl, h2, b2⟩

theorem infoSlD : (Try.prog.info? 34).map (fun i => (i.zero, i.size, i.bytes)) = some (some (.slice none 0 0), 1, 24) := by kernel_rfl
theorem infoWrD : (Try.prog.info? 86).map (fun i => (i.zero, i.size, i.bytes)) = some (some (.agg #[.int .i64 0, .slice none 0 0]), 2, 32) := by kernel_rfl
theorem own_empty (w : World) (e : TypeId) (s : Nat) : (w.alloc (.cells #[] e)).ownsRow w.heap.size e s (.slice (some ⟨w.heap.size, 0, none⟩) 0 0) 0 [] :=
  World.ownsRow_made w #[] 0 (Nat.le_refl _) (by unfold maxLen; decide) (by simp)
theorem own_none {w : World} {B e s n : Nat} {v : Value} {xs : List Value} (h : w.ownsRow B e s v n xs) : (v = .slice none 0 0 ∧ n = 0 ∧ xs = []) ∨ ∃ g c, v = .slice (some ⟨g, 0, none⟩) n c ∧ (∀ j u, xs[j]? = some u → w.cell? ((⟨g, 0, none⟩ : Addr).add j) = some u) := by
  rcases h.2 with ⟨rfl, rfl⟩ | ⟨g, cap, cur, rfl, h2⟩
  · exact .inl ⟨rfl, rfl, List.eq_nil_of_length_eq_zero (by have := h.1; omega)⟩
  · exact .inr ⟨g, cap, rfl, h.cells (g := g) rfl⟩
set_option maxRecDepth 100000 in
theorem cloneT_own (v : Value) (n : Nat) (sl : List Value) (w : World) (h : w.ownsRow 0 34 1 v n sl) (h1 : ∀ u ∈ sl, u.oneCell' = true) (hn : n ≤ 100000) : Calls Try.prog 42 #[v] w fun e w' => ∃ u, e = .returned u ∧ w'.ownsRow w.heap.size 34 1 u n sl ∧ Below w.heap.size w w' := by
  rcases own_none h with ⟨rfl, rfl, rfl⟩ | ⟨g, c, rfl, hc⟩
  · have hn := fun w => Lib.run_eql_slice_nil (P := Try.prog) w 23 34 none 0 0 0 0 Try.underlying23
    go_enter Try.func42, Try.ntmps42
    go_wp2_with fail
    go_ret
    exact ⟨_, rfl, World.ownsRow_nil _ _ _ _, Below.refl _ _⟩
  · have hn' := fun w => Lib.run_eql_slice_nil (P := Try.prog) w 23 34 (some ⟨g, 0, none⟩) n c 0 0 Try.underlying23
    obtain ⟨i5, hi5, hz5, hs5, hb5⟩ := info_parts infoSlD
    have hE := own_empty w 34 1
    have hl := h.1
    have hc' : ∀ j u, sl[j]? = some u → (w.alloc (.cells #[] 34)).cell? ((⟨g, 0, none⟩ : Addr).add j) = some u := fun j u hj => cell_later (below_new w _) (hc j u hj)
    clear hc h
    go_enter Try.func42, Try.ntmps42
    go_wp2_with (at_builtin; go_loud (refine wp_want rfl fun K hK => ?_; refine wp_append_onto w.heap.size 34 i5 (.slice none 0 0) 1 24 Try.underlying23 hi5 hz5 hs5 hb5 rfl (by decide) _ 0 [] ⟨g, 0, none⟩ n c sl hl h1 (by unfold maxLen; omega) (by omega) rfl rfl rfl hE hc' (le_new _ _) ?_))
    intro u2 w2 h2 t2
    have b2 := (below_new w (.cells #[] 34)).trans (t2.below (le_new _ _) (own_ge hE))
    refine hK _ _ ?_
    clear hK K
    go_wp2_with fail
    go_ret
    exact ⟨_, rfl, h2, b2⟩
set_option maxRecDepth 100000 in
theorem cloneW_own (v : Value) (n : Nat) (sl : List Value) (w : World) (h : w.ownsRow 0 86 2 v n sl) (h1 : ∀ u ∈ sl, u.oneCell' = true) (hn : n ≤ 100000) : Calls Try.prog 45 #[v] w fun e w' => ∃ u, e = .returned u ∧ w'.ownsRow w.heap.size 86 2 u n sl ∧ Below w.heap.size w w' := by
  rcases own_none h with ⟨rfl, rfl, rfl⟩ | ⟨g, c, rfl, hc⟩
  · have hn := fun w => Lib.run_eql_slice_nil (P := Try.prog) w 80 86 none 0 0 0 0 Try.underlying80
    go_enter Try.func45, Try.ntmps45
    go_wp2_with fail
    go_ret
    exact ⟨_, rfl, World.ownsRow_nil _ _ _ _, Below.refl _ _⟩
  · have hn' := fun w => Lib.run_eql_slice_nil (P := Try.prog) w 80 86 (some ⟨g, 0, none⟩) n c 0 0 Try.underlying80
    obtain ⟨i5, hi5, hz5, hs5, hb5⟩ := info_parts infoWrD
    have hE := own_empty w 86 2
    have hl := h.1
    have hc' : ∀ j u, sl[j]? = some u → (w.alloc (.cells #[] 86)).cell? ((⟨g, 0, none⟩ : Addr).add j) = some u := fun j u hj => cell_later (below_new w _) (hc j u hj)
    clear hc h
    go_enter Try.func45, Try.ntmps45
    go_wp2_with (at_builtin; go_loud (refine wp_want rfl fun K hK => ?_; refine wp_append_onto w.heap.size 86 i5 (.agg #[.int .i64 0, .slice none 0 0]) 2 32 Try.underlying80 hi5 hz5 hs5 hb5 rfl (by decide) _ 0 [] ⟨g, 0, none⟩ n c sl hl h1 (by unfold maxLen; omega) (by omega) rfl rfl rfl hE hc' (le_new _ _) ?_))
    intro u2 w2 h2 t2
    have b2 := (below_new w (.cells #[] 86)).trans (t2.below (le_new _ _) (own_ge hE))
    refine hK _ _ ?_
    clear hK K
    go_wp2_with fail
    go_ret
    exact ⟨_, rfl, h2, b2⟩
theorem Byt.one {w : World} {v : Value} {b : List UInt8} (h : Byt w v b) : v.oneCell' = true := by
  obtain ⟨a, c, rfl, _⟩ := h.1
  rfl
/-- a list of texts cloned -/
theorem cloneT_any (v : Value) (L : List (List UInt8)) (w : World) (h : TL w 0 v L) (hn : L.length ≤ 100000) : Calls Try.prog 42 #[v] w fun e w' => ∃ u, e = .returned u ∧ TL w' w.heap.size u L ∧ Below w.heap.size w w' := by
  obtain ⟨sl, h1, h2, h3⟩ := h
  refine (cloneT_own v sl.length sl w h1 (fun u hu => ?_) (by omega)).mono ?_
  · obtain ⟨j, hj, rfl⟩ := List.getElem_of_mem hu
    exact (h3 j hj (by omega)).one
  · rintro e w' ⟨u, rfl, k1, k2⟩
    exact ⟨u, rfl, ⟨sl, k1, h2, fun j h h' => (h3 j h h').below k2⟩, k2⟩
theorem cloneW_any (v : Value) (L : List (Nat × List UInt8)) (w : World) (h : LL w v L) (hn : L.length ≤ 100000) : Calls Try.prog 45 #[v] w fun e w' => ∃ u, e = .returned u ∧ LL w' u L ∧ (∀ k, u.ownBlock = some k → w.heap.size ≤ k) ∧ Below w.heap.size w w' := by
  obtain ⟨sl, h1, h2, h3⟩ := h
  refine (cloneW_own v sl.length _ w h1 (fun u hu => ?_) (by omega)).mono ?_
  · obtain ⟨x, hx, hu⟩ := List.mem_flatMap.1 hu
    obtain ⟨j, hj, rfl⟩ := List.getElem_of_mem hx
    rcases List.mem_cons.1 hu with rfl | hu
    · rfl
    · rw [List.mem_singleton.1 hu]; exact (h3 j hj (by omega)).2.one
  · rintro e w' ⟨u, rfl, k1, k2⟩
    exact ⟨u, rfl, ⟨sl, own_mono k1 (Nat.zero_le _), h2, fun j h h' => ⟨(h3 j h h').1, (h3 j h h').2.below k2⟩⟩, own_ge k1, k2⟩
theorem TL.zero {w : World} {B : Nat} {v : Value} {L : List (List UInt8)} (h : TL w B v L) : TL w 0 v L := by
  obtain ⟨sl, h1, h2, h3⟩ := h
  exact ⟨sl, own_mono h1 (Nat.zero_le _), h2, h3⟩

/-! ### Read -/
set_option maxRecDepth 100000 in
theorem read_yes {w : World} {gd : Nat} {F : Nat → Prop} {D : Dv} (h : DevRep w gd F D) (r i : Nat) (hr : r < D.1.length) (hi : i < D.1[r].seen.length) (h0 : 0 < D.1[r].seen[i].length) (h1 : D.1[r].seen[i].length ≤ 100000) :
    Calls Try.prog 18 #[ptr gd, .int .i64 r, .int .i64 i] w fun e w' => ∃ u, e = .returned (.tuple #[u, .bool true]) ∧ OB w' w.heap.size u D.1[r].seen[i] ∧ Below w.heap.size w w' := by
  obtain ⟨vl, rs, h, _⟩ := h
  have hr2 : r < rs.length := by have := h.len; omega
  have hof := of_yes h r i hr2 hr hi
  have R := h.rg r hr2 hr
  have c0 := R.cs
  obtain ⟨g, c, e, _, _, k1, k2⟩ := R.seen.shape (by omega)
  have T := R.seen
  rw [e] at c0 T
  obtain ⟨u, hu, hb⟩ := T.at_ i hi
  have hcl := clone8_any u _ w hb.rd h0 h1
  have hiI : (i : Int) < (D.1[r].seen.length : Int) := by omega
  generalize D.1[r].seen[i] = b at *
  generalize D.1[r].seen.length = m at *
  generalize rs[r].g = gr at *
  clear T e R h hr2 hr hb
  go_enter Try.func18, Try.ntmps18
  go_wp2_with fail
  refine hof.mono ?_
  rintro e w1 ⟨rfl, rfl⟩
  go_wp2_with fail
  refine hcl.mono ?_
  rintro e w2 ⟨u2, rfl, o2, b2⟩
  go_wp2_with fail
  go_ret2
  exact ⟨u2, rfl, o2, b2⟩
theorem read_no {w : World} {gd : Nat} {F : Nat → Prop} {D : Dv} (h : DevRep w gd F D) (r i : Int) (hn : ¬ inD D r i) :
    Calls Try.prog 18 #[ptr gd, .int .i64 r, .int .i64 i] w fun e w' => e = .returned (.tuple #[.slice none 0 0, .bool false]) ∧ w = w' := by
  obtain ⟨vl, rs, h, _⟩ := h
  have hof := of_no h r i hn
  clear h hn
  go_enter Try.func18, Try.ntmps18
  go_wp2_with fail
  refine hof.mono ?_
  rintro e w1 ⟨rfl, rfl⟩
  go_wp2_with fail
  go_ret2
  exact ⟨rfl, rfl⟩
theorem read_nil (r i : Int) (w : World) : Calls Try.prog 18 #[.pointer none, .int .i64 r, .int .i64 i] w fun e w' => e = .returned (.tuple #[.slice none 0 0, .bool false]) ∧ w = w' := by
  have hof := of_nil r i w
  go_enter Try.func18, Try.ntmps18
  go_wp2_with fail
  refine hof.mono ?_
  rintro e w1 ⟨rfl, rfl⟩
  go_wp2_with fail
  go_ret2
  exact ⟨rfl, rfl⟩
end Go.Proofs.Ytbagicjimfhmeaa.Cl
