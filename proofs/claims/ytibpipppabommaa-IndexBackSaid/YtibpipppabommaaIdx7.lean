/- The document's Pieces. -/
import Derived.Test.YtibpipppabommaaIdx6
set_option linter.unusedVariables false
set_option linter.unusedSimpArgs false
namespace Go.Proofs.Ytibpipppabommaa.Cl
open Go Go.Proofs Go.RowKit Fl Rely

theorem pcs_last {o e : Nat} (h : o < e) : ∃ init f t, pcs o e = init ++ [⟨(e - 1) / 56, f, t⟩] := by
  have h0 : pcN o e = pcN o e - 1 + 1 := by unfold pcN; rw [if_pos h]; omega
  have hm : o / 56 + (pcN o e - 1) = (e - 1) / 56 := by unfold pcN; rw [if_pos h]; omega
  refine ⟨(List.range (pcN o e - 1)).map fun i => pc1 o e (o / 56 + i), (pc1 o e ((e - 1) / 56)).f, (pc1 o e ((e - 1) / 56)).t, ?_⟩
  unfold pcs
  rw [h0, List.range_succ, List.map_append, List.map_singleton, Nat.add_sub_cancel, hm]
  rfl
theorem pcCells_last (init : List Pc) (p : Pc) (j : Nat) (hj : j < 3) : (pcCells (init ++ [p]))[init.length * 3 + j]? = p.cells[j]? := by
  rw [pcCells_get _ init.length (by simp) j hj]
  simp
theorem pcCells_setlast (init : List Pc) (k f t t' : Nat) : (pcCells (init ++ [⟨k, f, t⟩])).set (init.length * 3 + 2) (.int .i64 (t' : Int)) = pcCells (init ++ [⟨k, f, t'⟩]) := by
  rw [pcCells_snoc, pcCells_snoc, List.set_append_right _ _ (by rw [pcCells_length]; omega), pcCells_length, show init.length * 3 + 2 - init.length * 3 = 2 by omega]
  rfl
theorem own_form {w : World} {B e s n : Nat} {v : Value} {xs : List Value} (h : w.ownsRow B e s v n xs) (hn : 1 ≤ n) : ∃ g cap, v = .slice (some ⟨g, 0, none⟩) n cap := by
  rcases h.2 with ⟨_, h0⟩ | ⟨g, cap, cur, hv, _⟩
  · omega
  · exact ⟨g, cap, hv⟩
theorem info39 : (Try.prog.info? 39).map (fun i => (i.zero, i.size, i.bytes)) = some (some (.agg #[.int .i64 0, .int .i64 0, .int .i64 0]), 3, 24) := by kernel_rfl
def POwn (w : World) (B : Nat) (v : Value) (l : List Pc) : Prop := w.ownsRow B 39 3 v l.length (pcCells l)
theorem POwn.cell {w : World} {B g cap : Nat} {init : List Pc} {p : Pc} (h : POwn w B (.slice (some ⟨g, 0, none⟩) (init.length + 1) cap) (init ++ [p])) (j : Nat) (hj : j < 3) : w.cell? ⟨g, init.length * 3 + j, none⟩ = p.cells[j]? := by
  have h' : w.ownsRow B 39 3 (.slice (some ⟨g, 0, none⟩) (init.length + 1) cap) (init.length + 1) (pcCells (init ++ [p])) := by
    have := h
    unfold POwn at this
    rw [List.length_append] at this
    exact this
  rw [← pcCells_last init p j hj]
  exact h'.cellAt _ (by omega)
theorem POwn.froz {w : World} {B g n cap : Nat} {l : List Pc} (h : POwn w B (.slice (some ⟨g, 0, none⟩) n cap) l) (j : Nat) : w.frozen? ⟨g, j, none⟩ = false := by
  obtain ⟨g', cap', hv⟩ : ∃ g' cap', (.slice (some ⟨g, 0, none⟩) n cap : Value) = .slice (some ⟨g', 0, none⟩) l.length cap' := by
    rcases h.2 with ⟨h0, _⟩ | ⟨g', cap', cur, hv, _⟩
    · cases h0
    · exact ⟨g', cap', hv⟩
  cases hv
  exact World.ownsRow.frozenAt h j
theorem POwn.set {w : World} {B g cap : Nat} {init : List Pc} {k f t : Nat} (h : POwn w B (.slice (some ⟨g, 0, none⟩) (init.length + 1) cap) (init ++ [⟨k, f, t⟩])) (t' : Nat) (v : Value) (hv : v = .int .i64 (t' : Int)) :
    POwn (w.setCell ⟨g, init.length * 3 + 2, none⟩ v) B (.slice (some ⟨g, 0, none⟩) (init.length + 1) cap) (init ++ [⟨k, f, t'⟩]) := by
  subst hv
  have h' : w.ownsRow B 39 3 (.slice (some ⟨g, 0, none⟩) (init.length + 1) cap) (init.length + 1) (pcCells (init ++ [⟨k, f, t⟩])) := by
    have := h
    unfold POwn at this
    rw [List.length_append] at this
    exact this
  have hs := (h'.stored (init.length * 3 + 2) (.int .i64 (t' : Int))).1
  rw [pcCells_setlast] at hs
  unfold POwn
  rw [List.length_append]
  exact hs

set_option maxRecDepth 100000 in
set_option maxHeartbeats 4000000 in
theorem refPieces_any (o n : Int) (w : World) : 
    Calls Try.prog 23 #[.int .i64 o, .int .i64 n] w fun e w' => ((o < 0 ∨ n < 0 ∨ 1120 < o ∨ 1120 - o < n) → e = .returned (.slice none 0 0)) ∧
      (¬ (o < 0 ∨ n < 0 ∨ 1120 < o ∨ 1120 - o < n) → ∃ u, e = .returned u ∧ POwn w' w.heap.size u (pcs o.toNat (o + n).toNat)) ∧ Below w.heap.size w w' := by
  by_cases hbad : o < 0 ∨ n < 0 ∨ 1120 < o ∨ 1120 - o < n
  · have HB := Lib.hid hbad
    by_cases h1 : o < 0
    · clear hbad
      go_enter Try.func23, Try.ntmps23
      go_wp2_with fail
      go_returns
      first | exact ⟨fun _ => rfl, fun h => (h HB.out).elim, Below.refl _ _⟩ | exact ⟨rfl, Below.refl _ _⟩ | exact ⟨fun _ => rfl, Below.refl _ _⟩ | exact ⟨rfl, fun h => (h HB.out).elim, Below.refl _ _⟩
    · by_cases h2 : n < 0
      · clear hbad
        go_enter Try.func23, Try.ntmps23
        go_wp2_with fail
        go_returns
        first | exact ⟨fun _ => rfl, fun h => (h HB.out).elim, Below.refl _ _⟩ | exact ⟨rfl, Below.refl _ _⟩ | exact ⟨fun _ => rfl, Below.refl _ _⟩ | exact ⟨rfl, fun h => (h HB.out).elim, Below.refl _ _⟩
      · by_cases h3 : 1120 < o
        · clear hbad
          go_enter Try.func23, Try.ntmps23
          go_wp2_with fail
          go_returns
          first | exact ⟨fun _ => rfl, fun h => (h HB.out).elim, Below.refl _ _⟩ | exact ⟨rfl, Below.refl _ _⟩ | exact ⟨fun _ => rfl, Below.refl _ _⟩ | exact ⟨rfl, fun h => (h HB.out).elim, Below.refl _ _⟩
        · have h4 : 1120 - o < n := by omega
          have e4 : wrap64 (1120 - o) = 1120 - o := IntWalk.wrap64_in _ (by omega)
          clear hbad
          go_enter Try.func23, Try.ntmps23
          go_wp2_with fail
          go_returns
          first | exact ⟨fun _ => rfl, fun h => (h HB.out).elim, Below.refl _ _⟩ | exact ⟨rfl, Below.refl _ _⟩ | exact ⟨fun _ => rfl, Below.refl _ _⟩ | exact ⟨rfl, fun h => (h HB.out).elim, Below.refl _ _⟩
  · obtain ⟨x, rfl⟩ : ∃ x : Nat, o = (x : Int) := ⟨o.toNat, by omega⟩
    obtain ⟨m, rfl⟩ : ∃ m : Nat, n = (m : Int) := ⟨n.toNat, by omega⟩
    obtain ⟨e, he⟩ : ∃ e : Nat, e = x + m := ⟨_, rfl⟩
    have hd : ((x : Int) + (m : Int)) = (e : Int) := by omega
    have he1 : e ≤ 1120 := by omega
    have hxe : x ≤ e := by omega
    rw [hd]
    simp only [Int.toNat_natCast]
    have Hbad := Lib.hid hbad
    have hm : m = e - x := by omega
    have h3 : (x : Int) ≤ 1120 := by omega
    have h4 : (m : Int) ≤ 1120 - (x : Int) := by omega
    have Hd := Lib.hid hd
    have He := Lib.hid he
    clear hbad hd he hm
    obtain ⟨i39, hi39, hz39, hs39, hb39⟩ := info_parts info39
    go_enter Try.func23, Try.ntmps23
    go_wp2_with fail
    go_loopw [5, 6] (fun u i wr => ∃ y : Nat, y ≤ e ∧ x ≤ y ∧ i = .int .i64 y ∧ POwn wr w.heap.size u (pcs x y) ∧ (y = x → u = .slice none 0 0) ∧ Below w.heap.size w wr) (fun _ i _ => e - (intOf i).toNat)
    case atStart => exact ⟨x, hxe, Nat.le_refl _, rfl, by rw [pcs_self]; exact World.ownsRow_nil _ _ _ _, fun _ => rfl, Below.refl _ _⟩
    case round =>
      obtain ⟨y, hy, hxy, rfl, hown, hnil, hb⟩ := hrel
      have he := He.out
      by_cases hlt : y < e
      · have hlt' : (y : Int) < (x : Int) + (m : Int) := by omega
        clear he
        obtain ⟨pk, hpk⟩ : ∃ pk, pk = y / 56 := ⟨_, rfl⟩
        obtain ⟨pf, hpf⟩ : ∃ pf, pf = y % 56 := ⟨_, rfl⟩
        have e1 : (y : Int) / 56 = (pk : Int) := by omega
        have e2 : (y : Int) % 56 = (pf : Int) := by omega
        have hpf56 : pf < 56 := by omega
        rcases Nat.eq_or_lt_of_le hxy with hxy' | hxy'
        · obtain rfl := hnil hxy'.symm
          have hp := Lib.hid (pcs_new (o := x) (e := y) hxy (.inl hxy'.symm))
          rw [← hpk, ← hpf] at hp
          have hem : pcs x y = [] := by rw [← hxy']; exact pcs_self x
          rw [hem] at hown hp
          clear hxy' hpk hpf hem hnil
          have hcp : ([] : List Pc).length ≤ 21 := by simp
          go_wp2_with (at_builtin; go_loud (refine wpList_append_own _ rfl _ _ 35 rfl w.heap.size 39 i39 _ 3 24 Try.underlying35 hi39 hz39 hs39 hb39 rfl (by decide) _ _ (pcCells ([] : List Pc)) rfl (own_below hown (below_new wr _)) ⟨wr.heap.size, 0, none⟩ 1 1 [.int .i64 (pk : Int), .int .i64 (pf : Int), .int .i64 (pf : Int)] rfl rfl (new_cells wr #[.int .i64 (pk : Int), .int .i64 (pf : Int), .int .i64 (pf : Int)] _) (by intro u hu; simp at hu; rcases hu with rfl | rfl | rfl <;> rfl) (by unfold maxLen; omega) (by omega) (Nat.le_trans hb.size (le_new _ _)) ?_))
          intro u7 w7 hown7 hgr7 _
          have hb7 : Below w.heap.size w w7 := below_own (hb.trans (below_mono (below_new _ _) hb.size)) hgr7 (Nat.le_trans hb.size (le_new _ _)) (own_ge (own_below hown (below_new wr (.cells #[] 0))))
          obtain ⟨g, cap, rfl⟩ := own_form hown7 (by omega)
          have hP7 : POwn w7 w.heap.size (.slice (some ⟨g, 0, none⟩) (([] : List Pc).length + 1) cap) (([] : List Pc) ++ [⟨pk, pf, pf⟩]) := by
            unfold POwn
            rw [pcCells_snoc (([] : List Pc)) _]
            simp only [List.length_append, List.length_cons, List.length_nil, Nat.zero_add]
            exact hown7
          have hgg : w.heap.size ≤ g := own_ge hown7 g rfl
          clear hown7 hgr7
          have c2 : w7.cell? ⟨g, 2, none⟩ = some (.int .i64 (pf : Int)) := hP7.cell 2 (by decide)
          have f2 := hP7.froz (2)
          have hP8 := hP7.set (pf + 1)
          simp only [List.length_append, List.length_cons, List.length_nil, Nat.zero_mul, Nat.zero_add] at hP8
          go_wp2_with fail
          go_roundw
          case rel => exact ⟨y + 1, by omega, by omega, by go_num, by rw [hp.out]; exact hP8 _ (int_val (by omega)), fun h => by omega, hb7.setCell hgg _⟩
          case measure => simp only [intOf]; omega
        · clear hnil
          have hl20 := pcN_le (o := x) (e := y) (by omega)
          rw [← pcs_length] at hl20
          by_cases hk : y / 56 = (y - 1) / 56
          · obtain ⟨init, f, h1, h2⟩ := pcs_more hxy' hk
            rw [← hpk, ← hpf] at h1 h2
            rw [h1] at hown hl20
            have hp := Lib.hid h2
            clear h1 h2 hk hpk hpf
            have hl : init.length ≤ 20 := by rw [List.length_append] at hl20; omega
            obtain ⟨g, cap, rfl⟩ := own_form hown (by simp)
            rw [show (init ++ [(⟨pk, f, pf⟩ : Pc)]).length = init.length + 1 by simp] at *
            have hP7 : POwn wr w.heap.size (.slice (some ⟨g, 0, none⟩) (init.length + 1) cap) (init ++ [⟨pk, f, pf⟩]) := hown
            have hgg : w.heap.size ≤ g := own_ge hown g rfl
            have c0 : wr.cell? ⟨g, init.length * 3, none⟩ = some (.int .i64 (pk : Int)) := hP7.cell 0 (by decide)
            have c2 : wr.cell? ⟨g, init.length * 3 + 2, none⟩ = some (.int .i64 (pf : Int)) := hP7.cell 2 (by decide)
            have f2 := hP7.froz (init.length * 3 + 2)
            have hP8 := hP7.set (pf + 1)
            go_wp2_with fail
            trace_state
            go_roundw
            case rel => exact ⟨y + 1, by omega, by omega, by go_num, by rw [hp.out]; exact hP8 _ (int_val (by omega)), fun h => by omega, hb.setCell hgg _⟩
            case measure => simp only [intOf]; omega
          · obtain ⟨init, f, t, h1⟩ := pcs_last hxy'
            have hp := Lib.hid (pcs_new (o := x) (e := y) hxy (.inr hk))
            rw [← hpk, ← hpf] at hp
            have hq : ((((y - 1) / 56 : Nat) : Int) != (pk : Int)) = true := by rw [bne_iff_ne]; omega
            generalize (y - 1) / 56 = q at *
            rw [h1] at hown hl20 hp
            clear h1 hk hpk hpf
            have hl : init.length ≤ 20 := by rw [List.length_append] at hl20; omega
            obtain ⟨g0, cap0, rfl⟩ := own_form hown (by simp)
            rw [show (init ++ [(⟨q, f, t⟩ : Pc)]).length = init.length + 1 by simp] at *
            have hP6 : POwn wr w.heap.size (.slice (some ⟨g0, 0, none⟩) (init.length + 1) cap0) (init ++ [⟨q, f, t⟩]) := hown
            have c0 : wr.cell? ⟨g0, init.length * 3, none⟩ = some (.int .i64 (q : Int)) := hP6.cell 0 (by decide)
            have hown : wr.ownsRow w.heap.size 39 3 (.slice (some ⟨g0, 0, none⟩) (init.length + 1) cap0) (init.length + 1) (pcCells (init ++ [⟨q, f, t⟩])) := by
              have := hP6
              unfold POwn at this
              rw [List.length_append] at this
              exact this
            have hcp : (init ++ [(⟨q, f, t⟩ : Pc)]).length ≤ 21 := by rw [List.length_append]; simp; omega
            go_wp2_with (at_builtin; go_loud (refine wpList_append_own _ rfl _ _ 35 rfl w.heap.size 39 i39 _ 3 24 Try.underlying35 hi39 hz39 hs39 hb39 rfl (by decide) _ _ (pcCells (init ++ [(⟨q, f, t⟩ : Pc)])) rfl (own_below hown (below_new wr _)) ⟨wr.heap.size, 0, none⟩ 1 1 [.int .i64 (pk : Int), .int .i64 (pf : Int), .int .i64 (pf : Int)] rfl rfl (new_cells wr #[.int .i64 (pk : Int), .int .i64 (pf : Int), .int .i64 (pf : Int)] _) (by intro u hu; simp at hu; rcases hu with rfl | rfl | rfl <;> rfl) (by unfold maxLen; omega) (by omega) (Nat.le_trans hb.size (le_new _ _)) ?_))
            intro u7 w7 hown7 hgr7 _
            have hb7 : Below w.heap.size w w7 := below_own (hb.trans (below_mono (below_new _ _) hb.size)) hgr7 (Nat.le_trans hb.size (le_new _ _)) (own_ge (own_below hown (below_new wr (.cells #[] 0))))
            obtain ⟨g, cap, rfl⟩ := own_form hown7 (by omega)
            have hP7 : POwn w7 w.heap.size (.slice (some ⟨g, 0, none⟩) ((init ++ [(⟨q, f, t⟩ : Pc)]).length + 1) cap) ((init ++ [(⟨q, f, t⟩ : Pc)]) ++ [⟨pk, pf, pf⟩]) := by
              unfold POwn
              rw [pcCells_snoc ((init ++ [(⟨q, f, t⟩ : Pc)])) _]
              simp only [List.length_append, List.length_cons, List.length_nil, Nat.zero_add]
              exact hown7
            have hgg : w.heap.size ≤ g := own_ge hown7 g rfl
            clear hown7 hgr7
            have c2 : w7.cell? ⟨g, (init.length + 1) * 3 + 2, none⟩ = some (.int .i64 (pf : Int)) := by have := hP7.cell 2 (by decide); simp only [List.length_append, List.length_cons, List.length_nil, Nat.zero_add] at this; exact this
            have f2 := hP7.froz ((init.length + 1) * 3 + 2)
            have hP8 := hP7.set (pf + 1)
            simp only [List.length_append, List.length_cons, List.length_nil, Nat.zero_mul, Nat.zero_add] at hP8
            go_wp2_with fail
            go_roundw
            case rel => exact ⟨y + 1, by omega, by omega, by go_num, by rw [hp.out]; exact hP8 _ (int_val (by omega)), fun h => by omega, hb7.setCell hgg _⟩
            case measure => simp only [intOf]; omega
      · have hlt' : ¬ ((y : Int) < (x : Int) + (m : Int)) := by omega
        obtain rfl : y = e := by omega
        clear he
        go_wp2_with fail
        go_returns
        exact ⟨fun h => (Hbad.out h).elim, ⟨_, rfl, hown⟩, hb⟩
end Go.Proofs.Ytibpipppabommaa.Cl
