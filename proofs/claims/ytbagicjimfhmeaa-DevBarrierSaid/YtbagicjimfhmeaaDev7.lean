/- dev: Trace, Copy. -/
import Derived.Test.YtbagicjimfhmeaaDev6
set_option linter.unusedVariables false
set_option linter.unusedSimpArgs false
namespace Go.Proofs.Ytbagicjimfhmeaa.Cl
open Go Go.Proofs Go.RowKit Fl

theorem trace_no {w : World} {gd : Nat} {F : Nat → Prop} {D : Dv} (h : DevRep w gd F D) (r : Int) (hn : ¬ inD D r 0) :
    Calls Try.prog 19 #[ptr gd, .int .i64 r] w fun e w' => e = .returned (.slice none 0 0) ∧ w = w' := by
  obtain ⟨vl, rs, h, _⟩ := h
  have hof := of_no h r 0 hn
  clear h hn
  go_enter Try.func19, Try.ntmps19
  go_wp2_with fail
  refine hof.mono ?_
  rintro e w1 ⟨rfl, rfl⟩
  go_wp2_with fail
  go_ret
  exact ⟨rfl, rfl⟩
theorem trace_nil (r : Int) (w : World) : Calls Try.prog 19 #[.pointer none, .int .i64 r] w fun e w' => e = .returned (.slice none 0 0) ∧ w = w' := by
  have hof := of_nil r 0 w
  go_enter Try.func19, Try.ntmps19
  go_wp2_with fail
  refine hof.mono ?_
  rintro e w1 ⟨rfl, rfl⟩
  go_wp2_with fail
  go_ret
  exact ⟨rfl, rfl⟩
def TrRel (w : World) (L : List (List UInt8)) (v i : Value) (wr : World) : Prop := ∃ k : Nat, k ≤ L.length ∧ i = .int .i64 (k : Int) ∧ TL wr w.heap.size v (L.take k) ∧ Below w.heap.size w wr
theorem Byt.shape {w : World} {v : Value} {b : List UInt8} (h : Byt w v b) : ∃ a n c, v = .slice a n c := by
  obtain ⟨a, c, e, _⟩ := h.rd
  exact ⟨_, _, _, e⟩
set_option maxRecDepth 100000 in
set_option maxHeartbeats 4000000 in
theorem trace_yes {w : World} {gd : Nat} {F : Nat → Prop} {D : Dv} (h : DevRep w gd F D) (r : Nat) (hr : r < D.1.length) (hi : 0 < D.1[r].seen.length) (hT : D.1[r].trace.length ≤ 100000) (hx : ∀ x ∈ D.1[r].trace, 0 < x.length ∧ x.length ≤ 100000) :
    Calls Try.prog 19 #[ptr gd, .int .i64 r] w fun e w' => ∃ u, e = .returned u ∧ TL w' w.heap.size u D.1[r].trace ∧ Below w.heap.size w w' := by
  obtain ⟨vl, rs, h, hF⟩ := h
  have hr2 : r < rs.length := by have := h.len; omega
  have hof := of_yes h r 0 hr2 hr hi
  have R1 : RgAt w rs[r] D.1[r] := h.rg r hr2 hr
  have ct := R1.ct
  have T := R1.trace
  generalize D.1[r].trace = L at *
  generalize rs[r] = a at *
  clear h hr hr2 R1 hF hi
  obtain ⟨at_, c, e, k1, k2⟩ := T.len
  rw [e] at ct
  have Hx := Lib.hid hx
  clear hx
  go_enter Try.func19, Try.ntmps19
  go_wp2_with fail
  refine hof.mono ?_
  rintro e' w1 ⟨rfl, rfl⟩
  go_wp2_with fail
  go_loopw [4, 7, 18] (fun v _ i wr => TrRel w L v i wr) (fun _ _ i _ => L.length - (intOf i).toNat)
  case atStart => exact ⟨0, Nat.zero_le _, rfl, TL.nil _ _, Below.refl _ _⟩
  case round =>
    obtain ⟨k, hk, rfl, hv, hb⟩ := hrel
    by_cases hlt : k < L.length
    · have hlI : (k : Int) < (L.length : Int) := by omega
      obtain ⟨g, c', e', _⟩ := T.shape (by omega)
      rw [e'] at e T
      injection e with e1 e2 e3
      subst e1
      obtain ⟨u, hu, hy⟩ := T.at_ k hlt
      have hts := Lib.hid (take_snoc L k hlt)
      obtain ⟨x1, x2⟩ := Hx.out _ (List.getElem_mem hlt)
      have hcu := cell_later hb hu
      have hcl := clone8_any u L[k] wr (hy.rd.below hb) x1 x2
      have hvl := hv.len
      generalize L[k] = x at *
      clear hu hy x1 x2
      go_wp2_with fail
      refine hcl.mono ?_
      rintro e2 w2 ⟨u2, rfl, o2, b2⟩
      have y2 := Byt.of_OB o2
      obtain ⟨a2, n2, c2, rfl⟩ := y2.shape
      have b3 := below_new w2 (.cells #[.slice a2 n2 c2] 34)
      have d3 := (RowAt.new w2 34 #[.slice a2 n2 c2]).cell 0 _ rfl
      have hv3 := (hv.below b2).below b3
      have y3 := y2.below b3
      have hb3 := (hb.trans (b2.mono hb.size)).trans (b3.mono (Nat.le_trans hb.size b2.size))
      have hlk : (L.take k).length ≤ 100000 := by rw [List.length_take]; omega
      go_wp2_with (at_builtin; go_loud (refine wp_want rfl fun K hK => ?_; refine wp_appT w.heap.size _ (L.take k) _ x w2.heap.size hlk hb3.size hv3 y3 d3 rfl rfl rfl ?_))
      intro v4 w4 l4 t4
      refine hK _ _ ?_
      clear hK K
      have hb4 := hb3.trans (t4.below hb3.size hv3.ge)
      go_wp2_with fail
      go_roundw
      case rel =>
        refine ⟨k + 1, by omega, by go_num, ?_, hb4⟩
        rw [hts.out]
        exact l4
      case measure => simp only [intOf]; omega
    · have hlI : ¬ (k : Int) < (L.length : Int) := by omega
      rw [List.take_of_length_le (by omega)] at hv
      go_wp2_with fail
      go_ret
      exact ⟨_, rfl, hv, hb⟩
end Go.Proofs.Ytbagicjimfhmeaa.Cl
