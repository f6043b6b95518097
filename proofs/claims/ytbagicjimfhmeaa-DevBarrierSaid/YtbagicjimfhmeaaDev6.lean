/- dev: Barrier, Stop, Stopped, Regions. -/
import Derived.Test.YtbagicjimfhmeaaDev5
set_option linter.unusedVariables false
set_option linter.unusedSimpArgs false
namespace Go.Proofs.Ytbagicjimfhmeaa.Cl
open Go Go.Proofs Go.RowKit Fl

theorem lies_none (w : World) (v : Value) : Lies w v (.slice none 0 0) := fun g h => by cases h
theorem barrier_no {w : World} {gd : Nat} {F : Nat → Prop} {D : Dv} (h : DevRep w gd F D) (r : Int) (hn : ¬ inD D r 0) :
    Calls Try.prog 15 #[ptr gd, .int .i64 r] w fun e w' => e = .returned (.bool false) ∧ w = w' := by
  obtain ⟨vl, rs, h, _⟩ := h
  have hof := of_no h r 0 hn
  clear h hn
  go_enter Try.func15, Try.ntmps15
  go_wp2_with fail
  refine hof.mono ?_
  rintro e w1 ⟨rfl, rfl⟩
  go_wp2_with fail
  go_ret
  exact ⟨rfl, rfl⟩
theorem barrier_nil (r : Int) (w : World) : Calls Try.prog 15 #[.pointer none, .int .i64 r] w fun e w' => e = .returned (.bool false) ∧ w = w' := by
  have hof := of_nil r 0 w
  go_enter Try.func15, Try.ntmps15
  go_wp2_with fail
  refine hof.mono ?_
  rintro e w1 ⟨rfl, rfl⟩
  go_wp2_with fail
  go_ret
  exact ⟨rfl, rfl⟩
theorem barrier_stop {w : World} {gd : Nat} {F : Nat → Prop} {D : Dv} (h : DevRep w gd F D) (r : Nat) (hr : r < D.1.length) (hi : 0 < D.1[r].seen.length) (h0 : D.2 = 0) :
    Calls Try.prog 15 #[ptr gd, .int .i64 r] w fun e w' => e = .returned (.bool true) ∧ w = w' := by
  obtain ⟨vl, rs, h, _⟩ := h
  have hr2 : r < rs.length := by have := h.len; omega
  have hof := of_yes h r 0 hr2 hr hi
  have c1 := h.left
  rw [h0] at c1
  generalize rs[r].g = gr at *
  clear h hr2 hr hi h0
  go_enter Try.func15, Try.ntmps15
  go_wp2_with fail
  refine hof.mono ?_
  rintro e w1 ⟨rfl, rfl⟩
  go_wp2_with fail
  go_ret
  exact ⟨rfl, rfl⟩
def barrierR (R : Rg) : Rg := ⟨R.seen, R.seen, [], R.trace ++ [[255, 255]]⟩
def barrierD (D : Dv) (r : Nat) : Dv := match D.1[r]? with
  | none => D
  | some R => if D.2 = 0 then D else (D.1.set r (barrierR R), D.2)
set_option maxRecDepth 100000 in
set_option maxHeartbeats 4000000 in
theorem barrier_yes {w : World} {gd : Nat} {F : Nat → Prop} {D : Dv} (h : DevRep w gd F D) (r : Nat) (hr : r < D.1.length) (hi : 0 < D.1[r].seen.length) (hS : D.1[r].seen.length ≤ 100000) (hT : D.1[r].trace.length ≤ 100000) (h0 : D.2 ≠ 0) :
    Calls Try.prog 15 #[ptr gd, .int .i64 r] w fun e w' => e = .returned (.bool true) ∧ ∃ F', DevRep w' gd F' (barrierD D r) ∧ Step F w w' F' := by
  obtain ⟨vl, rs, h, hF⟩ := h
  have hr2 : r < rs.length := by have := h.len; omega
  have hof := of_yes h r 0 hr2 hr hi
  have c1 := h.left
  have hwd : barrierD D r = (D.1.set r (barrierR D.1[r]), D.2) := by
    unfold barrierD
    rw [List.getElem?_eq_getElem hr]
    simp only
    rw [if_neg h0]
  have Hwd := Lib.hid hwd
  clear hwd
  have h01 : (D.2 != 0) = true := bne_iff_ne.2 h0
  have R1 : RgAt w rs[r] D.1[r] := h.rg r hr2 hr
  have upd := fun (w' : World) a' R' => h.upd (w' := w') r hr2 a' R'
  obtain ⟨R, hR⟩ : ∃ R, R = D.1[r] := ⟨_, rfl⟩
  obtain ⟨a, ha⟩ : ∃ a, a = rs[r] := ⟨_, rfl⟩
  rw [← hR] at R1 hi hT hS Hwd
  rw [← ha] at R1 upd hof
  have Fa : ∀ k, Blk a k → F k := fun k hk => hF k (.inr (.inr ⟨_, List.getElem_mem hr2, ha ▸ hk⟩))
  clear hR ha h hr h0
  have cs0 := R1.cs
  have hcl := cloneT_any a.vs R.seen w R1.seen hS
  go_enter Try.func15, Try.ntmps15
  go_wp2_with fail
  refine hof.mono ?_
  rintro e w1 ⟨rfl, rfl⟩
  go_wp2_with fail
  refine hcl.mono ?_
  rintro e w2 ⟨u2, rfl, t2, b2⟩
  obtain ⟨R3, S3, q3, f3⟩ := R1.setSure u2 R.seen b2 t2
  obtain ⟨R4, S4, q4, f4⟩ := R3.setLater (.slice none 0 0) [] (Frm.refl _ _) (lies_none _ _) (LL.nil _)
  obtain ⟨a2, c2, e2, _⟩ := t2.len
  subst e2
  have s4 := S3.trans S4
  go_upto_region 6 with fail
  have R4 : RgAt _ { g := a.g, vs := a.vs, vu := _, vl := .slice none 0 0, vt := a.vt } ⟨R.seen, R.seen, [], R.trace⟩ := R4
  generalize World.setCell (World.setCell w2 ⟨a.g, 1, none⟩ _) ⟨a.g, 2, none⟩ _ = W4 at *
  clear q3 f3 q4 f4 S3 S4 R3 hcl cs0 R1 c1
  have ct4 : W4.cell? ⟨a.g, 3, none⟩ = some a.vt := R4.ct
  have b5 : Below W4.heap.size W4 ((W4.alloc (.cells #[.int .u8 255, .int .u8 255] 5)).alloc (.cells #[.slice (some ⟨W4.heap.size, 0, none⟩) 2 2] 34)) := (below_new _ _).trans ((below_new _ _).mono (le_new _ _))
  have y5 : Byt ((W4.alloc (.cells #[.int .u8 255, .int .u8 255] 5)).alloc (.cells #[.slice (some ⟨W4.heap.size, 0, none⟩) 2 2] 34)) (.slice (some ⟨W4.heap.size, 0, none⟩) 2 2) [255, 255] :=
    (Byt.of_OB (OB.lit' 0 W4 #[.int .u8 255, .int .u8 255] [255, 255] 2 rfl rfl (Nat.zero_le _) (by decide))).below (below_new _ _)
  have d5 : ((W4.alloc (.cells #[.int .u8 255, .int .u8 255] 5)).alloc (.cells #[.slice (some ⟨W4.heap.size, 0, none⟩) 2 2] 34)).cell? ⟨W4.heap.size + 1, 0, none⟩ = some (.slice (some ⟨W4.heap.size, 0, none⟩) 2 2) := by
    have := (RowAt.new (W4.alloc (.cells #[.int .u8 255, .int .u8 255] 5)) 34 #[.slice (some ⟨W4.heap.size, 0, none⟩) 2 2]).cell 0 _ rfl
    rwa [show (W4.alloc (.cells #[.int .u8 255, .int .u8 255] 5)).heap.size = W4.heap.size + 1 by simp] at this
  have R5 := R4.below b5
  go_wp2_with (at_builtin; go_loud (refine wp_want rfl fun K hK => ?_; refine wp_appT 0 a.vt R.trace _ [255, 255] (W4.heap.size + 1) hT (Nat.zero_le _) R5.trace y5 d5 rfl rfl rfl ?_))
  intro v6 W6 l6 t6
  refine hK _ _ ?_
  clear hK K
  obtain ⟨R7, S7, q7, f7⟩ := R5.setTrace v6 _ t6.frm t6.2 l6
  obtain ⟨a6, n6, c6, e6⟩ : ∃ a n c, v6 = .slice a n c := by
    obtain ⟨sl, h1, _⟩ := l6
    obtain ⟨a7, c7, e7, _⟩ := Rd.of_own1 h1
    exact ⟨_, _, _, e7⟩
  subst e6
  have s7 := s4.trans ((RS.below _ b5).trans S7)
  obtain ⟨Hf, Ff⟩ := upd _ _ _ s7 R7
  go_wp2_with fail
  generalize World.setCell W6 ⟨a.g, 3, none⟩ _ = Wf at *
  go_ret
  have HD : DevRep Wf gd (fun k => F k ∨ w.heap.size ≤ k) (barrierD D r) := by
    rw [Hwd.out]
    refine ⟨vl, _, Hf, fun k hk => ?_⟩
    rcases Ff k hk with e | e
    · exact .inl (hF k e)
    · exact .inr e
  exact ⟨rfl, fun k => F k ∨ w.heap.size ≤ k, HD, s7.frm.mono fun k _ e => Fa k e, s7.k8, fun k hk => hk⟩

/-! ### Stop, Stopped, Regions -/
theorem stop_any {w : World} {gd : Nat} {F : Nat → Prop} {D : Dv} (h : DevRep w gd F D) (n : Int) :
    Calls Try.prog 23 #[ptr gd, .int .i64 n] w fun e w' => e = .returned (.tuple #[]) ∧ DevRep w' gd F (D.1, max n (-1)) ∧ Step F w w' F := by
  obtain ⟨vl, rs, h, hF⟩ := h
  by_cases hn : -1 ≤ n
  · rw [show max n (-1) = n by omega]
    obtain ⟨H1, S1, f1⟩ := h.setLeft n
    have c1 := h.left
    go_enter Try.func23, Try.ntmps23
    go_wp2_with fail
    all_goals
      go_end0
      exact ⟨rfl, ⟨vl, rs, H1, hF⟩, S1.1.mono fun k _ e => e ▸ hF gd (.inl rfl), S1.2.1, fun k hk => .inl hk⟩
  · rw [show max n (-1) = -1 by omega]
    obtain ⟨H1, S1, f1⟩ := h.setLeft (-1)
    have c1 := h.left
    go_enter Try.func23, Try.ntmps23
    go_wp2_with fail
    all_goals
      go_end0
      exact ⟨rfl, ⟨vl, rs, H1, hF⟩, S1.1.mono fun k _ e => e ▸ hF gd (.inl rfl), S1.2.1, fun k hk => .inl hk⟩
theorem stop_nil (n : Int) (w : World) : Calls Try.prog 23 #[.pointer none, .int .i64 n] w fun e w' => e = .returned (.tuple #[]) ∧ w = w' := by
  go_enter Try.func23, Try.ntmps23
  go_wp2_with fail
  go_end0
  exact ⟨rfl, rfl⟩
theorem stopped_any {w : World} {gd : Nat} {F : Nat → Prop} {D : Dv} (h : DevRep w gd F D) :
    Calls Try.prog 25 #[ptr gd] w fun e w' => e = .returned (.bool (decide (D.2 = 0))) ∧ w = w' := by
  obtain ⟨vl, rs, h, hF⟩ := h
  have c1 := h.left
  by_cases h0 : D.2 = 0
  · rw [h0] at c1 ⊢
    clear h h0
    go_enter Try.func25, Try.ntmps25
    go_wp2_with fail
    go_ret
    exact ⟨rfl, rfl⟩
  · have h01 : (D.2 == 0) = false := beq_eq_false_iff_ne.2 h0
    rw [decide_eq_false h0]
    generalize D.2 = x at *
    clear h h0
    go_enter Try.func25, Try.ntmps25
    go_wp2_with fail
    go_ret
    exact ⟨rfl, rfl⟩
theorem stopped_nil (w : World) : Calls Try.prog 25 #[.pointer none] w fun e w' => e = .returned (.bool false) ∧ w = w' := by
  go_enter Try.func25, Try.ntmps25
  go_wp2_with fail
  go_ret
  exact ⟨rfl, rfl⟩
theorem regions_any {w : World} {gd : Nat} {F : Nat → Prop} {D : Dv} (h : DevRep w gd F D) :
    Calls Try.prog 32 #[ptr gd] w fun e w' => e = .returned (.int .i64 D.1.length) ∧ w = w' := by
  obtain ⟨vl, rs, h, hF⟩ := h
  have c0 := h.cl
  obtain ⟨a, c, rfl⟩ := h.vlen
  rw [← h.len]
  clear h hF
  generalize rs.length = n at *
  go_enter Try.func32, Try.ntmps32
  go_wp2_with fail
  go_ret
  exact ⟨rfl, rfl⟩
theorem regions_nil (w : World) : Calls Try.prog 32 #[.pointer none] w fun e w' => e = .returned (.int .i64 0) ∧ w = w' := by
  go_enter Try.func32, Try.ntmps32
  go_wp2_with fail
  go_ret
  exact ⟨rfl, rfl⟩
end Go.Proofs.Ytbagicjimfhmeaa.Cl
