/- queue: begun; the law QueueApart. -/
import Derived.Test.YtibpipppabommaaQ6
set_option linter.unusedVariables false
set_option linter.unusedSimpArgs false
namespace Go.Proofs.Ytibpipppabommaa.Cl
open Go Go.Proofs Go.RowKit Fl

def rqN (k n : Int) : Rq := ⟨k, [], [], n, 0, 0, []⟩
theorem byt_nil (w : World) : Byt w (.slice none 0 0) [] := ⟨Rd.nil _, fun a n c e h => by cases e⟩
theorem QP.empty {w : World} {B g : Nat} {F : Nat → Prop} {C : List (List (Int × Rq))} (h : QP w B g F C) (label : Int) (h0 : rowC C label = []) : ∃ gl vs L, QR w B g gl vs L ∧ lenQ L label = 0 := by
  obtain ⟨L, ⟨gl, vs, hq, hF⟩, rfl⟩ := h
  exact ⟨gl, vs, L, hq, by rw [lenQ_con, h0]; rfl⟩
theorem small_new (k : Nat) : Small (List.replicate k []) := fun l hl => by rw [List.eq_of_mem_replicate hl]; exact Nat.zero_le _
/-- one queue, beside blocks Z that stay -/
structure Q1 (B : Nat) (Z : Nat → Prop) (w : World) (g : Nat) (C : List (List (Int × Rq))) : Prop where
  s : Small C
  z : ∀ k, Z k → k < w.heap.size
  one : ∃ F : Nat → Prop, QP w B g F C ∧ ∀ k, F k → B ≤ k ∧ k < w.heap.size ∧ ¬ Z k
section
variable {B : Nat} {Z : Nat → Prop} {w w' : World} {g : Nat} {C : List (List (Int × Rq))}
theorem Q1.wide (h : Q1 B Z w g C) (hb : Below w.heap.size w w') (Z' : Nat → Prop) (hZ : ∀ k, Z' k → (Z k ∨ w.heap.size ≤ k) ∧ k < w'.heap.size) : Q1 B Z' w' g C := by
  obtain ⟨s, z, F, a, c⟩ := h
  refine ⟨s, fun k hk => (hZ k hk).2, F, a.below hb, fun k hk => ⟨(c k hk).1, Nat.lt_of_lt_of_le (c k hk).2.1 hb.size, fun hz => ?_⟩⟩
  rcases (hZ k hz).1 with h | h
  · exact (c k hk).2.2 h
  · have := (c k hk).2.1; omega
theorem Q1.below (h : Q1 B Z w g C) (hb : Below w.heap.size w w') : Q1 B Z w' g C := h.wide hb Z fun k hk => ⟨.inl hk, Nat.lt_of_lt_of_le (h.z k hk) hb.size⟩
theorem Q1.step {C' : List (List (Int × Rq))} {F F' : Nat → Prop} (z : ∀ k, Z k → k < w.heap.size) (c : ∀ k, F k → B ≤ k ∧ k < w.heap.size ∧ ¬ Z k) (hs : Small C') (hB : B ≤ w.heap.size) (hq : QP w' B g F' C') (st : Step F w w' F') : Q1 B Z w' g C' ∧ Below B w w' ∧ Frm (fun k => ¬ Z k) w w' := by
  refine ⟨⟨hs, fun k hk => Nat.lt_of_lt_of_le (z k hk) st.size, fun k => F' k ∧ k < w'.heap.size, hq.mono fun k hk hF => ⟨hF, hk⟩, fun k hk => ⟨?_, hk.2, fun hz => ?_⟩⟩, st.1.below B (fun k _ hk => (c k hk).1) hB, st.1.mono fun k _ hk => (c k hk).2.2⟩
  · rcases st.2.2 k hk.1 with h | h
    · exact (c k h).1
    · omega
  · rcases st.2.2 k hk.1 with h | h
    · exact (c k h).2.2 hz
    · have := z k hz
      omega
theorem q1Push (h : Q1 B Z w g C) (hB : B ≤ w.heap.size) (label s : Int) (r : Rq) (dv : Value) (hd : Byt w dv r.d) (hl : r.d.length ≤ 100000) :
    Calls Try.prog 29 #[qp g, .int .i64 label, .int .i64 s, rqV r dv] w fun e w' => e = .returned (.bool (inC C label && decide ((rowC C label).length < 20))) ∧ Q1 B Z w' g (pushC C label s r) ∧ Below B w w' ∧ Frm (fun k => ¬ Z k) w w' := by
  obtain ⟨s1, z, F1, a, c⟩ := h
  refine (qPush a hB label s r dv hd hl).mono ?_
  rintro e' w' ⟨rfl, F', hq, st⟩
  exact ⟨rfl, Q1.step z c (s1.push label s r) hB hq st⟩
theorem q1Pop (h : Q1 B Z w g C) (hB : B ≤ w.heap.size) (label : Int) :
    Calls Try.prog 26 #[qp g, .int .i64 label] w fun e w' => ∃ s r dv ok, e = .returned (.tuple #[.int .i64 s, rqV r dv, .bool ok]) ∧ Byt w' dv r.d ∧ PopIs (rowC C label) s r ok ∧ Q1 B Z w' g (popC C label) ∧ Below B w w' ∧ Frm (fun k => ¬ Z k) w w' ∧ Keep8 w w' := by
  obtain ⟨s1, z, F1, a, c⟩ := h
  refine (qPop_any a s1 hB label).mono ?_
  rintro e' w' ⟨s, r, dv, ok, rfl, hy, hp, F', hq, st⟩
  have := Q1.step z c (s1.pop label) hB hq st
  exact ⟨s, r, dv, ok, rfl, hy, hp, this.1, this.2.1, this.2.2, st.2.1⟩
theorem q1Len (h : Q1 B Z w g C) (label : Int) : Calls Try.prog 30 #[qp g, .int .i64 label] w fun e w' => e = .returned (.int .i64 ((rowC C label).length : Nat)) ∧ w = w' := by
  obtain ⟨s1, z, F1, a, c⟩ := h
  exact qLen a label
theorem q1Drop0 (h : Q1 B Z w g C) (label s : Int) (h0 : rowC C label = []) : Calls Try.prog 28 #[qp g, .int .i64 label, .int .i64 s] w fun e w' => e = .returned (.int .i64 0) ∧ Below w.heap.size w w' := by
  obtain ⟨s1, z, F1, a, c⟩ := h
  obtain ⟨gl, vs, L, hq, hl⟩ := a.empty label h0
  exact qDrop_no hq label s hl
def NoZ (k : Nat) : Prop := False
theorem q1New (k : Nat) (h1 : 1 ≤ k) (h8 : k ≤ 8) (w : World) (hB : B ≤ w.heap.size) : Calls Try.prog 25 #[.int .i64 (k : Int)] w fun e w' => ∃ g, e = .returned (qp g) ∧ Q1 B NoZ w' g (List.replicate k []) ∧ Below w.heap.size w w' := by
  refine (qNew_k k h1 h8 w).mono ?_
  rintro e w' ⟨g, rfl, q, b⟩
  exact ⟨g, rfl, ⟨small_new k, fun _ h => h.elim, fun j => w.heap.size ≤ j ∧ j < w'.heap.size, (q.lower hB).mono fun j hj h => ⟨h, hj⟩, fun j hj => ⟨Nat.le_trans hB hj.1, hj.2, fun h => h⟩⟩, b⟩
end
def QC1 : List (List (Int × Rq)) := [[], [((7 : Int), rqN 3 0)]]
def QC0 : List (List (Int × Rq)) := [[], []]
theorem qc_facts : (inC QC0 1 && decide ((rowC QC0 1).length < 20)) = true ∧ pushC QC0 1 7 (rqN 3 0) = QC1 ∧ popC QC1 1 = QC0 ∧ popC QC0 1 = QC0 ∧ rowC QC1 1 = [((7 : Int), rqN 3 0)] ∧ rowC QC0 1 = [] ∧ rowC QC0 0 = [] ∧ (inC QC0 2 && decide ((rowC QC0 2).length < 20)) = false ∧ pushC QC0 2 1 (rqN 0 0) = QC0 := ⟨by decide, rfl, rfl, rfl, rfl, rfl, rfl, by decide, rfl⟩
set_option maxRecDepth 100000 in
set_option maxHeartbeats 4000000 in
theorem qBegun_any (w : World) : Calls Try.prog 24 #[] w fun e w' => e = .returned (.bool true) ∧ Below w.heap.size w w' := by
  obtain ⟨f1, f2, f3, f4, f5, f6, f7, f8, f9⟩ := qc_facts
  have F1 := Lib.hid f1
  have F2 := Lib.hid f2
  have F3 := Lib.hid f3
  have F4 := Lib.hid f4
  have F5 := Lib.hid f5
  have F6 := Lib.hid f6
  have F7 := Lib.hid f7
  have F8 := Lib.hid f8
  have F9 := Lib.hid f9
  clear f1 f2 f3 f4 f5 f6 f7 f8 f9
  go_enter Try.func24, Try.ntmps24
  go_wp2_with fail
  refine (q1New (B := w.heap.size) 2 (by decide) (by decide) w (Nat.le_refl _)).mono ?_
  rintro e w1 ⟨g, rfl, q1, b1⟩
  have q1 : Q1 w.heap.size NoZ w1 g QC0 := q1
  go_wp2_with fail
  refine (q1Push q1 b1.size 1 7 (rqN 3 0) (.slice none 0 0) (byt_nil _) (by decide)).mono ?_
  rintro e w2 ⟨rfl, q2, b2, _⟩
  rw [F2.out] at q2
  rw [F1.out]
  have b2 := b1.trans b2
  clear q1 b1
  go_wp2_with fail
  refine (q1Pop q2 b2.size 1).mono ?_
  rintro e w3 ⟨s, r, dv, ok, rfl, hy, hp, q3, b3, _, _⟩
  rw [F5.out] at hp
  rw [F3.out] at q3
  obtain ⟨rfl, rfl, rfl⟩ : s = 7 ∧ r = rqN 3 0 ∧ ok = true := hp
  have b3 := b2.trans b3
  clear q2 b2
  obtain ⟨da, dc, rfl⟩ : ∃ da dc, dv = .slice da 0 dc := by obtain ⟨a, c, e, _⟩ := hy.1; exact ⟨a, c, by rw [e]; rfl⟩
  go_wp2_with (refine wp_want rfl fun K hK => ?_; refine wp_rw_alloc (P := Try.prog) (t := 51) (rqV rq0 (.slice none 0 0)) infoRq_zero rfl ?_)
  intro w4 A4 b4 s4
  refine hK _ _ ?_
  clear hK K
  go_wp2_with (refine wp_want rfl fun K hK => ?_; refine wp_rw_store (P := Try.prog) (cs := rqA (rqN 3 0) (.slice da 0 dc)) A4 infoRq_size rfl (rqA_all _ _ rfl) rfl rfl rfl ?_)
  intro w5 A5 g5 z5
  refine hK _ _ ?_
  clear hK K
  have b5 := below_row b4 g5 b4.size (Nat.le_refl _)
  have q5 := q3.wide b5 (fun k => k = w3.heap.size) fun k hk => ⟨.inr (Nat.le_of_eq hk.symm), by rw [hk]; exact A5.lt⟩
  have b5 := b3.trans (b5.mono b3.size)
  clear A4 b4 s4 g5 z5 q3 b3 hy
  go_wp2_with fail
  refine (q1Pop q5 b5.size 1).mono ?_
  rintro e w6 ⟨s, r, dv, ok, rfl, hy, hp, q6, b6, f6, _⟩
  rw [F6.out] at hp
  rw [F4.out] at q6
  obtain ⟨rfl, rfl, rfl⟩ : s = 0 ∧ r = rq0 ∧ ok = false := hp
  have A6 := f6.row A5 (fun h => h rfl)
  have b6 := b5.trans b6
  clear q5 b5 f6 A5
  obtain ⟨da2, dc2, rfl⟩ : ∃ da dc, dv = .slice da 0 dc := by obtain ⟨a, c, e, _⟩ := hy.1; exact ⟨a, c, by rw [e]; rfl⟩
  go_wp2_with (refine wp_want rfl fun K hK => ?_; refine wp_rw_alloc (P := Try.prog) (t := 51) (rqV rq0 (.slice none 0 0)) infoRq_zero rfl ?_)
  intro w7 A7 b7 s7
  refine hK _ _ ?_
  clear hK K
  go_wp2_with (refine wp_want rfl fun K hK => ?_; refine wp_rw_store (P := Try.prog) (cs := rqA rq0 (.slice da2 0 dc2)) A7 infoRq_size rfl (rqA_all _ _ rfl) rfl rfl rfl ?_)
  intro w8 A8 g8 z8
  refine hK _ _ ?_
  clear hK K
  have b8 := below_row b7 g8 b7.size (Nat.le_refl _)
  have q8 := q6.below b8
  have A6 := A6.later b8
  have b8 := b6.trans (b8.mono b6.size)
  clear A7 b7 s7 g8 z8 q6 b6 hy A8
  have c8 : w8.cell? ⟨w3.heap.size, 0, none⟩ = some (.int .i64 3) := A6.cell 0 _ rfl
  have hl := q1Len q8 1
  rw [F6.out] at hl
  go_wp2_with fail
  refine hl.mono ?_
  rintro e w' ⟨rfl, rfl⟩
  go_wp2_with fail
  refine (q1Push q8 b8.size 2 1 (rqN 0 0) (.slice none 0 0) (byt_nil _) (by decide)).mono ?_
  rintro e w9 ⟨rfl, q9, b9, _⟩
  rw [F9.out] at q9
  rw [F8.out]
  have b9 := b8.trans b9
  clear c8 A6 q8 b8 hl
  go_wp2_with fail
  refine (q1Drop0 q9 0 1 F7.out).mono ?_
  rintro e w10 ⟨rfl, b10⟩
  have b10 := b9.trans (b10.mono b9.size)
  clear q9 b9
  go_wp2_with fail
  go_ret
  exact ⟨rfl, b10⟩
end Go.Proofs.Ytibpipppabommaa.Cl
