/- queue: requests compared; Drop of nobody; two queues that lie apart. -/
import Derived.Test.YtibpipppabommaaQ5
set_option linter.unusedVariables false
set_option linter.unusedSimpArgs false
namespace Go.Proofs.Ytibpipppabommaa.Cl
open Go Go.Proofs Go.RowKit Fl

set_option maxRecDepth 100000 in
set_option maxHeartbeats 2000000 in
theorem same_yes (r : Rq) (u v : Value) (w : World) (hu : Rd w u (bs r.d)) (hv : Rd w v (bs r.d)) :
    Calls Try.prog 27 #[rqV r u, rqV r v] w fun e w' => e = .returned (.bool true) ∧ Below w.heap.size w w' := by
  obtain ⟨au, cu, eu⟩ : ∃ a c, u = .slice a r.d.length c := by obtain ⟨a, c, e, _⟩ := hu; exact ⟨a, c, by rw [e, bs_length]⟩
  obtain ⟨av, cv, ev⟩ : ∃ a c, v = .slice a r.d.length c := by obtain ⟨a, c, e, _⟩ := hv; exact ⟨a, c, by rw [e, bs_length]⟩
  subst eu ev
  go_enter Try.func27, Try.ntmps27
  go_wp2_with (refine wp_want rfl fun K hK => ?_; refine wp_rw_box (P := Try.prog) (t := 51) (rqA r (.slice au r.d.length cu)) rfl rfl ?_)
  intro w1 A1 b1 s1
  refine hK _ _ ?_
  clear hK K
  go_wp2_with (refine wp_want rfl fun K hK => ?_; refine wp_rw_box (P := Try.prog) (t := 51) (rqA r (.slice av r.d.length cv)) rfl rfl ?_)
  intro w2 A2 b2 s2
  refine hK _ _ ?_
  clear hK K
  have A1 := A1.later b2
  have b2' := b1.trans (b2.mono b1.size)
  have c10 : w2.cell? ⟨w.heap.size, 0, none⟩ = some (.int .i64 r.kind) := A1.cell 0 _ rfl
  have c11 : w2.cell? ⟨w.heap.size, 1, none⟩ = some (qs r.path) := A1.cell 1 _ rfl
  have c12 : w2.cell? ⟨w.heap.size, 2, none⟩ = some (qs r.to) := A1.cell 2 _ rfl
  have c13 : w2.cell? ⟨w.heap.size, 3, none⟩ = some (.int .i64 r.n) := A1.cell 3 _ rfl
  have c14 : w2.cell? ⟨w.heap.size, 4, none⟩ = some (.int .i64 r.off) := A1.cell 4 _ rfl
  have c15 : w2.cell? ⟨w.heap.size, 5, none⟩ = some (.int .i64 r.len) := A1.cell 5 _ rfl
  have c16 : w2.cell? ⟨w.heap.size, 6, none⟩ = some (.slice au r.d.length cu) := A1.cell 6 _ rfl
  have c20 : w2.cell? ⟨w1.heap.size, 0, none⟩ = some (.int .i64 r.kind) := A2.cell 0 _ rfl
  have c21 : w2.cell? ⟨w1.heap.size, 1, none⟩ = some (qs r.path) := A2.cell 1 _ rfl
  have c22 : w2.cell? ⟨w1.heap.size, 2, none⟩ = some (qs r.to) := A2.cell 2 _ rfl
  have c23 : w2.cell? ⟨w1.heap.size, 3, none⟩ = some (.int .i64 r.n) := A2.cell 3 _ rfl
  have c24 : w2.cell? ⟨w1.heap.size, 4, none⟩ = some (.int .i64 r.off) := A2.cell 4 _ rfl
  have c25 : w2.cell? ⟨w1.heap.size, 5, none⟩ = some (.int .i64 r.len) := A2.cell 5 _ rfl
  have c26 : w2.cell? ⟨w1.heap.size, 6, none⟩ = some (.slice av r.d.length cv) := A2.cell 6 _ rfl
  have k1 := run_string_of (P := Try.prog) (hu.below b2') 49 5 9 Try.underlying49 Try.underlying5 Try.underlying9
  have k2 := run_string_of (P := Try.prog) (hv.below b2') 49 5 9 Try.underlying49 Try.underlying5 Try.underlying9
  go_wp2_with fail
  go_ret
  exact ⟨rfl, b2'⟩
/-- nobody waits: nobody goes -/
theorem qDrop_no {w : World} {B g gl : Nat} {vs : List Value} {L : List (List As)} (hq : QR w B g gl vs L) (label s : Int) (h0 : lenQ L label = 0) :
    Calls Try.prog 28 #[qp g, .int .i64 label, .int .i64 s] w fun e w' => e = .returned (.int .i64 0) ∧ Below w.heap.size w w' := by
  go_enter Try.func28, Try.ntmps28
  go_wp2_with fail
  have hb := below_new w (.cells #[.int .i64 s] 3)
  have hq1 := hq.frm (Frm.of_below (fun _ => False) hb) (Keep8.of_below hb) fun _ _ h => h
  have hl := qLen_any hq1 label
  rw [h0] at hl
  refine hl.mono ?_
  rintro e w' ⟨rfl, rfl⟩
  go_wp2_with fail
  go_ret
  exact ⟨rfl, hb⟩
/-! ### two queues, beside blocks Z that stay -/
structure Q2 (B : Nat) (Z : Nat → Prop) (w : World) (g1 : Nat) (C1 : List (List (Int × Rq))) (g2 : Nat) (C2 : List (List (Int × Rq))) : Prop where
  s1 : Small C1
  s2 : Small C2
  z : ∀ k, Z k → k < w.heap.size
  two : ∃ F1 F2 : Nat → Prop, QP w B g1 F1 C1 ∧ QP w B g2 F2 C2 ∧ (∀ k, F1 k → B ≤ k ∧ k < w.heap.size ∧ ¬ Z k) ∧ (∀ k, F2 k → B ≤ k ∧ k < w.heap.size ∧ ¬ Z k) ∧ ∀ k, F1 k → ¬ F2 k
theorem QP.frm {F G : Nat → Prop} {w w' : World} {B g : Nat} {C : List (List (Int × Rq))} (h : QP w B g G C) (hf : Frm F w w') (hk : Keep8 w w') (hn : ∀ k, k < w.heap.size → G k → ¬ F k) : QP w' B g G C := by
  obtain ⟨L, h, e⟩ := h
  exact ⟨L, h.frm hf hk hn, e⟩
theorem QP.below {G : Nat → Prop} {w w' : World} {B g : Nat} {C : List (List (Int × Rq))} (h : QP w B g G C) (hb : Below w.heap.size w w') : QP w' B g G C := h.frm (Frm.of_below (fun _ => False) hb) (Keep8.of_below hb) fun _ _ _ h => h
theorem QP.mono {G G' : Nat → Prop} {w : World} {B g : Nat} {C : List (List (Int × Rq))} (h : QP w B g G C) (hG : ∀ k, k < w.heap.size → G k → G' k) : QP w B g G' C := by
  obtain ⟨L, ⟨gl, vs, hq, hF⟩, e⟩ := h
  refine ⟨L, ⟨gl, vs, hq, fun k hk => hG k ?_ (hF k hk)⟩, e⟩
  rcases hk with rfl | rfl | ⟨v, hv, hb⟩
  · exact hq.q.lt
  · exact hq.l.lt
  · obtain ⟨i, hi, rfl⟩ := List.mem_iff_getElem.1 hv
    exact (hq.row i hi (by rw [← hq.len]; exact hi)).1.lt k hb
theorem QP.lower {G : Nat → Prop} {w : World} {B B' g : Nat} {C : List (List (Int × Rq))} (h : QP w B g G C) (hB : B' ≤ B) : QP w B' g G C := by
  obtain ⟨L, ⟨gl, vs, hq, hF⟩, e⟩ := h
  exact ⟨L, ⟨gl, vs, { hq with row := fun i hi hi' => ⟨(hq.row i hi hi').1.mono hB, (hq.row i hi hi').2⟩, bg := Nat.le_trans hB hq.bg, bl := Nat.le_trans hB hq.bl }, hF⟩, e⟩
section
variable {B : Nat} {Z : Nat → Prop} {w w' : World} {g1 g2 : Nat} {C1 C2 : List (List (Int × Rq))}
theorem Q2.swap (h : Q2 B Z w g1 C1 g2 C2) : Q2 B Z w g2 C2 g1 C1 := by
  obtain ⟨s1, s2, z, F1, F2, a, b, c, d, e⟩ := h
  exact ⟨s2, s1, z, F2, F1, b, a, d, c, fun k hk hk' => e k hk' hk⟩
theorem Q2.wide (h : Q2 B Z w g1 C1 g2 C2) (hb : Below w.heap.size w w') (Z' : Nat → Prop) (hZ : ∀ k, Z' k → (Z k ∨ w.heap.size ≤ k) ∧ k < w'.heap.size) : Q2 B Z' w' g1 C1 g2 C2 := by
  obtain ⟨s1, s2, z, F1, F2, a, b, c, d, e⟩ := h
  refine ⟨s1, s2, fun k hk => (hZ k hk).2, F1, F2, a.below hb, b.below hb, fun k hk => ⟨(c k hk).1, Nat.lt_of_lt_of_le (c k hk).2.1 hb.size, fun hz => ?_⟩, fun k hk => ⟨(d k hk).1, Nat.lt_of_lt_of_le (d k hk).2.1 hb.size, fun hz => ?_⟩, e⟩
  · rcases (hZ k hz).1 with h | h
    · exact (c k hk).2.2 h
    · have := (c k hk).2.1; omega
  · rcases (hZ k hz).1 with h | h
    · exact (d k hk).2.2 h
    · have := (d k hk).2.1; omega
theorem Q2.below (h : Q2 B Z w g1 C1 g2 C2) (hb : Below w.heap.size w w') : Q2 B Z w' g1 C1 g2 C2 := h.wide hb Z fun k hk => ⟨.inl hk, Nat.lt_of_lt_of_le (h.z k hk) hb.size⟩
theorem Q2.step {F' : Nat → Prop} {C1' : List (List (Int × Rq))} {F1 F2 : Nat → Prop} (z : ∀ k, Z k → k < w.heap.size) (b : QP w B g2 F2 C2) (c : ∀ k, F1 k → B ≤ k ∧ k < w.heap.size ∧ ¬ Z k) (d : ∀ k, F2 k → B ≤ k ∧ k < w.heap.size ∧ ¬ Z k) (e : ∀ k, F1 k → ¬ F2 k) (hs1 : Small C1') (hs2 : Small C2) (hB : B ≤ w.heap.size)
    (hq : QP w' B g1 F' C1') (st : Step F1 w w' F') : Q2 B Z w' g1 C1' g2 C2 ∧ Below B w w' ∧ Frm (fun k => ¬ Z k) w w' := by
  refine ⟨⟨hs1, hs2, fun k hk => Nat.lt_of_lt_of_le (z k hk) st.size, fun k => F' k ∧ k < w'.heap.size, F2, hq.mono fun k hk hF => ⟨hF, hk⟩, b.frm st.1 st.2.1 (fun k _ h2 h1 => e k h1 h2), fun k hk => ⟨?_, hk.2, fun hz => ?_⟩, fun k hk => ⟨(d k hk).1, Nat.lt_of_lt_of_le (d k hk).2.1 st.size, (d k hk).2.2⟩, fun k hk h2 => ?_⟩, st.1.below B (fun k _ hk => (c k hk).1) hB, st.1.mono fun k _ hk => (c k hk).2.2⟩
  · rcases st.2.2 k hk.1 with h | h
    · exact (c k h).1
    · omega
  · rcases st.2.2 k hk.1 with h | h
    · exact (c k h).2.2 hz
    · have := z k hz
      omega
  · rcases st.2.2 k hk.1 with h | h
    · exact e k h h2
    · have := (d k h2).2.1
      omega
theorem q2Push (h : Q2 B Z w g1 C1 g2 C2) (hB : B ≤ w.heap.size) (label s : Int) (r : Rq) (dv : Value) (hd : Byt w dv r.d) (hl : r.d.length ≤ 100000) :
    Calls Try.prog 29 #[qp g1, .int .i64 label, .int .i64 s, rqV r dv] w fun e w' => e = .returned (.bool (inC C1 label && decide ((rowC C1 label).length < 20))) ∧ Q2 B Z w' g1 (pushC C1 label s r) g2 C2 ∧ Below B w w' ∧ Frm (fun k => ¬ Z k) w w' := by
  obtain ⟨s1, s2, z, F1, F2, a, b, c, d, e⟩ := h
  refine (qPush a hB label s r dv hd hl).mono ?_
  rintro e' w' ⟨rfl, F', hq, st⟩
  exact ⟨rfl, Q2.step z b c d e (s1.push label s r) s2 hB hq st⟩
theorem q2Pop (h : Q2 B Z w g1 C1 g2 C2) (hB : B ≤ w.heap.size) (label : Int) :
    Calls Try.prog 26 #[qp g1, .int .i64 label] w fun e w' => ∃ s r dv ok, e = .returned (.tuple #[.int .i64 s, rqV r dv, .bool ok]) ∧ Byt w' dv r.d ∧ PopIs (rowC C1 label) s r ok ∧ Q2 B Z w' g1 (popC C1 label) g2 C2 ∧ Below B w w' ∧ Frm (fun k => ¬ Z k) w w' ∧ Keep8 w w' := by
  obtain ⟨s1, s2, z, F1, F2, a, b, c, d, e⟩ := h
  refine (qPop_any a s1 hB label).mono ?_
  rintro e' w' ⟨s, r, dv, ok, rfl, hy, hp, F', hq, st⟩
  have := Q2.step z b c d e (s1.pop label) s2 hB hq st
  exact ⟨s, r, dv, ok, rfl, hy, hp, this.1, this.2.1, this.2.2, st.2.1⟩
theorem q2Len (h : Q2 B Z w g1 C1 g2 C2) (label : Int) : Calls Try.prog 30 #[qp g1, .int .i64 label] w fun e w' => e = .returned (.int .i64 ((rowC C1 label).length : Nat)) ∧ w = w' := by
  obtain ⟨s1, s2, z, F1, F2, a, b, c, d, e⟩ := h
  exact qLen a label
end
end Go.Proofs.Ytibpipppabommaa.Cl
