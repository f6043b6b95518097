/- queue: New; Pop by what a queue holds. -/
import Derived.Test.YtibpipppabommaaQ4
set_option linter.unusedVariables false
set_option linter.unusedSimpArgs false
namespace Go.Proofs.Ytibpipppabommaa.Cl
open Go Go.Proofs Go.RowKit Fl

def popC (C : List (List (Int × Rq))) (label : Int) : List (List (Int × Rq)) := if inC C label then C.set label.toNat (C.getD label.toNat []).tail else C
def PopIs (l : List (Int × Rq)) (s : Int) (r : Rq) (ok : Bool) : Prop := match l with
  | [] => s = 0 ∧ r = rq0 ∧ ok = false
  | x :: _ => s = x.1 ∧ r = x.2 ∧ ok = true
theorem Step.wider {F F2 : Nat → Prop} {w w' : World} {G : Nat → Prop} (h : Step F w w' G) (hF : ∀ k, F k → F2 k) : Step F2 w w' G := ⟨h.1.mono fun k _ hk => hF k hk, h.2.1, fun k hk => (h.2.2 k hk).imp (hF k) id⟩
def Small (C : List (List (Int × Rq))) : Prop := ∀ l ∈ C, l.length ≤ 20
theorem qPop_any {w : World} {B g : Nat} {F : Nat → Prop} {C : List (List (Int × Rq))} (h : QP w B g F C) (hs : Small C) (hB : B ≤ w.heap.size) (label : Int) :
    Calls Try.prog 26 #[qp g, .int .i64 label] w fun e w' => ∃ s r dv ok, e = .returned (.tuple #[.int .i64 s, rqV r dv, .bool ok]) ∧ Byt w' dv r.d ∧ PopIs (rowC C label) s r ok ∧ ∃ F', QP w' B g F' (popC C label) ∧ Step F w w' F' := by
  obtain ⟨L, ⟨gl, vs, hq, hG⟩, rfl⟩ := h
  by_cases h0 : lenQ L label = 0
  · refine (qPop_no hq label h0).mono ?_
    rintro e w' ⟨rfl, hb⟩
    have hr : rowC (conL L) label = [] := List.eq_nil_of_length_eq_zero (by rw [← lenQ_con]; exact h0)
    refine ⟨0, rq0, _, false, rfl, ⟨Rd.nil _, fun a n c e h => by cases e⟩, by rw [hr]; exact ⟨rfl, rfl, rfl⟩, F, ⟨L, ⟨gl, vs, hq.frm (Frm.of_below (fun _ => False) hb) (Keep8.of_below hb) fun _ _ h => h, hG⟩, ?_⟩, Step.of_below hb⟩
    unfold popC
    split
    · rename_i hin
      unfold rowC at hr
      rw [if_pos hin] at hr
      rw [hr]
      have hlt : label.toNat < (conL L).length := by
        unfold inC at hin
        simp only [Bool.and_eq_true, decide_eq_true_eq] at hin
        omega
      apply List.ext_getElem?
      intro j
      rw [List.getElem?_set]
      split
      · rename_i e
        subst e
        rw [List.getD_eq_getElem?_getD, List.getElem?_eq_getElem hlt] at hr
        rw [List.getElem?_eq_getElem hlt]
        first | (rw [if_pos hlt]; simpa using hr) | simpa using hr
      · rfl
    · rfl
  · have hin : inQ L label = true := by
      unfold lenQ at h0
      by_cases h : inQ L label = true
      · exact h
      · rw [if_neg h] at h0; exact absurd rfl h0
    obtain ⟨i, rfl, hi⟩ := inQ_nat hin
    have hlen : lenQ L i = (L[i]).length := by unfold lenQ; rw [hin, if_pos rfl, Int.toNat_natCast, List.getD_eq_getElem?_getD, List.getElem?_eq_getElem hi]; rfl
    obtain ⟨x, l, hx⟩ : ∃ x l, L[i] = x :: l := by
      cases hL : L[i] with
      | nil => rw [hlen, hL] at h0; exact absurd rfl h0
      | cons x l => exact ⟨x, l, rfl⟩
    have hsm : l.length ≤ 1000 := by
      have := hs _ (show (L[i]).map (fun x => (x.s, x.r)) ∈ conL L from List.mem_map.2 ⟨_, List.getElem_mem hi, rfl⟩)
      rw [List.length_map, hx, List.length_cons] at this
      omega
    refine (qPop_yes hq hB i hi x l hx hsm).mono ?_
    rintro e w' ⟨rfl, ho, vs', hq', st⟩
    refine ⟨x.s, x.r, x.v, true, rfl, ho, ?_, _, ⟨L.set i l, ⟨gl, vs', hq', fun k hk => hk⟩, ?_⟩, st.wider hG⟩
    · unfold rowC
      rw [inC_con, hin, if_pos rfl, Int.toNat_natCast, con_get i hi, hx]
      exact ⟨rfl, rfl, rfl⟩
    · unfold popC
      rw [inC_con, hin, if_pos rfl, Int.toNat_natCast, con_set, con_get i hi, hx]
      rfl
theorem qPush {w : World} {B g : Nat} {F : Nat → Prop} {C : List (List (Int × Rq))} (h : QP w B g F C) (hB : B ≤ w.heap.size) (label s : Int) (r : Rq) (dv : Value) (hd : Byt w dv r.d) (hl : r.d.length ≤ 100000) :
    Calls Try.prog 29 #[qp g, .int .i64 label, .int .i64 s, rqV r dv] w fun e w' => e = .returned (.bool (inC C label && decide ((rowC C label).length < 20))) ∧ ∃ F', QP w' B g F' (pushC C label s r) ∧ Step F w w' F' := by
  obtain ⟨L, h, rfl⟩ := h
  refine (qPush_any h hB label s r dv hd hl).mono ?_
  rintro e w' ⟨rfl, F', L', h1, h2, h3⟩
  exact ⟨rfl, F', ⟨L', h1, h2⟩, h3⟩
theorem qLen {w : World} {B g : Nat} {F : Nat → Prop} {C : List (List (Int × Rq))} (h : QP w B g F C) (label : Int) :
    Calls Try.prog 30 #[qp g, .int .i64 label] w fun e w' => e = .returned (.int .i64 ((rowC C label).length : Nat)) ∧ w = w' := by
  obtain ⟨L, ⟨gl, vs, hq, hG⟩, rfl⟩ := h
  rw [← lenQ_con]
  exact qLen_any hq label
theorem getD_lt {C : List (List (Int × Rq))} (hs : Small C) (i : Nat) : (C.getD i []).length ≤ 20 := by
  rw [List.getD_eq_getElem?_getD]
  cases h : C[i]? with
  | none => simp
  | some l => exact hs l (List.mem_of_getElem? h)
theorem mem_set_cases {α : Type} {l : List α} {i : Nat} {a b : α} (h : b ∈ l.set i a) : b = a ∨ b ∈ l := mem_set_elimQ h
theorem Small.push {C : List (List (Int × Rq))} (hs : Small C) (label s : Int) (r : Rq) : Small (pushC C label s r) := by
  unfold pushC
  split
  · rename_i h
    intro l hl
    rcases mem_set_elimQ hl with rfl | hl
    · simp only [Bool.and_eq_true, decide_eq_true_eq] at h
      have h2 := h.2
      unfold rowC at h2
      rw [if_pos h.1] at h2
      simp
      have : (C.getD label.toNat []).length < 20 := h2
      rw [List.getD_eq_getElem?_getD] at this
      omega
    · exact hs l hl
  · exact hs
theorem Small.pop {C : List (List (Int × Rq))} (hs : Small C) (label : Int) : Small (popC C label) := by
  unfold popC
  split
  · intro l hl
    rcases mem_set_elimQ hl with rfl | hl
    · have := getD_lt hs label.toNat
      rw [List.length_tail]
      omega
    · exact hs l hl
  · exact hs
theorem underRows : Try.prog.underlying 88 = some (.slice 93) := Try.underlying88
theorem infoQr : (Try.prog.info? 93).map (fun i => (i.zero, i.size, i.bytes)) = some (some (.slice none 0 0), 1, 24) := by kernel_rfl
def NewQ (w : World) (k : Nat) (e : Ending) (w' : World) : Prop := ∃ g, e = .returned (qp g) ∧ QP w' w.heap.size g (fun j => w.heap.size ≤ j) (List.replicate k []) ∧ Below w.heap.size w w'
theorem newQ_end (w w2 : World) (k : Nat) (CS : Array Value) (h1 : 1 ≤ k) (h8 : k ≤ 8) (A2 : RowAt w2 (w.heap.size + 1) 90 #[.slice (some ⟨w.heap.size, 0, none⟩) k k]) (b2 : Below (w.heap.size + 1) (w.alloc (.cells CS 93)) w2) (hC : CS = (List.replicate k (Value.slice none 0 0)).toArray) :
    NewQ w k (.returned (qp (w.heap.size + 1))) w2 := by
  have A1 : RowAt (w.alloc (.cells CS 93)) w.heap.size 93 CS := RowAt.new _ _ _
  have A1 := A1.below b2 (by omega)
  refine ⟨_, rfl, ⟨List.replicate k [], ⟨w.heap.size, List.replicate k (.slice none 0 0), ⟨by rw [List.length_replicate]; exact A2, by rw [← hC]; exact A1, by simp, by simpa using h1, by simpa using h8, fun i hi hi' => ?_, fun i j hi hj hij b hb => ?_, by omega, Nat.le_refl _⟩, ?_⟩, by simp [conL]⟩, (below_new w _).trans (b2.mono (by omega))⟩
  · rw [List.getElem_replicate, List.getElem_replicate]
    exact QRow.nil _ _
  · rw [List.getElem_replicate] at hb
    cases hb
  · rintro b (rfl | rfl | ⟨v, hv, hb⟩)
    · show w.heap.size ≤ _; omega
    · exact Nat.le_refl _
    · rw [List.eq_of_mem_replicate hv] at hb
      cases hb
theorem make_rows (k : Nat) (h8 : k ≤ 8) : ∃ CS : Array Value, Hid (CS = (List.replicate k (Value.slice none 0 0)).toArray) ∧ ∀ w, (Instr.makeSlice 88 (.int .i64 (k : Int)) (.int .i64 (k : Int))).run Try.prog w = .ok (.slice (some ⟨w.heap.size, 0, none⟩) k k) (w.alloc (.cells CS 93)) := by
  obtain ⟨i, hi, hz, hs, hb⟩ := info_parts infoQr
  exact ⟨_, Lib.hid rfl, fun w => run_make_n (P := Try.prog) 88 93 i (.slice none 0 0) underRows hi hz hs rfl k (k : Int) rfl (by rw [hb]; omega) (by omega) w⟩
set_option maxRecDepth 100000 in
set_option maxHeartbeats 1000000 in
theorem qNew_one (labels : Int) (h : labels < 1) (w : World) : Calls Try.prog 25 #[.int .i64 labels] w (NewQ w 1) := by
  obtain ⟨CS, hCS, hmk⟩ := make_rows 1 (by decide)
  rw [show ((1 : Nat) : Int) = 1 from rfl] at hmk
  have h8 : ¬ 8 < labels := by omega
  go_enter Try.func25, Try.ntmps25
  go_wp2_with (refine wp_want rfl fun K hK => ?_; refine wp_rw_box (P := Try.prog) (t := 90) #[.slice (some ⟨w.heap.size, 0, none⟩) 1 1] rfl rfl ?_)
  intro w2 A2 b2 s2
  refine hK _ _ ?_
  clear hK K
  go_wp2_with fail
  go_ret
  refine newQ_end w w2 1 CS (by decide) (by decide) A2 b2 hCS.out
set_option maxRecDepth 100000 in
set_option maxHeartbeats 1000000 in
theorem qNew_eight (labels : Int) (h : 8 < labels) (w : World) : Calls Try.prog 25 #[.int .i64 labels] w (NewQ w 8) := by
  obtain ⟨CS, hCS, hmk⟩ := make_rows 8 (by decide)
  rw [show ((8 : Nat) : Int) = 8 from rfl] at hmk
  have h1 : ¬ labels < 1 := by omega
  go_enter Try.func25, Try.ntmps25
  go_wp2_with (refine wp_want rfl fun K hK => ?_; refine wp_rw_box (P := Try.prog) (t := 90) #[.slice (some ⟨w.heap.size, 0, none⟩) 8 8] rfl rfl ?_)
  intro w2 A2 b2 s2
  refine hK _ _ ?_
  clear hK K
  go_wp2_with fail
  go_ret
  refine newQ_end w w2 8 CS (by decide) (by decide) A2 b2 hCS.out
set_option maxRecDepth 100000 in
set_option maxHeartbeats 1000000 in
theorem qNew_k (k : Nat) (h1 : 1 ≤ k) (h8 : k ≤ 8) (w : World) : Calls Try.prog 25 #[.int .i64 (k : Int)] w (NewQ w k) := by
  obtain ⟨CS, hCS, hmk⟩ := make_rows k h8
  have h1I : (1 : Int) ≤ (k : Int) := by omega
  have h8I : (k : Int) ≤ 8 := by omega
  go_enter Try.func25, Try.ntmps25
  go_wp2_with (refine wp_want rfl fun K hK => ?_; refine wp_rw_box (P := Try.prog) (t := 90) #[.slice (some ⟨w.heap.size, 0, none⟩) k k] rfl rfl ?_)
  intro w2 A2 b2 s2
  refine hK _ _ ?_
  clear hK K
  go_wp2_with fail
  go_ret
  refine newQ_end w w2 k CS h1 h8 A2 b2 hCS.out
end Go.Proofs.Ytibpipppabommaa.Cl
