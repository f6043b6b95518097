/- queue: one row put anew; bytes cloned; Push. -/
import Derived.Test.YtibpipppabommaaQ1
import Derived.Test.YtibpipppabommaaZigS
import Derived.WalkSpells
import Derived.Lib.BufferMore
import Derived.Lib.LazyBuf
import Derived.Lib.Hide
set_option linter.unusedVariables false
set_option linter.unusedSimpArgs false
namespace Go.Proofs.Ytibpipppabommaa.Cl
open Go Go.Proofs Go.RowKit Fl

theorem mem_set_elimQ {α : Type} {l : List α} {i : Nat} {a b : α} (h : b ∈ l.set i a) : b = a ∨ b ∈ l := by
  rw [List.mem_iff_getElem] at h
  obtain ⟨j, hj, e⟩ := h
  rw [List.getElem_set] at e
  split at e
  · exact .inl e.symm
  · exact .inr (e ▸ List.getElem_mem _)
theorem SlO.notB {w : World} {B sz n : Nat} {e : TypeId} {v : Value} {xs : List Value} (h : SlO w B e sz v n xs) (ht : e ≠ 5) : ∀ k, v.ownBlock = some k → ¬ IsB w k := by
  intro k hk
  rcases h.2 with ⟨rfl, _⟩ | ⟨g, off, cap, cur, rfl, _, hg, _⟩
  · cases hk
  · obtain rfl := Option.some.inj hk
    exact hg.notB ht
/-- one row of a queue is another one -/
theorem QR.set {w w6 w7 : World} {B g gl : Nat} {vs : List Value} {L : List (List As)} (h : QR w B g gl vs L) (hB : B ≤ w.heap.size) (i : Nat) (hi : i < vs.length) (v' : Value) (l' : List As) (t : Onto w vs[i] w6 v') (hr : QRow w6 B v' l')
    (hg : w6.grownBy w7 (some gl)) (hA : RowAt w7 gl 93 (vs.set i v').toArray) : QR w7 B g gl (vs.set i v') (L.set i l') ∧ Step (QFp g gl vs) w w7 (QFp g gl (vs.set i v')) := by
  have hiL : i < L.length := by rw [← h.len]; exact hi
  have hro := h.row i hi hiL
  have hk6 : Keep8 w w6 := Keep8.of_grown t.1 fun k hk => hro.1.notB (by decide) k hk
  have l6 : RowAt w6 gl 93 vs.toArray := t.row h.l (hro.1.notRow h.l (by decide))
  have q6 := t.row h.q (hro.1.notRow h.q (by decide))
  have hk7 : Keep8 w6 w7 := Keep8.of_grown hg fun k hk => by obtain rfl := Option.some.inj hk; exact l6.notB (by decide)
  have hrow : ∀ {v : Value} {l : List As}, QRow w6 B v l → QRow w7 B v l := fun {v l} hq => ⟨hq.1.grown hg (hq.1.notRow l6 (by decide)), fun x hx => (hq.2 x hx).keep hk7⟩
  have gne : g ≠ gl := by
    rintro rfl
    have h1 := h.q
    have h2 := h.l
    unfold RowAt at h1 h2
    rw [h1] at h2
    injection h2 with h2
    injection h2 with _ h2 _
    exact absurd h2 (by decide)
  have other : ∀ j (hj : j < vs.length) (hj' : j < L.length), j ≠ i → QRow w6 B vs[j] L[j] := fun j hj hj' hji => ⟨(h.row j hj hj').1.heap fun k hk => t.1.block k ((h.row j hj hj').1.lt k hk) fun e => h.sep j i hj hi hji k hk e.symm, fun x hx => ((h.row j hj hj').2 x hx).keep hk6⟩
  refine ⟨⟨?_, hA, by simp [h.len], by simpa using h.pos, by simpa using h.le, fun j hj hj' => ?_, fun j k hj hk hjk b hb => ?_, h.bg, h.bl⟩, ?_⟩
  · rw [List.length_set]
    exact q6.grown hg gne
  · rw [List.length_set] at hj hj'
    rw [List.getElem_set, List.getElem_set]
    by_cases e : i = j
    · rw [if_pos e, if_pos e]; exact hrow hr
    · rw [if_neg e, if_neg e]; exact hrow (other j hj hj' fun e' => e e'.symm)
  · rw [List.length_set] at hj hk
    rw [List.getElem_set] at hb
    rw [List.getElem_set]
    by_cases e : i = j
    · rw [if_pos e] at hb
      rw [if_neg (by omega)]
      intro hb2
      rcases t.2 b hb with e2 | e2
      · exact h.sep i k hi hk (by omega) b e2 hb2
      · have := (h.row k hk (by rw [← h.len]; exact hk)).1.lt b hb2
        omega
    · rw [if_neg e] at hb
      by_cases e3 : i = k
      · rw [if_pos e3]
        intro hb2
        rcases t.2 b hb2 with e2 | e2
        · exact h.sep j i hj hi (fun e' => e e'.symm) b hb e2
        · have := (h.row j hj (by rw [← h.len]; exact hj)).1.lt b hb
          omega
      · rw [if_neg e3]
        exact h.sep j k hj hk hjk b hb
  · refine ⟨(Frm.of_grown (F := QFp g gl vs) t.1 fun k hk => .inr (.inr ⟨_, List.getElem_mem hi, hk⟩)).step (Frm.of_grown (F := fun k => k = gl) hg fun k hk => (Option.some.inj hk).symm) fun j _ hj => .inr (.inl hj), hk6.trans hk7, fun k hk => ?_⟩
    rcases hk with rfl | rfl | ⟨v, hv, hb⟩
    · exact .inl (.inl rfl)
    · exact .inl (.inr (.inl rfl))
    · rcases mem_set_elimQ hv with rfl | hv
      · rcases t.2 k hb with e2 | e2
        · exact .inl (.inr (.inr ⟨_, List.getElem_mem hi, e2⟩))
        · exact .inr e2
      · exact .inl (.inr (.inr ⟨v, hv, hb⟩))
set_option maxRecDepth 100000 in
set_option maxHeartbeats 1000000 in
theorem cloneB_any (v : Value) (l : List UInt8) (w : World) (hv : Rd w v (bs l)) (hl : l.length ≤ 100000) : Calls Try.prog 55 #[v] w fun e w' => ∃ u, e = .returned u ∧ OB w' w.heap.size u l ∧ Below w.heap.size w w' := by
  have HV := Lib.hid hv
  obtain ⟨a, cap, rfl, hc1, hc2, _, hnone⟩ := hv
  rw [bs_length] at *
  cases a with
  | none =>
    have := hnone rfl
    subst this
    obtain rfl : l = [] := List.eq_nil_of_length_eq_zero (by omega)
    have hn := fun w => Lib.run_eql_slice_nil (P := Try.prog) w 49 5 none 0 0 0 0 Try.underlying49
    go_enter Try.func55, Try.ntmps55
    go_wp2_with fail
    go_ret
    exact ⟨_, rfl, OB.nil _ _, Below.refl _ _⟩
  | some a =>
    have hn := fun w => Lib.run_eql_slice_nil (P := Try.prog) w 49 5 (some a) l.length cap 0 0 Try.underlying49
    go_enter Try.func55, Try.ntmps55
    have hE : OB (w.alloc (.cells #[] 5)) w.heap.size (.slice (some ⟨w.heap.size, 0, none⟩) 0 0) [] := OB.lit' w.heap.size w #[] [] 0 rfl rfl (Nat.le_refl _) (by simp)
    go_wp2_with (at_builtin; go_loud (refine wp_want rfl fun K hK => ?_; refine wp_appO w.heap.size _ _ [] l (by simp; omega) hE (HV.out.below (below_new w _)) (le_new _ _) rfl rfl rfl ?_))
    intro u2 w2 h2 t2
    have b2 := (below_new w (.cells #[] 5)).trans (t2.below (le_new _ _) hE.ge)
    refine hK _ _ ?_
    clear hK K
    go_wp2_with fail
    go_ret
    exact ⟨_, rfl, h2, b2⟩

theorem infoAs : (Try.prog.info? 92).map (fun i => (i.zero, i.size, i.bytes)) = some (some (.agg (asC ⟨0, ⟨0, [], [], 0, 0, 0, []⟩, .slice none 0 0⟩).toArray), 8, 96) := by kernel_rfl
theorem infoRq_zero : (Try.prog.info? 51).map (·.zero) = some (some (rqV ⟨0, [], [], 0, 0, 0, []⟩ (.slice none 0 0))) := by kernel_rfl
theorem infoRq_size : (Try.prog.info? 51).map (·.size) = some 7 := by kernel_rfl
theorem infoAs_size : (Try.prog.info? 92).map (·.size) = some 8 := by kernel_rfl
theorem infoBy_size : (Try.prog.info? 49).map (·.size) = some 1 := by kernel_rfl
theorem infoQr_size : (Try.prog.info? 93).map (·.size) = some 1 := by kernel_rfl
theorem Byt.oneQ {w : World} {v : Value} {b : List UInt8} (h : Byt w v b) : v.oneCell' = true := by
  obtain ⟨a, c, rfl, _⟩ := h.1
  rfl
def conL (L : List (List As)) : List (List (Int × Rq)) := L.map fun l => l.map fun x => (x.s, x.r)
/-- a queue by what it holds -/
def QP (w : World) (B g : Nat) (F : Nat → Prop) (C : List (List (Int × Rq))) : Prop := ∃ L, QF w B g F L ∧ conL L = C
def inC (C : List (List (Int × Rq))) (label : Int) : Bool := decide (0 ≤ label) && decide (label < (C.length : Int))
theorem conL_len (L : List (List As)) : (conL L).length = L.length := by simp [conL]
theorem inC_con (L : List (List As)) (label : Int) : inC (conL L) label = inQ L label := by unfold inC inQ; rw [conL_len]
def rowC (C : List (List (Int × Rq))) (label : Int) : List (Int × Rq) := if inC C label then C.getD label.toNat [] else []
theorem lenQ_con (L : List (List As)) (label : Int) : lenQ L label = (rowC (conL L) label).length := by
  unfold lenQ rowC
  rw [inC_con]
  split
  · rename_i h
    obtain ⟨i, rfl, hi⟩ := inQ_nat h
    rw [Int.toNat_natCast]
    simp [conL, List.getD_eq_getElem?_getD, List.getElem?_eq_getElem hi]
  · rfl
end Go.Proofs.Ytibpipppabommaa.Cl
