/- The law RecBack. -/
import Derived.Test.YtgeiafijibgdhaaRecQ
import Derived.Test.YtgeiafijibgdhaaRecA
import Derived.Lib.SlBytesConst
set_option linter.unusedVariables false
set_option linter.unusedSimpArgs false
namespace Go.Proofs.Ytgeiafijibgdhaa.Cl
open Go Go.Proofs Go.RowKit Fl Rely

def behind : List UInt8 := [98, 101, 104, 105, 110, 100]
theorem takeIs_form {label : UInt8} {epoch seq : Nat} {L : List (List UInt8)} {B : Nat} {e : Ending} {w' : World} (h : TakeIs label epoch seq L B e w') {b : Bool} (hb : goodR label epoch seq L ↔ b = true) :
    ∃ (u : Value) (n : Int), e = .returned (.tuple #[u, .int .i64 n, .bool b]) := by
  cases b
  · obtain rfl := h.2 fun k => by simpa using hb.1 k
    exact ⟨_, _, rfl⟩
  · obtain ⟨u, rfl, _⟩ := h.1 (hb.2 rfl)
    exact ⟨_, _, rfl⟩

theorem own_set {w : World} {B g n c m : Nat} {e : TypeId} {xs : List Value} (h : w.ownsRow B e 1 (.slice (some ⟨g, 0, none⟩) n c) m xs) (i : Nat) (hi : i < xs.length) (y : Value) :
    w.cell? ⟨g, i, none⟩ = some xs[i] ∧ w.frozen? ⟨g, i, none⟩ = false ∧ (w.setCell ⟨g, i, none⟩ y).ownsRow B e 1 (.slice (some ⟨g, 0, none⟩) n c) m (xs.set i y) ∧ (w.setCell ⟨g, i, none⟩ y).cell? ⟨g, i, none⟩ = some y ∧ w.grownBy (w.setCell ⟨g, i, none⟩ y) (some g) ∧ (w.setCell ⟨g, i, none⟩ y).heap.size = w.heap.size := by
  obtain ⟨h1, h2⟩ := h
  rcases h2 with ⟨e', _⟩ | ⟨g', cap, cur, e', hb, hg, hnc, hcm, hcs, ht⟩
  · cases e'
  · simp only [Value.slice.injEq, Option.some.injEq, Addr.mk.injEq, and_true] at e'
    obtain ⟨rfl, rfl, rfl⟩ := e'
    have hr : RowAt w g e cur := hg
    have hc : cur[i]? = some xs[i] := by
      have : (cur.toList.take (n * 1))[i]? = xs[i]? := by rw [ht]
      rw [List.getElem?_take, if_pos (by omega)] at this
      rw [← Array.getElem?_toList, this, List.getElem?_eq_getElem hi]
    obtain ⟨s1, s2, s3⟩ := RowAt.set hr i y
    refine ⟨hr.cell i _ hc, hr.frozen, ⟨by simp [h1], Or.inr ⟨g, c, _, rfl, hb, s1, hnc, hcm, by rw [Array.size_setIfInBounds]; exact hcs, ?_⟩⟩, ?_, s2, s3⟩
    · rw [Array.toList_setIfInBounds, List.take_set, ht]
    · refine RowAt.cell s1 i y ?_
      have := (Array.getElem?_eq_some_iff.1 hc).1
      simp [this]
/-- an element of an own list is an own text: a byte of it is stored -/
theorem OL.turn {w w1 : World} {B g n c g' n' c' : Nat} {L : List (List UInt8)} (h : OL w B (.slice (some ⟨g, 0, none⟩) n c) L) (hb : Below w.heap.size w w1) (i : Nat) (hi : i < L.length) {l : List UInt8}
    (hy : OB w1 w.heap.size (.slice (some ⟨g', 0, none⟩) n' c') l) (j : Nat) (hj : j < l.length) (b : UInt8) :
    (∃ z, w1.cell? ⟨g, i, none⟩ = some z) ∧ w1.frozen? ⟨g, i, none⟩ = false ∧ (w1.setCell ⟨g, i, none⟩ (.slice (some ⟨g', 0, none⟩) n' c')).cell? ⟨g, i, none⟩ = some (.slice (some ⟨g', 0, none⟩) n' c') ∧
    (w1.setCell ⟨g, i, none⟩ (.slice (some ⟨g', 0, none⟩) n' c')).cell? ⟨g', j, none⟩ = some (u8 l[j]) ∧ (w1.setCell ⟨g, i, none⟩ (.slice (some ⟨g', 0, none⟩) n' c')).frozen? ⟨g', j, none⟩ = false ∧
    OL ((w1.setCell ⟨g, i, none⟩ (.slice (some ⟨g', 0, none⟩) n' c')).setCell ⟨g', j, none⟩ (u8 b)) B (.slice (some ⟨g, 0, none⟩) n c) (L.set i (l.set j b)) ∧
    Below B w1 ((w1.setCell ⟨g, i, none⟩ (.slice (some ⟨g', 0, none⟩) n' c')).setCell ⟨g', j, none⟩ (u8 b)) := by
  obtain ⟨sl, h1, h2, h3⟩ := h
  have hgw : B ≤ g ∧ g < w.heap.size := h1.lt g rfl
  have hgw' : w.heap.size ≤ g' ∧ g' < w1.heap.size := World.ownsRow.lt hy g' rfl
  have hne : g ≠ g' := by omega
  have hsz := hb.size
  obtain ⟨a1, a2, a3, a4, a5, a6⟩ := own_set (own_below h1 hb) i (by omega) (.slice (some ⟨g', 0, none⟩) n' c')
  have hy2 : OB (w1.setCell ⟨g, i, none⟩ (.slice (some ⟨g', 0, none⟩) n' c')) w.heap.size (.slice (some ⟨g', 0, none⟩) n' c') l := ownsRow_setCell_other hy (fun e => hne (Option.some.inj e).symm) _
  obtain ⟨d1, d2, d3, d4, d5⟩ := hy2.set j hj b
  have o3 := ownsRow_setCell_other a3 (a := ⟨g', j, none⟩) (fun e => hne (Option.some.inj e)) (u8 b)
  refine ⟨⟨_, a1⟩, a2, a4, d1, d2, ⟨sl.set i (.slice (some ⟨g', 0, none⟩) n' c'), by rw [List.length_set]; exact o3, by simp [h2], fun k hk hk' => ?_⟩, ?_⟩
  · rw [List.length_set] at hk hk'
    rw [d5, a6]
    by_cases hik : i = k
    · subst hik
      rw [List.getElem_set_self, List.getElem_set_self]
      refine ⟨d3.rd, fun q hq => ?_, fun q hq => ?_⟩
      · rintro ⟨a', n, c, e, e'⟩
        simp only [Value.slice.injEq, Option.some.injEq] at e
        obtain ⟨rfl, _⟩ := e
        cases hq
        exact hne e'.symm
      · obtain ⟨a', n, c, e, e'⟩ := hq
        simp only [Value.slice.injEq, Option.some.injEq] at e
        obtain ⟨rfl, _⟩ := e
        have : g' = q := e'
        omega
    · rw [List.getElem_set_ne hik, List.getElem_set_ne hik]
      obtain ⟨r1, r2, r3⟩ := h3 k hk hk'
      refine ⟨((r1.below hb).kept a5 (fun q hq => by cases hq; exact r2 g rfl)).kept d4 (fun q hq hin => by cases hq; have := r3 g' hin; omega), r2, fun q hq => Nat.lt_of_lt_of_le (r3 q hq) hb.size⟩
  · exact below_row (below_row (Below.refl B w1) a5 (by omega) hgw.1) d4 (by omega) (by omega)
/-- a text written as a literal, in a list of one -/
abbrev litW (w : World) (l : List UInt8) : World := (w.alloc (.cells (bs l).toArray 5 (l.length, l.length + 1))).alloc (.cells #[.slice (some ⟨w.heap.size, 0, none⟩) l.length l.length] 37)
theorem litW_below (w : World) (l : List UInt8) : Below w.heap.size w (litW w l) := (below_new w _).trans ((below_new _ _).mono (le_new _ _))
theorem litW_rd (w : World) (l : List UInt8) (hl : l.length ≤ 1000) : Rd (litW w l) (.slice (some ⟨w.heap.size, 0, none⟩) l.length l.length) (bs l) := by
  refine Rd.below ?_ (below_new _ _)
  have := Rd.new w (bs l).toArray 5 (l.length, l.length + 1) l.length (by simp) (by simp; omega)
  simpa using this
theorem litW_cell (w : World) (l : List UInt8) : (litW w l).cell? ⟨w.heap.size + 1, 0, none⟩ = some (.slice (some ⟨w.heap.size, 0, none⟩) l.length l.length) := by
  have h := RowAt.cell (RowAt.new (w.alloc (.cells (bs l).toArray 5 (l.length, l.length + 1))) 37 #[.slice (some ⟨w.heap.size, 0, none⟩) l.length l.length]) 0 _ rfl
  rw [show (w.alloc (.cells (bs l).toArray 5 (l.length, l.length + 1))).heap.size = w.heap.size + 1 by simp] at h
  exact h
theorem litW_size (w : World) (l : List UInt8) : (litW w l).heap.size = w.heap.size + 2 := by simp [litW]
theorem wp_appLit {w : World} {o : Oper} {a : Act} {K : Act → World → Prop} {Q : Exit → Act → World → Prop} (B : Nat) (v : Value) (L : List (List UInt8)) (l : List UInt8) {s x : Operand} (hl : L.length ≤ 100000) (hl' : l.length ≤ 1000)
    (hown : OL w B v L) (hB : B ≤ w.heap.size)
    (ho : o.op = .call { callee := .builtin .append, args := #[s, x], argTypes := #[54, 54] })
    (hs : a.eval s = v) (hx : a.eval x = .slice (some ⟨w.heap.size + 1, 0, none⟩) 1 1)
    (h : ∀ v' w', OL w' B v' (L ++ [l]) → Onto (litW w l) v w' v' → K (a.put o.dst v') w') : o.wp Try.prog a (litW w l) K Q := by
  have hb := litW_below w l
  have hO := hown.below hb
  refine wp_appL B v (.slice (some ⟨w.heap.size, 0, none⟩) l.length l.length) L l ⟨w.heap.size + 1, 0, none⟩ hl hO (litW_rd w l hl') (fun g hg => ?_) (fun g hg => ?_) rfl (litW_cell w l) (by rw [litW_size]; omega) ho hs hx h
  · rintro ⟨a', n, c, e, e'⟩
    obtain ⟨sl, h1, _⟩ := hown
    have := (h1.lt g hg).2
    simp only [Value.slice.injEq, Option.some.injEq] at e
    obtain ⟨rfl, _⟩ := e
    dsimp only at e'
    omega
  · obtain ⟨a', n, c, e, e'⟩ := hg
    simp only [Value.slice.injEq, Option.some.injEq] at e
    obtain ⟨rfl, _⟩ := e
    rw [litW_size]
    dsimp only at e'
    omega

set_option maxRecDepth 100000 in
set_option maxHeartbeats 4000000 in
theorem recBack_law (label oth nxt as' wch whr by' : UInt8) (epoch seq : Nat) (va : Value) (l : List Wr) (w : World) (he : epoch < 4294967296) (hs : seq < 4294967296) (hok : ∀ x ∈ l, WrOk x) (hva : RdW w va l) :
    Calls Try.prog 10 #[u8 label, .int .u32 epoch, .int .u32 seq, va, u8 oth, u8 nxt, u8 as', u8 wch, u8 whr, u8 by'] w fun e w' => e = .returned (.bool true) ∧ Below w.heap.size w w' := by
  have hM := fun w hv => mayW_any va l w hok hv
  obtain ⟨aa, ca, rfl, _⟩ := id hva
  by_cases ha : okW l
  · rw [decide_eq_true ha] at hM
    have hl12 : l.length ≤ 12 := ha.2.2
    have hP := fun v w hv => recPut_any label epoch seq v l w (by omega) (by omega) (by omega) hok hv
    obtain ⟨L, hL⟩ : ∃ L, L = recB label epoch seq l := ⟨_, rfl⟩
    have hLn : L.length = l.length + 1 := by rw [hL, recB_length]
    have h64 : ∀ j (hj : j < L.length), L[j].length = 64 := by subst hL; exact recB_get64 ha hok
    have g0 := good_own (label := label) (epoch := epoch) (seq := seq) [behind] ha hok
    have m0 := many_own (label := label) (epoch := epoch) (seq := seq) [behind] ha.2.2
    have r0 := readAll_own (label := label) (epoch := epoch) (seq := seq) [behind] ha hok
    rw [← hL] at g0 m0 r0 hP
    obtain ⟨eo, heo⟩ : ∃ b, b = decide (oth = 0) := ⟨_, rfl⟩
    obtain ⟨en, hen⟩ : ∃ b, b = decide (nxt = 0) := ⟨_, rfl⟩
    obtain ⟨es, hes⟩ : ∃ b, b = decide (as' = label) := ⟨_, rfl⟩
    obtain ⟨ez, hez⟩ : ∃ b, b = decide (by' = 0) := ⟨_, rfl⟩
    have ho := oth.toNat_lt
    have hn := nxt.toNat_lt
    have z8 : ∀ a : UInt8, a.toNat = 0 ↔ a = 0 := fun a => ⟨fun h => UInt8.toNat_inj.1 (by simpa using h), fun h => by rw [h]; rfl⟩
    have co := z8 oth
    have cn := z8 nxt
    obtain ⟨E, hE, hE'⟩ : ∃ E : Nat, IntKind.u32.wrap ((epoch : Int) + (oth.toNat : Int)) = (E : Int) ∧ E < 4294967296 ∧ (E = epoch ↔ eo = true) := by
      refine ⟨(epoch + oth.toNat) % 4294967296, by rw [IntKind.wrap_u32]; omega, by omega, ?_⟩
      rw [heo, decide_eq_true_iff, ← co]
      omega
    obtain ⟨S, hS, hS'⟩ : ∃ S : Nat, IntKind.u32.wrap ((seq : Int) + (nxt.toNat : Int)) = (S : Int) ∧ S < 4294967296 ∧ (S = seq ↔ en = true) := by
      refine ⟨(seq + nxt.toNat) % 4294967296, by rw [IntKind.wrap_u32]; omega, by omega, ?_⟩
      rw [hen, decide_eq_true_iff, ← cn]
      omega
    have g1 : goodR label E S L ↔ (eo && en) = true := by
      rw [hL, good_iff ha hok he hE'.1 hs hS'.1, Bool.and_eq_true, ← hE'.2, ← hS'.2]
      simp
    have g2 : goodR as' epoch seq L ↔ es = true := by
      rw [hL, good_iff ha hok he he hs hs, hes, decide_eq_true_iff]
      simp
    have g3 : goodR label epoch seq (L.take l.length) ↔ false = true := by
      rw [hL]
      simp only [Bool.false_eq_true, iff_false]
      exact short_not ha
    have g4 : ∀ k (hk : k < L.length) j (hj : j < L[k].length), goodR label epoch seq (L.set k (L[k].set j (L[k][j] ^^^ by'))) ↔ ez = true := fun k hk j hj => by
      rw [hez, decide_eq_true_iff]
      constructor
      · intro h
        refine Classical.byContradiction fun hz => ?_
        subst hL
        refine turned_not ha hok k hk j hj _ (fun e => hz ?_) h
        have := congrArg (fun t => (recB label epoch seq l)[k][j] ^^^ t) e
        simpa [← UInt8.xor_assoc] using this
      · intro h
        rw [h, UInt8.xor_zero, List.set_getElem_self, List.set_getElem_self, hL]
        have := good_own (label := label) (epoch := epoch) (seq := seq) [] ha hok
        rwa [List.append_nil] at this
    have e1 : ((oth.toNat : Int) == 0) = eo := by
      rw [heo, Bool.eq_iff_iff, beq_iff_eq, decide_eq_true_iff, ← co]; omega
    have e2 : ((nxt.toNat : Int) == 0) = en := by
      rw [hen, Bool.eq_iff_iff, beq_iff_eq, decide_eq_true_iff, ← cn]; omega
    have e3 : ((as'.toNat : Int) == (label.toNat : Int)) = es := by
      rw [hes, Bool.eq_iff_iff, beq_iff_eq, decide_eq_true_iff]
      exact ⟨fun h => UInt8.toNat_inj.1 (by omega), fun h => by rw [h]⟩
    have e4 : ((by'.toNat : Int) == 0) = ez := by
      rw [hez, Bool.eq_iff_iff, beq_iff_eq, decide_eq_true_iff, ← z8 by']; omega
    have hE2 := hE'.1
    have hS2 := hS'.1
    clear hL heo hen hes hez co cn hE' hS' z8
    have hT0 := fun v w hv => recTake_any label epoch seq v (L ++ [behind]) w he hs hv
    have hT1 := fun v w hv => recTake_any label E S v L w hE2 hS2 hv
    have hT2 := fun v w hv => recTake_any as' epoch seq v L w he hs hv
    have hT3 := fun v w hv => recTake_any label epoch seq v (L.take l.length) w he hs hv
    have hwo : IntKind.u32.wrap (oth.toNat : Int) = (oth.toNat : Int) := by rw [IntKind.wrap_u32]; omega
    have hwn : IntKind.u32.wrap (nxt.toNat : Int) = (nxt.toNat : Int) := by rw [IntKind.wrap_u32]; omega
    have HE := Lib.hid (And.intro e1 (And.intro e2 (And.intro e3 e4)))
    have HLn := Lib.hid hLn
    have M0 := Lib.hid m0
    have R0 := Lib.hid r0
    clear e1 e2 e3 e4 hLn m0 r0
    go_enter Try.func10, Try.ntmps10
    go_wp2_with fail
    refine (recBegun_any _).mono ?_
    rintro e w1 ⟨rfl, W⟩
    go_wp2_with fail
    refine (hM _ (hva.below W)).mono ?_
    rintro e w2 ⟨rfl, b2⟩
    have W := W.trans (b2.mono W.size)
    go_wp2_with fail
    refine (hP _ _ (hva.below W)).mono ?_
    rintro e w3 ⟨hy3, _, b3⟩
    obtain ⟨u3, rfl, hO3⟩ := hy3 ha
    have W := W.trans (b3.mono W.size)
    have hN0 : 0 < L.length := by rw [show L.length = l.length + 1 from HLn]; omega
    obtain ⟨a3, c3, _, ev3, hc3, _⟩ := hO3.rd.sl
    rw [show L.length = l.length + 1 from HLn] at ev3 hc3
    have hc31 : l.length ≤ c3 := by omega
    have hc32 : (l.length : Int) ≤ (c3 : Int) := by omega
    have hc33 : ¬ c3 = 0 := by omega
    clear hc3
    subst ev3
    obtain ⟨ad, _, rfl, _⟩ := hO3.elem 0 hN0
    have hne : ((l.length : Int) + 1 != (l.length : Int) + 1) = false := by rw [bne_eq_false_iff_eq]
    go_wp2_with fail
    go_loopw [23] (fun i wr => ∃ k : Nat, k ≤ l.length + 1 ∧ i = .int .i64 (k : Int) ∧ Below w3.heap.size w3 wr) (fun i _ => (l.length + 1) - (intOf i).toNat)
    case atStart => exact ⟨0, Nat.zero_le _, rfl, Below.refl _ _⟩
    case round =>
      obtain ⟨k, hk, rfl, hb'⟩ := hrel
      by_cases hlt : k < l.length + 1
      · have hlI : (k : Int) < (l.length : Int) + 1 := by omega
        have hkL : k < L.length := by rw [show L.length = l.length + 1 from HLn]; exact hlt
        obtain ⟨ad', y, ead, hcy, hry, hiy⟩ := hO3.elem k hkL
        obtain rfl : ad = ad' := Option.some.inj ead
        obtain ⟨ay, cy, rfl, _⟩ := id hry
        rw [bs_length, h64 k hkL] at hcy
        have hcy := cell_later hb' hcy
        go_wp2_with fail
        go_roundw
        case rel => exact ⟨k + 1, by omega, by go_num, hb'⟩
        case measure => simp only [intOf]; omega
      · have hlI : ¬ (k : Int) < (l.length : Int) + 1 := by omega
        have W := W.trans (hb'.mono W.size)
        have hO4 := hO3.below hb'
        go_wp2_with (refine wp_want rfl fun K hK => ?_; refine wp_appLL wr.heap.size _ _ _ [] L (by rw [show L.length = l.length + 1 from HLn]; simp; omega) (OL.empty wr) hO4 (below_new wr _) (Nat.le_refl _) (below_new wr _).size rfl rfl rfl ?_)
        intro v6 w6 hO6 t6
        refine hK _ _ ?_
        clear hK K
        have hO6 : OL w6 wr.heap.size v6 L := hO6
        have b6 := (below_new wr (.cells #[] 37)).trans (t6.below (below_new wr _).size (fun k hk => by cases hk; exact Nat.le_refl _))
        have kc := fun (w : World) (C : Array Value) (n c : Nat) => Lib.run_convert_bytes_const (P := Try.prog) w 37 5 C n c Try.underlying37 Try.underlying5
        have n6 := b6.size
        go_wp2_with (refine wp_want rfl fun K hK => ?_; refine wp_appLit (w := w6) wr.heap.size v6 L behind (by rw [show L.length = l.length + 1 from HLn]; omega) (by decide) hO6 n6 rfl rfl rfl ?_)
        intro v7 w7 hO7 t7
        refine hK _ _ ?_
        clear hK K
        have b7 := t7.below (Nat.le_trans n6 (litW_below w6 behind).size) (fun k hk => own_ge hO6.choose_spec.1 k hk)
        have b7 := (b6.trans ((litW_below w6 behind).mono n6)).trans b7
        have W := W.trans (b7.mono W.size)
        have hO4 := hO4.below b7
        clear hO6 t6 t7 b6 n6 b7
        go_wp2_with fail
        refine (hT0 _ _ hO7.rd).mono ?_
        rintro e w8 ⟨⟨hy8, _⟩, b8⟩
        obtain ⟨u8', rfl, hO8⟩ := hy8 g0
        rw [show manyR (L ++ [behind]) = l.length from M0] at hO8 ⊢
        rw [show readAll (L ++ [behind]) l.length = l from R0] at hO8
        have W := W.trans (b8.mono W.size)
        have hO4 := hO4.below b8
        have hR8 : RdW w8 u8' l := RdS.of_own (fun x hx => wrC_length (hok x hx)) hO8
        clear hO7 hO8 hy8
        go_wp2_with fail
        refine (hT1 _ _ hO4.rd).mono ?_
        rintro e w9 ⟨hf9, b9⟩
        obtain ⟨u9, m9, rfl⟩ := takeIs_form hf9 g1
        have W := W.trans (b9.mono W.size)
        have hO4 := hO4.below b9
        have hR8 := hR8.below b9
        clear hf9 b9
        go_wp2_with fail
        refine (hT2 _ _ hO4.rd).mono ?_
        rintro e w10 ⟨hf10, b10⟩
        obtain ⟨u10, m10, rfl⟩ := takeIs_form hf10 g2
        have W := W.trans (b10.mono W.size)
        have hO4 := hO4.below b10
        have hR8 := hR8.below b10
        clear hf10 b10
        go_wp2_with fail
        have hR11 := RdL.take hO4.rd l.length (by rw [show L.length = l.length + 1 from HLn]; omega)
        refine (hT3 _ _ hR11).mono ?_
        rintro e w11 ⟨hf11, b11⟩
        obtain ⟨u11, m11, rfl⟩ := takeIs_form hf11 g3
        have W := W.trans (b11.mono W.size)
        have hO4 := hO4.below b11
        have hR8 := hR8.below b11
        clear hf11 b11 hR11
        have n11 := W.size
        go_wp2_with (refine wp_want rfl fun K hK => ?_; refine wp_appLL w11.heap.size _ _ _ [] L (by rw [show L.length = l.length + 1 from HLn]; simp; omega) (OL.empty w11) hO4 (below_new w11 _) (Nat.le_refl _) (below_new w11 _).size rfl rfl rfl ?_)
        intro v12 w12 hO12 t12
        refine hK _ _ ?_
        clear hK K
        have hO12 : OL w12 w11.heap.size v12 L := hO12
        have b12 := (below_new w11 (.cells #[] 37)).trans (t12.below (below_new w11 _).size (fun k hk => by cases hk; exact Nat.le_refl _))
        obtain ⟨g12, c12, ev12, hg12, hg12'⟩ := hO12.shape hN0
        rw [show L.length = l.length + 1 from HLn] at ev12
        subst ev12
        have n12 := b12.size
        obtain ⟨kk, hkk⟩ : ∃ kk, kk = wch.toNat % (l.length + 1) := ⟨_, rfl⟩
        have hkk0 : kk < l.length + 1 := by rw [hkk]; exact Nat.mod_lt _ (by omega)
        have hkkI : (kk : Int) < (l.length : Int) + 1 := by omega
        have hwk : wrap64 (wch.toNat : Int) = (wch.toNat : Int) := by
          have := wch.toNat_lt
          unfold wrap64
          omega
        have hrk : (wrap64 (wch.toNat : Int)).tmod ((l.length : Int) + 1) = (kk : Int) := by
          rw [hwk, hkk]
          exact (Int.ofNat_tmod wch.toNat (l.length + 1)).symm
        clear hkk hwk
        have hkL : kk < L.length := by rw [show L.length = l.length + 1 from HLn]; exact hkk0
        obtain ⟨adq, y, ead, hcy, hry, hiy⟩ := hO12.elem kk hkL
        obtain rfl := Option.some.inj ead
        rw [Addr.add_lit, Nat.zero_add] at hcy
        have hl64 := h64 kk hkL
        have hg4 := g4 kk hkL
        obtain ⟨ay, cy, rfl, _⟩ := id hry
        rw [bs_length, hl64] at hcy hry
        obtain ⟨q, hq⟩ : ∃ q, q = L[kk] := ⟨_, rfl⟩
        rw [← hq] at hl64 hry hg4
        have HQ := Lib.hid hq
        have H64 := Lib.hid hl64
        clear hq hl64 h64
        go_wp2_with (refine wp_want rfl fun K hK => ?_; refine wp_appO w12.heap.size _ _ [] q (by rw [show q.length = 64 from H64]; decide) (OB.lit w12.heap.size w12 [] 0 rfl (Nat.le_refl _) (by decide)) (hry.below (below_new w12 _)) (below_new w12 _).size rfl rfl rfl ?_)
        intro v13 w13 hO13 t13
        refine hK _ _ ?_
        clear hK K
        have hO13 : OB w13 w12.heap.size v13 q := hO13
        have b13 := (below_new w12 (.cells (bs []).toArray 5)).trans (t13.below (below_new w12 _).size (fun k hk => by cases hk; exact Nat.le_refl _))
        obtain ⟨g13, c13, rfl, hg13, _⟩ := ob_shape hO13 H64 (by decide)
        obtain ⟨j, hj⟩ : ∃ j, j = whr.toNat % 64 := ⟨_, rfl⟩
        have hjq : j < q.length := by rw [show q.length = 64 from H64]; omega
        have hj64 : j < 64 := by omega
        have hjI : (j : Int) < 64 := by omega
        have hrem : whr.toNat % 64 = j := hj.symm
        have hremI : (whr.toNat : Int) % 64 = (j : Int) := by omega
        clear hj
        have hg4 := hg4 j hjq
        have hxor := u8_xor' q[j] by'
        obtain ⟨⟨z0, s1⟩, s2, s3, s4, s5, s6, s7⟩ := hO12.turn b13 kk hkL hO13 j hjq (q[j] ^^^ by')
        generalize q[j] ^^^ by' = xj at *
        have n13 := b13.size
        go_upto_region 20 with fail
        go_upto_region 21 with fail
        clear s1 s2 s3 s4 s5
        generalize (w13.setCell ⟨g12, kk, none⟩ (.slice (some ⟨g13, 0, none⟩) 64 c13)).setCell ⟨g13, j, none⟩ (.int .u8 (xj.toNat : Nat)) = w14 at *
        have b14 := (b12.trans (b13.mono n12)).trans s7
        have hR8 := hR8.below b14
        have W := W.trans (b14.mono n11)
        clear hO12 hO13 t12 t13 b12 b13 s7 b14 hcy hry hiy n12 n13 hrem hremI hxor hrk
        have hT4 := fun v w hv => recTake_any label epoch seq v (L.set kk (q.set j xj)) w he hs hv
        go_wp2_with fail
        refine (hT4 _ _ s6.rd).mono ?_
        rintro e w15 ⟨hf15, b15⟩
        obtain ⟨u15, m15, rfl⟩ := takeIs_form hf15 hg4
        have W := W.trans (b15.mono W.size)
        have hR8 := hR8.below b15
        clear hf15 b15 s6 hT4 hT0 hT1 hT2 hT3 hg4
        have hSW := sameW_any _ _ l l w15 hok hok hR8 (hva.below W)
        rw [decide_eq_true rfl] at hSW
        go_wp2_with fail
        refine hSW.mono ?_
        rintro e w16 ⟨rfl, b16⟩
        have W := W.trans (b16.mono W.size)
        clear hSW hR8 g1 g2 g3 g4 hva
        obtain ⟨e1, e2, e3, e4⟩ := HE.out
        clear HE
        cases eo <;> cases en <;> cases es <;> cases ez <;> (go_wp2_with fail) <;> go_ret <;> exact ⟨rfl, W⟩
  · rw [decide_eq_false ha] at hM
    go_enter Try.func10, Try.ntmps10
    go_wp2_with fail
    refine (recBegun_any _).mono ?_
    rintro e w1 ⟨rfl, W⟩
    go_wp2_with fail
    refine (hM _ (hva.below W)).mono ?_
    rintro e w2 ⟨rfl, b2⟩
    have W := W.trans (b2.mono W.size)
    go_wp2_with fail
    go_ret
    exact ⟨rfl, W⟩

theorem recBack_row (n0 n1 n2 n4 n5 n6 n7 n8 n9 : Int) (va : Value) (l : List Wr) (W : World) (wf0 : (Lit.int .u8 n0).wf = true) (wf1 : (Lit.int .u32 n1).wf = true) (wf2 : (Lit.int .u32 n2).wf = true) (wf4 : (Lit.int .u8 n4).wf = true) (wf5 : (Lit.int .u8 n5).wf = true) (wf6 : (Lit.int .u8 n6).wf = true) (wf7 : (Lit.int .u8 n7).wf = true) (wf8 : (Lit.int .u8 n8).wf = true) (wf9 : (Lit.int .u8 n9).wf = true) (hok : ∀ x ∈ l, WrOk x) (hva : RdW W va l) :
    Calls Try.prog 10 #[.int .u8 n0, .int .u32 n1, .int .u32 n2, va, .int .u8 n4, .int .u8 n5, .int .u8 n6, .int .u8 n7, .int .u8 n8, .int .u8 n9] W fun e w' => e = .returned (.bool true) ∧ Below W.heap.size W w' := by
  obtain ⟨b0, rfl⟩ := wf_u8 wf0
  obtain ⟨b4, rfl⟩ := wf_u8 wf4
  obtain ⟨b5, rfl⟩ := wf_u8 wf5
  obtain ⟨b6, rfl⟩ := wf_u8 wf6
  obtain ⟨b7, rfl⟩ := wf_u8 wf7
  obtain ⟨b8, rfl⟩ := wf_u8 wf8
  obtain ⟨b9, rfl⟩ := wf_u8 wf9
  obtain ⟨k1, rfl, h1⟩ := wf_u32 wf1
  obtain ⟨k2, rfl, h2⟩ := wf_u32 wf2
  exact recBack_law b0 b4 b5 b6 b7 b8 b9 k1 k2 va l W h1 h2 hok hva
end Go.Proofs.Ytgeiafijibgdhaa.Cl
