/- queue: Push. -/
import Derived.Test.YtibpipppabommaaQ2
set_option linter.unusedVariables false
set_option linter.unusedSimpArgs false
namespace Go.Proofs.Ytibpipppabommaa.Cl
open Go Go.Proofs Go.RowKit Fl

theorem wp_as_append {w : World} {o : Oper} {a : Act} {K : Act → World → Prop} {Q : Exit → Act → World → Prop} {B : Nat} {s x : Operand} {v : Value} {n : Nat} {xs : List Value} {ad : Addr} {c : Nat} (y : As) (hown : SlO w B 92 8 v n xs) (hv : ∀ u ∈ asC y, u.oneCell' = true) (hnews : ∀ j u, (asC y)[j]? = some u → w.cell? (ad.add j) = some u) (hn : n ≤ 1000) (hB : B ≤ w.heap.size)
    (ho : o.op = .call { callee := .builtin .append, args := #[s, x], argTypes := #[93, 93] }) (hs : a.eval s = v) (hx : a.eval x = .slice (some ad) 1 c)
    (h : ∀ v' w', SlO w' B 92 8 v' (n + 1) (xs ++ asC y) → Onto w v w' v' → K (a.put o.dst v') w') : o.wp Try.prog a w K Q := by
  obtain ⟨i, hi, hz, hsz, hb⟩ := info_parts infoAs
  obtain ⟨v', w', hr, h1, h2⟩ := run_slo_append (P := Try.prog) 93 o.type 92 i _ 8 96 Try.underlying93 hi hz hsz hb rfl (by decide) v n xs hown ad 1 c (asC y) rfl hnews hv (by unfold maxLen; omega) (by omega) hB
  exact wp_append_run ho hs hx hr (h v' w' h1 h2)
theorem con_set (L : List (List As)) (i : Nat) (l : List As) : conL (L.set i l) = (conL L).set i (l.map fun x => (x.s, x.r)) := by simp [conL, List.map_set]
theorem con_get {L : List (List As)} (i : Nat) (hi : i < L.length) : (conL L).getD i [] = (L[i]).map fun x => (x.s, x.r) := by simp [conL, List.getD_eq_getElem?_getD, List.getElem?_eq_getElem hi]
def pushC (C : List (List (Int × Rq))) (label s : Int) (r : Rq) : List (List (Int × Rq)) := if inC C label && decide ((rowC C label).length < 20) then C.set label.toNat (C.getD label.toNat [] ++ [(s, r)]) else C
set_option maxRecDepth 100000 in
set_option maxHeartbeats 4000000 in
theorem qPush_any {w : World} {B g : Nat} {F : Nat → Prop} {L : List (List As)} (h : QF w B g F L) (hB : B ≤ w.heap.size) (label s : Int) (r : Rq) (dv : Value) (hd : Byt w dv r.d) (hl : r.d.length ≤ 100000) :
    Calls Try.prog 29 #[qp g, .int .i64 label, .int .i64 s, rqV r dv] w fun e w' => e = .returned (.bool (inC (conL L) label && decide ((rowC (conL L) label).length < 20))) ∧ ∃ F' L', QF w' B g F' L' ∧ conL L' = pushC (conL L) label s r ∧ Step F w w' F' := by
  obtain ⟨gl, vs, hq, hG⟩ := h
  unfold pushC
  rw [← lenQ_con, inC_con]
  obtain ⟨da, dc, rfl⟩ : ∃ da dc, dv = .slice da r.d.length dc := by obtain ⟨a, c, e, _⟩ := hd.1; exact ⟨a, c, by rw [e, bs_length]⟩
  by_cases hin : inQ L label = true
  · have HIN := Lib.hid hin
    obtain ⟨i, rfl, hi⟩ := inQ_nat hin
    rw [hin]
    have hvi : i < vs.length := by rw [hq.len]; exact hi
    obtain ⟨a, cap, hv, hcap, hcap2⟩ := (hq.row i hvi hi).1.shape
    have hlen : lenQ L i = (L[i]).length := by unfold lenQ; rw [hin, if_pos rfl, Int.toNat_natCast, List.getD_eq_getElem?_getD, List.getElem?_eq_getElem hi]; rfl
    rw [hlen]
    have hle := hq.le
    have hiI : (i : Int) < (L.length : Int) := by omega
    have ht : ∀ {w'}, QR w' B g gl vs L → Calls Try.prog 54 #[qp g, .int .i64 (i : Int)] w' fun e w'' => e = .returned (.bool true) ∧ w' = w'' := fun {w'} h => by
      have h := there_any h (i : Int)
      rw [HIN.out] at h
      exact h
    clear hin hlen
    by_cases h20 : (L[i]).length < 20
    · rw [decide_eq_true h20]
      have h20I : ¬ (20 : Int) ≤ ((L[i]).length : Int) := by omega
      go_enter Try.func29, Try.ntmps29
      go_wp2_with (refine wp_want rfl fun K hK => ?_; refine wp_rw_box (P := Try.prog) (t := 51) (rqA r (.slice da r.d.length dc)) rfl rfl ?_)
      intro w1 A1 b1 s1
      refine hK _ _ ?_
      clear hK K
      have hq1 := hq.frm (Frm.of_below (fun _ => False) b1) (Keep8.of_below b1) fun _ _ h => h
      go_wp2_with fail
      refine (ht hq1).mono ?_
      rintro e w' ⟨rfl, rfl⟩
      have hc := hq1.cell
      have hci := hq1.at_ i hi
      rw [hv] at hci
      have c6 : w1.cell? ⟨w.heap.size, 6, none⟩ = some (.slice da r.d.length dc) := A1.cell 6 _ rfl
      go_wp2_with fail
      refine (cloneB_any _ r.d w1 (hd.below b1).rd hl).mono ?_
      rintro e w2 ⟨u, rfl, o2, b2⟩
      have y2 := Byt.of_OB o2
      obtain ⟨ua, uc, rfl⟩ : ∃ ua uc, u = .slice ua r.d.length uc := by obtain ⟨a, c, e, _⟩ := y2.1; exact ⟨a, c, by rw [e, bs_length]⟩
      have A2 := A1.later b2
      have hq2 := hq1.frm (Frm.of_below (fun _ => False) b2) (Keep8.of_below b2) fun _ _ h => h
      have b2 := b1.trans (b2.mono b1.size)
      clear o2 hq1 A1 hc hci c6 b1
      go_wp2_with (refine wp_want rfl fun K hK => ?_; refine wp_rw_storeP (P := Try.prog) (s := 6) (v := .slice ua r.d.length uc) A2 infoBy_size (by show 6 + 1 ≤ 7; decide) (by intro u hu; simp [Value.cells] at hu; rw [hu]; rfl) rfl rfl rfl ?_)
      intro w3 A3 g3 z3
      have A3 : RowAt w3 w.heap.size 51 (rqA r (.slice ua r.d.length uc)) := A3
      refine hK _ _ ?_
      clear hK K
      have b3 := below_row b2 g3 b2.size (Nat.le_refl _)
      have y3 := y2.keep (Keep8.of_grown g3 fun k hk => by obtain rfl := Option.some.inj hk; exact A2.notB (by decide))
      have hq3 := hq.frm (Frm.of_below (fun _ => False) b3) (Keep8.of_below b3) fun _ _ h => h
      clear A2 g3 z3 y2 hq2 b2
      have HS : w3.drew.cell? ⟨g, 0, none⟩ = some (.slice (some ⟨gl, 0, none⟩) L.length L.length) ∧ w3.drew.cell? ⟨gl, i, none⟩ = some (.slice a (L[i]).length cap) ∧ RowAt w3.drew w.heap.size 51 (rqA r (.slice ua r.d.length uc)) := ⟨hq3.cell, by rw [← hv]; exact hq3.at_ i hi, A3⟩
      have hq3 : QR w3.drew B g gl vs L := hq.frm (Frm.of_below (fun _ => False) b3.drew) (Keep8.of_below b3.drew) fun _ _ h => h
      have b3 := b3.drew
      have y3 : Byt w3.drew _ r.d := y3
      clear A3
      go_upto_region 4 with fail
      refine ZigS.wp_region_zigS [(false, 0), (false, 1), (false, 2), (false, 3), (false, 4), (false, 5), (false, 6), (false, 7), (false, 8), (false, 9), (false, 10), (false, 11), (false, 12), (false, 13), (false, 14), (true, 15), (true, 16), (false, 17), (true, 18)] (fun W => W.cell? ⟨g, 0, none⟩ = some (.slice (some ⟨gl, 0, none⟩) L.length L.length) ∧ W.cell? ⟨gl, i, none⟩ = some (.slice a (L[i]).length cap) ∧ RowAt W w.heap.size 51 (rqA r (.slice ua r.d.length uc))) (by kernel_rfl) (by kernel_rfl) HS ?_
      simp only [Zig.sel, List.drop_succ_cons, List.drop_zero]
      generalize World.drew w3 = wd at *
      haveI : Nonempty (Zig.Lt (fun W => W.cell? ⟨g, 0, none⟩ = some (.slice (some ⟨gl, 0, none⟩) L.length L.length) ∧ W.cell? ⟨gl, i, none⟩ = some (.slice a (L[i]).length cap) ∧ RowAt W w.heap.size 51 (rqA r (.slice ua r.d.length uc)))) := ⟨⟨wd, HS⟩⟩
      have x1 := fun x : Zig.Lt (fun W => W.cell? ⟨g, 0, none⟩ = some (.slice (some ⟨gl, 0, none⟩) L.length L.length) ∧ W.cell? ⟨gl, i, none⟩ = some (.slice a (L[i]).length cap) ∧ RowAt W w.heap.size 51 (rqA r (.slice ua r.d.length uc))) => x.2.1
      have x2 := fun x : Zig.Lt (fun W => W.cell? ⟨g, 0, none⟩ = some (.slice (some ⟨gl, 0, none⟩) L.length L.length) ∧ W.cell? ⟨gl, i, none⟩ = some (.slice a (L[i]).length cap) ∧ RowAt W w.heap.size 51 (rqA r (.slice ua r.d.length uc))) => x.2.2.1
      have z0 := fun x : Zig.Lt (fun W => W.cell? ⟨g, 0, none⟩ = some (.slice (some ⟨gl, 0, none⟩) L.length L.length) ∧ W.cell? ⟨gl, i, none⟩ = some (.slice a (L[i]).length cap) ∧ RowAt W w.heap.size 51 (rqA r (.slice ua r.d.length uc))) => (show x.1.cell? ⟨w.heap.size, 0, none⟩ = some (.int .i64 r.kind) from x.2.2.2.cell 0 _ rfl)
      have z1 := fun x : Zig.Lt (fun W => W.cell? ⟨g, 0, none⟩ = some (.slice (some ⟨gl, 0, none⟩) L.length L.length) ∧ W.cell? ⟨gl, i, none⟩ = some (.slice a (L[i]).length cap) ∧ RowAt W w.heap.size 51 (rqA r (.slice ua r.d.length uc))) => (show x.1.cell? ⟨w.heap.size, 1, none⟩ = some (qs r.path) from x.2.2.2.cell 1 _ rfl)
      have z2 := fun x : Zig.Lt (fun W => W.cell? ⟨g, 0, none⟩ = some (.slice (some ⟨gl, 0, none⟩) L.length L.length) ∧ W.cell? ⟨gl, i, none⟩ = some (.slice a (L[i]).length cap) ∧ RowAt W w.heap.size 51 (rqA r (.slice ua r.d.length uc))) => (show x.1.cell? ⟨w.heap.size, 2, none⟩ = some (qs r.to) from x.2.2.2.cell 2 _ rfl)
      have z3 := fun x : Zig.Lt (fun W => W.cell? ⟨g, 0, none⟩ = some (.slice (some ⟨gl, 0, none⟩) L.length L.length) ∧ W.cell? ⟨gl, i, none⟩ = some (.slice a (L[i]).length cap) ∧ RowAt W w.heap.size 51 (rqA r (.slice ua r.d.length uc))) => (show x.1.cell? ⟨w.heap.size, 3, none⟩ = some (.int .i64 r.n) from x.2.2.2.cell 3 _ rfl)
      have z4 := fun x : Zig.Lt (fun W => W.cell? ⟨g, 0, none⟩ = some (.slice (some ⟨gl, 0, none⟩) L.length L.length) ∧ W.cell? ⟨gl, i, none⟩ = some (.slice a (L[i]).length cap) ∧ RowAt W w.heap.size 51 (rqA r (.slice ua r.d.length uc))) => (show x.1.cell? ⟨w.heap.size, 4, none⟩ = some (.int .i64 r.off) from x.2.2.2.cell 4 _ rfl)
      have z5 := fun x : Zig.Lt (fun W => W.cell? ⟨g, 0, none⟩ = some (.slice (some ⟨gl, 0, none⟩) L.length L.length) ∧ W.cell? ⟨gl, i, none⟩ = some (.slice a (L[i]).length cap) ∧ RowAt W w.heap.size 51 (rqA r (.slice ua r.d.length uc))) => (show x.1.cell? ⟨w.heap.size, 5, none⟩ = some (.int .i64 r.len) from x.2.2.2.cell 5 _ rfl)
      have z6 := fun x : Zig.Lt (fun W => W.cell? ⟨g, 0, none⟩ = some (.slice (some ⟨gl, 0, none⟩) L.length L.length) ∧ W.cell? ⟨gl, i, none⟩ = some (.slice a (L[i]).length cap) ∧ RowAt W w.heap.size 51 (rqA r (.slice ua r.d.length uc))) => (show x.1.cell? ⟨w.heap.size, 6, none⟩ = some (.slice ua r.d.length uc) from x.2.2.2.cell 6 _ rfl)
      repeat (refine ZigS.zig_step (fun K hK => ?_); go_simp; refine hK _ ?_; clear hK K)
      clear x1 x2 z0 z1 z2 z3 z4 z5 z6
      refine ZigS.zig_do rfl (fun K hK => ?_)
      unfold Oper.wp
      go_simp
      generalize hw4 : World.alloc wd _ = w4
      have b4 : Below wd.heap.size wd w4 := by rw [← hw4]; exact below_new _ _
      have A4 : RowAt w4 wd.heap.size 92 (asC ⟨s, r, .slice ua r.d.length uc⟩).toArray := by rw [← hw4]; exact RowAt.new _ _ _
      clear hw4
      have HS := And.intro (cell_later b4 HS.1) (And.intro (cell_later b4 HS.2.1) (RowAt.later HS.2.2 b4))
      refine hK _ _ HS ?_
      clear hK K
      have hro := hq3.row i hvi hi
      have hown := hro.1.below b4
      have hq4 := hq3.frm (Frm.of_below (fun _ => False) b4) (Keep8.of_below b4) fun _ _ h => h
      have nb1 : (vs[i]).ownBlock ≠ some g := hown.notRow hq4.q (by decide)
      have nb2 : (vs[i]).ownBlock ≠ some gl := hown.notRow hq4.l (by decide)
      have nb3 : (vs[i]).ownBlock ≠ some w.heap.size := hown.notRow HS.2.2 (by decide)
      rw [hv] at nb1 nb2 nb3 hown
      have hnw : ∀ j u, (asC ⟨s, r, .slice ua r.d.length uc⟩)[j]? = some u → w4.cell? ((⟨wd.heap.size, 0, none⟩ : Addr).add j) = some u := fun j u hj => by
        rw [Addr.add_lit, Nat.zero_add]
        exact A4.cell j u (by simpa using hj)
      have hBd : B ≤ wd.heap.size := Nat.le_trans hB b3.size
      refine ZigS.zig_do rfl (fun K hK => ?_)
      refine wp_as_append ⟨s, r, .slice ua r.d.length uc⟩ hown (by intro u hu; simp only [asC, rqA, List.mem_cons, List.not_mem_nil, or_false] at hu; rcases hu with rfl | rfl | rfl | rfl | rfl | rfl | rfl | rfl <;> rfl) hnw (by omega) (Nat.le_trans hBd b4.size) rfl rfl rfl ?_
      intro v' w5 s5 t5
      have HS := And.intro (t5.cell HS.1 nb1) (And.intro (t5.cell HS.2.1 nb2) (t5.row HS.2.2 nb3))
      refine hK _ _ HS ?_
      clear hK K hnw A4
      repeat (refine ZigS.zig_step (fun K hK => ?_); go_simp; refine hK _ ?_; clear hK K)
      have l5 := t5.row hq4.l nb2
      obtain ⟨a5, c5, hv5, _⟩ := s5.shape
      have one5 : v'.oneCell' = true := by rw [hv5]; rfl
      have cel5 : v'.cells = #[v'] := by rw [hv5]; rfl
      have hgl5 : i < vs.toArray.size := by simpa using hvi
      refine ZigS.zig_end rfl (by kernel_rfl) (fun K hK => ?_)
      refine wp_rw_storeP (P := Try.prog) (s := i) (v := v') l5 (by rw [cel5]; exact infoQr_size) (by rw [cel5]; show i + 1 ≤ _; omega) (by rw [cel5]; intro u hu; simp at hu; rw [hu]; exact one5) rfl rfl rfl ?_
      intro w6 A6 g6 z6
      rw [cel5, show (#[v'] : Array Value).toList = [v'] from rfl, patch_one _ _ _ hgl5] at A6
      have A6 : RowAt w6 gl 93 (vs.set i v').toArray := by rw [show (vs.set i v').toArray = vs.toArray.setIfInBounds i v' from by simp]; exact A6
      refine hK _ _ ?_
      clear hK K
      have t5' : Onto wd vs[i] w5 v' := by rw [hv]; exact Onto.after b4 t5
      have hr5 : QRow w5 B v' (L[i] ++ [⟨s, r, .slice ua r.d.length uc⟩]) := ⟨by rw [List.length_append, List.flatMap_append, show [(⟨s, r, .slice ua r.d.length uc⟩ : As)].flatMap asC = asC ⟨s, r, .slice ua r.d.length uc⟩ from by simp]; exact s5, fun x hx => by
        have k5 : Keep8 wd w5 := (Keep8.of_below b4).trans (Keep8.of_grown t5.1 fun k hk => hown.notB (by decide) k hk)
        rcases List.mem_append.1 hx with hx | hx
        · exact (hro.2 x hx).keep k5
        · rw [List.mem_singleton.1 hx]; exact y3.keep k5⟩
      obtain ⟨hq7, st7⟩ := hq3.set hBd i hvi v' _ t5' hr5 g6 A6
      have stF : Step F w w6 (QFp g gl (vs.set i v')) := (Step.of_below b3).trans ⟨st7.1.mono fun k _ hk => hG k hk, st7.2.1, fun k hk => (st7.2.2 k hk).imp (hG k) id⟩
      clear hq3 hq4 HS t5 t5' s5 hown hro hr5 g6 A6 l5 z6 st7 y3
      refine ZigS.zig_nil ?_
      go_wp2_with fail
      go_ret
      refine ⟨rfl, _, L.set i (L[i] ++ [⟨s, r, .slice ua r.d.length uc⟩]), ⟨gl, _, hq7, fun k hk => hk⟩, ?_, stF⟩
      rw [con_set, ← List.getD_eq_getElem?_getD, con_get i hi]
      simp
    · rw [decide_eq_false h20]
      have h20I : (20 : Int) ≤ ((L[i]).length : Int) := by omega
      go_enter Try.func29, Try.ntmps29
      go_wp2_with (refine wp_want rfl fun K hK => ?_; refine wp_rw_box (P := Try.prog) (t := 51) (rqA r (.slice da r.d.length dc)) rfl rfl ?_)
      intro w1 A1 b1 s1
      refine hK _ _ ?_
      clear hK K
      have hq1 := hq.frm (Frm.of_below (fun _ => False) b1) (Keep8.of_below b1) fun _ _ h => h
      go_wp2_with fail
      refine (ht hq1).mono ?_
      rintro e w' ⟨rfl, rfl⟩
      have hc := hq1.cell
      have hci := hq1.at_ i hi
      rw [hv] at hci
      go_wp2_with fail
      go_ret
      exact ⟨rfl, F, L, ⟨gl, vs, hq1, hG⟩, by simp, Step.of_below b1⟩
  · have hin : inQ L label = false := by simpa using hin
    have ht : ∀ {w'}, QR w' B g gl vs L → Calls Try.prog 54 #[qp g, .int .i64 label] w' fun e w'' => e = .returned (.bool false) ∧ w' = w'' := fun {w'} h => by
      have h := there_any h label
      rw [hin] at h
      exact h
    rw [hin]
    go_enter Try.func29, Try.ntmps29
    go_wp2_with (refine wp_want rfl fun K hK => ?_; refine wp_rw_box (P := Try.prog) (t := 51) (rqA r (.slice da r.d.length dc)) rfl rfl ?_)
    intro w1 A1 b1 s1
    refine hK _ _ ?_
    clear hK K
    have hq1 := hq.frm (Frm.of_below (fun _ => False) b1) (Keep8.of_below b1) fun _ _ h => h
    go_wp2_with fail
    refine (ht hq1).mono ?_
    rintro e w' ⟨rfl, rfl⟩
    go_wp2_with fail
    go_ret
    exact ⟨rfl, F, L, ⟨gl, vs, hq1, hG⟩, by simp, Step.of_below b1⟩
/-- a queue that is none -/
theorem qPush_nil (label s : Int) (r : Rq) (dv : Value) (w : World) :
    Calls Try.prog 29 #[.pointer none, .int .i64 label, .int .i64 s, rqV r dv] w fun e w' => e = .returned (.bool false) ∧ Below w.heap.size w w' := by
  go_enter Try.func29, Try.ntmps29
  go_wp2_with (refine wp_want rfl fun K hK => ?_; refine wp_rw_box (P := Try.prog) (t := 51) (rqA r dv) rfl rfl ?_)
  intro w1 A1 b1 s1
  refine hK _ _ ?_
  clear hK K
  go_wp2_with fail
  refine (there_nil label w1).mono ?_
  rintro e w' ⟨rfl, rfl⟩
  go_wp2_with fail
  go_ret
  exact ⟨rfl, b1⟩
end Go.Proofs.Ytibpipppabommaa.Cl
