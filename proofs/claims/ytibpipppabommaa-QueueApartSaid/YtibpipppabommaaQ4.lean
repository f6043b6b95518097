/- queue: Pop. -/
import Derived.Test.YtibpipppabommaaQ3
import Derived.Test.YtibpipppabommaaRelyT
set_option linter.unusedVariables false
set_option linter.unusedSimpArgs false
namespace Go.Proofs.Ytibpipppabommaa.Cl
open Go Go.Proofs Go.RowKit Fl

def rq0 : Rq := ⟨0, [], [], 0, 0, 0, []⟩
theorem results_rq {fn : Func} {p q s : Tmp} (h : fn.results = #[.tmp p, .cell q 51, .tmp s]) {tmps : Array Value} {w : World} {g : Nat} {r : Rq} {dv u v : Value} (hp : tmps.getD p undef = u) (hq : tmps.getD q undef = .pointer (some ⟨g, 0, none⟩)) (hs : tmps.getD s undef = v) (hB : RowAt w g 51 (rqA r dv)) :
    (results fn tmps).run Try.prog w = .ok (.tuple #[u, rqV r dv, v]) w := by
  have hp' : tmps[p]?.getD undef = u := by simpa using hp
  have hq' : tmps[q]?.getD undef = .pointer (some ⟨g, 0, none⟩) := by simpa using hq
  have hs' : tmps[s]?.getD undef = v := by simpa using hs
  have hl := run_rw_load (P := Try.prog) hB Try.underlying51 rfl infoRq_size
  simp [results, h, hp', hq', hs', asAddr, hl]
theorem asC_one (x : As) (h : x.v.oneCell' = true) : ∀ u ∈ asC x, u.oneCell' = true := by
  intro u hu
  simp only [asC, rqA, List.mem_cons, List.not_mem_nil, or_false] at hu
  rcases hu with rfl | rfl | rfl | rfl | rfl | rfl | rfl | rfl
  all_goals first | rfl | exact h
theorem rqA_all (r : Rq) (dv : Value) (h : dv.oneCell' = true) : (rqA r dv).all (·.oneCell') = true := by
  rw [Array.all_eq_true_iff_forall_mem]
  intro u hu
  exact asC_one ⟨0, r, dv⟩ h u (List.mem_cons_of_mem _ (by simpa using hu))
theorem relyq_load {P : Program} {ops : Array Oper} {w0 : World} {Q : Act → World → Prop} {o : Oper} {rest : List Oper} {a : Act} {ty : TypeId} {x : Operand} {ad : Addr} {v : Value} (hl : ∀ y : RelyT.Lat w0, (loadVar ty ad).run P y.1 = .ok v y.1)
    (hg : RelyT.guardB ops o [] = true) (hw : Region.wanted o (yielded ops a.tmps) = true) (ho : o.op = .load ty x) (hx : a.eval x = .pointer (some ad)) (hk : RelyT.wpR P ops w0 Q rest [] (a.put o.dst v)) : RelyT.wpR P ops w0 Q (o :: rest) [] a := by
  refine RelyT.wpR_settled v [] hg rfl hw (fun y => ?_) hk
  show RelyT.quietR P y.1 v ((execOp a.eval o).run P y.1)
  unfold execOp
  simp only [ho, hx, Instr.loadAt, Instr.sureAddr, Sem.run_bind, Sem.run_pure, Result.andThen_ok, hl y]
  exact ⟨rfl, rfl⟩
theorem run_rq_at {W : World} {g : Nat} {x : As} (h : RowAt W g 92 (asC x).toArray) : (loadVar 51 ⟨g, 1, none⟩).run Try.prog W = .ok (rqV x.r x.v) W :=
  run_load_atP W ⟨g, 1, none⟩ 51 (rqA x.r x.v).toList _ (fun i u hj => by
    rw [Addr.add_lit]
    refine h.cell _ _ ?_
    rw [Nat.add_comm 1 i]
    simpa [asC] using hj) Try.underlying51 rfl infoRq_size
theorem sizeOf_as (w : World) : (sizeOf 92).run Try.prog w = .ok 8 w := by
  obtain ⟨i, hi, hz, hs, hb⟩ := info_parts infoAs
  simp [sizeOf, typeInfo, hi, hs]
theorem elem_as : Try.prog.elem 93 = 92 := by kernel_rfl
theorem under_as : Try.prog.underlying 93 = some (.slice (Try.prog.elem 93)) := by kernel_rfl
set_option maxRecDepth 100000 in
set_option maxHeartbeats 4000000 in
/-- nobody waits -/
theorem qPop_no {w : World} {B g gl : Nat} {vs : List Value} {L : List (List As)} (hq : QR w B g gl vs L) (label : Int) (h0 : lenQ L label = 0) :
    Calls Try.prog 26 #[qp g, .int .i64 label] w fun e w' => e = .returned (.tuple #[.int .i64 0, rqV rq0 (.slice none 0 0), .bool false]) ∧ Below w.heap.size w w' := by
  go_enter Try.func26, Try.ntmps26
  go_wp2_with (refine wp_want rfl fun K hK => ?_; refine wp_rw_alloc (P := Try.prog) (t := 51) (rqV rq0 (.slice none 0 0)) infoRq_zero rfl ?_)
  intro w1 A1 b1 s1
  refine hK _ _ ?_
  clear hK K
  have hq1 := hq.frm (Frm.of_below (fun _ => False) b1) (Keep8.of_below b1) fun _ _ h => h
  have hl := qLen_any hq1 label
  rw [h0] at hl
  go_wp2_with fail
  refine hl.mono ?_
  rintro e w' ⟨rfl, rfl⟩
  go_wp2_with (refine wp_want rfl fun K hK => ?_; refine wp_rw_store (P := Try.prog) (cs := rqA rq0 (.slice none 0 0)) A1 infoRq_size rfl (rqA_all _ _ rfl) rfl rfl rfl ?_)
  intro w2 A2 g2 z2
  refine hK _ _ ?_
  clear hK K
  go_wp2_with fail
  exact bodyPost_ret (results_rq rfl rfl rfl rfl A2) rfl ⟨rfl, below_row b1 g2 b1.size (Nat.le_refl _)⟩
theorem qLen_nil (label : Int) (w : World) :
    Calls Try.prog 30 #[.pointer none, .int .i64 label] w fun e w' => e = .returned (.int .i64 0) ∧ w = w' := by
  go_enter Try.func30, Try.ntmps30
  go_wp2_with fail
  refine (there_nil label w).mono ?_
  rintro e w' ⟨rfl, rfl⟩
  go_wp2_with fail
  go_ret
  exact ⟨rfl, rfl⟩
set_option maxRecDepth 100000 in
set_option maxHeartbeats 1000000 in
theorem qPop_nil (label : Int) (w : World) :
    Calls Try.prog 26 #[.pointer none, .int .i64 label] w fun e w' => e = .returned (.tuple #[.int .i64 0, rqV rq0 (.slice none 0 0), .bool false]) ∧ Below w.heap.size w w' := by
  go_enter Try.func26, Try.ntmps26
  go_wp2_with (refine wp_want rfl fun K hK => ?_; refine wp_rw_alloc (P := Try.prog) (t := 51) (rqV rq0 (.slice none 0 0)) infoRq_zero rfl ?_)
  intro w1 A1 b1 s1
  refine hK _ _ ?_
  clear hK K
  go_wp2_with fail
  refine (qLen_nil label w1).mono ?_
  rintro e w' ⟨rfl, rfl⟩
  go_wp2_with (refine wp_want rfl fun K hK => ?_; refine wp_rw_store (P := Try.prog) (cs := rqA rq0 (.slice none 0 0)) A1 infoRq_size rfl (rqA_all _ _ rfl) rfl rfl rfl ?_)
  intro w2 A2 g2 z2
  refine hK _ _ ?_
  clear hK K
  go_wp2_with fail
  exact bodyPost_ret (results_rq rfl rfl rfl rfl A2) rfl ⟨rfl, below_row b1 g2 b1.size (Nat.le_refl _)⟩
set_option maxRecDepth 100000 in
set_option maxHeartbeats 4000000 in
theorem qPop_yes {w : World} {B g gl : Nat} {vs : List Value} {L : List (List As)} (hq : QR w B g gl vs L) (hB : B ≤ w.heap.size) (i : Nat) (hi : i < L.length) (x : As) (l : List As) (hx : L[i] = x :: l) (hl20 : l.length ≤ 1000) :
    Calls Try.prog 26 #[qp g, .int .i64 (i : Int)] w fun e w' => e = .returned (.tuple #[.int .i64 x.s, rqV x.r x.v, .bool true]) ∧ AsOk w' x ∧ ∃ vs', QR w' B g gl vs' (L.set i l) ∧ Step (QFp g gl vs) w w' (QFp g gl vs') := by
  have hvi : i < vs.length := by rw [hq.len]; exact hi
  have hro := hq.row i hvi hi
  rw [hx] at hro
  have hlen : lenQ L i = l.length + 1 := by
    unfold lenQ
    rw [show inQ L i = true from by simp [inQ, hi], if_pos rfl, Int.toNat_natCast, List.getD_eq_getElem?_getD, List.getElem?_eq_getElem hi, Option.getD_some, hx]
    rfl
  obtain ⟨gb, off, cap, hv, hcap, hcap2, hbB, hblt, hcells⟩ := hro.1.some_ (by simp)
  obtain ⟨v', hsl, hob, htl⟩ := run_slo_tail (P := Try.prog) 93 92 8 under_as elem_as sizeOf_as vs[i] _ (by simp) w _ hro.1
  have hxo := hro.2 x (List.mem_cons_self ..)
  obtain ⟨da, dc, hdv⟩ : ∃ da dc, x.v = .slice da x.r.d.length dc := by obtain ⟨a, c, e, _⟩ := hxo.1; exact ⟨a, c, by rw [e, bs_length]⟩
  have hle := hq.le
  have hiI : (i : Int) < (L.length : Int) := by omega
  have hLl := Lib.hid hlen
  have hX := Lib.hid hx
  have HD := Lib.hid hdv
  clear hdv
  have hL2 : (x :: l).length = l.length + 1 := rfl
  clear hx hlen
  go_enter Try.func26, Try.ntmps26
  go_wp2_with (refine wp_want rfl fun K hK => ?_; refine wp_rw_alloc (P := Try.prog) (t := 51) (rqV rq0 (.slice none 0 0)) infoRq_zero rfl ?_)
  intro w1 A1 b1 s1
  refine hK _ _ ?_
  clear hK K
  have hq1 := hq.frm (Frm.of_below (fun _ => False) b1) (Keep8.of_below b1) fun _ _ h => h
  have hl := qLen_any hq1 i
  rw [hLl.out] at hl
  go_wp2_with fail
  refine hl.mono ?_
  rintro e w' ⟨rfl, rfl⟩
  have hc := hq1.cell
  have hci := hq1.at_ i hi
  rw [hv] at hci
  have hcel : ∀ j u, (asC x)[j]? = some u → w1.cell? ((⟨gb, off, none⟩ : Addr).add j) = some u := fun j u hj => by
    rw [Addr.add_lit]
    refine cell_later b1 (hcells j u ?_)
    rw [List.flatMap_cons, List.getElem?_append_left (by rw [asC_len]; exact (List.getElem?_eq_some_iff.1 hj).1)]
    exact hj
  clear hl hcells
  go_wp2_with (refine wp_want rfl fun K hK => ?_; first | (refine wp_load_atP (P := Try.prog) (asC x) Try.underlying92 rfl (by rw [asC_len]; exact infoAs_size) hcel rfl rfl ?_; refine hK _ _ ?_; clear hK K) | refine wp_rw_alloc (P := Try.prog) (t := 92) (.agg (asC ⟨0, ⟨0, [], [], 0, 0, 0, []⟩, .slice none 0 0⟩).toArray) (by obtain ⟨i, hi, hz, _⟩ := info_parts infoAs; rw [hi]; simp [hz]) rfl ?_)
  intro w2 A2 b2 s2
  refine hK _ _ ?_
  clear hK K
  have A1 := A1.later b2
  have n1 : w1.heap.size ≠ w.heap.size := by omega
  go_wp2_with (refine wp_want rfl fun K hK => ?_; refine wp_rw_store (P := Try.prog) (cs := (asC x).toArray) A2 infoAs_size rfl (by rw [Array.all_eq_true_iff_forall_mem]; intro u hu; exact asC_one x (by rw [HD.out]; rfl) u (by simpa using hu)) rfl rfl rfl ?_)
  intro w3 A3 g3 z3
  refine hK _ _ ?_
  clear hK K
  have A1 := A1.grown g3 (by omega)
  have b3 : Below w.heap.size w w3 := below_row (b1.trans (b2.mono b1.size)) g3 (Nat.le_trans b1.size b2.size) b1.size
  have hq3 := hq.frm (Frm.of_below (fun _ => False) b3) (Keep8.of_below b3) fun _ _ h => h
  clear A2 b2 s2 g3 z3 hq1 hc hci hcel
  generalize w1.heap.size = g7 at *
  generalize hg5 : w.heap.size = g5 at *
  have hsl : ∀ W : World, (Instr.sliceAt 93 (.slice (some ⟨gb, off, none⟩) (l.length + 1) cap) (some (.int .i64 1)) none none).run Try.prog W = .ok v' W := fun W => by have h := hsl W; rw [hv] at h; exact h
  have hc := hq3.cell
  have hci := hq3.at_ i hi
  rw [hv] at hci
  have x1 := fun y : RelyT.Lat w3.drew => cell_later y.2 (show w3.drew.cell? _ = _ from hc)
  have x2 := fun y : RelyT.Lat w3.drew => cell_later y.2 (show w3.drew.cell? _ = _ from hci)
  have hdr : Below w3.heap.size w3 w3.drew := (Below.refl _ _).drew
  go_upto_region 4 with fail
  refine RelyT.wp_region_rely 14 (by kernel_rfl) (by kernel_rfl) ?_
  simp only [List.take_succ_cons, List.take_zero]
  generalize World.drew w3 = wd at *
  repeat (first
    | (refine RelyT.wpR_step0 ?_ ?_ (fun K hK => ?_); rfl; rfl; go_simp; refine hK _ ?_; clear hK K))
  refine RelyT.wpR_nil fun x => ?_
  obtain ⟨we, web⟩ := x
  simp only [RelyT.close, List.drop_succ_cons, List.drop_zero]
  have hdr := hdr.trans (web.mono hdr.size)
  have b4 := b3.trans (hdr.mono (by rw [← hg5]; exact (hg5 ▸ b3.size)))
  have hq4 := hq3.frm (Frm.of_below (fun _ => False) hdr) (Keep8.of_below hdr) fun _ _ h => h
  have A1 := A1.later hdr
  have A3 := A3.later hdr
  clear x1 x2 hc hci hq3 web hdr b3
  have hro4 := hq4.row i hvi hi
  rw [hX.out] at hro4
  have sv' := htl _ _ hro4.1
  obtain ⟨a5, c5, hv5, _⟩ := sv'.shape
  have one5 : v'.oneCell' = true := by rw [hv5]; rfl
  have cel5 : v'.cells = #[v'] := by rw [hv5]; rfl
  have hgl5 : i < vs.toArray.size := by simpa using hvi
  have hV5 := Lib.hid hv5
  clear hv5
  go_wp2_with (refine wp_want rfl fun K hK => ?_; refine wp_rw_storeP (P := Try.prog) (s := i) (v := v') hq4.l (by rw [cel5]; exact infoQr_size) (by rw [cel5]; show i + 1 ≤ _; omega) (by rw [cel5]; intro u hu; simp at hu; rw [hu]; exact one5) rfl rfl rfl ?_)
  intro w6 A6 g6 z6
  have A6 : RowAt w6 gl 93 (patch vs.toArray i [v']) := by first | exact A6 | (rw [cel5] at A6; exact A6)
  rw [patch_one _ _ _ hgl5] at A6
  have A6 : RowAt w6 gl 93 (vs.set i v').toArray := by rw [show (vs.set i v').toArray = vs.toArray.setIfInBounds i v' from by simp]; exact A6
  refine hK _ _ ?_
  clear hK K
  have hr5 : QRow we B v' l := ⟨by
    rw [List.flatMap_cons, List.drop_left' (asC_len x)] at sv'
    exact sv', fun y hy => hro4.2 y (List.mem_cons_of_mem _ hy)⟩
  have hx4 : AsOk we x := hro4.2 x (List.mem_cons_self ..)
  obtain ⟨hq7, st7⟩ := hq4.set (by have := b4.size; omega) i hvi v' l ⟨World.grownBy.refl _ _, fun k hk => .inl (hob ▸ hk)⟩ hr5 g6 A6
  have k6 : Keep8 we w6 := st7.2.1
  have n5 : gl ≠ g5 := by have := hq.l.lt; omega
  have n7 : gl ≠ g7 := by have := hq.l.lt; omega
  have A1 := A1.grown g6 (fun e => n5 e.symm)
  have A3 := A3.grown g6 (fun e => n7 e.symm)
  have hx6 := hx4.keep k6
  have stF : Step (QFp g gl vs) w w6 (QFp g gl (vs.set i v')) := (Step.of_below (by rw [hg5]; exact b4)).trans st7
  clear hq4 hro4 sv' hr5 hx4 g6 z6 A6 st7 k6 b4 b1
  have y0 := fun y : RelyT.Lat w6.drew => cell_later y.2 (show w6.drew.cell? ⟨g7, 0, none⟩ = some (.int .i64 x.s) from A3.cell 0 _ rfl)
  have y1 := fun y : RelyT.Lat w6.drew => run_rq_at (RowAt.later (show RowAt w6.drew g7 _ _ from A3) y.2)
  have hdr : Below w6.heap.size w6 w6.drew := (Below.refl _ _).drew
  go_upto_region 5 with fail
  refine RelyT.wp_region_rely 5 (by kernel_rfl) (by kernel_rfl) ?_
  simp only [List.take_succ_cons, List.take_zero]
  generalize World.drew w6 = wd at *
  repeat (first
    | (refine RelyT.wpR_step0 ?_ ?_ (fun K hK => ?_); rfl; rfl; go_simp; refine hK _ ?_; clear hK K))
  refine relyq_load y1 rfl rfl rfl rfl ?_
  repeat (first
    | (refine RelyT.wpR_step0 ?_ ?_ (fun K hK => ?_); rfl; rfl; go_simp; refine hK _ ?_; clear hK K))
  refine RelyT.wpR_nil fun x => ?_
  obtain ⟨wf, wfb⟩ := x
  simp only [RelyT.close, List.drop_succ_cons, List.drop_zero]
  have hdr := hdr.trans (wfb.mono hdr.size)
  have A1 := A1.later hdr
  have hq8 := hq7.frm (Frm.of_below (fun _ => False) hdr) (Keep8.of_below hdr) fun _ _ h => h
  have hx8 := hx6.keep (Keep8.of_below hdr)
  have st8 := stF.trans (Step.of_below (F := QFp g gl (vs.set i v')) hdr)
  clear y0 y1 wfb hq7 hx6 stF A3
  go_wp2_with (refine wp_want rfl fun K hK => ?_; refine wp_rw_store (P := Try.prog) (cs := rqA x.r x.v) A1 infoRq_size rfl (rqA_all _ _ (by rw [HD.out]; rfl)) rfl rfl rfl ?_)
  intro w9 A9 g9 z9
  refine hK _ _ ?_
  clear hK K
  go_wp2_with fail
  have q5 : ¬ QFp g gl (vs.set i v') g5 := fun hk => by
    rcases hk with e | e | ⟨v, hv', hb⟩
    · have := hq.q.lt; omega
    · exact n5 e.symm
    · obtain ⟨j, hj, rfl⟩ := List.mem_iff_getElem.1 hv'
      exact absurd hb ((hq8.row j hj (by rw [← hq8.len]; exact hj)).1.notRow A1 (by decide))
  have k9 := Keep8.of_grown g9 fun k hk => by obtain rfl := Option.some.inj hk; exact A1.notB (by decide)
  have f9 : Frm (fun k => k = g5) wf w9 := Frm.of_grown g9 fun k hk => (Option.some.inj hk).symm
  refine bodyPost_ret (results_rq rfl rfl rfl rfl A9) rfl ⟨rfl, hx8.keep k9, _, hq8.frm f9 k9 (fun k hk e => q5 (e ▸ hk)), ?_⟩
  exact ⟨st8.1.step f9 (fun j hj e => by exfalso; omega), st8.2.1.trans k9, st8.2.2⟩
end Go.Proofs.Ytibpipppabommaa.Cl
