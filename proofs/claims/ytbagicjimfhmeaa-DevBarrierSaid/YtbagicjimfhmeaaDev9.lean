/- dev: New. -/
import Derived.Test.YtbagicjimfhmeaaDev8
import Derived.Test.YtbagicjimfhmeaaZag
set_option linter.unusedVariables false
set_option linter.unusedSimpArgs false
namespace Go.Proofs.Ytbagicjimfhmeaa.Cl
open Go Go.Proofs Go.RowKit Fl

def Z64 : List UInt8 := List.replicate 64 0
def newR (n : Nat) : Rg := ⟨List.replicate n Z64, List.replicate n Z64, [], []⟩
def newD (l : List Nat) : Dv := (l.map newR, -1)
theorem Z64_length : Z64.length = 64 := List.length_replicate
theorem made64 (w : World) : Byt (w.alloc (.cells (List.replicate 64 (Value.int .u8 0)).toArray 5)) (.slice (some ⟨w.heap.size, 0, none⟩) 64 64) Z64 :=
  Byt.of_OB (OB.lit' 0 w _ Z64 64 (by simp [Z64, bs, u8]) (by simp [Z64]) (Nat.zero_le _) (by simp [Z64]))
theorem keep_app {w w' : World} {B : Nat} {v v' : Value} {L : List (List UInt8)} (t : Onto w v w' v') (h : TL w B v L) : Keep8 w w' := Keep8.of_grown t.1 h.notB
theorem lies_at {w0 w : World} {v v' : Value} (h : Lies w v v') (hz : w0.heap.size ≤ w.heap.size) : Lies w0 v v' := fun g hg => (h g hg).imp id fun e => Nat.le_trans hz e
theorem TL.shape3 {w : World} {B : Nat} {v : Value} {L : List (List UInt8)} (h : TL w B v L) : ∃ a n c, v = .slice a n c := by
  obtain ⟨a, c, e, _⟩ := h.len
  exact ⟨_, _, _, e⟩
/-- seen and sure anew -/
theorem RgAt.setBoth {w w1 : World} {a : RgA} {r : Rg} (h : RgAt w a r) (v u : Value) (L M : List (List UInt8)) (hf : Frm (fun k => a.vs.ownBlock = some k ∨ a.vu.ownBlock = some k) w w1) (hv : Lies w a.vs v) (hu : Lies w a.vu u) (hL : TL w1 0 v L) (hM : TL w1 0 u M) (hn : noTwo v u) :
    RgAt ((w1.setCell ⟨a.g, 0, none⟩ v).setCell ⟨a.g, 1, none⟩ u) { a with vs := v, vu := u } { r with seen := L, sure := M } ∧ RS w a ((w1.setCell ⟨a.g, 0, none⟩ v).setCell ⟨a.g, 1, none⟩ u) { a with vs := v, vu := u } ∧
      w1.cell? ⟨a.g, 0, none⟩ = some a.vs ∧ w1.frozen? ⟨a.g, 0, none⟩ = false ∧ (w1.setCell ⟨a.g, 0, none⟩ v).cell? ⟨a.g, 1, none⟩ = some a.vu ∧ (w1.setCell ⟨a.g, 0, none⟩ v).frozen? ⟨a.g, 1, none⟩ = false := by
  obtain ⟨g1, g2, g3, g4⟩ := h.gNe
  obtain ⟨l1, l2, l3⟩ := h.lNe
  have k8 : Keep8 w w1 := fun k hk => hf.block k hk.lt fun e => e.elim (fun e => h.seen.notB k e hk) fun e => h.sure.notB k e hk
  have row1 : RowAt w1 a.g 82 (rgC a) := hf.row h.row fun e => e.elim g1 g2
  obtain ⟨s1, s2, s3⟩ := row1.set 0 v
  have s1 : RowAt (w1.setCell ⟨a.g, 0, none⟩ v) a.g 82 #[v, a.vu, a.vl, a.vt] := s1
  obtain ⟨t1, t2, t3⟩ := s1.set 1 u
  have f2 : Frm (fun k => k = a.g) w1 (w1.setCell ⟨a.g, 0, none⟩ v) := Frm.of_grown s2 fun k e => (Option.some.inj e).symm
  have f3 : Frm (fun k => k = a.g) (w1.setCell ⟨a.g, 0, none⟩ v) ((w1.setCell ⟨a.g, 0, none⟩ v).setCell ⟨a.g, 1, none⟩ u) := Frm.of_grown t2 fun k e => (Option.some.inj e).symm
  have f23 := f2.step f3 fun k _ e => e
  have k2 : Keep8 w1 ((w1.setCell ⟨a.g, 0, none⟩ v).setCell ⟨a.g, 1, none⟩ u) := (Keep8.of_grown s2 fun k e => by obtain rfl := Option.some.inj e; exact row1.notB (by decide)).trans (Keep8.of_grown t2 fun k e => by obtain rfl := Option.some.inj e; exact s1.notB (by decide))
  have ng : ∀ {x : Value} {X : List (List UInt8)}, TL w1 0 x X → ∀ k, x.ownBlock = some k → ¬ k = a.g := fun hx k hk e => by
    subst e
    exact absurd ((hx.ty hk).ne row1.ty) (by decide)
  refine ⟨⟨t1, hL.frm f23 k2 (ng hL), hM.frm f23 k2 (ng hM), (h.later.frm hf k8 fun k e e' => e'.elim (l1 k e) (l2 k e)).frm f23 k2 fun k e e' => g3 (e' ▸ e), (h.trace.frm hf k8 fun k e e' => e'.elim (fun e' => h.st k e' e) fun e' => h.ut k e' e).frm f23 k2 fun k e e' => g4 (e' ▸ e), hn, (h.st.symm.symm.lies hv h.trace.lt), (h.ut.lies hu h.trace.lt)⟩,
    ⟨(hf.mono fun k _ e => e.elim (fun e => .inr (.inl e)) fun e => .inr (.inr (.inl e))).step f23 fun k _ e => .inl e, k8.trans k2, rfl, fun k hb => ?_⟩, row1.cell 0 _ rfl, row1.frozen, s1.cell 1 _ rfl, s1.frozen⟩
  rcases hb with e | e | e | e | e
  · exact .inl (.inl e)
  · exact (hv k e).imp (fun e => .inr (.inl e)) id
  · exact (hu k e).imp (fun e => .inr (.inr (.inl e))) id
  · exact .inl (.inr (.inr (.inr (.inl e))))
  · exact .inl (.inr (.inr (.inr (.inr e))))
def ints (l : List Int) : List Value := l.map (Value.int .i64)
abbrev rgN (g : Nat) (vs vu : Value) : RgA := ⟨g, vs, vu, .slice none 0 0, .slice none 0 0⟩
def InnerRel (wb : World) (gr n : Nat) (i : Value) (wr : World) : Prop := ∃ (j : Nat) (vs vu : Value), j ≤ n ∧ i = .int .i64 (j : Int) ∧ RgAt wr (rgN gr vs vu) (newR j) ∧ (∀ k, Blk (rgN gr vs vu) k → wb.heap.size ≤ k) ∧ Below wb.heap.size wb wr
theorem inner_step {wb wr W0 Xz : World} {n j gr : Nat} {vs vu vs' vu' i : Value} (hj : j < n) (R : RgAt wr (rgN gr vs vu) (newR j)) (hdr : Below wr.heap.size wr W0) (Rz : RgAt Xz (rgN gr vs' vu') ⟨List.replicate j Z64 ++ [Z64], List.replicate j Z64 ++ [Z64], [], []⟩) (Sz : RS W0 (rgN gr vs vu) Xz (rgN gr vs' vu')) (hB : ∀ k, Blk (rgN gr vs vu) k → wb.heap.size ≤ k) (hb : Below wb.heap.size wb wr) (hi : i = .int .i64 ((j + 1 : Nat) : Int)) : InnerRel wb gr n i Xz := by
  have e : newR (j + 1) = ⟨List.replicate j Z64 ++ [Z64], List.replicate j Z64 ++ [Z64], [], []⟩ := by
    unfold newR
    rw [List.replicate_succ']
  have s := (RS.below (rgN gr vs vu) hdr).trans Sz
  refine ⟨j + 1, vs', vu', hj, hi, by rw [e]; exact Rz, fun k hk => ?_, hb.trans (s.frm.below wb.heap.size (fun k _ hk => hB k hk) hb.size)⟩
  rcases s.lies k hk with h | h
  · exact hB k h
  · exact Nat.le_trans hb.size h
theorem blk_none {g B : Nat} (h : B ≤ g) : ∀ k, Blk ⟨g, .slice none 0 0, .slice none 0 0, .slice none 0 0, .slice none 0 0⟩ k → B ≤ k := fun k hk => by
  rcases hk with e | e | e | e | e
  · have e : k = g := e
    omega
  all_goals cases e
def okS (l : List Int) : Prop := 1 ≤ l.length ∧ l.length ≤ 8 ∧ ∀ n ∈ l, 1 ≤ n ∧ n ≤ 1000
def NewIs (w : World) (l : List Int) (e : Ending) (w' : World) : Prop :=
  (okS l ∧ ∃ g, e = .returned (.tuple #[ptr g, .bool true]) ∧ DevRep w' g (fun k => w.heap.size ≤ k) (newD (l.map Int.toNat)) ∧ w.heap.size ≤ g ∧ Below w.heap.size w w') ∨ (¬ okS l ∧ e = .returned (.tuple #[.pointer none, .bool false]) ∧ Below w.heap.size w w')
def OuterRel (w : World) (l : List Int) (i : Value) (wr : World) : Prop := ∃ (k : Nat) (vl : Value) (rs : List RgA), k ≤ l.length ∧ i = .int .i64 (k : Int) ∧ (∀ n ∈ l.take k, 1 ≤ n ∧ n ≤ 1000) ∧ DR wr w.heap.size vl rs (newD ((l.take k).map Int.toNat)) ∧ (∀ j, FP w.heap.size vl rs j → w.heap.size ≤ j) ∧ Below w.heap.size w wr
theorem infoU8Z : (Try.prog.info? 5).map (fun i => (i.zero, i.size, i.bytes)) = some (some (.int .u8 0), 1, 1) := by kernel_rfl
set_option maxRecDepth 100000 in
set_option maxHeartbeats 16000000 in
theorem devNew_any (v : Value) (l : List Int) (w : World) (hv : Rd w v (ints l)) :
    Calls Try.prog 13 #[v] w fun e w' => NewIs w l e w' := by
  obtain ⟨i8, hi8, hz8, hs8, hb8⟩ := info_parts infoU8Z
  have hmk := run_make_n (P := Try.prog) 34 5 i8 (.int .u8 0) Try.underlying34 hi8 hz8 hs8 rfl 64 64 rfl (by rw [hb8]; decide) (by decide)
  obtain ⟨a0, cap, rfl, hc1, hc2, hcell, hnil⟩ := id hv
  have hlen : (ints l).length = l.length := by simp [ints]
  rw [hlen] at hc1 ⊢
  by_cases hl8 : 1 ≤ l.length ∧ l.length ≤ 8
  · obtain ⟨hl1, hl2⟩ := hl8
    have i1 : ¬ (l.length : Int) < 1 := by omega
    have i2 : ¬ (8 : Int) < (l.length : Int) := by omega
    go_enter Try.func13, Try.ntmps13
    go_upto_region 4 with fail
    have A1 := RowAt.new w 78 #[.slice none 0 0, .int .i64 (-1)]
    have b1 := below_new w (.cells #[.slice none 0 0, .int .i64 (-1)] 78)
    generalize w.alloc (.cells #[.slice none 0 0, .int .i64 (-1)] 78) = w1 at *
    have N1 := DR.none A1
    go_wp2_with fail
    go_loopw [6, 7, 20, 33] (fun _ _ i _ wr => OuterRel w l i wr) (fun _ _ i _ _ => l.length - (intOf i).toNat)
    case atStart => exact ⟨0, _, _, Nat.zero_le _, rfl, (fun n hn => by simp at hn), by simpa [newD] using N1, fp_none (Nat.le_refl _), b1⟩
    case round =>
      clear N1 A1 b1
      rename World => wo
      obtain ⟨k, vl, rs, hk, rfl, hok, N, hN, hb⟩ := hrel
      by_cases hlt : k < l.length
      · have hlI : (k : Int) < (l.length : Int) := by omega
        obtain ⟨ad, rfl, hcx⟩ := hcell k (by rw [hlen]; exact hlt)
        have hcx := cell_later hb hcx
        rw [show (ints l)[k]'(by rw [hlen]; exact hlt) = .int .i64 l[k] by simp [ints]] at hcx
        have hts := Lib.hid (take_snoc l k hlt)
        have hmem := List.getElem_mem hlt
        generalize l[k] = n at *
        clear hcell hnil hv
        by_cases hn : 1 ≤ n ∧ n ≤ 1000
        · obtain ⟨hn1, hn2⟩ := hn
          obtain ⟨m, rfl⟩ := Int.eq_ofNat_of_zero_le (show 0 ≤ n by omega)
          have m1 : 1 ≤ m := by omega
          have m2 : m ≤ 1000 := by omega
          go_upto_region 10 with fail
          have A5 := RowAt.new wo 82 #[.slice none 0 0, .slice none 0 0, .slice none 0 0, .slice none 0 0]
          have b5 := below_new wo (.cells #[.slice none 0 0, .slice none 0 0, .slice none 0 0, .slice none 0 0] 82)
          generalize wo.alloc (.cells #[.slice none 0 0, .slice none 0 0, .slice none 0 0, .slice none 0 0] 82) = w5 at *
          have R5 : RgAt w5 ⟨wo.heap.size, .slice none 0 0, .slice none 0 0, .slice none 0 0, .slice none 0 0⟩ (newR 0) := ⟨A5, TL.nil _ _, TL.nil _ _, LL.nil _, TL.nil _ _, (fun j h => by cases h), (fun j h => by cases h), fun j h => by cases h⟩
          go_wp2_with fail
          go_loopw [33] (fun i wx => InnerRel wo wo.heap.size m i wx) (fun i _ => m - (intOf i).toNat)
          case atStart => exact ⟨0, _, _, Nat.zero_le _, rfl, R5, blk_none (Nat.le_refl _), b5⟩
          case round =>
            clear R5 A5 b5
            obtain ⟨j, vs, vu, hj, rfl, R0', hB, hb2⟩ := hrel
            by_cases hjm : j < m
            · have hjI : (j : Int) < (m : Int) := by omega
              have hL : (List.replicate j Z64).length ≤ 100000 := by rw [List.length_replicate]; omega
              have hdr : Below wr.heap.size wr wr.drew := (Below.refl _ _).drew
              have R0 := R0'.below hdr
              have tvs : TL wr.drew 0 vs (List.replicate j Z64) := R0.seen
              have tvu : TL wr.drew 0 vu (List.replicate j Z64) := R0.sure
              have ss : wr.drew.cell? ⟨wo.heap.size, 0, none⟩ = some vs ∧ wr.drew.cell? ⟨wo.heap.size, 1, none⟩ = some vu := ⟨R0.cs, R0.cu⟩
              have fr := Frm.refl (fun k => vs.ownBlock = some k ∨ vu.ownBlock = some k) wr.drew
              have hz : wr.drew.heap.size ≤ wr.drew.heap.size := Nat.le_refl _
              have gNs : vs.ownBlock ≠ some wo.heap.size := R0.gNe.1
              have gNu : vu.ownBlock ≠ some wo.heap.size := R0.gNe.2.1
              go_wp2_with fail
              refine Zag.wp_region_zag 22 [5, 12] (fun W => W.cell? ⟨wo.heap.size, 0, none⟩ = some vs ∧ W.cell? ⟨wo.heap.size, 1, none⟩ = some vu) rfl (by kernel_rfl) (by kernel_rfl) ss ?_
              generalize World.drew wr = W0 at *
              haveI : Nonempty (Zig.Lt (fun W => W.cell? ⟨wo.heap.size, 0, none⟩ = some vs ∧ W.cell? ⟨wo.heap.size, 1, none⟩ = some vu)) := ⟨⟨W0, ss⟩⟩
              haveI : Nonempty (Zig.Lt (fun _ : World => True)) := ⟨⟨W0, trivial⟩⟩
              have x0 := fun x : Zig.Lt (fun W => W.cell? ⟨wo.heap.size, 0, none⟩ = some vs ∧ W.cell? ⟨wo.heap.size, 1, none⟩ = some vu) => x.2.1
              have x1 := fun x : Zig.Lt (fun W => W.cell? ⟨wo.heap.size, 0, none⟩ = some vs ∧ W.cell? ⟨wo.heap.size, 1, none⟩ = some vu) => x.2.2
              repeat (first | (refine Zag.zag_light [0, 1, 2, 3, 4, 5, 9, 10, 11, 12, 16, 17, 19, 20] rfl rfl (by kernel_rfl) rfl (fun K hK => ?_); go_simp; refine hK _ ?_; clear hK K) | (refine Zag.zag_read [0, 1, 2, 3, 4, 5, 9, 10, 11, 12, 16, 17, 19, 20] rfl rfl (by kernel_rfl) rfl (fun K hK => ?_); go_simp; refine hK _ ?_; clear hK K))
              refine Zag.zag_branch [6, 13] rfl ?_
              refine Zag.each_do rfl rfl (fun K hK => ?_) ?_
              · skip
                unfold Oper.wp
                go_simp
                generalize hw1 : World.alloc W0 _ = Y1
                have bx1 : Below W0.heap.size W0 Y1 := by rw [← hw1]; exact below_new _ _
                have y6 : Byt Y1 (.slice (some ⟨W0.heap.size, 0, none⟩) 64 64) Z64 := by rw [← hw1]; exact made64 _
                clear hw1
                have tvs := tvs.below bx1
                have tvu := tvu.below bx1
                have fr := fr.step (Frm.of_below (fun k => vs.ownBlock = some k ∨ vu.ownBlock = some k) bx1) fun j _ h => h
                have ss : Y1.cell? ⟨wo.heap.size, 0, none⟩ = some vs ∧ Y1.cell? ⟨wo.heap.size, 1, none⟩ = some vu := ⟨cell_later bx1 ss.1, cell_later bx1 ss.2⟩
                have hz := Nat.le_trans hz bx1.size
                refine hK _ _ ss ?_
                clear hK K
                repeat (first | (refine Zag.zag_light [0, 1, 2, 3, 4, 5, 9, 10, 11, 12, 16, 17, 19, 20] rfl rfl (by kernel_rfl) rfl (fun K hK => ?_); go_simp; refine hK _ ?_; clear hK K) | (refine Zag.zag_read [0, 1, 2, 3, 4, 5, 9, 10, 11, 12, 16, 17, 19, 20] rfl rfl (by kernel_rfl) rfl (fun K hK => ?_); go_simp; refine hK _ ?_; clear hK K))
                refine Zag.zag_branch [7, 13] rfl ?_
                refine Zag.each_do rfl rfl (fun K hK => ?_) ?_
                · skip
                  unfold Oper.wp
                  go_simp
                  generalize hw2 : World.alloc Y1 _ = Y2
                  have bx2 : Below Y1.heap.size Y1 Y2 := by rw [← hw2]; exact below_new _ _
                  have c7 : Y2.cell? ⟨Y1.heap.size, 0, none⟩ = some (.slice (some ⟨W0.heap.size, 0, none⟩) 64 64) := by rw [← hw2]; exact (RowAt.new Y1 _ _).cell 0 _ rfl
                  clear hw2
                  have z7 := hz
                  have tvs := tvs.below bx2
                  have tvu := tvu.below bx2
                  have y6 := y6.below bx2
                  have fr := fr.step (Frm.of_below (fun k => vs.ownBlock = some k ∨ vu.ownBlock = some k) bx2) fun j _ h => h
                  have ss : Y2.cell? ⟨wo.heap.size, 0, none⟩ = some vs ∧ Y2.cell? ⟨wo.heap.size, 1, none⟩ = some vu := ⟨cell_later bx2 ss.1, cell_later bx2 ss.2⟩
                  have hz := Nat.le_trans hz bx2.size
                  refine hK _ _ ss ?_
                  clear hK K
                  repeat (first | (refine Zag.zag_light [0, 1, 2, 3, 4, 5, 9, 10, 11, 12, 16, 17, 19, 20] rfl rfl (by kernel_rfl) rfl (fun K hK => ?_); go_simp; refine hK _ ?_; clear hK K) | (refine Zag.zag_read [0, 1, 2, 3, 4, 5, 9, 10, 11, 12, 16, 17, 19, 20] rfl rfl (by kernel_rfl) rfl (fun K hK => ?_); go_simp; refine hK _ ?_; clear hK K))
                  refine Zag.zag_branch [8, 13] rfl ?_
                  refine Zag.each_do rfl rfl (fun K hK => ?_) ?_
                  · skip
                    refine wp_appT 0 vs _ _ Z64 Y1.heap.size hL (Nat.zero_le _) tvs y6 c7 rfl rfl rfl ?_
                    intro v8 X8 l8 t8
                    have k8 := keep_app t8 tvs
                    have li8 := lies_at t8.2 hz
                    have tvu := tvu.frm t8.frm k8 fun j h1 h2 => R0.su j h2 h1
                    have ss : X8.cell? ⟨wo.heap.size, 0, none⟩ = some vs ∧ X8.cell? ⟨wo.heap.size, 1, none⟩ = some vu := ⟨t8.cell ss.1 gNs, t8.cell ss.2 gNs⟩
                    have fr := fr.step t8.frm fun j _ h => .inl h
                    have hz := Nat.le_trans hz t8.size
                    clear t8 k8 tvs y6 c7
                    refine hK _ _ ss ?_
                    clear hK K
                    repeat (first | (refine Zag.zag_light [0, 1, 2, 3, 4, 5, 9, 10, 11, 12, 16, 17, 19, 20] rfl rfl (by kernel_rfl) rfl (fun K hK => ?_); go_simp; refine hK _ ?_; clear hK K) | (refine Zag.zag_read [0, 1, 2, 3, 4, 5, 9, 10, 11, 12, 16, 17, 19, 20] rfl rfl (by kernel_rfl) rfl (fun K hK => ?_); go_simp; refine hK _ ?_; clear hK K))
                    refine Zag.zag_branch [13] rfl ?_
                    refine Zag.each_do rfl rfl (fun K hK => ?_) ?_
                    · skip
                      unfold Oper.wp
                      go_simp
                      generalize hw3 : World.alloc X8 _ = Y3
                      have bx3 : Below X8.heap.size X8 Y3 := by rw [← hw3]; exact below_new _ _
                      have y13 : Byt Y3 (.slice (some ⟨X8.heap.size, 0, none⟩) 64 64) Z64 := by rw [← hw3]; exact made64 _
                      clear hw3
                      have tvu := tvu.below bx3
                      have l8 := l8.below bx3
                      have fr := fr.step (Frm.of_below (fun k => vs.ownBlock = some k ∨ vu.ownBlock = some k) bx3) fun j _ h => h
                      have ss : Y3.cell? ⟨wo.heap.size, 0, none⟩ = some vs ∧ Y3.cell? ⟨wo.heap.size, 1, none⟩ = some vu := ⟨cell_later bx3 ss.1, cell_later bx3 ss.2⟩
                      have hz := Nat.le_trans hz bx3.size
                      refine hK _ _ ss ?_
                      clear hK K
                      repeat (first | (refine Zag.zag_light [0, 1, 2, 3, 4, 5, 9, 10, 11, 12, 16, 17, 19, 20] rfl rfl (by kernel_rfl) rfl (fun K hK => ?_); go_simp; refine hK _ ?_; clear hK K) | (refine Zag.zag_read [0, 1, 2, 3, 4, 5, 9, 10, 11, 12, 16, 17, 19, 20] rfl rfl (by kernel_rfl) rfl (fun K hK => ?_); go_simp; refine hK _ ?_; clear hK K))
                      refine Zag.zag_branch [14] rfl ?_
                      refine Zag.each_do rfl rfl (fun K hK => ?_) ?_
                      · skip
                        unfold Oper.wp
                        go_simp
                        generalize hw4 : World.alloc Y3 _ = Y4
                        have bx4 : Below Y3.heap.size Y3 Y4 := by rw [← hw4]; exact below_new _ _
                        have c14 : Y4.cell? ⟨Y3.heap.size, 0, none⟩ = some (.slice (some ⟨X8.heap.size, 0, none⟩) 64 64) := by rw [← hw4]; exact (RowAt.new Y3 _ _).cell 0 _ rfl
                        clear hw4
                        have z14 := hz
                        have tvu := tvu.below bx4
                        have l8 := l8.below bx4
                        have y13 := y13.below bx4
                        have fr := fr.step (Frm.of_below (fun k => vs.ownBlock = some k ∨ vu.ownBlock = some k) bx4) fun j _ h => h
                        have ss : Y4.cell? ⟨wo.heap.size, 0, none⟩ = some vs ∧ Y4.cell? ⟨wo.heap.size, 1, none⟩ = some vu := ⟨cell_later bx4 ss.1, cell_later bx4 ss.2⟩
                        have hz := Nat.le_trans hz bx4.size
                        refine hK _ _ ss ?_
                        clear hK K
                        repeat (first | (refine Zag.zag_light [0, 1, 2, 3, 4, 5, 9, 10, 11, 12, 16, 17, 19, 20] rfl rfl (by kernel_rfl) rfl (fun K hK => ?_); go_simp; refine hK _ ?_; clear hK K) | (refine Zag.zag_read [0, 1, 2, 3, 4, 5, 9, 10, 11, 12, 16, 17, 19, 20] rfl rfl (by kernel_rfl) rfl (fun K hK => ?_); go_simp; refine hK _ ?_; clear hK K))
                        refine Zag.zag_branch [15] rfl ?_
                        refine Zag.each_do rfl rfl (fun K hK => ?_) ?_
                        · skip
                          refine wp_appT 0 vu _ _ Z64 Y3.heap.size hL (Nat.zero_le _) tvu y13 c14 rfl rfl rfl ?_
                          intro v15 X15 l15 t15
                          have k15 := keep_app t15 tvu
                          have li15 := lies_at t15.2 hz
                          have n815 : noTwo v8 v15 := fun j h1 h2 => by
                            rcases t15.2 j h2 with e | e
                            · rcases li8 j h1 with e' | e'
                              · exact R0.su j e' e
                              · have := R0.sure.lt j e; omega
                            · have := l8.lt j h1; omega
                          have l8 := l8.frm t15.frm k15 fun j h1 h2 => by
                            rcases li8 j h1 with e' | e'
                            · exact R0.su j e' h2
                            · have := R0.sure.lt j h2; omega
                          have ss : X15.cell? ⟨wo.heap.size, 0, none⟩ = some vs ∧ X15.cell? ⟨wo.heap.size, 1, none⟩ = some vu := ⟨t15.cell ss.1 gNu, t15.cell ss.2 gNu⟩
                          have fr := fr.step t15.frm fun j _ h => .inr h
                          obtain ⟨Rz, Sz, q0, f0, q1, f1⟩ := R0.setBoth v8 v15 _ _ fr li8 li15 l8 l15 n815
                          have Rz : RgAt _ (rgN wo.heap.size v8 v15) ⟨List.replicate j Z64 ++ [Z64], List.replicate j Z64 ++ [Z64], [], []⟩ := Rz
                          have Sz : RS W0 (rgN wo.heap.size vs vu) _ (rgN wo.heap.size v8 v15) := Sz
                          have q0 : X15.cell? ⟨wo.heap.size, 0, none⟩ = some vs := q0
                          have f0 : X15.frozen? ⟨wo.heap.size, 0, none⟩ = false := f0
                          have q1 : (X15.setCell ⟨wo.heap.size, 0, none⟩ v8).cell? ⟨wo.heap.size, 1, none⟩ = some vu := q1
                          have f1 : (X15.setCell ⟨wo.heap.size, 0, none⟩ v8).frozen? ⟨wo.heap.size, 1, none⟩ = false := f1
                          obtain ⟨p8, m8, d8, e8⟩ := l8.shape3
                          obtain ⟨p15, m15, d15, e15⟩ := l15.shape3
                          subst e8 e15
                          clear t15 k15 tvu y13 c14 l8 l15
                          refine hK _ _ ss ?_
                          clear hK K
                          repeat (first | (refine Zag.zag_light [0, 1, 2, 3, 4, 5, 9, 10, 11, 12, 16, 17, 19, 20] rfl rfl (by kernel_rfl) rfl (fun K hK => ?_); go_simp; refine hK _ ?_; clear hK K) | (refine Zag.zag_read [0, 1, 2, 3, 4, 5, 9, 10, 11, 12, 16, 17, 19, 20] rfl rfl (by kernel_rfl) rfl (fun K hK => ?_); go_simp; refine hK _ ?_; clear hK K))
                          refine Zag.zag_branch [18] rfl ?_
                          refine Zag.each_end rfl rfl (by kernel_rfl) (fun K hK => ?_) Zag.each_nil
                          unfold Oper.wp
                          go_simp
                          refine hK _ _ ?_
                          clear hK K
                          repeat (first | (refine Zag.zag_light [0, 1, 2, 3, 4, 5, 9, 10, 11, 12, 16, 17, 19, 20] rfl rfl (by kernel_rfl) rfl (fun K hK => ?_); go_simp; refine hK _ ?_; clear hK K) | (refine Zag.zag_read [0, 1, 2, 3, 4, 5, 9, 10, 11, 12, 16, 17, 19, 20] rfl rfl (by kernel_rfl) rfl (fun K hK => ?_); go_simp; refine hK _ ?_; clear hK K))
                          refine Zag.zag_branch [21] rfl ?_
                          refine Zag.each_end rfl rfl (by kernel_rfl) (fun K hK => ?_) Zag.each_nil
                          unfold Oper.wp
                          go_simp
                          refine hK _ _ ?_
                          clear hK K
                          refine Zag.zag_nil ?_
                          generalize World.setCell (World.setCell X15 ⟨wo.heap.size, 0, none⟩ _) ⟨wo.heap.size, 1, none⟩ _ = Xz at *
                          clear q0 f0 q1 f1 ss fr
                          go_wp2_with fail
                          go_roundw
                          case rel => exact inner_step hjm R0' hdr Rz Sz hB hb2 (by go_num)
                          case measure => simp only [intOf]; omega
                        exact Zag.each_nil
                      exact Zag.each_nil
                    exact Zag.each_nil
                  refine Zag.each_do rfl rfl (fun K hK => ?_) ?_
                  · skip
                    unfold Oper.wp
                    go_simp
                    generalize hw5 : World.alloc Y2 _ = Y5
                    have bx5 : Below Y2.heap.size Y2 Y5 := by rw [← hw5]; exact below_new _ _
                    have y13 : Byt Y5 (.slice (some ⟨Y2.heap.size, 0, none⟩) 64 64) Z64 := by rw [← hw5]; exact made64 _
                    clear hw5
                    have tvs := tvs.below bx5
                    have tvu := tvu.below bx5
                    have y6 := y6.below bx5
                    have c7 := cell_later bx5 c7
                    have fr := fr.step (Frm.of_below (fun k => vs.ownBlock = some k ∨ vu.ownBlock = some k) bx5) fun j _ h => h
                    have ss : Y5.cell? ⟨wo.heap.size, 0, none⟩ = some vs ∧ Y5.cell? ⟨wo.heap.size, 1, none⟩ = some vu := ⟨cell_later bx5 ss.1, cell_later bx5 ss.2⟩
                    have hz := Nat.le_trans hz bx5.size
                    refine hK _ _ ss ?_
                    clear hK K
                    repeat (first | (refine Zag.zag_light [0, 1, 2, 3, 4, 5, 9, 10, 11, 12, 16, 17, 19, 20] rfl rfl (by kernel_rfl) rfl (fun K hK => ?_); go_simp; refine hK _ ?_; clear hK K) | (refine Zag.zag_read [0, 1, 2, 3, 4, 5, 9, 10, 11, 12, 16, 17, 19, 20] rfl rfl (by kernel_rfl) rfl (fun K hK => ?_); go_simp; refine hK _ ?_; clear hK K))
                    refine Zag.zag_branch [8, 14] rfl ?_
                    refine Zag.each_do rfl rfl (fun K hK => ?_) ?_
                    · skip
                      refine wp_appT 0 vs _ _ Z64 Y1.heap.size hL (Nat.zero_le _) tvs y6 c7 rfl rfl rfl ?_
                      intro v8 X8 l8 t8
                      have k8 := keep_app t8 tvs
                      have li8 := lies_at t8.2 hz
                      have y13 := y13.keep k8
                      have tvu := tvu.frm t8.frm k8 fun j h1 h2 => R0.su j h2 h1
                      have ss : X8.cell? ⟨wo.heap.size, 0, none⟩ = some vs ∧ X8.cell? ⟨wo.heap.size, 1, none⟩ = some vu := ⟨t8.cell ss.1 gNs, t8.cell ss.2 gNs⟩
                      have fr := fr.step t8.frm fun j _ h => .inl h
                      have hz := Nat.le_trans hz t8.size
                      clear t8 k8 tvs y6 c7
                      refine hK _ _ ss ?_
                      clear hK K
                      repeat (first | (refine Zag.zag_light [0, 1, 2, 3, 4, 5, 9, 10, 11, 12, 16, 17, 19, 20] rfl rfl (by kernel_rfl) rfl (fun K hK => ?_); go_simp; refine hK _ ?_; clear hK K) | (refine Zag.zag_read [0, 1, 2, 3, 4, 5, 9, 10, 11, 12, 16, 17, 19, 20] rfl rfl (by kernel_rfl) rfl (fun K hK => ?_); go_simp; refine hK _ ?_; clear hK K))
                      refine Zag.zag_branch [14] rfl ?_
                      refine Zag.each_do rfl rfl (fun K hK => ?_) ?_
                      · skip
                        unfold Oper.wp
                        go_simp
                        generalize hw6 : World.alloc X8 _ = Y6
                        have bx6 : Below X8.heap.size X8 Y6 := by rw [← hw6]; exact below_new _ _
                        have c14 : Y6.cell? ⟨X8.heap.size, 0, none⟩ = some (.slice (some ⟨Y2.heap.size, 0, none⟩) 64 64) := by rw [← hw6]; exact (RowAt.new X8 _ _).cell 0 _ rfl
                        clear hw6
                        have z14 := hz
                        have tvu := tvu.below bx6
                        have y13 := y13.below bx6
                        have l8 := l8.below bx6
                        have fr := fr.step (Frm.of_below (fun k => vs.ownBlock = some k ∨ vu.ownBlock = some k) bx6) fun j _ h => h
                        have ss : Y6.cell? ⟨wo.heap.size, 0, none⟩ = some vs ∧ Y6.cell? ⟨wo.heap.size, 1, none⟩ = some vu := ⟨cell_later bx6 ss.1, cell_later bx6 ss.2⟩
                        have hz := Nat.le_trans hz bx6.size
                        refine hK _ _ ss ?_
                        clear hK K
                        repeat (first | (refine Zag.zag_light [0, 1, 2, 3, 4, 5, 9, 10, 11, 12, 16, 17, 19, 20] rfl rfl (by kernel_rfl) rfl (fun K hK => ?_); go_simp; refine hK _ ?_; clear hK K) | (refine Zag.zag_read [0, 1, 2, 3, 4, 5, 9, 10, 11, 12, 16, 17, 19, 20] rfl rfl (by kernel_rfl) rfl (fun K hK => ?_); go_simp; refine hK _ ?_; clear hK K))
                        refine Zag.zag_branch [15] rfl ?_
                        refine Zag.each_do rfl rfl (fun K hK => ?_) ?_
                        · skip
                          refine wp_appT 0 vu _ _ Z64 X8.heap.size hL (Nat.zero_le _) tvu y13 c14 rfl rfl rfl ?_
                          intro v15 X15 l15 t15
                          have k15 := keep_app t15 tvu
                          have li15 := lies_at t15.2 hz
                          have n815 : noTwo v8 v15 := fun j h1 h2 => by
                            rcases t15.2 j h2 with e | e
                            · rcases li8 j h1 with e' | e'
                              · exact R0.su j e' e
                              · have := R0.sure.lt j e; omega
                            · have := l8.lt j h1; omega
                          have l8 := l8.frm t15.frm k15 fun j h1 h2 => by
                            rcases li8 j h1 with e' | e'
                            · exact R0.su j e' h2
                            · have := R0.sure.lt j h2; omega
                          have ss : X15.cell? ⟨wo.heap.size, 0, none⟩ = some vs ∧ X15.cell? ⟨wo.heap.size, 1, none⟩ = some vu := ⟨t15.cell ss.1 gNu, t15.cell ss.2 gNu⟩
                          have fr := fr.step t15.frm fun j _ h => .inr h
                          obtain ⟨Rz, Sz, q0, f0, q1, f1⟩ := R0.setBoth v8 v15 _ _ fr li8 li15 l8 l15 n815
                          have Rz : RgAt _ (rgN wo.heap.size v8 v15) ⟨List.replicate j Z64 ++ [Z64], List.replicate j Z64 ++ [Z64], [], []⟩ := Rz
                          have Sz : RS W0 (rgN wo.heap.size vs vu) _ (rgN wo.heap.size v8 v15) := Sz
                          have q0 : X15.cell? ⟨wo.heap.size, 0, none⟩ = some vs := q0
                          have f0 : X15.frozen? ⟨wo.heap.size, 0, none⟩ = false := f0
                          have q1 : (X15.setCell ⟨wo.heap.size, 0, none⟩ v8).cell? ⟨wo.heap.size, 1, none⟩ = some vu := q1
                          have f1 : (X15.setCell ⟨wo.heap.size, 0, none⟩ v8).frozen? ⟨wo.heap.size, 1, none⟩ = false := f1
                          obtain ⟨p8, m8, d8, e8⟩ := l8.shape3
                          obtain ⟨p15, m15, d15, e15⟩ := l15.shape3
                          subst e8 e15
                          clear t15 k15 tvu y13 c14 l8 l15
                          refine hK _ _ ss ?_
                          clear hK K
                          repeat (first | (refine Zag.zag_light [0, 1, 2, 3, 4, 5, 9, 10, 11, 12, 16, 17, 19, 20] rfl rfl (by kernel_rfl) rfl (fun K hK => ?_); go_simp; refine hK _ ?_; clear hK K) | (refine Zag.zag_read [0, 1, 2, 3, 4, 5, 9, 10, 11, 12, 16, 17, 19, 20] rfl rfl (by kernel_rfl) rfl (fun K hK => ?_); go_simp; refine hK _ ?_; clear hK K))
                          refine Zag.zag_branch [18] rfl ?_
                          refine Zag.each_end rfl rfl (by kernel_rfl) (fun K hK => ?_) Zag.each_nil
                          unfold Oper.wp
                          go_simp
                          refine hK _ _ ?_
                          clear hK K
                          repeat (first | (refine Zag.zag_light [0, 1, 2, 3, 4, 5, 9, 10, 11, 12, 16, 17, 19, 20] rfl rfl (by kernel_rfl) rfl (fun K hK => ?_); go_simp; refine hK _ ?_; clear hK K) | (refine Zag.zag_read [0, 1, 2, 3, 4, 5, 9, 10, 11, 12, 16, 17, 19, 20] rfl rfl (by kernel_rfl) rfl (fun K hK => ?_); go_simp; refine hK _ ?_; clear hK K))
                          refine Zag.zag_branch [21] rfl ?_
                          refine Zag.each_end rfl rfl (by kernel_rfl) (fun K hK => ?_) Zag.each_nil
                          unfold Oper.wp
                          go_simp
                          refine hK _ _ ?_
                          clear hK K
                          refine Zag.zag_nil ?_
                          generalize World.setCell (World.setCell X15 ⟨wo.heap.size, 0, none⟩ _) ⟨wo.heap.size, 1, none⟩ _ = Xz at *
                          clear q0 f0 q1 f1 ss fr
                          go_wp2_with fail
                          go_roundw
                          case rel => exact inner_step hjm R0' hdr Rz Sz hB hb2 (by go_num)
                          case measure => simp only [intOf]; omega
                        exact Zag.each_nil
                      exact Zag.each_nil
                    refine Zag.each_do rfl rfl (fun K hK => ?_) ?_
                    · skip
                      unfold Oper.wp
                      go_simp
                      generalize hw7 : World.alloc Y5 _ = Y7
                      have bx7 : Below Y5.heap.size Y5 Y7 := by rw [← hw7]; exact below_new _ _
                      have c14 : Y7.cell? ⟨Y5.heap.size, 0, none⟩ = some (.slice (some ⟨Y2.heap.size, 0, none⟩) 64 64) := by rw [← hw7]; exact (RowAt.new Y5 _ _).cell 0 _ rfl
                      clear hw7
                      have z14 := hz
                      have tvs := tvs.below bx7
                      have tvu := tvu.below bx7
                      have y6 := y6.below bx7
                      have c7 := cell_later bx7 c7
                      have y13 := y13.below bx7
                      have fr := fr.step (Frm.of_below (fun k => vs.ownBlock = some k ∨ vu.ownBlock = some k) bx7) fun j _ h => h
                      have ss : Y7.cell? ⟨wo.heap.size, 0, none⟩ = some vs ∧ Y7.cell? ⟨wo.heap.size, 1, none⟩ = some vu := ⟨cell_later bx7 ss.1, cell_later bx7 ss.2⟩
                      have hz := Nat.le_trans hz bx7.size
                      refine hK _ _ ss ?_
                      clear hK K
                      repeat (first | (refine Zag.zag_light [0, 1, 2, 3, 4, 5, 9, 10, 11, 12, 16, 17, 19, 20] rfl rfl (by kernel_rfl) rfl (fun K hK => ?_); go_simp; refine hK _ ?_; clear hK K) | (refine Zag.zag_read [0, 1, 2, 3, 4, 5, 9, 10, 11, 12, 16, 17, 19, 20] rfl rfl (by kernel_rfl) rfl (fun K hK => ?_); go_simp; refine hK _ ?_; clear hK K))
                      refine Zag.zag_branch [8] rfl ?_
                      refine Zag.each_do rfl rfl (fun K hK => ?_) ?_
                      · skip
                        refine wp_appT 0 vs _ _ Z64 Y1.heap.size hL (Nat.zero_le _) tvs y6 c7 rfl rfl rfl ?_
                        intro v8 X8 l8 t8
                        have k8 := keep_app t8 tvs
                        have li8 := lies_at t8.2 hz
                        have y13 := y13.keep k8
                        have c14 := t8.cell c14 fun e => by have := R0.seen.lt _ e; omega
                        have tvu := tvu.frm t8.frm k8 fun j h1 h2 => R0.su j h2 h1
                        have ss : X8.cell? ⟨wo.heap.size, 0, none⟩ = some vs ∧ X8.cell? ⟨wo.heap.size, 1, none⟩ = some vu := ⟨t8.cell ss.1 gNs, t8.cell ss.2 gNs⟩
                        have fr := fr.step t8.frm fun j _ h => .inl h
                        have hz := Nat.le_trans hz t8.size
                        clear t8 k8 tvs y6 c7
                        refine hK _ _ ss ?_
                        clear hK K
                        repeat (first | (refine Zag.zag_light [0, 1, 2, 3, 4, 5, 9, 10, 11, 12, 16, 17, 19, 20] rfl rfl (by kernel_rfl) rfl (fun K hK => ?_); go_simp; refine hK _ ?_; clear hK K) | (refine Zag.zag_read [0, 1, 2, 3, 4, 5, 9, 10, 11, 12, 16, 17, 19, 20] rfl rfl (by kernel_rfl) rfl (fun K hK => ?_); go_simp; refine hK _ ?_; clear hK K))
                        refine Zag.zag_branch [15] rfl ?_
                        refine Zag.each_do rfl rfl (fun K hK => ?_) ?_
                        · skip
                          refine wp_appT 0 vu _ _ Z64 Y5.heap.size hL (Nat.zero_le _) tvu y13 c14 rfl rfl rfl ?_
                          intro v15 X15 l15 t15
                          have k15 := keep_app t15 tvu
                          have li15 := lies_at t15.2 hz
                          have n815 : noTwo v8 v15 := fun j h1 h2 => by
                            rcases t15.2 j h2 with e | e
                            · rcases li8 j h1 with e' | e'
                              · exact R0.su j e' e
                              · have := R0.sure.lt j e; omega
                            · have := l8.lt j h1; omega
                          have l8 := l8.frm t15.frm k15 fun j h1 h2 => by
                            rcases li8 j h1 with e' | e'
                            · exact R0.su j e' h2
                            · have := R0.sure.lt j h2; omega
                          have ss : X15.cell? ⟨wo.heap.size, 0, none⟩ = some vs ∧ X15.cell? ⟨wo.heap.size, 1, none⟩ = some vu := ⟨t15.cell ss.1 gNu, t15.cell ss.2 gNu⟩
                          have fr := fr.step t15.frm fun j _ h => .inr h
                          obtain ⟨Rz, Sz, q0, f0, q1, f1⟩ := R0.setBoth v8 v15 _ _ fr li8 li15 l8 l15 n815
                          have Rz : RgAt _ (rgN wo.heap.size v8 v15) ⟨List.replicate j Z64 ++ [Z64], List.replicate j Z64 ++ [Z64], [], []⟩ := Rz
                          have Sz : RS W0 (rgN wo.heap.size vs vu) _ (rgN wo.heap.size v8 v15) := Sz
                          have q0 : X15.cell? ⟨wo.heap.size, 0, none⟩ = some vs := q0
                          have f0 : X15.frozen? ⟨wo.heap.size, 0, none⟩ = false := f0
                          have q1 : (X15.setCell ⟨wo.heap.size, 0, none⟩ v8).cell? ⟨wo.heap.size, 1, none⟩ = some vu := q1
                          have f1 : (X15.setCell ⟨wo.heap.size, 0, none⟩ v8).frozen? ⟨wo.heap.size, 1, none⟩ = false := f1
                          obtain ⟨p8, m8, d8, e8⟩ := l8.shape3
                          obtain ⟨p15, m15, d15, e15⟩ := l15.shape3
                          subst e8 e15
                          clear t15 k15 tvu y13 c14 l8 l15
                          refine hK _ _ ss ?_
                          clear hK K
                          repeat (first | (refine Zag.zag_light [0, 1, 2, 3, 4, 5, 9, 10, 11, 12, 16, 17, 19, 20] rfl rfl (by kernel_rfl) rfl (fun K hK => ?_); go_simp; refine hK _ ?_; clear hK K) | (refine Zag.zag_read [0, 1, 2, 3, 4, 5, 9, 10, 11, 12, 16, 17, 19, 20] rfl rfl (by kernel_rfl) rfl (fun K hK => ?_); go_simp; refine hK _ ?_; clear hK K))
                          refine Zag.zag_branch [18] rfl ?_
                          refine Zag.each_end rfl rfl (by kernel_rfl) (fun K hK => ?_) Zag.each_nil
                          unfold Oper.wp
                          go_simp
                          refine hK _ _ ?_
                          clear hK K
                          repeat (first | (refine Zag.zag_light [0, 1, 2, 3, 4, 5, 9, 10, 11, 12, 16, 17, 19, 20] rfl rfl (by kernel_rfl) rfl (fun K hK => ?_); go_simp; refine hK _ ?_; clear hK K) | (refine Zag.zag_read [0, 1, 2, 3, 4, 5, 9, 10, 11, 12, 16, 17, 19, 20] rfl rfl (by kernel_rfl) rfl (fun K hK => ?_); go_simp; refine hK _ ?_; clear hK K))
                          refine Zag.zag_branch [21] rfl ?_
                          refine Zag.each_end rfl rfl (by kernel_rfl) (fun K hK => ?_) Zag.each_nil
                          unfold Oper.wp
                          go_simp
                          refine hK _ _ ?_
                          clear hK K
                          refine Zag.zag_nil ?_
                          generalize World.setCell (World.setCell X15 ⟨wo.heap.size, 0, none⟩ _) ⟨wo.heap.size, 1, none⟩ _ = Xz at *
                          clear q0 f0 q1 f1 ss fr
                          go_wp2_with fail
                          go_roundw
                          case rel => exact inner_step hjm R0' hdr Rz Sz hB hb2 (by go_num)
                          case measure => simp only [intOf]; omega
                        exact Zag.each_nil
                      exact Zag.each_nil
                    exact Zag.each_nil
                  exact Zag.each_nil
                refine Zag.each_do rfl rfl (fun K hK => ?_) ?_
                · skip
                  unfold Oper.wp
                  go_simp
                  generalize hw8 : World.alloc Y1 _ = Y8
                  have bx8 : Below Y1.heap.size Y1 Y8 := by rw [← hw8]; exact below_new _ _
                  have y13 : Byt Y8 (.slice (some ⟨Y1.heap.size, 0, none⟩) 64 64) Z64 := by rw [← hw8]; exact made64 _
                  clear hw8
                  have tvs := tvs.below bx8
                  have tvu := tvu.below bx8
                  have y6 := y6.below bx8
                  have fr := fr.step (Frm.of_below (fun k => vs.ownBlock = some k ∨ vu.ownBlock = some k) bx8) fun j _ h => h
                  have ss : Y8.cell? ⟨wo.heap.size, 0, none⟩ = some vs ∧ Y8.cell? ⟨wo.heap.size, 1, none⟩ = some vu := ⟨cell_later bx8 ss.1, cell_later bx8 ss.2⟩
                  have hz := Nat.le_trans hz bx8.size
                  refine hK _ _ ss ?_
                  clear hK K
                  repeat (first | (refine Zag.zag_light [0, 1, 2, 3, 4, 5, 9, 10, 11, 12, 16, 17, 19, 20] rfl rfl (by kernel_rfl) rfl (fun K hK => ?_); go_simp; refine hK _ ?_; clear hK K) | (refine Zag.zag_read [0, 1, 2, 3, 4, 5, 9, 10, 11, 12, 16, 17, 19, 20] rfl rfl (by kernel_rfl) rfl (fun K hK => ?_); go_simp; refine hK _ ?_; clear hK K))
                  refine Zag.zag_branch [7, 14] rfl ?_
                  refine Zag.each_do rfl rfl (fun K hK => ?_) ?_
                  · skip
                    unfold Oper.wp
                    go_simp
                    generalize hw9 : World.alloc Y8 _ = Y9
                    have bx9 : Below Y8.heap.size Y8 Y9 := by rw [← hw9]; exact below_new _ _
                    have c7 : Y9.cell? ⟨Y8.heap.size, 0, none⟩ = some (.slice (some ⟨W0.heap.size, 0, none⟩) 64 64) := by rw [← hw9]; exact (RowAt.new Y8 _ _).cell 0 _ rfl
                    clear hw9
                    have z7 := hz
                    have tvs := tvs.below bx9
                    have tvu := tvu.below bx9
                    have y6 := y6.below bx9
                    have y13 := y13.below bx9
                    have fr := fr.step (Frm.of_below (fun k => vs.ownBlock = some k ∨ vu.ownBlock = some k) bx9) fun j _ h => h
                    have ss : Y9.cell? ⟨wo.heap.size, 0, none⟩ = some vs ∧ Y9.cell? ⟨wo.heap.size, 1, none⟩ = some vu := ⟨cell_later bx9 ss.1, cell_later bx9 ss.2⟩
                    have hz := Nat.le_trans hz bx9.size
                    refine hK _ _ ss ?_
                    clear hK K
                    repeat (first | (refine Zag.zag_light [0, 1, 2, 3, 4, 5, 9, 10, 11, 12, 16, 17, 19, 20] rfl rfl (by kernel_rfl) rfl (fun K hK => ?_); go_simp; refine hK _ ?_; clear hK K) | (refine Zag.zag_read [0, 1, 2, 3, 4, 5, 9, 10, 11, 12, 16, 17, 19, 20] rfl rfl (by kernel_rfl) rfl (fun K hK => ?_); go_simp; refine hK _ ?_; clear hK K))
                    refine Zag.zag_branch [8, 14] rfl ?_
                    refine Zag.each_do rfl rfl (fun K hK => ?_) ?_
                    · skip
                      refine wp_appT 0 vs _ _ Z64 Y8.heap.size hL (Nat.zero_le _) tvs y6 c7 rfl rfl rfl ?_
                      intro v8 X8 l8 t8
                      have k8 := keep_app t8 tvs
                      have li8 := lies_at t8.2 hz
                      have y13 := y13.keep k8
                      have tvu := tvu.frm t8.frm k8 fun j h1 h2 => R0.su j h2 h1
                      have ss : X8.cell? ⟨wo.heap.size, 0, none⟩ = some vs ∧ X8.cell? ⟨wo.heap.size, 1, none⟩ = some vu := ⟨t8.cell ss.1 gNs, t8.cell ss.2 gNs⟩
                      have fr := fr.step t8.frm fun j _ h => .inl h
                      have hz := Nat.le_trans hz t8.size
                      clear t8 k8 tvs y6 c7
                      refine hK _ _ ss ?_
                      clear hK K
                      repeat (first | (refine Zag.zag_light [0, 1, 2, 3, 4, 5, 9, 10, 11, 12, 16, 17, 19, 20] rfl rfl (by kernel_rfl) rfl (fun K hK => ?_); go_simp; refine hK _ ?_; clear hK K) | (refine Zag.zag_read [0, 1, 2, 3, 4, 5, 9, 10, 11, 12, 16, 17, 19, 20] rfl rfl (by kernel_rfl) rfl (fun K hK => ?_); go_simp; refine hK _ ?_; clear hK K))
                      refine Zag.zag_branch [14] rfl ?_
                      refine Zag.each_do rfl rfl (fun K hK => ?_) ?_
                      · skip
                        unfold Oper.wp
                        go_simp
                        generalize hw10 : World.alloc X8 _ = Y10
                        have bx10 : Below X8.heap.size X8 Y10 := by rw [← hw10]; exact below_new _ _
                        have c14 : Y10.cell? ⟨X8.heap.size, 0, none⟩ = some (.slice (some ⟨Y1.heap.size, 0, none⟩) 64 64) := by rw [← hw10]; exact (RowAt.new X8 _ _).cell 0 _ rfl
                        clear hw10
                        have z14 := hz
                        have tvu := tvu.below bx10
                        have y13 := y13.below bx10
                        have l8 := l8.below bx10
                        have fr := fr.step (Frm.of_below (fun k => vs.ownBlock = some k ∨ vu.ownBlock = some k) bx10) fun j _ h => h
                        have ss : Y10.cell? ⟨wo.heap.size, 0, none⟩ = some vs ∧ Y10.cell? ⟨wo.heap.size, 1, none⟩ = some vu := ⟨cell_later bx10 ss.1, cell_later bx10 ss.2⟩
                        have hz := Nat.le_trans hz bx10.size
                        refine hK _ _ ss ?_
                        clear hK K
                        repeat (first | (refine Zag.zag_light [0, 1, 2, 3, 4, 5, 9, 10, 11, 12, 16, 17, 19, 20] rfl rfl (by kernel_rfl) rfl (fun K hK => ?_); go_simp; refine hK _ ?_; clear hK K) | (refine Zag.zag_read [0, 1, 2, 3, 4, 5, 9, 10, 11, 12, 16, 17, 19, 20] rfl rfl (by kernel_rfl) rfl (fun K hK => ?_); go_simp; refine hK _ ?_; clear hK K))
                        refine Zag.zag_branch [15] rfl ?_
                        refine Zag.each_do rfl rfl (fun K hK => ?_) ?_
                        · skip
                          refine wp_appT 0 vu _ _ Z64 X8.heap.size hL (Nat.zero_le _) tvu y13 c14 rfl rfl rfl ?_
                          intro v15 X15 l15 t15
                          have k15 := keep_app t15 tvu
                          have li15 := lies_at t15.2 hz
                          have n815 : noTwo v8 v15 := fun j h1 h2 => by
                            rcases t15.2 j h2 with e | e
                            · rcases li8 j h1 with e' | e'
                              · exact R0.su j e' e
                              · have := R0.sure.lt j e; omega
                            · have := l8.lt j h1; omega
                          have l8 := l8.frm t15.frm k15 fun j h1 h2 => by
                            rcases li8 j h1 with e' | e'
                            · exact R0.su j e' h2
                            · have := R0.sure.lt j h2; omega
                          have ss : X15.cell? ⟨wo.heap.size, 0, none⟩ = some vs ∧ X15.cell? ⟨wo.heap.size, 1, none⟩ = some vu := ⟨t15.cell ss.1 gNu, t15.cell ss.2 gNu⟩
                          have fr := fr.step t15.frm fun j _ h => .inr h
                          obtain ⟨Rz, Sz, q0, f0, q1, f1⟩ := R0.setBoth v8 v15 _ _ fr li8 li15 l8 l15 n815
                          have Rz : RgAt _ (rgN wo.heap.size v8 v15) ⟨List.replicate j Z64 ++ [Z64], List.replicate j Z64 ++ [Z64], [], []⟩ := Rz
                          have Sz : RS W0 (rgN wo.heap.size vs vu) _ (rgN wo.heap.size v8 v15) := Sz
                          have q0 : X15.cell? ⟨wo.heap.size, 0, none⟩ = some vs := q0
                          have f0 : X15.frozen? ⟨wo.heap.size, 0, none⟩ = false := f0
                          have q1 : (X15.setCell ⟨wo.heap.size, 0, none⟩ v8).cell? ⟨wo.heap.size, 1, none⟩ = some vu := q1
                          have f1 : (X15.setCell ⟨wo.heap.size, 0, none⟩ v8).frozen? ⟨wo.heap.size, 1, none⟩ = false := f1
                          obtain ⟨p8, m8, d8, e8⟩ := l8.shape3
                          obtain ⟨p15, m15, d15, e15⟩ := l15.shape3
                          subst e8 e15
                          clear t15 k15 tvu y13 c14 l8 l15
                          refine hK _ _ ss ?_
                          clear hK K
                          repeat (first | (refine Zag.zag_light [0, 1, 2, 3, 4, 5, 9, 10, 11, 12, 16, 17, 19, 20] rfl rfl (by kernel_rfl) rfl (fun K hK => ?_); go_simp; refine hK _ ?_; clear hK K) | (refine Zag.zag_read [0, 1, 2, 3, 4, 5, 9, 10, 11, 12, 16, 17, 19, 20] rfl rfl (by kernel_rfl) rfl (fun K hK => ?_); go_simp; refine hK _ ?_; clear hK K))
                          refine Zag.zag_branch [18] rfl ?_
                          refine Zag.each_end rfl rfl (by kernel_rfl) (fun K hK => ?_) Zag.each_nil
                          unfold Oper.wp
                          go_simp
                          refine hK _ _ ?_
                          clear hK K
                          repeat (first | (refine Zag.zag_light [0, 1, 2, 3, 4, 5, 9, 10, 11, 12, 16, 17, 19, 20] rfl rfl (by kernel_rfl) rfl (fun K hK => ?_); go_simp; refine hK _ ?_; clear hK K) | (refine Zag.zag_read [0, 1, 2, 3, 4, 5, 9, 10, 11, 12, 16, 17, 19, 20] rfl rfl (by kernel_rfl) rfl (fun K hK => ?_); go_simp; refine hK _ ?_; clear hK K))
                          refine Zag.zag_branch [21] rfl ?_
                          refine Zag.each_end rfl rfl (by kernel_rfl) (fun K hK => ?_) Zag.each_nil
                          unfold Oper.wp
                          go_simp
                          refine hK _ _ ?_
                          clear hK K
                          refine Zag.zag_nil ?_
                          generalize World.setCell (World.setCell X15 ⟨wo.heap.size, 0, none⟩ _) ⟨wo.heap.size, 1, none⟩ _ = Xz at *
                          clear q0 f0 q1 f1 ss fr
                          go_wp2_with fail
                          go_roundw
                          case rel => exact inner_step hjm R0' hdr Rz Sz hB hb2 (by go_num)
                          case measure => simp only [intOf]; omega
                        exact Zag.each_nil
                      exact Zag.each_nil
                    refine Zag.each_do rfl rfl (fun K hK => ?_) ?_
                    · skip
                      unfold Oper.wp
                      go_simp
                      generalize hw11 : World.alloc Y9 _ = Y11
                      have bx11 : Below Y9.heap.size Y9 Y11 := by rw [← hw11]; exact below_new _ _
                      have c14 : Y11.cell? ⟨Y9.heap.size, 0, none⟩ = some (.slice (some ⟨Y1.heap.size, 0, none⟩) 64 64) := by rw [← hw11]; exact (RowAt.new Y9 _ _).cell 0 _ rfl
                      clear hw11
                      have z14 := hz
                      have tvs := tvs.below bx11
                      have tvu := tvu.below bx11
                      have y6 := y6.below bx11
                      have y13 := y13.below bx11
                      have c7 := cell_later bx11 c7
                      have fr := fr.step (Frm.of_below (fun k => vs.ownBlock = some k ∨ vu.ownBlock = some k) bx11) fun j _ h => h
                      have ss : Y11.cell? ⟨wo.heap.size, 0, none⟩ = some vs ∧ Y11.cell? ⟨wo.heap.size, 1, none⟩ = some vu := ⟨cell_later bx11 ss.1, cell_later bx11 ss.2⟩
                      have hz := Nat.le_trans hz bx11.size
                      refine hK _ _ ss ?_
                      clear hK K
                      repeat (first | (refine Zag.zag_light [0, 1, 2, 3, 4, 5, 9, 10, 11, 12, 16, 17, 19, 20] rfl rfl (by kernel_rfl) rfl (fun K hK => ?_); go_simp; refine hK _ ?_; clear hK K) | (refine Zag.zag_read [0, 1, 2, 3, 4, 5, 9, 10, 11, 12, 16, 17, 19, 20] rfl rfl (by kernel_rfl) rfl (fun K hK => ?_); go_simp; refine hK _ ?_; clear hK K))
                      refine Zag.zag_branch [8] rfl ?_
                      refine Zag.each_do rfl rfl (fun K hK => ?_) ?_
                      · skip
                        refine wp_appT 0 vs _ _ Z64 Y8.heap.size hL (Nat.zero_le _) tvs y6 c7 rfl rfl rfl ?_
                        intro v8 X8 l8 t8
                        have k8 := keep_app t8 tvs
                        have li8 := lies_at t8.2 hz
                        have y13 := y13.keep k8
                        have c14 := t8.cell c14 fun e => by have := R0.seen.lt _ e; omega
                        have tvu := tvu.frm t8.frm k8 fun j h1 h2 => R0.su j h2 h1
                        have ss : X8.cell? ⟨wo.heap.size, 0, none⟩ = some vs ∧ X8.cell? ⟨wo.heap.size, 1, none⟩ = some vu := ⟨t8.cell ss.1 gNs, t8.cell ss.2 gNs⟩
                        have fr := fr.step t8.frm fun j _ h => .inl h
                        have hz := Nat.le_trans hz t8.size
                        clear t8 k8 tvs y6 c7
                        refine hK _ _ ss ?_
                        clear hK K
                        repeat (first | (refine Zag.zag_light [0, 1, 2, 3, 4, 5, 9, 10, 11, 12, 16, 17, 19, 20] rfl rfl (by kernel_rfl) rfl (fun K hK => ?_); go_simp; refine hK _ ?_; clear hK K) | (refine Zag.zag_read [0, 1, 2, 3, 4, 5, 9, 10, 11, 12, 16, 17, 19, 20] rfl rfl (by kernel_rfl) rfl (fun K hK => ?_); go_simp; refine hK _ ?_; clear hK K))
                        refine Zag.zag_branch [15] rfl ?_
                        refine Zag.each_do rfl rfl (fun K hK => ?_) ?_
                        · skip
                          refine wp_appT 0 vu _ _ Z64 Y9.heap.size hL (Nat.zero_le _) tvu y13 c14 rfl rfl rfl ?_
                          intro v15 X15 l15 t15
                          have k15 := keep_app t15 tvu
                          have li15 := lies_at t15.2 hz
                          have n815 : noTwo v8 v15 := fun j h1 h2 => by
                            rcases t15.2 j h2 with e | e
                            · rcases li8 j h1 with e' | e'
                              · exact R0.su j e' e
                              · have := R0.sure.lt j e; omega
                            · have := l8.lt j h1; omega
                          have l8 := l8.frm t15.frm k15 fun j h1 h2 => by
                            rcases li8 j h1 with e' | e'
                            · exact R0.su j e' h2
                            · have := R0.sure.lt j h2; omega
                          have ss : X15.cell? ⟨wo.heap.size, 0, none⟩ = some vs ∧ X15.cell? ⟨wo.heap.size, 1, none⟩ = some vu := ⟨t15.cell ss.1 gNu, t15.cell ss.2 gNu⟩
                          have fr := fr.step t15.frm fun j _ h => .inr h
                          obtain ⟨Rz, Sz, q0, f0, q1, f1⟩ := R0.setBoth v8 v15 _ _ fr li8 li15 l8 l15 n815
                          have Rz : RgAt _ (rgN wo.heap.size v8 v15) ⟨List.replicate j Z64 ++ [Z64], List.replicate j Z64 ++ [Z64], [], []⟩ := Rz
                          have Sz : RS W0 (rgN wo.heap.size vs vu) _ (rgN wo.heap.size v8 v15) := Sz
                          have q0 : X15.cell? ⟨wo.heap.size, 0, none⟩ = some vs := q0
                          have f0 : X15.frozen? ⟨wo.heap.size, 0, none⟩ = false := f0
                          have q1 : (X15.setCell ⟨wo.heap.size, 0, none⟩ v8).cell? ⟨wo.heap.size, 1, none⟩ = some vu := q1
                          have f1 : (X15.setCell ⟨wo.heap.size, 0, none⟩ v8).frozen? ⟨wo.heap.size, 1, none⟩ = false := f1
                          obtain ⟨p8, m8, d8, e8⟩ := l8.shape3
                          obtain ⟨p15, m15, d15, e15⟩ := l15.shape3
                          subst e8 e15
                          clear t15 k15 tvu y13 c14 l8 l15
                          refine hK _ _ ss ?_
                          clear hK K
                          repeat (first | (refine Zag.zag_light [0, 1, 2, 3, 4, 5, 9, 10, 11, 12, 16, 17, 19, 20] rfl rfl (by kernel_rfl) rfl (fun K hK => ?_); go_simp; refine hK _ ?_; clear hK K) | (refine Zag.zag_read [0, 1, 2, 3, 4, 5, 9, 10, 11, 12, 16, 17, 19, 20] rfl rfl (by kernel_rfl) rfl (fun K hK => ?_); go_simp; refine hK _ ?_; clear hK K))
                          refine Zag.zag_branch [18] rfl ?_
                          refine Zag.each_end rfl rfl (by kernel_rfl) (fun K hK => ?_) Zag.each_nil
                          unfold Oper.wp
                          go_simp
                          refine hK _ _ ?_
                          clear hK K
                          repeat (first | (refine Zag.zag_light [0, 1, 2, 3, 4, 5, 9, 10, 11, 12, 16, 17, 19, 20] rfl rfl (by kernel_rfl) rfl (fun K hK => ?_); go_simp; refine hK _ ?_; clear hK K) | (refine Zag.zag_read [0, 1, 2, 3, 4, 5, 9, 10, 11, 12, 16, 17, 19, 20] rfl rfl (by kernel_rfl) rfl (fun K hK => ?_); go_simp; refine hK _ ?_; clear hK K))
                          refine Zag.zag_branch [21] rfl ?_
                          refine Zag.each_end rfl rfl (by kernel_rfl) (fun K hK => ?_) Zag.each_nil
                          unfold Oper.wp
                          go_simp
                          refine hK _ _ ?_
                          clear hK K
                          refine Zag.zag_nil ?_
                          generalize World.setCell (World.setCell X15 ⟨wo.heap.size, 0, none⟩ _) ⟨wo.heap.size, 1, none⟩ _ = Xz at *
                          clear q0 f0 q1 f1 ss fr
                          go_wp2_with fail
                          go_roundw
                          case rel => exact inner_step hjm R0' hdr Rz Sz hB hb2 (by go_num)
                          case measure => simp only [intOf]; omega
                        exact Zag.each_nil
                      exact Zag.each_nil
                    exact Zag.each_nil
                  refine Zag.each_do rfl rfl (fun K hK => ?_) ?_
                  · skip
                    unfold Oper.wp
                    go_simp
                    generalize hw12 : World.alloc Y8 _ = Y12
                    have bx12 : Below Y8.heap.size Y8 Y12 := by rw [← hw12]; exact below_new _ _
                    have c14 : Y12.cell? ⟨Y8.heap.size, 0, none⟩ = some (.slice (some ⟨Y1.heap.size, 0, none⟩) 64 64) := by rw [← hw12]; exact (RowAt.new Y8 _ _).cell 0 _ rfl
                    clear hw12
                    have z14 := hz
                    have tvs := tvs.below bx12
                    have tvu := tvu.below bx12
                    have y6 := y6.below bx12
                    have y13 := y13.below bx12
                    have fr := fr.step (Frm.of_below (fun k => vs.ownBlock = some k ∨ vu.ownBlock = some k) bx12) fun j _ h => h
                    have ss : Y12.cell? ⟨wo.heap.size, 0, none⟩ = some vs ∧ Y12.cell? ⟨wo.heap.size, 1, none⟩ = some vu := ⟨cell_later bx12 ss.1, cell_later bx12 ss.2⟩
                    have hz := Nat.le_trans hz bx12.size
                    refine hK _ _ ss ?_
                    clear hK K
                    repeat (first | (refine Zag.zag_light [0, 1, 2, 3, 4, 5, 9, 10, 11, 12, 16, 17, 19, 20] rfl rfl (by kernel_rfl) rfl (fun K hK => ?_); go_simp; refine hK _ ?_; clear hK K) | (refine Zag.zag_read [0, 1, 2, 3, 4, 5, 9, 10, 11, 12, 16, 17, 19, 20] rfl rfl (by kernel_rfl) rfl (fun K hK => ?_); go_simp; refine hK _ ?_; clear hK K))
                    refine Zag.zag_branch [7] rfl ?_
                    refine Zag.each_do rfl rfl (fun K hK => ?_) ?_
                    · skip
                      unfold Oper.wp
                      go_simp
                      generalize hw13 : World.alloc Y12 _ = Y13
                      have bx13 : Below Y12.heap.size Y12 Y13 := by rw [← hw13]; exact below_new _ _
                      have c7 : Y13.cell? ⟨Y12.heap.size, 0, none⟩ = some (.slice (some ⟨W0.heap.size, 0, none⟩) 64 64) := by rw [← hw13]; exact (RowAt.new Y12 _ _).cell 0 _ rfl
                      clear hw13
                      have z7 := hz
                      have tvs := tvs.below bx13
                      have tvu := tvu.below bx13
                      have y6 := y6.below bx13
                      have y13 := y13.below bx13
                      have c14 := cell_later bx13 c14
                      have fr := fr.step (Frm.of_below (fun k => vs.ownBlock = some k ∨ vu.ownBlock = some k) bx13) fun j _ h => h
                      have ss : Y13.cell? ⟨wo.heap.size, 0, none⟩ = some vs ∧ Y13.cell? ⟨wo.heap.size, 1, none⟩ = some vu := ⟨cell_later bx13 ss.1, cell_later bx13 ss.2⟩
                      have hz := Nat.le_trans hz bx13.size
                      refine hK _ _ ss ?_
                      clear hK K
                      repeat (first | (refine Zag.zag_light [0, 1, 2, 3, 4, 5, 9, 10, 11, 12, 16, 17, 19, 20] rfl rfl (by kernel_rfl) rfl (fun K hK => ?_); go_simp; refine hK _ ?_; clear hK K) | (refine Zag.zag_read [0, 1, 2, 3, 4, 5, 9, 10, 11, 12, 16, 17, 19, 20] rfl rfl (by kernel_rfl) rfl (fun K hK => ?_); go_simp; refine hK _ ?_; clear hK K))
                      refine Zag.zag_branch [8] rfl ?_
                      refine Zag.each_do rfl rfl (fun K hK => ?_) ?_
                      · skip
                        refine wp_appT 0 vs _ _ Z64 Y12.heap.size hL (Nat.zero_le _) tvs y6 c7 rfl rfl rfl ?_
                        intro v8 X8 l8 t8
                        have k8 := keep_app t8 tvs
                        have li8 := lies_at t8.2 hz
                        have y13 := y13.keep k8
                        have c14 := t8.cell c14 fun e => by have := R0.seen.lt _ e; omega
                        have tvu := tvu.frm t8.frm k8 fun j h1 h2 => R0.su j h2 h1
                        have ss : X8.cell? ⟨wo.heap.size, 0, none⟩ = some vs ∧ X8.cell? ⟨wo.heap.size, 1, none⟩ = some vu := ⟨t8.cell ss.1 gNs, t8.cell ss.2 gNs⟩
                        have fr := fr.step t8.frm fun j _ h => .inl h
                        have hz := Nat.le_trans hz t8.size
                        clear t8 k8 tvs y6 c7
                        refine hK _ _ ss ?_
                        clear hK K
                        repeat (first | (refine Zag.zag_light [0, 1, 2, 3, 4, 5, 9, 10, 11, 12, 16, 17, 19, 20] rfl rfl (by kernel_rfl) rfl (fun K hK => ?_); go_simp; refine hK _ ?_; clear hK K) | (refine Zag.zag_read [0, 1, 2, 3, 4, 5, 9, 10, 11, 12, 16, 17, 19, 20] rfl rfl (by kernel_rfl) rfl (fun K hK => ?_); go_simp; refine hK _ ?_; clear hK K))
                        refine Zag.zag_branch [15] rfl ?_
                        refine Zag.each_do rfl rfl (fun K hK => ?_) ?_
                        · skip
                          refine wp_appT 0 vu _ _ Z64 Y8.heap.size hL (Nat.zero_le _) tvu y13 c14 rfl rfl rfl ?_
                          intro v15 X15 l15 t15
                          have k15 := keep_app t15 tvu
                          have li15 := lies_at t15.2 hz
                          have n815 : noTwo v8 v15 := fun j h1 h2 => by
                            rcases t15.2 j h2 with e | e
                            · rcases li8 j h1 with e' | e'
                              · exact R0.su j e' e
                              · have := R0.sure.lt j e; omega
                            · have := l8.lt j h1; omega
                          have l8 := l8.frm t15.frm k15 fun j h1 h2 => by
                            rcases li8 j h1 with e' | e'
                            · exact R0.su j e' h2
                            · have := R0.sure.lt j h2; omega
                          have ss : X15.cell? ⟨wo.heap.size, 0, none⟩ = some vs ∧ X15.cell? ⟨wo.heap.size, 1, none⟩ = some vu := ⟨t15.cell ss.1 gNu, t15.cell ss.2 gNu⟩
                          have fr := fr.step t15.frm fun j _ h => .inr h
                          obtain ⟨Rz, Sz, q0, f0, q1, f1⟩ := R0.setBoth v8 v15 _ _ fr li8 li15 l8 l15 n815
                          have Rz : RgAt _ (rgN wo.heap.size v8 v15) ⟨List.replicate j Z64 ++ [Z64], List.replicate j Z64 ++ [Z64], [], []⟩ := Rz
                          have Sz : RS W0 (rgN wo.heap.size vs vu) _ (rgN wo.heap.size v8 v15) := Sz
                          have q0 : X15.cell? ⟨wo.heap.size, 0, none⟩ = some vs := q0
                          have f0 : X15.frozen? ⟨wo.heap.size, 0, none⟩ = false := f0
                          have q1 : (X15.setCell ⟨wo.heap.size, 0, none⟩ v8).cell? ⟨wo.heap.size, 1, none⟩ = some vu := q1
                          have f1 : (X15.setCell ⟨wo.heap.size, 0, none⟩ v8).frozen? ⟨wo.heap.size, 1, none⟩ = false := f1
                          obtain ⟨p8, m8, d8, e8⟩ := l8.shape3
                          obtain ⟨p15, m15, d15, e15⟩ := l15.shape3
                          subst e8 e15
                          clear t15 k15 tvu y13 c14 l8 l15
                          refine hK _ _ ss ?_
                          clear hK K
                          repeat (first | (refine Zag.zag_light [0, 1, 2, 3, 4, 5, 9, 10, 11, 12, 16, 17, 19, 20] rfl rfl (by kernel_rfl) rfl (fun K hK => ?_); go_simp; refine hK _ ?_; clear hK K) | (refine Zag.zag_read [0, 1, 2, 3, 4, 5, 9, 10, 11, 12, 16, 17, 19, 20] rfl rfl (by kernel_rfl) rfl (fun K hK => ?_); go_simp; refine hK _ ?_; clear hK K))
                          refine Zag.zag_branch [18] rfl ?_
                          refine Zag.each_end rfl rfl (by kernel_rfl) (fun K hK => ?_) Zag.each_nil
                          unfold Oper.wp
                          go_simp
                          refine hK _ _ ?_
                          clear hK K
                          repeat (first | (refine Zag.zag_light [0, 1, 2, 3, 4, 5, 9, 10, 11, 12, 16, 17, 19, 20] rfl rfl (by kernel_rfl) rfl (fun K hK => ?_); go_simp; refine hK _ ?_; clear hK K) | (refine Zag.zag_read [0, 1, 2, 3, 4, 5, 9, 10, 11, 12, 16, 17, 19, 20] rfl rfl (by kernel_rfl) rfl (fun K hK => ?_); go_simp; refine hK _ ?_; clear hK K))
                          refine Zag.zag_branch [21] rfl ?_
                          refine Zag.each_end rfl rfl (by kernel_rfl) (fun K hK => ?_) Zag.each_nil
                          unfold Oper.wp
                          go_simp
                          refine hK _ _ ?_
                          clear hK K
                          refine Zag.zag_nil ?_
                          generalize World.setCell (World.setCell X15 ⟨wo.heap.size, 0, none⟩ _) ⟨wo.heap.size, 1, none⟩ _ = Xz at *
                          clear q0 f0 q1 f1 ss fr
                          go_wp2_with fail
                          go_roundw
                          case rel => exact inner_step hjm R0' hdr Rz Sz hB hb2 (by go_num)
                          case measure => simp only [intOf]; omega
                        exact Zag.each_nil
                      exact Zag.each_nil
                    exact Zag.each_nil
                  exact Zag.each_nil
                exact Zag.each_nil
              refine Zag.each_do rfl rfl (fun K hK => ?_) ?_
              · skip
                unfold Oper.wp
                go_simp
                generalize hw14 : World.alloc W0 _ = Y14
                have bx14 : Below W0.heap.size W0 Y14 := by rw [← hw14]; exact below_new _ _
                have y13 : Byt Y14 (.slice (some ⟨W0.heap.size, 0, none⟩) 64 64) Z64 := by rw [← hw14]; exact made64 _
                clear hw14
                have tvs := tvs.below bx14
                have tvu := tvu.below bx14
                have fr := fr.step (Frm.of_below (fun k => vs.ownBlock = some k ∨ vu.ownBlock = some k) bx14) fun j _ h => h
                have ss : Y14.cell? ⟨wo.heap.size, 0, none⟩ = some vs ∧ Y14.cell? ⟨wo.heap.size, 1, none⟩ = some vu := ⟨cell_later bx14 ss.1, cell_later bx14 ss.2⟩
                have hz := Nat.le_trans hz bx14.size
                refine hK _ _ ss ?_
                clear hK K
                repeat (first | (refine Zag.zag_light [0, 1, 2, 3, 4, 5, 9, 10, 11, 12, 16, 17, 19, 20] rfl rfl (by kernel_rfl) rfl (fun K hK => ?_); go_simp; refine hK _ ?_; clear hK K) | (refine Zag.zag_read [0, 1, 2, 3, 4, 5, 9, 10, 11, 12, 16, 17, 19, 20] rfl rfl (by kernel_rfl) rfl (fun K hK => ?_); go_simp; refine hK _ ?_; clear hK K))
                refine Zag.zag_branch [6, 14] rfl ?_
                refine Zag.each_do rfl rfl (fun K hK => ?_) ?_
                · skip
                  unfold Oper.wp
                  go_simp
                  generalize hw15 : World.alloc Y14 _ = Y15
                  have bx15 : Below Y14.heap.size Y14 Y15 := by rw [← hw15]; exact below_new _ _
                  have y6 : Byt Y15 (.slice (some ⟨Y14.heap.size, 0, none⟩) 64 64) Z64 := by rw [← hw15]; exact made64 _
                  clear hw15
                  have tvs := tvs.below bx15
                  have tvu := tvu.below bx15
                  have y13 := y13.below bx15
                  have fr := fr.step (Frm.of_below (fun k => vs.ownBlock = some k ∨ vu.ownBlock = some k) bx15) fun j _ h => h
                  have ss : Y15.cell? ⟨wo.heap.size, 0, none⟩ = some vs ∧ Y15.cell? ⟨wo.heap.size, 1, none⟩ = some vu := ⟨cell_later bx15 ss.1, cell_later bx15 ss.2⟩
                  have hz := Nat.le_trans hz bx15.size
                  refine hK _ _ ss ?_
                  clear hK K
                  repeat (first | (refine Zag.zag_light [0, 1, 2, 3, 4, 5, 9, 10, 11, 12, 16, 17, 19, 20] rfl rfl (by kernel_rfl) rfl (fun K hK => ?_); go_simp; refine hK _ ?_; clear hK K) | (refine Zag.zag_read [0, 1, 2, 3, 4, 5, 9, 10, 11, 12, 16, 17, 19, 20] rfl rfl (by kernel_rfl) rfl (fun K hK => ?_); go_simp; refine hK _ ?_; clear hK K))
                  refine Zag.zag_branch [7, 14] rfl ?_
                  refine Zag.each_do rfl rfl (fun K hK => ?_) ?_
                  · skip
                    unfold Oper.wp
                    go_simp
                    generalize hw16 : World.alloc Y15 _ = Y16
                    have bx16 : Below Y15.heap.size Y15 Y16 := by rw [← hw16]; exact below_new _ _
                    have c7 : Y16.cell? ⟨Y15.heap.size, 0, none⟩ = some (.slice (some ⟨Y14.heap.size, 0, none⟩) 64 64) := by rw [← hw16]; exact (RowAt.new Y15 _ _).cell 0 _ rfl
                    clear hw16
                    have z7 := hz
                    have tvs := tvs.below bx16
                    have tvu := tvu.below bx16
                    have y13 := y13.below bx16
                    have y6 := y6.below bx16
                    have fr := fr.step (Frm.of_below (fun k => vs.ownBlock = some k ∨ vu.ownBlock = some k) bx16) fun j _ h => h
                    have ss : Y16.cell? ⟨wo.heap.size, 0, none⟩ = some vs ∧ Y16.cell? ⟨wo.heap.size, 1, none⟩ = some vu := ⟨cell_later bx16 ss.1, cell_later bx16 ss.2⟩
                    have hz := Nat.le_trans hz bx16.size
                    refine hK _ _ ss ?_
                    clear hK K
                    repeat (first | (refine Zag.zag_light [0, 1, 2, 3, 4, 5, 9, 10, 11, 12, 16, 17, 19, 20] rfl rfl (by kernel_rfl) rfl (fun K hK => ?_); go_simp; refine hK _ ?_; clear hK K) | (refine Zag.zag_read [0, 1, 2, 3, 4, 5, 9, 10, 11, 12, 16, 17, 19, 20] rfl rfl (by kernel_rfl) rfl (fun K hK => ?_); go_simp; refine hK _ ?_; clear hK K))
                    refine Zag.zag_branch [8, 14] rfl ?_
                    refine Zag.each_do rfl rfl (fun K hK => ?_) ?_
                    · skip
                      refine wp_appT 0 vs _ _ Z64 Y15.heap.size hL (Nat.zero_le _) tvs y6 c7 rfl rfl rfl ?_
                      intro v8 X8 l8 t8
                      have k8 := keep_app t8 tvs
                      have li8 := lies_at t8.2 hz
                      have y13 := y13.keep k8
                      have tvu := tvu.frm t8.frm k8 fun j h1 h2 => R0.su j h2 h1
                      have ss : X8.cell? ⟨wo.heap.size, 0, none⟩ = some vs ∧ X8.cell? ⟨wo.heap.size, 1, none⟩ = some vu := ⟨t8.cell ss.1 gNs, t8.cell ss.2 gNs⟩
                      have fr := fr.step t8.frm fun j _ h => .inl h
                      have hz := Nat.le_trans hz t8.size
                      clear t8 k8 tvs y6 c7
                      refine hK _ _ ss ?_
                      clear hK K
                      repeat (first | (refine Zag.zag_light [0, 1, 2, 3, 4, 5, 9, 10, 11, 12, 16, 17, 19, 20] rfl rfl (by kernel_rfl) rfl (fun K hK => ?_); go_simp; refine hK _ ?_; clear hK K) | (refine Zag.zag_read [0, 1, 2, 3, 4, 5, 9, 10, 11, 12, 16, 17, 19, 20] rfl rfl (by kernel_rfl) rfl (fun K hK => ?_); go_simp; refine hK _ ?_; clear hK K))
                      refine Zag.zag_branch [14] rfl ?_
                      refine Zag.each_do rfl rfl (fun K hK => ?_) ?_
                      · skip
                        unfold Oper.wp
                        go_simp
                        generalize hw17 : World.alloc X8 _ = Y17
                        have bx17 : Below X8.heap.size X8 Y17 := by rw [← hw17]; exact below_new _ _
                        have c14 : Y17.cell? ⟨X8.heap.size, 0, none⟩ = some (.slice (some ⟨W0.heap.size, 0, none⟩) 64 64) := by rw [← hw17]; exact (RowAt.new X8 _ _).cell 0 _ rfl
                        clear hw17
                        have z14 := hz
                        have tvu := tvu.below bx17
                        have y13 := y13.below bx17
                        have l8 := l8.below bx17
                        have fr := fr.step (Frm.of_below (fun k => vs.ownBlock = some k ∨ vu.ownBlock = some k) bx17) fun j _ h => h
                        have ss : Y17.cell? ⟨wo.heap.size, 0, none⟩ = some vs ∧ Y17.cell? ⟨wo.heap.size, 1, none⟩ = some vu := ⟨cell_later bx17 ss.1, cell_later bx17 ss.2⟩
                        have hz := Nat.le_trans hz bx17.size
                        refine hK _ _ ss ?_
                        clear hK K
                        repeat (first | (refine Zag.zag_light [0, 1, 2, 3, 4, 5, 9, 10, 11, 12, 16, 17, 19, 20] rfl rfl (by kernel_rfl) rfl (fun K hK => ?_); go_simp; refine hK _ ?_; clear hK K) | (refine Zag.zag_read [0, 1, 2, 3, 4, 5, 9, 10, 11, 12, 16, 17, 19, 20] rfl rfl (by kernel_rfl) rfl (fun K hK => ?_); go_simp; refine hK _ ?_; clear hK K))
                        refine Zag.zag_branch [15] rfl ?_
                        refine Zag.each_do rfl rfl (fun K hK => ?_) ?_
                        · skip
                          refine wp_appT 0 vu _ _ Z64 X8.heap.size hL (Nat.zero_le _) tvu y13 c14 rfl rfl rfl ?_
                          intro v15 X15 l15 t15
                          have k15 := keep_app t15 tvu
                          have li15 := lies_at t15.2 hz
                          have n815 : noTwo v8 v15 := fun j h1 h2 => by
                            rcases t15.2 j h2 with e | e
                            · rcases li8 j h1 with e' | e'
                              · exact R0.su j e' e
                              · have := R0.sure.lt j e; omega
                            · have := l8.lt j h1; omega
                          have l8 := l8.frm t15.frm k15 fun j h1 h2 => by
                            rcases li8 j h1 with e' | e'
                            · exact R0.su j e' h2
                            · have := R0.sure.lt j h2; omega
                          have ss : X15.cell? ⟨wo.heap.size, 0, none⟩ = some vs ∧ X15.cell? ⟨wo.heap.size, 1, none⟩ = some vu := ⟨t15.cell ss.1 gNu, t15.cell ss.2 gNu⟩
                          have fr := fr.step t15.frm fun j _ h => .inr h
                          obtain ⟨Rz, Sz, q0, f0, q1, f1⟩ := R0.setBoth v8 v15 _ _ fr li8 li15 l8 l15 n815
                          have Rz : RgAt _ (rgN wo.heap.size v8 v15) ⟨List.replicate j Z64 ++ [Z64], List.replicate j Z64 ++ [Z64], [], []⟩ := Rz
                          have Sz : RS W0 (rgN wo.heap.size vs vu) _ (rgN wo.heap.size v8 v15) := Sz
                          have q0 : X15.cell? ⟨wo.heap.size, 0, none⟩ = some vs := q0
                          have f0 : X15.frozen? ⟨wo.heap.size, 0, none⟩ = false := f0
                          have q1 : (X15.setCell ⟨wo.heap.size, 0, none⟩ v8).cell? ⟨wo.heap.size, 1, none⟩ = some vu := q1
                          have f1 : (X15.setCell ⟨wo.heap.size, 0, none⟩ v8).frozen? ⟨wo.heap.size, 1, none⟩ = false := f1
                          obtain ⟨p8, m8, d8, e8⟩ := l8.shape3
                          obtain ⟨p15, m15, d15, e15⟩ := l15.shape3
                          subst e8 e15
                          clear t15 k15 tvu y13 c14 l8 l15
                          refine hK _ _ ss ?_
                          clear hK K
                          repeat (first | (refine Zag.zag_light [0, 1, 2, 3, 4, 5, 9, 10, 11, 12, 16, 17, 19, 20] rfl rfl (by kernel_rfl) rfl (fun K hK => ?_); go_simp; refine hK _ ?_; clear hK K) | (refine Zag.zag_read [0, 1, 2, 3, 4, 5, 9, 10, 11, 12, 16, 17, 19, 20] rfl rfl (by kernel_rfl) rfl (fun K hK => ?_); go_simp; refine hK _ ?_; clear hK K))
                          refine Zag.zag_branch [18] rfl ?_
                          refine Zag.each_end rfl rfl (by kernel_rfl) (fun K hK => ?_) Zag.each_nil
                          unfold Oper.wp
                          go_simp
                          refine hK _ _ ?_
                          clear hK K
                          repeat (first | (refine Zag.zag_light [0, 1, 2, 3, 4, 5, 9, 10, 11, 12, 16, 17, 19, 20] rfl rfl (by kernel_rfl) rfl (fun K hK => ?_); go_simp; refine hK _ ?_; clear hK K) | (refine Zag.zag_read [0, 1, 2, 3, 4, 5, 9, 10, 11, 12, 16, 17, 19, 20] rfl rfl (by kernel_rfl) rfl (fun K hK => ?_); go_simp; refine hK _ ?_; clear hK K))
                          refine Zag.zag_branch [21] rfl ?_
                          refine Zag.each_end rfl rfl (by kernel_rfl) (fun K hK => ?_) Zag.each_nil
                          unfold Oper.wp
                          go_simp
                          refine hK _ _ ?_
                          clear hK K
                          refine Zag.zag_nil ?_
                          generalize World.setCell (World.setCell X15 ⟨wo.heap.size, 0, none⟩ _) ⟨wo.heap.size, 1, none⟩ _ = Xz at *
                          clear q0 f0 q1 f1 ss fr
                          go_wp2_with fail
                          go_roundw
                          case rel => exact inner_step hjm R0' hdr Rz Sz hB hb2 (by go_num)
                          case measure => simp only [intOf]; omega
                        exact Zag.each_nil
                      exact Zag.each_nil
                    refine Zag.each_do rfl rfl (fun K hK => ?_) ?_
                    · skip
                      unfold Oper.wp
                      go_simp
                      generalize hw18 : World.alloc Y16 _ = Y18
                      have bx18 : Below Y16.heap.size Y16 Y18 := by rw [← hw18]; exact below_new _ _
                      have c14 : Y18.cell? ⟨Y16.heap.size, 0, none⟩ = some (.slice (some ⟨W0.heap.size, 0, none⟩) 64 64) := by rw [← hw18]; exact (RowAt.new Y16 _ _).cell 0 _ rfl
                      clear hw18
                      have z14 := hz
                      have tvs := tvs.below bx18
                      have tvu := tvu.below bx18
                      have y13 := y13.below bx18
                      have y6 := y6.below bx18
                      have c7 := cell_later bx18 c7
                      have fr := fr.step (Frm.of_below (fun k => vs.ownBlock = some k ∨ vu.ownBlock = some k) bx18) fun j _ h => h
                      have ss : Y18.cell? ⟨wo.heap.size, 0, none⟩ = some vs ∧ Y18.cell? ⟨wo.heap.size, 1, none⟩ = some vu := ⟨cell_later bx18 ss.1, cell_later bx18 ss.2⟩
                      have hz := Nat.le_trans hz bx18.size
                      refine hK _ _ ss ?_
                      clear hK K
                      repeat (first | (refine Zag.zag_light [0, 1, 2, 3, 4, 5, 9, 10, 11, 12, 16, 17, 19, 20] rfl rfl (by kernel_rfl) rfl (fun K hK => ?_); go_simp; refine hK _ ?_; clear hK K) | (refine Zag.zag_read [0, 1, 2, 3, 4, 5, 9, 10, 11, 12, 16, 17, 19, 20] rfl rfl (by kernel_rfl) rfl (fun K hK => ?_); go_simp; refine hK _ ?_; clear hK K))
                      refine Zag.zag_branch [8] rfl ?_
                      refine Zag.each_do rfl rfl (fun K hK => ?_) ?_
                      · skip
                        refine wp_appT 0 vs _ _ Z64 Y15.heap.size hL (Nat.zero_le _) tvs y6 c7 rfl rfl rfl ?_
                        intro v8 X8 l8 t8
                        have k8 := keep_app t8 tvs
                        have li8 := lies_at t8.2 hz
                        have y13 := y13.keep k8
                        have c14 := t8.cell c14 fun e => by have := R0.seen.lt _ e; omega
                        have tvu := tvu.frm t8.frm k8 fun j h1 h2 => R0.su j h2 h1
                        have ss : X8.cell? ⟨wo.heap.size, 0, none⟩ = some vs ∧ X8.cell? ⟨wo.heap.size, 1, none⟩ = some vu := ⟨t8.cell ss.1 gNs, t8.cell ss.2 gNs⟩
                        have fr := fr.step t8.frm fun j _ h => .inl h
                        have hz := Nat.le_trans hz t8.size
                        clear t8 k8 tvs y6 c7
                        refine hK _ _ ss ?_
                        clear hK K
                        repeat (first | (refine Zag.zag_light [0, 1, 2, 3, 4, 5, 9, 10, 11, 12, 16, 17, 19, 20] rfl rfl (by kernel_rfl) rfl (fun K hK => ?_); go_simp; refine hK _ ?_; clear hK K) | (refine Zag.zag_read [0, 1, 2, 3, 4, 5, 9, 10, 11, 12, 16, 17, 19, 20] rfl rfl (by kernel_rfl) rfl (fun K hK => ?_); go_simp; refine hK _ ?_; clear hK K))
                        refine Zag.zag_branch [15] rfl ?_
                        refine Zag.each_do rfl rfl (fun K hK => ?_) ?_
                        · skip
                          refine wp_appT 0 vu _ _ Z64 Y16.heap.size hL (Nat.zero_le _) tvu y13 c14 rfl rfl rfl ?_
                          intro v15 X15 l15 t15
                          have k15 := keep_app t15 tvu
                          have li15 := lies_at t15.2 hz
                          have n815 : noTwo v8 v15 := fun j h1 h2 => by
                            rcases t15.2 j h2 with e | e
                            · rcases li8 j h1 with e' | e'
                              · exact R0.su j e' e
                              · have := R0.sure.lt j e; omega
                            · have := l8.lt j h1; omega
                          have l8 := l8.frm t15.frm k15 fun j h1 h2 => by
                            rcases li8 j h1 with e' | e'
                            · exact R0.su j e' h2
                            · have := R0.sure.lt j h2; omega
                          have ss : X15.cell? ⟨wo.heap.size, 0, none⟩ = some vs ∧ X15.cell? ⟨wo.heap.size, 1, none⟩ = some vu := ⟨t15.cell ss.1 gNu, t15.cell ss.2 gNu⟩
                          have fr := fr.step t15.frm fun j _ h => .inr h
                          obtain ⟨Rz, Sz, q0, f0, q1, f1⟩ := R0.setBoth v8 v15 _ _ fr li8 li15 l8 l15 n815
                          have Rz : RgAt _ (rgN wo.heap.size v8 v15) ⟨List.replicate j Z64 ++ [Z64], List.replicate j Z64 ++ [Z64], [], []⟩ := Rz
                          have Sz : RS W0 (rgN wo.heap.size vs vu) _ (rgN wo.heap.size v8 v15) := Sz
                          have q0 : X15.cell? ⟨wo.heap.size, 0, none⟩ = some vs := q0
                          have f0 : X15.frozen? ⟨wo.heap.size, 0, none⟩ = false := f0
                          have q1 : (X15.setCell ⟨wo.heap.size, 0, none⟩ v8).cell? ⟨wo.heap.size, 1, none⟩ = some vu := q1
                          have f1 : (X15.setCell ⟨wo.heap.size, 0, none⟩ v8).frozen? ⟨wo.heap.size, 1, none⟩ = false := f1
                          obtain ⟨p8, m8, d8, e8⟩ := l8.shape3
                          obtain ⟨p15, m15, d15, e15⟩ := l15.shape3
                          subst e8 e15
                          clear t15 k15 tvu y13 c14 l8 l15
                          refine hK _ _ ss ?_
                          clear hK K
                          repeat (first | (refine Zag.zag_light [0, 1, 2, 3, 4, 5, 9, 10, 11, 12, 16, 17, 19, 20] rfl rfl (by kernel_rfl) rfl (fun K hK => ?_); go_simp; refine hK _ ?_; clear hK K) | (refine Zag.zag_read [0, 1, 2, 3, 4, 5, 9, 10, 11, 12, 16, 17, 19, 20] rfl rfl (by kernel_rfl) rfl (fun K hK => ?_); go_simp; refine hK _ ?_; clear hK K))
                          refine Zag.zag_branch [18] rfl ?_
                          refine Zag.each_end rfl rfl (by kernel_rfl) (fun K hK => ?_) Zag.each_nil
                          unfold Oper.wp
                          go_simp
                          refine hK _ _ ?_
                          clear hK K
                          repeat (first | (refine Zag.zag_light [0, 1, 2, 3, 4, 5, 9, 10, 11, 12, 16, 17, 19, 20] rfl rfl (by kernel_rfl) rfl (fun K hK => ?_); go_simp; refine hK _ ?_; clear hK K) | (refine Zag.zag_read [0, 1, 2, 3, 4, 5, 9, 10, 11, 12, 16, 17, 19, 20] rfl rfl (by kernel_rfl) rfl (fun K hK => ?_); go_simp; refine hK _ ?_; clear hK K))
                          refine Zag.zag_branch [21] rfl ?_
                          refine Zag.each_end rfl rfl (by kernel_rfl) (fun K hK => ?_) Zag.each_nil
                          unfold Oper.wp
                          go_simp
                          refine hK _ _ ?_
                          clear hK K
                          refine Zag.zag_nil ?_
                          generalize World.setCell (World.setCell X15 ⟨wo.heap.size, 0, none⟩ _) ⟨wo.heap.size, 1, none⟩ _ = Xz at *
                          clear q0 f0 q1 f1 ss fr
                          go_wp2_with fail
                          go_roundw
                          case rel => exact inner_step hjm R0' hdr Rz Sz hB hb2 (by go_num)
                          case measure => simp only [intOf]; omega
                        exact Zag.each_nil
                      exact Zag.each_nil
                    exact Zag.each_nil
                  refine Zag.each_do rfl rfl (fun K hK => ?_) ?_
                  · skip
                    unfold Oper.wp
                    go_simp
                    generalize hw19 : World.alloc Y15 _ = Y19
                    have bx19 : Below Y15.heap.size Y15 Y19 := by rw [← hw19]; exact below_new _ _
                    have c14 : Y19.cell? ⟨Y15.heap.size, 0, none⟩ = some (.slice (some ⟨W0.heap.size, 0, none⟩) 64 64) := by rw [← hw19]; exact (RowAt.new Y15 _ _).cell 0 _ rfl
                    clear hw19
                    have z14 := hz
                    have tvs := tvs.below bx19
                    have tvu := tvu.below bx19
                    have y13 := y13.below bx19
                    have y6 := y6.below bx19
                    have fr := fr.step (Frm.of_below (fun k => vs.ownBlock = some k ∨ vu.ownBlock = some k) bx19) fun j _ h => h
                    have ss : Y19.cell? ⟨wo.heap.size, 0, none⟩ = some vs ∧ Y19.cell? ⟨wo.heap.size, 1, none⟩ = some vu := ⟨cell_later bx19 ss.1, cell_later bx19 ss.2⟩
                    have hz := Nat.le_trans hz bx19.size
                    refine hK _ _ ss ?_
                    clear hK K
                    repeat (first | (refine Zag.zag_light [0, 1, 2, 3, 4, 5, 9, 10, 11, 12, 16, 17, 19, 20] rfl rfl (by kernel_rfl) rfl (fun K hK => ?_); go_simp; refine hK _ ?_; clear hK K) | (refine Zag.zag_read [0, 1, 2, 3, 4, 5, 9, 10, 11, 12, 16, 17, 19, 20] rfl rfl (by kernel_rfl) rfl (fun K hK => ?_); go_simp; refine hK _ ?_; clear hK K))
                    refine Zag.zag_branch [7] rfl ?_
                    refine Zag.each_do rfl rfl (fun K hK => ?_) ?_
                    · skip
                      unfold Oper.wp
                      go_simp
                      generalize hw20 : World.alloc Y19 _ = Y20
                      have bx20 : Below Y19.heap.size Y19 Y20 := by rw [← hw20]; exact below_new _ _
                      have c7 : Y20.cell? ⟨Y19.heap.size, 0, none⟩ = some (.slice (some ⟨Y14.heap.size, 0, none⟩) 64 64) := by rw [← hw20]; exact (RowAt.new Y19 _ _).cell 0 _ rfl
                      clear hw20
                      have z7 := hz
                      have tvs := tvs.below bx20
                      have tvu := tvu.below bx20
                      have y13 := y13.below bx20
                      have y6 := y6.below bx20
                      have c14 := cell_later bx20 c14
                      have fr := fr.step (Frm.of_below (fun k => vs.ownBlock = some k ∨ vu.ownBlock = some k) bx20) fun j _ h => h
                      have ss : Y20.cell? ⟨wo.heap.size, 0, none⟩ = some vs ∧ Y20.cell? ⟨wo.heap.size, 1, none⟩ = some vu := ⟨cell_later bx20 ss.1, cell_later bx20 ss.2⟩
                      have hz := Nat.le_trans hz bx20.size
                      refine hK _ _ ss ?_
                      clear hK K
                      repeat (first | (refine Zag.zag_light [0, 1, 2, 3, 4, 5, 9, 10, 11, 12, 16, 17, 19, 20] rfl rfl (by kernel_rfl) rfl (fun K hK => ?_); go_simp; refine hK _ ?_; clear hK K) | (refine Zag.zag_read [0, 1, 2, 3, 4, 5, 9, 10, 11, 12, 16, 17, 19, 20] rfl rfl (by kernel_rfl) rfl (fun K hK => ?_); go_simp; refine hK _ ?_; clear hK K))
                      refine Zag.zag_branch [8] rfl ?_
                      refine Zag.each_do rfl rfl (fun K hK => ?_) ?_
                      · skip
                        refine wp_appT 0 vs _ _ Z64 Y19.heap.size hL (Nat.zero_le _) tvs y6 c7 rfl rfl rfl ?_
                        intro v8 X8 l8 t8
                        have k8 := keep_app t8 tvs
                        have li8 := lies_at t8.2 hz
                        have y13 := y13.keep k8
                        have c14 := t8.cell c14 fun e => by have := R0.seen.lt _ e; omega
                        have tvu := tvu.frm t8.frm k8 fun j h1 h2 => R0.su j h2 h1
                        have ss : X8.cell? ⟨wo.heap.size, 0, none⟩ = some vs ∧ X8.cell? ⟨wo.heap.size, 1, none⟩ = some vu := ⟨t8.cell ss.1 gNs, t8.cell ss.2 gNs⟩
                        have fr := fr.step t8.frm fun j _ h => .inl h
                        have hz := Nat.le_trans hz t8.size
                        clear t8 k8 tvs y6 c7
                        refine hK _ _ ss ?_
                        clear hK K
                        repeat (first | (refine Zag.zag_light [0, 1, 2, 3, 4, 5, 9, 10, 11, 12, 16, 17, 19, 20] rfl rfl (by kernel_rfl) rfl (fun K hK => ?_); go_simp; refine hK _ ?_; clear hK K) | (refine Zag.zag_read [0, 1, 2, 3, 4, 5, 9, 10, 11, 12, 16, 17, 19, 20] rfl rfl (by kernel_rfl) rfl (fun K hK => ?_); go_simp; refine hK _ ?_; clear hK K))
                        refine Zag.zag_branch [15] rfl ?_
                        refine Zag.each_do rfl rfl (fun K hK => ?_) ?_
                        · skip
                          refine wp_appT 0 vu _ _ Z64 Y15.heap.size hL (Nat.zero_le _) tvu y13 c14 rfl rfl rfl ?_
                          intro v15 X15 l15 t15
                          have k15 := keep_app t15 tvu
                          have li15 := lies_at t15.2 hz
                          have n815 : noTwo v8 v15 := fun j h1 h2 => by
                            rcases t15.2 j h2 with e | e
                            · rcases li8 j h1 with e' | e'
                              · exact R0.su j e' e
                              · have := R0.sure.lt j e; omega
                            · have := l8.lt j h1; omega
                          have l8 := l8.frm t15.frm k15 fun j h1 h2 => by
                            rcases li8 j h1 with e' | e'
                            · exact R0.su j e' h2
                            · have := R0.sure.lt j h2; omega
                          have ss : X15.cell? ⟨wo.heap.size, 0, none⟩ = some vs ∧ X15.cell? ⟨wo.heap.size, 1, none⟩ = some vu := ⟨t15.cell ss.1 gNu, t15.cell ss.2 gNu⟩
                          have fr := fr.step t15.frm fun j _ h => .inr h
                          obtain ⟨Rz, Sz, q0, f0, q1, f1⟩ := R0.setBoth v8 v15 _ _ fr li8 li15 l8 l15 n815
                          have Rz : RgAt _ (rgN wo.heap.size v8 v15) ⟨List.replicate j Z64 ++ [Z64], List.replicate j Z64 ++ [Z64], [], []⟩ := Rz
                          have Sz : RS W0 (rgN wo.heap.size vs vu) _ (rgN wo.heap.size v8 v15) := Sz
                          have q0 : X15.cell? ⟨wo.heap.size, 0, none⟩ = some vs := q0
                          have f0 : X15.frozen? ⟨wo.heap.size, 0, none⟩ = false := f0
                          have q1 : (X15.setCell ⟨wo.heap.size, 0, none⟩ v8).cell? ⟨wo.heap.size, 1, none⟩ = some vu := q1
                          have f1 : (X15.setCell ⟨wo.heap.size, 0, none⟩ v8).frozen? ⟨wo.heap.size, 1, none⟩ = false := f1
                          obtain ⟨p8, m8, d8, e8⟩ := l8.shape3
                          obtain ⟨p15, m15, d15, e15⟩ := l15.shape3
                          subst e8 e15
                          clear t15 k15 tvu y13 c14 l8 l15
                          refine hK _ _ ss ?_
                          clear hK K
                          repeat (first | (refine Zag.zag_light [0, 1, 2, 3, 4, 5, 9, 10, 11, 12, 16, 17, 19, 20] rfl rfl (by kernel_rfl) rfl (fun K hK => ?_); go_simp; refine hK _ ?_; clear hK K) | (refine Zag.zag_read [0, 1, 2, 3, 4, 5, 9, 10, 11, 12, 16, 17, 19, 20] rfl rfl (by kernel_rfl) rfl (fun K hK => ?_); go_simp; refine hK _ ?_; clear hK K))
                          refine Zag.zag_branch [18] rfl ?_
                          refine Zag.each_end rfl rfl (by kernel_rfl) (fun K hK => ?_) Zag.each_nil
                          unfold Oper.wp
                          go_simp
                          refine hK _ _ ?_
                          clear hK K
                          repeat (first | (refine Zag.zag_light [0, 1, 2, 3, 4, 5, 9, 10, 11, 12, 16, 17, 19, 20] rfl rfl (by kernel_rfl) rfl (fun K hK => ?_); go_simp; refine hK _ ?_; clear hK K) | (refine Zag.zag_read [0, 1, 2, 3, 4, 5, 9, 10, 11, 12, 16, 17, 19, 20] rfl rfl (by kernel_rfl) rfl (fun K hK => ?_); go_simp; refine hK _ ?_; clear hK K))
                          refine Zag.zag_branch [21] rfl ?_
                          refine Zag.each_end rfl rfl (by kernel_rfl) (fun K hK => ?_) Zag.each_nil
                          unfold Oper.wp
                          go_simp
                          refine hK _ _ ?_
                          clear hK K
                          refine Zag.zag_nil ?_
                          generalize World.setCell (World.setCell X15 ⟨wo.heap.size, 0, none⟩ _) ⟨wo.heap.size, 1, none⟩ _ = Xz at *
                          clear q0 f0 q1 f1 ss fr
                          go_wp2_with fail
                          go_roundw
                          case rel => exact inner_step hjm R0' hdr Rz Sz hB hb2 (by go_num)
                          case measure => simp only [intOf]; omega
                        exact Zag.each_nil
                      exact Zag.each_nil
                    exact Zag.each_nil
                  exact Zag.each_nil
                refine Zag.each_do rfl rfl (fun K hK => ?_) ?_
                · skip
                  unfold Oper.wp
                  go_simp
                  generalize hw21 : World.alloc Y14 _ = Y21
                  have bx21 : Below Y14.heap.size Y14 Y21 := by rw [← hw21]; exact below_new _ _
                  have c14 : Y21.cell? ⟨Y14.heap.size, 0, none⟩ = some (.slice (some ⟨W0.heap.size, 0, none⟩) 64 64) := by rw [← hw21]; exact (RowAt.new Y14 _ _).cell 0 _ rfl
                  clear hw21
                  have z14 := hz
                  have tvs := tvs.below bx21
                  have tvu := tvu.below bx21
                  have y13 := y13.below bx21
                  have fr := fr.step (Frm.of_below (fun k => vs.ownBlock = some k ∨ vu.ownBlock = some k) bx21) fun j _ h => h
                  have ss : Y21.cell? ⟨wo.heap.size, 0, none⟩ = some vs ∧ Y21.cell? ⟨wo.heap.size, 1, none⟩ = some vu := ⟨cell_later bx21 ss.1, cell_later bx21 ss.2⟩
                  have hz := Nat.le_trans hz bx21.size
                  refine hK _ _ ss ?_
                  clear hK K
                  repeat (first | (refine Zag.zag_light [0, 1, 2, 3, 4, 5, 9, 10, 11, 12, 16, 17, 19, 20] rfl rfl (by kernel_rfl) rfl (fun K hK => ?_); go_simp; refine hK _ ?_; clear hK K) | (refine Zag.zag_read [0, 1, 2, 3, 4, 5, 9, 10, 11, 12, 16, 17, 19, 20] rfl rfl (by kernel_rfl) rfl (fun K hK => ?_); go_simp; refine hK _ ?_; clear hK K))
                  refine Zag.zag_branch [6] rfl ?_
                  refine Zag.each_do rfl rfl (fun K hK => ?_) ?_
                  · skip
                    unfold Oper.wp
                    go_simp
                    generalize hw22 : World.alloc Y21 _ = Y22
                    have bx22 : Below Y21.heap.size Y21 Y22 := by rw [← hw22]; exact below_new _ _
                    have y6 : Byt Y22 (.slice (some ⟨Y21.heap.size, 0, none⟩) 64 64) Z64 := by rw [← hw22]; exact made64 _
                    clear hw22
                    have tvs := tvs.below bx22
                    have tvu := tvu.below bx22
                    have y13 := y13.below bx22
                    have c14 := cell_later bx22 c14
                    have fr := fr.step (Frm.of_below (fun k => vs.ownBlock = some k ∨ vu.ownBlock = some k) bx22) fun j _ h => h
                    have ss : Y22.cell? ⟨wo.heap.size, 0, none⟩ = some vs ∧ Y22.cell? ⟨wo.heap.size, 1, none⟩ = some vu := ⟨cell_later bx22 ss.1, cell_later bx22 ss.2⟩
                    have hz := Nat.le_trans hz bx22.size
                    refine hK _ _ ss ?_
                    clear hK K
                    repeat (first | (refine Zag.zag_light [0, 1, 2, 3, 4, 5, 9, 10, 11, 12, 16, 17, 19, 20] rfl rfl (by kernel_rfl) rfl (fun K hK => ?_); go_simp; refine hK _ ?_; clear hK K) | (refine Zag.zag_read [0, 1, 2, 3, 4, 5, 9, 10, 11, 12, 16, 17, 19, 20] rfl rfl (by kernel_rfl) rfl (fun K hK => ?_); go_simp; refine hK _ ?_; clear hK K))
                    refine Zag.zag_branch [7] rfl ?_
                    refine Zag.each_do rfl rfl (fun K hK => ?_) ?_
                    · skip
                      unfold Oper.wp
                      go_simp
                      generalize hw23 : World.alloc Y22 _ = Y23
                      have bx23 : Below Y22.heap.size Y22 Y23 := by rw [← hw23]; exact below_new _ _
                      have c7 : Y23.cell? ⟨Y22.heap.size, 0, none⟩ = some (.slice (some ⟨Y21.heap.size, 0, none⟩) 64 64) := by rw [← hw23]; exact (RowAt.new Y22 _ _).cell 0 _ rfl
                      clear hw23
                      have z7 := hz
                      have tvs := tvs.below bx23
                      have tvu := tvu.below bx23
                      have y13 := y13.below bx23
                      have c14 := cell_later bx23 c14
                      have y6 := y6.below bx23
                      have fr := fr.step (Frm.of_below (fun k => vs.ownBlock = some k ∨ vu.ownBlock = some k) bx23) fun j _ h => h
                      have ss : Y23.cell? ⟨wo.heap.size, 0, none⟩ = some vs ∧ Y23.cell? ⟨wo.heap.size, 1, none⟩ = some vu := ⟨cell_later bx23 ss.1, cell_later bx23 ss.2⟩
                      have hz := Nat.le_trans hz bx23.size
                      refine hK _ _ ss ?_
                      clear hK K
                      repeat (first | (refine Zag.zag_light [0, 1, 2, 3, 4, 5, 9, 10, 11, 12, 16, 17, 19, 20] rfl rfl (by kernel_rfl) rfl (fun K hK => ?_); go_simp; refine hK _ ?_; clear hK K) | (refine Zag.zag_read [0, 1, 2, 3, 4, 5, 9, 10, 11, 12, 16, 17, 19, 20] rfl rfl (by kernel_rfl) rfl (fun K hK => ?_); go_simp; refine hK _ ?_; clear hK K))
                      refine Zag.zag_branch [8] rfl ?_
                      refine Zag.each_do rfl rfl (fun K hK => ?_) ?_
                      · skip
                        refine wp_appT 0 vs _ _ Z64 Y22.heap.size hL (Nat.zero_le _) tvs y6 c7 rfl rfl rfl ?_
                        intro v8 X8 l8 t8
                        have k8 := keep_app t8 tvs
                        have li8 := lies_at t8.2 hz
                        have y13 := y13.keep k8
                        have c14 := t8.cell c14 fun e => by have := R0.seen.lt _ e; omega
                        have tvu := tvu.frm t8.frm k8 fun j h1 h2 => R0.su j h2 h1
                        have ss : X8.cell? ⟨wo.heap.size, 0, none⟩ = some vs ∧ X8.cell? ⟨wo.heap.size, 1, none⟩ = some vu := ⟨t8.cell ss.1 gNs, t8.cell ss.2 gNs⟩
                        have fr := fr.step t8.frm fun j _ h => .inl h
                        have hz := Nat.le_trans hz t8.size
                        clear t8 k8 tvs y6 c7
                        refine hK _ _ ss ?_
                        clear hK K
                        repeat (first | (refine Zag.zag_light [0, 1, 2, 3, 4, 5, 9, 10, 11, 12, 16, 17, 19, 20] rfl rfl (by kernel_rfl) rfl (fun K hK => ?_); go_simp; refine hK _ ?_; clear hK K) | (refine Zag.zag_read [0, 1, 2, 3, 4, 5, 9, 10, 11, 12, 16, 17, 19, 20] rfl rfl (by kernel_rfl) rfl (fun K hK => ?_); go_simp; refine hK _ ?_; clear hK K))
                        refine Zag.zag_branch [15] rfl ?_
                        refine Zag.each_do rfl rfl (fun K hK => ?_) ?_
                        · skip
                          refine wp_appT 0 vu _ _ Z64 Y14.heap.size hL (Nat.zero_le _) tvu y13 c14 rfl rfl rfl ?_
                          intro v15 X15 l15 t15
                          have k15 := keep_app t15 tvu
                          have li15 := lies_at t15.2 hz
                          have n815 : noTwo v8 v15 := fun j h1 h2 => by
                            rcases t15.2 j h2 with e | e
                            · rcases li8 j h1 with e' | e'
                              · exact R0.su j e' e
                              · have := R0.sure.lt j e; omega
                            · have := l8.lt j h1; omega
                          have l8 := l8.frm t15.frm k15 fun j h1 h2 => by
                            rcases li8 j h1 with e' | e'
                            · exact R0.su j e' h2
                            · have := R0.sure.lt j h2; omega
                          have ss : X15.cell? ⟨wo.heap.size, 0, none⟩ = some vs ∧ X15.cell? ⟨wo.heap.size, 1, none⟩ = some vu := ⟨t15.cell ss.1 gNu, t15.cell ss.2 gNu⟩
                          have fr := fr.step t15.frm fun j _ h => .inr h
                          obtain ⟨Rz, Sz, q0, f0, q1, f1⟩ := R0.setBoth v8 v15 _ _ fr li8 li15 l8 l15 n815
                          have Rz : RgAt _ (rgN wo.heap.size v8 v15) ⟨List.replicate j Z64 ++ [Z64], List.replicate j Z64 ++ [Z64], [], []⟩ := Rz
                          have Sz : RS W0 (rgN wo.heap.size vs vu) _ (rgN wo.heap.size v8 v15) := Sz
                          have q0 : X15.cell? ⟨wo.heap.size, 0, none⟩ = some vs := q0
                          have f0 : X15.frozen? ⟨wo.heap.size, 0, none⟩ = false := f0
                          have q1 : (X15.setCell ⟨wo.heap.size, 0, none⟩ v8).cell? ⟨wo.heap.size, 1, none⟩ = some vu := q1
                          have f1 : (X15.setCell ⟨wo.heap.size, 0, none⟩ v8).frozen? ⟨wo.heap.size, 1, none⟩ = false := f1
                          obtain ⟨p8, m8, d8, e8⟩ := l8.shape3
                          obtain ⟨p15, m15, d15, e15⟩ := l15.shape3
                          subst e8 e15
                          clear t15 k15 tvu y13 c14 l8 l15
                          refine hK _ _ ss ?_
                          clear hK K
                          repeat (first | (refine Zag.zag_light [0, 1, 2, 3, 4, 5, 9, 10, 11, 12, 16, 17, 19, 20] rfl rfl (by kernel_rfl) rfl (fun K hK => ?_); go_simp; refine hK _ ?_; clear hK K) | (refine Zag.zag_read [0, 1, 2, 3, 4, 5, 9, 10, 11, 12, 16, 17, 19, 20] rfl rfl (by kernel_rfl) rfl (fun K hK => ?_); go_simp; refine hK _ ?_; clear hK K))
                          refine Zag.zag_branch [18] rfl ?_
                          refine Zag.each_end rfl rfl (by kernel_rfl) (fun K hK => ?_) Zag.each_nil
                          unfold Oper.wp
                          go_simp
                          refine hK _ _ ?_
                          clear hK K
                          repeat (first | (refine Zag.zag_light [0, 1, 2, 3, 4, 5, 9, 10, 11, 12, 16, 17, 19, 20] rfl rfl (by kernel_rfl) rfl (fun K hK => ?_); go_simp; refine hK _ ?_; clear hK K) | (refine Zag.zag_read [0, 1, 2, 3, 4, 5, 9, 10, 11, 12, 16, 17, 19, 20] rfl rfl (by kernel_rfl) rfl (fun K hK => ?_); go_simp; refine hK _ ?_; clear hK K))
                          refine Zag.zag_branch [21] rfl ?_
                          refine Zag.each_end rfl rfl (by kernel_rfl) (fun K hK => ?_) Zag.each_nil
                          unfold Oper.wp
                          go_simp
                          refine hK _ _ ?_
                          clear hK K
                          refine Zag.zag_nil ?_
                          generalize World.setCell (World.setCell X15 ⟨wo.heap.size, 0, none⟩ _) ⟨wo.heap.size, 1, none⟩ _ = Xz at *
                          clear q0 f0 q1 f1 ss fr
                          go_wp2_with fail
                          go_roundw
                          case rel => exact inner_step hjm R0' hdr Rz Sz hB hb2 (by go_num)
                          case measure => simp only [intOf]; omega
                        exact Zag.each_nil
                      exact Zag.each_nil
                    exact Zag.each_nil
                  exact Zag.each_nil
                exact Zag.each_nil
              exact Zag.each_nil
            · have hjI : ¬ (j : Int) < (m : Int) := by omega
              obtain rfl : j = m := by omega
              have N2 := N.below hb2
              have c4 := N2.cl
              have hapt : ∀ k, Blk (rgN wo.heap.size vs vu) k → ¬ FP w.heap.size vl rs k := fun k hk hf => by
                have := hB k hk
                have := N.lt hf
                omega
              have hl2 : rs.length ≤ 100000 := by
                have := N.len
                unfold newD at this
                simp only [List.length_map, List.length_take] at this
                omega
              have bg : Below wr.heap.size wr (wr.alloc (.cells #[ptr wo.heap.size] 79)) := below_new _ _
              have dg := (RowAt.new wr 79 #[ptr wo.heap.size]).cell 0 _ rfl
              have N3 := N2.below bg
              have R3 := R0'.below bg
              go_wp2_with (at_builtin; go_loud (refine wp_want rfl fun K hK => ?_; refine wp_appP vl rs.length _ wo.heap.size wr.heap.size hl2 N3.own dg rfl rfl rfl ?_))
              intro v5 W5 o5 t5
              refine hK _ _ ?_
              clear hK K
              obtain ⟨P1, P2, P3, P4, P5, P6⟩ := N3.push (rgN wo.heap.size vs vu) (newR j) R3 hapt v5 t5.frm t5.2 o5
              obtain ⟨av, cv, ev, _⟩ := Rd.of_own1 o5
              subst ev
              have P4 : W5.cell? ⟨w.heap.size, 0, none⟩ = some vl := P4
              have hs5 := hb.size
              have hs6 := hb2.size
              have hs7 := bg.size
              have Bz : Below w.heap.size w (W5.setCell ⟨w.heap.size, 0, none⟩ (.slice av (rs.length + 1) cv)) := by
                have := P2.below w.heap.size (fun j hj hF => hF.elim (fun e => by omega) fun e => hN j (.inr (.inl e))) (by omega)
                exact ((hb.trans (hb2.mono hb.size)).trans (bg.mono (by omega))).trans this
              have Fz : ∀ j, FP w.heap.size (.slice av (rs.length + 1) cv) (rs ++ [rgN wo.heap.size vs vu]) j → w.heap.size ≤ j := fun j hj => by
                rcases P6 j hj with e | e | e
                · exact hN j e
                · have := hB j e; omega
                · omega
              go_wp2_with fail
              generalize World.setCell W5 ⟨w.heap.size, 0, none⟩ _ = Wz at *
              go_roundw
              case rel =>
                refine ⟨k + 1, _, _, by omega, by go_num, ?_, ?_, Fz, Bz⟩
                · intro n hn
                  rw [hts.out] at hn
                  rcases List.mem_append.1 hn with h | h
                  · exact hok n h
                  · rw [List.mem_singleton.1 h]; omega
                · rw [hts.out]
                  unfold newD at P1 ⊢
                  simpa using P1
              case measure => simp only [intOf]; omega
        · have hno : ¬ okS l := fun h => hn (h.2.2 n hmem)
          have hbad : n < 1 ∨ (1 ≤ n ∧ 1000 < n) := by omega
          clear hn
          rcases hbad with hbad | ⟨hbad1, hbad2⟩
          all_goals
            go_wp2_with fail
            go_ret2
            exact .inr ⟨hno, rfl, hb⟩
      · have hlI : ¬ (k : Int) < (l.length : Int) := by omega
        rw [List.take_of_length_le (by omega)] at hok N
        go_wp2_with fail
        go_ret2
        exact .inl ⟨⟨hl1, hl2, hok⟩, _, rfl, ⟨vl, rs, N, hN⟩, Nat.le_refl _, hb⟩
  · have hno : ¬ okS l := fun h => hl8 ⟨h.1, h.2.1⟩
    have hbad : l.length < 1 ∨ (1 ≤ l.length ∧ 8 < l.length) := by omega
    clear hl8
    rcases hbad with hbad | ⟨hbad1, hbad2⟩
    · have i1 : (l.length : Int) < 1 := by omega
      go_enter Try.func13, Try.ntmps13
      go_wp2_with fail
      go_ret2
      exact .inr ⟨hno, rfl, Below.refl _ _⟩
    · have i1 : ¬ (l.length : Int) < 1 := by omega
      have i2 : (8 : Int) < (l.length : Int) := by omega
      go_enter Try.func13, Try.ntmps13
      go_wp2_with fail
      go_ret2
      exact .inr ⟨hno, rfl, Below.refl _ _⟩
end Go.Proofs.Ytbagicjimfhmeaa.Cl
