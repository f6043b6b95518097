/- The law AreaAll. -/
import Derived.Test.YtojebhpjllkdpaaArea3
set_option linter.unusedVariables false
set_option linter.unusedSimpArgs false
namespace Go.Proofs.Ytojebhpjllkdpaa.Cl
open Go Go.Proofs Go.RowKit Fl Rely

theorem info4 : (Try.prog.info? 4).map (fun i => (i.zero, i.size, i.bytes)) = some (some (.bool false), 1, 1) := by kernel_rfl

theorem wpList_want {P : Program} {ops : Array Oper} {Q : Exit → Act → World → Prop} {a : Act} {w : World} {rest : List Oper} {o : Oper} (hw : Region.wanted o (yielded ops a.tmps) = true)
    (h : ∀ K : Act → World → Prop, (∀ a w, wpList P ops Q rest a w → K a w) → o.wp P a w K Q) : wpList P ops Q (o :: rest) a w := by
  simp only [wpList]
  rw [if_pos hw]
  exact .inl (h _ fun _ _ h => h)
theorem rd_of_own {w : World} {B : Nat} {cv : Value} {c : List Sh} (h : w.ownsRow B 54 5 cv c.length (shCells c)) : RdC w cv c := by
  rcases h.2 with ⟨h0, h1⟩ | ⟨k, cap, cur, hv, hb, hr, h1, h2, h3, h4⟩
  · exact ⟨none, 0, by rw [h0, h1], by omega, by omega, fun h => by omega⟩
  · subst hv
    refine ⟨_, cap, rfl, h1, by unfold maxLen at h2; omega, fun _ => ⟨k, 0, rfl, fun j hj i hi => ?_⟩⟩
    rw [Nat.zero_add, Joins.cell_of_block hr, ← shCells_get c j i hj hi, ← h4, List.getElem?_take, if_pos (by omega), Array.getElem?_toList]
theorem rowAt_neg (a n : Int) : rowAt a n (-1) = -1 := by unfold rowAt; rw [if_pos (.inl (by omega))]
theorem rowAt_in (a n i : Int) (h : 0 ≤ i) (h2 : i < n) : rowAt a n i = a + i := by unfold rowAt; rw [if_neg (by omega)]
theorem rowAt_out (a n i : Int) (h2 : n ≤ i) : rowAt a n i = -1 := by unfold rowAt; rw [if_pos (.inr h2)]
/-- which blocks have been told behind j rounds -/
def usedAt (nl j m : Nat) : Bool := decide (m < 2 ∨ (m < 2 + nl ∧ m < j + 1) ∨ (2 + nl ≤ m ∧ m < j + 1 + nl))
theorem used01 (nl m : Nat) : usedAt nl 0 m = usedAt nl 1 m := by
  unfold usedAt
  rw [decide_eq_decide]
  omega
theorem used_set {ys : List Value} {n i : Nat} {p q : Nat → Bool} (hl : ys.length = n) (h : ∀ m, m < n → ys[m]? = some (.bool (p m))) (hq : ∀ m, m < n → q m = (decide (m = i) || p m)) (hi : i < n) :
    ∀ m, m < n → (ys.set i (.bool true))[m]? = some (.bool (q m)) := by
  intro m hm
  rw [List.getElem?_set]
  by_cases hmi : i = m
  · subst hmi
    rw [if_pos rfl, if_pos (by omega), hq i hm, decide_eq_true rfl]
    rfl
  · rw [if_neg hmi, h m hm, hq m hm, decide_eq_false (fun h => hmi h.symm)]
    rfl
theorem used_keep {nl j m : Nat} (h : (m < 2 ∨ (m < 2 + nl ∧ m < j + 2) ∨ (2 + nl ≤ m ∧ m < j + 2 + nl)) ↔ (m < 2 ∨ (m < 2 + nl ∧ m < j + 1) ∨ (2 + nl ≤ m ∧ m < j + 1 + nl))) : usedAt nl (j + 1) m = usedAt nl j m := by
  unfold usedAt
  rw [decide_eq_decide]
  omega
theorem used_more {nl j m i : Nat} (h : (m < 2 ∨ (m < 2 + nl ∧ m < j + 2) ∨ (2 + nl ≤ m ∧ m < j + 2 + nl)) ↔ (m = i ∨ m < 2 ∨ (m < 2 + nl ∧ m < j + 1) ∨ (2 + nl ≤ m ∧ m < j + 1 + nl))) : usedAt nl (j + 1) m = (decide (m = i) || usedAt nl j m) := by
  unfold usedAt
  rw [← Bool.decide_or, decide_eq_decide]
  omega
theorem used_more2 {nl j m i k : Nat} (h : (m < 2 ∨ (m < 2 + nl ∧ m < j + 2) ∨ (2 + nl ≤ m ∧ m < j + 2 + nl)) ↔ (m = k ∨ m = i ∨ m < 2 ∨ (m < 2 + nl ∧ m < j + 1) ∨ (2 + nl ≤ m ∧ m < j + 1 + nl))) : usedAt nl (j + 1) m = (decide (m = k) || (decide (m = i) || usedAt nl j m)) := by
  unfold usedAt
  rw [← Bool.decide_or, ← Bool.decide_or, decide_eq_decide]
  omega
theorem cell_set_other {w : World} {a b : Addr} {v x : Value} (h : w.cell? a = some v) (hne : a.block ≠ b.block) : (w.setCell b x).cell? a = some v := by
  rw [World.cell?_setCell_other (h := fun h => hne (by rw [h]))]
  exact h
theorem refSize_any (v c b l f : Int) (w : World) (hb : b.natAbs < 2 ^ 50) (hl : l.natAbs < 2 ^ 50) :
    Calls Try.prog 32 #[shareV v c b l f] w fun e w' => e = .returned (.int .i64 (2 + l + b)) ∧ Below w.heap.size w w' := by
  have e1 : wrap64 (2 + l) = 2 + l := IntWalk.wrap64_in _ (by omega)
  have e2 : wrap64 (2 + l + b) = 2 + l + b := IntWalk.wrap64_in _ (by omega)
  go_enter Try.func32, Try.ntmps32
  go_wp2
  go_returns
  exact ⟨rfl, by go_grown⟩
theorem below_of_grownBy {B g : Nat} {w w' : World} (h : w.grownBy w' (some g)) (hg : B ≤ g) (hB : B ≤ w.heap.size) : Below B w w' :=
  (Below.refl B w).grown h hB (fun k hk => by simp at hk; omega)

set_option maxRecDepth 100000 in
set_option maxHeartbeats 4000000 in
theorem areaAll_law (v : Value) (l : List UInt8) (ep : Nat) (w : World) (hep : ep < 4294967296) (hv : Rd w v (bs l)) :
    Calls Try.prog 10 #[v, .int .u32 ep] w fun e w' => e = .returned (.bool true) ∧ Below w.heap.size w w' := by
  obtain ⟨ad, cap, rfl, hc1, hc2, _, _⟩ := id hv
  rw [List.length_map] at *
  by_cases hl : l.length ≤ 60
  · go_enter Try.func10, Try.ntmps10
    go_wp2_with fail
    refine (areaBegun_any _).mono ?_
    rintro e w1 ⟨rfl, hb1⟩
    go_wp2_with fail
    refine (made_any _ l _ (hv.below hb1)).mono ?_
    rintro e w2 ⟨rfl, hpk, hb2, hsz⟩
    have hb2 := hb1.trans (hb2.mono hb1.size)
    go_wp2_with fail
    refine (config_any _ 0 8 _ l _ hpk (by decide) (by decide)).mono ?_
    rintro e w3 ⟨cv, c, rfl, hcfg, hc1, hc8, _, hg3⟩
    have hb3 : Below w.heap.size w w3 := hb2.trans (below_of_grownBy hg3 hb1.size hb2.size)
    go_wp2_with fail
    refine (sizes_any cv c _ hcfg.rd (hcfg.confOK hc1 hc8) hcfg.ok hc8).mono ?_
    rintro e w4 ⟨u, rfl, hown4, hb4⟩
    have hcfg4 := hcfg.grown (grown_of_below hb4 (some w1.heap.size)) hsz
    have hs24 : w2.heap.size ≤ w4.heap.size := Nat.le_trans hg3.size hb4.size
    have hb4 := hb3.trans (hb4.mono hb3.size)
    obtain ⟨gb, capc, rfl⟩ := Joins.ownsRow_form hcfg4.own hc1
    obtain ⟨gu, capu, rfl⟩ := Joins.ownsRow_form hown4 hc1
    go_wp2_with fail
    go_loopw [7] (fun i wr => ∃ k : Nat, k ≤ c.length ∧ i = .int .i64 k ∧ Below w4.heap.size w4 wr) (fun i _ => c.length - (intOf i).toNat)
    case atStart => exact ⟨0, Nat.zero_le _, rfl, Below.refl _ _⟩
    case round =>
      obtain ⟨k, hk, rfl, hb5⟩ := hrel
      by_cases hlt : k < c.length
      · have qu := cell_later hb5 (show w4.cell? ⟨gu, k, none⟩ = some (.int .i64 (2 + c[k].l + c[k].b)) from by
          rw [hown4.cellAt k (by omega)]
          simp [sizes, sizeOf, hlt])
        have q0 := cell_later hb5 (show w4.cell? ⟨gb, k * 5, none⟩ = some (.int .i64 c[k].v) from hcfg4.cell k 0 hlt (by decide))
        have q1 := cell_later hb5 (show w4.cell? ⟨gb, k * 5 + 1, none⟩ = some (.int .i64 c[k].c) from hcfg4.cell k 1 hlt (by decide))
        have q2 := cell_later hb5 (show w4.cell? ⟨gb, k * 5 + 2, none⟩ = some (.int .i64 c[k].b) from hcfg4.cell k 2 hlt (by decide))
        have q3 := cell_later hb5 (show w4.cell? ⟨gb, k * 5 + 3, none⟩ = some (.int .i64 c[k].l) from hcfg4.cell k 3 hlt (by decide))
        have q4 := cell_later hb5 (show w4.cell? ⟨gb, k * 5 + 4, none⟩ = some (.int .i64 c[k].f) from hcfg4.cell k 4 hlt (by decide))
        have hxok := hcfg4.ok c[k] (List.getElem_mem hlt)
        generalize c[k] = x at *
        obtain ⟨nl, hnl⟩ : ∃ n : Nat, x.l = (n : Int) := ⟨x.l.toNat, by have := hxok.2.2.2.1; omega⟩
        obtain ⟨nb, hnb⟩ : ∃ n : Nat, x.b = (n : Int) := ⟨x.b.toNat, by have := hxok.2.2.1; omega⟩
        have hn200 : nl ≤ 100 ∧ nb ≤ 100 := by have := hxok.2.2.2.1; have := hxok.2.2.1; omega
        rw [hnl] at q3 qu
        rw [hnb] at q2 qu
        have Hnl := Lib.hid hnl
        have Hnb := Lib.hid hnb
        clear hnl hnb
        have hkl : (k : Int) < (c.length : Int) := by omega
        have hbl : (nb : Int).natAbs < 2 ^ 50 := by omega
        have hll : (nl : Int).natAbs < 2 ^ 50 := by omega
        go_wp2_with fail
        refine at_wp fun w6 hw6 => ?_
        have hx := (Box5.new wr x.v x.c nb nl x.f 54)
        have hb6 : Below wr.heap.size wr w6 := by rw [hw6]; exact below_new _ _
        rw [← hw6] at hx
        have qu := cell_later hb6 qu
        have hb6 := hb5.trans (hb6.mono hb5.size)
        clear hw6 q0 q1 q2 q3 q4
        have yu := fun x : Lat w6.drew => cell_later x.2 (show w6.drew.cell? _ = _ from qu)
        have y0 := fun x : Lat w6.drew => cell_later x.2 (show w6.drew.cell? _ = _ from hx.1)
        have y1 := fun x : Lat w6.drew => cell_later x.2 (show w6.drew.cell? _ = _ from hx.2.1)
        have y2 := fun x : Lat w6.drew => cell_later x.2 (show w6.drew.cell? _ = _ from hx.2.2.1)
        have y3 := fun x : Lat w6.drew => cell_later x.2 (show w6.drew.cell? _ = _ from hx.2.2.2.1)
        have y4 := fun x : Lat w6.drew => cell_later x.2 (show w6.drew.cell? _ = _ from hx.2.2.2.2)
        have hb6 := hb6.drew
        have hx : Box5 w6.drew wr.heap.size x.v x.c nb nl x.f := hx
        have qu : w6.drew.cell? _ = _ := qu
        have HS1 := Lib.hid (fun w => size_any x.v x.c nb nl x.f w hbl hll)
        have HS2 := Lib.hid (fun w => refSize_any x.v x.c nb nl x.f w hbl hll)
        refine wp_region_rely 16 (by kernel_rfl) (by kernel_rfl) ?_
        simp only [List.take_succ_cons, List.take_zero]
        generalize World.drew w6 = w7 at *
        repeat (first
          | (refine wpR_step0 ?_ ?_ (fun K hK => ?_); rfl; rfl; go_simp; refine hK _ ?_; clear hK K)
          | (refine wpR_step0 ?_ ?_ (fun K hK => ?_); rfl; rfl; go_simp; apply Exists.intro; refine ⟨fun x => ?_, hK _ ?_⟩; (first | (go_at_call 33; with_reducible exact HS1.out _) | (go_at_call 32; with_reducible exact HS2.out _)); clear hK K))
        refine wpR_nil fun x => ?_
        obtain ⟨w8, w8b⟩ := x
        simp only [close, List.drop_succ_cons, List.drop_zero]
        clear yu y0 y1 y2 y3 y4
        have hx := hx.below w8b
        have qu := cell_later w8b qu
        have hb8 := hb6.trans (w8b.mono hb6.size)
        obtain ⟨ib, hib, hzb, hsb, hbb⟩ := info_parts info4
        go_wp2_with (at_make; refine wpList_make_full _ rfl _ _ 56 rfl w8.heap.size 4 ib (.bool false) 1 Try.underlying56 hib hzb hsb _ _ (2 + (nl : Int) + nb) (2 + (nl : Int) + nb) (2 + nl + nb) rfl rfl (by omega) (by omega) (by rw [hbb]; omega) (by unfold maxLen; omega) (Nat.le_refl _) ?_)
        intro w9 hown9 hgr9
        have hb9 := below_of_grown hgr9
        clear hgr9
        generalize hxs : (madeCells _ _).toList = xs at hown9
        have hxl : xs.length = 2 + nl + nb := by simpa using hown9.1
        have z0 := hown9.cellAt 0 (by omega)
        have z1 := hown9.cellAt 1 (by omega)
        rw [List.getElem?_eq_getElem (by omega)] at z0 z1
        have f0 := hown9.frozenAt 0
        have f1 := hown9.frozenAt 1
        have hxf : xs = List.replicate (2 + nl + nb) (.bool false) := by rw [← hxs]; exact toList_madeCells_one _ _
        clear hxs
        replace hxf := Lib.hid hxf
        go_wp2_with fail
        refine at_wp fun w10 hw10 => ?_
        obtain ⟨hown10, hb10⟩ : (w10.ownsRow w8.heap.size 4 1 (.slice (some ⟨w8.heap.size, 0, none⟩) (2 + nl + nb) (2 + nl + nb)) (2 + nl + nb) ((xs.set 0 (.bool true)).set 1 (.bool true))) ∧ Below w8.heap.size w8 w10 := by
          rw [hw10]
          exact ⟨((hown9.stored 0 _).1.stored 1 _).1, (hb9.setCell (Nat.le_refl _) _).setCell (Nat.le_refl _) _⟩
        clear hw10 z0 z1 f0 f1 hown9
        have hb10' := hb8.trans (hb10.mono hb8.size)
        have h68 := block_lt_of_cell hx.1
        go_loopw [10] (fun i wr' => ∃ (j : Nat) (ys : List Value), j ≤ nl + nb + 2 ∧ i = .int .i64 ((j : Int) - 1) ∧ wr'.ownsRow w8.heap.size 4 1 (.slice (some ⟨w8.heap.size, 0, none⟩) (2 + nl + nb) (2 + nl + nb)) (2 + nl + nb) ys ∧ (∀ m, m < 2 + nl + nb → ys[m]? = some (.bool (usedAt nl j m))) ∧ Below w8.heap.size w8 wr') (fun i _ => (nl + nb + 2) - (intOf i + 1).toNat)
        case atStart =>
          refine ⟨0, _, by omega, rfl, hown10, ?_, hb10⟩
          rw [hxf.out]
          refine used_set (p := fun m => decide (m = 0)) (by simp) (used_set (p := fun _ => false) (by simp) (fun m hm => by simp [hm]) (fun m hm => by simp) (by omega)) (fun m hm => ?_) (by omega)
          unfold usedAt
          rw [← Bool.decide_or, decide_eq_decide]
          omega
        case round =>
          obtain ⟨j, ys, hj, rfl, hown11, hys, hb11⟩ := hrel
          have hx11 := hx.below hb11
          by_cases hjl : j < nl + nb + 2
          · obtain ⟨q, hq⟩ : ∃ q : Int, (j : Int) - 1 = q := ⟨_, rfl⟩
            rw [hq]
            have Hq := Lib.hid hq
            have e5 : IntKind.i64.wrap ((nl : Int) + (nb : Int)) = (nl : Int) + (nb : Int) := IntWalk.i64_in _ (by omega)
            have hkn : q ≤ (nl : Int) + (nb : Int) := by omega
            have HL := fun w => log_any x.v x.c nb nl x.f q w hll
            have HH := fun w => home_any x.v x.c nb nl x.f q w hbl hll
            clear hq
            obtain ⟨lv, hlv⟩ : ∃ lv : Int, rowAt 2 nl q = lv := ⟨_, rfl⟩
            obtain ⟨hv, hhv⟩ : ∃ hv : Int, rowAt (2 + nl) nb q = hv := ⟨_, rfl⟩
            simp only [hlv] at HL
            simp only [hhv] at HH
            replace HL := Lib.hid HL
            replace HH := Lib.hid HH
            replace hlv := Lib.hid hlv
            replace hhv := Lib.hid hhv
            obtain ⟨c0, c1, c2, c3, c4⟩ := id hx11
            go_wp2_with fail
            clear c0 c1 c2 c3 c4
            have hdr := (Below.refl wr.heap.size wr).drew
            have y0 := fun x : Lat wr.drew => cell_later x.2 (show wr.drew.cell? _ = _ from hx11.1)
            have y1 := fun x : Lat wr.drew => cell_later x.2 (show wr.drew.cell? _ = _ from hx11.2.1)
            have y2 := fun x : Lat wr.drew => cell_later x.2 (show wr.drew.cell? _ = _ from hx11.2.2.1)
            have y3 := fun x : Lat wr.drew => cell_later x.2 (show wr.drew.cell? _ = _ from hx11.2.2.2.1)
            have y4 := fun x : Lat wr.drew => cell_later x.2 (show wr.drew.cell? _ = _ from hx11.2.2.2.2)
            refine wp_region_rely 7 (by kernel_rfl) (by kernel_rfl) ?_
            simp only [List.take_succ_cons, List.take_zero]
            generalize World.drew wr = wa at *
            repeat (first
              | (refine wpR_step0 ?_ ?_ (fun K hK => ?_); rfl; rfl; go_simp; refine hK _ ?_; clear hK K)
              | (refine wpR_step0 ?_ ?_ (fun K hK => ?_); rfl; rfl; go_simp; apply Exists.intro; refine ⟨fun x => ?_, hK _ ?_⟩; (first | (go_at_call 34; with_reducible exact HL.out _) | (go_at_call 35; with_reducible exact HH.out _)); clear hK K))
            refine wpR_nil fun x => ?_
            obtain ⟨wb, wbb⟩ := x
            simp only [close, List.drop_succ_cons, List.drop_zero]
            clear y0 y1 y2 y3 y4
            have hown12 := own_below (own_below hown11 hdr) wbb
            have hyl : ys.length = 2 + nl + nb := by simpa using hown12.1
            have hb12 := hb11.trans ((hdr.trans (wbb.mono hdr.size)).mono hb11.size)
            obtain ⟨c0, c1, c2, c3, c4⟩ := (hx11.below hdr).below wbb
            clear hx11
            have hq := Hq.out
            clear HL HH Hq
            replace hlv := hlv.out
            replace hhv := hhv.out
            rcases Nat.eq_zero_or_pos j with rfl | hjp
            · obtain rfl : q = -1 := by omega
              rw [rowAt_neg] at hlv hhv
              subst hlv hhv
              go_wp2_with fail
              go_roundw
              case rel => exact ⟨1, ys, by omega, rfl, hown12, fun m hm => used01 nl m ▸ hys m hm, hb12⟩
              case measure => simp only [intOf]; omega
            · obtain ⟨kk, rfl⟩ : ∃ n, j = n + 1 := ⟨j - 1, by omega⟩
              obtain rfl : q = (kk : Int) := by omega
              have e2 : IntKind.i64.wrap (2 + (kk : Int)) = 2 + (kk : Int) := IntWalk.i64_in _ (by omega)
              have e3 : IntKind.i64.wrap (2 + (nl : Int)) = 2 + (nl : Int) := IntWalk.i64_in _ (by omega)
              have e4 : IntKind.i64.wrap (2 + (nl : Int) + (kk : Int)) = 2 + (nl : Int) + (kk : Int) := IntWalk.i64_in _ (by omega)
              by_cases hA : kk < nl
              · by_cases hB : kk < nb
                · rw [rowAt_in 2 nl kk (by omega) (by omega)] at hlv
                  rw [rowAt_in (2 + nl) nb kk (by omega) (by omega)] at hhv
                  subst hlv hhv
                  have hk0 : ¬ ((kk : Int) < 0) := by omega
                  have nA : ¬ (nl ≤ kk) := by omega
                  have nB : ¬ (nb ≤ kk) := by omega
                  have bA : ((2 : Int) + (kk : Int) == -1) = false := by rw [beq_eq_false_iff_ne]; omega
                  have bA' : ((2 : Int) + (kk : Int) != -1) = true := by rw [bne_iff_ne]; omega
                  have bB : ((2 : Int) + (nl : Int) + (kk : Int) == -1) = false := by rw [beq_eq_false_iff_ne]; omega
                  have bB' : ((2 : Int) + (nl : Int) + (kk : Int) != -1) = true := by rw [bne_iff_ne]; omega
                  have zA := hown12.cellAt (2 + kk) (by omega)
                  rw [hys _ (by omega), show usedAt nl (kk + 1) (2 + kk) = false from by simp [usedAt]; omega] at zA
                  have fA := hown12.frozenAt (2 + kk)
                  have hown13 := (hown12.stored (2 + kk) (.bool true)).1
                  have zB := hown13.cellAt (2 + nl + kk) (by omega)
                  rw [List.getElem?_set_ne (by omega), hys _ (by omega), show usedAt nl (kk + 1) (2 + nl + kk) = false from by simp [usedAt]; omega] at zB
                  have fB := hown13.frozenAt (2 + nl + kk)
                  have g3 := cell_set_other (b := ⟨w8.heap.size, 2 + kk, none⟩) (x := .bool true) c3 (by show _ ≠ _; simp only; omega)
                  have nAB : ¬ (2 + kk = 2 + nl + kk) := by omega
                  have nBA : ¬ (2 + nl + kk = 2 + kk) := by omega
                  go_wp2_with fail
                  go_roundw
                  case rel => exact ⟨kk + 2, _, by omega, int_val (by omega), (hown13.stored (2 + nl + kk) (.bool true)).1, used_set (p := fun m => decide (m = 2 + kk) || usedAt nl (kk + 1) m) (by rw [List.length_set]; exact hyl) (used_set hyl hys (fun m hm => rfl) (by omega)) (fun m hm => used_more2 (by omega)) (by omega), (hb12.setCell (Nat.le_refl _) _).setCell (Nat.le_refl _) _⟩
                  case measure => simp only [intOf]; omega
                · rw [rowAt_in 2 nl kk (by omega) (by omega)] at hlv
                  rw [rowAt_out (2 + nl) nb kk (by omega)] at hhv
                  subst hlv hhv
                  have hk0 : ¬ ((kk : Int) < 0) := by omega
                  have nA : ¬ (nl ≤ kk) := by omega
                  have nB : nb ≤ kk := by omega
                  have bA : ((2 : Int) + (kk : Int) == -1) = false := by rw [beq_eq_false_iff_ne]; omega
                  have bA' : ((2 : Int) + (kk : Int) != -1) = true := by rw [bne_iff_ne]; omega
                  have zA := hown12.cellAt (2 + kk) (by omega)
                  rw [hys _ (by omega), show usedAt nl (kk + 1) (2 + kk) = false from by simp [usedAt]; omega] at zA
                  have fA := hown12.frozenAt (2 + kk)
                  go_wp2_with fail
                  go_roundw
                  case rel => exact ⟨kk + 2, _, by omega, int_val (by omega), (hown12.stored (2 + kk) (.bool true)).1, used_set hyl hys (fun m hm => used_more (by omega)) (by omega), hb12.setCell (Nat.le_refl _) _⟩
                  case measure => simp only [intOf]; omega
              · by_cases hB : kk < nb
                · rw [rowAt_out 2 nl kk (by omega)] at hlv
                  rw [rowAt_in (2 + nl) nb kk (by omega) (by omega)] at hhv
                  subst hlv hhv
                  have hk0 : ¬ ((kk : Int) < 0) := by omega
                  have nA : nl ≤ kk := by omega
                  have nB : ¬ (nb ≤ kk) := by omega
                  have bB : ((2 : Int) + (nl : Int) + (kk : Int) == -1) = false := by rw [beq_eq_false_iff_ne]; omega
                  have bB' : ((2 : Int) + (nl : Int) + (kk : Int) != -1) = true := by rw [bne_iff_ne]; omega
                  have zB := hown12.cellAt (2 + nl + kk) (by omega)
                  rw [hys _ (by omega), show usedAt nl (kk + 1) (2 + nl + kk) = false from by simp [usedAt]; omega] at zB
                  have fB := hown12.frozenAt (2 + nl + kk)
                  go_wp2_with fail
                  go_roundw
                  case rel => exact ⟨kk + 2, _, by omega, int_val (by omega), (hown12.stored (2 + nl + kk) (.bool true)).1, used_set hyl hys (fun m hm => used_more (by omega)) (by omega), hb12.setCell (Nat.le_refl _) _⟩
                  case measure => simp only [intOf]; omega
                · rw [rowAt_out 2 nl kk (by omega)] at hlv
                  rw [rowAt_out (2 + nl) nb kk (by omega)] at hhv
                  subst hlv hhv
                  have hk0 : ¬ ((kk : Int) < 0) := by omega
                  have nA : nl ≤ kk := by omega
                  have nB : nb ≤ kk := by omega
                  go_wp2_with fail
                  go_roundw
                  case rel => exact ⟨kk + 2, ys, by omega, int_val (by omega), hown12, fun m hm => by rw [used_keep (nl := nl) (j := kk + 1) (m := m) (by omega)]; exact hys m hm, hb12⟩
                  case measure => simp only [intOf]; omega
          · obtain rfl : j = nl + nb + 2 := by omega
            have e5 : IntKind.i64.wrap ((nl : Int) + (nb : Int)) = (nl : Int) + (nb : Int) := IntWalk.i64_in _ (by omega)
            have ek : ((nl + nb + 2 : Nat) : Int) - 1 = (nl : Int) + (nb : Int) + 1 := by omega
            rw [ek]
            have hkn : ¬ ((nl : Int) + (nb : Int) + 1 ≤ (nl : Int) + (nb : Int)) := by omega
            obtain ⟨c0, c1, c2, c3, c4⟩ := id hx11
            have hyl : ys.length = 2 + nl + nb := by simpa using hown11.1
            go_wp2_with fail
            go_loop [13] (fun i => ∃ m : Nat, m ≤ 2 + nl + nb ∧ i = .int .i64 m) (fun i => (2 + nl + nb) - (intOf i).toNat)
            case atStart => exact ⟨0, Nat.zero_le _, rfl⟩
            case round =>
              obtain ⟨m, hm, rfl⟩ := hrel
              by_cases hml : m < 2 + nl + nb
              · have zm := hown11.cellAt m (by omega)
                rw [hys _ (by omega), show usedAt nl (nl + nb + 2) m = true from by simp [usedAt]; omega] at zm
                have hmi : (m : Int) < 2 + (nl : Int) + (nb : Int) := by omega
                go_wp2_with fail
                go_round
                case rel => exact ⟨m + 1, by omega, by go_num⟩
                case measure => simp only [intOf]; omega
              · obtain rfl : m = 2 + nl + nb := by omega
                go_wp2_with fail
                go_roundw
                case rel => exact ⟨k + 1, by omega, by go_num, hb8.trans (hb11.mono hb8.size)⟩
                case measure => simp only [intOf]; omega
      · obtain rfl : k = c.length := by omega
        have hcfg5 := hcfg4.grown (grown_of_below hb5 (some w1.heap.size)) hsz
        have hs2r := Nat.le_trans hs24 hb5.size
        have hb5 := hb4.trans (hb5.mono hb4.size)
        go_wp2_with fail
        refine (anchor_any ep _ hep).mono ?_
        rintro e w6 ⟨rfl, rfl⟩
        have ee : ((ep % 2 : Nat) : Int) = (ep : Int) % 2 := by omega
        rw [ee]
        obtain ⟨i54, hi54, hz54, hs54, hb54⟩ := info_parts info54
        have hcfg6 := hcfg5.grown (grown_of_below (below_new wr (.cells #[.int .i64 0, .int .i64 0, .int .i64 0, .int .i64 0, .int .i64 0] 54)) (some w1.heap.size)) hsz
        go_wp2_with (at_builtin; refine wpList_want rfl fun K hK => ?_; refine wp_append_own _ _ _ 45 rfl w2.heap.size 54 i54 _ 5 40 Try.underlying45 hi54 hz54 hs54 hb54 rfl (by decide) _ c.length (shCells c) rfl hcfg6.own ⟨wr.heap.size, 0, none⟩ 1 1 (Sh.cells ⟨0, 0, 0, 0, 0⟩) rfl rfl (new_cells wr (Sh.cells ⟨0, 0, 0, 0, 0⟩).toArray _) (oneCell_sh _) (by unfold maxLen; omega) (by omega) ?_ ?_)
        · exact Nat.le_trans hs2r (le_new _ _)
        · intro cv' w7 hown7 hgr7 _
          have hb7 : Below w.heap.size w w7 := below_own (hb5.trans (below_mono (below_new _ _) hb5.size)) hgr7 (Nat.le_trans hb5.size (le_new _ _)) (fun k hk => Nat.le_trans hb2.size (own_ge hcfg6.own k hk))
          have hown8 : w7.ownsRow w2.heap.size 54 5 cv' (c ++ [(⟨0, 0, 0, 0, 0⟩ : Sh)]).length (shCells (c ++ [(⟨0, 0, 0, 0, 0⟩ : Sh)])) := by rw [shCells_snoc, List.length_append]; exact hown7
          refine hK _ _ ?_
          clear hK K
          go_wp2_with fail
          refine (sizesWrong_any _ _ _ (rd_of_own hown8) (confOK_wrong c _ (by decide))).mono ?_
          rintro e w8 ⟨rfl, hb8⟩
          go_wp2_with fail
          go_ret
          exact ⟨rfl, hb7.trans (hb8.mono hb7.size)⟩
  · have hl' : 60 < l.length := by omega
    go_enter Try.func10, Try.ntmps10
    go_wp2_with fail
    refine (areaBegun_any _).mono ?_
    rintro e w1 ⟨rfl, hb1⟩
    go_wp2_with fail
    go_ret
    exact ⟨rfl, hb1⟩
theorem areaAll_row (v : Value) (l : List UInt8) (n : Int) (w : World) (hv : Rd w v (bs l)) (h : (Lit.int .u32 n).wf = true) :
    Calls Try.prog 10 #[v, .int .u32 n] w fun e w' => e = .returned (.bool true) ∧ Below w.heap.size w w' := by
  obtain ⟨m, rfl, hm⟩ := wf_u32 h
  exact areaAll_law v l m w hm hv
end Go.Proofs.Ytojebhpjllkdpaa.Cl
