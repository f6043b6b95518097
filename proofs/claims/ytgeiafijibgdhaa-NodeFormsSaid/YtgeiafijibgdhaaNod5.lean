/- node: the document's MayNode. -/
import Derived.Test.YtgeiafijibgdhaaNod4
set_option linter.unusedVariables false
set_option linter.unusedSimpArgs false
namespace Go.Proofs.Ytgeiafijibgdhaa.Cl
open Go Go.Proofs Go.RowKit Fl Rely

def Nil0 (v : Value) (W : World) : Prop := ∃ g, v = .slice (some ⟨g, 0, none⟩) 0 0
theorem wp_int1 {w : World} {ops : Array Oper} {rest : List Oper} {o : Oper} {a : Act} {Q : Exit → Act → World → Prop} (B : Nat) (v u : Value) (l : List Int) (n : Int) (hgd : o.guard = none) (s x : Operand)
    (ho : o.op = .call { callee := .builtin .append, args := #[s, x], argTypes := #[39, 39] })
    (hs : a.eval s = v) (hx : a.eval x = u) (hown : IOwn w B v l) (hrd : Rd w u [.int .i64 n]) (hl : l.length ≤ 1000000) (hB : B ≤ w.heap.size)
    (h : ∀ v' w', IOwn w' B v' (l ++ [n]) → Below B w w' → wpList Try.prog ops Q rest (a.put o.dst v') w') : wpList Try.prog ops Q (o :: rest) a w := by
  obtain ⟨i3, hi3, hz3, hs3, hb3⟩ := info_parts infoInt
  refine wpList_append_rd hgd s x 39 ho B 3 i3 (.int .i64 0) 8 Try.underlying39 hi3 hz3 hs3 hb3 rfl v u l.length (ints l) [.int .i64 n] hs hx hown hrd (by intro u hu; simp at hu; subst hu; rfl) (by unfold maxLen; simp; omega) (by simp; omega) hB ?_
  intro v' w' r1 r2 r3
  refine h v' w' ?_ (below_own (Below.refl B _) r2 hB hown.ge)
  unfold IOwn ints
  rw [List.length_append, List.map_append]
  exact r1
theorem grow4 (w : World) (g h : Nat) (t ty : TypeId) (d0 d1 d2 d3 : Int) (ht : t = 39) (hA : ∀ j u, ([.int .i64 d0, .int .i64 d1, .int .i64 d2, .int .i64 d3] : List Value)[j]? = some u → w.cell? ⟨g, 3 + j, none⟩ = some u) :
    ∃ v' w', (Builtin.append_ #[t, t] ty #[.slice (some ⟨h, 0, none⟩) 0 0, .slice (some ⟨g, 3, none⟩) 4 4]).run Try.prog w = .ok v' w' ∧ IOwn w' w.heap.size v' [d0, d1, d2, d3] ∧ w.grownBy w' none := by
  subst ht
  obtain ⟨i3, hi3, hz3, hs3, hb3⟩ := info_parts infoInt
  obtain ⟨v', w', h1, h2, h3⟩ := run_append_arg_grows (P := Try.prog) w 39 ty 3 i3 (.int .i64 0) 1 8 Try.underlying39 hi3 hz3 hs3 hb3 rfl (by decide) ⟨h, 0, none⟩ 0 0 [] rfl (fun j u hj => by simp at hj) ⟨g, 3, none⟩ 4 4 [.int .i64 d0, .int .i64 d1, .int .i64 d2, .int .i64 d3] rfl (fun j u hj => by rw [Addr.add_mid]; exact hA j u hj) (by decide) (by decide) (by decide)
  exact ⟨v', w', h1, h2, h3⟩

theorem fresh_append {w w' : World} {o : Oper} {a : Act} {s x : Operand} {t t' : TypeId} {φ : Value → World → Prop} (ho : o.op = .call { callee := .builtin .append, args := #[s, x], argTypes := #[t, t'] })
    {v u v' : Value} (hs : a.eval s = v) (hx : a.eval x = u) (hr : (Builtin.append_ #[t, t'] o.type #[v, u]).run Try.prog w = .ok v' w') (hb : Below w.heap.size w w') (h : φ v' w') : RelyT.freshR Try.prog w φ ((execOp a.eval o).run Try.prog w) := by
  simp [execOp, ho, resolve, invoke, builtin, hs, hx, hr, Result.andThen, RelyT.freshR]
  exact ⟨hb, h⟩
set_option maxRecDepth 100000 in
set_option maxHeartbeats 4000000 in
theorem refMayNode_any (kind : Int) (n : Nd) (w : World) (ok : NdOk n) :
    Calls Try.prog 21 #[.int .i64 kind, ndV n] w fun e w' => e = .returned (.bool (decide (mayN kind n))) ∧ Below w.heap.size w w' := by
  have hS := fun w => mayTarget_any n.s w ok.s
  have hdef : mayN kind n ↔ (1 ≤ n.g ∧ 0 ≤ n.k ∧ n.k ≤ 1000) ∧ ((kind = 1 ∧ (plOk (placesN n) ∧ 0 ≤ n.z ∧ n.z ≤ 1120 ∧ n.s = [])) ∨ (kind = 2 ∧ n.z = 0 ∧ bareP (placesN n) ∧ n.s = [] ∧ n.k ≤ 1) ∨ (kind = 3 ∧ signT n.s = true ∧ n.z = n.s.length ∧ bareP (placesN n))) := Iff.rfl
  have hbp : ∀ l, bareP l → plOk l := fun l h j hj => .inl (h _ (List.getElem_mem hj))
  have hnp : ¬ plOk (placesN n) → decide (mayN kind n) = false := fun h => decide_eq_false fun h' => h (by
    rcases (hdef.1 h').2 with k | k | k
    · exact k.2.1
    · exact hbp _ k.2.2.1
    · exact hbp _ k.2.2.2)
  have hl5 : (placesN n).length = 5 := rfl
  have hpl : placesN n = [n.d0, n.d1, n.d2, n.d3] ++ [n.x] := rfl
  have Hd := Lib.hid hdef
  clear hdef hbp
  go_enter Try.func21, Try.ntmps21
  go_wp2_with (refine wp_want rfl fun K hK => ?_; refine wp_rw_box (P := Try.prog) (t := 25) (ndA n) rfl rfl ?_)
  intro w1 A1 b1 s1
  refine hK _ _ ?_
  clear hK K
  have z0 := A1.cell 0 (.int .u32 n.g) rfl
  have z1 := A1.cell 1 (.int .i64 n.k) rfl
  have hhead : n.g < 1 ∨ (1 ≤ n.g ∧ n.k < 0) ∨ (1 ≤ n.g ∧ 0 ≤ n.k ∧ 1000 < n.k) ∨ (1 ≤ n.g ∧ 0 ≤ n.k ∧ n.k ≤ 1000) := by omega
  rcases hhead with g1 | ⟨g1, g2⟩ | ⟨g1, g2, g3⟩ | ⟨g1, g2, g3⟩
  case inr.inr.inr =>
    have hdr : Below w.heap.size w w1.drew := b1.drew
    have A1d := A1.drew
    have c4 := fun y : RelyT.Lat w1.drew => cell_later y.2 (A1d.cell 7 (.int .i64 n.x) rfl)
    have hcs : ∀ y : RelyT.Lat w1.drew, ∀ j u, ([.int .i64 n.d0, .int .i64 n.d1, .int .i64 n.d2, .int .i64 n.d3] : List Value)[j]? = some u → y.1.cell? ⟨w.heap.size, 3 + j, none⟩ = some u := fun y j u hj => by
      refine cell_later y.2 (A1d.cell (3 + j) u ?_)
      have hj4 : j < 4 := (List.getElem?_eq_some_iff.1 hj).1
      match j, hj4 with
      | 0, _ => exact hj
      | 1, _ => exact hj
      | 2, _ => exact hj
      | 3, _ => exact hj
    go_wp2_with fail
    refine RelyT.wp_region_rely 7 (by kernel_rfl) (by kernel_rfl) ?_
    simp only [List.take_succ_cons, List.take_zero]
    generalize World.drew w1 = wd at *
    repeat (first
      | (refine RelyT.wpR_step0 ?_ ?_ (fun K hK => ?_); rfl; rfl; go_simp; refine hK _ ?_; clear hK K))
    refine RelyT.wpR_fresh Nil0 22 rfl rfl rfl rfl (of_decide_eq_true rfl) (fun v W W' h _ => h) (fun y => ?_) ?_
    · go_simp
      exact ⟨below_new _ _, _, rfl⟩
    repeat (first
      | (refine RelyT.wpR_step0 ?_ ?_ (fun K hK => ?_); rfl; rfl; go_simp; refine hK _ ?_; clear hK K))
    refine RelyT.wpR_freshE (fun v W => IOwn W wd.heap.size v [n.d0, n.d1, n.d2, n.d3]) 25 [(22, Nil0)] rfl rfl rfl rfl (of_decide_eq_true rfl) (fun v W W' h hb => h.below hb) (fun y => ?_) ?_
    · simp only [RelyT.close]
      rintro v22 ⟨h, rfl⟩
      obtain ⟨v', w', q1, q2, q3⟩ := grow4 y.1 w.heap.size h 39 39 n.d0 n.d1 n.d2 n.d3 rfl (hcs y)
      exact fresh_append rfl rfl rfl q1 ((Below.refl _ _).grown q3 (Nat.le_refl _) (fun k hk => by cases hk)) (own_mono q2 y.2.size)
    repeat (first
      | (refine RelyT.wpR_step0 ?_ ?_ (fun K hK => ?_); rfl; rfl; go_simp; refine hK _ ?_; clear hK K))
    refine RelyT.wpR_fresh (One n.x) 28 rfl rfl rfl rfl (of_decide_eq_true rfl) (persist_one _) (fun y => ?_) ?_
    · go_simp
      exact ⟨below_new _ _, _, rfl, RowAt.cell (RowAt.new _ _ _) 0 _ rfl⟩
    refine RelyT.wpR_nil fun x => ?_
    obtain ⟨we, web⟩ := x
    simp only [RelyT.close, List.drop_succ_cons, List.drop_zero]
    rintro v28 ⟨h28, rfl, c28⟩ v25 O25 v22 _
    simp only [Act.put, List.setIfInBounds_toArray, List.set_cons_zero, List.set_cons_succ]
    refine wp_int1 wd.heap.size _ _ _ n.x rfl _ _ rfl rfl rfl O25 (one_rd c28) (by simp) web.size ?_
    intro u w5 O5 b5
    have W : Below w.heap.size w w5 := hdr.trans ((web.trans b5).mono hdr.size)
    rw [← hpl] at O5
    have A5 := A1d.later (web.trans b5)
    clear web b5 O25 c28 hcs c4 hpl
    obtain ⟨h, c, rfl, k1, k2, k3, k4⟩ := io_shape O5 hl5 (by decide)
    generalize placesN n = l at *
    go_wp2_with fail
    go_loopw [6, 7, 8] (fun b i _ wr => ∃ k : Nat, k ≤ 5 ∧ i = .int .i64 k ∧ b = .bool (decide (bareP (l.take k))) ∧ (∀ j (h : j < l.length), j < k → l[j] = -1 ∨ ((1 ≤ l[j] ∧ l[j] < 200) ∧ l[j] ∉ l.take j)) ∧ Below w5.heap.size w5 wr) (fun _ i _ _ => 5 - (intOf i).toNat)
    case atStart => exact ⟨0, by decide, rfl, rfl, fun j hj hj' => by omega, Below.refl _ _⟩
    case round =>
      obtain ⟨k, hk, rfl, rfl, hgood, hb⟩ := hrel
      by_cases hlt : k < 5
      · have hlI : (k : Int) < 5 := by omega
        have hts := take_snoc l k (by omega)
        have hck := O5.at_ k (by omega)
        have hgk : plOk l → _ := fun h => plOk_at h (show k < l.length by omega)
        have hst : (l[k]'(by omega) = -1 ∨ ((1 ≤ l[k]'(by omega) ∧ l[k]'(by omega) < 200) ∧ l[k]'(by omega) ∉ l.take k)) → (∀ j (h : j < l.length), j < k + 1 → l[j] = -1 ∨ ((1 ≤ l[j] ∧ l[j] < 200) ∧ l[j] ∉ l.take j)) := fun h j hj hjk => by
          by_cases hjk' : j < k
          · exact hgood j hj hjk'
          · obtain rfl : j = k := by omega
            exact h
        generalize l[k]'(by omega) = p at *
        have hbare : bareP (l.take (k + 1)) ↔ bareP (l.take k) ∧ p = -1 := by
          unfold bareP
          rw [hts]
          constructor
          · exact fun h => ⟨fun q hq => h q (List.mem_append_left _ hq), h p (by simp)⟩
          · rintro ⟨h1, h2⟩ q hq
            rcases List.mem_append.1 hq with h | h
            · exact h1 q h
            · rw [List.mem_singleton.1 h]; exact h2
        have Hst := Lib.hid hst
        have Hgk := Lib.hid hgk
        have Hbare := Lib.hid hbare
        clear hst hgk hbare hts hgood
        have hck1 := cell_later hb hck
        have hp : p = -1 ∨ (p ≠ -1 ∧ ¬ (1 ≤ p ∧ p < 200)) ∨ (p ≠ -1 ∧ (1 ≤ p ∧ p < 200)) := by omega
        rcases hp with hp | ⟨hp, hq⟩ | ⟨hp, hq⟩
        · have f1 : (p != -1) = false := by rw [bne_eq_false_iff_eq]; exact hp
          have f2 : (p == -1) = true := by rw [beq_iff_eq]; exact hp
          have hde : decide (bareP (l.take (k + 1))) = decide (bareP (l.take k)) := decide_eq_decide.2 (Hbare.out.trans ⟨fun h => h.1, fun h => ⟨h, hp⟩⟩)
          have Hp := Lib.hid hp
          have Hde := Lib.hid hde
          clear hp hde
          generalize decide (bareP (l.take k)) = bk at *
          cases bk
          all_goals
            go_wp2_with fail
            obtain ⟨wo, rfl⟩ : ∃ wo : World, wo = wr := ⟨_, rfl⟩
            go_loopw [8] (fun j wq => ∃ m : Nat, m ≤ k ∧ j = .int .i64 m ∧ Below w5.heap.size w5 wq) (fun j _ => k - (intOf j).toNat)
            case atStart => exact ⟨0, by omega, rfl, hb⟩
            case round =>
              clear hb hck1
              obtain ⟨m, hm, rfl, hb⟩ := hrel
              by_cases hmk : m < k
              · have hmI : (m : Int) < (k : Int) := by omega
                have hbd : Below w5.heap.size w5 wr.drew := hb.drew
                have x1 := fun y : Lat wr.drew => cell_later y.2 (cell_later hbd hck)
                go_wp2_with fail
                refine wp_region_rely 16 (by kernel_rfl) (by kernel_rfl) ?_
                simp only [List.take_succ_cons, List.take_zero]
                generalize World.drew wr = wd at *
                repeat (first
                  | (refine wpR_step0 ?_ ?_ (fun K hK => ?_); rfl; rfl; go_simp; refine hK _ ?_; clear hK K))
                refine wpR_nil fun x => ?_
                obtain ⟨we, web⟩ := x
                simp only [close, List.drop_succ_cons, List.drop_zero]
                go_wp2_with fail
                go_roundw
                case rel => exact ⟨m + 1, by omega, by go_num, hbd.trans (web.mono hbd.size)⟩
                case measure => simp only [intOf]; omega
              · have hmI : ¬ (m : Int) < (k : Int) := by omega
                go_wp2_with fail
                go_roundw
                case rel => exact ⟨k + 1, by omega, by go_num, by rw [Hde.out], Hst.out (.inl Hp.out), hb⟩
                case measure => simp only [intOf]; omega
        · have f1 : (p != -1) = true := by rw [bne_iff_ne]; exact hp
          have hmay : (decide (1 ≤ p) && decide (p < 200)) = false := by
            rw [Bool.and_eq_false_iff, decide_eq_false_iff_not, decide_eq_false_iff_not]; omega
          have hno := Lib.hid (hnp fun h => by
            rcases Hgk.out h with h | h
            · exact hp h
            · exact hq h.1)
          clear hp hq
          go_wp2_with fail
          refine (mayAt_any p _).mono ?_
          rintro e wq ⟨rfl, rfl⟩
          rw [hmay]
          go_wp2_with fail
          go_ret
          exact ⟨ret_bool hno.out.symm, W.trans (hb.mono W.size)⟩
        · have f1 : (p != -1) = true := by rw [bne_iff_ne]; exact hp
          have f2 : (p == -1) = false := by rw [beq_eq_false_iff_ne]; exact hp
          have hmay : (decide (1 ≤ p) && decide (p < 200)) = true := by
            rw [Bool.and_eq_true, decide_eq_true_iff, decide_eq_true_iff]; omega
          have hde : decide (bareP (l.take (k + 1))) = false := decide_eq_false fun h => hp (Hbare.out.1 h).2
          have Hde := Lib.hid hde
          have Hp := Lib.hid hp
          clear hp hde
          generalize decide (bareP (l.take k)) = bk at *
          go_wp2_with fail
          refine (mayAt_any p _).mono ?_
          rintro e wq ⟨rfl, rfl⟩
          rw [hmay]
          have hbk : (bk && false) = false := Bool.and_false bk
          cases bk
          all_goals
            go_wp2_with fail
            obtain ⟨wo, rfl⟩ : ∃ wo : World, wo = wr := ⟨_, rfl⟩
            go_loopw [8] (fun j wq => ∃ m : Nat, m ≤ k ∧ j = .int .i64 m ∧ p ∉ l.take m ∧ Below w5.heap.size w5 wq) (fun j _ => k - (intOf j).toNat)
            case atStart => exact ⟨0, by omega, rfl, by simp, hb⟩
            case round =>
              clear hb hck1
              obtain ⟨m, hm, rfl, hnm, hb⟩ := hrel
              by_cases hmk : m < k
              · have hmI : (m : Int) < (k : Int) := by omega
                have hmI5 : (m : Int) < 5 := by omega
                have hbd : Below w5.heap.size w5 wr.drew := hb.drew
                have htm := Lib.hid (take_snoc l m (by omega))
                have hcm := O5.at_ m (by omega)
                have hmem : l[m]'(by omega) ∈ l.take k := by
                  rw [List.mem_take_iff_getElem]
                  exact ⟨m, by omega, rfl⟩
                generalize l[m]'(by omega) = q at *
                have x1 := fun y : Lat wr.drew => cell_later y.2 (cell_later hbd hck)
                have x2 := fun y : Lat wr.drew => cell_later y.2 (cell_later hbd hcm)
                have hnm := Lib.hid hnm
                by_cases hqp : q = p
                · have f3 : (q == p) = true := by rw [beq_iff_eq]; exact hqp
                  have hno := Lib.hid (hnp fun h => by
                    rcases Hgk.out h with h | h
                    · exact Hp.out h
                    · exact h.2 (hqp ▸ hmem))
                  clear hqp hmem
                  go_wp2_with fail
                  refine wp_region_rely 16 (by kernel_rfl) (by kernel_rfl) ?_
                  simp only [List.take_succ_cons, List.take_zero]
                  generalize World.drew wr = wd at *
                  repeat (first
                    | (refine wpR_step0 ?_ ?_ (fun K hK => ?_); rfl; rfl; go_simp; refine hK _ ?_; clear hK K))
                  refine wpR_nil fun x => ?_
                  obtain ⟨we, web⟩ := x
                  simp only [close, List.drop_succ_cons, List.drop_zero]
                  go_wp2_with fail
                  go_ret
                  exact ⟨ret_bool hno.out.symm, W.trans ((hbd.trans (web.mono hbd.size)).mono W.size)⟩
                · have f3 : (q == p) = false := by rw [beq_eq_false_iff_ne]; exact hqp
                  have Hqp := Lib.hid hqp
                  clear hqp hmem
                  go_wp2_with fail
                  refine wp_region_rely 16 (by kernel_rfl) (by kernel_rfl) ?_
                  simp only [List.take_succ_cons, List.take_zero]
                  generalize World.drew wr = wd at *
                  repeat (first
                    | (refine wpR_step0 ?_ ?_ (fun K hK => ?_); rfl; rfl; go_simp; refine hK _ ?_; clear hK K))
                  refine wpR_nil fun x => ?_
                  obtain ⟨we, web⟩ := x
                  simp only [close, List.drop_succ_cons, List.drop_zero]
                  go_wp2_with fail
                  go_roundw
                  case rel =>
                    refine ⟨m + 1, by omega, by go_num, ?_, hbd.trans (web.mono hbd.size)⟩
                    rw [htm.out, List.mem_append, List.mem_singleton]
                    rintro (h | h)
                    · exact hnm.out h
                    · exact Hqp.out h.symm
                  case measure => simp only [intOf]; omega
              · have hmI : ¬ (m : Int) < (k : Int) := by omega
                obtain rfl : m = k := by omega
                have hnm := Lib.hid hnm
                go_wp2_with fail
                go_roundw
                case rel => exact ⟨m + 1, by omega, by go_num, by rw [Hde.out], Hst.out (.inr ⟨hq, hnm.out⟩), hb⟩
                case measure => simp only [intOf]; omega
      · have hlI : ¬ (k : Int) < 5 := by omega
        have hk5 : k = 5 := by omega
        have hpl : plOk l := fun j hj => hgood j hj (by omega)
        rw [List.take_of_length_le (by omega)]
        have A := RowAt.later A5 hb
        have z1 := A.cell 1 (.int .i64 n.k) rfl
        have z2 := A.cell 2 (.int .i64 n.z) rfl
        have z8 := A.cell 8 (str n.s) rfl
        have Wr := W.trans (hb.mono W.size)
        have Hpl := Lib.hid hpl
        clear hpl hgood hnp O5 A5 A1 A1d
        by_cases e1 : kind = 1
        · subst e1
          have hd : mayN 1 n ↔ 0 ≤ n.z ∧ n.z ≤ 1120 ∧ n.s = [] := Hd.out.trans ⟨fun h => by
            rcases h.2 with h | h | h
            · exact h.2.2
            · exact absurd h.1 (by decide)
            · exact absurd h.1 (by decide), fun h => ⟨⟨g1, g2, g3⟩, .inl ⟨rfl, Hpl.out, h⟩⟩⟩
          have Hdd := Lib.hid hd
          clear hd
          by_cases y1 : 0 ≤ n.z
          · by_cases y2 : n.z ≤ 1120
            · by_cases y3 : n.s = []
              · rw [y3] at z8
                have hyes := Lib.hid (show decide (mayN 1 n) = true from decide_eq_true (Hdd.out.2 ⟨y1, y2, y3⟩))
                clear y3
                go_wp2_with fail
                go_ret
                exact ⟨ret_bool hyes.out.symm, Wr⟩
              · have j3 : (n.s == []) = false := beq_eq_false_iff_ne.2 y3
                have hyes := Lib.hid (show decide (mayN 1 n) = false from decide_eq_false fun h => y3 (Hdd.out.1 h).2.2)
                clear y3
                go_wp2_with fail
                go_ret
                exact ⟨ret_bool hyes.out.symm, Wr⟩
            · have hyes := Lib.hid (show decide (mayN 1 n) = false from decide_eq_false fun h => y2 (Hdd.out.1 h).2.1)
              go_wp2_with fail
              go_ret
              exact ⟨ret_bool hyes.out.symm, Wr⟩
          · have hyes := Lib.hid (show decide (mayN 1 n) = false from decide_eq_false fun h => y1 (Hdd.out.1 h).1)
            go_wp2_with fail
            go_ret
            exact ⟨ret_bool hyes.out.symm, Wr⟩
        · have f1 : (kind == 1) = false := beq_eq_false_iff_ne.2 e1
          by_cases e2 : kind = 2
          · subst e2
            have hd : mayN 2 n ↔ n.z = 0 ∧ bareP l ∧ n.s = [] ∧ n.k ≤ 1 := Hd.out.trans ⟨fun h => by
              rcases h.2 with h | h | h
              · exact absurd h.1 (by decide)
              · exact h.2
              · exact absurd h.1 (by decide), fun h => ⟨⟨g1, g2, g3⟩, .inr (.inl ⟨rfl, h⟩)⟩⟩
            have Hdd := Lib.hid hd
            clear hd e1
            by_cases y1 : n.z = 0
            · have j1 : (n.z == 0) = true := by rw [beq_iff_eq]; exact y1
              have Y1 := Lib.hid y1
              clear y1
              by_cases y2 : bareP l
              · rw [decide_eq_true y2]
                by_cases y3 : n.s = []
                · rw [y3] at z8
                  have hdd := Lib.hid (show decide (mayN 2 n) = decide (n.k ≤ 1) from decide_eq_decide.2 (Hdd.out.trans ⟨fun h => h.2.2.2, fun h => ⟨Y1, y2, y3, h⟩⟩))
                  clear y3 y2
                  go_wp2_with fail
                  go_ret
                  exact ⟨ret_bool hdd.out.symm, Wr⟩
                · have j3 : (n.s == []) = false := beq_eq_false_iff_ne.2 y3
                  have hdd := Lib.hid (show decide (mayN 2 n) = false from decide_eq_false fun h => y3 (Hdd.out.1 h).2.2.1)
                  clear y3 y2
                  go_wp2_with fail
                  go_ret
                  exact ⟨ret_bool hdd.out.symm, Wr⟩
              · rw [decide_eq_false y2]
                have hdd := Lib.hid (show decide (mayN 2 n) = false from decide_eq_false fun h => y2 (Hdd.out.1 h).2.1)
                clear y2
                go_wp2_with fail
                go_ret
                exact ⟨ret_bool hdd.out.symm, Wr⟩
            · have j1 : (n.z == 0) = false := beq_eq_false_iff_ne.2 y1
              have hdd := Lib.hid (show decide (mayN 2 n) = false from decide_eq_false fun h => y1 (Hdd.out.1 h).1)
              clear y1
              go_wp2_with fail
              go_ret
              exact ⟨ret_bool hdd.out.symm, Wr⟩
          · have f2 : (kind == 2) = false := beq_eq_false_iff_ne.2 e2
            by_cases e3 : kind = 3
            · subst e3
              have hd : mayN 3 n ↔ signT n.s = true ∧ n.z = n.s.length ∧ bareP l := Hd.out.trans ⟨fun h => by
                rcases h.2 with h | h | h
                · exact absurd h.1 (by decide)
                · exact absurd h.1 (by decide)
                · exact h.2, fun h => ⟨⟨g1, g2, g3⟩, .inr (.inr ⟨rfl, h⟩)⟩⟩
              have Hdd := Lib.hid hd
              clear hd e1 e2 f1 f2
              by_cases y2 : bareP l
              · rw [decide_eq_true y2]
                have Y2 := Lib.hid y2
                clear y2
                go_wp2_with fail
                refine (hS _).mono ?_
                rintro e wq ⟨rfl, rfl⟩
                cases y1 : signT n.s
                · have hdd := Lib.hid (show decide (mayN 3 n) = false from decide_eq_false fun h => by have := (Hdd.out.1 h).1; rw [y1] at this; cases this)
                  go_wp2_with fail
                  go_ret
                  exact ⟨ret_bool hdd.out.symm, Wr⟩
                · have hdd := Lib.hid (show decide (mayN 3 n) = (n.z == (n.s.length : Int)) by
                    rw [Bool.eq_iff_iff, decide_eq_true_iff, beq_iff_eq]
                    exact Hdd.out.trans ⟨fun h => h.2.1, fun h => ⟨y1, h, Y2.out⟩⟩)
                  go_wp2_with fail
                  go_ret
                  exact ⟨ret_bool hdd.out.symm, Wr⟩
              · rw [decide_eq_false y2]
                have hdd := Lib.hid (show decide (mayN 3 n) = false from decide_eq_false fun h => y2 (Hdd.out.1 h).2.2)
                clear y2
                go_wp2_with fail
                go_ret
                exact ⟨ret_bool hdd.out.symm, Wr⟩
            · have f3 : (kind == 3) = false := beq_eq_false_iff_ne.2 e3
              have hno : decide (mayN kind n) = false := decide_eq_false fun h => by
                rcases (Hd.out.1 h).2 with h | h | h
                · exact e1 h.1
                · exact e2 h.1
                · exact e3 h.1
              have Hno := Lib.hid hno
              clear hno e1 e2 e3
              go_wp2_with fail
              go_ret
              exact ⟨ret_bool Hno.out.symm, Wr⟩
  all_goals
    have hno := Lib.hid (show decide (mayN kind n) = false from decide_eq_false fun h => by
      have := (Hd.out.1 h).1
      omega)
    go_wp2_with fail
    go_ret
    exact ⟨ret_bool hno.out.symm, b1⟩
end Go.Proofs.Ytgeiafijibgdhaa.Cl
