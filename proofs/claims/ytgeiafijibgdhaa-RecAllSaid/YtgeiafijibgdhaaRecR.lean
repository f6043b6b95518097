/- The document's SameWrites and MayWrites. -/
import Derived.Test.YtgeiafijibgdhaaRec7
set_option linter.unusedVariables false
set_option linter.unusedSimpArgs false
namespace Go.Proofs.Ytgeiafijibgdhaa.Cl
open Go Go.Proofs Go.RowKit Fl Rely

set_option maxRecDepth 100000 in
set_option maxHeartbeats 2000000 in
theorem sameW_any (v u : Value) (l l' : List Wr) (w : World) (hok : ∀ x ∈ l, WrOk x) (hok' : ∀ x ∈ l', WrOk x) (hv : RdW w v l) (hu : RdW w u l') :
    Calls Try.prog 40 #[v, u] w fun e w' => e = .returned (.bool (decide (l = l'))) ∧ Below w.heap.size w w' := by
  obtain ⟨a, cap, rfl, hc1, hc2, hcell, _⟩ := hv
  obtain ⟨a', cap', rfl, hc1', hc2', hcell', _⟩ := hu
  by_cases hlen : l.length = l'.length
  · have hne : ((l.length : Int) != (l'.length : Int)) = false := by rw [bne_eq_false_iff_eq]; omega
    have hlen := Lib.hid hlen
    go_enter Try.func40, Try.ntmps40
    go_wp2_with fail
    go_loopw [5] (fun i wr => ∃ k : Nat, k ≤ l.length ∧ i = .int .i64 k ∧ l.take k = l'.take k ∧ Below w.heap.size w wr) (fun i _ => l.length - (intOf i).toNat)
    case atStart => exact ⟨0, Nat.zero_le _, rfl, rfl, Below.refl _ _⟩
    case round =>
      obtain ⟨k, hk, rfl, hsame, hb⟩ := hrel
      by_cases hlt : k < l.length
      · have hlt' : k < l'.length := by rw [← show l.length = l'.length from hlen]; exact hlt
        have hlI : (k : Int) < (l.length : Int) := by omega
        have hlI' : (k : Int) < (l'.length : Int) := by omega
        obtain ⟨ad, rfl, hcx⟩ := hcell k hlt
        obtain ⟨ad', rfl, hcx'⟩ := hcell' k hlt'
        have hx := hok _ (List.getElem_mem hlt)
        have hx' := hok' _ (List.getElem_mem hlt')
        have hts := Lib.hid (take_snoc l k hlt)
        have hts' := Lib.hid (take_snoc l' k hlt')
        have hsame := Lib.hid hsame
        generalize l[k] = x at *
        generalize l'[k] = x' at *
        obtain ⟨w7, h7⟩ : ∃ x, x = wr.drew := ⟨_, rfl⟩
        have h7s := h7.symm
        have hb7 : Below w.heap.size w w7 := by rw [h7]; exact below_drewN hb 1
        have l1 : (loadVar 71 (ad.add (k * 58))).run Try.prog w7 = .ok (wrV x) w7 := load_wr x hx fun i u hu => cell_later hb7 (hcx i u hu)
        have l2 : (loadVar 71 (ad'.add (k * 58))).run Try.prog w7 = .ok (wrV x') w7 := load_wr x' hx' fun i u hu => cell_later hb7 (hcx' i u hu)
        have hq := fun w => neq_wr x x' hx hx' w
        have hgd := fun a b w => guard_wr .neq a b x x' w
        clear hcell hcell' hcx hcx' hok hok'
        by_cases hxx : x = x'
        · rw [decide_eq_true hxx] at hq
          have hxx := Lib.hid hxx
          generalize wrV x = V at *
          generalize wrV x' = U at *
          go_upto_region 6 with fail
          refine Zig.wp_region_zig [(false, 0), (false, 1), (false, 2), (false, 3), (false, 4), (false, 5), (false, 6), (false, 7), (false, 8)] (fun W => W = w7) (by kernel_rfl) (by kernel_rfl) h7s ?_
          simp only [Zig.sel, List.drop_succ_cons, List.drop_zero]
          generalize World.drew wr = w8 at *
          haveI : Nonempty (Zig.Lt (fun W => W = w7)) := ⟨⟨w8, h7s⟩⟩
          have x0 : ∀ x : Zig.Lt (fun W => W = w7), (loadVar 71 (ad.add (k * 58))).run Try.prog x.1 = .ok V x.1 := fun x => by rw [x.2]; exact l1
          have x1 : ∀ x : Zig.Lt (fun W => W = w7), (loadVar 71 (ad'.add (k * 58))).run Try.prog x.1 = .ok U x.1 := fun x => by rw [x.2]; exact l2
          clear h7 l1 l2
          repeat (first | refine Zig.zig_load x0 rfl rfl rfl ?_ | refine Zig.zig_load x1 rfl rfl rfl ?_ | refine Zig.zig_bin hgd hq rfl rfl rfl rfl ?_ | (refine Zig.zig_step (fun K hK => ?_); go_simp; refine hK _ ?_; clear hK K))
          refine Zig.zig_nil ?_
          subst h7s
          go_wp2_with fail
          go_roundw
          case rel =>
            refine ⟨k + 1, by omega, by go_num, ?_⟩
            rw [hts.out, hts'.out, show l.take k = l'.take k from hsame.out, show x = x' from hxx.out]
          case measure => simp only [intOf]; omega
        · rw [decide_eq_false hxx] at hq
          have hno : decide (l = l') = false := decide_eq_false fun e => hxx (by
            have a : l.take k ++ [x] = l'.take k ++ [x'] := by rw [← hts.out, ← hts'.out, e]
            rw [show l.take k = l'.take k from hsame.out] at a
            exact List.singleton_inj.1 (List.append_cancel_left a))
          have hno := Lib.hid hno
          have hxx := Lib.hid hxx
          generalize wrV x = V at *
          generalize wrV x' = U at *
          go_upto_region 6 with fail
          refine Zig.wp_region_zig [(false, 0), (false, 1), (false, 2), (false, 3), (false, 4), (false, 5), (false, 6), (false, 7), (false, 8)] (fun W => W = w7) (by kernel_rfl) (by kernel_rfl) h7s ?_
          simp only [Zig.sel, List.drop_succ_cons, List.drop_zero]
          generalize World.drew wr = w8 at *
          haveI : Nonempty (Zig.Lt (fun W => W = w7)) := ⟨⟨w8, h7s⟩⟩
          have x0 : ∀ x : Zig.Lt (fun W => W = w7), (loadVar 71 (ad.add (k * 58))).run Try.prog x.1 = .ok V x.1 := fun x => by rw [x.2]; exact l1
          have x1 : ∀ x : Zig.Lt (fun W => W = w7), (loadVar 71 (ad'.add (k * 58))).run Try.prog x.1 = .ok U x.1 := fun x => by rw [x.2]; exact l2
          clear h7 l1 l2
          repeat (first | refine Zig.zig_load x0 rfl rfl rfl ?_ | refine Zig.zig_load x1 rfl rfl rfl ?_ | refine Zig.zig_bin hgd hq rfl rfl rfl rfl ?_ | (refine Zig.zig_step (fun K hK => ?_); go_simp; refine hK _ ?_; clear hK K))
          refine Zig.zig_nil ?_
          subst h7s
          go_wp2_with fail
          go_ret
          first | exact ⟨rfl, hb7⟩ | exact ⟨ret_bool hno.out.symm, hb7⟩
      · have hkl : k = l.length := by omega
        have hll : l = l' := by
          rw [hkl, List.take_of_length_le (Nat.le_refl _), List.take_of_length_le (by rw [show l.length = l'.length from hlen]; exact Nat.le_refl _)] at hsame
          exact hsame
        have hyes := Lib.hid (decide_eq_true hll)
        have hlI : ¬ (k : Int) < (l.length : Int) := by omega
        clear hcell hcell' hkl hll hsame
        go_wp2_with fail
        go_ret
        first | exact ⟨rfl, hb⟩ | exact ⟨ret_bool hyes.out.symm, hb⟩
  · have hne : ((l.length : Int) != (l'.length : Int)) = true := by rw [bne_iff_ne]; omega
    have hno : decide (l = l') = false := decide_eq_false fun e => hlen (by rw [e])
    rw [hno]
    clear hcell hcell'
    have hlen := Lib.hid hlen
    go_enter Try.func40, Try.ntmps40
    go_wp2_with fail
    go_ret
    exact ⟨rfl, Below.refl _ _⟩

set_option maxRecDepth 100000 in
set_option maxHeartbeats 4000000 in
theorem mayW_any (v : Value) (l : List Wr) (w : World) (hok : ∀ x ∈ l, WrOk x) (hv : RdW w v l) :
    Calls Try.prog 43 #[v] w fun e w' => e = .returned (.bool (decide (okW l))) ∧ Below w.heap.size w w' := by
  obtain ⟨a, cap, rfl, hc1, hc2, hcell, _⟩ := hv
  have helm : ∀ k (h : k < l.length), ∃ ad, a = some ad ∧ w.cell? (ad.add (k * 58)) = some (.int .i64 l[k].1) ∧ w.cell? { ad.add (k * 58) with off := (ad.add (k * 58)).off + 1, spot := none } = some (.int .i64 l[k].2.1) := fun k h => by
    obtain ⟨ad, ha, hc⟩ := hcell k h
    have h0 := hc 0 _ rfl
    have h1 := hc 1 _ rfl
    rw [Addr.add_zero'] at h0
    rw [show (1 : Nat) = 0 + 1 from rfl, Addr.add_succ'] at h1
    exact ⟨ad, ha, h0, h1⟩
  clear hcell
  go_enter Try.func43, Try.ntmps43
  go_wp2_with fail
  go_loopw [3, 4] (fun i _ wr => ∃ k : Nat, k ≤ l.length ∧ i = .int .i64 k ∧ (∀ j, j < k → goodW l j) ∧ Below w.heap.size w wr) (fun i _ _ => l.length - (intOf i).toNat)
  case atStart => exact ⟨0, Nat.zero_le _, rfl, fun j hj => by omega, Below.refl _ _⟩
  case round =>
    obtain ⟨k, hk, rfl, hgood, hb⟩ := hrel
    by_cases hlt : k < l.length
    · have hlI : (k : Int) < (l.length : Int) := by omega
      obtain ⟨ad, rfl, c0, c1⟩ := helm k hlt
      have c0 := cell_later hb c0
      have c1 := cell_later hb c1
      have hgk := goodW_at hlt
      have hnot : ¬ goodW l k → decide (okW l) = false := fun h => decide_eq_false fun h' => h (h'.1 k hlt)
      generalize hx : l[k] = x at *
      obtain ⟨at_, kind, body⟩ := x
      dsimp only at hgk c0 c1
      have hx := Lib.hid hx
      have Hb := Lib.hid hgk
      have hgood := Lib.hid hgood
      clear hgk
      have hways : kind < 0 ∨ (0 ≤ kind ∧ 7 < kind) ∨ (0 ≤ kind ∧ kind ≤ 7 ∧ at_ < 0) ∨ (0 ≤ kind ∧ kind ≤ 7 ∧ 0 ≤ at_ ∧ 200 ≤ at_) ∨ (0 ≤ kind ∧ kind ≤ 7 ∧ 0 ≤ at_ ∧ at_ < 200) := by omega
      rcases hways with h | ⟨h1, h⟩ | ⟨h1, h2, h⟩ | ⟨h1, h2, h3, h⟩ | ⟨h1, h2, h3, h4⟩
      case inr.inr.inr.inr =>
        go_wp2_with fail
        obtain ⟨wo, rfl⟩ : ∃ wo : World, wo = wr := ⟨_, rfl⟩
        go_loopw [4] (fun j wq => ∃ n : Nat, n ≤ k ∧ j = .int .i64 n ∧ (∀ i, i < n → ∀ y, l[i]? = some y → y.1 ≠ at_) ∧ Below w.heap.size w wq) (fun j _ => k - (intOf j).toNat)
        case atStart => exact ⟨0, Nat.zero_le _, rfl, fun i hi => by omega, hb⟩
        case round =>
          clear hb c0 c1
          obtain ⟨n, hn, rfl, hne, hbq⟩ := hrel
          by_cases hnk : n < k
          · have hnI : (n : Int) < (k : Int) := by omega
            have hnL : (n : Int) < (l.length : Int) := by omega
            obtain ⟨ad', ea, d0, _⟩ := helm n (by omega)
            obtain rfl := Option.some.inj ea
            obtain ⟨ad', ea, e0, _⟩ := helm k hlt
            obtain rfl := Option.some.inj ea
            have hyx : l[n]? = some l[n] := List.getElem?_eq_getElem (by omega)
            have d0 := cell_later hbq d0
            have e0 := cell_later hbq e0
            rw [show l[k] = (at_, kind, body) from hx.out] at e0
            dsimp only at e0
            generalize l[n] = yy at *
            obtain ⟨y, y2, y3⟩ := yy
            dsimp only at d0
            have hyx := Lib.hid hyx
            have hne := Lib.hid hne
            clear helm
            by_cases hyat : y = at_
            · have hE : ((y : Int) == at_) = true := by rw [beq_iff_eq]; exact hyat
              have hno := Lib.hid (hnot fun h => by
                have := (Hb.out.1 h).2.2
                refine this ?_
                rw [← hyat]
                refine List.mem_map.2 ⟨(y, y2, y3), List.mem_of_getElem? (i := n) ?_, rfl⟩
                rw [List.getElem?_take, if_pos hnk]
                exact hyx.out)
              have hyat := Lib.hid hyat
              clear hnot
              go_upto_region 9 with fail
              have hS0 : wr.drew.cell? (ad.add (n * 58)) = some (.int .i64 y) ∧ wr.drew.cell? (ad.add (k * 58)) = some (.int .i64 at_) := ⟨d0, e0⟩
              have hbq : Below w.heap.size w wr.drew := below_drewN hbq 1
              refine Zig.wp_region_zig [(false, 0), (false, 1), (false, 2), (false, 3), (false, 4), (false, 5), (false, 6), (false, 7), (false, 8), (false, 9), (false, 10)] (fun W => W.cell? (ad.add (n * 58)) = some (.int .i64 y) ∧ W.cell? (ad.add (k * 58)) = some (.int .i64 at_)) (by kernel_rfl) (by kernel_rfl) hS0 ?_
              simp only [Zig.sel, List.drop_succ_cons, List.drop_zero]
              generalize World.drew wr = w8 at *
              haveI : Nonempty (Zig.Lt (fun W => W.cell? (ad.add (n * 58)) = some (.int .i64 y) ∧ W.cell? (ad.add (k * 58)) = some (.int .i64 at_))) := ⟨⟨w8, hS0⟩⟩
              have x0 := fun x : Zig.Lt (fun W => W.cell? (ad.add (n * 58)) = some (.int .i64 y) ∧ W.cell? (ad.add (k * 58)) = some (.int .i64 at_)) => x.2.1
              have x1 := fun x : Zig.Lt (fun W => W.cell? (ad.add (n * 58)) = some (.int .i64 y) ∧ W.cell? (ad.add (k * 58)) = some (.int .i64 at_)) => x.2.2
              repeat (refine Zig.zig_step (fun K hK => ?_); go_simp; refine hK _ ?_; clear hK K)
              refine Zig.zig_nil ?_
              clear x0 x1 hS0
              go_wp2_with fail
              go_ret
              first | exact ⟨rfl, hbq⟩ | exact ⟨ret_bool hno.out.symm, hbq⟩
            · have hE : ((y : Int) == at_) = false := by rw [beq_eq_false_iff_ne]; exact hyat
              have hyat := Lib.hid hyat
              clear hnot
              go_upto_region 9 with fail
              have hS0 : wr.drew.cell? (ad.add (n * 58)) = some (.int .i64 y) ∧ wr.drew.cell? (ad.add (k * 58)) = some (.int .i64 at_) := ⟨d0, e0⟩
              have hbq : Below w.heap.size w wr.drew := below_drewN hbq 1
              refine Zig.wp_region_zig [(false, 0), (false, 1), (false, 2), (false, 3), (false, 4), (false, 5), (false, 6), (false, 7), (false, 8), (false, 9), (false, 10)] (fun W => W.cell? (ad.add (n * 58)) = some (.int .i64 y) ∧ W.cell? (ad.add (k * 58)) = some (.int .i64 at_)) (by kernel_rfl) (by kernel_rfl) hS0 ?_
              simp only [Zig.sel, List.drop_succ_cons, List.drop_zero]
              generalize World.drew wr = w8 at *
              haveI : Nonempty (Zig.Lt (fun W => W.cell? (ad.add (n * 58)) = some (.int .i64 y) ∧ W.cell? (ad.add (k * 58)) = some (.int .i64 at_))) := ⟨⟨w8, hS0⟩⟩
              have x0 := fun x : Zig.Lt (fun W => W.cell? (ad.add (n * 58)) = some (.int .i64 y) ∧ W.cell? (ad.add (k * 58)) = some (.int .i64 at_)) => x.2.1
              have x1 := fun x : Zig.Lt (fun W => W.cell? (ad.add (n * 58)) = some (.int .i64 y) ∧ W.cell? (ad.add (k * 58)) = some (.int .i64 at_)) => x.2.2
              repeat (refine Zig.zig_step (fun K hK => ?_); go_simp; refine hK _ ?_; clear hK K)
              refine Zig.zig_nil ?_
              clear x0 x1 hS0
              go_wp2_with fail
              go_roundw
              case rel =>
                refine ⟨n + 1, by omega, by go_num, fun i hi y' hy' => ?_, hbq⟩
                by_cases hin : i < n
                · exact hne.out i hin y' hy'
                · obtain rfl : i = n := by omega
                  rw [hyx.out] at hy'
                  cases hy'
                  exact hyat.out
              case measure => simp only [intOf]; omega
          · have hnI : ¬ (n : Int) < (k : Int) := by omega
            have hnk' : n = k := by omega
            rw [hnk'] at hne
            have hne := Lib.hid hne
            clear helm hnot hnk'
            go_wp2_with fail
            go_roundw
            case rel =>
              refine ⟨k + 1, by omega, by go_num, fun j hj => ?_, hbq⟩
              by_cases hjk : j < k
              · exact hgood.out j hjk
              · obtain rfl : j = k := by omega
                refine Hb.out.2 ⟨⟨h1, h2⟩, ⟨h3, h4⟩, fun hm => ?_⟩
                obtain ⟨x', hx', ex⟩ := List.mem_map.1 hm
                obtain ⟨i, hi, ei⟩ := List.getElem_of_mem hx'
                rw [List.length_take] at hi
                refine hne.out i (by omega) x' ?_ ex
                rw [← ei, List.getElem_take, List.getElem?_eq_getElem]
            case measure => simp only [intOf]; omega
      all_goals
        have hno := Lib.hid (hnot fun k => by have := Hb.out.1 k; omega)
        clear hnot helm
        go_wp2_with fail
        go_ret
        first | exact ⟨rfl, hb⟩ | exact ⟨ret_bool hno.out.symm, hb⟩
    · have hlI : ¬ (k : Int) < (l.length : Int) := by omega
      have hkl : k = l.length := by omega
      have hgood : ∀ j, j < l.length → goodW l j := by rw [← hkl]; exact hgood
      by_cases h1 : 1 ≤ l.length
      · by_cases h12 : l.length ≤ 12
        · have E := Lib.hid (show decide (okW l) = true from decide_eq_true ⟨hgood, h1, h12⟩)
          have g1 : (1 : Int) ≤ (l.length : Int) := by omega
          have g2 : (l.length : Int) ≤ 12 := by omega
          clear helm hgood hkl h1 h12
          go_wp2_with fail
          go_ret
          first | exact ⟨rfl, hb⟩ | exact ⟨ret_bool E.out.symm, hb⟩
        · have E := Lib.hid (show decide (okW l) = false from decide_eq_false fun h => h12 h.2.2)
          have g1 : (1 : Int) ≤ (l.length : Int) := by omega
          have g2 : ¬ (l.length : Int) ≤ 12 := by omega
          clear helm hgood hkl h1 h12
          go_wp2_with fail
          go_ret
          first | exact ⟨rfl, hb⟩ | exact ⟨ret_bool E.out.symm, hb⟩
      · have E := Lib.hid (show decide (okW l) = false from decide_eq_false fun h => h1 h.2.1)
        have g1 : ¬ (1 : Int) ≤ (l.length : Int) := by omega
        clear helm hgood hkl h1
        go_wp2_with fail
        go_ret
        first | exact ⟨rfl, hb⟩ | exact ⟨ret_bool E.out.symm, hb⟩
end Go.Proofs.Ytgeiafijibgdhaa.Cl
