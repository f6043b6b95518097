/- rec: the document's TakeRec. -/
import Derived.Test.YtgeiafijibgdhaaRecH
import Derived.Test.YtgeiafijibgdhaaRelyT
set_option linter.unusedVariables false
set_option linter.unusedSimpArgs false
namespace Go.Proofs.Ytgeiafijibgdhaa.Cl
open Go Go.Proofs Go.RowKit Fl Rely

theorem wrC_setb {x : Wr} {i : Nat} {c : UInt8} : (wrC x).toArray.setIfInBounds (2 + i) (u8 c) = (wrC (x.1, x.2.1, x.2.2.set i c)).toArray := by
  apply Array.ext'
  rw [Array.toList_setIfInBounds, Nat.add_comm 2 i]
  show List.set (.int .i64 x.1 :: .int .i64 x.2.1 :: bs x.2.2) (i + 2) (u8 c) = .int .i64 x.1 :: .int .i64 x.2.1 :: bs (x.2.2.set i c)
  rw [List.set_cons_succ, List.set_cons_succ, bs_set]
theorem WrAt.setByte {w : World} {g : Nat} {x : Wr} (h : WrAt w g x) (i : Nat) (c : UInt8) (v : Value) (hv : v = u8 c) : WrAt (w.setCell ⟨g, 2 + i, none⟩ v) g (x.1, x.2.1, x.2.2.set i c) ∧ w.grownBy (w.setCell ⟨g, 2 + i, none⟩ v) (some g) ∧ (w.setCell ⟨g, 2 + i, none⟩ v).heap.size = w.heap.size := by
  subst hv
  have := RowAt.set h (2 + i) (u8 c)
  rwa [wrC_setb] at this
theorem WrAt.byte {w : World} {g : Nat} {x : Wr} (h : WrAt w g x) (hx : WrOk x) (i : Nat) (hi : i < 56) : ∃ b : UInt8, w.cell? ⟨g, 2 + i, none⟩ = some (u8 b) ∧ w.frozen? ⟨g, 2 + i, none⟩ = false := by
  unfold WrOk at hx
  refine ⟨x.2.2[i]'(by omega), RowAt.cell h (2 + i) _ ?_, RowAt.frozen h⟩
  rw [Nat.add_comm 2 i]
  simp [wrC, bs, hx, hi]
def padT (j : Nat) (q : List UInt8) : List UInt8 := q.take j ++ List.replicate (56 - j) 0
theorem padT_length {j : Nat} {q : List UInt8} (h : q.length = 64) (hj : j ≤ 56) : (padT j q).length = 56 := by
  unfold padT
  rw [List.length_append, List.length_take, List.length_replicate]; omega
theorem padT_succ {j : Nat} {q : List UInt8} (h : q.length = 64) (hj : j < 56) : (padT j q).set j (q[j]'(by omega)) = padT (j + 1) q := by
  unfold padT
  rw [List.set_append_right _ _ (by rw [List.length_take]; omega), List.length_take, show j - min j q.length = 0 by omega, take_snoc q j (by omega), show 56 - j = (56 - (j + 1)) + 1 by omega, List.replicate_succ, List.set_cons_zero, List.append_assoc]
  rfl
theorem padT_all {q : List UInt8} (h : q.length = 64) : padT 56 q = overB Z56 q := by
  unfold padT overB
  rw [List.drop_of_length_le (by rw [Z56_length, h]; decide)]
  simp
theorem padT_zero (q : List UInt8) : padT 0 q = Z56 := rfl
theorem good_len {label : UInt8} {epoch seq : Nat} {L : List (List UInt8)} {k : Nat} (hk : k < manyR L) (h : goodR label epoch seq L) : ∃ hl : k + 1 < L.length, L[k + 1].length = 64 := by
  obtain ⟨⟨h1, h2, h3, h4⟩, h5, h6⟩ := h
  refine ⟨by omega, ?_⟩
  have e := congrArg (fun z => z[k + 1]?) h6
  simp only [recB, List.getElem?_cons_succ, List.getElem?_map] at e
  rw [List.getElem?_take, if_pos (by omega), List.getElem?_eq_getElem (show k + 1 < L.length by omega), List.getElem?_eq_getElem (show k < (readAll L (manyR L)).length by rw [readAll_length]; exact hk)] at e
  simp only [Option.map_some, Option.some.injEq] at e
  rw [← e]
  exact image_length _ (readAll_ok _ _ _ (List.getElem_mem _))

theorem rd_each {w : World} {a : Option Addr} {n c : Nat} {l : List UInt8} (h : Rd w (.slice a n c) (bs l)) (h0 : 0 < l.length) : ∃ ad, a = some ad ∧ ∀ j (h : j < l.length), w.cell? (ad.add j) = some (u8 l[j]) := by
  obtain ⟨a', c', e', g1, g2, g3, _⟩ := id h
  injection e' with e1' _ _
  subst e1'
  obtain ⟨ad', rfl, _⟩ := g3 0 (by rw [bs_length]; exact h0)
  refine ⟨ad', rfl, fun j hj => ?_⟩
  obtain ⟨ad'', e, h⟩ := g3 j (by rw [bs_length]; exact hj)
  obtain rfl := Option.some.inj e
  rw [h]
  simp [bs]
set_option maxRecDepth 100000 in
set_option maxHeartbeats 4000000 in
theorem refTake_yes (label : UInt8) (epoch seq : Nat) (v : Value) (L : List (List UInt8)) (w : World) (he : epoch < 4294967296) (hsq : seq < 4294967296) (hv : RdL w v L) (hfit : fitR L) :
    Calls Try.prog 36 #[u8 label, .int .u32 epoch, .int .u32 seq, v] w fun e w' => TakeIs label epoch seq L w.heap.size e w' ∧ Below w.heap.size w w' := by
  obtain ⟨adL, capL, sl, rfl, hc1, hc2, hsl, hcell, hrd⟩ := hv.sl
  obtain ⟨h0', h1', hm12, hlen⟩ := id hfit
  have h0 : 0 < L.length := h0'
  have h1 : L[0].length = 64 := by rw [← headOf_eq h0]; exact h1'
  obtain ⟨ad, rfl, hz⟩ := hcell 0 (by omega)
  have hr0 := hrd 0 (by omega) h0
  have hel : ∀ j, j < L.length → ∃ s, w.cell? (ad.add j) = some s ∧ Rd w s (bs (L[j]?.getD [])) := fun j h => by
    obtain ⟨ad', e, hc⟩ := hcell j (by omega)
    obtain rfl := Option.some.inj e
    refine ⟨_, hc, ?_⟩
    rw [List.getElem?_eq_getElem h]
    exact hrd j (by omega) h
  have e0 : ((L.length : Int) == 0) = false := by rw [beq_eq_false_iff_ne]; omega
  rw [Addr.add_zero'] at hz
  obtain ⟨a0, c0, hs0, q1, q2⟩ := hr0.some_ (by rw [bs_length]; omega)
  rw [hs0] at hz hr0
  rw [bs_length, h1] at hz q1 hr0
  have hm : manyR L = ((L[0])[10]'(by omega)).toNat := by unfold manyR; rw [headOf_eq h0, List.getElem?_eq_getElem (by omega)]; rfl
  have hu := ((L[0])[10]'(by omega)).toNat_lt
  have hb10 : w.cell? { a0 with off := a0.off + 10, spot := none } = some (.int .u8 (manyR L : Nat)) := by
    have h := hr0.cellS 9 (by rw [bs_length]; omega)
    rw [List.getElem_map] at h
    rw [hm]; exact h
  rw [← hm] at hu
  have hR : ∀ i, (readW L i).1 = ((num (((L[0]).drop (11 + 3 * i)).take 2) : Nat) : Int) ∧ (readW L i).2.1 = ((((L[0])[13 + 3 * i]?.getD 0).toNat : Nat) : Int) ∧ (readW L i).2.2 = overB Z56 (L[i + 1]?.getD []) := fun i => by
    unfold readW
    rw [headOf_eq h0]
    exact ⟨rfl, rfl, rfl⟩
  have hnok : ¬ okW (readAll L (manyR L)) → ¬ goodR label epoch seq L := fun h k => h k.2.1
  have hnlen : ∀ k, k < manyR L → (L[k + 1]?.getD []).length ≠ 64 → ¬ goodR label epoch seq L := fun k hk h h' => by
    obtain ⟨hl, e⟩ := good_len hk h'
    rw [List.getElem?_eq_getElem hl] at h
    exact h e
  have hnot : ∀ n, (recB label epoch seq (readAll L (manyR L)))[n]? ≠ L[n]? → n < manyR L + 1 → ¬ goodR label epoch seq L := fun n h hn k => h (by rw [k.2.2, List.getElem?_take, if_pos hn])
  have hyes : okW (readAll L (manyR L)) → (recB label epoch seq (readAll L (manyR L))).take (manyR L + 1) = L.take (manyR L + 1) → goodR label epoch seq L := fun h k => ⟨hfit, h, by rwa [List.take_of_length_le (by simp [recB, readAll_length])] at k⟩
  have hTake : ∀ u w', w'.ownsRow w.heap.size 71 58 u (manyR L) ((readAll L (manyR L)).flatMap wrC) → goodR label epoch seq L → TakeIs label epoch seq L w.heap.size (.returned (.tuple #[u, .int .i64 ((manyR L : Int) + 1), .bool true])) w' := fun u w' h k => ⟨fun _ => ⟨u, rfl, h⟩, fun h => (h k).elim⟩
  have e2 : IntKind.i64.wrap (manyR L : Int) = (manyR L : Int) := IntWalk.i64_in _ (by omega)
  have hTakeNo : ∀ w', ¬ goodR label epoch seq L → TakeIs label epoch seq L w.heap.size (.returned (.tuple #[.slice none 0 0, .int .i64 0, .bool false])) w' := fun w' => takeIs_no
  generalize TakeIs label epoch seq L w.heap.size = TI at *
  generalize goodR label epoch seq L = GR at *
  generalize manyR L = m at *
  have e3 : ¬ (12 : Int) < (m : Int) := by omega
  have e4 : ¬ (L.length : Int) < (m : Int) + 1 := by omega
  have e5 : ((64 : Int) != 64) = false := rfl
  have hpos : (0 : Int) < (L.length : Int) := by omega
  have h1 := Lib.hid h1
  clear hs0 hrd hcell hsl hm h1'
  go_enter Try.func36, Try.ntmps36
  go_wp2_with fail
  go_loopw [12, 13, 14, 15] (fun u i _ _ wr => ∃ k : Nat, k ≤ m ∧ i = .int .i64 k ∧ wr.ownsRow w.heap.size 71 58 u k ((readAll L k).flatMap wrC) ∧ Below w.heap.size w wr) (fun _ i _ _ _ => m - (intOf i).toNat)
  case atStart => exact ⟨0, Nat.zero_le _, rfl, World.ownsRow_nil _ _ _ _, Below.refl _ _⟩
  case round =>
    obtain ⟨k, hk, rfl, hU, hb⟩ := hrel
    have hbq := cell_later hb hb10
    by_cases hlt : k < m
    · have hlI : (k : Int) < (m : Int) := by omega
      obtain ⟨s, hs, hrs⟩ := hel (k + 1) (by omega)
      have hsq := cell_later hb hs
      rw [Nat.add_comm k 1] at hsq
      have hrsq := hrs.below hb
      have hnl := hnlen k hlt
      have hRk := hR k
      have hks : readW L k = ((readW L k).1, (readW L k).2.1, (readW L k).2.2) := rfl
      rw [hRk.1, hRk.2.1, hRk.2.2] at hks
      generalize L[k + 1]?.getD [] = q0 at *
      obtain ⟨sa, sc, rfl, t1, t2, _⟩ := id hrsq
      rw [bs_length] at hsq hrsq hrs t1
      have hk1 : (k : Int) + 1 < (L.length : Int) := by omega
      have hk0 : 0 ≤ 1 + (k : Int) := by omega
      by_cases h64 : q0.length = 64
      · rw [h64] at hsq hrsq hrs t1
        have hbu := ((L[0])[13 + 3 * k]?.getD 0).toNat_lt
        have hTq := rd_tail hr0 h1 q1 (11 + 3 * k) (by omega)
        have hTl : ((L[0]).drop (11 + 3 * k)).length = 64 - (11 + 3 * k) := by rw [List.length_drop, show L[0].length = 64 from h1]
        have hT2 := (rd_tail2 hTq (by rw [hTl]; omega))
        have hT3 : w.cell? (a0.add (13 + 3 * k)) = some (.int .u8 (((L[0])[13 + 3 * k]?.getD 0).toNat : Nat)) := by
          obtain ⟨a', c', e', g1, g2, g3, _⟩ := id hr0
          injection e' with e1' _ _
          subst e1'
          have g0 : 13 + 3 * k < L[0].length := by rw [show L[0].length = 64 from h1]; omega
          obtain ⟨ad', e', g4⟩ := g3 (13 + 3 * k) (by rw [bs_length]; exact g0)
          obtain rfl := Option.some.inj e'
          rw [g4, List.getElem?_eq_getElem g0]
          simp only [bs, List.getElem_map]
          rfl
        have hl2 : (((L[0]).drop (11 + 3 * k)).take 2).length ≤ 2 := by rw [List.length_take]; omega
        have ew1 : IntKind.i64.wrap (3 * (k : Int)) = ((3 * k : Nat) : Int) := by rw [IntWalk.i64_in _ (by omega)]; omega
        have ew2 : IntKind.i64.wrap (11 + ((3 * k : Nat) : Int)) = ((11 + 3 * k : Nat) : Int) := by rw [IntWalk.i64_in _ (by omega)]; omega
        have ew3 : IntKind.i64.wrap (13 + ((3 * k : Nat) : Int)) = ((13 + 3 * k : Nat) : Int) := by rw [IntWalk.i64_in _ (by omega)]; omega
        have ec1 : 13 + 3 * k ≤ c0 := by omega
        have ec2 : 13 + 3 * k < 64 := by omega
        have ec3 : 11 + 3 * k ≤ 13 + 3 * k := by omega
        have ec4 : ¬ c0 = 11 + 3 * k := by omega
        have ec5 : 13 + 3 * k - (11 + 3 * k) = 2 := by omega
        have ec6 : max ((13 + 3 * k : Nat) : Int) 0 = ((13 + 3 * k : Nat) : Int) := by omega
        clear hTl hTq hnlen
        rw [show ((L[0])[13 + 3 * k]?.getD 0) = ((L[0])[13 + 3 * k]?.getD 0) from rfl] at hT3
        generalize ((L[0]).drop (11 + 3 * k)).take 2 = l2 at *
        generalize ((L[0])[13 + 3 * k]?.getD 0).toNat = kb at *
        generalize 3 * k = p3 at *
        generalize 11 + p3 = p11 at *
        generalize 13 + p3 = p13 at *
        have ec7 : (p13 : Int) ≤ (c0 : Int) := by omega
        have ec8 : (p11 : Int) ≤ (p13 : Int) := by omega
        have ec9 : (p13 : Int) < 64 := by omega
        have ekb : IntKind.i64.wrap ((kb : Nat) : Int) = ((kb : Nat) : Int) := IntWalk.i64_in _ (by omega)
        have hnl2 : num l2 < 65536 := Nat.lt_of_lt_of_le (num_lt _) (Nat.pow_le_pow_right (by decide) hl2)
        have ewn : IntKind.i64.wrap ((num l2 : Nat) : Int) = ((num l2 : Nat) : Int) := IntWalk.i64_in _ (by omega)
        go_wp2_with fail
        have hdr := hb.drew
        have hcn := fun x : RelyT.Lat wr.drew => (num_any _ l2 x.1 ((hT2.below hdr).below x.2) (by omega)).mono (R' := fun e w' => e = .returned (.int .u64 (num l2)) ∧ Below x.1.heap.size x.1 w') fun _ _ h => ⟨h.1, by rw [← h.2]; exact Below.refl _ _⟩
        have hbd1 := fun W => run_build (P := Try.prog) W 28 #[(0, .int .i64 (kb : Nat))] _ (built_blk kb)
        have hbd2 := fun W => run_build (P := Try.prog) W 71 #[(0, .int .i64 (num l2 : Nat)), (1, .agg (bc kb Z56).toArray)] _ (built_wr (num l2) kb)
        have hcl := fun x : RelyT.Lat wr.drew => cell_later x.2 (cell_later hdr hT3)
        have hUd : wr.drew.ownsRow w.heap.size 71 58 u12 k ((readAll L k).flatMap wrC) := hU
        refine RelyT.wp_region_rely 20 (by kernel_rfl) (by kernel_rfl) ?_
        simp only [List.take_succ_cons, List.take_zero]
        generalize World.drew wr = wd at *
        repeat (first
          | (refine RelyT.wpR_step0 ?_ ?_ (fun K hK => ?_); rfl; rfl; go_simp; refine hK _ ?_; clear hK K)
          | (refine RelyT.wpR_step0 ?_ ?_ (fun K hK => ?_); rfl; rfl; go_simp; apply Exists.intro; refine ⟨fun x => ?_, hK _ ?_⟩; (first | (with_reducible exact hcn x)); clear hK K))
        refine RelyT.wpR_fresh (fun v W => ∃ g, v = .pointer (some ⟨g, 0, none⟩) ∧ wd.heap.size ≤ g ∧ WrAt W g (0, 0, Z56)) 14 rfl rfl rfl rfl (of_decide_eq_true rfl) ?_ (fun x => ?_) ?_
        · rintro v W W' ⟨g, e, hg, h⟩ hW
          exact ⟨g, e, hg, RowAt.later h hW⟩
        · go_simp
          exact ⟨below_new _ _, x.2.size, RowAt.new _ _ _⟩
        refine RelyT.wpR_nil fun x => ?_
        obtain ⟨we, web⟩ := x
        simp only [RelyT.close, List.drop_succ_cons, List.drop_zero]
        rintro v14 ⟨g, rfl, hg, A1⟩
        simp only [Act.put, List.setIfInBounds_toArray, List.set_cons_zero, List.set_cons_succ]
        go_wp2_with (refine wp_want rfl fun K hK => ?_; refine wp_wr_store (x := ((num l2 : Nat), (kb : Nat), Z56)) A1 Z56_length Z56_length rfl rfl rfl ?_)
        intro w2 A2 g2 s2
        refine hK _ _ ?_
        clear hK K
        have b2 : Below wd.heap.size wd w2 := below_row web g2 web.size hg
        clear hcn hbd1 hbd2 hcl A1 g2 s2 web we ew1 ew2 ew3 ec1 ec2 ec3 ec4 ec5 ec6 ec7 ec8 ec9 hT2 hT3 hl2
        obtain ⟨sa, rfl, hsc⟩ := rd_each hrs (by rw [h64]; decide)
        have h64' := Lib.hid h64
        have hkd := Lib.hid hks
        clear hks h64 hrsq hnl
        go_wp2_with fail
        obtain ⟨wo, rfl⟩ : ∃ wo : World, wo = wr := ⟨_, rfl⟩
        go_loopw [15] (fun i wq => ∃ j : Nat, j ≤ 56 ∧ i = .int .i64 j ∧ WrAt wq g ((num l2 : Nat), (kb : Nat), padT j q0) ∧ Below wd.heap.size wd wq) (fun i _ => 56 - (intOf i).toNat)
        case atStart => exact ⟨0, by decide, rfl, by rw [padT_zero]; exact A2, b2⟩
        case round =>
          clear A2 b2
          obtain ⟨j, hj, rfl, A2, b2⟩ := hrel
          by_cases hj56 : j < 56
          · have hjI : (j : Int) < 56 := by omega
            have hjl : (j : Int) < 64 := by omega
            have hw : ∀ {ad : Addr} {v : Value}, w.cell? ad = some v → wr.cell? ad = some v := fun h => cell_later b2 (cell_later hdr h)
            have hsq := hw hs
            rw [Nat.add_comm k 1] at hsq
            rw [bs_length, show q0.length = 64 from h64'] at hsq
            have hcj := hw (hsc j (by rw [show q0.length = 64 from h64']; omega))
            have hok : WrOk ((num l2 : Nat), (kb : Nat), padT j q0) := padT_length h64' hj
            obtain ⟨ob, g1, g2⟩ := A2.byte hok j hj56
            have hset := A2.setByte j (q0[j]'(by rw [show q0.length = 64 from h64']; omega)) _ rfl
            have e := padT_succ h64' hj56
            dsimp only at hset
            rw [e] at hset
            have hset := Lib.hid hset
            clear e hw
            generalize (q0[j]'(by rw [show q0.length = 64 from h64']; omega)) = bj at *
            go_wp2_with fail
            go_roundw
            case rel =>
              obtain ⟨A3, g3, z3⟩ := hset
              exact ⟨j + 1, by omega, by go_num, A3, below_row b2 g3 b2.size hg⟩
            case measure => simp only [intOf]; omega
          · obtain rfl : j = 56 := by omega
            rw [show ((56 : Nat) : Int) = 56 from rfl]
            rw [padT_all h64'] at A2
            have ok8 : WrOk (((num l2 : Nat) : Int), ((kb : Nat) : Int), overB Z56 q0) := overB_length Z56_length
            go_wp2_with (refine wp_want rfl fun K hK => ?_; first | (refine wp_wr_load A2 ok8 rfl rfl ?_; refine hK _ _ ?_; clear hK K) | refine wp_wr_slice1 _ ok8 rfl rfl ?_)
            intro w9 A9 b9 s9
            refine hK _ _ ?_
            clear hK K
            have hU9 := own_below (own_below hUd b2) b9
            have hb8 := hdr.trans (b2.mono hdr.size)
            have hb9 := hb8.trans (b9.mono hb8.size)
            go_wp2_with (refine wp_want rfl fun K hK => ?_; refine wp_wr_app w.heap.size _ (readAll L k) _ wr.heap.size k (readAll_length L k) (by omega) ok8 hU9 A9 hb9.size rfl rfl rfl ?_)
            intro v10 w10 U10 O10
            refine hK _ _ ?_
            clear hK K
            have hb10' := hb9.trans (O10.below hb9.size (own_ge hU9))
            have eS : (readAll L (k + 1)).flatMap wrC = (readAll L k).flatMap wrC ++ wrC (readW L k) := by rw [readAll_succ]; simp
            rw [← show readW L k = _ from hkd, ← eS] at U10
            clear eS
            go_wp2_with fail
            go_roundw
            case rel => exact ⟨k + 1, by omega, by go_num, U10, hb10'⟩
            case measure => simp only [intOf]; omega
      · have hq : ((q0.length : Int) != 64) = true := by rw [bne_iff_ne]; omega
        have hno := hnl h64
        clear h64 hnlen hnot hyes hRk hks hel hR hrsq hrs hnl
        go_wp2_with fail
        go_ret3
        exact ⟨hTakeNo _ hno, hb⟩
    · have hkm : k = m := by omega
      rw [hkm] at hU ⊢
      clear hkm hlt hk hz hb10 hr0 hR hnlen
      have hRw : RdW wr u12 (readAll L m) := RdS.of_own (fun x hx => wrC_length (readAll_ok L m x hx)) (by rw [readAll_length]; exact hU)
      go_wp2_with fail
      refine (refPutRec_any label epoch seq _ (readAll L m) _ he hsq (by rw [readAll_length]; omega) (readAll_ok L m) hRw).mono ?_
      rintro e w2 ⟨hgood, hbad, b2⟩
      have hb2 := hb.trans (b2.mono hb.size)
      have hU2 := own_below hU b2
      by_cases hok : okW (readAll L m)
      · obtain ⟨u, rfl, hO⟩ := hgood hok
        have hV := hO.rd
        have hVl : (recB label epoch seq (readAll L m)).length = m + 1 := by simp [recB, readAll_length]
        obtain ⟨va, vc, sv, ev, p1, p2, p3, p4, p5⟩ := hV.sl
        rw [hVl] at ev p1 p3
        subst ev
        have hel2 : ∀ j, j < m + 1 → ∃ vd s, va = some vd ∧ w2.cell? (vd.add j) = some s ∧ Rd w2 s (bs ((recB label epoch seq (readAll L m))[j]?.getD [])) := fun j h => by
          obtain ⟨ad', e, hc⟩ := p4 j (by omega)
          refine ⟨ad', _, e, hc, ?_⟩
          rw [List.getElem?_eq_getElem (by omega)]
          exact p5 j (by omega) (by omega)
        clear hgood hbad hRw hnok p4 p5
        go_wp2_with fail
        obtain ⟨wo, rfl⟩ : ∃ wo : World, wo = wr := ⟨_, rfl⟩
        go_loopw [18] (fun i wq => ∃ n : Nat, n ≤ m + 1 ∧ i = .int .i64 n ∧ (recB label epoch seq (readAll L m)).take n = L.take n ∧ Below w2.heap.size w2 wq) (fun i _ => m + 1 - (intOf i).toNat)
        case atStart => exact ⟨0, by omega, rfl, rfl, Below.refl _ _⟩
        case round =>
          obtain ⟨n, hn, rfl, hsame, b3⟩ := hrel
          by_cases hlt : n < m + 1
          · have hlI : (n : Int) < (m : Int) + 1 := by omega
            have hnL : (n : Int) < (L.length : Int) := by omega
            obtain ⟨s, hs, hrs⟩ := hel n (by omega)
            obtain ⟨vd, u, rfl, hvs, hvr⟩ := hel2 n hlt
            have hLn : L[n]? = some (L[n]?.getD []) := by rw [List.getElem?_eq_getElem (by omega)]; rfl
            have hVn : (recB label epoch seq (readAll L m))[n]? = some ((recB label epoch seq (readAll L m))[n]?.getD []) := by rw [List.getElem?_eq_getElem (by omega)]; rfl
            have hnn := hnot n
            have hst : (recB label epoch seq (readAll L m))[n]?.getD [] = L[n]?.getD [] → (recB label epoch seq (readAll L m)).take (n + 1) = L.take (n + 1) := fun h => by
              rw [List.take_add_one, List.take_add_one, hsame, hVn, hLn, h]
            rw [hVn, hLn] at hnn
            generalize L[n]?.getD [] = y2 at *
            generalize (recB label epoch seq (readAll L m))[n]?.getD [] = y1 at *
            have hb3 := hb2.trans (b3.mono hb2.size)
            have hb7 : Below w.heap.size w wr.drew := hb3.drew
            have b7 : Below w2.heap.size w2 wr.drew := b3.drew
            have k2 := cell_later hb7 hs
            have r2 := hrs.below hb7
            have k1 := cell_later b7 hvs
            have r1 := hvr.below b7
            obtain ⟨w7, h7⟩ : ∃ x, x = World.drew wr := ⟨_, rfl⟩
            have h7s := h7.symm
            rw [← h7] at k1 k2 r1 r2 hb7 b7
            obtain ⟨b1, d1, rfl, _⟩ := id r1
            obtain ⟨b2', d2, rfl, _⟩ := id r2
            have Hst := Lib.hid hst
            have Hnn := Lib.hid hnn
            clear hst hnn hVn hLn hsame hs hrs hvs hvr hel hel2 hnot hyes
            by_cases hy : y1 = y2
            · have hyb : (y1 == y2) = true := by rw [beq_iff_eq]; exact hy
              have hyn : (y1 != y2) = false := by rw [bne_eq_false_iff_eq]; exact hy
              have Hs := Lib.hid (Hst.out hy)
              clear hy Hst Hnn
              go_wp2_with fail
              refine Zig.wp_region_zig [(false, 0), (false, 1), (false, 2), (false, 3), (false, 4), (false, 5), (false, 6), (false, 7), (false, 8), (false, 9), (false, 10)] (fun W => W = w7) (by kernel_rfl) (by kernel_rfl) h7s ?_
              simp only [Zig.sel, List.drop_succ_cons, List.drop_zero]
              generalize World.drew wr = w8 at *
              haveI : Nonempty (Zig.Lt (fun W => W = w7)) := ⟨⟨w8, h7s⟩⟩
              have i1 : ∀ x : Zig.Lt (fun W => W = w7), x.1.cell? (vd.add n) = some (.slice b1 (bs y1).length d1) := fun x => by rw [x.2]; exact k1
              have i2 : ∀ x : Zig.Lt (fun W => W = w7), x.1.cell? (ad.add n) = some (.slice b2' (bs y2).length d2) := fun x => by rw [x.2]; exact k2
              have j1 : ∀ x : Zig.Lt (fun W => W = w7), (convert 37 9 (.slice b1 (bs y1).length d1)).run Try.prog x.1 = .ok (.string ⟨y1.toArray⟩) x.1 := fun x => by rw [x.2]; exact run_string_of r1 _ 5 _ Try.underlying37 Try.underlying5 Try.underlying9
              have j2 : ∀ x : Zig.Lt (fun W => W = w7), (convert 37 9 (.slice b2' (bs y2).length d2)).run Try.prog x.1 = .ok (.string ⟨y2.toArray⟩) x.1 := fun x => by rw [x.2]; exact run_string_of r2 _ 5 _ Try.underlying37 Try.underlying5 Try.underlying9
              rw [bs_length] at i1 i2 j1 j2
              repeat (refine Zig.zig_step (fun K hK => ?_); go_simp; refine hK _ ?_; clear hK K)
              refine Zig.zig_nil ?_
              clear i1 i2 j1 j2
              subst h7s
              go_wp2_with fail
              go_roundw
              case rel => exact ⟨n + 1, by omega, by go_num, Hs.out, b7⟩
              case measure => simp only [intOf]; omega
            · have hyb : (y1 == y2) = false := by rw [beq_eq_false_iff_ne]; exact hy
              have hyn : (y1 != y2) = true := by rw [bne_iff_ne]; exact hy
              have hno := Hnn.out (fun e => hy (Option.some.inj e)) hlt
              clear hy Hst Hnn
              go_wp2_with fail
              refine Zig.wp_region_zig [(false, 0), (false, 1), (false, 2), (false, 3), (false, 4), (false, 5), (false, 6), (false, 7), (false, 8), (false, 9), (false, 10)] (fun W => W = w7) (by kernel_rfl) (by kernel_rfl) h7s ?_
              simp only [Zig.sel, List.drop_succ_cons, List.drop_zero]
              generalize World.drew wr = w8 at *
              haveI : Nonempty (Zig.Lt (fun W => W = w7)) := ⟨⟨w8, h7s⟩⟩
              have i1 : ∀ x : Zig.Lt (fun W => W = w7), x.1.cell? (vd.add n) = some (.slice b1 (bs y1).length d1) := fun x => by rw [x.2]; exact k1
              have i2 : ∀ x : Zig.Lt (fun W => W = w7), x.1.cell? (ad.add n) = some (.slice b2' (bs y2).length d2) := fun x => by rw [x.2]; exact k2
              have j1 : ∀ x : Zig.Lt (fun W => W = w7), (convert 37 9 (.slice b1 (bs y1).length d1)).run Try.prog x.1 = .ok (.string ⟨y1.toArray⟩) x.1 := fun x => by rw [x.2]; exact run_string_of r1 _ 5 _ Try.underlying37 Try.underlying5 Try.underlying9
              have j2 : ∀ x : Zig.Lt (fun W => W = w7), (convert 37 9 (.slice b2' (bs y2).length d2)).run Try.prog x.1 = .ok (.string ⟨y2.toArray⟩) x.1 := fun x => by rw [x.2]; exact run_string_of r2 _ 5 _ Try.underlying37 Try.underlying5 Try.underlying9
              rw [bs_length] at i1 i2 j1 j2
              repeat (refine Zig.zig_step (fun K hK => ?_); go_simp; refine hK _ ?_; clear hK K)
              refine Zig.zig_nil ?_
              clear i1 i2 j1 j2
              subst h7s
              go_wp2_with fail
              go_ret3
              exact ⟨hTakeNo _ hno, hb7⟩
          · obtain rfl : n = m + 1 := by omega
            have hlI : ¬ ((m : Int) + 1) < (m : Int) + 1 := by omega
            rw [show ((m + 1 : Nat) : Int) = (m : Int) + 1 by omega]
            have hT := fun w' h => hTake u12 w' h (hyes hok hsame)
            have hb3 := hb2.trans (b3.mono hb2.size)
            have hU3 := own_below hU2 b3
            clear hel hel2 hnot hyes hTake hsame
            go_wp2_with fail
            go_ret3
            exact ⟨hT _ hU3, hb3⟩
      · have e := hbad hok
        subst e
        have hno := hnok hok
        clear hgood hbad hRw hnok hnot hyes
        go_wp2_with fail
        go_ret3
        exact ⟨hTakeNo _ hno, hb2⟩
theorem refTakeRec_any (label : UInt8) (epoch seq : Nat) (v : Value) (L : List (List UInt8)) (w : World) (he : epoch < 4294967296) (hsq : seq < 4294967296) (hv : RdL w v L) :
    Calls Try.prog 36 #[u8 label, .int .u32 epoch, .int .u32 seq, v] w fun e w' => TakeIs label epoch seq L w.heap.size e w' ∧ Below w.heap.size w w' := by
  by_cases h : fitR L
  · exact refTake_yes label epoch seq v L w he hsq hv h
  · refine (refTake_no label epoch seq v L w hv h).mono ?_
    rintro e w' ⟨rfl, b⟩
    exact ⟨takeIs_no fun k => h k.1, b⟩
end Go.Proofs.Ytgeiafijibgdhaa.Cl
