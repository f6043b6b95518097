/- rec: the document's PutRec. -/
import Derived.Test.YtgeiafijibgdhaaRecD2
import Derived.Deep.RegionHeld3
set_option linter.unusedVariables false
set_option linter.unusedSimpArgs false
namespace Go.Proofs.Ytgeiafijibgdhaa.Cl
open Go Go.Proofs Go.RowKit Fl Rely

theorem new_u8r {b : UInt8} {x : Int} (h : x = (b.toNat : Int)) (w : World) : Rd (w.alloc (.cells #[.int .u8 x] 5)) (.slice (some ⟨w.heap.size, 0, none⟩) 1 1) (bs [b]) := by
  subst h
  exact Rd.new w #[u8 b] 5 (0, 0) 1 rfl (by simp)
theorem S_new {B : Nat} {w W : World} {o : Obj} (h : Below B w W) (hB : B ≤ w.heap.size) : Below B w (W.alloc o) := h.trans ((below_new W o).mono (Nat.le_trans hB h.size))
theorem OB.lt' {w : World} {B : Nat} {v : Value} {l : List UInt8} (h : OB w B v l) : ∀ k, v.ownBlock = some k → k < w.heap.size := own_lt h
theorem float_kept {w w1 : World} {v v' : Value} {g n : Nat} {xs : List Value} (h : Rd w (.slice (some ⟨g, 0, none⟩) n n) xs) (t : Onto w v w1 v') (hv : ∀ k, v.ownBlock = some k → k < g) : Rd w1 (.slice (some ⟨g, 0, none⟩) n n) xs :=
  h.kept t.1 (fun k hk => by
    rintro ⟨a, m, c, e, e'⟩
    simp only [Value.slice.injEq, Option.some.injEq] at e
    obtain ⟨rfl, _⟩ := e
    have := hv k hk
    have : g = k := e'
    omega)
theorem be2_mod (n : Nat) : be 2 (n % 65536) = be 2 n := by
  simp only [be, List.cons.injEq, and_true]
  constructor
  · apply UInt8.toNat_inj.1; rw [UInt8.toNat_ofNat', UInt8.toNat_ofNat']; omega
  · apply UInt8.toNat_inj.1; rw [UInt8.toNat_ofNat', UInt8.toNat_ofNat']; omega
theorem slice_body_any (ad : Addr) (w : World) : (Instr.sliceAt 26 (.pointer (some ad)) none none none).run Try.prog w = .ok (.slice (some ad) 56 56) w := by
  rw [run_sliceAt_array_all w 26 _ under56, elem56, sizeOf_u8, len56]
  simp only [Result.andThen_ok, slicedAt, Nat.mul_one]
  rw [if_neg (by omega), Addr.add_zero']
theorem body_at {w : World} {ad : Addr} {x : Wr} (hx : WrOk x) (h : ∀ i u, (wrC x)[i]? = some u → w.cell? (ad.add i) = some u) : Rd w (.slice (some { ad with off := ad.off + 2, spot := none }) 56 56) (bs x.2.2) := by
  unfold WrOk at hx
  refine ⟨_, 56, by rw [bs_length, hx], by rw [bs_length, hx]; exact Nat.le_refl _, by omega, fun j hj => ⟨_, rfl, ?_⟩, fun h => by cases h⟩
  have e : (ad.add 2).add j = ad.add (2 + j) := add_add ad 2 j
  rw [show ad.add 2 = { ad with off := ad.off + 2, spot := none } from Addr.add_succ' ad 1] at e
  rw [e]
  rw [bs_length] at hj
  refine h (2 + j) _ ?_
  simp only [wrC]
  rw [Nat.add_comm 2 j]
  simp [hj]
set_option maxRecDepth 100000 in
set_option maxHeartbeats 8000000 in
theorem refPutRec_any (label : UInt8) (epoch seq : Nat) (v : Value) (l : List Wr) (w : World) (he : epoch < 4294967296) (hs : seq < 4294967296) (hl : l.length ≤ 1000) (hok : ∀ x ∈ l, WrOk x) (hv : RdW w v l) :
    Calls Try.prog 34 #[u8 label, .int .u32 epoch, .int .u32 seq, v] w fun e w' => (okW l → ∃ u, e = .returned (.tuple #[u, .bool true]) ∧ OL w' w.heap.size u (recB label epoch seq l)) ∧ (¬ okW l → e = .returned (.tuple #[.slice none 0 0, .bool false])) ∧ Below w.heap.size w w' := by
  have hm := fun w h => mayW_any v l w hok h
  obtain ⟨a, cap, rfl, hc1, hc2, hcell, _⟩ := id hv
  by_cases h : okW l
  · rw [decide_eq_true h] at hm
    have hnum := okW_num h
    have h12 := h.2.2
    have H := Lib.hid h
    clear h
    have e1 : IntKind.u64.wrap (epoch : Int) = (epoch : Int) := IntWalk.u64_in _ (by omega)
    have e2 : IntKind.u64.wrap (seq : Int) = (seq : Int) := IntWalk.u64_in _ (by omega)
    have e8 : IntKind.u8.wrap (l.length : Int) = (l.length : Int) := by rw [IntKind.wrap_u8]; omega
    go_enter Try.func34, Try.ntmps34
    go_wp2_with fail
    refine (hm _ hv).mono ?_
    rintro e w1 ⟨rfl, b1⟩
    clear hm
    have hE : OB (w1.alloc (.cells #[.int .u8 72, .int .u8 (label.toNat : Nat)] 5)) w.heap.size (.slice (some ⟨w1.heap.size, 0, none⟩) 2 2) [72, label] := OB.lit' w.heap.size w1 _ [72, label] 2 rfl rfl b1.size (by simp)
    have W := S_new (o := .cells #[.int .u8 72, .int .u8 (label.toNat : Nat)] 5) b1 (Nat.le_refl _)
    go_wp2_with fail
    refine (high4_any epoch w.heap.size _ (by omega) W.size).mono ?_
    rintro e w2 ⟨u2, rfl, O2, b2, _⟩
    have hE2 := hE.below b2
    have W := W.trans (b2.mono W.size)
    go_wp2_with (at_builtin; go_loud (refine wp_want rfl fun K hK => ?_; refine wp_appO w.heap.size _ _ [72, label] (be 4 epoch) (by rw [be_length]; simp) hE2 O2.rd W.size rfl rfl rfl ?_))
    intro u3 w3 O3 t3
    refine hK _ _ ?_
    clear hK K
    have W := W.trans (t3.below W.size hE2.ge)
    clear hE hE2 O2 b2 t3
    go_wp2_with fail
    refine (high4_any seq w.heap.size _ (by omega) W.size).mono ?_
    rintro e w4 ⟨u4, rfl, O4, b4, _⟩
    have O34 := O3.below b4
    have W := W.trans (b4.mono W.size)
    go_wp2_with (at_builtin; go_loud (refine wp_want rfl fun K hK => ?_; refine wp_appO w.heap.size _ _ ([72, label] ++ be 4 epoch) (be 4 seq) (by rw [List.length_append, be_length, be_length]; simp) O34 O4.rd W.size rfl rfl rfl ?_))
    intro u5 w5 O5 t5
    refine hK _ _ ?_
    clear hK K
    have W := W.trans (t5.below W.size O34.ge)
    clear O3 O34 O4 b4 t5
    have hby := new_u8r (b := UInt8.ofNat l.length) (x := (l.length : Int)) (by rw [UInt8.toNat_ofNat']; omega)
    go_wp2_with (at_builtin; go_loud (refine wp_want rfl fun K hK => ?_; refine wp_appO w.heap.size _ _ ([72, label] ++ be 4 epoch ++ be 4 seq) [UInt8.ofNat l.length] (by rw [List.length_append, List.length_append, be_length, be_length]; simp) (O5.below (below_new w5 _)) (hby w5) (Nat.le_trans W.size (le_new w5 _)) rfl rfl rfl ?_))
    intro u6 w6 O6 t6
    refine hK _ _ ?_
    clear hK K
    have W := (S_new W (Nat.le_refl _)).trans (t6.below (Nat.le_trans W.size (le_new w5 _)) O5.ge)
    clear O5 t6 hby
    go_wp2_with fail
    go_loopw [10, 11] (fun u i wr => ∃ k : Nat, k ≤ l.length ∧ i = .int .i64 k ∧ OB wr w.heap.size u (headL label epoch seq l |>.take (11 + 3 * k)) ∧ Below w.heap.size w wr) (fun _ i _ => l.length - (intOf i).toNat)
    case atStart => exact ⟨0, Nat.zero_le _, rfl, by
      have e : (headL label epoch seq l).take (11 + 3 * 0) = [72, label] ++ be 4 epoch ++ be 4 seq ++ [UInt8.ofNat l.length] := by
        unfold headL
        rw [List.take_left' (by simp [be_length])]
      rw [e]; exact O6, W⟩
    case round =>
      clear O6 W
      obtain ⟨k, hk, rfl, hU, hb⟩ := hrel
      by_cases hlt : k < l.length
      · have hlI : (k : Int) < (l.length : Int) := by omega
        obtain ⟨ad, rfl, hcx⟩ := hcell k hlt
        have hx := hok _ (List.getElem_mem hlt)
        have hn := hnum _ (List.getElem_mem hlt)
        have hts := headL_take label epoch seq l k hlt
        have hlen : ((headL label epoch seq l).take (11 + 3 * k)).length ≤ 60 := by rw [List.length_take, headL_length]; omega
        have hts := Lib.hid hts
        generalize (headL label epoch seq l).take (11 + 3 * k) = y at *
        generalize l[k] = x at *
        obtain ⟨at_, kind, body⟩ := x
        obtain ⟨⟨hk1, hk2⟩, ha1, ha2⟩ := hn
        dsimp only at hk1 hk2 ha1 ha2
        obtain ⟨an, rfl⟩ : ∃ n : Nat, at_ = (n : Int) := ⟨at_.toNat, by omega⟩
        obtain ⟨kn, rfl⟩ : ∃ n : Nat, kind = (n : Int) := ⟨kind.toNat, by omega⟩
        have ca := hcx 0 _ rfl
        have ck := hcx 1 _ rfl
        rw [Addr.add_zero'] at ca
        rw [show (1 : Nat) = 0 + 1 from rfl, Addr.add_succ', Nat.zero_add] at ck
        have ca : w.cell? (ad.add (k * 58)) = some (.int .i64 (an : Int)) := ca
        have ck : w.cell? { ad.add (k * 58) with off := (ad.add (k * 58)).off + 1, spot := none } = some (.int .i64 (kn : Int)) := ck
        have hkeep : ∀ W', Below w.heap.size w W' → (W'.cell? (ad.add (k * 58)) = some (.int .i64 (an : Int)) ∧ W'.cell? { ad.add (k * 58) with off := (ad.add (k * 58)).off + 1, spot := none } = some (.int .i64 (kn : Int))) ∧ Below w.heap.size w W' := fun W' h => ⟨⟨cell_later h ca, cell_later h ck⟩, h⟩
        have hbd : Below w.heap.size w wr.drew := hb.drew
        have hUd : OB wr.drew w.heap.size _ y := hU.drew
        have ea : IntKind.u64.wrap (an : Int) = (an : Int) := IntWalk.u64_in _ (by omega)
        have ek : IntKind.u8.wrap (kn : Int) = (kn : Int) := by rw [IntKind.wrap_u8]; omega
        have hkb : (kn : Int) = ((UInt8.ofNat kn).toNat : Int) := by rw [UInt8.toNat_ofNat']; omega
        have hnew := fun W => new_u8r hkb W
        have han : an < 18446744073709551616 := by omega
        have hl1 : y.length + (be 2 an).length ≤ 1000000 := by rw [be_length]; omega
        have hl2 : (y ++ be 2 an).length + [UInt8.ofNat kn].length ≤ 1000000 := by rw [List.length_append, be_length]; simp; omega
        have hult := OB.lt' hUd
        clear hv hcell hcx hx hkb
        obtain ⟨kb, hkbe⟩ : ∃ kb, kb = UInt8.ofNat kn := ⟨_, rfl⟩
        rw [← hkbe] at hnew hl2
        have hkbe := Lib.hid hkbe
        go_wp2_with fail
        go_region_held3 (fun W => (W.cell? (ad.add (k * 58)) = some (.int .i64 (an : Int)) ∧ W.cell? { ad.add (k * 58) with off := (ad.add (k * 58)).off + 1, spot := none } = some (.int .i64 (kn : Int))) ∧ Below w.heap.size w W)
          (first
            | exact hkeep _ hbd
            | exact hkeep _ (S_new (W := wr.drew) hbd (Nat.le_refl _))
            | (refine hkeep _ ?_; assumption)
            | (refine hkeep _ (S_new ?_ (Nat.le_refl _)); assumption))
          (first
            | (go_at_call 46; (with_reducible refine (high2_any an w.heap.size _ han ?_).mono ?_); exact hbd.size; rintro e w2 ⟨u2, rfl, ho2, hb2, _⟩; have hS2 := hbd.trans (hb2.mono hbd.size); have hU2 := hUd.below hb2)
            | (go_at_call 46; (with_reducible refine (high2_any an w.heap.size _ han ?_).mono ?_); exact (S_new (W := wr.drew) (o := .cells #[.int .u8 (kn : Int)] 5) hbd (Nat.le_refl _)).size; rintro e w2 ⟨u2, rfl, ho2, hb2, _⟩; have hS2 : Below w.heap.size w w2 := (S_new (W := wr.drew) (o := .cells #[.int .u8 (kn : Int)] 5) hbd (Nat.le_refl _)).trans (Below.mono hb2 (S_new (W := wr.drew) (o := .cells #[.int .u8 (kn : Int)] 5) hbd (Nat.le_refl _)).size); have hU2 := OB.below (w := wr.drew.alloc (.cells #[.int .u8 (kn : Int)] 5)) (hUd.below (below_new _ _)) hb2; have hF2 := Rd.below (w := wr.drew.alloc (.cells #[.int .u8 (kn : Int)] 5)) (hnew wr.drew) hb2)
            | (refine want_pos rfl ?_; refine wp_appO w.heap.size _ _ y (be 2 an) hl1 hU2 ho2.rd hS2.size rfl rfl rfl ?_; intro u8 w3 ho8 t8; have hS3 := hS2.trans (t8.below hS2.size hU2.ge); try have hF3 := float_kept hF2 t8 hult)
            | (refine want_pos rfl ?_; refine wp_appO w.heap.size _ _ y (be 2 an) hl1 (hU2.below (below_new w2 _)) (ho2.rd.below (below_new w2 _)) (S_new hS2 (Nat.le_refl _)).size rfl rfl rfl ?_; intro u8 w3 ho8 t8; have hS3 := (S_new hS2 (Nat.le_refl _)).trans (t8.below (S_new hS2 (Nat.le_refl _)).size hU2.ge); have hF3 := float_kept (hnew w2) t8 (fun k hk => Nat.lt_of_lt_of_le (hult k hk) hb2.size))
            | (refine want_pos rfl ?_; refine wp_appO w.heap.size _ _ (y ++ be 2 an) [kb] hl2 ho8 hF3 hS3.size rfl rfl rfl ?_; intro u9 w4 ho9 t9; have hS4 := hS3.trans (t9.below hS3.size ho8.ge))
            | (refine want_pos rfl ?_; refine wp_appO w.heap.size _ _ (y ++ be 2 an) [kb] hl2 (ho8.below (below_new w3 _)) (hnew w3) (S_new hS3 (Nat.le_refl _)).size rfl rfl rfl ?_; intro u9 w4 ho9 t9; have hS4 := (S_new hS3 (Nat.le_refl _)).trans (t9.below (S_new hS3 (Nat.le_refl _)).size ho8.ge)))
        all_goals
          clear hkeep hnew t8 t9 ho8
          go_wp2_with fail
          go_roundw
          case rel =>
            refine ⟨k + 1, by omega, by go_num, ?_, hS4⟩
            rw [hts.out]
            have e : y ++ placeB ((an : Int), (kn : Int), body) = y ++ be 2 an ++ [kb] := by rw [hkbe.out]; simp [placeB, be]
            rw [e]
            exact ho9
          case measure => simp only [intOf]; omega
      · obtain rfl : k = l.length := by omega
        rw [List.take_of_length_le (by rw [headL_length]; exact Nat.le_refl _)] at hU
        have hlI : ¬ ((l.length : Nat) : Int) < (l.length : Int) := by omega
        clear hlt hk
        go_wp2_with fail
        refine (refFilled_any _ (headL label epoch seq l) _ hU.rd (by rw [headL_length]; omega)).mono ?_
        rintro e w5 ⟨u5, rfl, h5, b5⟩
        have h5 := h5.mono hb.size
        have hb5 := hb.trans (b5.mono hb.size)
        have hlh : (headB label epoch seq l).length = 64 := filledB_length (by rw [headL_length]; omega)
        obtain ⟨g5, c5, rfl, k1, k2, k3, k4⟩ := ob_shape h5 hlh (by decide)
        have hL3 := OL.one w.heap.size w5 _ _ h5.rd (g := g5) rfl k2 hb5.size
        have b6 := S_new (o := .cells #[.slice (some ⟨g5, 0, none⟩) 64 c5] 37) hb5 (Nat.le_refl _)
        clear hlh hU b5
        obtain ⟨m1, hm1⟩ : ∃ m, m = epoch % 65536 := ⟨_, rfl⟩
        obtain ⟨m2, hm2⟩ : ∃ m, m = seq % 65536 := ⟨_, rfl⟩
        have em1 : ((epoch : Int) % 65536) = (m1 : Int) := by omega
        have em2 : ((seq : Int) % 65536) = (m2 : Int) := by omega
        have hh1 := fun w => high2_any m1 w.heap.size w (by omega) (Nat.le_refl _)
        have hh2 := fun w => high2_any m2 w.heap.size w (by omega) (Nat.le_refl _)
        rw [show be 2 m1 = be 2 epoch by rw [hm1, be2_mod]] at hh1
        rw [show be 2 m2 = be 2 seq by rw [hm2, be2_mod]] at hh2
        clear hm1 hm2
        go_wp2_with fail
        obtain ⟨wo, rfl⟩ : ∃ wo : World, wo = wr := ⟨_, rfl⟩
        go_loopw [12, 13, 14] (fun u i _ wr => ∃ k : Nat, k ≤ l.length ∧ i = .int .i64 k ∧ OL wr w.heap.size u (headB label epoch seq l :: (l.take k).map (imageB epoch seq)) ∧ Below w.heap.size w wr) (fun _ i _ _ => l.length - (intOf i).toNat)
        case atStart => exact ⟨0, Nat.zero_le _, rfl, hL3, b6⟩
        case round =>
          clear hL3 b6
          obtain ⟨k, hk, rfl, hU, hb⟩ := hrel
          by_cases hlt : k < l.length
          · have hlI : (k : Int) < (l.length : Int) := by omega
            obtain ⟨ad, rfl, hcx⟩ := hcell k hlt
            have hcx : ∀ i u, (wrC l[k])[i]? = some u → wr.cell? ((ad.add (k * 58)).add i) = some u := fun i u hu => cell_later hb (hcx i u hu)
            have hx := hok _ (List.getElem_mem hlt)
            have hts := Lib.hid (take_snoc l k hlt)
            generalize l[k] = x at *
            have hbr := body_at hx hcx
            have hx56 : x.2.2.length = 56 := hx
            have ys := fun w2 => slice_body_any { ad.add (k * 58) with off := (ad.add (k * 58)).off + 2, spot := none } w2
            clear hv hcell hcx
            go_wp2_with (at_builtin; go_loud (refine wp_want rfl fun K hK => ?_; refine wp_appO wr.heap.size _ _ [] x.2.2 (by rw [hx56]; decide) (OB.lit wr.heap.size wr [] 0 rfl (Nat.le_refl _) (by decide)) (hbr.below (below_new wr _)) (le_new wr _) rfl rfl rfl ?_))
            intro u7 w7 O7 t7
            refine hK _ _ ?_
            clear hK K
            have O7 : OB w7 wr.heap.size u7 x.2.2 := O7
            have b7 := (below_new wr (.cells (bs []).toArray 5)).trans (t7.below (below_new wr _).size (fun k hk => by cases hk; exact Nat.le_refl _))
            clear ys hbr t7
            go_wp2_with fail
            refine (hh1 _).mono ?_
            rintro e w8 ⟨u8', rfl, O8, b8, _⟩
            have O78 := O7.below b8
            have b8 := b7.trans (b8.mono b7.size)
            clear O7 b7
            go_wp2_with (at_builtin; go_loud (refine wp_want rfl fun K hK => ?_; refine wp_appO wr.heap.size _ _ x.2.2 (be 2 epoch) (by rw [hx56, be_length]; decide) O78 O8.rd b8.size rfl rfl rfl ?_))
            intro u9 w9 O9 t9
            refine hK _ _ ?_
            clear hK K
            have b9 := b8.trans (t9.below b8.size O78.ge)
            clear O78 O8 t9 b8
            go_wp2_with fail
            refine (hh2 _).mono ?_
            rintro e w10 ⟨u10, rfl, O10, b10, _⟩
            have O9' := O9.below b10
            have b10 := b9.trans (b10.mono b9.size)
            clear O9 b9
            go_wp2_with (at_builtin; go_loud (refine wp_want rfl fun K hK => ?_; refine wp_appO wr.heap.size _ _ (x.2.2 ++ be 2 epoch) (be 2 seq) (by rw [List.length_append, hx56, be_length, be_length]; decide) O9' O10.rd b10.size rfl rfl rfl ?_))
            intro u11 w11 O11 t11
            refine hK _ _ ?_
            clear hK K
            rw [← List.append_assoc] at O11
            have b11 := b10.trans (t11.below b10.size O9'.ge)
            clear O9' O10 t11 b10
            go_wp2_with fail
            refine (refFilled_any _ (x.2.2 ++ be 2 epoch ++ be 2 seq) _ O11.rd (by rw [List.length_append, List.length_append, hx56, be_length, be_length]; decide)).mono ?_
            rintro e w12 ⟨u12, rfl, O12, b12⟩
            have O12 := O12.mono b11.size
            have b12 := b11.trans (b12.mono b11.size)
            clear O11 b11
            have hU12 := hU.below b12
            have hb12 := hb.trans (b12.mono hb.size)
            have hli : (filledB (x.2.2 ++ be 2 epoch ++ be 2 seq)).length = 64 := filledB_length (by rw [List.length_append, List.length_append, be_length, be_length]; omega)
            obtain ⟨g7, c7, rfl, q1, q2, q3, q4⟩ := ob_shape O12 hli (by decide)
            clear hli
            have hin7 : ∀ g, inBlock (.slice (some ⟨g7, 0, none⟩) 64 c7) g → g = g7 := fun g hin => by
              obtain ⟨a, n, c, e, rfl⟩ := hin
              simp only [Value.slice.injEq, Option.some.injEq] at e
              rw [← e.1]
            have hfar : ∀ g, g < wr.heap.size → ¬ inBlock (.slice (some ⟨g7, 0, none⟩) 64 c7) g := fun g hg hin => by have := hin7 g hin; omega
            have hbl : ∀ g, inBlock (.slice (some ⟨g7, 0, none⟩) 64 c7) g → g < (w12.alloc (.cells #[.slice (some ⟨g7, 0, none⟩) 64 c7] 37)).heap.size := fun g hin => by have := hin7 g hin; simp; omega
            have hcl := (RowAt.new w12 37 #[.slice (some ⟨g7, 0, none⟩) 64 c7]).cell 0 _ rfl
            have hU8 := hU12.below (below_new w12 (.cells #[.slice (some ⟨g7, 0, none⟩) 64 c7] 37))
            go_wp2_with (at_builtin; go_loud (refine wp_want rfl fun K hK => ?_; refine wp_appL w.heap.size _ _ _ (filledB (x.2.2 ++ be 2 epoch ++ be 2 seq)) ⟨w12.heap.size, 0, none⟩ (by simp; omega) hU8 (Rd.below (OB.rd O12) (below_new w12 _)) (fun g hg => hfar g (hU.lt g hg)) hbl rfl hcl (Nat.le_trans hb12.size (le_new _ _)) rfl rfl rfl ?_))
            intro u8' w8 hO8 t8
            have hb8 := hb12.trans ((Onto.after (below_new w12 _) t8).below hb12.size hU12.ge)
            refine hK _ _ ?_
            clear hK K
            go_wp2_with fail
            go_roundw
            case rel =>
              refine ⟨k + 1, by omega, by go_num, ?_, hb8⟩
              rw [hts.out, List.map_append, List.map_take]
              rw [← List.append_assoc] at hO8
              exact hO8
            case measure => simp only [intOf]; omega
          · obtain rfl : k = l.length := by omega
            rw [List.take_length] at hU
            have hlI : ¬ ((l.length : Nat) : Int) < (l.length : Int) := by omega
            clear hv hcell
            go_wp2_with fail
            go_ret2
            exact ⟨fun _ => ⟨_, rfl, hU⟩, fun h => (h H.out).elim, hb⟩
  · rw [decide_eq_false h] at hm
    have H := Lib.hid h
    clear h hcell
    go_enter Try.func34, Try.ntmps34
    go_wp2_with fail
    refine (hm _ hv).mono ?_
    rintro e w1 ⟨rfl, b1⟩
    clear hm
    go_wp2_with fail
    go_ret2
    exact ⟨fun h => (H.out h).elim, fun _ => rfl, b1⟩
end Go.Proofs.Ytgeiafijibgdhaa.Cl
