/- The law RecOld. -/
import Derived.Test.YtgeiafijibgdhaaRecL
set_option linter.unusedVariables false
set_option linter.unusedSimpArgs false
namespace Go.Proofs.Ytgeiafijibgdhaa.Cl
open Go Go.Proofs Go.RowKit Fl Rely

theorem num_be2 (n : Nat) : num (be 2 n) = n % 65536 := by
  unfold num
  rw [foldl_be]; omega
theorem image_epoch {epoch seq : Nat} {x : Wr} (hx : WrOk x) : ((imageB epoch seq x).drop 56).take 2 = be 2 epoch := by
  have h56 : x.2.2.length = 56 := hx
  unfold imageB
  rw [filled_mid (by simp [be_length, h56]) 56 2 (by simp [be_length, h56]), List.append_assoc, List.drop_left' h56, List.take_left' (be_length _ _)]
theorem recB_at (label : UInt8) (epoch seq : Nat) (l : List Wr) (i : Nat) (hi : i < l.length) : (recB label epoch seq l)[i + 1]? = some (imageB epoch seq l[i]) := by
  unfold recB
  rw [List.getElem?_cons_succ, List.getElem?_map, List.getElem?_eq_getElem hi]
  rfl
theorem old_not {label : UInt8} {e1 e2 seq : Nat} {la lb : List Wr} (hb : okW lb) (hla : ∀ x ∈ la, WrOk x) (hlen : la.length = lb.length) (hne : e1 % 65536 ≠ e2 % 65536) (i : Nat) (hi : i < lb.length) {y : List UInt8} (hy : (recB label e1 seq la)[i + 1]? = some y) :
    ¬ goodR label e2 seq ((recB label e2 seq lb).set (i + 1) y) := by
  rintro ⟨_, _, he⟩
  have hm : manyR ((recB label e2 seq lb).set (i + 1) y) = lb.length := by
    have := many_own (label := label) (epoch := e2) (seq := seq) [] hb.2.2
    rw [List.append_nil] at this
    rw [← this]
    unfold recB
    rfl
  rw [hm] at he
  have hr : i < (readAll ((recB label e2 seq lb).set (i + 1) y) lb.length).length := by rw [readAll_length]; exact hi
  have h1 := recB_at label e2 seq _ i hr
  rw [he, List.getElem?_take, if_pos (by omega), List.getElem?_set_self (by rw [recB_length]; omega)] at h1
  have hi' : i < la.length := by omega
  rw [recB_at label e1 seq la i hi'] at hy
  have h2 : imageB e1 seq (la[i]'hi') = imageB e2 seq ((readAll ((recB label e2 seq lb).set (i + 1) y) lb.length)[i]'hr) := (Option.some.inj hy).trans (Option.some.inj h1)
  have h3 : ((imageB e1 seq (la[i]'hi')).drop 56).take 2 = ((imageB e2 seq ((readAll ((recB label e2 seq lb).set (i + 1) y) lb.length)[i]'hr)).drop 56).take 2 := by rw [h2]
  rw [image_epoch (hla _ (List.getElem_mem hi')), image_epoch (readAll_ok _ _ _ (List.getElem_mem hr))] at h3
  have h4 := congrArg num h3
  rw [num_be2, num_be2] at h4
  exact hne h4

theorem OL.shape {w : World} {B : Nat} {v : Value} {L : List (List UInt8)} (h : OL w B v L) (h0 : 0 < L.length) : ∃ g c, v = .slice (some ⟨g, 0, none⟩) L.length c ∧ B ≤ g ∧ g < w.heap.size := by
  obtain ⟨sl, h1, h2, _⟩ := h
  obtain ⟨g, c, e, hb, hg, _⟩ := own_shape h1 (by omega)
  exact ⟨g, c, by rw [e, h2], hb, hg⟩
theorem OL.elem {w : World} {B n c : Nat} {a : Option Addr} {L : List (List UInt8)} (h : OL w B (.slice a n c) L) (j : Nat) (hj : j < L.length) : ∃ ad y, a = some ad ∧ w.cell? (ad.add j) = some y ∧ Rd w y (bs L[j]) ∧ ∀ g, inBlock y g → g < w.heap.size := by
  obtain ⟨sl, h1, h2, h3⟩ := h
  obtain ⟨ad, ea, hc⟩ := (Rd.of_own h1).at_ j (by omega)
  obtain ⟨r1, _, r3⟩ := h3 j (by omega) hj
  exact ⟨ad, _, ea, hc, r1, r3⟩
theorem OL.empty (w : World) : OL (w.alloc (.cells #[] 37)) w.heap.size (.slice (some ⟨w.heap.size, 0, none⟩) 0 0) [] :=
  ⟨[], own_lit w.heap.size w 37 #[] 0 (Nat.le_refl _) rfl (by simp), rfl, fun j h => by simp at h⟩

set_option maxRecDepth 100000 in
set_option maxHeartbeats 4000000 in
theorem recOld_law (label : UInt8) (epoch seq more : Nat) (va vb : Value) (la lb : List Wr) (w : World) (he : epoch < 65536) (hs : seq < 65536) (hmo : more < 256) (hoka : ∀ x ∈ la, WrOk x) (hokb : ∀ x ∈ lb, WrOk x) (hva : RdW w va la) (hvb : RdW w vb lb) :
    Calls Try.prog 11 #[u8 label, .int .u16 epoch, .int .u16 seq, .int .u8 more, va, vb] w fun e w' => e = .returned (.bool true) ∧ Below w.heap.size w w' := by
  have hMa := fun w hv => mayW_any va la w hoka hv
  have hMb := fun w hv => mayW_any vb lb w hokb hv
  obtain ⟨aa, ca, rfl, _⟩ := id hva
  obtain ⟨ab, cb, rfl, _⟩ := id hvb
  by_cases ha : okW la
  · rw [decide_eq_true ha] at hMa
    by_cases hb : okW lb
    · rw [decide_eq_true hb] at hMb
      by_cases hlen : la.length = lb.length
      · by_cases hm0 : more = 0
        · have hme : ((more : Int) == 0) = true := by rw [beq_iff_eq]; omega
          have hle : ((la.length : Int) != (lb.length : Int)) = false := by rw [bne_eq_false_iff_eq]; omega
          have Hlen := Lib.hid hlen
          have Hm := Lib.hid hm0
          clear hlen hm0
          go_enter Try.func11, Try.ntmps11
          go_wp2_with fail
          refine (recBegun_any _).mono ?_
          rintro e w1 ⟨rfl, W⟩
          go_wp2_with fail
          refine (hMa _ (hva.below W)).mono ?_
          rintro e w2 ⟨rfl, b2⟩
          have W := W.trans (b2.mono W.size)
          go_wp2_with fail
          refine (hMb _ (hvb.below W)).mono ?_
          rintro e w3 ⟨rfl, b3⟩
          have W := W.trans (b3.mono W.size)
          go_wp2_with fail
          go_ret
          exact ⟨rfl, W⟩
        · skip
          have hl12 : lb.length ≤ 12 := hb.2.2
          have hPa := fun w hv => recPut_any label epoch seq (.slice aa la.length ca) la w (by omega) (by omega) (by omega) hoka hv
          have hPb := fun w hv => recPut_any label (epoch + more) seq (.slice ab lb.length cb) lb w (by omega) (by omega) (by omega) hokb hv
          rw [Int.natCast_add] at hPb
          have hwe : IntKind.u32.wrap (epoch : Int) = (epoch : Int) := by rw [IntKind.wrap_u32]; omega
          have hws : IntKind.u32.wrap (seq : Int) = (seq : Int) := by rw [IntKind.wrap_u32]; omega
          have hwm : IntKind.u32.wrap (more : Int) = (more : Int) := by rw [IntKind.wrap_u32]; omega
          have hwa : IntKind.u32.wrap ((epoch : Int) + (more : Int)) = (epoch : Int) + (more : Int) := by rw [IntKind.wrap_u32]; omega
          have hme : ((more : Int) == 0) = false := by rw [beq_eq_false_iff_ne]; omega
          have hle : ((la.length : Int) != (lb.length : Int)) = false := by rw [bne_eq_false_iff_eq]; omega
          have Hlen := Lib.hid hlen
          clear hlen
          go_enter Try.func11, Try.ntmps11
          go_wp2_with fail
          refine (recBegun_any _).mono ?_
          rintro e w1 ⟨rfl, W⟩
          go_wp2_with fail
          refine (hMa _ (hva.below W)).mono ?_
          rintro e w2 ⟨rfl, b2⟩
          have W := W.trans (b2.mono W.size)
          go_wp2_with fail
          refine (hMb _ (hvb.below W)).mono ?_
          rintro e w3 ⟨rfl, b3⟩
          have W := W.trans (b3.mono W.size)
          go_wp2_with fail
          refine (hPa _ (hva.below W)).mono ?_
          rintro e w4 ⟨hy4, _, b4⟩
          obtain ⟨u4, rfl, hO4⟩ := hy4 ha
          have W := W.trans (b4.mono W.size)
          go_wp2_with fail
          refine (hPb _ (hvb.below W)).mono ?_
          rintro e w5 ⟨hy5, _, b5⟩
          obtain ⟨u5, rfl, hO5⟩ := hy5 hb
          have W := W.trans (b5.mono W.size)
          have hO4 := hO4.below b5
          obtain ⟨a4, c4, _, ev4, _⟩ := hO4.rd.sl
          obtain ⟨a5, c5, _, ev5, _⟩ := hO5.rd.sl
          rw [recB_length] at ev4 ev5
          subst ev4
          subst ev5
          have hle' : ((la.length : Int) + 1 != (lb.length : Int) + 1) = false := by rw [bne_eq_false_iff_eq, show la.length = lb.length from Hlen]
          go_upto_region 9 with fail
          go_wp2_with fail
          go_loopw [17, 18, 19, 20, 21] (fun i _ _ _ _ wr => ∃ k : Nat, k ≤ lb.length ∧ i = .int .i64 ((k : Int) + 1) ∧ Below w5.heap.size w5 wr) (fun i _ _ _ _ _ => (lb.length + 1) - (intOf i).toNat)
          case atStart => exact ⟨0, Nat.zero_le _, rfl, Below.refl _ _⟩
          case round =>
            obtain ⟨k, hk, rfl, hb'⟩ := hrel
            by_cases hlt : k < lb.length
            · have hlI : (k : Int) + 1 < (lb.length : Int) + 1 := by omega
              have hO5r := hO5.below hb'
              go_wp2_with (refine wp_want rfl fun K hK => ?_; refine wp_appLL wr.heap.size _ _ _ [] (recB label (epoch + more) seq lb) (by simp [recB_length]; omega) (OL.empty wr) hO5r (below_new wr _) (Nat.le_refl _) (below_new wr _).size rfl rfl rfl ?_)
              intro v6 w6 hO6 t6
              refine hK _ _ ?_
              clear hK K
              have hO6 : OL w6 wr.heap.size v6 (recB label (epoch + more) seq lb) := hO6
              have b6 := (below_new wr (.cells #[] 37)).trans (t6.below (below_new wr _).size (fun k hk => by cases hk; exact Nat.le_refl _))
              obtain ⟨g6, c6, ev6, hg6, hg6'⟩ := hO6.shape (by rw [recB_length]; omega)
              rw [recB_length] at ev6
              subst ev6
              have hk1 : k + 1 < (recB label epoch seq la).length := by rw [recB_length, show la.length = lb.length from Hlen]; omega
              obtain ⟨ad, y, rfl, hcy, hry, hiy⟩ := hO4.elem (k + 1) hk1
              rw [Addr.add_succ'] at hcy
              obtain ⟨ay, cy, rfl, _⟩ := id hry
              have b56 := hb'.trans (b6.mono hb'.size)
              have hcy := cell_later b56 hcy
              have hry := hry.below b56
              have hgs := hb'.size
              obtain ⟨⟨z0, s1⟩, s2, s3, s4, s5⟩ := hO6.set (k + 1) (by rw [recB_length]; omega) hry (fun h => by have := hiy _ h; omega) (fun g h => Nat.lt_of_lt_of_le (hiy g h) b56.size)
              have b7 := below_row b6 s4 b6.size hg6
              clear s4 s5
              have hk0 : 0 ≤ (k : Int) + 1 := by omega
              have hka : k < la.length := by rw [show la.length = lb.length from Hlen]; exact hlt
              have hkI : (k : Int) + 1 < (la.length : Int) + 1 := by omega
              have hng := old_not (label := label) (e1 := epoch) (e2 := epoch + more) (seq := seq) hb hoka (show la.length = lb.length from Hlen) (by omega) k hlt (List.getElem?_eq_getElem hk1)
              generalize (recB label epoch seq la)[k + 1]'hk1 = yb at *
              have hT := fun v w hv => recTake_any label (epoch + more) seq v ((recB label (epoch + more) seq lb).set (k + 1) yb) w (by omega) (by omega) hv
              rw [Int.natCast_add] at hT
              generalize (recB label (epoch + more) seq lb).set (k + 1) yb = LS at *
              go_upto_region 14 with fail
              rw [bs_length] at s3 b7
              generalize w6.setCell ⟨g6, k + 1, none⟩ (.slice ay yb.length cy) = w7 at *
              clear s1 s2 hcy hry
              have hb7 := hb'.trans (b7.mono hb'.size)
              go_wp2_with fail
              refine (hT _ _ s3.rd).mono ?_
              rintro e w8 ⟨⟨_, hno⟩, b8⟩
              obtain rfl := hno hng
              have hb8 := hb7.trans (b8.mono hb7.size)
              go_wp2_with fail
              go_roundw
              case rel => exact ⟨k + 1, by omega, by go_num, hb8⟩
              case measure => simp only [intOf]; omega
            · have hlI : ¬ (k : Int) + 1 < (lb.length : Int) + 1 := by omega
              have W := W.trans (hb'.mono W.size)
              go_wp2_with fail
              go_ret
              exact ⟨rfl, W⟩
      · have hle : ((la.length : Int) != (lb.length : Int)) = true := by rw [bne_iff_ne]; omega
        have Hlen := Lib.hid hlen
        clear hlen
        go_enter Try.func11, Try.ntmps11
        go_wp2_with fail
        refine (recBegun_any _).mono ?_
        rintro e w1 ⟨rfl, W⟩
        go_wp2_with fail
        refine (hMa _ (hva.below W)).mono ?_
        rintro e w2 ⟨rfl, b2⟩
        have W := W.trans (b2.mono W.size)
        go_wp2_with fail
        refine (hMb _ (hvb.below W)).mono ?_
        rintro e w3 ⟨rfl, b3⟩
        have W := W.trans (b3.mono W.size)
        go_wp2_with fail
        go_ret
        exact ⟨rfl, W⟩
    · rw [decide_eq_false hb] at hMb
      go_enter Try.func11, Try.ntmps11
      go_wp2_with fail
      refine (recBegun_any _).mono ?_
      rintro e w1 ⟨rfl, W⟩
      go_wp2_with fail
      refine (hMa _ (hva.below W)).mono ?_
      rintro e w2 ⟨rfl, b2⟩
      have W := W.trans (b2.mono W.size)
      go_wp2_with fail
      refine (hMb _ (hvb.below W)).mono ?_
      rintro e w3 ⟨rfl, b3⟩
      have W := W.trans (b3.mono W.size)
      go_wp2_with fail
      go_ret
      exact ⟨rfl, W⟩
  · rw [decide_eq_false ha] at hMa
    go_enter Try.func11, Try.ntmps11
    go_wp2_with fail
    refine (recBegun_any _).mono ?_
    rintro e w1 ⟨rfl, W⟩
    go_wp2_with fail
    refine (hMa _ (hva.below W)).mono ?_
    rintro e w2 ⟨rfl, b2⟩
    have W := W.trans (b2.mono W.size)
    go_wp2_with fail
    go_ret
    exact ⟨rfl, W⟩

theorem recOld_row (n0 n1 n2 n3 : Int) (va vb : Value) (la lb : List Wr) (W : World) (wf0 : (Lit.int .u8 n0).wf = true) (wf1 : (Lit.int .u16 n1).wf = true) (wf2 : (Lit.int .u16 n2).wf = true) (wf3 : (Lit.int .u8 n3).wf = true) (hoka : ∀ x ∈ la, WrOk x) (hokb : ∀ x ∈ lb, WrOk x) (hva : RdW W va la) (hvb : RdW W vb lb) :
    Calls Try.prog 11 #[.int .u8 n0, .int .u16 n1, .int .u16 n2, .int .u8 n3, va, vb] W fun e w' => e = .returned (.bool true) ∧ Below W.heap.size W w' := by
  obtain ⟨b0, rfl⟩ := wf_u8 wf0
  obtain ⟨b3, rfl⟩ := wf_u8 wf3
  obtain ⟨k1, rfl, h1⟩ := wf_u16 wf1
  obtain ⟨k2, rfl, h2⟩ := wf_u16 wf2
  exact recOld_law b0 k1 k2 b3.toNat va vb la lb W h1 h2 b3.toNat_lt hoka hokb hva hvb
end Go.Proofs.Ytgeiafijibgdhaa.Cl
