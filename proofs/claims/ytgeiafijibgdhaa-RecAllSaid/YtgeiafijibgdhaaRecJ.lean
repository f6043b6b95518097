/- The law RecAll. -/
import Derived.Test.YtgeiafijibgdhaaRecI
set_option linter.unusedVariables false
set_option linter.unusedSimpArgs false
namespace Go.Proofs.Ytgeiafijibgdhaa.Cl
open Go Go.Proofs Go.RowKit Fl Rely

open Classical in
theorem put_form {label : UInt8} {epoch seq : Nat} {l : List Wr} : ∃ (b : Bool) (L : List (List UInt8)), ∀ (B : Nat) (e : Ending) (w' : World), (okW l → ∃ u, e = .returned (.tuple #[u, .bool true]) ∧ OL w' B u (recB label epoch seq l)) ∧ (¬ okW l → e = .returned (.tuple #[.slice none 0 0, .bool false])) → ∃ u, e = .returned (.tuple #[u, .bool b]) ∧ RdL w' u L := by
  by_cases h : okW l
  · refine ⟨true, recB label epoch seq l, fun B e w' k => ?_⟩
    obtain ⟨u, h1, h2⟩ := k.1 h
    exact ⟨u, h1, h2.rd⟩
  · exact ⟨false, [], fun B e w' k => ⟨_, k.2 h, (OL.nil w' B).rd⟩⟩
theorem take_form2 {label : UInt8} {epoch seq : Nat} {L : List (List UInt8)} : ∃ (b : Bool) (n : Int) (l : List Wr), (∀ x ∈ l, WrOk x) ∧ ∀ (B : Nat) (e : Ending) (w' : World), TakeIs label epoch seq L B e w' → ∃ u, e = .returned (.tuple #[u, .int .i64 n, .bool b]) ∧ RdW w' u l := by
  by_cases h : goodR label epoch seq L
  · refine ⟨true, (manyR L : Int) + 1, readAll L (manyR L), readAll_ok L _, fun B e w' k => ?_⟩
    obtain ⟨u, h1, h2⟩ := k.1 h
    exact ⟨u, h1, RdS.of_own (fun x hx => wrC_length (readAll_ok L _ x hx)) (by rw [readAll_length]; exact h2)⟩
  · exact ⟨false, 0, [], fun x hx => (by cases hx), fun B e w' k => ⟨_, k.2 h, RdS.nil _ _ _⟩⟩
theorem anc_form (o : Option Nat) : ∃ (n : Int) (b : Bool), ancV o = .tuple #[.int .u32 n, .bool b] := by
  cases o with
  | none => exact ⟨_, _, rfl⟩
  | some n => exact ⟨_, _, rfl⟩

set_option maxRecDepth 100000 in
set_option maxHeartbeats 8000000 in
theorem recAll_law (label : UInt8) (epoch seq : Nat) (v u x : Value) (l : List Wr) (L : List (List UInt8)) (lx : List UInt8) (w : World) (he : epoch < 4294967296) (hs : seq < 4294967296) (hok : ∀ x ∈ l, WrOk x) (hv : RdW w v l) (hu : RdL w u L) (hx : Rd w x (bs lx)) :
    Calls Try.prog 9 #[u8 label, .int .u32 epoch, .int .u32 seq, v, u, x] w fun e w' => e = .returned (.bool true) ∧ Below w.heap.size w w' := by
  obtain ⟨av, cv, ev⟩ : ∃ a c, v = .slice a l.length c := by
    obtain ⟨a, c, e, _⟩ := id hv
    exact ⟨a, c, e⟩
  obtain ⟨aL, cL, sl, eL, hL1, hL2, hsl, hcell, hrd⟩ := hu.sl
  obtain ⟨ax, cx, ex, _⟩ := id hx
  rw [bs_length] at ex
  subst ev
  subst eL
  subst ex
  by_cases hbig : 16 < l.length ∨ 16 < L.length ∨ 80 < lx.length
  · by_cases h1 : 16 < l.length
    · have h1I : (16 : Int) < (l.length : Int) := by omega
      go_enter Try.func9, Try.ntmps9
      go_wp2_with fail
      refine (recBegun_any _).mono ?_
      rintro e w1 ⟨rfl, W⟩
      go_wp2_with fail
      go_ret
      exact ⟨rfl, W⟩
    · have h1I : ¬ (16 : Int) < (l.length : Int) := by omega
      by_cases h2 : 16 < L.length
      · have h2I : (16 : Int) < (L.length : Int) := by omega
        go_enter Try.func9, Try.ntmps9
        go_wp2_with fail
        refine (recBegun_any _).mono ?_
        rintro e w1 ⟨rfl, W⟩
        go_wp2_with fail
        go_ret
        exact ⟨rfl, W⟩
      · have h2I : ¬ (16 : Int) < (L.length : Int) := by omega
        have h3I : (80 : Int) < (lx.length : Int) := by omega
        go_enter Try.func9, Try.ntmps9
        go_wp2_with fail
        refine (recBegun_any _).mono ?_
        rintro e w1 ⟨rfl, W⟩
        go_wp2_with fail
        go_ret
        exact ⟨rfl, W⟩
  · have h1I : ¬ (16 : Int) < (l.length : Int) := by omega
    have h2I : ¬ (16 : Int) < (L.length : Int) := by omega
    have h3I : ¬ (80 : Int) < (lx.length : Int) := by omega
    have hl16 : l.length ≤ 1000 := by omega
    clear hbig
    go_enter Try.func9, Try.ntmps9
    go_wp2_with fail
    refine (recBegun_any _).mono ?_
    rintro e w1 ⟨rfl, W⟩
    go_wp2_with fail
    go_loopw [13] (fun i wr => ∃ k : Nat, k ≤ L.length ∧ i = .int .i64 k ∧ Below w.heap.size w wr) (fun i _ => L.length - (intOf i).toNat)
    case atStart => exact ⟨0, Nat.zero_le _, rfl, W⟩
    case round =>
      clear W
      obtain ⟨k, hk, rfl, W⟩ := hrel
      by_cases hlt : k < L.length
      · have hlI : (k : Int) < (L.length : Int) := by omega
        obtain ⟨ad, rfl, hc⟩ := hcell k (by omega)
        have hc := cell_later W hc
        have hr := hrd k (by omega) hlt
        generalize sl[k]'(by omega) = s at *
        generalize L[k] = q at *
        obtain ⟨sa, sc, rfl, _⟩ := id hr
        rw [bs_length] at hc
        by_cases h80 : 80 < q.length
        · have h80I : (80 : Int) < (q.length : Int) := by omega
          clear hcell hrd hu hv hx
          go_wp2_with fail
          go_ret
          exact ⟨rfl, W⟩
        · have h80I : ¬ (80 : Int) < (q.length : Int) := by omega
          clear hcell hrd hu hv hx
          go_wp2_with fail
          go_roundw
          case rel => exact ⟨k + 1, by omega, by go_num, W⟩
          case measure => simp only [intOf]; omega
      · have hlI : ¬ (k : Int) < (L.length : Int) := by omega
        clear hcell hrd
        obtain ⟨bp, Lp, fp⟩ := put_form (label := label) (epoch := epoch) (seq := seq) (l := l)
        obtain ⟨bt, nt, lt, hlt', ft⟩ := take_form2 (label := label) (epoch := epoch) (seq := seq) (L := L)
        obtain ⟨na, ba, ea⟩ := anc_form (takeAnc label lx)
        have hA := fun v w h => takeAnchor_any label v lx w h
        have hB := fun v w h => refTakeAnchor_any label v lx w h
        rw [ea] at hA hB
        clear ea
        go_wp2_with fail
        refine (recPut_any label epoch seq _ l _ he hs hl16 hok (hv.below W)).mono ?_
        rintro e w2 ⟨k1, k2, b2⟩
        obtain ⟨u1, rfl, R1⟩ := fp _ _ _ ⟨k1, k2⟩
        clear k1 k2
        have W := W.trans (b2.mono W.size)
        go_wp2_with fail
        refine (refPutRec_any label epoch seq _ l _ he hs hl16 hok (hv.below W)).mono ?_
        rintro e w3 ⟨k1, k2, b3⟩
        obtain ⟨u2, rfl, R2⟩ := fp _ _ _ ⟨k1, k2⟩
        clear k1 k2
        have W := W.trans (b3.mono W.size)
        have R1 := R1.below b3
        go_wp2_with fail
        refine (recTake_any label epoch seq _ L _ he hs (hu.below W)).mono ?_
        rintro e w4 ⟨k1, b4⟩
        obtain ⟨t1, rfl, T1⟩ := ft _ _ _ k1
        clear k1
        have W := W.trans (b4.mono W.size)
        have R1 := R1.below b4
        have R2 := R2.below b4
        go_wp2_with fail
        refine (refTakeRec_any label epoch seq _ L _ he hs (hu.below W)).mono ?_
        rintro e w5 ⟨k1, b5⟩
        obtain ⟨t2, rfl, T2⟩ := ft _ _ _ k1
        clear k1
        have W := W.trans (b5.mono W.size)
        have R1 := R1.below b5
        have R2 := R2.below b5
        have T1 := RdS.below T1 b5
        go_wp2_with fail
        refine (hA _ _ (hx.below W)).mono ?_
        rintro e w6 ⟨rfl, b6⟩
        have W := W.trans (b6.mono W.size)
        have R1 := R1.below b6
        have R2 := R2.below b6
        have T1 := RdS.below T1 b6
        have T2 := RdS.below T2 b6
        go_wp2_with fail
        refine (hB _ _ (hx.below W)).mono ?_
        rintro e w7 ⟨rfl, b7⟩
        have W := W.trans (b7.mono W.size)
        have R1 := R1.below b7
        have R2 := R2.below b7
        have T1 := RdS.below T1 b7
        have T2 := RdS.below T2 b7
        go_wp2_with fail
        have hdr := (Below.refl w7.heap.size w7).drew
        have hS := fun x : Lat w7.drew => sameT_any u1 u2 Lp Lp x.1 ((R1.below hdr).below x.2) ((R2.below hdr).below x.2)
        have hW := fun x : Lat w7.drew => sameW_any t1 t2 lt lt x.1 hlt' hlt' ((RdS.below T1 hdr).below x.2) ((RdS.below T2 hdr).below x.2)
        simp only [decide_true] at hS hW
        have ha1 := fun w => anchor_any label epoch w he
        have ha2 := fun w => refAnchor_any label epoch w he
        generalize anchorB label epoch = al at *
        clear R1 R2 T1 T2 hA hB fp ft b2 b3 b4 b5 b6 b7
        refine wp_region_rely 44 (by kernel_rfl) (by kernel_rfl) ?_
        simp only [List.take_succ_cons, List.take_zero]
        generalize World.drew w7 = wd at *
        repeat (first
          | (refine wpR_step0 ?_ ?_ (fun K hK => ?_); rfl; rfl; go_simp; refine hK _ ?_; clear hK K)
          | (refine wpR_step0 ?_ ?_ (fun K hK => ?_); rfl; rfl; go_simp; apply Exists.intro; refine ⟨fun x => ?_, hK _ ?_⟩; (first | (with_reducible exact hS x) | (with_reducible exact hW x)); clear hK K))
        refine wpR_fresh (fun v W => OB W w7.heap.size v al) 127 rfl rfl rfl rfl (of_decide_eq_true rfl) (persist_OB _ _) (fun x => ?_) ?_
        · go_simp
          exact (ha1 x.1).mono fun _ _ ⟨u, h1, h2, h3⟩ => ⟨u, h1, h3, h2.mono (Nat.le_trans hdr.size x.2.size)⟩
        refine wpR_settled (.string ⟨al.toArray⟩) [(127, fun v W => OB W w7.heap.size v al)] rfl rfl rfl (fun x => ?_) ?_
        · simp only [close]
          intro u hu
          have hcu := run_string_of (P := Try.prog) hu.rd 37 5 9 Try.underlying37 Try.underlying5 Try.underlying9
          go_simp
        repeat (first
          | (refine wpR_step0 ?_ ?_ (fun K hK => ?_); rfl; rfl; go_simp; refine hK _ ?_; clear hK K))
        refine wpR_fresh (fun v W => OB W w7.heap.size v al) 131 rfl rfl rfl rfl (of_decide_eq_true rfl) (persist_OB _ _) (fun x => ?_) ?_
        · go_simp
          exact (ha2 x.1).mono fun _ _ ⟨u, h1, h2, h3⟩ => ⟨u, h1, h3, h2.mono (Nat.le_trans hdr.size x.2.size)⟩
        refine wpR_settled (.string ⟨al.toArray⟩) [(131, fun v W => OB W w7.heap.size v al)] rfl rfl rfl (fun x => ?_) ?_
        · simp only [close]
          intro u hu
          have hcu := run_string_of (P := Try.prog) hu.rd 37 5 9 Try.underlying37 Try.underlying5 Try.underlying9
          go_simp
        repeat (first
          | (refine wpR_step0 ?_ ?_ (fun K hK => ?_); rfl; rfl; go_simp; refine hK _ ?_; clear hK K))
        refine wpR_nil fun x => ?_
        obtain ⟨we, web⟩ := x
        simp only [close, List.drop_succ_cons, List.drop_zero]
        intro u131 hu131 u127 hu127
        simp only [Act.put, List.setIfInBounds_toArray, List.set_cons_zero, List.set_cons_succ]
        go_wp2_with fail
        go_ret
        exact ⟨rfl, W.trans ((hdr.trans (web.mono hdr.size)).mono W.size)⟩
theorem recAll_row (n0 n1 n2 : Int) (v3 v4 v5 : Value) (l3 : List Wr) (l4 : List (List UInt8)) (l5 : List UInt8) (w : World) (wf0 : (Lit.int .u8 n0).wf = true) (wf1 : (Lit.int .u32 n1).wf = true) (wf2 : (Lit.int .u32 n2).wf = true) (hok : ∀ x ∈ l3, WrOk x) (h3 : RdW w v3 l3) (h4 : RdL w v4 l4) (h5 : Rd w v5 (bs l5)) :
    Calls Try.prog 9 #[.int .u8 n0, .int .u32 n1, .int .u32 n2, v3, v4, v5] w fun e w' => e = .returned (.bool true) ∧ Below w.heap.size w w' := by
  obtain ⟨b0, rfl⟩ := wf_u8 wf0
  obtain ⟨m1, rfl, k1⟩ := wf_u32 wf1
  obtain ⟨m2, rfl, k2⟩ := wf_u32 wf2
  exact recAll_law b0 m1 m2 v3 v4 v5 l3 l4 l5 w k1 k2 hok h3 h4 h5
end Go.Proofs.Ytgeiafijibgdhaa.Cl
