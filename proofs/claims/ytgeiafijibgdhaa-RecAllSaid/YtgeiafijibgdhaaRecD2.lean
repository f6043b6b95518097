/- rec: the document's TakeAnchor. -/
import Derived.Test.YtgeiafijibgdhaaRecD
set_option linter.unusedVariables false
set_option linter.unusedSimpArgs false
namespace Go.Proofs.Ytgeiafijibgdhaa.Cl
open Go Go.Proofs Go.RowKit Fl Rely

set_option maxRecDepth 100000 in
set_option maxHeartbeats 4000000 in
theorem refTakeAnchor_any (label : UInt8) (v : Value) (l : List UInt8) (w : World) (hv : Rd w v (bs l)) :
    Calls Try.prog 38 #[u8 label, v] w fun e w' => e = .returned (ancV (takeAnc label l)) ∧ Below w.heap.size w w' := by
  by_cases h64 : l.length = 64
  · obtain ⟨a, cap, rfl, hc1, hc2⟩ := hv.some_ (by rw [bs_length]; omega)
    have h64v : (bs l).length = 64 := by rw [bs_length]; exact h64
    rw [h64v] at hv hc1 ⊢
    have h4 : ¬ cap = 3 := by omega
    have hc7 : 7 ≤ cap := by omega
    have hc7I : (7 : Int) ≤ (cap : Int) := by omega
    have hd := hv.sub 3 7 (by omega) (by omega)
    have es : sliced (some a) 3 7 cap 1 = .slice (some ⟨a.block, a.off + 3, none⟩) 4 (cap - 3) := by simp [sliced, h4, Addr.add]
    rw [es, show ((bs l).drop 3).take (7 - 3) = bs ((l.drop 3).take 4) from by simp [bs]] at hd
    have hlen4 : ((l.drop 3).take 4).length = 4 := by rw [List.length_take, List.length_drop]; omega
    have hnl := num_lt ((l.drop 3).take 4)
    rw [hlen4] at hnl
    have hnl : num ((l.drop 3).take 4) < 4294967296 := hnl
    have hcn := fun u w h => num_any u ((l.drop 3).take 4) w h (by omega)
    have hne := takeAnc_other (label := label) (l := l)
    have hla := takeAnc_last (label := label) (l := l)
    have hyes : num ((l.drop 3).take 4) ≠ 4294967295 → anchorB label (num ((l.drop 3).take 4)) = l → takeAnc label l = some (num ((l.drop 3).take 4)) := fun h k => by unfold takeAnc; rw [if_pos ⟨h64, h, k⟩]
    clear h64v hlen4 es
    generalize num ((l.drop 3).take 4) = n at *
    have e1 : IntKind.u32.wrap (n : Int) = (n : Int) := by rw [IntKind.wrap_u32]; omega
    have h64 := Lib.hid h64
    by_cases hlast : n = 4294967295
    · rw [hla hlast]
      have hl1 : ((n : Int) == 4294967295) = true := by rw [beq_iff_eq]; omega
      have Hlast := Lib.hid hlast
      clear hlast hne hla hyes
      go_enter Try.func38, Try.ntmps38
      go_wp2_with fail
      refine (hcn _ _ hd).mono ?_
      rintro e wq ⟨rfl, rfl⟩
      go_wp2_with fail
      have hdr := (Below.refl w.heap.size w).drew
      have hcv := fun x : Lat w.drew => run_string_of (P := Try.prog) ((hv.below hdr).below x.2) 37 5 9 Try.underlying37 Try.underlying5 Try.underlying9
      refine wp_region_rely 11 (by kernel_rfl) (by kernel_rfl) ?_
      simp only [List.take_succ_cons, List.take_zero]
      generalize World.drew w = wd at *
      repeat (first
        | (refine wpR_step0 ?_ ?_ (fun K hK => ?_); rfl; rfl; go_simp; refine hK _ ?_; clear hK K))
      refine wpR_nil fun x => ?_
      obtain ⟨we, web⟩ := x
      simp only [close, List.drop_succ_cons, List.drop_zero]
      go_wp2_with fail
      go_ret2
      exact ⟨rfl, hdr.trans (web.mono hdr.size)⟩
    · have hl1 : ((n : Int) == 4294967295) = false := by rw [beq_eq_false_iff_ne]; omega
      have ha := fun w => refAnchor_any label n w hnl
      have hA64 := anchorB_length label n
      have hyes := hyes hlast
      clear hla hlast
      have hdr := (Below.refl w.heap.size w).drew
      have hcv := fun x : Lat w.drew => run_string_of (P := Try.prog) ((hv.below hdr).below x.2) 37 5 9 Try.underlying37 Try.underlying5 Try.underlying9
      generalize anchorB label n = al at *
      by_cases hk : al = l
      · rw [hyes hk]
        have hpe : (al == l) = true := by rw [beq_iff_eq]; exact hk
        have hpn : (al != l) = false := by rw [bne_eq_false_iff_eq]; exact hk
        clear hk hyes hne
        go_enter Try.func38, Try.ntmps38
        go_wp2_with fail
        refine (hcn _ _ hd).mono ?_
        rintro e wq ⟨rfl, rfl⟩
        go_wp2_with fail
        refine wp_region_rely 11 (by kernel_rfl) (by kernel_rfl) ?_
        simp only [List.take_succ_cons, List.take_zero]
        generalize World.drew w = wd at *
        repeat (first
          | (refine wpR_step0 ?_ ?_ (fun K hK => ?_); rfl; rfl; go_simp; refine hK _ ?_; clear hK K))
        refine wpR_fresh (fun v W => OB W w.heap.size v al) 19 rfl rfl rfl rfl (of_decide_eq_true rfl) (persist_OB _ _) (fun x => ?_) ?_
        · go_simp
          exact (ha x.1).mono fun _ _ ⟨u, h1, h2, h3⟩ => ⟨u, h1, h3, h2.mono (Nat.le_trans hdr.size x.2.size)⟩
        refine wpR_settled (.string ⟨al.toArray⟩) [(19, fun v W => OB W w.heap.size v al)] rfl rfl rfl (fun x => ?_) ?_
        · simp only [close]
          intro u hu
          have hcu := run_string_of (P := Try.prog) hu.rd 37 5 9 Try.underlying37 Try.underlying5 Try.underlying9
          go_simp
        repeat (first
          | (refine wpR_step0 ?_ ?_ (fun K hK => ?_); rfl; rfl; go_simp; refine hK _ ?_; clear hK K))
        refine wpR_nil fun x => ?_
        obtain ⟨we, web⟩ := x
        simp only [close, List.drop_succ_cons, List.drop_zero]
        intro u19 hu19
        simp only [Act.put, List.setIfInBounds_toArray, List.set_cons_zero, List.set_cons_succ, wpList]
        go_wp2_with fail
        go_ret2
        exact ⟨rfl, hdr.trans (web.mono hdr.size)⟩
      · rw [hne hk]
        have hpe : (al == l) = false := by rw [beq_eq_false_iff_ne]; exact hk
        have hpn : (al != l) = true := by rw [bne_iff_ne]; exact hk
        clear hk hyes hne
        go_enter Try.func38, Try.ntmps38
        go_wp2_with fail
        refine (hcn _ _ hd).mono ?_
        rintro e wq ⟨rfl, rfl⟩
        go_wp2_with fail
        refine wp_region_rely 11 (by kernel_rfl) (by kernel_rfl) ?_
        simp only [List.take_succ_cons, List.take_zero]
        generalize World.drew w = wd at *
        repeat (first
          | (refine wpR_step0 ?_ ?_ (fun K hK => ?_); rfl; rfl; go_simp; refine hK _ ?_; clear hK K))
        refine wpR_fresh (fun v W => OB W w.heap.size v al) 19 rfl rfl rfl rfl (of_decide_eq_true rfl) (persist_OB _ _) (fun x => ?_) ?_
        · go_simp
          exact (ha x.1).mono fun _ _ ⟨u, h1, h2, h3⟩ => ⟨u, h1, h3, h2.mono (Nat.le_trans hdr.size x.2.size)⟩
        refine wpR_settled (.string ⟨al.toArray⟩) [(19, fun v W => OB W w.heap.size v al)] rfl rfl rfl (fun x => ?_) ?_
        · simp only [close]
          intro u hu
          have hcu := run_string_of (P := Try.prog) hu.rd 37 5 9 Try.underlying37 Try.underlying5 Try.underlying9
          go_simp
        repeat (first
          | (refine wpR_step0 ?_ ?_ (fun K hK => ?_); rfl; rfl; go_simp; refine hK _ ?_; clear hK K))
        refine wpR_nil fun x => ?_
        obtain ⟨we, web⟩ := x
        simp only [close, List.drop_succ_cons, List.drop_zero]
        intro u19 hu19
        simp only [Act.put, List.setIfInBounds_toArray, List.set_cons_zero, List.set_cons_succ, wpList]
        go_wp2_with fail
        go_ret2
        exact ⟨rfl, hdr.trans (web.mono hdr.size)⟩
  · rw [takeAnc_len h64]
    obtain ⟨a, cap, rfl, _⟩ := id hv
    have hne : ((l.length : Int) != 64) = true := by rw [bne_iff_ne]; omega
    have h64 := Lib.hid h64
    rw [bs_length]
    go_enter Try.func38, Try.ntmps38
    go_wp2_with fail
    go_ret2
    exact ⟨rfl, Below.refl _ _⟩
end Go.Proofs.Ytgeiafijibgdhaa.Cl
