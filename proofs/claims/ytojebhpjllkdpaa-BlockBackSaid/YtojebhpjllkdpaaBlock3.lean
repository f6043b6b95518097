/- block.Seal of what may not be; the reference's filled, Seal. -/
import Derived.Test.YtojebhpjllkdpaaBlock2
import Derived.Test.YtojebhpjllkdpaaZero
set_option linter.unusedVariables false
set_option linter.unusedSimpArgs false
namespace Go.Proofs.Ytojebhpjllkdpaa.Cl
open Go Go.Proofs Go.RowKit Fl Rely

def filledB (b : List UInt8) : List UInt8 := sealedB (b ++ List.replicate (60 - b.length) 0)
set_option maxRecDepth 100000 in
theorem filled_any (v : Value) (l : List UInt8) (w : World) (hv : Rd w v (bs l)) (hl : l.length ≤ 60) :
    Calls Try.prog 55 #[v] w fun e w' => ∃ u, e = .returned u ∧ OB w' w.heap.size u (filledB l) ∧ Below w.heap.size w w' := by
  unfold filledB
  obtain ⟨a, cap, rfl, hc1, hc2, _, _⟩ := id hv
  rw [bs_length] at *
  go_enter Try.func55, Try.ntmps55
  have hE : OB (w.alloc (.cells #[] 5)) w.heap.size (.slice (some ⟨w.heap.size, 0, none⟩) 0 0) [] := OB.lit' w.heap.size w #[] [] 0 rfl rfl (Nat.le_refl _) (by simp)
  have hbE := below_new w (.cells #[] 5)
  have hvE := hv.below hbE
  have e60 : IntKind.i64.wrap (60 - (l.length : Int)) = ((60 - l.length : Nat) : Int) := by rw [IntWalk.i64_in _ (by omega)]; omega
  go_wp2_with (at_builtin; go_loud (refine wpList_app w.heap.size _ _ [] l rfl _ _ rfl rfl rfl hE hvE (by simp; omega) hbE.size ?_))
  intro u6 w6 h6 b6 _
  have b6 := hbE.trans b6
  clear hE hvE hbE
  go_wp2_with (at_builtin; go_loud (refine wpList_zeros w.heap.size _ _ l (60 - l.length) rfl _ _ rfl rfl rfl rfl h6 (by omega) b6.size ?_))
  intro u10 w10 h10 b10
  have b10 := b6.trans b10
  clear h6 b6
  go_wp2_with fail
  have hlen : (l ++ List.replicate (60 - l.length) (0 : UInt8)).length = 60 := by simp; omega
  refine (refSum_any u10 _ w10 h10.rd).mono ?_
  rintro e wq ⟨rfl, rfl⟩
  have hsu := sumN_u32 (l ++ List.replicate (60 - l.length) (0 : UInt8))
  have ec : IntKind.u64.wrap (sumN (l ++ List.replicate (60 - l.length) (0 : UInt8)) : Int) = (sumN (l ++ List.replicate (60 - l.length) (0 : UInt8)) : Int) := by rw [IntKind.wrap_u64]; omega
  generalize hxx : l ++ List.replicate (60 - l.length) (0 : UInt8) = x at *
  have hyy := Lib.hid hxx
  clear hxx
  go_wp2_with fail
  refine (high4_any (sumN x) w10.heap.size w10 (by omega) (Nat.le_refl _)).mono ?_
  rintro e wq ⟨u15, rfl, h15, _, b15⟩
  have h10' := h10.below b15
  have b15' := b10.trans (b15.mono b10.size)
  clear h10 b10 b15
  go_wp2_with (at_builtin; go_loud (refine wpList_app w.heap.size _ _ x _ rfl _ _ rfl rfl rfl h10' h15.rd (by rw [hlen, be_length]; omega) b15'.size ?_))
  intro u3 w3 h3 b3 _
  have b3 := b15'.trans b3
  go_wp2_with fail
  go_returns
  rw [hyy.out]
  exact ⟨_, rfl, h3, b3⟩

/-- which kinds and places may be -/
def mayBlk (k at_ : Int) : Bool := decide (0 ≤ k) && decide (k ≤ 7) && decide (0 ≤ at_) && decide (at_ < 200)
set_option maxRecDepth 100000 in
set_option maxHeartbeats 4000000 in
theorem refSeal_any (label : UInt8) (kn an : Nat) (b : List UInt8) (w : World) (hk : kn ≤ 7) (ha : an < 200) (hb56 : b.length = 56) :
    Calls Try.prog 39 #[.int .u8 (label.toNat : Int), .int .i64 (an : Int), blkV (kn : Int) b] w fun e w' => ∃ u, e = .returned (.tuple #[u, .bool true]) ∧ OB w' w.heap.size u (sealedB (body60 kn label an b)) ∧ Below w.heap.size w w' := by
  go_enter Try.func39, Try.ntmps39
  go_wp2_with (refine wp_want rfl fun K hK => ?_; refine wp_blk_box rfl rfl hb56 ?_)
  intro w1 B1 b1 s1
  refine hK _ _ ?_
  clear hK K
  have k0 := B1.kind
  have hk7 : ¬ ((7 : Int) < (kn : Int)) := by omega
  have hk7' : ¬ (7 < kn) := by omega
  have ha2 : ¬ ((200 : Int) ≤ (an : Int)) := by omega
  have ha2' : ¬ (200 ≤ an) := by omega
  go_wp2_with fail
  have hdr := (Below.refl w1.heap.size w1).drew
  have B1d := B1.later hdr
  have yk := fun x : RelyT.Lat w1.drew => cell_later x.2 B1d.kind
  have ys := fun w2 => slice_body_all (g := w.heap.size) w2
  have e1 : IntKind.u8.wrap (kn : Int) = (kn : Int) := by rw [IntKind.wrap_u8]; omega
  have e2 : IntKind.u64.wrap (an : Int) = (an : Int) := by rw [IntKind.wrap_u64]; omega
  refine RelyT.wp_region_rely 8 (by kernel_rfl) (by kernel_rfl) ?_
  simp only [List.take_succ_cons, List.take_zero]
  generalize World.drew w1 = wa at *
  repeat (first
    | (refine RelyT.wpR_step0 ?_ ?_ (fun K hK => ?_); rfl; rfl; go_simp; refine hK _ ?_; clear hK K))
  refine RelyT.wpR_fresh (fun v W => OB W wa.heap.size v [UInt8.ofNat kn, label]) 29 rfl rfl rfl rfl (of_decide_eq_true rfl) (fun v W W' h hb => h.below hb) (fun x => ?_) ?_
  · go_simp
    exact ⟨below_new _ _, OB.lit' _ _ _ _ 2 (by rw [show bs [UInt8.ofNat kn, label] = [u8 (UInt8.ofNat kn), u8 label] from rfl]; simp [u8]; omega) rfl x.2.size (by simp)⟩
  repeat (first
    | (refine RelyT.wpR_step0 ?_ ?_ (fun K hK => ?_); rfl; rfl; go_simp; refine hK _ ?_; clear hK K))
  refine RelyT.wpR_fresh (fun v W => OB W wa.heap.size v (be 2 an)) 32 rfl rfl rfl rfl (of_decide_eq_true rfl) (fun v W W' h hb => h.below hb) (fun x => ?_) ?_
  · go_simp
    refine (high2_any an x.1.heap.size x.1 (by omega) (Nat.le_refl _)).mono ?_
    rintro e wq ⟨u, rfl, hO, hb, _⟩
    exact ⟨u, rfl, hb, hO.mono x.2.size⟩
  refine RelyT.wpR_nil fun x => ?_
  obtain ⟨wz, wzb⟩ := x
  simp only [RelyT.close, List.drop_succ_cons, List.drop_zero]
  intro u32 h32 u29 h29
  have bz : Below w.heap.size w wz := b1.trans ((hdr.mono (by omega)).trans (wzb.mono (by have := hdr.size; omega)))
  have hwa := hdr.size
  have Bz := B1d.later wzb
  have hsz := wzb.size
  clear wzb yk hdr B1d
  go_wp2_with (at_builtin; go_loud (refine wpList_app wa.heap.size _ _ _ (be 2 an) rfl _ _ rfl rfl rfl h29 h32.rd (by rw [be_length]; simp) hsz ?_))
  intro u33 w33 h33 b33 _
  have Bq := Bz.below b33 (by omega)
  have bq := bz.trans (b33.mono (by omega))
  have hsq := b33.size
  clear h29 h32 Bz bz b33
  go_wp2_with (at_builtin; go_loud (refine wpList_app wa.heap.size _ _ _ b rfl _ _ rfl rfl rfl h33 Bq.rdAll (by simp [be_length]; omega) (by omega) ?_))
  intro u37 w37 h37 b37 _
  have bq := bq.trans (b37.mono (by omega))
  have h37 : OB w37 wa.heap.size u37 (body60 kn label an b) := by simpa [body60, be] using h37
  clear h33 Bq b37
  have hf : filledB (body60 kn label an b) = sealedB (body60 kn label an b) := by
    have hl : (body60 kn label an b).length = 60 := by simp [body60, hb56]
    unfold filledB
    rw [hl, Nat.sub_self, List.replicate_zero, List.append_nil]
  go_wp2_with fail
  refine (filled_any u37 _ w37 h37.rd (by simp [body60, hb56])).mono ?_
  rintro e wq ⟨u, rfl, hO, hb⟩
  rw [hf] at hO
  have hO := hO.mono bq.size
  have hb := bq.trans (hb.mono bq.size)
  clear h37 bq
  go_wp2_with fail
  go_returns
  exact ⟨_, rfl, hO, hb⟩
end Go.Proofs.Ytojebhpjllkdpaa.Cl
