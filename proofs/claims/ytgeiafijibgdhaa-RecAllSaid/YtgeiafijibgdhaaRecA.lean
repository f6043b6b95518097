/- The law RecAnchors. -/
import Derived.Test.YtgeiafijibgdhaaRec7
import Derived.Test.YtgeiafijibgdhaaOnto
set_option linter.unusedVariables false
set_option linter.unusedSimpArgs false
namespace Go.Proofs.Ytgeiafijibgdhaa.Cl
open Go Go.Proofs Go.RowKit Fl Rely

theorem u8_xor' (a b : UInt8) : bits .xor .u8 (a.toNat : Int) (b.toNat : Int) = ((a ^^^ b).toNat : Int) := by
  have h1 := a.toNat_lt
  have h2 := b.toNat_lt
  have hx : a.toNat ^^^ b.toNat < 2 ^ 8 := Nat.xor_lt_two_pow (by omega) (by omega)
  show IntKind.u8.wrap ((BitVec.ofInt 8 (a.toNat : Int) ^^^ BitVec.ofInt 8 (b.toNat : Int)).toNat : Int) = _
  rw [BitVec.toNat_xor, ofInt_nat 8 _ (by omega), ofInt_nat 8 _ (by omega), IntKind.wrap_u8, UInt8.toNat_xor]
  omega

set_option maxRecDepth 100000 in
set_option maxHeartbeats 4000000 in
theorem recAnchors_law (label oth wh by' : UInt8) (epoch : Nat) (he : epoch < 4294967296) (w : World) :
    Calls Try.prog 12 #[u8 label, .int .u32 epoch, u8 oth, u8 wh, u8 by'] w fun e w' => e = .returned (.bool true) ∧ Below w.heap.size w w' := by
  obtain ⟨la, hla⟩ : ∃ la, la = anchorB label epoch := ⟨_, rfl⟩
  have hl64 : la.length = 64 := by rw [hla]; exact anchorB_length _ _
  have hAn := fun w => anchor_any label epoch w he
  rw [← hla] at hAn
  obtain ⟨i, hi⟩ : ∃ i, i = wh.toNat % 64 := ⟨_, rfl⟩
  have hil : i < la.length := by omega
  have hii : i < 64 := by omega
  obtain ⟨lb, hlb⟩ : ∃ lb, lb = la.set i (la[i] ^^^ by') := ⟨_, rfl⟩
  obtain ⟨last, hlast⟩ : ∃ b, b = decide (epoch = 4294967295) := ⟨_, rfl⟩
  obtain ⟨same, hsame⟩ : ∃ b, b = decide (oth = label) := ⟨_, rfl⟩
  obtain ⟨zero, hzero⟩ : ∃ b, b = decide (by' = 0) := ⟨_, rfl⟩
  have k1 : takeAnc label la = if last then none else some epoch := by
    subst hlast; subst hla
    by_cases h : epoch = 4294967295
    · subst h; simp [takeAnc_end]
    · simp [h, takeAnc_own label he h]
  have k2 : takeAnc oth la = if last then none else if same then some epoch else none := by
    subst hsame; subst hlast
    by_cases hs : oth = label
    · subst hs; rw [k1]; simp
    · subst hla; rw [takeAnc_as he hs]; simp [hs]
  have k3 : takeAnc label lb = if last then none else if zero then some epoch else none := by
    by_cases hz : by' = 0
    · have : lb = la := by rw [hlb, hz, UInt8.xor_zero, List.set_getElem_self]
      rw [this, k1, hzero, hz]; simp
    · have hx : la[i] ^^^ by' ≠ la[i] := fun e => hz (by
        have := congrArg (fun t => la[i] ^^^ t) e
        simpa [← UInt8.xor_assoc] using this)
      rw [hlb]
      have hz' : zero = false := by rw [hzero]; exact decide_eq_false hz
      rw [hz']
      subst hla
      rw [takeAnc_turn hil _ hx]
      simp
  have e1 : ((epoch : Int) == 4294967295) = last := by
    rw [hlast, Bool.eq_iff_iff, beq_iff_eq, decide_eq_true_iff]; omega
  have e2 : ((oth.toNat : Int) == (label.toNat : Int)) = same := by
    rw [hsame, Bool.eq_iff_iff, beq_iff_eq, decide_eq_true_iff]
    exact ⟨fun h => UInt8.toNat_inj.1 (by omega), fun h => by rw [h]⟩
  have e3 : ((by'.toNat : Int) == 0) = zero := by
    rw [hzero, Bool.eq_iff_iff, beq_iff_eq, decide_eq_true_iff]
    exact ⟨fun h => UInt8.toNat_inj.1 (by simpa using h), fun h => by rw [h]; rfl⟩
  clear hlast hsame hzero
  obtain ⟨E1, B1, j1, hB1, hE1⟩ : ∃ (E : Nat) (B : Bool), ancV (takeAnc label la) = .tuple #[.int .u32 E, .bool B] ∧ B = !last ∧ (last = false → E = epoch) := by
    rw [k1]; cases last <;> exact ⟨_, _, rfl, rfl, by simp⟩
  obtain ⟨E2, B2, j2, hB2⟩ : ∃ (E : Nat) (B : Bool), ancV (takeAnc oth la) = .tuple #[.int .u32 E, .bool B] ∧ B = (same && !last) := by
    rw [k2]; cases last <;> cases same <;> exact ⟨_, _, rfl, rfl⟩
  obtain ⟨E3, B3, j3, hB3⟩ : ∃ (E : Nat) (B : Bool), ancV (takeAnc label lb) = .tuple #[.int .u32 E, .bool B] ∧ B = (zero && !last) := by
    rw [k3]; cases last <;> cases zero <;> exact ⟨_, _, rfl, rfl⟩
  have hT1 := fun v w hv => takeAnchor_any label v la w hv
  have hT2 := fun v w hv => takeAnchor_any oth v la w hv
  have hT3 := fun v w hv => takeAnchor_any label v lb w hv
  rw [j1] at hT1
  rw [j2] at hT2
  rw [j3] at hT3
  clear k1 k2 k3 hla j1 j2 j3
  have H64 := Lib.hid hl64
  have HI := Lib.hid hi
  have HLB := Lib.hid hlb
  have HB := Lib.hid (And.intro hB1 (And.intro hB2 hB3))
  have HE := Lib.hid (And.intro hE1 (And.intro e1 (And.intro e2 e3)))
  clear hl64 hi hlb hB1 hB2 hB3 hE1 e1 e2 e3
  go_enter Try.func12, Try.ntmps12
  go_wp2_with fail
  refine (recBegun_any _).mono ?_
  rintro e w1 ⟨rfl, b1⟩
  have W := b1
  go_wp2_with fail
  refine (hAn _).mono ?_
  rintro e w2 ⟨u2, rfl, hO2, b2⟩
  have W := W.trans (b2.mono W.size)
  obtain ⟨g2, c2, rfl, _⟩ := ob_shape hO2 H64 (by decide)
  go_wp2_with fail
  refine (hT1 _ _ hO2.rd).mono ?_
  rintro e w3 ⟨rfl, b3⟩
  have W := W.trans (b3.mono W.size)
  have hO3 := hO2.below b3
  go_wp2_with fail
  refine (hT2 _ _ hO3.rd).mono ?_
  rintro e w4 ⟨rfl, b4⟩
  have W := W.trans (b4.mono W.size)
  have hO4 := hO3.below b4
  have n4 := W.size
  go_wp2_with (refine wp_want rfl fun K hK => ?_; refine wp_appO w4.heap.size _ _ [] la (by rw [show la.length = 64 from H64]; decide) (OB.lit w4.heap.size w4 [] 0 rfl (Nat.le_refl _) (by decide)) ((hO4.below (below_new w4 _)).rd) (below_new w4 _).size rfl rfl rfl ?_)
  intro v5 w5 hO5 t5
  refine hK _ _ ?_
  clear hK K
  have hO5 : OB w5 w4.heap.size v5 la := hO5
  have b5 := (below_new w4 (.cells (bs []).toArray 5)).trans (t5.below (below_new w4 _).size (fun k hk => by cases hk; exact Nat.le_refl _))
  have W := W.trans (b5.mono W.size)
  obtain ⟨g5, c5, rfl, hg5, _⟩ := ob_shape hO5 H64 (by decide)
  obtain ⟨s1, s2, s3, s4, s5⟩ := hO5.set i hil (la[i] ^^^ by')
  have hrem : wh.toNat % 64 = i := HI.symm
  have hremI : (wh.toNat : Int) % 64 = (i : Int) := by omega
  have hxor := u8_xor' la[i] by'
  have hiI : (i : Int) < 64 := by omega
  have s3 : OB (w5.setCell ⟨g5, i, none⟩ (u8 (la[i] ^^^ by'))) w4.heap.size (.slice (some ⟨g5, 0, none⟩) 64 c5) lb := by rw [show lb = _ from HLB]; exact s3
  have b6 := below_row (Below.refl w4.heap.size w5) s4 b5.size hg5
  generalize la[i] ^^^ by' = x6 at *
  clear s4 s5
  go_upto_region 10 with fail
  generalize w5.setCell ⟨g5, i, none⟩ (.int .u8 (x6.toNat : Nat)) = w6 at *
  have W := W.trans (b6.mono n4)
  clear hrem hremI hxor s1 s2 hiI b6
  go_wp2_with fail
  refine (hT3 _ _ s3.rd).mono ?_
  rintro e w7 ⟨rfl, b7⟩
  have W := W.trans (b7.mono W.size)
  go_upto_region 11 with fail
  obtain ⟨hE1, e1, e2, e3⟩ := HE.out
  obtain ⟨hB1, hB2, hB3⟩ := HB.out
  subst hB1
  subst hB2
  subst hB3
  clear HE HB hT1 hT2 hT3 hAn
  cases last
  · have hE := hE1 rfl
    subst hE
    clear hE1
    cases same <;> cases zero <;> (go_wp2_with fail) <;> go_ret <;> exact ⟨rfl, W⟩
  · clear hE1
    cases same <;> cases zero <;> (go_wp2_with fail) <;> go_ret <;> exact ⟨rfl, W⟩

theorem recAnchors_row (n0 n1 n2 n3 n4 : Int) (W : World) (wf0 : (Lit.int .u8 n0).wf = true) (wf1 : (Lit.int .u32 n1).wf = true) (wf2 : (Lit.int .u8 n2).wf = true) (wf3 : (Lit.int .u8 n3).wf = true) (wf4 : (Lit.int .u8 n4).wf = true) :
    Calls Try.prog 12 #[.int .u8 n0, .int .u32 n1, .int .u8 n2, .int .u8 n3, .int .u8 n4] W fun e w' => e = .returned (.bool true) ∧ Below W.heap.size W w' := by
  obtain ⟨b0, rfl⟩ := wf_u8 wf0
  obtain ⟨b2, rfl⟩ := wf_u8 wf2
  obtain ⟨b3, rfl⟩ := wf_u8 wf3
  obtain ⟨b4, rfl⟩ := wf_u8 wf4
  obtain ⟨k, rfl, h1⟩ := wf_u32 wf1
  exact recAnchors_law b0 b2 b3 b4 k h1 W
end Go.Proofs.Ytgeiafijibgdhaa.Cl
