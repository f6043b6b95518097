/- The law BlockBack. -/
import Derived.Test.YtojebhpjllkdpaaBlkAll
import Derived.Test.YtojebhpjllkdpaaBlkN
import Derived.Test.YtojebhpjllkdpaaBits
set_option linter.unusedVariables false
set_option linter.unusedSimpArgs false
namespace Go.Proofs.Ytojebhpjllkdpaa.Cl
open Go Go.Proofs Go.RowKit Fl Rely

theorem u8_xor (a b : UInt8) : bits .xor .u8 (a.toNat : Int) (b.toNat : Int) = ((a ^^^ b).toNat : Int) := by
  have h1 := a.toNat_lt
  have h2 := b.toNat_lt
  have hx : a.toNat ^^^ b.toNat < 2 ^ 8 := Nat.xor_lt_two_pow (by omega) (by omega)
  show IntKind.u8.wrap ((BitVec.ofInt 8 (a.toNat : Int) ^^^ BitVec.ofInt 8 (b.toNat : Int)).toNat : Int) = _
  rw [BitVec.toNat_xor, ofInt_nat 8 _ (by omega), ofInt_nat 8 _ (by omega), IntKind.wrap_u8, UInt8.toNat_xor]
  omega
theorem set_same {x : List UInt8} {i : Nat} {t : UInt8} (h : x[i]? = some t) : x.set i t = x := by
  have hi := (List.getElem?_eq_some_iff.1 h)
  obtain ⟨hi, e⟩ := hi
  rw [← e, List.set_getElem_self]
theorem xor_ne {t c : UInt8} (h : ¬ c = 0) : t ^^^ c ≠ t := by
  intro h'
  apply h
  have : t ^^^ (t ^^^ c) = t ^^^ t := by rw [h']
  simpa [← UInt8.xor_assoc] using this
theorem wp_row_boxB {P : Program} {K : Act → World → Prop} {Q : Exit → Act → World → Prop} {o : Oper} {a : Act} {w : World} {t : TypeId} {x : Operand} {cells : Array Value} (hop : o.op = .box t x) (hx : a.eval x = .agg cells)
    (h : ∀ w', w'.heap[w.heap.size]? = some (.cells cells t (0, 0)) → Below w.heap.size w w' → w.heap.size < w'.heap.size → K (a.put o.dst (.pointer (some ⟨w.heap.size, 0, none⟩))) w') : o.wp P a w K Q := by
  unfold Oper.wp execOp
  simp only [hop, hx, Value.cells, Sem.run_bind, Instr.box, newVar, newRow, run_newObj_alloc, Sem.run_pure, Result.andThen_ok]
  exact h _ (heap_alloc_last w _) (below_new _ _) (by simp)
theorem under56' : Try.prog.underlying 60 = some (.array 56 5) := by kernel_rfl
theorem wp_row56_load {K : Act → World → Prop} {Q : Exit → Act → World → Prop} {o : Oper} {a : Act} {w : World} {x : Operand} {g : Nat} {b : List UInt8} (hop : o.op = .load 60 x) (hx : a.eval x = .pointer (some ⟨g, 0, none⟩)) (hB : w.heap[g]? = some (.cells (bs b).toArray 60 (0, 0))) (hb : b.length = 56)
    (h : K (a.put o.dst (.agg (bs b).toArray)) w) : o.wp Try.prog a w K Q := by
  have hsz : (Try.prog.info? 60).map (·.size) = some (bs b).toArray.size := by rw [size56]; simp [hb]
  have hr := run_loadVar_row (P := Try.prog) w g _ _ _ _ _ hB under56' rfl hsz
  unfold Oper.wp execOp
  simp only [hop, hx, Instr.loadAt, Instr.sureAddr, hr, Sem.run_bind, Sem.run_pure, Result.andThen_ok]
  exact h

set_option maxRecDepth 100000 in
set_option maxHeartbeats 8000000 in
theorem blkBack_law (label at_ kind : UInt8) (body : List UInt8) (wh by_ other as_ : UInt8) (w : World) (hb56 : body.length = 56) :
    Calls Try.prog 13 #[.int .u8 (label.toNat : Int), .int .u8 (at_.toNat : Int), .int .u8 (kind.toNat : Int), .agg (bs body).toArray, .int .u8 (wh.toNat : Int), .int .u8 (by_.toNat : Int), .int .u8 (other.toNat : Int), .int .u8 (as_.toNat : Int)] w fun e w' => e = .returned (.bool true) ∧ Below w.heap.size w w' := by
  obtain ⟨an, Ha⟩ : ∃ an : Nat, an = at_.toNat % 200 := ⟨_, rfl⟩
  obtain ⟨kn, Hk⟩ : ∃ kn : Nat, kn = kind.toNat % 8 := ⟨_, rfl⟩
  obtain ⟨wn, Hw⟩ : ∃ wn : Nat, wn = wh.toNat % 64 := ⟨_, rfl⟩
  obtain ⟨on_, Ho⟩ : ∃ on_ : Nat, on_ = other.toNat % 200 := ⟨_, rfl⟩
  have ea : (at_.toNat : Int) % 200 = (an : Int) := by omega
  have ek : (kind.toNat : Int) % 8 = (kn : Int) := by omega
  have ew : (wh.toNat : Int) % 64 = (wn : Int) := by omega
  have eo : (other.toNat : Int) % 200 = (on_ : Int) := by omega
  have la : an < 200 := by omega
  have lk : kn ≤ 7 := by omega
  have lw : wn < 64 := by omega
  have lo : on_ < 200 := by omega
  have ca : IntKind.i64.wrap (at_.toNat : Int) = (at_.toNat : Int) := IntWalk.i64_in _ (by have := at_.toNat_lt; omega)
  have co : IntKind.i64.wrap (other.toNat : Int) = (other.toNat : Int) := IntWalk.i64_in _ (by have := other.toNat_lt; omega)
  clear Ha Hk Hw Ho
  go_enter Try.func13, Try.ntmps13
  go_wp2_with (refine wp_want rfl fun K hK => ?_; refine wp_row_boxB rfl rfl ?_)
  intro w1 A1 b1 s1
  refine hK _ _ ?_
  clear hK K
  go_wp2_with fail
  refine (blkBegun_any _).mono ?_
  rintro e w2 ⟨rfl, hb2⟩
  have A2 := (hb2.block w.heap.size s1).trans A1
  have b2 := b1.trans (hb2.mono b1.size)
  clear A1 b1 s1 hb2
  go_wp2_with (refine wp_want rfl fun K hK => ?_; first | (refine wp_row56_load rfl rfl A2 hb56 ?_; refine hK _ _ ?_; clear hK K) | (refine wp_blk_build2 rfl rfl rfl hb56 ?_; refine hK _ _ ?_; clear hK K) | refine wp_blk_alloc rfl ?_)
  intro v3 Y3 c3 s3
  refine hK _ _ ?_
  clear hK K
  go_wp2_with (refine wp_want rfl fun K hK => ?_; refine wp_blk_store rfl rfl rfl hb56 Y3 ?_)
  intro w3 X3 g3 z3
  refine hK _ _ ?_
  clear hK K
  have d3 := c3.grown g3 c3.size (fun k hk => by cases hk; exact Nat.le_refl _)
  have b3 := b2.trans (d3.mono b2.size)
  clear Y3 c3 s3 g3 z3 d3 A2
  go_wp2_with (refine wp_want rfl fun K hK => ?_; refine wp_blk_load rfl rfl X3 ?_; refine hK _ _ ?_; clear hK K)
  refine (seal_any label kn an body w3 lk la hb56).mono ?_
  rintro e w4 ⟨u, rfl, hO, b4⟩
  have X4 := X3.later b4
  have b4 := b3.trans (b4.mono b3.size)
  have hO := OB.mono hO b3.size
  obtain ⟨gg, cc, rfl, hcc, hcell⟩ := hO.cell (by rw [sealed_length hb56]; omega)
  have hlen := sealed_length (k := kn) (l := label) (a := an) hb56
  have q1 : opBlk label (an : Int) (sealedB (body60 kn label an body)) = blkV (kn : Int) body := opBlk_sealed lk la hb56
  have q2 : opensAs label (an : Int) (sealedB (body60 kn label an body)) = true := (opens_sealed lk la la hb56).trans (by simp)
  have q3 : opensAs as_ (on_ : Int) (sealedB (body60 kn label an body)) = decide (label = as_ ∧ an = on_) := opens_sealed lk la lo hb56
  have q4 := fun c hc => opens_turned lk la hb56 wn lw (l := label) c hc
  generalize sealedB (body60 kn label an body) = x at *
  rw [hlen] at hO ⊢
  clear X3 b3 hcell
  go_wp2_with fail
  refine (open_any label an _ _ w4 hO.rd).mono ?_
  rintro e w5 ⟨rfl, b5⟩
  rw [q1, q2]
  have X5 := X4.later b5
  have hO := OB.below hO b5
  have b5 := b4.trans (b5.mono b4.size)
  clear X4 b4
  go_wp2_with (refine wp_want rfl fun K hK => ?_; refine wp_blk_alloc rfl ?_)
  intro v6 Y6 c6 s6
  refine hK _ _ ?_
  clear hK K
  go_wp2_with (refine wp_want rfl fun K hK => ?_; refine wp_blk_store rfl rfl rfl hb56 Y6 ?_)
  intro w6 X6 g6 z6
  refine hK _ _ ?_
  clear hK K
  have d6 := c6.grown g6 c6.size (fun k hk => by cases hk; exact Nat.le_refl _)
  have b6 := b5.trans (d6.mono b5.size)
  clear Y6 c6 s6 g6 z6
  have W6 := X5.later d6
  have hO := OB.below hO d6
  have b6x := b6
  clear X5 b5 d6
  have hE : OB (w6.alloc (.cells #[] 5)) w6.heap.size (.slice (some ⟨w6.heap.size, 0, none⟩) 0 0) [] := OB.lit' w6.heap.size w6 #[] [] 0 rfl rfl (Nat.le_refl _) (by simp)
  have hbE := below_new w6 (.cells #[] 5)
  have hvE := (OB.below hO hbE).rd
  go_wp2_with (at_builtin; go_loud (refine wpList_app w6.heap.size _ _ [] x rfl _ _ rfl rfl rfl hE hvE (by simp; omega) hbE.size ?_))
  intro u7 w7 h7 b7 _
  have d7 := hbE.trans b7
  obtain ⟨g7, c7, rfl, hc7, hcell7⟩ := h7.cell (by show 0 < x.length; omega)
  obtain ⟨t, ht⟩ : ∃ t, x[wn]? = some t := ⟨x[wn]'(by omega), List.getElem?_eq_getElem _⟩
  have hcx := hcell7 wn t ht
  have hfx := World.ownsRow.frozenAt h7 wn
  clear hcell7
  rw [hlen] at hc7 ⊢
  have ht' := Lib.hid ht
  clear ht
  obtain ⟨tx, Htx⟩ : ∃ tx : UInt8, Hid (tx = t ^^^ by_) := ⟨_, Lib.hid rfl⟩
  have ex : bits .xor .u8 (t.toNat : Int) (by_.toNat : Int) = (tx.toNat : Int) := by rw [Htx.out]; exact u8_xor t by_
  have hge : w6.heap.size ≤ g7 := OB.ge h7 g7 rfl
  have hst := World.ownsRow.stored h7 wn (u8 tx)
  rw [bs_set] at hst
  have hc8 : Rd (w7.setCell ⟨g7, wn, none⟩ (.int .u8 (tx.toNat : Int))) (.slice (some ⟨g7, 0, none⟩) 64 c7) (bs (x.set wn tx)) := by
    have := Rd.of_own hst.1
    rw [hlen] at this
    exact this
  have d8 : Below w6.heap.size w6 (w7.setCell ⟨g7, wn, none⟩ (.int .u8 (tx.toNat : Int))) := d7.setCell hge _
  have q5 : opensAs label (an : Int) (x.set wn tx) = decide (by_ = 0) := by
    rw [Htx.out]
    by_cases h0 : by_ = 0
    · subst h0
      rw [show t ^^^ (0 : UInt8) = t from by simp, set_same ht'.out, q2]
      rfl
    · rw [decide_eq_false h0]
      exact q4 _ (by rw [ht'.out]; exact fun h => xor_ne h0 (Option.some.inj h).symm)
  obtain ⟨k8, x8, hx8, hop8⟩ := opBlk_form label (an : Int) (x.set wn tx)
  obtain ⟨k9, x9, hx9, hop9⟩ := opBlk_form as_ (on_ : Int) x
  have p1 : ((by_.toNat : Int) == 0) = decide (by_ = 0) := by
    rw [Bool.eq_iff_iff]
    simp only [beq_iff_eq, decide_eq_true_eq]
    exact ⟨fun h => UInt8.toNat_inj.1 (by rw [Int.natCast_eq_zero.1 h]; rfl), fun h => by rw [h]; rfl⟩
  have p2 : ((as_.toNat : Int) == (label.toNat : Int)) = decide (label = as_) := by
    rw [Bool.eq_iff_iff]
    simp only [beq_iff_eq, decide_eq_true_eq]
    exact ⟨fun h => UInt8.toNat_inj.1 (by omega), fun h => by rw [h]⟩
  have p3 : ((on_ : Int) == (an : Int)) = decide (an = on_) := by
    rw [Bool.eq_iff_iff]
    simp only [beq_iff_eq, decide_eq_true_eq]
    omega
  have p4 : decide (label = as_ ∧ an = on_) = (decide (label = as_) && decide (an = on_)) := Bool.decide_and _ _
  rw [p4] at q3
  clear p4 q4
  generalize decide (by_ = 0) = pb at *
  generalize decide (label = as_) = pl at *
  generalize decide (an = on_) = po at *
  generalize hxx : x.set wn tx = x' at *
  clear hxx
  go_wp2_with fail
  generalize w7.setCell ⟨g7, wn, none⟩ (.int .u8 (tx.toNat : Int)) = w8 at *
  have b8 := b6.trans (d8.mono b6.size)
  have hO := OB.below hO d8
  have W8 := W6.later d8
  have Z8 := X6.later d8
  clear h7 hcx hfx hst W6 X6 d7 b7 hE hbE hvE ht' ex b6 d8
  refine (open_any label an _ _ w8 hc8).mono ?_
  rintro e w9 ⟨rfl, b9⟩
  rw [hop8, q5]
  have hO := OB.below hO b9
  have W9 := W8.later b9
  have Z9 := Z8.later b9
  have b9 := b8.trans (b9.mono b8.size)
  clear W8 Z8 b8 hc8 hop8 q5
  go_wp2_with (refine wp_want rfl fun K hK => ?_; refine wp_blk_alloc rfl ?_)
  intro v10 Y10 c10 s10
  refine hK _ _ ?_
  clear hK K
  go_wp2_with (refine wp_want rfl fun K hK => ?_; refine wp_blk_store rfl rfl rfl hx8 Y10 ?_)
  intro w10 X10 g10 z10
  refine hK _ _ ?_
  clear hK K
  have d10 := c10.grown g10 c10.size (fun k hk => by cases hk; exact Nat.le_refl _)
  have b10 := b9.trans (d10.mono b9.size)
  clear Y10 c10 s10 g10 z10
  have hO := OB.below hO d10
  have W10 := W9.later d10
  have Z10 := Z9.later d10
  clear W9 Z9 b9 d10
  go_wp2_with fail
  refine (open_any as_ on_ _ _ w10 hO.rd).mono ?_
  rintro e w11 ⟨rfl, b11⟩
  rw [hop9, q3]
  have W11 := W10.later b11
  have Z11 := Z10.later b11
  have b11 := b10.trans (b11.mono b10.size)
  clear W10 Z10 b10 hop9 q3
  go_wp2_with (refine wp_want rfl fun K hK => ?_; refine wp_blk_alloc rfl ?_)
  intro v12 Y12 c12 s12
  refine hK _ _ ?_
  clear hK K
  go_wp2_with (refine wp_want rfl fun K hK => ?_; refine wp_blk_store rfl rfl rfl hx9 Y12 ?_)
  intro w12 X12 g12 z12
  refine hK _ _ ?_
  clear hK K
  have d12 := c12.grown g12 c12.size (fun k hk => by cases hk; exact Nat.le_refl _)
  have b12 := b11.trans (d12.mono b11.size)
  clear Y12 c12 s12 g12 z12
  have W12 := W11.later d12
  have Z12 := Z11.later d12
  clear W11 Z11 b11 d12
  cases pl <;> (go_wp2_with (refine wp_want rfl fun K hK => ?_; first | (refine wp_blk_load rfl rfl Z12 ?_; refine hK _ _ ?_; clear hK K) | (refine wp_blk_load rfl rfl W12 ?_; refine hK _ _ ?_; clear hK K) | (refine wp_blk_eqlR true (decide_eq_true ⟨rfl, rfl⟩) rfl rfl rfl hb56 hb56 ?_; refine hK _ _ ?_; clear hK K)))
  · go_returns
    exact ⟨rfl, b12⟩
  · go_returns
    exact ⟨rfl, b12⟩
theorem blkBack_row (n0 n1 n2 : Int) (l3 : List UInt8) (n4 n5 n6 n7 : Int) (w : World) (w0 : (Lit.int .u8 n0).wf = true) (w1 : (Lit.int .u8 n1).wf = true) (w2 : (Lit.int .u8 n2).wf = true) (h3 : l3.length = 56) (w4 : (Lit.int .u8 n4).wf = true) (w5 : (Lit.int .u8 n5).wf = true) (w6 : (Lit.int .u8 n6).wf = true) (w7 : (Lit.int .u8 n7).wf = true) :
    Calls Try.prog 13 #[.int .u8 n0, .int .u8 n1, .int .u8 n2, .agg (bs l3).toArray, .int .u8 n4, .int .u8 n5, .int .u8 n6, .int .u8 n7] w fun e w' => e = .returned (.bool true) ∧ Below w.heap.size w w' := by
  obtain ⟨c0, rfl⟩ := wf_u8 w0
  obtain ⟨c1, rfl⟩ := wf_u8 w1
  obtain ⟨c2, rfl⟩ := wf_u8 w2
  obtain ⟨c4, rfl⟩ := wf_u8 w4
  obtain ⟨c5, rfl⟩ := wf_u8 w5
  obtain ⟨c6, rfl⟩ := wf_u8 w6
  obtain ⟨c7, rfl⟩ := wf_u8 w7
  exact blkBack_law c0 c1 c2 l3 c4 c5 c6 c7 w h3
end Go.Proofs.Ytojebhpjllkdpaa.Cl
