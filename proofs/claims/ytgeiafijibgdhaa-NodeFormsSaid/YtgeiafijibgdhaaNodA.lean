/- node.Take. -/
import Derived.Test.YtgeiafijibgdhaaNod9
set_option linter.unusedVariables false
set_option linter.unusedSimpArgs false
namespace Go.Proofs.Ytgeiafijibgdhaa.Cl
open Go Go.Proofs Go.RowKit Fl Rely

def nN (bb : List UInt8) (a n : Nat) : Int := (num (part bb a n) : Nat)
def readNd (bb : List UInt8) : Nd := ⟨nN bb 0 4, nN bb 4 2, nN bb 6 4, nN bb 10 2 - 1, nN bb 12 2 - 1, nN bb 14 2 - 1, nN bb 16 2 - 1, nN bb 18 2 - 1, part bb 21 (num (part bb 20 1))⟩
def zNd : Nd := ⟨0, 0, 0, 0, 0, 0, 0, 0, []⟩
def goodN (k : Int) (bb : List UInt8) : Prop := mayN k (readNd bb) ∧ ndBody k (readNd bb) = bb
instance (k : Int) (bb : List UInt8) : Decidable (goodN k bb) := by unfold goodN; infer_instance
def ndO (k : Int) (bb : List UInt8) : Value := .tuple #[ndV (if goodN k bb then readNd bb else zNd), .bool (decide (goodN k bb))]
theorem nN_lt (bb : List UInt8) (a n : Nat) : 0 ≤ nN bb a n ∧ nN bb a n < (256 ^ n : Nat) := by
  unfold nN
  have h1 := num_lt (part bb a n)
  have h2 : 256 ^ (part bb a n).length ≤ 256 ^ n := Nat.pow_le_pow_right (by decide) (part_length bb a n)
  constructor
  · omega
  · exact Int.ofNat_lt.2 (Nat.lt_of_lt_of_le h1 h2)
theorem readNd_ok (bb : List UInt8) (h : bb.length = 56) : NdOk (readNd bb) := by
  have e4 := nN_lt bb 0 4
  have e2 := fun a => nN_lt bb a 2
  have e3 := nN_lt bb 6 4
  simp only [show (256 ^ 4 : Nat) = 4294967296 from rfl, show (256 ^ 2 : Nat) = 65536 from rfl] at e4 e2 e3
  have a0 := e2 4
  have a1 := e2 10
  have a2 := e2 12
  have a3 := e2 14
  have a4 := e2 16
  have a5 := e2 18
  refine ⟨?_, ?_, ?_, ?_, ?_, ?_, ?_, ?_, ?_⟩ <;> unfold readNd <;> dsimp only
  · omega
  · unfold I64; omega
  · unfold I64; omega
  · unfold I64; omega
  · unfold I64; omega
  · unfold I64; omega
  · unfold I64; omega
  · unfold I64; omega
  · unfold part; rw [List.length_take, List.length_drop, h]; omega
/-- what is read of a node behind k of its blocks -/
def ndPre (bb : List UInt8) (k : Nat) : Nd := ⟨nN bb 0 4, nN bb 4 2, nN bb 6 4, if 0 < k then nN bb 10 2 - 1 else 0, if 1 < k then nN bb 12 2 - 1 else 0, if 2 < k then nN bb 14 2 - 1 else 0, if 3 < k then nN bb 16 2 - 1 else 0, 0, []⟩
theorem ndPre_succ (bb : List UInt8) (k : Nat) (h : k < 4) : (ndA (ndPre bb k)).setIfInBounds (3 + k) (.int .i64 (nN bb (10 + 2 * k) 2 - 1)) = ndA (ndPre bb (k + 1)) := by
  rcases k with _ | _ | _ | _ | k
  · rfl
  · rfl
  · rfl
  · rfl
  · omega
theorem infoNd_zero : (Try.prog.info? 25).map (·.zero) = some (some (ndV zNd)) := by kernel_rfl
theorem ndA_all (n : Nd) : (ndA n).all (·.oneCell') = true := by simp [ndA, Value.oneCell']
theorem nd_frozen (w : World) (g i : Nat) (n : Nd) (h : NdAt w g n) : w.frozen? ⟨g, i, none⟩ = false := RowAt.frozen h
theorem results_nd2 {fn : Func} {p q : Tmp} (h : fn.results = #[.cell p 25, .tmp q]) {tmps : Array Value} {w : World} {g : Nat} {n : Nd} {v : Value} (hp : tmps.getD p undef = .pointer (some ⟨g, 0, none⟩)) (hq : tmps.getD q undef = v) (hB : NdAt w g n) :
    (results fn tmps).run Try.prog w = .ok (.tuple #[ndV n, v]) w := by
  have hp' : tmps[p]?.getD undef = .pointer (some ⟨g, 0, none⟩) := by simpa using hp
  have hq' : tmps[q]?.getD undef = v := by simpa using hq
  simp [results, h, hp', hq', asAddr, run_rw_load (P := Try.prog) hB Try.underlying25 rfl infoNd_size]
def TakeRelN (kd : Int) (b : List UInt8) (w : World) (g1 g2 g6 : Nat) (x i : Value) (wr : World) : Prop := ∃ k : Nat, k ≤ 4 ∧ i = .int .i64 (k : Int) ∧ NdAt wr g6 (ndPre b k) ∧ IntAt wr g2 ((10 + 2 * k : Nat) : Int) ∧ BlkAt wr w.heap.size kd b ∧ NdAt wr g1 zNd ∧ Below w.heap.size w wr
set_option maxRecDepth 100000 in
set_option maxHeartbeats 8000000 in
theorem ndTake_any (kd : Int) (b : List UInt8) (w : World) (hb56 : b.length = 56) :
    Calls Try.prog 18 #[blkV kd b] w fun e w' => e = .returned (ndO kd b) ∧ Below w.heap.size w w' := by
  go_enter Try.func18, Try.ntmps18
  go_wp2_with (refine wp_want rfl fun K hK => ?_; refine wp_blk_box rfl rfl hb56 ?_)
  intro w1 B1 b1 s1
  refine hK _ _ ?_
  clear hK K
  go_wp2_with (refine wp_want rfl fun K hK => ?_; refine wp_rw_alloc (P := Try.prog) (t := 25) (ndV zNd) infoNd_zero rfl ?_)
  intro w2 A2 b2 s2
  refine hK _ _ ?_
  clear hK K
  have W : Below w.heap.size w w2 := b1.trans (b2.mono b1.size)
  have B1 := B1.later b2
  have hlt1 : w.heap.size < w1.heap.size := s1
  have hlt2 : w1.heap.size < w2.heap.size := s2
  clear s1 b2 s2
  go_upto_region 3 with fail
  have a3 : IntAt (w2.alloc (.cells #[.int .i64 0] 3)) w2.heap.size ((0 : Nat) : Int) := RowAt.new _ _ _
  have b3 := below_new w2 (.cells #[.int .i64 0] 3)
  generalize w2.alloc (.cells #[.int .i64 0] 3) = w3 at *
  have W := W.trans (b3.mono W.size)
  have B1 := B1.later b3
  have A2 := A2.later b3
  have hlt3 := a3.lt
  clear b3
  have q1 : num (part b 4 2) < 65536 := Nat.lt_of_lt_of_le (num_lt _) (Nat.pow_le_pow_right (by decide) (part_length b 4 2))
  have q2 : num (part b 6 4) < 4294967296 := Nat.lt_of_lt_of_le (num_lt _) (Nat.pow_le_pow_right (by decide) (part_length b 6 4))
  go_wp2_with fail
  refine (takeNum_any kd b w.heap.size w2.heap.size 0 4 w3 B1 a3 (by omega) (by decide) (by decide)).mono ?_
  rintro e w4 ⟨rfl, a4, g4, z4⟩
  have B1 := B1.grown g4 (by omega)
  have A2 := A2.grown g4 (by omega)
  have W := below_row W g4 W.size (by omega)
  have n4 := Nat.le_of_eq z4.symm
  clear a3 g4 z4
  go_wp2_with fail
  refine (takeNum_any kd b w.heap.size w2.heap.size 4 2 w4 B1 a4 (by omega) (by decide) (by decide)).mono ?_
  rintro e w5 ⟨rfl, a5, g5, z5⟩
  have B1 := B1.grown g5 (by omega)
  have A2 := A2.grown g5 (by omega)
  have W := below_row W g5 W.size (by omega)
  have n5 := Nat.le_of_eq z5.symm
  clear a4 g5 z5
  go_wp2_with fail
  refine (takeNum_any kd b w.heap.size w2.heap.size 6 4 w5 B1 a5 (by omega) (by decide) (by decide)).mono ?_
  rintro e w6 ⟨rfl, a6, g6, z6⟩
  have B1 := B1.grown g6 (by omega)
  have A2 := A2.grown g6 (by omega)
  have W := below_row W g6 W.size (by omega)
  have n6 := Nat.le_of_eq z6.symm
  clear a5 g6 z6
  go_wp2_with (refine wp_want rfl fun K hK => ?_; refine wp_rw_alloc (P := Try.prog) (t := 25) (ndV zNd) infoNd_zero rfl ?_)
  intro w7 A7 b7 s7
  refine hK _ _ ?_
  clear hK K
  have B1 := B1.later b7
  have A2 := A2.later b7
  have a6 := a6.later b7
  have hlt6 := a6.lt
  have W := W.trans (b7.mono W.size)
  go_wp2_with (refine wp_want rfl fun K hK => ?_; refine wp_rw_store (P := Try.prog) (cs := ndA (ndPre b 0)) A7 infoNd_size rfl (ndA_all _) rfl rfl rfl ?_)
  intro w8 A8 g8 z8
  refine hK _ _ ?_
  clear hK K
  have hlt6' : w2.heap.size < w6.heap.size := by omega
  have B1 := B1.grown g8 (by omega)
  have A2 := A2.grown g8 (by omega)
  have a6 := a6.grown g8 (by omega)
  have W := below_row W g8 W.size (by omega)
  clear A7 b7 s7 g8
  go_wp2_with fail
  have lt8 : w6.heap.size < w8.heap.size := A8.lt
  go_loopw [7, 21] (fun x i wr => TakeRelN kd b w w1.heap.size w2.heap.size w6.heap.size x i wr) (fun _ i _ => 4 - (intOf i).toNat)
  case atStart => exact ⟨0, by decide, rfl, A8, a6, B1, A2, W⟩
  case round =>
    clear A8 a6 B1 A2 W
    obtain ⟨k, hk, rfl, A8, a6, B1, A2, W⟩ := hrel
    have lt6 := A8.lt
    by_cases hlt : k < 4
    · have hlI : (k : Int) < 4 := by omega
      go_wp2_with fail
      refine (takeNum_any kd b w.heap.size w2.heap.size (10 + 2 * k) 2 wr B1 a6 (by omega) (by decide) (by omega)).mono ?_
      rintro e w9 ⟨rfl, a9, g9, z9⟩
      have B1 := B1.grown g9 (by omega)
      have A2 := A2.grown g9 (by omega)
      have A8 := A8.grown g9 (by omega)
      have W := below_row W g9 W.size (by omega)
      have n9 := Nat.le_of_eq z9.symm
      have q3 : num (part b (10 + 2 * k) 2) < 65536 := Nat.lt_of_lt_of_le (num_lt _) (Nat.pow_le_pow_right (by decide) (part_length b _ 2))
      have hset := ndPre_succ b k hlt
      unfold nN at hset
      obtain ⟨zx, kx⟩ : ∃ z, w9.cell? ⟨w6.heap.size, 3 + k, none⟩ = some z := by
        have hsz : (ndA (ndPre b k)).size = 9 := rfl
        exact ⟨_, A8.cell (3 + k) (ndA (ndPre b k))[3 + k] (Array.getElem?_eq_getElem (by omega))⟩
      have fx := nd_frozen w9 w6.heap.size (3 + k) _ A8
      obtain ⟨A10, g10, z10⟩ := A8.set (3 + k) (.int .i64 ((num (part b (10 + 2 * k) 2) : Int) - 1))
      rw [hset] at A10
      have B1 := B1.grown g10 (by omega)
      have A2 := A2.grown g10 (by omega)
      have a9 := a9.grown g10 (by omega)
      have W := below_row W g10 W.size (by omega)
      have n10 := Nat.le_of_eq z10.symm
      clear z9 z10 A8 a6 g9 g10 hset
      have a9 : IntAt (w9.setCell ⟨w6.heap.size, 3 + k, none⟩ (.int .i64 ((num (part b (10 + 2 * k) 2) : Int) - 1))) w2.heap.size ((10 + 2 * (k + 1) : Nat) : Int) := a9
      generalize num (part b (10 + 2 * k) 2) = m at *
      go_wp2_with fail
      go_roundw
      case rel => exact ⟨k + 1, by omega, by go_num, A10, a9, B1, A2, W⟩
      case measure => simp only [intOf]; omega
    · have hlI : ¬ (k : Int) < 4 := by omega
      obtain rfl : k = 4 := by omega
      go_wp2_with fail
      refine (takeNum_any kd b w.heap.size w2.heap.size 18 2 wr B1 a6 (by omega) (by decide) (by decide)).mono ?_
      rintro e w9 ⟨rfl, a9, g9, z9⟩
      have B1 := B1.grown g9 (by omega)
      have A2 := A2.grown g9 (by omega)
      have A8 := A8.grown g9 (by omega)
      have W := below_row W g9 W.size (by omega)
      have n9 := Nat.le_of_eq z9.symm
      have q3 : num (part b 18 2) < 65536 := Nat.lt_of_lt_of_le (num_lt _) (Nat.pow_le_pow_right (by decide) (part_length b _ 2))
      have kx := A8.cell 7 (.int .i64 0) rfl
      have fx := nd_frozen w9 w6.heap.size 7 _ A8
      obtain ⟨A10, g10, z10⟩ := A8.set 7 (.int .i64 ((num (part b 18 2) : Int) - 1))
      have B1 := B1.grown g10 (by omega)
      have A2 := A2.grown g10 (by omega)
      have a9 := a9.grown g10 (by omega)
      have W := below_row W g10 W.size (by omega)
      have n10 := Nat.le_of_eq z10.symm
      have a9 : IntAt (w9.setCell ⟨w6.heap.size, 7, none⟩ (.int .i64 ((num (part b 18 2) : Int) - 1))) w2.heap.size ((20 : Nat) : Int) := a9
      have A10 : NdAt (w9.setCell ⟨w6.heap.size, 7, none⟩ (.int .i64 ((num (part b 18 2) : Int) - 1))) w6.heap.size { readNd b with s := [] } := A10
      clear z9 z10 A8 a6 g9 g10
      generalize num (part b 18 2) = m at *
      go_upto_region 10 with fail
      generalize w9.setCell ⟨w6.heap.size, 7, none⟩ (.int .i64 ((m : Int) - 1)) = w10 at *
      have q4 : num (part b 20 1) < 256 := Nat.lt_of_lt_of_le (num_lt _) (Nat.pow_le_pow_right (by decide) (part_length b _ 1))
      clear kx fx
      go_wp2_with fail
      refine (takeNum_any kd b w.heap.size w2.heap.size 20 1 w10 B1 a9 (by omega) (by decide) (by decide)).mono ?_
      rintro e w11 ⟨rfl, a11, g11, z11⟩
      have B1 := B1.grown g11 (by omega)
      have A2 := A2.grown g11 (by omega)
      have A10 := A10.grown g11 (by omega)
      have W := below_row W g11 W.size (by omega)
      have n11 := Nat.le_of_eq z11.symm
      have a11 : IntAt w11 w2.heap.size 21 := a11
      have k21 := a11.cell 0 _ rfl
      clear a9 g11 z11
      have hst : part b 21 (num (part b 20 1)) = (b.drop 21).take (min (21 + num (part b 20 1)) 56 - 21) := by
        unfold part
        rw [List.take_eq_take_iff, List.length_drop, hb56]
        omega
      have hrs : ({ readNd b with s := part b 21 (num (part b 20 1)) } : Nd) = readNd b := rfl
      obtain ⟨E, hE⟩ : ∃ E, E = min (21 + num (part b 20 1)) 56 := ⟨_, rfl⟩
      rw [← hE] at hst
      have hmin : min (21 + (num (part b 20 1) : Int)) 56 = (E : Int) := by omega
      have hE1 : 21 ≤ E ∧ E ≤ 56 := by omega
      obtain ⟨e1, e2⟩ := hE1
      have e3 : (21 : Int) ≤ (E : Int) := by omega
      have e4 : (E : Int) ≤ 56 := by omega
      have ys := fun w2 => slice_body (g := w.heap.size) (i := 21) (n := E - 21) (by decide) (by omega) 21 (E : Int) rfl (by omega) w2
      have r21 := B1.rd (i := 21) (n := E - 21) (by omega)
      have hS := run_string_of (P := Try.prog) r21 37 5 9 Try.underlying37 Try.underlying5 Try.underlying9
      rw [← hst] at hS
      clear hst hE r21
      generalize part b 21 (num (part b 20 1)) = sx at *
      have Hrs := Lib.hid hrs
      clear hrs
      generalize num (part b 20 1) = mm at *
      have kx := A10.cell 8 (str []) rfl
      have fx := nd_frozen w11 w6.heap.size 8 _ A10
      obtain ⟨A12, g12, z12⟩ := A10.set 8 (str sx)
      go_upto_region 12 with fail
      have A12 : NdAt (w11.setCell ⟨w6.heap.size, 8, none⟩ (str sx)) w6.heap.size (readNd b) := by rw [← Hrs.out]; exact A12
      have B1 := B1.grown g12 (by omega)
      have A2 := A2.grown g12 (by omega)
      have W := below_row W g12 W.size (by omega)
      have n12 := Nat.le_of_eq z12.symm
      generalize w11.setCell ⟨w6.heap.size, 8, none⟩ (str sx) = w12 at *
      clear z12 g12 kx fx ys hS hmin k21 a11 Hrs A10 e1 e2 e3 e4
      have hP := fun w => ndPut_any kd (readNd b) w (readNd_ok b hb56)
      have hEl := ndBody_length (kind := kd) (n := readNd b)
      have hgd : goodN kd b ↔ mayN kd (readNd b) ∧ ndBody kd (readNd b) = b := Iff.rfl
      have hK6 : mayN kd (readNd b) → ndK kd (readNd b) = kd := fun h => by unfold ndK; rw [if_pos h]
      have Hgd := Lib.hid hgd
      have HK6 := Lib.hid hK6
      have HY : goodN kd b → ndO kd b = .tuple #[ndV (readNd b), .bool true] := fun h => by unfold ndO; rw [if_pos h, decide_eq_true h]
      have HN : ¬ goodN kd b → ndO kd b = .tuple #[ndV zNd, .bool false] := fun h => by unfold ndO; rw [if_neg h, decide_eq_false h]
      have HY := Lib.hid HY
      have HN := Lib.hid HN
      clear hgd hK6
      generalize readNd b = n at *
      generalize goodN kd b = good at *
      have ck := B1.kind
      go_wp2_with (refine wp_want rfl fun K hK => ?_; (refine wp_rw_load (P := Try.prog) A12 Try.underlying25 rfl infoNd_size rfl rfl ?_; refine hK _ _ ?_; clear hK K))
      refine (hP _).mono ?_
      rintro e w13 ⟨rfl, b13⟩
      have W := W.trans (b13.mono W.size)
      have n13 := b13.size
      have A2 := A2.later b13
      have A12 := A12.later b13
      have B1 := B1.later b13
      go_wp2_with (refine wp_want rfl fun K hK => ?_; refine wp_blk_alloc rfl ?_)
      intro w14 B14 b14 s14
      refine hK _ _ ?_
      clear hK K
      have W := W.trans (b14.mono W.size)
      have n14 := b14.size
      have A2 := A2.later b14
      have A12 := A12.later b14
      have B1 := B1.later b14
      go_wp2_with (refine wp_want rfl fun K hK => ?_; refine wp_blk_store rfl rfl rfl hEl B14 ?_)
      intro w15 B15 g15 z15
      refine hK _ _ ?_
      clear hK K
      have A2 := A2.grown g15 (by omega)
      have A12 := A12.grown g15 (by omega)
      have B1 := B1.grown g15 (by omega)
      have W := below_row W g15 W.size (by omega)
      clear b13 b14 s14 B14 g15 z15 hP
      by_cases hmy : mayN kd n
      · have hk6 := HK6.out hmy
        obtain ⟨r, hr⟩ : ∃ r, decide (ndK kd n = kd ∧ ndBody kd n = b) = r := ⟨_, rfl⟩
        have hgr : good ↔ r = true := by
          rw [← hr, decide_eq_true_iff]
          exact Hgd.out.trans ⟨fun h => ⟨hk6, h.2⟩, fun h => ⟨hmy, h.2⟩⟩
        have Hr := Lib.hid hr
        have Hgr := Lib.hid hgr
        rw [decide_eq_true hmy]
        clear hr hgr hk6 hmy
        cases r
        · have Hres := Lib.hid (HN.out fun h => by cases Hgr.out.1 h)
          go_wp2_with (refine wp_want rfl fun K hK => ?_; first | (refine wp_blk_load rfl rfl B15 ?_; refine hK _ _ ?_; clear hK K) | (refine wp_blk_load rfl rfl B1 ?_; refine hK _ _ ?_; clear hK K) | (refine wp_blk_eqlR false Hr.out rfl rfl rfl hEl hb56 ?_; refine hK _ _ ?_; clear hK K) | refine wp_rw_store (P := Try.prog) (cs := ndA zNd) A2 infoNd_size rfl (ndA_all _) rfl rfl rfl ?_)
          intro w16 A16 g16 z16
          refine hK _ _ ?_
          clear hK K
          have W := below_row W g16 W.size (by omega)
          go_wp2_with fail
          exact bodyPost_ret (results_nd2 rfl rfl rfl A16) rfl ⟨by rw [Hres.out]; rfl, W⟩
        · have Hres := Lib.hid (HY.out (Hgr.out.2 rfl))
          go_wp2_with (refine wp_want rfl fun K hK => ?_; first | (refine wp_blk_load rfl rfl B15 ?_; refine hK _ _ ?_; clear hK K) | (refine wp_blk_load rfl rfl B1 ?_; refine hK _ _ ?_; clear hK K) | (refine wp_blk_eqlR true Hr.out rfl rfl rfl hEl hb56 ?_; refine hK _ _ ?_; clear hK K) | (refine wp_rw_load (P := Try.prog) A12 Try.underlying25 rfl infoNd_size rfl rfl ?_; refine hK _ _ ?_; clear hK K) | refine wp_rw_store (P := Try.prog) (cs := ndA n) A2 infoNd_size rfl (ndA_all _) rfl rfl rfl ?_)
          intro w16 A16 g16 z16
          refine hK _ _ ?_
          clear hK K
          have W := below_row W g16 W.size (by omega)
          go_wp2_with fail
          exact bodyPost_ret (results_nd2 rfl rfl rfl A16) rfl ⟨by rw [Hres.out]; rfl, W⟩
      · have Hres := Lib.hid (HN.out fun h => hmy (Hgd.out.1 h).1)
        rw [decide_eq_false hmy]
        clear hmy
        go_wp2_with (refine wp_want rfl fun K hK => ?_; refine wp_rw_store (P := Try.prog) (cs := ndA zNd) A2 infoNd_size rfl (ndA_all _) rfl rfl rfl ?_)
        intro w16 A16 g16 z16
        refine hK _ _ ?_
        clear hK K
        have W := below_row W g16 W.size (by omega)
        go_wp2_with fail
        exact bodyPost_ret (results_nd2 rfl rfl rfl A16) rfl ⟨by rw [Hres.out]; rfl, W⟩
end Go.Proofs.Ytgeiafijibgdhaa.Cl
