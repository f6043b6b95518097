/- index.Where, index.Put and the document's. -/
import Derived.Test.YtibpipppabommaaBlk
import Derived.Test.YtibpipppabommaaMap
import Derived.Handy
import Derived.ScopeJumps
import Derived.WalkMore
set_option linter.unusedVariables false
set_option linter.unusedSimpArgs false
namespace Go.Proofs.Ytibpipppabommaa.Cl
open Go Go.Proofs Go.RowKit Fl

theorem info3 : (Try.prog.info? 3).map (fun i => (i.zero, i.size, i.bytes)) = some (some (.int .i64 0), 1, 8) := by kernel_rfl
def whereI (k : Int) : Value := if k < 0 ∨ 20 ≤ k then .tuple #[.int .i64 0, .int .i64 0, .bool false] else if k < 4 then .tuple #[.int .i64 k, .int .i64 (-1), .bool true] else .tuple #[.int .i64 (-1), .int .i64 (k - 4), .bool true]
theorem where_any (k : Int) (w : World) : Calls Try.prog 16 #[.int .i64 k] w fun e w' => e = .returned (whereI k) ∧ w = w' := by
  go_enter Try.func16, Try.ntmps16
  by_cases h1 : k < 0
  · go_wp2
    go_returns
    exact ⟨by unfold whereI; rw [if_pos (.inl h1)]; rfl, rfl⟩
  · by_cases h2 : 20 ≤ k
    · go_wp2
      go_returns
      exact ⟨by unfold whereI; rw [if_pos (.inr h2)]; rfl, rfl⟩
    · by_cases h3 : k < 4
      · go_wp2
        go_returns
        exact ⟨by unfold whereI; rw [if_neg (by omega), if_pos h3]; rfl, rfl⟩
      · have e4 : IntKind.i64.wrap (k - 4) = k - 4 := IntWalk.i64_in _ (by omega)
        go_wp2
        go_returns
        exact ⟨by unfold whereI; rw [if_neg (by omega), if_neg (by omega)]; rfl, rfl⟩
theorem refWhere_any (k : Int) (w : World) : Calls Try.prog 17 #[.int .i64 k] w fun e w' => e = .returned (whereI k) ∧ w = w' := by
  go_enter Try.func17, Try.ntmps17
  by_cases h1 : k < 0
  · go_wp2
    go_returns
    exact ⟨by unfold whereI; rw [if_pos (.inl h1)]; rfl, rfl⟩
  · by_cases h2 : 20 ≤ k
    · go_wp2
      go_returns
      exact ⟨by unfold whereI; rw [if_pos (.inr h2)]; rfl, rfl⟩
    · by_cases h3 : k < 4
      · go_wp2
        go_returns
        exact ⟨by unfold whereI; rw [if_neg (by omega), if_pos h3]; rfl, rfl⟩
      · have e4 : IntKind.i64.wrap (k - 4) = k - 4 := IntWalk.i64_in _ (by omega)
        go_wp2
        go_returns
        exact ⟨by unfold whereI; rw [if_neg (by omega), if_neg (by omega)]; rfl, rfl⟩
theorem mayAt_any (n : Int) (w : World) : Calls Try.prog 47 #[.int .i64 n] w fun e w' => e = .returned (.bool (decide (1 ≤ n ∧ n < 200))) ∧ w = w' := by
  go_enter Try.func47, Try.ntmps47
  by_cases h1 : 1 ≤ n
  · go_wp2
    go_ret
    exact ⟨ret_bool (by simp [h1]), rfl⟩
  · go_wp2
    go_ret
    exact ⟨ret_bool (by simp; omega), rfl⟩

/-! ### which indices may be -/
abbrev ints (l : List Int) : List Value := l.map (Value.int .i64)
def badI (l : List Int) (i : Nat) : Prop := ∃ h : i < l.length, l[i] ≠ -1 ∧ (l[i] < 1 ∨ 200 ≤ l[i] ∨ l[i] ∈ l.take i)
def okI (l : List Int) : Prop := l.length = 16 ∧ ∀ i, i < 16 → ¬ badI l i
def two (n : Int) : List UInt8 := [0, UInt8.ofNat (n + 1).toNat]
def twos (l : List Int) : List UInt8 := l.flatMap two
theorem twos_length : ∀ l : List Int, (twos l).length = 2 * l.length
  | [] => rfl
  | n :: l => by
    have := twos_length l
    unfold twos at *
    rw [List.flatMap_cons, List.length_append, this, List.length_cons]
    simp [two]
    omega
def bodyI (l : List Int) : List UInt8 := twos l ++ List.replicate (56 - 2 * l.length) 0
theorem bodyI_length {l : List Int} (h : l.length ≤ 16) : (bodyI l).length = 56 := by
  unfold bodyI
  rw [List.length_append, twos_length, List.length_replicate]
  omega
theorem bodyI_snoc {l : List Int} (h : l.length < 16) (n : Int) : ((bodyI l).set (2 * l.length) 0).set (2 * l.length + 1) (UInt8.ofNat (n + 1).toNat) = bodyI (l ++ [n]) := by
  have hl := twos_length l
  unfold bodyI
  have e : twos (l ++ [n]) = twos l ++ [0, UInt8.ofNat (n + 1).toNat] := by simp [twos, two]
  rw [e, List.length_append]
  obtain ⟨m, hm⟩ : ∃ m, 56 - 2 * l.length = m + 2 := ⟨56 - 2 * l.length - 2, by omega⟩
  rw [hm, show 56 - 2 * (l.length + [n].length) = m by simp; omega, List.replicate_succ, List.replicate_succ]
  rw [List.set_append_right _ _ (by omega), List.set_append_right _ _ (by omega), hl]
  simp
theorem in_set (w : World) {r : Nat} {S : List Int} (h : SetAt w r S) (x : Int) : (Instr.lookup 76 (.map (some r)) (.int .i64 x) false).run Try.prog w = .ok (.bool (decide (x ∈ S))) w :=
  run_in_set Try.underlying76 Try.underlying3 Try.zeroValue4 h x
theorem to_set (w : World) {r : Nat} {S : List Int} (h : SetAt w r S) (x : Int) : ∃ w', (Instr.mapUpdate 76 (.map (some r)) (.int .i64 x) (.bool true)).run Try.prog w = .ok () w' ∧ SetAt w' r (x :: S) ∧ w.grownBy w' (some r) ∧ w'.heap.size = w.heap.size :=
  run_to_set Try.underlying76 Try.underlying3 h x

theorem below_grown {B g : Nat} {w w1 w2 : World} (h : Below B w w1) (hg : w1.grownBy w2 (some g)) (hg2 : B ≤ g) (hB : B ≤ w.heap.size) : Below B w w2 :=
  h.grown hg (Nat.le_trans hB h.size) (fun k hk => by cases hk; exact hg2)
theorem badI_at {l : List Int} {k : Nat} (hk : k < l.length) : badI l k ↔ (l[k] ≠ -1 ∧ (l[k] < 1 ∨ 200 ≤ l[k] ∨ l[k] ∈ l.take k)) := ⟨fun ⟨_, h⟩ => h, fun h => ⟨hk, h⟩⟩

set_option maxRecDepth 100000 in
set_option maxHeartbeats 4000000 in
theorem put_any (v : Value) (l : List Int) (w : World) (hv : Rd w v (ints l)) :
    Calls Try.prog 18 #[v] w fun e w' => (okI l → e = .returned (.tuple #[blkV 5 (bodyI l), .bool true])) ∧ (¬ okI l → e = .returned (.tuple #[blkV 0 Z56, .bool false])) ∧ Below w.heap.size w w' := by
  obtain ⟨ad, cap, rfl, hc1, hc2, hcell, _⟩ := id hv
  rw [List.length_map] at *
  have hmm := @run_makeMap Try.prog
  go_enter Try.func18, Try.ntmps18
  go_wp2_with (refine wp_want rfl fun K hK => ?_; refine wp_blk_alloc rfl ?_)
  intro w1 B1 b1 s1
  refine hK _ _ ?_
  clear hK K
  go_wp2_with fail
  refine wp_scope_jumps 0 (fun a' w' => (BlkAt w' w.heap.size 0 Z56 ∧ Below w.heap.size w w' ∧ ¬ okI l) ∧ ∃ (z0 z1 z3 z4 z5 z6 z7 z8 z9 z10 z11 z12 z13 z14 z15 z16 z17 z18 z19 z20 z21 z22 z23 z24 z25 z26 z27 z28 z29 z30 z31 z32 z33 z34 z35 z36 z37 z38 z39 z40 z41 z42 z43 z44 z45 z46 z47 z48 z49 z50 z51 z52 z53 z54 z55 : Value), a' = { tmps := #[z0, z1, .pointer (some ⟨w.heap.size, 0, none⟩), z3, z4, z5, z6, z7, z8, z9, z10, z11, z12, z13, z14, z15, z16, z17, z18, z19, z20, z21, z22, z23, z24, z25, z26, z27, z28, z29, z30, z31, z32, z33, z34, z35, z36, z37, z38, z39, z40, z41, z42, z43, z44, z45, z46, z47, z48, z49, z50, z51, z52, z53, z54, z55], defers := [] }) (fun _ _ => 0) rfl ?_ ?_
  · go_wp2_with (refine wp_want rfl fun K hK => ?_; first | refine wp_blk_alloc rfl ?_ | (refine wp_blk_build rfl rfl ?_; refine hK _ _ ?_; clear hK K))
    intro w2 B2 b2 s2
    refine hK _ _ ?_
    clear hK K
    go_wp2_with (refine wp_want rfl fun K hK => ?_; refine wp_blk_store rfl rfl rfl Z56_length B2 ?_)
    intro w3 B3 b3 s3
    refine hK _ _ ?_
    clear hK K
    have b2w := b1.trans (b2.mono b1.size)
    have b3w := below_grown b2w b3 b1.size (Nat.le_refl _)
    have BR3 := (B1.later b2).grown b3 (by omega)
    have hb4 := below_new w3 (.map #[] 0)
    by_cases h16 : l.length = 16
    · have hne : ((l.length : Int) != 16) = false := by rw [bne_eq_false_iff_eq]; omega
      have hle16 : l.length ≤ 16 := by omega
      have hge16 : 16 ≤ l.length := by omega
      have H16 := Lib.hid h16
      clear h16
      go_wp2_with fail
      go_loopw [15] (fun i wr => ∃ k : Nat, k ≤ l.length ∧ i = .int .i64 k ∧ BlkAt wr w1.heap.size 5 (bodyI (l.take k)) ∧ SetAt wr w2.heap.size (l.take k).reverse ∧ BlkAt wr w.heap.size 0 Z56 ∧ Below w.heap.size w wr ∧ (∀ j, j < k → ¬ badI l j)) (fun i _ => l.length - (intOf i).toNat)
      case atStart =>
        have hs := set_new w3
        rw [s3] at hs
        exact ⟨0, Nat.zero_le _, rfl, B3.later hb4, hs, BR3.later hb4, b3w.trans (hb4.mono b3w.size), fun j hj => by omega⟩
      case round =>
        obtain ⟨k, hk, rfl, hB, hS, hR, hb, hno⟩ := hrel
        by_cases hlt : k < l.length
        · obtain ⟨ad, rfl, hcx⟩ := hcell k (by rw [List.length_map]; exact hlt)
          rw [List.getElem_map] at hcx
          have hcx := cell_later hb hcx
          have hbk := badI_at hlt
          have hbs := bodyI_snoc (l := l.take k) (by rw [List.length_take]; omega) l[k]
          have hts := Lib.hid (take_snoc l k hlt)
          generalize l[k] = n at *
          have hin := in_set wr hS n
          obtain ⟨w5, hto, hS5, hg5, hz5⟩ := to_set wr hS n
          have hB5 := hB.grown hg5 (by omega)
          have hR5 := hR.grown hg5 (by omega)
          have hb5 := below_grown hb hg5 (by omega) (Nat.le_refl _)
          have hl56 : (bodyI (l.take k)).length = 56 := hB.1
          have hl2 : 2 * k + 1 < 56 := by omega
          have z1 := hB5.byte (i := 2 * k) (by omega)
          have f1 := hB5.frozen (i := 1 + 2 * k)
          obtain ⟨hB6, hg6, hz6⟩ := hB5.setByte (2 * k) 0 (.int .u8 0) rfl
          have z2 := hB6.byte (i := 2 * k + 1) (by rw [List.length_set]; omega)
          have f2 := hB6.frozen (i := 1 + (2 * k + 1))
          have h7 := hB6.setByte (2 * k + 1) (UInt8.ofNat (n + 1).toNat)
          by_cases hn1 : n = -1
          · subst hn1
            obtain ⟨hB7, hg7, hz7⟩ := h7 (.int .u8 0) rfl
            go_wp2_with fail
            go_roundw
            case rel =>
              have hR7 := (hR5.grown hg6 (by omega)).grown hg7 (by omega)
              have hS7 := (hS5.grown hg6 (by omega)).grown hg7 (by omega)
              have hb7 := below_grown (below_grown hb5 hg6 (by omega) (Nat.le_refl _)) hg7 (by omega) (Nat.le_refl _)
              refine ⟨k + 1, by omega, by go_num, ?_, ?_, hR7, hb7, fun j hj => ?_⟩
              · rw [hts.out]
                rw [List.length_take, Nat.min_eq_left (by omega)] at hbs
                rw [← hbs]
                exact hB7
              · rw [hts.out, List.reverse_append]
                exact hS7
              · by_cases hjk : j < k
                · exact hno j hjk
                · obtain rfl : j = k := by omega
                  exact fun h => (hbk.1 h).1 rfl
            case measure => simp only [intOf]; omega
          · by_cases h1 : n < 1
            · have h1' := Lib.hid h1
              go_wp2_with fail
              go_step3
              refine ⟨rfl, ?_, _, _, _, _, _, _, _, _, _, _, _, _, _, _, _, _, _, _, _, _, _, _, _, _, _, _, _, _, _, _, _, _, _, _, _, _, _, _, _, _, _, _, _, _, _, _, _, _, _, _, _, _, _, _, _, rfl⟩
              exact ⟨hR, hb, fun h => h.2 k (by omega) (hbk.2 ⟨hn1, .inl h1'.out⟩)⟩
            · obtain ⟨m, rfl⟩ : ∃ m : Nat, n = (m : Int) := ⟨n.toNat, by omega⟩
              by_cases h2 : 200 ≤ m
              · have h2' := Lib.hid h2
                go_wp2_with fail
                go_step3
                refine ⟨rfl, ?_, _, _, _, _, _, _, _, _, _, _, _, _, _, _, _, _, _, _, _, _, _, _, _, _, _, _, _, _, _, _, _, _, _, _, _, _, _, _, _, _, _, _, _, _, _, _, _, _, _, _, _, _, _, _, _, rfl⟩
                exact ⟨hR, hb, fun h => h.2 k (by omega) (hbk.2 ⟨hn1, .inr (.inl (by have := h2'.out; omega))⟩)⟩
              · by_cases h3 : (m : Int) ∈ l.take k
                · have hd : decide ((m : Int) ∈ (l.take k).reverse) = true := decide_eq_true (List.mem_reverse.2 h3)
                  rw [hd] at hin
                  go_wp2_with fail
                  go_step3
                  refine ⟨rfl, ?_, _, _, _, _, _, _, _, _, _, _, _, _, _, _, _, _, _, _, _, _, _, _, _, _, _, _, _, _, _, _, _, _, _, _, _, _, _, _, _, _, _, _, _, _, _, _, _, _, _, _, _, _, _, _, _, rfl⟩
                  exact ⟨hR, hb, fun h => h.2 k (by omega) (hbk.2 ⟨hn1, .inr (.inr h3)⟩)⟩
                · have hd : decide ((m : Int) ∈ (l.take k).reverse) = false := decide_eq_false (fun h => h3 (List.mem_reverse.1 h))
                  rw [hd] at hin
                  have hq : ((m : Int) + 1) / 256 = 0 := by omega
                  obtain ⟨hB7, hg7, hz7⟩ := h7 (.int .u8 ((m : Int) + 1)) (int_val (by rw [UInt8.toNat_ofNat']; omega))
                  have hbad : ¬ badI l k := fun h => by
                    rcases (hbk.1 h).2 with h | h | h
                    · exact h1 h
                    · exact h2 (by omega)
                    · exact h3 h
                  have Hbad := Lib.hid hbad
                  clear hbad
                  go_wp2_with fail
                  go_roundw
                  case rel =>
                    have hR7 := (hR5.grown hg6 (by omega)).grown hg7 (by omega)
                    have hS7 := (hS5.grown hg6 (by omega)).grown hg7 (by omega)
                    have hb7 := below_grown (below_grown hb5 hg6 (by omega) (Nat.le_refl _)) hg7 (by omega) (Nat.le_refl _)
                    refine ⟨k + 1, by omega, by go_num, ?_, ?_, hR7, hb7, fun j hj => ?_⟩
                    · rw [hts.out]
                      rw [List.length_take, Nat.min_eq_left (by omega)] at hbs
                      rw [← hbs]
                      exact hB7
                    · rw [hts.out, List.reverse_append]
                      exact hS7
                    · by_cases hjk : j < k
                      · exact hno j hjk
                      · obtain rfl : j = k := by omega
                        exact Hbad.out
                  case measure => simp only [intOf]; omega
        · obtain rfl : k = l.length := by omega
          rw [List.take_length] at hB
          have hok : okI l := ⟨H16.out, fun i hi => hno i (by omega)⟩
          go_wp2_with (refine wp_want rfl fun K hK => ?_; first | refine wp_blk_store rfl rfl rfl hB.1 hR ?_ | (refine wp_blk_load rfl rfl hB ?_; refine hK _ _ ?_; clear hK K))
          intro w6 B6 b6 s6
          refine hK _ _ ?_
          clear hK K
          go_wp2_with fail
          simp only [Exit.jump]
          exact bodyPost_ret (results_blk2 rfl rfl rfl B6) rfl ⟨fun _ => rfl, fun h => (h hok).elim, below_grown hb b6 (Nat.le_refl _) (Nat.le_refl _)⟩
    · have hne : ((l.length : Int) != 16) = true := by rw [bne_iff_ne]; omega
      go_wp2_with fail
      go_step3
      refine ⟨rfl, ?_, _, _, _, _, _, _, _, _, _, _, _, _, _, _, _, _, _, _, _, _, _, _, _, _, _, _, _, _, _, _, _, _, _, _, _, _, _, _, _, _, _, _, _, _, _, _, _, _, _, _, _, _, _, _, _, rfl⟩
      exact ⟨BR3.later hb4, b3w.trans (hb4.mono b3w.size), fun h => h16 h.1⟩
  · skip
    rintro a' w' ⟨⟨hB, hb, hno⟩, z0, z1, z3, z4, z5, z6, z7, z8, z9, z10, z11, z12, z13, z14, z15, z16, z17, z18, z19, z20, z21, z22, z23, z24, z25, z26, z27, z28, z29, z30, z31, z32, z33, z34, z35, z36, z37, z38, z39, z40, z41, z42, z43, z44, z45, z46, z47, z48, z49, z50, z51, z52, z53, z54, z55, rfl⟩
    go_wp2_with (refine wp_want rfl fun K hK => ?_; first | refine wp_blk_store rfl rfl rfl Z56_length hB ?_ | (refine wp_blk_build0 rfl ?_; refine hK _ _ ?_; clear hK K))
    intro w2 B2 b2 s2
    refine hK _ _ ?_
    clear hK K
    go_wp2_with fail
    simp only [Exit.jump]
    exact bodyPost_ret (results_blk2 rfl rfl rfl B2) rfl ⟨fun h => (hno h).elim, fun _ => rfl, below_grown hb b2 (Nat.le_refl _) (Nat.le_refl _)⟩
end Go.Proofs.Ytibpipppabommaa.Cl
