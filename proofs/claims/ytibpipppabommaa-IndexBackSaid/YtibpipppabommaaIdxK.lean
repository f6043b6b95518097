/- The law IndexBack. -/
import Derived.Test.YtibpipppabommaaIdxF
set_option linter.unusedVariables false
set_option linter.unusedSimpArgs false
namespace Go.Proofs.Ytibpipppabommaa.Cl
open Go Go.Proofs Go.RowKit Fl Rely

theorem twos_get (l : List Int) (i : Nat) (hi : i < l.length) : (twos l)[2 * i]? = some 0 ∧ (twos l)[2 * i + 1]? = some (UInt8.ofNat (l[i] + 1).toNat) := by
  induction l generalizing i with
  | nil => simp at hi
  | cons n l ih =>
    have e : twos (n :: l) = two n ++ twos l := by simp [twos]
    rw [e]
    have h2 : (two n).length = 2 := rfl
    cases i with
    | zero => exact ⟨rfl, rfl⟩
    | succ i =>
      obtain ⟨a, b⟩ := ih i (by simpa using hi)
      refine ⟨?_, ?_⟩
      · rw [List.getElem?_append_right (by omega), h2, show 2 * (i + 1) - 2 = 2 * i by omega, a]
      · rw [List.getElem?_append_right (by omega), h2, show 2 * (i + 1) + 1 - 2 = 2 * i + 1 by omega, b]
        rfl
theorem take_body {l : List Int} (h : okI l) : takeI (bodyI l) = l := by
  have hl := h.1
  apply List.ext_getElem?
  intro i
  by_cases hi : i < 16
  · have hil : i < l.length := by omega
    obtain ⟨a, b⟩ := twos_get l i hil
    have h2 := twos_length l
    have hbad := h.2 i hi
    rw [badI_at hil] at hbad
    have hr : -1 ≤ l[i] ∧ l[i] < 200 := by
      by_cases h1 : l[i] = -1
      · omega
      · constructor
        · exact Decidable.byContradiction fun h' => hbad ⟨h1, .inl (by omega)⟩
        · exact Decidable.byContradiction fun h' => hbad ⟨h1, .inr (.inl (by omega))⟩
    unfold takeI
    rw [List.getElem?_map, List.getElem?_range hi, List.getElem?_eq_getElem hil]
    simp only [Option.map_some, Option.some.injEq]
    unfold tkI bodyI
    rw [List.getD_eq_getElem?_getD, List.getD_eq_getElem?_getD, List.getElem?_append_left (by omega), List.getElem?_append_left (by omega), a, b]
    simp only [Option.getD_some, UInt8.toNat_ofNat']
    have : (0 : UInt8).toNat = 0 := rfl
    rw [this]
    omega
  · rw [List.getElem?_eq_none (by rw [takeI_length]; omega), List.getElem?_eq_none (by omega)]

def atB (b : UInt8) : Int := if b.toNat % 200 = 1 then -1 else ((b.toNat % 200 : Nat) : Int) - 1
def dup (l : List Int) (q : Nat) : Bool := match l[q]? with
  | some x => x != -1 && (l.take q).contains x
  | none => false
def dupB (l : List Int) (k : Nat) : Bool := (List.range k).any (dup l)
theorem dupB_succ (l : List Int) (k : Nat) : dupB l (k + 1) = (dupB l k || dup l k) := by
  unfold dupB
  rw [List.range_succ, List.any_append]
  simp
theorem okI_map {l : List UInt8} (hl : l.length = 16) : okI (l.map atB) ↔ dupB (l.map atB) 16 = false := by
  have hr : ∀ b : UInt8, atB b = -1 ∨ (1 ≤ atB b ∧ atB b < 200) := fun b => by
    unfold atB
    split <;> omega
  unfold dupB
  rw [List.any_eq_false]
  constructor
  · intro h q hq
    have hq := List.mem_range.1 hq
    have hql : q < (l.map atB).length := by simp; omega
    have hb := h.2 q hq
    rw [badI_at hql] at hb
    unfold dup
    rw [List.getElem?_eq_getElem hql]
    intro hd
    simp only [Bool.and_eq_true, bne_iff_ne, ne_eq, List.contains_eq_mem, decide_eq_true_eq] at hd
    exact hb ⟨hd.1, .inr (.inr hd.2)⟩
  · intro h
    refine ⟨by simp [hl], fun q hq => ?_⟩
    have hql : q < (l.map atB).length := by simp; omega
    rw [badI_at hql]
    rintro ⟨h1, h2⟩
    have hd := h q (List.mem_range.2 hq)
    unfold dup at hd
    rw [List.getElem?_eq_getElem hql] at hd
    simp only [Bool.and_eq_true, bne_iff_ne, ne_eq, List.contains_eq_mem, decide_eq_true_eq, not_and] at hd
    have hx : (l.map atB)[q] = atB (l[q]'(by omega)) := List.getElem_map ..
    rcases h2 with h2 | h2 | h2
    · rcases hr (l[q]'(by omega)) with h3 | h3
      · exact h1 (by rw [hx, h3])
      · rw [hx] at h2; omega
    · rcases hr (l[q]'(by omega)) with h3 | h3
      · exact h1 (by rw [hx, h3])
      · rw [hx] at h2; omega
    · exact hd h1 h2
theorem contains_snoc (xs : List Int) (j : Nat) (h : j < xs.length) (X : Int) : (xs.take (j + 1)).contains X = ((xs.take j).contains X || (xs[j] == X)) := by
  rw [List.take_add_one, List.getElem?_eq_getElem h, Bool.eq_iff_iff]
  simp only [List.contains_eq_mem, Option.toList_some, List.mem_append, List.mem_singleton, decide_eq_true_eq, Bool.or_eq_true, beq_iff_eq]
  constructor
  · rintro (h | h)
    · exact .inl h
    · exact .inr h.symm
  · rintro (h | h)
    · exact .inl h
    · exact .inr h.symm
theorem wp_row_box {P : Program} {K : Act → World → Prop} {Q : Exit → Act → World → Prop} {o : Oper} {a : Act} {w : World} {t : TypeId} {x : Operand} {cells : Array Value} (hop : o.op = .box t x) (hx : a.eval x = .agg cells)
    (h : ∀ w', w'.heap[w.heap.size]? = some (.cells cells t (0, 0)) → Below w.heap.size w w' → w.heap.size < w'.heap.size → K (a.put o.dst (.pointer (some ⟨w.heap.size, 0, none⟩))) w') : o.wp P a w K Q := by
  unfold Oper.wp execOp
  simp only [hop, hx, Value.cells, Sem.run_bind, Instr.box, newVar, newRow, run_newObj_alloc, Sem.run_pure, Result.andThen_ok]
  exact h _ (heap_alloc_last w _) (below_new _ _) (by simp)

set_option maxRecDepth 100000 in
set_option maxHeartbeats 8000000 in
theorem idxBack_law (l : List UInt8) (w : World) (hl : l.length = 16) : Calls Try.prog 5 #[.agg (bs l).toArray] w fun e w' => e = .returned (.bool true) ∧ Below w.heap.size w w' := by
  obtain ⟨xs, hxs⟩ : ∃ xs, xs = l.map atB := ⟨_, rfl⟩
  have hxl : xs.length = 16 := by rw [hxs]; simp [hl]
  have Hok := Lib.hid (okI_map hl)
  rw [← hxs] at Hok
  have Hxs := Lib.hid hxs
  clear hxs
  go_enter Try.func5, Try.ntmps5
  go_wp2_with (refine wp_want rfl fun K hK => ?_; refine wp_row_box rfl rfl ?_)
  intro w1 A1 b1 s1
  refine hK _ _ ?_
  clear hK K
  go_wp2_with fail
  refine (idxBegun_any _).mono ?_
  rintro e w2 ⟨rfl, hb2⟩
  have A2 := (hb2.block w.heap.size s1).trans A1
  have hb2 := b1.trans (hb2.mono b1.size)
  have hs2 : w.heap.size < w2.heap.size := (Array.getElem?_eq_some_iff.1 A2).1
  clear A1 b1 s1
  go_wp2_with fail
  go_loopw [3, 4, 5] (fun u tw i wr => ∃ k : Nat, k ≤ 16 ∧ i = .int .i64 k ∧ IOwn wr w2.heap.size u (xs.take k) ∧ tw = .bool (dupB xs k) ∧ Below w2.heap.size w2 wr) (fun _ _ i _ => 16 - (intOf i).toNat)
  case atStart => exact ⟨0, Nat.zero_le _, rfl, IOwn.nil _ _, rfl, Below.refl _ _⟩
  case round =>
    obtain ⟨k, hk, rfl, hU, rfl, hb⟩ := hrel
    by_cases hlt : k < 16
    · have hki : (k : Int) < 16 := by omega
      have hkl : k < l.length := by omega
      have hc : wr.cell? ⟨w.heap.size, k, none⟩ = some (u8 l[k]) := by
        have h := cell_of_row w2 w.heap.size k _ _ _ A2
        have h2 : w2.cell? ⟨w.heap.size, k, none⟩ = some (u8 l[k]) := by rw [h]; simp [hkl]
        exact cell_later hb h2
      have hxk : k < xs.length := by omega
      have hat : xs[k] = atB l[k] := (List.getElem_of_eq Hxs.out hxk).trans (List.getElem_map ..)
      have hts := Lib.hid (take_snoc xs k hxk)
      have hdp : dupB xs (k + 1) = (dupB xs k || (xs[k] != -1 && (xs.take k).contains xs[k])) := by
        rw [dupB_succ]; unfold dup; rw [List.getElem?_eq_getElem hxk]
      generalize xs[k] = x at *
      generalize l[k] = y at *
      obtain ⟨r, hr⟩ : ∃ r, r = y.toNat % 200 := ⟨_, rfl⟩
      have hy := y.toNat_lt
      have er : (y.toNat : Int) % 200 = (r : Int) := by omega
      have hr200 : r < 200 := by omega
      have hx : x = if r = 1 then -1 else (r : Int) - 1 := by rw [hat]; unfold atB; rw [hr]
      clear hat hr
      have hlk : (xs.take k).length = k := by rw [List.length_take]; omega
      obtain ⟨a0, cap0, hua, ha⟩ := own_sl hU
      rw [hlk] at hua ha
      subst hua
      have Hdp := Lib.hid hdp
      have Hx := Lib.hid hx
      clear hdp hx
      by_cases h1 : r = 1
      · subst h1
        obtain rfl : x = -1 := by rw [Hx.out]; rfl
        go_wp2_with fail
        go_loop [4, 7] (fun tw i => ∃ j : Nat, j ≤ k ∧ i = .int .i64 j ∧ tw = .bool (dupB xs k || ((-1) != -1 && (xs.take j).contains (-1)))) (fun _ i => k - (intOf i).toNat)
        case atStart => exact ⟨0, Nat.zero_le _, rfl, by simp⟩
        case round =>
          obtain ⟨j, hj, rfl, rfl⟩ := hrel
          by_cases hjk : j < k
          · have hxj : j < xs.length := by omega
            obtain ⟨g, rfl⟩ := ha (by omega)
            have hcj : wr.cell? ⟨g, j, none⟩ = some (.int .i64 xs[j]) := by
              have hU' : wr.ownsRow w2.heap.size 3 1 (.slice (some ⟨g, 0, none⟩) k cap0) k (ints (xs.take k)) := by
                have h0 := hU
                unfold IOwn at h0
                rw [hlk] at h0
                exact h0
              have h := hU'.cellAt j (by omega)
              rw [List.getElem?_map, List.getElem?_take, if_pos hjk, List.getElem?_eq_getElem hxj] at h
              exact h
            have hjk' : (j : Int) < (k : Int) := by omega
            have hcs : (xs.take (j + 1)).contains (-1) = ((xs.take j).contains (-1) || (xs[j] == (-1))) := contains_snoc xs j hxj (-1)
            generalize xs[j] = z at *
            have Hcs := Lib.hid hcs
            clear hcs
            cases hT : (dupB xs k || ((-1) != -1 && (xs.take j).contains (-1)))
            · have hT' := hT
              rw [Bool.or_eq_false_iff] at hT'
              obtain ⟨hT1, hT2⟩ := hT'
              have HT := Lib.hid hT
              clear hT hT1 hT2
              go_wp2_with fail
              go_round
              case rel =>
                refine ⟨j + 1, by omega, by go_num, ?_⟩
                have h := HT.out
                rw [Hcs.out]
                congr 1
                revert h
                cases dupB xs k <;> simp
              case measure => simp only [intOf]; omega
            · have HT := Lib.hid hT
              clear hT
              go_wp2_with fail
              go_round
              case rel =>
                refine ⟨j + 1, by omega, by go_num, ?_⟩
                have h := HT.out
                rw [Hcs.out]
                congr 1
                revert h
                cases dupB xs k <;> cases ((-1) != -1) <;> cases (xs.take j).contains (-1) <;> simp
              case measure => simp only [intOf]; omega
          · obtain rfl : k = j := by omega
            have hbel := hb
            go_wp2_with (at_builtin; go_loud (refine wpList_int1 w2.heap.size _ _ (xs.take k) (-1) rfl _ _ rfl rfl rfl (hU.below (below_new wr _)) (one_rd (new_cells wr #[.int .i64 (-1)] 3 0 _ rfl)) (by rw [List.length_take]; omega) (Nat.le_trans hb.size (le_new _ _)) ?_))
            intro u6 w6 hO6 hb6
            have hb6' := (hb.trans ((below_new wr _).mono hb.size)).trans hb6
            go_wp2_with fail
            go_roundw
            case rel => exact ⟨k + 1, by omega, by go_num, by rw [hts.out]; exact hO6, by rw [Hdp.out]; simp, hb6'⟩
            case measure => simp only [intOf]; omega
      · obtain rfl : x = (r : Int) - 1 := by rw [Hx.out, if_neg h1]
        have hr0 : ((r : Int) - 1 == 0) = false := by rw [beq_eq_false_iff_ne]; omega
        go_wp2_with fail
        go_loop [4, 7] (fun tw i => ∃ j : Nat, j ≤ k ∧ i = .int .i64 j ∧ tw = .bool (dupB xs k || (((r : Int) - 1) != -1 && (xs.take j).contains ((r : Int) - 1)))) (fun _ i => k - (intOf i).toNat)
        case atStart => exact ⟨0, Nat.zero_le _, rfl, by simp⟩
        case round =>
          obtain ⟨j, hj, rfl, rfl⟩ := hrel
          by_cases hjk : j < k
          · have hxj : j < xs.length := by omega
            obtain ⟨g, rfl⟩ := ha (by omega)
            have hcj : wr.cell? ⟨g, j, none⟩ = some (.int .i64 xs[j]) := by
              have hU' : wr.ownsRow w2.heap.size 3 1 (.slice (some ⟨g, 0, none⟩) k cap0) k (ints (xs.take k)) := by
                have h0 := hU
                unfold IOwn at h0
                rw [hlk] at h0
                exact h0
              have h := hU'.cellAt j (by omega)
              rw [List.getElem?_map, List.getElem?_take, if_pos hjk, List.getElem?_eq_getElem hxj] at h
              exact h
            have hjk' : (j : Int) < (k : Int) := by omega
            have hcs : (xs.take (j + 1)).contains ((r : Int) - 1) = ((xs.take j).contains ((r : Int) - 1) || (xs[j] == ((r : Int) - 1))) := contains_snoc xs j hxj ((r : Int) - 1)
            generalize xs[j] = z at *
            have Hcs := Lib.hid hcs
            clear hcs
            cases hT : (dupB xs k || (((r : Int) - 1) != -1 && (xs.take j).contains ((r : Int) - 1)))
            · have hT' := hT
              rw [Bool.or_eq_false_iff] at hT'
              obtain ⟨hT1, hT2⟩ := hT'
              by_cases hm : ((r : Int) - 1) = -1
              · have hmb : (((r : Int) - 1) != -1) = false := by rw [hm]; rfl
                have HT := Lib.hid hT
                have Hm := Lib.hid hmb
                clear hT hT1 hT2 hm
                go_wp2_with fail
                go_round
                case rel =>
                  refine ⟨j + 1, by omega, by go_num, ?_⟩
                  have h := HT.out
                  have h2 := Hm.out
                  rw [Hcs.out]
                  congr 1
                  revert h
                  rw [h2]
                  cases dupB xs k <;> simp
                case measure => simp only [intOf]; omega
              · have hmb : (((r : Int) - 1) != -1) = true := by rw [bne_iff_ne]; exact hm
                have HT := Lib.hid hT
                have Hm := Lib.hid hmb
                have HT1 := Lib.hid hT1
                have HT2 := Lib.hid hT2
                clear hT hT1 hT2
                by_cases hz : z = ((r : Int) - 1)
                · have hzb : (z == ((r : Int) - 1)) = true := beq_iff_eq.2 hz
                  have Hz := Lib.hid hzb
                  clear hz
                  go_wp2_with fail
                  go_round
                  case rel =>
                    refine ⟨j + 1, by omega, by go_num, ?_⟩
                    rw [Hcs.out, Hz.out, Hm.out]
                    simp
                  case measure => simp only [intOf]; omega
                · have hzb : (z == ((r : Int) - 1)) = false := beq_eq_false_iff_ne.2 hz
                  have Hz := Lib.hid hzb
                  clear hz
                  go_wp2_with fail
                  go_round
                  case rel =>
                    refine ⟨j + 1, by omega, by go_num, ?_⟩
                    have h := HT.out
                    rw [Hcs.out, Hz.out]
                    simp only [Bool.or_false]
                    rw [h]
                  case measure => simp only [intOf]; omega
            · have HT := Lib.hid hT
              clear hT
              go_wp2_with fail
              go_round
              case rel =>
                refine ⟨j + 1, by omega, by go_num, ?_⟩
                have h := HT.out
                rw [Hcs.out]
                congr 1
                revert h
                cases dupB xs k <;> cases (((r : Int) - 1) != -1) <;> cases (xs.take j).contains ((r : Int) - 1) <;> simp
              case measure => simp only [intOf]; omega
          · obtain rfl : k = j := by omega
            have hbel := hb
            go_wp2_with (at_builtin; go_loud (refine wpList_int1 w2.heap.size _ _ (xs.take k) ((r : Int) - 1) rfl _ _ rfl rfl rfl (hU.below (below_new wr _)) (one_rd (new_cells wr #[.int .i64 ((r : Int) - 1)] 3 0 _ rfl)) (by rw [List.length_take]; omega) (Nat.le_trans hb.size (le_new _ _)) ?_))
            intro u6 w6 hO6 hb6
            have hb6' := (hb.trans ((below_new wr _).mono hb.size)).trans hb6
            go_wp2_with fail
            go_roundw
            case rel => exact ⟨k + 1, by omega, by go_num, by rw [hts.out]; exact hO6, by rw [Hdp.out]; simp, hb6'⟩
            case measure => simp only [intOf]; omega
    · obtain rfl : k = 16 := by omega
      rw [List.take_of_length_le (by omega)] at hU
      have hxge : 16 ≤ xs.length := by omega
      have hxle : xs.length ≤ 16 := by omega
      clear hxl
      cases hD : dupB xs 16
      · have hok := Hok.out.2 hD
        clear hD
        go_wp2_with fail
        refine (put_any _ xs _ hU.rd).mono ?_
        rintro e p2 ⟨h1, h2, hc⟩
        obtain rfl := h1 hok
        clear h1 h2
        go_wp2_with (refine wp_want rfl fun K hK => ?_; refine wp_blk_alloc rfl ?_)
        intro q2 B0 b0 s0
        refine hK _ _ ?_
        clear hK K
        go_wp2_with (refine wp_want rfl fun K hK => ?_; refine wp_blk_store rfl rfl rfl (bodyI_length (by omega)) B0 ?_)
        intro r2 D2 b1 s1
        have hd := below_grown b0 b1 (Nat.le_refl _) (Nat.le_refl _)
        have he := hc.trans (hd.mono hc.size)
        clear s1 B0 b0 b1 s0 hd hc
        refine hK _ _ ?_
        clear hK K
        have hU2 := hU.below he
        have hb2' := hb.trans (he.mono hb.size)
        clear he hU hb
        go_wp2_with (refine wp_want rfl fun K hK => ?_; (refine wp_blk_load rfl rfl D2 ?_; refine hK _ _ ?_; clear hK K))
        refine (take_any 5 (bodyI xs) _ D2.1).mono ?_
        rintro e w3 ⟨h1, h2, hc⟩
        obtain ⟨u8, rfl, hU8⟩ := h1 ⟨by rw [take_body hok]; exact hok, rfl, by rw [take_body hok]⟩
        rw [take_body hok] at hU8
        have hU3 := hU2.below hc
        have hb3 := hb2'.trans (hc.mono hb2'.size)
        clear hU2 hb2' hc D2 h1 h2
        obtain ⟨g8, c8, rfl⟩ := own_form hU8 (by omega)
        obtain ⟨gx, cx, rfl⟩ := own_form hU3 (by omega)
        have hU8' : w3.ownsRow r2.heap.size 3 1 (.slice (some ⟨g8, 0, none⟩) xs.length c8) xs.length (ints xs) := hU8
        have hU3' : w3.ownsRow w2.heap.size 3 1 (.slice (some ⟨gx, 0, none⟩) xs.length cx) xs.length (ints xs) := hU3
        have hxlb : ((xs.length : Int) != 16) = false := by rw [bne_eq_false_iff_eq]; omega
        go_wp2_with fail
        go_loopw [12] (fun i wr => ∃ j : Nat, j ≤ 16 ∧ i = .int .i64 j ∧ Below w3.heap.size w3 wr) (fun i _ => 16 - (intOf i).toNat)
        case atStart => exact ⟨0, by omega, rfl, Below.refl _ _⟩
        case round =>
          obtain ⟨j, hj, rfl, hbj⟩ := hrel
          by_cases hj16 : j < 16
          · have hji : (j : Int) < 16 := by omega
            have hjx : (j : Int) < (xs.length : Int) := by omega
            have hdr := (Below.refl wr.heap.size wr).drew
            have hcell : ∀ (g B cap : Nat), w3.ownsRow B 3 1 (.slice (some ⟨g, 0, none⟩) xs.length cap) xs.length (ints xs) → wr.drew.cell? ⟨g, j, none⟩ = some (.int .i64 (xs[j]'(by omega))) := fun g B cap h => by
              have h1 := h.cellAt j (by omega)
              rw [List.getElem?_map, List.getElem?_eq_getElem (by omega)] at h1
              exact cell_later (hbj.trans (hdr.mono hbj.size)) h1
            have z1 := hcell _ _ _ hU8'
            have z2 := hcell _ _ _ hU3'
            clear hcell
            generalize xs[j]'(by omega) = z at *
            have y1 := fun x : Lat wr.drew => cell_later x.2 z1
            have y2 := fun x : Lat wr.drew => cell_later x.2 z2
            go_wp2_with fail
            refine wp_region_rely 14 (by kernel_rfl) (by kernel_rfl) ?_
            simp only [List.take_succ_cons, List.take_zero]
            generalize World.drew wr = wa at *
            repeat (first
              | (refine wpR_step0 ?_ ?_ (fun K hK => ?_); rfl; rfl; go_simp; refine hK _ ?_; clear hK K))
            refine wpR_nil fun x => ?_
            obtain ⟨wb, wbb⟩ := x
            simp only [close, List.drop_succ_cons, List.drop_zero]
            clear y1 y2
            go_wp2_with fail
            go_roundw
            case rel => exact ⟨j + 1, by omega, by go_num, hbj.trans ((hdr.trans (wbb.mono hdr.size)).mono hbj.size)⟩
            case measure => simp only [intOf]; omega
          · obtain rfl : j = 16 := by omega
            rw [show ((16 : Nat) : Int) = 16 from rfl]
            go_wp2_with fail
            go_loopw [13, 14] (fun s i wr' => ∃ j : Nat, j ≤ 22 ∧ i = .int .i64 ((j : Int) - 1) ∧ s = .int .i64 (min (j - 1) 20 : Nat) ∧ Below w3.heap.size w3 wr') (fun _ i _ => 22 - (intOf i + 1).toNat)
            case atStart => exact ⟨0, by omega, rfl, rfl, hbj⟩
            case round =>
              obtain ⟨j, hj, rfl, rfl, hbz⟩ := hrel
              rcases Nat.eq_zero_or_pos j with rfl | hjp
              · go_wp2_with fail
                refine (where_any (-1) _).mono ?_
                rintro e w4 ⟨rfl, rfl⟩
                rw [show whereI (-1) = .tuple #[.int .i64 0, .int .i64 0, .bool false] from rfl]
                go_wp2_with fail
                go_roundw
                case rel => exact ⟨1, by omega, rfl, rfl, hbz⟩
                case measure => simp only [intOf]; omega
              · obtain ⟨n, rfl⟩ : ∃ n, j = n + 1 := ⟨j - 1, by omega⟩
                have en : ((n + 1 : Nat) : Int) - 1 = (n : Int) := by omega
                rw [en, show n + 1 - 1 = n from rfl]
                by_cases h20 : n ≤ 20
                · have h20' : (n : Int) ≤ 20 := by omega
                  by_cases h21 : n = 20
                  · subst h21
                    go_wp2_with fail
                    refine (where_any 20 _).mono ?_
                    rintro e w4 ⟨rfl, rfl⟩
                    rw [show whereI 20 = .tuple #[.int .i64 0, .int .i64 0, .bool false] from rfl]
                    go_wp2_with fail
                    go_roundw
                    case rel => exact ⟨22, by omega, rfl, rfl, hbz⟩
                    case measure => simp only [intOf]; omega
                  · have hn0 : (0 : Int) ≤ (n : Int) := by omega
                    have hnl : (n : Int) < 20 := by omega
                    have hmin : min n 20 = n := by omega
                    rw [hmin]
                    by_cases h4 : n < 4
                    · have b1 : ((n : Int) == -1) = false := by rw [beq_eq_false_iff_ne]; omega
                      have b2 : ((n : Int) != -1) = true := by rw [bne_iff_ne]; omega
                      have hw : whereI (n : Int) = .tuple #[.int .i64 n, .int .i64 (-1), .bool true] := by unfold whereI; rw [if_neg (by omega), if_pos (by omega)]
                      go_wp2_with fail
                      refine (where_any n _).mono ?_
                      rintro e w4 ⟨rfl, rfl⟩
                      rw [hw]
                      clear hw
                      go_wp2_with fail
                      go_roundw
                      case rel => exact ⟨n + 2, by omega, int_val (by omega), int_val (by omega), hbz⟩
                      case measure => simp only [intOf]; omega
                    · have b1 : ((n : Int) - 4 == -1) = false := by rw [beq_eq_false_iff_ne]; omega
                      have b2 : ((n : Int) - 4 != -1) = true := by rw [bne_iff_ne]; omega
                      have hw : whereI (n : Int) = .tuple #[.int .i64 (-1), .int .i64 ((n : Int) - 4), .bool true] := by unfold whereI; rw [if_neg (by omega), if_neg (by omega)]
                      go_wp2_with fail
                      refine (where_any n _).mono ?_
                      rintro e w4 ⟨rfl, rfl⟩
                      rw [hw]
                      clear hw
                      go_wp2_with fail
                      go_roundw
                      case rel => exact ⟨n + 2, by omega, int_val (by omega), int_val (by omega), hbz⟩
                      case measure => simp only [intOf]; omega
                · obtain rfl : n = 21 := by omega
                  go_wp2_with fail
                  go_returns
                  exact ⟨rfl, hb2.trans ((hb3.trans (hbz.mono hb3.size)).mono hb2.size)⟩
      · have hnok : ¬ okI xs := fun h => by have := Hok.out.1 h; rw [hD] at this; cases this
        clear hD
        go_wp2_with fail
        refine (put_any _ xs _ hU.rd).mono ?_
        rintro e p2 ⟨h1, h2, hc⟩
        obtain rfl := h2 hnok
        clear h1 h2
        go_wp2_with (refine wp_want rfl fun K hK => ?_; refine wp_blk_alloc rfl ?_)
        intro q2 B0 b0 s0
        refine hK _ _ ?_
        clear hK K
        go_wp2_with (refine wp_want rfl fun K hK => ?_; refine wp_blk_store rfl rfl rfl Z56_length B0 ?_)
        intro r2 D2 b1 s1
        have hd := below_grown b0 b1 (Nat.le_refl _) (Nat.le_refl _)
        have he := hc.trans (hd.mono hc.size)
        clear s1 B0 b0 b1 s0 hd hc
        refine hK _ _ ?_
        clear hK K
        have hU2 := hU.below he
        have hb2' := hb.trans (he.mono hb.size)
        clear he hU hb
        go_wp2_with (refine wp_want rfl fun K hK => ?_; (refine wp_blk_load rfl rfl D2 ?_; refine hK _ _ ?_; clear hK K))
        refine (take_any 0 Z56 _ D2.1).mono ?_
        rintro e w3 ⟨h1, h2, hc⟩
        obtain rfl := h2 (fun h => by cases h.2.1)
        have hU3 := hU2.below hc
        have hb3 := hb2'.trans (hc.mono hb2'.size)
        clear hU2 hb2' hc D2 h1 h2
        go_wp2_with fail
        go_loop [12] (fun i => i = .int .i64 0) (fun _ => 0)
        case atStart => rfl
        case round =>
          subst hrel
          go_wp2_with fail
          go_loopw [13, 14] (fun s i wr' => ∃ j : Nat, j ≤ 22 ∧ i = .int .i64 ((j : Int) - 1) ∧ s = .int .i64 (min (j - 1) 20 : Nat) ∧ Below w3.heap.size w3 wr') (fun _ i _ => 22 - (intOf i + 1).toNat)
          case atStart => exact ⟨0, by omega, rfl, rfl, Below.refl _ _⟩
          case round =>
            obtain ⟨j, hj, rfl, rfl, hbz⟩ := hrel
            rcases Nat.eq_zero_or_pos j with rfl | hjp
            · go_wp2_with fail
              refine (where_any (-1) _).mono ?_
              rintro e w4 ⟨rfl, rfl⟩
              rw [show whereI (-1) = .tuple #[.int .i64 0, .int .i64 0, .bool false] from rfl]
              go_wp2_with fail
              go_roundw
              case rel => exact ⟨1, by omega, rfl, rfl, hbz⟩
              case measure => simp only [intOf]; omega
            · obtain ⟨n, rfl⟩ : ∃ n, j = n + 1 := ⟨j - 1, by omega⟩
              have en : ((n + 1 : Nat) : Int) - 1 = (n : Int) := by omega
              rw [en, show n + 1 - 1 = n from rfl]
              by_cases h20 : n ≤ 20
              · have h20' : (n : Int) ≤ 20 := by omega
                by_cases h21 : n = 20
                · subst h21
                  go_wp2_with fail
                  refine (where_any 20 _).mono ?_
                  rintro e w4 ⟨rfl, rfl⟩
                  rw [show whereI 20 = .tuple #[.int .i64 0, .int .i64 0, .bool false] from rfl]
                  go_wp2_with fail
                  go_roundw
                  case rel => exact ⟨22, by omega, rfl, rfl, hbz⟩
                  case measure => simp only [intOf]; omega
                · have hn0 : (0 : Int) ≤ (n : Int) := by omega
                  have hnl : (n : Int) < 20 := by omega
                  have hmin : min n 20 = n := by omega
                  rw [hmin]
                  by_cases h4 : n < 4
                  · have b1 : ((n : Int) == -1) = false := by rw [beq_eq_false_iff_ne]; omega
                    have b2 : ((n : Int) != -1) = true := by rw [bne_iff_ne]; omega
                    have hw : whereI (n : Int) = .tuple #[.int .i64 n, .int .i64 (-1), .bool true] := by unfold whereI; rw [if_neg (by omega), if_pos (by omega)]
                    go_wp2_with fail
                    refine (where_any n _).mono ?_
                    rintro e w4 ⟨rfl, rfl⟩
                    rw [hw]
                    clear hw
                    go_wp2_with fail
                    go_roundw
                    case rel => exact ⟨n + 2, by omega, int_val (by omega), int_val (by omega), hbz⟩
                    case measure => simp only [intOf]; omega
                  · have b1 : ((n : Int) - 4 == -1) = false := by rw [beq_eq_false_iff_ne]; omega
                    have b2 : ((n : Int) - 4 != -1) = true := by rw [bne_iff_ne]; omega
                    have hw : whereI (n : Int) = .tuple #[.int .i64 (-1), .int .i64 ((n : Int) - 4), .bool true] := by unfold whereI; rw [if_neg (by omega), if_neg (by omega)]
                    go_wp2_with fail
                    refine (where_any n _).mono ?_
                    rintro e w4 ⟨rfl, rfl⟩
                    rw [hw]
                    clear hw
                    go_wp2_with fail
                    go_roundw
                    case rel => exact ⟨n + 2, by omega, int_val (by omega), int_val (by omega), hbz⟩
                    case measure => simp only [intOf]; omega
              · obtain rfl : n = 21 := by omega
                go_wp2_with fail
                go_returns
                exact ⟨rfl, hb2.trans ((hb3.trans (hbz.mono hb3.size)).mono hb2.size)⟩
end Go.Proofs.Ytibpipppabommaa.Cl
