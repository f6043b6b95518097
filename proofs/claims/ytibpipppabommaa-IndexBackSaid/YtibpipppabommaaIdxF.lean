/- The law IndexForms. -/
import Derived.Test.YtibpipppabommaaIdxA
set_option linter.unusedVariables false
set_option linter.unusedSimpArgs false
namespace Go.Proofs.Ytibpipppabommaa.Cl
open Go Go.Proofs Go.RowKit Fl Rely

def pcLen (o n : Int) : Nat := if o < 0 ∨ n < 0 ∨ 1120 < o ∨ 1120 - o < n then 0 else pcN o.toNat (o + n).toNat
def SlN (n : Nat) (v : Value) (_ : World) : Prop := ∃ a cap, v = .slice a n cap
theorem pieces_len (o n : Int) (w : World) : Calls Try.prog 22 #[.int .i64 o, .int .i64 n] w fun e w' => ∃ u, e = .returned u ∧ Below w.heap.size w w' ∧ SlN (pcLen o n) u w' := by
  refine (pieces_any o n w).mono ?_
  rintro e w' ⟨h1, h2, hb⟩
  unfold pcLen
  by_cases h : o < 0 ∨ n < 0 ∨ 1120 < o ∨ 1120 - o < n
  · rw [if_pos h]
    exact ⟨_, h1 h, hb, none, 0, rfl⟩
  · rw [if_neg h]
    obtain ⟨u, rfl, hO⟩ := h2 h
    obtain ⟨a, cap, rfl, _⟩ := own_sl hO
    rw [pcs_length]
    exact ⟨_, rfl, hb, a, cap, rfl⟩
def offsL : List Int := [0, 0, 55, 56, 1119, 1120, 1119, -1, 0, 3, 100]
def nsL : List Int := [0, 56, 2, 56, 1, 0, 2, 1, -1, 1120, 57]
def manyL : List Int := [0, 1, 2, 1, 1, 0, 0, 0, 0, 0, 2]
theorem many_is : ∀ j (h : j < 11), ((pcLen (offsL[j]'h) (nsL[j]'h) : Nat) : Int) = manyL[j]'h := by decide +kernel
def oneTo : List Int := (List.range 16).map fun (i : Nat) => (i : Int) + 1
theorem not0 : ¬ okI (List.replicate 16 0) := not_okI_of (by decide +kernel)
theorem ok116 : okI oneTo := okI_of (by decide +kernel)
theorem notDup : ¬ okI (oneTo.set 15 3) := not_okI_of (by decide +kernel)
theorem notShort : ¬ okI ((oneTo.set 15 3).take 15) := not_okI_of (by decide +kernel)
theorem rd_take {w : World} {ad : Addr} {n cap m : Nat} {l : List Int} (h : Rd w (.slice (some ad) n cap) (ints l)) (hm : m ≤ n) : Rd w (.slice (some ad) m cap) (ints (l.take m)) := by
  obtain ⟨a, c, hv, h1, h2, h3, _⟩ := h
  cases hv
  have hl : (ints (l.take m)).length = m := by
    rw [List.length_map] at hm
    simp; omega
  refine ⟨some ad, cap, by rw [hl], by rw [hl]; omega, h2, fun j hj => ?_, fun h => by cases h⟩
  rw [hl] at hj
  obtain ⟨ad', e, hc⟩ := h3 j (by omega)
  refine ⟨ad', e, ?_⟩
  rw [hc]
  simp only [List.getElem_map, List.getElem_take]
def turnedB : List UInt8 := (bodyI oneTo).set 32 1
theorem notTurned : ¬ goodI 5 turnedB := fun h => absurd h.2.2 (by decide +kernel)

theorem ints_at (w : World) (l : List Int) (j : Nat) (hj : j < l.length) (cs : Array Value) (hcs : cs = (ints l).toArray) (e : TypeId) : (w.alloc (.cells cs e)).cell? ⟨w.heap.size, j, none⟩ = some (.int .i64 l[j]) := by
  subst hcs
  have := new_cells w (ints l).toArray e j (.int .i64 l[j]) (by simp [hj])
  rw [Addr.add_mid, Nat.zero_add] at this
  exact this
theorem persist_sl (n : Nat) : Persist (SlN n) := fun v W W' h _ => h

set_option maxRecDepth 100000 in
set_option maxHeartbeats 8000000 in
theorem idxForms_law (w : World) : Calls Try.prog 6 #[] w fun e w' => e = .returned (.bool true) ∧ Below w.heap.size w w' := by
  obtain ⟨i3, hi3, hz3, hs3, hb3⟩ := info_parts info3
  go_enter Try.func6, Try.ntmps6
  go_wp2_with fail
  refine (idxBegun_any _).mono ?_
  rintro e w1 ⟨rfl, hb1⟩
  go_wp2_with fail
  refine at_wp fun w4 hw4 => ?_
  have hb14 : Below w1.heap.size w1 w4 := by
    rw [hw4]
    exact ((Below.refl _ _).alloc (Nat.le_refl _) _).alloc (by simp) _ |>.alloc (by simp; omega) _
  have hof : ∀ j (h : j < 11), w4.cell? ⟨w1.heap.size, j, none⟩ = some (.int .i64 (offsL[j]'h)) := fun j h => by
    rw [hw4]
    exact cell_later (below_new _ _) (cell_later (below_new _ _) (ints_at w1 offsL j h _ rfl _))
  have hns : ∀ j (h : j < 11), w4.cell? ⟨w1.heap.size + 1, j, none⟩ = some (.int .i64 (nsL[j]'h)) := fun j h => by
    rw [hw4]
    have h2 := ints_at (w1.alloc (.cells (ints offsL).toArray 3)) nsL j h _ rfl 3
    rw [World.size_alloc] at h2
    exact cell_later (below_new _ _) h2
  have hma : ∀ j (h : j < 11), w4.cell? ⟨w1.heap.size + 2, j, none⟩ = some (.int .i64 (manyL[j]'h)) := fun j h => by
    rw [hw4]
    have h2 := ints_at ((w1.alloc (.cells (ints offsL).toArray 3)).alloc (.cells (ints nsL).toArray 3)) manyL j h _ rfl 3
    rw [World.size_alloc, World.size_alloc] at h2
    exact h2
  have hb4 := hb1.trans (hb14.mono hb1.size)
  clear hw4
  go_loopw [4] (fun i wr => ∃ j : Nat, j ≤ 11 ∧ i = .int .i64 j ∧ Below w4.heap.size w4 wr) (fun i _ => 11 - (intOf i).toNat)
  case atStart => exact ⟨0, Nat.zero_le _, rfl, Below.refl _ _⟩
  case round =>
    obtain ⟨j, hj, rfl, hb⟩ := hrel
    by_cases hlt : j < 11
    · have hjl : (j : Int) < 11 := by omega
      have hdr := (Below.refl wr.heap.size wr).drew
      have hb' := hb.trans (hdr.mono hb.size)
      have z1 := cell_later hb' (hof j hlt)
      have z2 := cell_later hb' (hns j hlt)
      have z3 := cell_later hb' (hma j hlt)
      have hlen := Lib.hid (many_is j hlt)
      generalize offsL[j]'hlt = x1 at *
      generalize nsL[j]'hlt = x2 at *
      rw [← hlen.out] at z3
      clear hlen
      have y1 := fun x : Lat wr.drew => cell_later x.2 z1
      have y2 := fun x : Lat wr.drew => cell_later x.2 z2
      have y3 := fun x : Lat wr.drew => cell_later x.2 z3
      go_wp2_with fail
      refine wp_region_rely 15 (by kernel_rfl) (by kernel_rfl) ?_
      simp only [List.take_succ_cons, List.take_zero]
      generalize World.drew wr = wa at *
      repeat (first
        | (refine wpR_step0 ?_ ?_ (fun K hK => ?_); rfl; rfl; go_simp; refine hK _ ?_; clear hK K))
      refine wpR_fresh (SlN (pcLen x1 x2)) 36 rfl rfl rfl rfl (of_decide_eq_true rfl) (persist_sl _) (fun x => ?_) ?_
      · go_simp
        exact pieces_len x1 x2 x.1
      refine wpR_settled (.int .i64 (pcLen x1 x2 : Nat)) [(36, SlN (pcLen x1 x2))] rfl rfl rfl (fun x => ?_) ?_
      · simp only [close]
        rintro u36 ⟨a, cap, rfl⟩
        go_simp
      repeat (first
        | (refine wpR_step0 ?_ ?_ (fun K hK => ?_); rfl; rfl; go_simp; refine hK _ ?_; clear hK K))
      refine wpR_nil fun x => ?_
      obtain ⟨wb, wbb⟩ := x
      simp only [close, List.drop_succ_cons, List.drop_zero]
      rintro u36 ⟨a, cap, rfl⟩
      clear y1 y2 y3
      go_wp2_with fail
      go_roundw
      case rel => exact ⟨j + 1, by omega, by go_num, hb.trans ((hdr.trans (wbb.mono hdr.size)).mono hb.size)⟩
      case measure => simp only [intOf]; omega
    · obtain rfl : j = 11 := by omega
      have hb11 := hb4.trans (hb.mono hb4.size)
      clear hof hns hma hb
      obtain ⟨G, hG⟩ : ∃ G, G = wr.heap.size := ⟨_, rfl⟩
      go_wp2_with (at_make; go_loud (refine wpList_make_full _ rfl _ _ 22 rfl wr.heap.size 3 i3 (.int .i64 0) 1 Try.underlying22 hi3 hz3 hs3 _ _ 16 16 16 rfl rfl (by omega) (by omega) (by rw [hb3]; omega) (by unfold maxLen; omega) (Nat.le_refl _) ?_))
      intro w5 hown5 hgr5
      have hb5 := below_of_grown hgr5
      clear hgr5
      rw [← hG] at hown5 ⊢
      have hwG : w.heap.size ≤ G := by rw [hG]; exact hb11.size
      have hb5 := hb11.trans (hb5.mono hb11.size)
      clear hb11 hG
      have hO5 : IOwn w5 G (.slice (some ⟨G, 0, none⟩) 16 16) (List.replicate 16 0) := by
        unfold IOwn ints
        rw [List.map_replicate, ← toList_madeCells_one]
        exact hown5
      clear hown5
      go_wp2_with fail
      refine (put_any _ (List.replicate 16 0) _ hO5.rd).mono ?_
      rintro e p1 ⟨h1, h2, hc1⟩
      obtain rfl := h2 not0
      clear h1 h2
      go_wp2_with (refine wp_want rfl fun K hK => ?_; refine wp_blk_alloc rfl ?_)
      intro q1 B0 b0 s0
      refine hK _ _ ?_
      clear hK K
      go_wp2_with (refine wp_want rfl fun K hK => ?_; refine wp_blk_store rfl rfl rfl Z56_length B0 ?_)
      intro r1 D1 b1 s1
      have hd1 := below_grown b0 b1 (Nat.le_refl _) (Nat.le_refl _)
      have he1 := hc1.trans (hd1.mono hc1.size)
      clear s1 B0 b0 b1 s0
      refine hK _ _ ?_
      clear hK K
      have hO6 := hO5.below he1
      have hb6 := hb5.trans (he1.mono hb5.size)
      clear hO5 hb5 hc1 hd1 he1 D1
      go_wp2_with fail
      go_loopw [8] (fun i wr => ∃ (k : Nat) (ys : List Value), k ≤ 16 ∧ i = .int .i64 k ∧ wr.ownsRow G 3 1 (.slice (some ⟨G, 0, none⟩) 16 16) 16 ys ∧ (∀ j, j < k → ys[j]? = some (.int .i64 ((j : Int) + 1))) ∧ Below w.heap.size w wr) (fun i _ => 16 - (intOf i).toNat)
      case atStart => exact ⟨0, _, by omega, rfl, hO6, fun j hj => by omega, hb6⟩
      case round =>
        obtain ⟨k, ys, hk, rfl, hown, hys, hb⟩ := hrel
        have hl : ys.length = 16 := by simpa using hown.1
        by_cases hlt : k < 16
        · have hki : (k : Int) < 16 := by omega
          have z := hown.cellAt k (by omega)
          rw [List.getElem?_eq_getElem (by omega)] at z
          have f := hown.frozenAt k
          have hown2 := (hown.stored k (.int .i64 ((k : Int) + 1))).1
          go_wp2_with fail
          go_roundw
          case rel =>
            refine ⟨k + 1, _, by omega, by go_num, hown2, fun j hj => ?_, hb.setCell hwG _⟩
            rw [List.getElem?_set]
            by_cases hkj : k = j
            · subst hkj
              rw [if_pos rfl, if_pos (by omega)]
            · rw [if_neg hkj]; exact hys j (by omega)
          case measure => simp only [intOf]; omega
        · obtain rfl : k = 16 := by omega
          have hys' : ys = ints oneTo := by
            apply List.ext_getElem?
            intro j
            by_cases hj : j < 16
            · rw [hys j hj]
              simp [oneTo, hj]
            · rw [List.getElem?_eq_none (by omega), List.getElem?_eq_none (by simp [oneTo]; omega)]
          subst hys'
          have hO7 : IOwn wr G (.slice (some ⟨G, 0, none⟩) 16 16) oneTo := hown
          go_wp2_with fail
          refine (put_any _ oneTo _ hO7.rd).mono ?_
          rintro e p2 ⟨h1, h2, hc2⟩
          obtain rfl := h1 ok116
          clear h1 h2
          go_wp2_with (refine wp_want rfl fun K hK => ?_; refine wp_blk_alloc rfl ?_)
          intro q2 B0 b0 s0
          refine hK _ _ ?_
          clear hK K
          go_wp2_with (refine wp_want rfl fun K hK => ?_; refine wp_blk_store rfl rfl rfl (bodyI_length (by decide)) B0 ?_)
          intro r2 D2 b1 s1
          have hd2 := below_grown b0 b1 (Nat.le_refl _) (Nat.le_refl _)
          have he2 := hc2.trans (hd2.mono hc2.size)
          clear s1 B0 b0 b1 s0
          refine hK _ _ ?_
          clear hK K
          have hO8 := hO7.below he2
          have hb8 := hb.trans (he2.mono hb.size)
          have hGp : G < p2.heap.size := block_lt_of_cell (World.ownsRow.cellAt (hO7.below hc2) 0 (by decide) : p2.cell? ⟨G, 0, none⟩ = some (.int .i64 1))
          clear hO7 hb he2 hys hown hl hc2 hd2
          have z := World.ownsRow.cellAt hO8 15 (by decide)
          have z : r2.cell? ⟨G, 15, none⟩ = some (.int .i64 16) := z
          have f := World.ownsRow.frozenAt hO8 15
          have hst := World.ownsRow.stored hO8 15 (.int .i64 3)
          have hO9 : IOwn (r2.setCell ⟨G, 15, none⟩ (.int .i64 3)) G (.slice (some ⟨G, 0, none⟩) 16 16) (oneTo.set 15 3) := hst.1
          have D9 := D2.grown hst.2 (by omega)
          have hb9 : Below w.heap.size w (r2.setCell ⟨G, 15, none⟩ (.int .i64 3)) := hb8.setCell hwG _
          clear hst D2
          go_wp2_with fail
          refine (put_any _ (oneTo.set 15 3) _ hO9.rd).mono ?_
          rintro e p3 ⟨h1, h2, hc3⟩
          obtain rfl := h2 notDup
          clear h1 h2
          go_wp2_with (refine wp_want rfl fun K hK => ?_; refine wp_blk_alloc rfl ?_)
          intro q3 B0 b0 s0
          refine hK _ _ ?_
          clear hK K
          go_wp2_with (refine wp_want rfl fun K hK => ?_; refine wp_blk_store rfl rfl rfl Z56_length B0 ?_)
          intro r3 D3 b1 s1
          have hd3 := below_grown b0 b1 (Nat.le_refl _) (Nat.le_refl _)
          have he3 := hc3.trans (hd3.mono hc3.size)
          clear s1 B0 b0 b1 s0
          refine hK _ _ ?_
          clear hK K
          have hO10 := hO9.below he3
          have hb10 := hb9.trans (he3.mono hb9.size)
          have D10 := D9.later he3
          clear hO9 hb9 D9 hc3 hd3 he3 D3 hO8 hb8 z f
          go_wp2_with fail
          refine (put_any _ ((oneTo.set 15 3).take 15) _ (rd_take hO10.rd (m := 15) (by decide))).mono ?_
          rintro e p4 ⟨h1, h2, hc4⟩
          obtain rfl := h2 notShort
          clear h1 h2
          go_wp2_with (refine wp_want rfl fun K hK => ?_; refine wp_blk_alloc rfl ?_)
          intro q4 B0 b0 s0
          refine hK _ _ ?_
          clear hK K
          go_wp2_with (refine wp_want rfl fun K hK => ?_; refine wp_blk_store rfl rfl rfl Z56_length B0 ?_)
          intro r4 D4 b1 s1
          have hd4 := below_grown b0 b1 (Nat.le_refl _) (Nat.le_refl _)
          have he4 := hc4.trans (hd4.mono hc4.size)
          clear s1 B0 b0 b1 s0
          refine hK _ _ ?_
          clear hK K
          have hb11 := hb10.trans (he4.mono hb10.size)
          have D11 := D10.later he4
          clear hO10 hb10 D10 hc4 hd4 he4 D4
          have z : r4.cell? ⟨p2.heap.size, 33, none⟩ = some (u8 ((bodyI oneTo)[32]'(by decide))) := D11.byte (i := 32) (by decide)
          have f : r4.frozen? ⟨p2.heap.size, 33, none⟩ = false := D11.frozen (i := 33)
          have hst := D11.setByte 32 1 (.int .u8 1) rfl
          have D12 : BlkAt (r4.setCell ⟨p2.heap.size, 33, none⟩ (.int .u8 1)) p2.heap.size 5 turnedB := hst.1
          have hb12 : Below w.heap.size w (r4.setCell ⟨p2.heap.size, 33, none⟩ (.int .u8 1)) := below_grown hb11 hst.2.1 (by omega) (Nat.le_refl _)
          clear hst
          go_wp2_with (refine wp_want rfl fun K hK => ?_; (refine wp_blk_load rfl rfl D12 ?_; refine hK _ _ ?_; clear hK K))
          refine (take_any 5 turnedB _ D12.1).mono ?_
          rintro e w13 ⟨_, h2, hb13⟩
          obtain rfl := h2 notTurned
          have D13 := D12.later hb13
          have hb13 := hb12.trans (hb13.mono hb12.size)
          have x0 : w13.cell? ⟨p2.heap.size, 1, none⟩ = some (.int .u8 0) := (D13.byte (i := 0) (by decide)).trans (by kernel_rfl)
          have x1 : w13.cell? ⟨p2.heap.size, 2, none⟩ = some (.int .u8 2) := (D13.byte (i := 1) (by decide)).trans (by kernel_rfl)
          have x31 : w13.cell? ⟨p2.heap.size, 32, none⟩ = some (.int .u8 17) := (D13.byte (i := 31) (by decide)).trans (by kernel_rfl)
          go_wp2_with fail
          go_returns
          exact ⟨rfl, hb13⟩
end Go.Proofs.Ytibpipppabommaa.Cl
