/- rec: Take of a log that is long enough: the walk (printed by mkrec.py). -/
import Derived.Test.YtgeiafijibgdhaaRec5
import Derived.Test.YtgeiafijibgdhaaScope3b
set_option linter.unusedVariables false
set_option linter.unusedSimpArgs false
namespace Go.Proofs.Ytgeiafijibgdhaa.Cl
open Go Go.Proofs Go.RowKit Fl Rely

def slLen : Value → Nat
  | .slice _ n _ => n
  | _ => 0
theorem takeIs_no {label : UInt8} {epoch seq : Nat} {L : List (List UInt8)} {B : Nat} {w' : World} (h : ¬ goodR label epoch seq L) : TakeIs label epoch seq L B (.returned (.tuple #[.slice none 0 0, .int .i64 0, .bool false])) w' := ⟨fun k => (h k).elim, fun _ => rfl⟩

theorem row_shape {w : World} {B e s n : Nat} {v : Value} {xs : List Value} (h : w.ownsRow B e s v n xs) : ∃ a c, v = .slice a n c := by
  rcases h.2 with ⟨rfl, rfl⟩ | ⟨g, cap, cur, rfl, _⟩
  · exact ⟨_, _, rfl⟩
  · exact ⟨_, _, rfl⟩
theorem wp_wr_app {w : World} {o : Oper} {a : Act} {K : Act → World → Prop} {Q : Exit → Act → World → Prop} (B : Nat) (v : Value) (l : List Wr) (y : Wr) {s x : Operand} (g n : Nat) (hn : l.length = n) (hl : n ≤ 1000) (hy : WrOk y)
    (hown : w.ownsRow B 71 58 v n (l.flatMap wrC)) (hrow : WrAt w g y) (hB : B ≤ w.heap.size)
    (ho : o.op = .call { callee := .builtin .append, args := #[s, x], argTypes := #[53, 53] })
    (hs : a.eval s = v) (hx : a.eval x = .slice (some ⟨g, 0, none⟩) 1 1)
    (h : ∀ v' w', w'.ownsRow B 71 58 v' (n + 1) ((l ++ [y]).flatMap wrC) → Onto w v w' v' → K (a.put o.dst v') w') : o.wp Try.prog a w K Q := by
  obtain ⟨i5, hi5, hz5, hs5, hb5⟩ := info_parts infoWr
  refine wp_append_onto B 71 i5 (wrV (0, 0, Z56)) 58 72 Try.underlying53 hi5 hz5 hs5 hb5 (by simp only [wrV, Value.cells, List.size_toArray]; exact wrC_length (x := (0, 0, Z56)) Z56_length) (by decide) v n (l.flatMap wrC) ⟨g, 0, none⟩ 1 1 (wrC y) (by rw [wrC_length hy]) (fun u hu => List.all_eq_true.1 (by simpa using wrC_all y) u hu) (by unfold maxLen; omega) (by omega) ho hs hx hown (fun j u hj => ?_) hB fun v' w' k1 k2 => h v' w' (by simpa using k1) k2
  rw [Addr.add_lit, Nat.zero_add]
  exact RowAt.cell hrow j u (by simpa using hj)

theorem rd_tail {w : World} {a0 : Addr} {n c0 : Nat} {l : List UInt8} (h : Rd w (.slice (some a0) n c0) (bs l)) (hn : l.length = n) (hc : n ≤ c0) (i : Nat) (hi : i < n) : Rd w (.slice (some (a0.add i)) (n - i) (c0 - i)) (bs (l.drop i)) := by
  subst hn
  have h := h.sub i l.length (by omega) (by rw [bs_length]; exact Nat.le_refl _)
  have e1 : sliced (some a0) i l.length c0 1 = .slice (some (a0.add i)) (l.length - i) (c0 - i) := by unfold sliced; rw [if_neg (by omega), Nat.mul_one]; rfl
  have e2 : ((bs l).drop i).take (l.length - i) = bs (l.drop i) := by rw [List.take_of_length_le (by rw [List.length_drop, bs_length]; exact Nat.le_refl _)]; simp [bs, List.map_drop]
  rwa [e1, e2] at h
theorem rd_tail2 {w : World} {a1 : Addr} {n c : Nat} {l : List UInt8} (h : Rd w (.slice (some a1) n c) (bs l)) : 2 ≤ l.length → Rd w (.slice (some a1) 2 c) (bs (l.take 2)) := fun h2 => by
  have := h.take 2 (by rw [bs_length]; exact h2)
  rwa [show (bs l).take 2 = bs (l.take 2) by simp [bs, List.map_take]] at this
theorem rd_third {w : World} {a1 : Addr} {n c : Nat} {l : List UInt8} (h : Rd w (.slice (some a1) n c) (bs l)) (hl : 2 < l.length) : w.cell? { a1 with off := a1.off + 2, spot := none } = some (.int .u8 ((l[2]?.getD 0).toNat : Nat)) := by
  have := h.cellS 1 (by rw [bs_length]; exact hl)
  rw [this, List.getElem?_eq_getElem hl]
  simp only [bs, List.getElem_map]
  rfl

set_option maxRecDepth 100000 in
set_option maxHeartbeats 4000000 in
theorem recTake_yes (label : UInt8) (epoch seq : Nat) (v : Value) (L : List (List UInt8)) (w : World) (he : epoch < 4294967296) (hsq : seq < 4294967296) (hv : RdL w v L) (hfit : fitR L) :
    Calls Try.prog 35 #[u8 label, .int .u32 epoch, .int .u32 seq, v] w fun e w' => TakeIs label epoch seq L w.heap.size e w' ∧ Below w.heap.size w w' := by
  obtain ⟨adL, capL, sl, rfl, hc1, hc2, hsl, hcell, hrd⟩ := hv.sl
  obtain ⟨h0', h1', hm12, hlen⟩ := id hfit
  have h0 : 0 < L.length := h0'
  have h1 : L[0].length = 64 := by rw [← headOf_eq h0]; exact h1'
  obtain ⟨ad, rfl, hz⟩ := hcell 0 (by omega)
  have hr0 := hrd 0 (by omega) h0
  have hel : ∀ j, j < L.length → ∃ s, w.cell? (ad.add j) = some s ∧ Rd w s (bs (L[j]?.getD [])) := fun j h => by
    obtain ⟨ad', e, hc⟩ := hcell j (by omega)
    obtain rfl := Option.some.inj e
    refine ⟨_, hc, ?_⟩
    rw [List.getElem?_eq_getElem h]
    exact hrd j (by omega) h
  have e0 : ((L.length : Int) == 0) = false := by rw [beq_eq_false_iff_ne]; omega
  rw [Addr.add_zero'] at hz
  obtain ⟨a0, c0, hs0, q1, q2⟩ := hr0.some_ (by rw [bs_length]; omega)
  rw [hs0] at hz hr0
  rw [bs_length, h1] at hz q1 hr0
  have hm : manyR L = ((L[0])[10]'(by omega)).toNat := by unfold manyR; rw [headOf_eq h0, List.getElem?_eq_getElem (by omega)]; rfl
  have hu := ((L[0])[10]'(by omega)).toNat_lt
  have hb10 : w.cell? { a0 with off := a0.off + 10, spot := none } = some (.int .u8 (manyR L : Nat)) := by
    have h := hr0.cellS 9 (by rw [bs_length]; omega)
    rw [List.getElem_map] at h
    rw [hm]; exact h
  rw [← hm] at hu
  have hR : ∀ i, (readW L i).1 = ((num (((L[0]).drop (11 + 3 * i)).take 2) : Nat) : Int) ∧ (readW L i).2.1 = ((((L[0])[13 + 3 * i]?.getD 0).toNat : Nat) : Int) ∧ (readW L i).2.2 = overB Z56 (L[i + 1]?.getD []) := fun i => by
    unfold readW
    rw [headOf_eq h0]
    exact ⟨rfl, rfl, rfl⟩
  have hnok : ¬ okW (readAll L (manyR L)) → ¬ goodR label epoch seq L := fun h k => h k.2.1
  have hnot : ∀ n, (recB label epoch seq (readAll L (manyR L)))[n]? ≠ L[n]? → n < manyR L + 1 → ¬ goodR label epoch seq L := fun n h hn k => h (by rw [k.2.2, List.getElem?_take, if_pos hn])
  have hyes : okW (readAll L (manyR L)) → (recB label epoch seq (readAll L (manyR L))).take (manyR L + 1) = L.take (manyR L + 1) → goodR label epoch seq L := fun h k => ⟨hfit, h, by rwa [List.take_of_length_le (by simp [recB, readAll_length])] at k⟩
  have hTake : ∀ u w', w'.ownsRow w.heap.size 71 58 u (manyR L) ((readAll L (manyR L)).flatMap wrC) → goodR label epoch seq L → TakeIs label epoch seq L w.heap.size (.returned (.tuple #[u, .int .i64 ((manyR L : Int) + 1), .bool true])) w' := fun u w' h k => ⟨fun _ => ⟨u, rfl, h⟩, fun h => (h k).elim⟩
  have e2 : IntKind.i64.wrap (manyR L : Int) = (manyR L : Int) := IntWalk.i64_in _ (by omega)
  have hTakeNo : ∀ w', ¬ goodR label epoch seq L → TakeIs label epoch seq L w.heap.size (.returned (.tuple #[.slice none 0 0, .int .i64 0, .bool false])) w' := fun w' => takeIs_no
  generalize TakeIs label epoch seq L w.heap.size = TI at *
  generalize goodR label epoch seq L = GR at *
  generalize manyR L = m at *
  have e3 : ¬ (12 : Int) < (m : Int) := by omega
  have e4 : ¬ (L.length : Int) < (m : Int) + 1 := by omega
  have hpos : (0 : Int) < (L.length : Int) := by omega
  have h1 := Lib.hid h1
  clear hs0 hrd hcell hsl hm h1'
  go_enter Try.func35, Try.ntmps35
  go_wp2_with fail
  refine wp_scope3b (fun a' w' => (Below w.heap.size w w' ∧ ¬ GR) ∧ a'.tmps.size = 105 ∧ a'.defers = []) (fun a' w' => ∃ (k : Nat) (ua : Option Addr) (uc : Nat), (k ≤ m ∧ w'.ownsRow w.heap.size 71 58 (.slice ua k uc) k ((readAll L k).flatMap wrC) ∧ Below w.heap.size w w') ∧ a'.tmps.size = 105 ∧ a'.defers = [] ∧ a'.tmps[0]? = some (u8 label) ∧ a'.tmps[1]? = some (.int .u32 epoch) ∧ a'.tmps[2]? = some (.int .u32 seq) ∧ a'.tmps[3]? = some (.slice (some ad) L.length capL) ∧ a'.tmps[8]? = some (.slice ua k uc) ∧ a'.tmps[9]? = some (.int .i64 0) ∧ a'.tmps[10]? = some (.bool false) ∧ a'.tmps[11]? = some (.int .i64 (m : Int)) ∧ a'.tmps[12]? = some (.slice none 0 0)) (fun a' w' => ∃ (n : Nat) (ua : Option Addr) (uc : Nat) (va : Option Addr) (vc : Nat), (n ≤ m + 1 ∧ w'.ownsRow w.heap.size 71 58 (.slice ua m uc) m ((readAll L m).flatMap wrC) ∧ RdL w' (.slice va (m + 1) vc) (recB label epoch seq (readAll L m)) ∧ okW (readAll L m) ∧ (recB label epoch seq (readAll L m)).take n = L.take n ∧ Below w.heap.size w w') ∧ a'.tmps.size = 105 ∧ a'.defers = [] ∧ a'.tmps[0]? = some (u8 label) ∧ a'.tmps[1]? = some (.int .u32 epoch) ∧ a'.tmps[2]? = some (.int .u32 seq) ∧ a'.tmps[3]? = some (.slice (some ad) L.length capL) ∧ a'.tmps[8]? = some (.slice ua m uc) ∧ a'.tmps[9]? = some (.int .i64 (n : Nat)) ∧ a'.tmps[10]? = some (.bool true) ∧ a'.tmps[11]? = some (.int .i64 (m : Int)) ∧ a'.tmps[12]? = some (.slice va (m + 1) vc)) (fun a' _ => m - slLen (a'.tmps.getD 8 undef)) (fun a' _ => (m + 1) - (intOf (a'.tmps.getD 9 undef)).toNat) rfl rfl rfl ?_ ?_ ?_ ?_
  · rintro ⟨tm, df⟩ wq ⟨⟨hb, hg⟩, hsz, hdf⟩
    dsimp only at hsz hdf
    subst hdf
    obtain ⟨z, hz⟩ : ∃ z : Nat → Value, z = fun i => tm.getD i undef := ⟨_, rfl⟩
    have htm : tm = #[z 0, z 1, z 2, z 3, z 4, z 5, z 6, z 7, z 8, z 9, z 10, z 11, z 12, z 13, z 14, z 15, z 16, z 17, z 18, z 19, z 20, z 21, z 22, z 23, z 24, z 25, z 26, z 27, z 28, z 29, z 30, z 31, z 32, z 33, z 34, z 35, z 36, z 37, z 38, z 39, z 40, z 41, z 42, z 43, z 44, z 45, z 46, z 47, z 48, z 49, z 50, z 51, z 52, z 53, z 54, z 55, z 56, z 57, z 58, z 59, z 60, z 61, z 62, z 63, z 64, z 65, z 66, z 67, z 68, z 69, z 70, z 71, z 72, z 73, z 74, z 75, z 76, z 77, z 78, z 79, z 80, z 81, z 82, z 83, z 84, z 85, z 86, z 87, z 88, z 89, z 90, z 91, z 92, z 93, z 94, z 95, z 96, z 97, z 98, z 99, z 100, z 101, z 102, z 103, z 104] := (frame_of 105 tm hsz).trans (by rw [← hz]; rfl)
    rw [htm]
    dsimp only
    clear htm hz hsz
    go_wp2_with fail
    simp only [jumps3]
    go_ret3
    exact ⟨hTakeNo _ hg, hb⟩
  · rintro ⟨tm, df⟩ wq ⟨n, ua, uc, va, vc, ⟨hn, hU, hV, hok, hsame, hb⟩, hsz, hdf, hs0, hs1, hs2, hs3, hs8, hs9, hs10, hs11, hs12⟩
    dsimp only at hsz hdf hs0 hs1 hs2 hs3 hs8 hs9 hs10 hs11 hs12
    subst hdf
    obtain ⟨z, hz⟩ : ∃ z : Nat → Value, z = fun i => tm.getD i undef := ⟨_, rfl⟩
    have htm : tm = #[z 0, z 1, z 2, z 3, z 4, z 5, z 6, z 7, z 8, z 9, z 10, z 11, z 12, z 13, z 14, z 15, z 16, z 17, z 18, z 19, z 20, z 21, z 22, z 23, z 24, z 25, z 26, z 27, z 28, z 29, z 30, z 31, z 32, z 33, z 34, z 35, z 36, z 37, z 38, z 39, z 40, z 41, z 42, z 43, z 44, z 45, z 46, z 47, z 48, z 49, z 50, z 51, z 52, z 53, z 54, z 55, z 56, z 57, z 58, z 59, z 60, z 61, z 62, z 63, z 64, z 65, z 66, z 67, z 68, z 69, z 70, z 71, z 72, z 73, z 74, z 75, z 76, z 77, z 78, z 79, z 80, z 81, z 82, z 83, z 84, z 85, z 86, z 87, z 88, z 89, z 90, z 91, z 92, z 93, z 94, z 95, z 96, z 97, z 98, z 99, z 100, z 101, z 102, z 103, z 104] := (frame_of 105 tm hsz).trans (by rw [← hz]; rfl)
    have e0 : z 0 = u8 label := by rw [hz]; exact slot_of hs0
    have e1 : z 1 = .int .u32 epoch := by rw [hz]; exact slot_of hs1
    have e2 : z 2 = .int .u32 seq := by rw [hz]; exact slot_of hs2
    have e3 : z 3 = .slice (some ad) L.length capL := by rw [hz]; exact slot_of hs3
    have e8 : z 8 = .slice ua m uc := by rw [hz]; exact slot_of hs8
    have e9 : z 9 = .int .i64 (n : Nat) := by rw [hz]; exact slot_of hs9
    have e10 : z 10 = .bool true := by rw [hz]; exact slot_of hs10
    have e11 : z 11 = .int .i64 (m : Int) := by rw [hz]; exact slot_of hs11
    have e12 : z 12 = .slice va (m + 1) vc := by rw [hz]; exact slot_of hs12
    rw [htm, e0, e1, e2, e3, e8, e9, e10, e11, e12]
    dsimp only
    clear htm hz hsz hs0 e0 hs1 e1 hs2 e2 hs3 e3 hs8 e8 hs9 e9 hs10 e10 hs11 e11 hs12 e12
    by_cases hlt : n < m + 1
    · have hlI : (n : Int) < (m : Int) + 1 := by omega
      have hnL : (n : Int) < (L.length : Int) := by omega
      obtain ⟨s, hs, hrs⟩ := hel n (by omega)
      have hLn : L[n]? = some (L[n]?.getD []) := by rw [List.getElem?_eq_getElem (by omega)]; rfl
      generalize L[n]?.getD [] = q0 at hrs hLn
      have hLn := Lib.hid hLn
      have hsq := cell_later hb hs
      have hrq := hrs.below hb
      have hVl : (recB label epoch seq (readAll L m)).length = m + 1 := by simp [recB, readAll_length]
      obtain ⟨va', vc', sv, ev, p1, p2, p3, p4, p5⟩ := hV.sl
      injection ev with ev1 ev2 ev3
      subst ev1 ev3
      obtain ⟨vd, rfl, hvc⟩ := p4 n (by omega)
      have hvr := p5 n (by omega) (by omega)
      have hvn : (recB label epoch seq (readAll L m))[n]? = some ((recB label epoch seq (readAll L m))[n]'(by omega)) := List.getElem?_eq_getElem (by omega)
      generalize (recB label epoch seq (readAll L m))[n]'(by omega) = q at *
      generalize sv[n]'(by omega) = u at *
      have hvn := Lib.hid hvn
      clear p4 p5 p1 p2 hVl ev2 p3
      go_upto_region 15 with fail
      have hS0 : wq.drew.cell? (vd.add n) = some u ∧ wq.drew.cell? (ad.add n) = some s := ⟨hvc, hsq⟩
      have hvr := hvr.drew
      have hrq := hrq.drew
      have hU6 : wq.drew.ownsRow w.heap.size 71 58 (.slice ua m uc) m ((readAll L m).flatMap wrC) := hU
      have hV6 : RdL wq.drew (.slice (some vd) (m + 1) vc) (recB label epoch seq (readAll L m)) := hV
      have hb6 : Below w.heap.size w wq.drew := below_drewN hb 1
      refine Zig.wp_region_zig [(false, 0), (false, 1), (false, 2), (false, 3), (false, 4), (false, 5), (false, 6), (false, 7), (true, 8), (false, 9)] (fun W => W.cell? (vd.add n) = some u ∧ W.cell? (ad.add n) = some s) (by kernel_rfl) (by kernel_rfl) hS0 ?_
      simp only [Zig.sel, List.drop_succ_cons, List.drop_zero]
      generalize World.drew wq = w6 at *
      haveI : Nonempty (Zig.Lt (fun W => W.cell? (vd.add n) = some u ∧ W.cell? (ad.add n) = some s)) := ⟨⟨w6, hS0⟩⟩
      have x0 := fun x : Zig.Lt (fun W => W.cell? (vd.add n) = some u ∧ W.cell? (ad.add n) = some s) => x.2.1
      have x1 := fun x : Zig.Lt (fun W => W.cell? (vd.add n) = some u ∧ W.cell? (ad.add n) = some s) => x.2.2
      repeat (refine Zig.zig_step (fun K hK => ?_); go_simp; refine hK _ ?_; clear hK K)
      by_cases hqe : q = q0
      · have hd : decide (q = q0) = true := decide_eq_true hqe
        refine Zig.zig_do rfl (fun K hK => ?_)
        unfold Oper.wp
        go_simp
        refine (equal_any u s q q0 w6 hvr hrq).mono ?_
        rintro e w7 ⟨rfl, rfl⟩
        rw [hd]
        refine hK _ _ hS0 ?_
        clear hK K
        repeat (refine Zig.zig_step (fun K hK => ?_); go_simp; refine hK _ ?_; clear hK K)
        refine Zig.zig_nil ?_
        go_wp2_with fail
        go_step3
        refine ⟨⟨n + 1, ua, _, some vd, _, ?_, rfl, rfl, rfl, rfl, rfl, rfl, rfl, rfl, rfl, rfl, rfl⟩, ?_⟩
        · refine ⟨by omega, hU6, hV6, hok, ?_, hb6⟩
          rw [List.take_add_one, List.take_add_one, hsame, show (recB label epoch seq (readAll L m))[n]? = some q from hvn, show L[n]? = some q0 from hLn, hqe]
        · simp [intOf]; omega
      · have hd : decide (q = q0) = false := decide_eq_false hqe
        refine Zig.zig_do rfl (fun K hK => ?_)
        unfold Oper.wp
        go_simp
        refine (equal_any u s q q0 w6 hvr hrq).mono ?_
        rintro e w7 ⟨rfl, rfl⟩
        rw [hd]
        refine hK _ _ hS0 ?_
        clear hK K
        repeat (refine Zig.zig_step (fun K hK => ?_); go_simp; refine hK _ ?_; clear hK K)
        refine Zig.zig_nil ?_
        go_wp2_with fail
        go_step3
        refine ⟨⟨hb6, hnot n ?_ (by omega)⟩, rfl, rfl⟩
        rw [show (recB label epoch seq (readAll L m))[n]? = some q from hvn, show L[n]? = some q0 from hLn]
        exact fun h => hqe (Option.some.inj h)
    · have hlI : ¬ (n : Int) < (m : Int) + 1 := by omega
      go_wp2_with fail
      simp only [jumps3]
      go_ret3
      have hnm : n = m + 1 := by omega
      rw [hnm] at hsame
      have hT := hTake _ _ hU (hyes hok hsame)
      rw [show ((m : Int) + 1) = ((n : Nat) : Int) by omega] at hT
      exact ⟨hT, hb⟩
  · intro rest2
    rintro ⟨tm, df⟩ wq ⟨k, ua, uc, ⟨hk, hU, hb⟩, hsz, hdf, hs0, hs1, hs2, hs3, hs8, hs9, hs10, hs11, hs12⟩
    dsimp only at hsz hdf hs0 hs1 hs2 hs3 hs8 hs9 hs10 hs11 hs12
    subst hdf
    obtain ⟨z, hz⟩ : ∃ z : Nat → Value, z = fun i => tm.getD i undef := ⟨_, rfl⟩
    have htm : tm = #[z 0, z 1, z 2, z 3, z 4, z 5, z 6, z 7, z 8, z 9, z 10, z 11, z 12, z 13, z 14, z 15, z 16, z 17, z 18, z 19, z 20, z 21, z 22, z 23, z 24, z 25, z 26, z 27, z 28, z 29, z 30, z 31, z 32, z 33, z 34, z 35, z 36, z 37, z 38, z 39, z 40, z 41, z 42, z 43, z 44, z 45, z 46, z 47, z 48, z 49, z 50, z 51, z 52, z 53, z 54, z 55, z 56, z 57, z 58, z 59, z 60, z 61, z 62, z 63, z 64, z 65, z 66, z 67, z 68, z 69, z 70, z 71, z 72, z 73, z 74, z 75, z 76, z 77, z 78, z 79, z 80, z 81, z 82, z 83, z 84, z 85, z 86, z 87, z 88, z 89, z 90, z 91, z 92, z 93, z 94, z 95, z 96, z 97, z 98, z 99, z 100, z 101, z 102, z 103, z 104] := (frame_of 105 tm hsz).trans (by rw [← hz]; rfl)
    have e0 : z 0 = u8 label := by rw [hz]; exact slot_of hs0
    have e1 : z 1 = .int .u32 epoch := by rw [hz]; exact slot_of hs1
    have e2 : z 2 = .int .u32 seq := by rw [hz]; exact slot_of hs2
    have e3 : z 3 = .slice (some ad) L.length capL := by rw [hz]; exact slot_of hs3
    have e8 : z 8 = .slice ua k uc := by rw [hz]; exact slot_of hs8
    have e9 : z 9 = .int .i64 0 := by rw [hz]; exact slot_of hs9
    have e10 : z 10 = .bool false := by rw [hz]; exact slot_of hs10
    have e11 : z 11 = .int .i64 (m : Int) := by rw [hz]; exact slot_of hs11
    have e12 : z 12 = .slice none 0 0 := by rw [hz]; exact slot_of hs12
    rw [htm, e0, e1, e2, e3, e8, e9, e10, e11, e12]
    dsimp only
    clear htm hz hsz hs0 e0 hs1 e1 hs2 e2 hs3 e3 hs8 e8 hs9 e9 hs10 e10 hs11 e11 hs12 e12
    have hzq := cell_later hb hz
    by_cases hlt : k < m
    · have hlI : (k : Int) < (m : Int) := by omega
      go_wp2_with (refine wp_want rfl fun K hK => ?_; refine wp_wr_alloc rfl ?_)
      intro w2 A2 b2 s2
      refine hK _ _ ?_
      clear hK K
      have hz2 := cell_later b2 hzq
      have hb2 := hb.trans (b2.mono hb.size)
      have hTq := rd_tail (hr0.below hb) h1 q1 (11 + 3 * k) (by omega)
      have hTl : ((L[0]).drop (11 + 3 * k)).length = 64 - (11 + 3 * k) := by rw [List.length_drop, show L[0].length = 64 from h1]
      have hT2 := (rd_tail2 hTq (by rw [hTl]; omega)).below b2
      have hT3 := rd_third hTq (by rw [hTl]; omega)
      have hRk := hR k
      rw [show ((L[0]).drop (11 + 3 * k))[2]?.getD 0 = (L[0])[13 + 3 * k]?.getD 0 by rw [List.getElem?_drop, show 11 + 3 * k + 2 = 13 + 3 * k by omega]] at hT3
      have hl2 : (((L[0]).drop (11 + 3 * k)).take 2).length ≤ 2 := by rw [List.length_take]; omega
      have hi1 : (2 : Int) < ((64 - (11 + 3 * k) : Nat) : Int) := by omega
      have hi2 : (2 : Int) ≤ ((c0 - (11 + 3 * k) : Nat) : Int) := by omega
      have hbu := ((L[0])[13 + 3 * k]?.getD 0).toNat_lt
      obtain ⟨s, hs, hrs⟩ := hel (k + 1) (by omega)
      have hsq := cell_later hb hs
      rw [Addr.add_succ'] at hsq
      have hrsq := hrs.below hb
      generalize L[k + 1]?.getD [] = q0 at hrs hrsq hRk
      have hks : readW L k = ((readW L k).1, (readW L k).2.1, (readW L k).2.2) := rfl
      rw [hRk.1, hRk.2.1, hRk.2.2] at hks
      clear hTl hTq hR hRk hrs
      go_upto_region 9 with fail
      generalize ((L[0]).drop (11 + 3 * k)).take 2 = l2 at *
      generalize ((L[0])[13 + 3 * k]?.getD 0).toNat = kb at *
      generalize a0.add (11 + 3 * k) = a1 at *
      generalize 64 - (11 + 3 * k) = n1 at *
      generalize c0 - (11 + 3 * k) = c1 at *
      have hS0 : w2.drew.cell? { a1 with off := a1.off + 2, spot := none } = some (.int .u8 (kb : Nat)) := cell_later (below_drewN b2 1) hT3
      have hT2 := hT2.drew
      have A2 : WrAt w2.drew wq.heap.size (0, 0, Z56) := A2
      have hb2 : Below w.heap.size w w2.drew := below_drewN hb2 1
      have c2 : Below wq.heap.size wq w2.drew := below_drewN b2 1
      clear b2
      refine Zig.wp_region_zig [(false, 0), (false, 1), (false, 4), (false, 5), (false, 6), (false, 7), (true, 2), (false, 3), (false, 8), (true, 9), (false, 10), (false, 11), (true, 12)] (fun W => W.cell? { a1 with off := a1.off + 2, spot := none } = some (.int .u8 (kb : Nat))) (by kernel_rfl) (by kernel_rfl) hS0 ?_
      simp only [Zig.sel, List.drop_succ_cons, List.drop_zero]
      generalize World.drew w2 = w3 at *
      haveI : Nonempty (Zig.Lt (fun W => W.cell? { a1 with off := a1.off + 2, spot := none } = some (.int .u8 (kb : Nat)))) := ⟨⟨w3, hS0⟩⟩
      have x0 := fun x : Zig.Lt (fun W => W.cell? { a1 with off := a1.off + 2, spot := none } = some (.int .u8 (kb : Nat))) => x.2
      have hwb : IntKind.i64.wrap ((kb : Nat) : Int) = ((kb : Nat) : Int) := IntWalk.i64_in _ (by omega)
      have hnl : num l2 < 65536 := Nat.lt_of_lt_of_le (num_lt _) (Nat.pow_le_pow_right (by decide) hl2)
      have hwn : IntKind.i64.wrap ((num l2 : Nat) : Int) = ((num l2 : Nat) : Int) := IntWalk.i64_in _ (by omega)
      repeat (refine Zig.zig_step (fun K hK => ?_); go_simp; refine hK _ ?_; clear hK K)
      refine Zig.zig_do rfl (fun K hK => ?_)
      unfold Oper.wp
      go_simp
      refine (recNum_any _ l2 w3 hT2 (by omega)).mono ?_
      rintro e w4 ⟨rfl, rfl⟩
      refine hK _ _ hS0 ?_
      clear hK K
      repeat (refine Zig.zig_step (fun K hK => ?_); go_simp; refine hK _ ?_; clear hK K)
      have g1 := RowAt.cell A2 0 (.int .i64 0) rfl
      have g2 := RowAt.frozen (i := 0) A2
      refine Zig.zig_do rfl (fun K hK => ?_)
      unfold Oper.wp
      go_simp
      obtain ⟨A5, g5, z5⟩ := A2.setAt (num l2 : Nat) (.int .i64 (num l2 : Nat)) rfl
      have c5 := below_row c2 g5 c2.size (Nat.le_refl _)
      generalize w3.setCell ⟨wq.heap.size, 0, none⟩ (.int .i64 (num l2 : Nat)) = w5 at *
      refine hK _ _ (cell_later c5 hT3) ?_
      clear hK K g1 g2
      repeat (refine Zig.zig_step (fun K hK => ?_); go_simp; refine hK _ ?_; clear hK K)
      have g1 := RowAt.cell A5 1 (.int .i64 0) rfl
      have g2 := RowAt.frozen (i := 1) A5
      refine Zig.zig_do rfl (fun K hK => ?_)
      unfold Oper.wp
      go_simp
      obtain ⟨A6, g6, z6⟩ := A5.setKind (kb : Nat) (.int .i64 (kb : Nat)) rfl
      have c6 := below_row c5 g6 c5.size (Nat.le_refl _)
      generalize w5.setCell ⟨wq.heap.size, 1, none⟩ (.int .i64 (kb : Nat)) = w6 at *
      refine hK _ _ (cell_later c6 hT3) ?_
      clear hK K g1 g2
      refine Zig.zig_nil ?_
      go_upto_region 10 with fail
      have hk1 : (k : Int) + 1 < (L.length : Int) := by omega
      have hk0 : 0 ≤ (k : Int) + 1 := by omega
      have hw1 : IntKind.i64.wrap ((k : Int) + 1) = (k : Int) + 1 := IntWalk.i64_in _ (by omega)
      have hmid := fun W => slice_body_mid (g := wq.heap.size) (o := 2) W
      have hS1 : w6.drew.cell? { ad with off := ad.off + (k + 1), spot := none } = some s := cell_later (below_drewN c6 1) hsq
      have hrs6 := (hrsq.below c6).drew
      have A6 : WrAt w6.drew wq.heap.size (((num l2 : Nat) : Int), ((kb : Nat) : Int), Z56) := A6
      have c6 : Below wq.heap.size wq w6.drew := below_drewN c6 1
      clear hT3 hT2 x0 hS0 g5 g6 z5 z6 A5 A2 hnl hwb hwn
      refine Zig.wp_region_zig [(false, 0), (false, 1), (false, 2), (false, 3), (false, 4), (false, 5), (false, 6), (false, 7), (false, 8), (true, 9)] (fun W => W.cell? { ad with off := ad.off + (k + 1), spot := none } = some s) (by kernel_rfl) (by kernel_rfl) hS1 ?_
      simp only [Zig.sel, List.drop_succ_cons, List.drop_zero]
      generalize World.drew w6 = w7 at *
      haveI : Nonempty (Zig.Lt (fun W => W.cell? { ad with off := ad.off + (k + 1), spot := none } = some s)) := ⟨⟨w7, hS1⟩⟩
      have x0 := fun x : Zig.Lt (fun W => W.cell? { ad with off := ad.off + (k + 1), spot := none } = some s) => x.2
      repeat (refine Zig.zig_step (fun K hK => ?_); go_simp; refine hK _ ?_; clear hK K)
      refine Zig.zig_do rfl (fun K hK => ?_)
      refine wp_copy_wr q0 A6 Z56_length hrs6 rfl rfl rfl ?_
      intro nc w8 A8 g8 z8
      have c8 := below_row c6 g8 c6.size (Nat.le_refl _)
      refine hK _ _ (cell_later c8 hsq) ?_
      clear hK K
      refine Zig.zig_nil ?_
      have ok8 : WrOk (((num l2 : Nat) : Int), ((kb : Nat) : Int), overB Z56 q0) := overB_length Z56_length
      have hU8 := own_below hU c8
      clear hk1 hw1 hk0 x0 hmid hS1 g8 z8 A6 c6
      go_wp2_with (refine wp_want rfl fun K hK => ?_; first | refine wp_wr_load A8 ok8 rfl rfl ?_ | refine wp_wr_slice1 _ ok8 rfl rfl ?_)
      intro w9 A9 b9 s9
      refine hK _ _ ?_
      clear hK K
      have hU9 := own_below hU8 b9
      have hb8 := hb.trans (c8.mono hb.size)
      have hb9 := hb8.trans (b9.mono hb8.size)
      go_wp2_with (refine wp_want rfl fun K hK => ?_; refine wp_wr_app w.heap.size _ (readAll L k) _ w8.heap.size k (readAll_length L k) (by omega) ok8 hU9 A9 hb9.size rfl rfl rfl ?_)
      intro v10 w10 U10 O10
      refine hK _ _ ?_
      clear hK K
      have hb10 := hb9.trans (O10.below hb9.size (own_ge hU9))
      have eS : (readAll L (k + 1)).flatMap wrC = (readAll L k).flatMap wrC ++ wrC (readW L k) := by rw [readAll_succ]; simp
      rw [← hks, ← eS] at U10
      clear eS hks
      obtain ⟨ua', uc', rfl⟩ := row_shape U10
      go_wp2_with fail
      go_step3
      refine ⟨⟨k + 1, ua', uc', ⟨by omega, U10, hb10⟩, rfl, rfl, rfl, rfl, rfl, rfl, rfl, rfl, rfl, rfl, rfl⟩, ?_⟩
      simp [slLen]; omega
    · have hkm : k = m := by omega
      rw [hkm] at hU ⊢
      clear hkm hlt hk hel hzq hz hb10 hr0 hR
      have hRw : RdW wq (.slice ua m uc) (readAll L m) := RdS.of_own (fun x hx => wrC_length (readAll_ok L m x hx)) (by rw [readAll_length]; exact hU)
      go_wp2_with fail
      refine (recPut_any label epoch seq _ (readAll L m) _ he hsq (by rw [readAll_length]; omega) (readAll_ok L m) hRw).mono ?_
      rintro e w2 ⟨hgood, hbad, b2⟩
      have hb2 := hb.trans (b2.mono hb.size)
      have hU2 := own_below hU b2
      by_cases hok : okW (readAll L m)
      · obtain ⟨u, rfl, hO⟩ := hgood hok
        have hV := hO.rd
        have hVl : (recB label epoch seq (readAll L m)).length = m + 1 := by simp [recB, readAll_length]
        obtain ⟨va, vc, _, ev, _⟩ := hV.sl
        rw [hVl] at ev
        rw [ev] at hV ⊢
        clear hVl ev hO hgood hbad hRw hnok hnot hyes
        go_wp2_with (refine wp_label ?_; rename_i hKK; refine hKK _ _ (rest2 _ _ _ ?_))
        exact ⟨0, ua, uc, va, vc, ⟨by omega, hU2, hV, rfl⟩, ⟨rfl, rfl⟩, rfl, rfl, rfl⟩
      · have e := hbad hok
        subst e
        clear hgood hbad hRw
        go_wp2_with fail
        go_step3
        exact ⟨⟨hb2, hnok hok⟩, rfl, rfl⟩
  · intro rest1
    go_wp2_with (refine wp_label ?_; rename_i hKK; refine hKK _ _ (rest1 _ _ ?_))
    refine ⟨0, none, 0, ?_, rfl, rfl, rfl⟩
    exact ⟨Nat.zero_le _, World.ownsRow_nil _ _ _ _, Below.refl _ _⟩
end Go.Proofs.Ytgeiafijibgdhaa.Cl
