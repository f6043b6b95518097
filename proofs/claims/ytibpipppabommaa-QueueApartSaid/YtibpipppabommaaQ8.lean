/- The law QueueApart. -/
import Derived.Test.YtibpipppabommaaQ7
import Derived.Deep.DeepCutAuto
set_option linter.unusedVariables false
set_option linter.unusedSimpArgs false
namespace Go.Proofs.Ytibpipppabommaa.Cl
open Go Go.Proofs Go.RowKit Fl

theorem q2New {B : Nat} {w : World} {g1 : Nat} {C1 : List (List (Int × Rq))} (h : Q1 B NoZ w g1 C1) (hB : B ≤ w.heap.size) (k : Nat) (h1 : 1 ≤ k) (h8 : k ≤ 8) :
    Calls Try.prog 25 #[.int .i64 (k : Int)] w fun e w' => ∃ g2, e = .returned (qp g2) ∧ Q2 B NoZ w' g1 C1 g2 (List.replicate k []) ∧ Below w.heap.size w w' := by
  obtain ⟨s1, z, F, a, c⟩ := h
  refine (qNew_k k h1 h8 w).mono ?_
  rintro e w' ⟨g, rfl, q, b⟩
  refine ⟨g, rfl, ⟨s1, small_new k, fun _ h => h.elim, F, fun j => w.heap.size ≤ j ∧ j < w'.heap.size, a.below b, (q.lower hB).mono fun j hj h => ⟨h, hj⟩, fun j hj => ⟨(c j hj).1, Nat.lt_of_lt_of_le (c j hj).2.1 b.size, fun h => h⟩, fun j hj => ⟨Nat.le_trans hB hj.1, hj.2, fun h => h⟩, fun j hj hj' => ?_⟩, b⟩
  have := (c j hj).2.1
  omega
def addL (l : List (Int × Rq)) (s : Int) (r : Rq) : List (Int × Rq) := if l.length < 20 then l ++ [(s, r)] else l
theorem push1 (l m : List (Int × Rq)) (s : Int) (r : Rq) : pushC [l, m] 1 s r = [l, addL m s r] := by
  unfold pushC addL
  have e : inC [l, m] 1 = true := rfl
  have e2 : rowC [l, m] 1 = m := rfl
  rw [e, e2]
  by_cases h : m.length < 20
  · rw [if_pos h, if_pos (by simpa using h)]; rfl
  · rw [if_neg h, if_neg (by simpa using h)]
theorem push0 (l m : List (Int × Rq)) (s : Int) (r : Rq) : pushC [l, m] 0 s r = [addL l s r, m] := by
  unfold pushC addL
  have e : inC [l, m] 0 = true := rfl
  have e2 : rowC [l, m] 0 = l := rfl
  rw [e, e2]
  by_cases h : l.length < 20
  · rw [if_pos h, if_pos (by simpa using h)]; rfl
  · rw [if_neg h, if_neg (by simpa using h)]
theorem pop1 (l m : List (Int × Rq)) : popC [l, m] 1 = [l, m.tail] := rfl
theorem pop0 (l m : List (Int × Rq)) : popC [l, m] 0 = [l.tail, m] := rfl
theorem PopIs.eq {l : List (Int × Rq)} {s s' : Int} {r r' : Rq} {o o' : Bool} (h : PopIs l s r o) (h' : PopIs l s' r' o') : s' = s ∧ r' = r ∧ o' = o := by
  unfold PopIs at h h'
  cases l with
  | nil => obtain ⟨rfl, rfl, rfl⟩ := h; exact h'
  | cons x l => obtain ⟨rfl, rfl, rfl⟩ := h; exact h'
def QaRel (w : World) (g1 g2 N : Nat) (i : Value) (wr : World) : Prop := ∃ (k : Nat) (l m : List (Int × Rq)), k ≤ N ∧ i = .int .i64 (k : Int) ∧ Q2 w.heap.size NoZ wr g1 [l, []] g2 [l, m] ∧ Below w.heap.size w wr
set_option maxRecDepth 100000 in
set_option maxHeartbeats 8000000 in
theorem qApart_law (va vb : Value) (la lb : List UInt8) (w : World) (ha : Rd w va (bs la)) (hb : Rd w vb (bs lb)) :
    Calls Try.prog 8 #[va, vb] w fun e w' => e = .returned (.bool true) ∧ Below w.heap.size w w' := by
  have HA := Lib.hid ha
  have HB := Lib.hid hb
  obtain ⟨aa, ca, rfl, ha1, ha2, ha3, _⟩ := ha
  obtain ⟨ab, cb, rfl, hb1, hb2, hb3, _⟩ := hb
  rw [bs_length] at *
  go_enter Try.func8, Try.ntmps8
  go_wp2_with fail
  refine (qBegun_any w).mono ?_
  rintro e w1 ⟨rfl, b1⟩
  by_cases hla : la.length ≤ 40
  · have hlaI : ¬ (40 : Int) < (la.length : Int) := by omega
    by_cases hlb : lb.length ≤ 40
    · have hlbI : ¬ (40 : Int) < (lb.length : Int) := by omega
      go_wp2_with fail
      refine (q1New (B := w.heap.size) 2 (by decide) (by decide) w1 b1.size).mono ?_
      rintro e w2 ⟨g1, rfl, q2, bx⟩
      have b2 := b1.trans (bx.mono b1.size)
      clear bx b1
      go_wp2_with fail
      refine (q2New q2 b2.size 2 (by decide) (by decide)).mono ?_
      rintro e w3 ⟨g2, rfl, q3, bx⟩
      have b3 := b2.trans (bx.mono b2.size)
      have q3 : Q2 w.heap.size NoZ w3 g1 [[], []] g2 [[], []] := q3
      clear bx b2 q2
      obtain ⟨N, hNe⟩ : ∃ N, N = max la.length lb.length := ⟨_, rfl⟩
      have hN : (if la.length < lb.length then (lb.length : Int) else (la.length : Int)) = (N : Int) := by split <;> omega
      clear hNe
      go_wp2_with fail
      go_loopw [7, 8, 9, 10, 11, 12, 13] (fun i _ _ _ _ _ _ wr => QaRel w g1 g2 (N) i wr) (fun i _ _ _ _ _ _ _ => N - (intOf i).toNat)
      case atStart => exact ⟨0, [], [], Nat.zero_le _, rfl, q3, b3⟩
      case round =>
        clear q3 b3
        obtain ⟨k, l, m, hk, rfl, q, b⟩ := hrel
        by_cases hkN : k < N
        · have hkI : (k : Int) < (N : Int) := by omega
          go_upto_if 38 with (fail)
          go_cut [] (fun wx => ∃ m', Q2 w.heap.size NoZ wx g1 [l, []] g2 [l, m'] ∧ Below w.heap.size w wx)
          case first =>
            by_cases hkb : k < lb.length
            · have hkbI : (k : Int) < (lb.length : Int) := by omega
              obtain ⟨ad, hax, hc⟩ := (HB.out.below b).at_ k (by rw [bs_length]; exact hkb)
              subst hax
              rw [show (bs lb)[k]'(by rw [bs_length]; exact hkb) = .int .u8 ((lb[k]).toNat : Int) from by simp [bs, Cl.u8]] at hc
              have hx8 := (lb[k]).toNat_lt
              generalize (lb[k]).toNat = x at *
              by_cases hx : x % 3 < 2
              · have hxI : (x : Int).tmod 3 < 2 := by rw [Int.tmod_eq_emod_of_nonneg (by omega)]; omega
                go_wp2_with fail
                refine (q2Push q.swap b.size 1 k (rqN 0 k) (.slice none 0 0) (byt_nil _) (by show (0 : Nat) ≤ 100000; decide)).mono ?_
                rintro e w5 ⟨rfl, q5, b5, _⟩
                rw [push1] at q5
                have b5 := b.trans b5
                go_wp2_with fail
                go_meet
                exact ⟨_, q5.swap, b5⟩
              · have hxI : ¬ (x : Int).tmod 3 < 2 := by rw [Int.tmod_eq_emod_of_nonneg (by omega)]; omega
                go_wp2_with fail
                refine (q2Pop q.swap b.size 1).mono ?_
                rintro e w5 ⟨s, r, dv, ok, rfl, _, _, q5, b5, _⟩
                rw [pop1] at q5
                have b5 := b.trans b5
                go_wp2_with fail
                go_meet
                exact ⟨_, q5.swap, b5⟩
            · have hkbI : ¬ (k : Int) < (lb.length : Int) := by omega
              go_wp2_with fail
              go_meet
              exact ⟨m, q, b⟩
          case rest =>
            clear q b
            obtain ⟨m', q, b⟩ := hcut
            by_cases hka : k < la.length
            · have hkaI : ¬ (la.length : Int) ≤ (k : Int) := by omega
              have hkaI2 : (k : Int) < (la.length : Int) := by omega
              obtain ⟨ad, hax, hc⟩ := (HA.out.below b).at_ k (by rw [bs_length]; exact hka)
              subst hax
              rw [show (bs la)[k]'(by rw [bs_length]; exact hka) = .int .u8 ((la[k]).toNat : Int) from by simp [bs, Cl.u8]] at hc
              have hx8 := (la[k]).toNat_lt
              generalize (la[k]).toNat = x at *
              by_cases hx : x % 3 < 2
              · have hxI : (x : Int).tmod 3 < 2 := by rw [Int.tmod_eq_emod_of_nonneg (by omega)]; omega
                go_wp2_with fail
                refine (q2Push q b.size 0 k (rqN 0 k) (.slice none 0 0) (byt_nil _) (by show (0 : Nat) ≤ 100000; decide)).mono ?_
                rintro e w5 ⟨rfl, q5, b5, _⟩
                rw [push0] at q5
                have b5 := b.trans b5
                rw [show (inC [l, []] 0 && decide ((rowC [l, []] 0).length < 20)) = decide (l.length < 20) from by show (true && decide (l.length < 20)) = _; simp]
                go_wp2_with fail
                refine (q2Push q5.swap b5.size 0 k (rqN 0 k) (.slice none 0 0) (byt_nil _) (by show (0 : Nat) ≤ 100000; decide)).mono ?_
                rintro e w6 ⟨rfl, q6, b6, _⟩
                rw [push0] at q6
                have b6 := b5.trans b6
                rw [show (inC [l, m'] 0 && decide ((rowC [l, m'] 0).length < 20)) = decide (l.length < 20) from by show (true && decide (l.length < 20)) = _; simp]
                have q6 := q6.swap
                clear q q5 b5 b
                generalize addL l k (rqN 0 k) = l' at *
                go_wp2_with fail
                go_roundw
                case rel => exact ⟨k + 1, l', m', by omega, by go_num, q6, b6⟩
                case measure => simp only [intOf]; omega
              · have hxI : ¬ (x : Int).tmod 3 < 2 := by rw [Int.tmod_eq_emod_of_nonneg (by omega)]; omega
                go_wp2_with fail
                refine (q2Pop q b.size 0).mono ?_
                rintro e w5 ⟨s, r, dv, ok, rfl, hy5, hp5, q5, b5, f5, _⟩
                rw [pop0] at q5
                rw [show rowC [l, []] 0 = l from rfl] at hp5
                have b5 := b.trans b5
                clear q b f5
                obtain ⟨da, dc, rfl⟩ : ∃ da dc, dv = .slice da r.d.length dc := by obtain ⟨a, c, e, _⟩ := hy5.1; exact ⟨a, c, by rw [e, bs_length]⟩
                go_wp2_with (refine wp_want rfl fun K hK => ?_; refine wp_rw_alloc (P := Try.prog) (t := 51) (rqV rq0 (.slice none 0 0)) infoRq_zero rfl ?_)
                intro w6 A6 b6 s6
                refine hK _ _ ?_
                clear hK K
                go_wp2_with (refine wp_want rfl fun K hK => ?_; refine wp_rw_store (P := Try.prog) (cs := rqA r (.slice da r.d.length dc)) A6 infoRq_size rfl (rqA_all _ _ rfl) rfl rfl rfl ?_)
                intro w7 A7 g7 z7
                refine hK _ _ ?_
                clear hK K
                have bx7 := below_row b6 g7 b6.size (Nat.le_refl _)
                have q7 := q5.wide bx7 (fun j => j = w5.heap.size) fun j hj => ⟨.inr (Nat.le_of_eq hj.symm), by rw [hj]; exact A7.lt⟩
                have y7 := hy5.keep (Keep8.of_below bx7)
                have b7 := b5.trans (bx7.mono b5.size)
                clear A6 b6 s6 g7 z7 q5 b5 hy5 bx7
                generalize w5.heap.size = ga at *
                go_wp2_with fail
                refine (q2Pop q7.swap b7.size 0).mono ?_
                rintro e w8 ⟨s', r', dv', ok', rfl, hy8, hp8, q8, b8, f8, k8⟩
                rw [pop0] at q8
                rw [show rowC [l, m'] 0 = l from rfl] at hp8
                obtain ⟨rfl, rfl, rfl⟩ := hp5.eq hp8
                have b8 := b7.trans b8
                have A8 := f8.row A7 (fun h => h rfl)
                have y8 := y7.keep k8
                have q8 := q8.swap
                clear A7 f8 k8 q7 b7 y7 hp5 hp8
                obtain ⟨da2, dc2, rfl⟩ : ∃ da dc, dv' = .slice da r'.d.length dc := by obtain ⟨a, c, e, _⟩ := hy8.1; exact ⟨a, c, by rw [e, bs_length]⟩
                go_wp2_with (refine wp_want rfl fun K hK => ?_; refine wp_rw_alloc (P := Try.prog) (t := 51) (rqV rq0 (.slice none 0 0)) infoRq_zero rfl ?_)
                intro w9 A9 b9 s9
                refine hK _ _ ?_
                clear hK K
                go_wp2_with (refine wp_want rfl fun K hK => ?_; refine wp_rw_store (P := Try.prog) (cs := rqA r' (.slice da2 r'.d.length dc2)) A9 infoRq_size rfl (rqA_all _ _ rfl) rfl rfl rfl ?_)
                intro w10 A10 g10 z10
                refine hK _ _ ?_
                clear hK K
                have bx10 := below_row b9 g10 b9.size (Nat.le_refl _)
                have q10 := q8.below bx10
                have A8 := A8.later bx10
                have y8 := y8.keep (Keep8.of_below bx10)
                have y10 := hy8.keep (Keep8.of_below bx10)
                have b10 := b8.trans (bx10.mono b8.size)
                clear A9 b9 s9 g10 z10 q8 b8 hy8 bx10
                generalize w8.heap.size = gb at *
                have hsm := same_yes r' (.slice da r'.d.length dc) (.slice da2 r'.d.length dc2) w10 y8.rd y10.rd
                go_wp2_with (refine wp_want rfl fun K hK => ?_; first | (refine wp_rw_load (P := Try.prog) A8 Try.underlying51 rfl infoRq_size rfl rfl ?_; refine hK _ _ ?_; clear hK K) | (refine wp_rw_load (P := Try.prog) A10 Try.underlying51 rfl infoRq_size rfl rfl ?_; refine hK _ _ ?_; clear hK K))
                refine hsm.mono ?_
                rintro e w11 ⟨rfl, b11⟩
                have q11 := q10.wide b11 NoZ fun j hj => hj.elim
                have b11 := b10.trans (b11.mono b10.size)
                clear q10 b10 A8 A10 y8 y10 hsm
                go_wp2_with fail
                go_roundw
                case rel => exact ⟨k + 1, l.tail, m', by omega, by go_num, q11, b11⟩
                case measure => simp only [intOf]; omega
            · have hkaI : (la.length : Int) ≤ (k : Int) := by omega
              go_wp2_with fail
              go_roundw
              case rel => exact ⟨k + 1, l, m', by omega, by go_num, q, b⟩
              case measure => simp only [intOf]; omega
        · have hkI : ¬ (k : Int) < (N : Int) := by omega
          have h1 := q2Len q 0
          have h2 := q2Len q.swap 0
          have h3 := q2Len q 1
          rw [show rowC [l, []] 0 = l from rfl] at h1
          rw [show rowC [l, m] 0 = l from rfl] at h2
          rw [show rowC [l, []] 1 = [] from rfl] at h3
          go_wp2_with fail
          refine h1.mono ?_
          rintro e w' ⟨rfl, rfl⟩
          go_wp2_with fail
          refine h2.mono ?_
          rintro e w' ⟨rfl, rfl⟩
          go_wp2_with fail
          refine h3.mono ?_
          rintro e w' ⟨rfl, rfl⟩
          go_wp2_with fail
          go_ret
          exact ⟨rfl, b⟩
    · have hlbI : (40 : Int) < (lb.length : Int) := by omega
      go_wp2_with fail
      go_ret
      exact ⟨rfl, b1⟩
  · have hlaI : (40 : Int) < (la.length : Int) := by omega
    go_wp2_with fail
    go_ret
    exact ⟨rfl, b1⟩
end Go.Proofs.Ytibpipppabommaa.Cl
