/- The reference's body; append of a string onto own bytes. (As in XEnt6.) -/
import Derived.Test.YtgeiafijibgdhaaBlkC
import Derived.Test.YtgeiafijibgdhaaOnto
import Derived.Test.YtgeiafijibgdhaaEnt1
import Derived.Lib.AppendStr
set_option linter.unusedVariables false
set_option linter.unusedSimpArgs false
namespace Go.Proofs.Ytgeiafijibgdhaa.Cl
open Go Go.Proofs Go.RowKit Fl Rely

/-! ### body -/
def pad56 (l : List UInt8) (i : Nat) : List UInt8 := l.take i ++ Z56.drop i
theorem pad56_length {l : List UInt8} (h : l.length ≤ 56) (i : Nat) (hi : i ≤ l.length) : (pad56 l i).length = 56 := by
  unfold pad56
  rw [List.length_append, List.length_take, List.length_drop, Z56_length]
  omega
theorem pad56_set {l : List UInt8} (i : Nat) (hi : i < l.length) (h : l.length ≤ 56) : (pad56 l i).set i l[i] = pad56 l (i + 1) := by
  unfold pad56
  have e : Z56.drop i = 0 :: Z56.drop (i + 1) := by
    rw [List.drop_eq_getElem_cons (by rw [Z56_length]; omega)]
    congr 1
    exact List.getElem_replicate _
  have hl : (l.take i).length = i := by rw [List.length_take]; omega
  rw [e, List.set_append_right _ _ (by omega), hl, Nat.sub_self, List.set_cons_zero, take_snoc l i hi, List.append_assoc]
  rfl
set_option maxRecDepth 100000 in
set_option maxHeartbeats 2000000 in
theorem body_any (k : Int) (v : Value) (l : List UInt8) (w : World) (hv : Rd w v (bs l)) (hl : l.length ≤ 56) :
    Calls Try.prog 47 #[.int .i64 k, v] w fun e w' => e = .returned (blkV k (l ++ Z56.drop l.length)) ∧ Below w.heap.size w w' := by
  obtain ⟨a, cap, rfl, hc1, hc2, hcell, hnil⟩ := id hv
  rw [bs_length] at *
  go_enter Try.func47, Try.ntmps47
  go_wp2_with (refine wp_want rfl fun K hK => ?_; refine wp_blk_alloc rfl ?_)
  intro w1 R1 b1 s1
  refine hK _ _ ?_
  clear hK K
  have n1 := b1.size
  go_wp2_with (refine wp_want rfl fun K hK => ?_; first | (refine wp_blk_build rfl rfl ?_; refine hK _ _ ?_; clear hK K) | refine wp_blk_alloc rfl ?_)
  intro w2 Y2 c2 s2
  refine hK _ _ ?_
  clear hK K
  go_wp2_with (refine wp_want rfl fun K hK => ?_; refine wp_blk_store rfl rfl rfl Z56_length Y2 ?_)
  intro w3 X3 g3 z3
  refine hK _ _ ?_
  clear hK K
  have d3 := below_row c2 g3 c2.size (Nat.le_refl _)
  have R3 := R1.later d3
  have W := b1.trans (d3.mono n1)
  have hlt : w.heap.size < w1.heap.size := s1
  clear Y2 c2 s2 g3 z3 d3 R1
  have X0 : BlkAt w3 w1.heap.size k (pad56 l 0) := X3
  clear X3
  go_wp2_with fail
  go_loopw [6] (fun i wr => ∃ j : Nat, j ≤ l.length ∧ i = .int .i64 (j : Int) ∧ BlkAt wr w1.heap.size k (pad56 l j) ∧ BlkAt wr w.heap.size 0 Z56 ∧ Below w.heap.size w wr) (fun i _ => l.length - (intOf i).toNat)
  case atStart => exact ⟨0, Nat.zero_le _, rfl, X0, R3, W⟩
  case round =>
    obtain ⟨j, hj, rfl, X, R, hb⟩ := hrel
    by_cases hlt' : j < l.length
    · have hlI : (j : Int) < (l.length : Int) := by omega
      have h56 : (j : Int) < 56 := by omega
      obtain ⟨ad, rfl, hc⟩ := hcell j (by rw [bs_length]; exact hlt')
      have hc := cell_later hb hc
      have hset := pad56_set j hlt' hl
      have hpl := pad56_length hl j hj
      rw [show (bs l)[j]'(by rw [bs_length]; exact hlt') = u8 l[j] by simp [bs]] at hc
      generalize l[j] = x at *
      obtain ⟨zx, kx⟩ : ∃ z, wr.cell? ⟨w1.heap.size, 1 + j, none⟩ = some z := ⟨_, X.byte (i := j) (by omega)⟩
      have fx := X.frozen (i := 1 + j)
      obtain ⟨X2, g2, z2⟩ := X.setByte j x (.int .u8 (x.toNat : Nat)) rfl
      rw [hset] at X2
      have R2 := R.grown g2 (by omega)
      have hb2 := below_row hb g2 hb.size (by omega)
      clear hset hpl hv hnil g2 z2
      generalize pad56 l j = pj at *
      go_wp2_with fail
      go_roundw
      case rel => exact ⟨j + 1, hlt', by go_num, X2, R2, hb2⟩
      case measure => simp only [intOf]; omega
    · have hlI : ¬ (j : Int) < (l.length : Int) := by omega
      have hjl : j = l.length := by omega
      have hp : pad56 l j = l ++ Z56.drop l.length := by unfold pad56; rw [hjl, List.take_of_length_le (Nat.le_refl _)]
      rw [hp] at X
      clear hp hjl
      go_wp2_with (refine wp_want rfl fun K hK => ?_; first | (refine wp_blk_load rfl rfl X ?_; refine hK _ _ ?_; clear hK K) | refine wp_blk_store rfl rfl rfl X.1 R ?_)
      intro w5 R5 g5 z5
      refine hK _ _ ?_
      clear hK K
      have hb5 := below_row hb g5 hb.size (Nat.le_refl _)
      go_wp2_with fail
      refine bodyPost_ret (results_blk rfl rfl R5) rfl ⟨rfl, hb5⟩

/-! ### PutEntry -/
theorem new_u8 {b : UInt8} {x : Int} (h : x = (b.toNat : Int)) (w : World) : Rd (w.alloc (.cells #[.int .u8 x] 5)) (.slice (some ⟨w.heap.size, 0, none⟩) 1 1) (bs [b]) := by
  subst h
  exact Rd.new w #[u8 b] 5 (0, 0) 1 rfl (by simp)
theorem wp_app_str {w : World} {o : Oper} {a : Act} {K : Act → World → Prop} {Q : Exit → Act → World → Prop} (B : Nat) (v : Value) (l l' : List UInt8) {s x : Operand} (hl : l.length + l'.length ≤ 1000000) (hown : OB w B v l) (hB : B ≤ w.heap.size)
    (ho : o.op = .call { callee := .builtin .append, args := #[s, x], argTypes := #[37, 9] }) (hs : a.eval s = v) (hx : a.eval x = str l')
    (h : ∀ v' w', OB w' B v' (l ++ l') → w.grownBy w' v.ownBlock → K (a.put o.dst v') w') : o.wp Try.prog a w K Q := by
  obtain ⟨i5, hi5, hz5, hs5, hb5⟩ := info_parts info5
  obtain ⟨v', w', hr, h1, h2, _⟩ := Lib.run_append_own_string (P := Try.prog) w B 37 9 o.type 5 i5 Try.underlying37 Try.underlying9 hi5 hz5 hs5 hb5 v l.length (bs l) hown ⟨l'.toArray⟩ (by rw [str_size]; unfold maxLen; omega) (by rw [str_size]; omega) hB
  refine wp_append_run ho hs hx hr (h v' w' ?_ h2)
  unfold OB
  rw [str_size] at h1
  rw [List.length_append]
  have e : Lib.strCells ⟨l'.toArray⟩ = bs l' := by simp [Lib.strCells, bs, u8]
  rw [e] at h1
  rw [show bs (l ++ l') = bs l ++ bs l' from List.map_append]
  exact h1

theorem wp_copy_body {o : Oper} {a : Act} {w : World} {K : Act → World → Prop} {Q : Exit → Act → World → Prop} {d s : Operand} {g : Nat} {k : Int} {b l : List UInt8} {u v : Value} (hB : BlkAt w g k b) (hv : Rd w v (bs l)) (hl : l.length ≤ 56)
    (ho : o.op = .call { callee := .builtin .copy, args := #[d, s], argTypes := #[37, 37] }) (hd : a.eval d = u) (hs : a.eval s = v) (hu : u = .slice (some ⟨g, 1, none⟩) 56 56)
    (h : ∀ n w', BlkAt w' g k (l ++ b.drop l.length) → w.grownBy w' (some g) → w'.heap.size = w.heap.size → K (a.put o.dst (.int .i64 n)) w') : o.wp Try.prog a w K Q := by
  subst hu
  obtain ⟨w', hr, h1, h2, h3⟩ := run_copy_body o.type w hB v l hv hl
  unfold Oper.wp execOp
  simp only [ho, resolve, invoke, builtin, Sem.run_bind, Sem.run_pure, Result.andThen_ok, List.map_toArray, List.map_cons, List.map_nil, hd, hs, hr]
  exact h _ w' h1 h2 h3
end Go.Proofs.Ytgeiafijibgdhaa.Cl
