/- The document's index: body, PutIndex. -/
import Derived.Test.YtibpipppabommaaIdx
import Derived.Test.YtibpipppabommaaRelyT
import Derived.Test.YtibpipppabommaaRely
set_option linter.unusedVariables false
set_option linter.unusedSimpArgs false
namespace Go.Proofs.Ytibpipppabommaa.Cl
open Go Go.Proofs Go.RowKit Fl

def bodyOf (l : List UInt8) : List UInt8 := l ++ List.replicate (56 - l.length) 0
theorem bodyOf_length {l : List UInt8} (h : l.length ≤ 56) : (bodyOf l).length = 56 := by unfold bodyOf; rw [List.length_append, List.length_replicate]; omega
theorem bodyOf_twos (l : List Int) : bodyOf (twos l) = bodyI l := by unfold bodyOf bodyI; rw [twos_length]
theorem bodyOf_snoc {l : List UInt8} (h : l.length < 56) (b : UInt8) : (bodyOf l).set l.length b = bodyOf (l ++ [b]) := by
  unfold bodyOf
  obtain ⟨m, hm⟩ : ∃ m, 56 - l.length = m + 1 := ⟨56 - l.length - 1, by omega⟩
  rw [hm, List.length_append, show 56 - (l.length + [b].length) = m by simp; omega, List.replicate_succ, List.set_append_right _ _ (Nat.le_refl _), Nat.sub_self]
  simp

set_option maxRecDepth 100000 in
set_option maxHeartbeats 4000000 in
theorem body_any (k : Int) (v : Value) (l : List UInt8) (w : World) (hv : Rd w v (bs l)) (hl : l.length ≤ 56) :
    Calls Try.prog 49 #[.int .i64 k, v] w fun e w' => e = .returned (blkV k (bodyOf l)) ∧ Below w.heap.size w w' := by
  obtain ⟨ad, cap, rfl, hc1, hc2, hcell, _⟩ := id hv
  rw [bs_length] at *
  go_enter Try.func49, Try.ntmps49
  go_wp2_with (refine wp_want rfl fun K hK => ?_; refine wp_blk_alloc rfl ?_)
  intro w1 B1 b1 s1
  refine hK _ _ ?_
  clear hK K
  go_wp2_with (refine wp_want rfl fun K hK => ?_; first | refine wp_blk_alloc rfl ?_ | (refine wp_blk_build rfl rfl ?_; refine hK _ _ ?_; clear hK K))
  intro w2 B2 b2 s2
  refine hK _ _ ?_
  clear hK K
  go_wp2_with (refine wp_want rfl fun K hK => ?_; refine wp_blk_store rfl rfl rfl Z56_length B2 ?_)
  intro w3 B3 b3 s3
  refine hK _ _ ?_
  clear hK K
  have b2w := b1.trans (b2.mono b1.size)
  have b3w := below_grown b2w b3 b1.size (Nat.le_refl _)
  have BR3 := (B1.later b2).grown b3 (by omega)
  go_wp2_with fail
  go_loopw [6] (fun i wr => ∃ j : Nat, j ≤ l.length ∧ i = .int .i64 j ∧ BlkAt wr w1.heap.size k (bodyOf (l.take j)) ∧ BlkAt wr w.heap.size 0 Z56 ∧ Below w.heap.size w wr) (fun i _ => l.length - (intOf i).toNat)
  case atStart => exact ⟨0, Nat.zero_le _, rfl, B3, BR3, b3w⟩
  case round =>
    obtain ⟨j, hj, rfl, hB, hR, hb⟩ := hrel
    by_cases hlt : j < l.length
    · obtain ⟨ad, rfl, hcx⟩ := hcell j (by rw [bs_length]; exact hlt)
      rw [List.getElem_map] at hcx
      have hcx := cell_later hb hcx
      have hts := Lib.hid (take_snoc l j hlt)
      have h56 : (j : Int) < 56 := by omega
      have hjl : (l.take j).length = j := by rw [List.length_take]; omega
      have hbs := Lib.hid (bodyOf_snoc (l := l.take j) (by omega) l[j])
      rw [hjl] at hbs
      have hBl := hB.1
      have z1 := hB.byte (i := j) (by omega)
      have f1 := hB.frozen (i := 1 + j)
      obtain ⟨hB4, hg4, hz4⟩ := hB.setByte j l[j] _ rfl
      go_wp2_with fail
      go_roundw
      case rel => exact ⟨j + 1, by omega, by go_num, by rw [hts.out, ← hbs.out]; exact hB4, hR.grown hg4 (by omega), below_grown hb hg4 (by omega) (Nat.le_refl _)⟩
      case measure => simp only [intOf]; omega
    · obtain rfl : j = l.length := by omega
      rw [List.take_length] at hB
      go_wp2_with (refine wp_want rfl fun K hK => ?_; first | refine wp_blk_store rfl rfl rfl hB.1 hR ?_ | (refine wp_blk_load rfl rfl hB ?_; refine hK _ _ ?_; clear hK K))
      intro w6 B6 b6 s6
      refine hK _ _ ?_
      clear hK K
      go_wp2_with fail
      exact bodyPost_ret (results_blk rfl rfl B6) rfl ⟨rfl, below_grown hb b6 (Nat.le_refl _) (Nat.le_refl _)⟩

theorem be2 (n : Int) (c : Nat) (h : n + 1 = (c : Int)) (hc : c ≤ 200) : be 2 c = two n := by
  have e : (n + 1).toNat = c := by omega
  unfold two
  rw [e]
  have h0 : c / 256 = 0 := by omega
  have h1 : UInt8.ofNat c = UInt8.ofNat (c % 256) := by rw [Nat.mod_eq_of_lt (by omega)]
  apply List.ext_getElem?
  intro i
  rcases i with _ | _ | i
  · rw [be_get? 2 c 0 (by omega)]; simp [h0]
  · rw [be_get? 2 c 1 (by omega)]; simp
  · rw [List.getElem?_eq_none (by rw [be_length]; omega)]; simp
theorem twos_snoc (l : List Int) (n : Int) : twos (l ++ [n]) = twos l ++ two n := by simp [twos]

end Go.Proofs.Ytibpipppabommaa.Cl
