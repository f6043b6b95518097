/- append(s, make([]byte, k)...) onto bytes that the call owns. -/
import Derived.Test.YtgeiafijibgdhaaNum
import Derived.Lib.AppendZeros
import Derived.Deep.MidRow
import Derived.Deep.WholeRow
import Derived.Lib.AppendZerosOnto
set_option linter.unusedVariables false
set_option linter.unusedSimpArgs false
namespace Go.Proofs.Ytgeiafijibgdhaa.Cl
open Go Go.Proofs Go.RowKit Fl

theorem zeroCells_u8 (k : Nat) : Builtin.zeroCells (Value.cells (.int .u8 0)) k = (bs (List.replicate k 0)).toArray := by
  apply Array.ext
  · simp [Builtin.zeroCells, Value.cells]
  · intro i h1 h2
    simp [Builtin.zeroCells, Value.cells, Nat.mod_one]
theorem zeros_len (k : Nat) : (List.replicate k (0 : UInt8)).length = k := List.length_replicate
theorem run_app_zeros (ty : TypeId) (w : World) (B : Nat) (v : Value) (l : List UInt8) (k : Nat) (hown : OB w B v l) (hl : l.length + k ≤ 1000000) (hB : B ≤ w.heap.size) :
    ∃ v' w', (Builtin.append_ #[37, 3] ty #[v, .int .i64 k]).run Try.prog w = .ok v' w' ∧ OB w' B v' (l ++ List.replicate k 0) ∧ Below B w w' := by
  obtain ⟨i5, hi5, hz5, hs5, hb5⟩ := info_parts info5
  have ht := Try.underlying37
  have htn := Try.underlying3
  have hge := hown.ge
  have hw : IntKind.i64.wrap (k : Int) = k := by rw [IntKind.wrap_i64]; omega
  have hw0 : IntKind.i64.wrap 0 = 0 := by decide
  have hneg : ¬ ((k : Int) < 0) := by omega
  have h48i : ¬ (281474976710656 < (k : Int) * (i5.bytes : Int)) := by rw [hb5]; omega
  have hml : ∀ old, grownCap w (l.length + k) old 5 ≤ maxLen := fun old => grownCap_le_maxLen w _ _ _ (by unfold maxLen; omega)
  have hgc : ∀ old, l.length + k ≤ grownCap w (l.length + k) old 5 := fun old => grownCap_ge w _ _ _
  have hrow : ∀ old, OB (w.drew.alloc (.cells ((bs l).toArray ++ (bs (List.replicate k 0)).toArray ++ (bs (List.replicate (grownCap w (l.length + k) old 5 - (l.length + k)) 0)).toArray) 5)) B (.slice (some ⟨w.heap.size, 0, none⟩) (l.length + k) (grownCap w (l.length + k) old 5)) (l ++ List.replicate k 0) := by
    intro old
    have h1 := hml old
    have h2 := hgc old
    refine ⟨by simp, .inr ⟨w.heap.size, _, _, by rw [List.length_append, zeros_len], hB, heap_alloc_last w.drew _, by rw [List.length_append, zeros_len]; exact h2, h1, ?_, ?_⟩⟩
    · simp
      omega
    · rw [List.length_append, zeros_len]
      simp only [Array.toList_append, List.append_assoc, Nat.mul_one]
      rw [← List.append_assoc, show bs (l ++ List.replicate k 0) = bs l ++ bs (List.replicate k 0) from List.map_append]
      exact List.take_left' (by simp)
  rcases id hown.2 with ⟨rfl, hn⟩ | ⟨g, cap, cur, rfl, hbg, hg, hnc, hcm, hcs, htake⟩
  · have hl0 : l = [] := List.eq_nil_of_length_eq_zero hn
    subst hl0
    rcases Nat.eq_zero_or_pos k with rfl | hk
    · exact ⟨.slice none 0 0, w, by simp [Builtin.append_, run_underlying ht, run_underlying htn, sizeOf, typeInfo, hi5, asInt, asIntOf, hw0], by simpa using hown, Below.refl _ _⟩
    · have hr := Lib.run_append_nil_zeros (P := Try.prog) w 37 3 ty 5 i5 (.int .u8 0) .i64 .i64 ht htn hi5 hz5 k hk (by rw [hs5]; omega) (by omega) (by rw [hb5]; omega)
      rw [zeroCells_u8, zeroCells_u8] at hr
      refine ⟨_, _, hr, ?_, (Below.refl _ _).drew.alloc hB _⟩
      have := hrow 0
      simpa using this
  · by_cases hroom : l.length + k ≤ cap
    · have hst := run_storeCells_at Try.prog g l.length 5 (bs (List.replicate k 0)) 0 cur w hg (by rw [bs_length, zeros_len, hcs]; omega) (oneCell_bs _)
      simp only [Nat.add_zero, bs_length, zeros_len] at hst
      refine ⟨.slice (some ⟨g, 0, none⟩) (l.length + k) cap, w.setRow g (cur.toList.take l.length ++ bs (List.replicate k 0) ++ cur.toList.drop (l.length + k)).toArray, ?_, ⟨by simp, .inr ⟨g, cap, _, by rw [List.length_append, zeros_len], hbg, setRow_heap w g cur _ _ _ hg, by rw [List.length_append, zeros_len]; exact hroom, hcm, ?_, ?_⟩⟩, below_own (v := .slice (some ⟨g, 0, none⟩) l.length cap) (Below.refl B _) ⟨rfl, rfl, rfl, by simp, fun k _ hk => setRow_other w g k _ (fun e => hk (by simp [Value.ownBlock, e]))⟩ hB hge⟩
      · rcases Nat.eq_zero_or_pos k with rfl | hk
        · have hnil : (storeCells ⟨g, l.length, none⟩ []).run Try.prog w = .ok () w := rfl
          have hself : w.setRow g (cur.toList.take l.length ++ bs (List.replicate 0 0) ++ cur.toList.drop (l.length + 0)).toArray = w := by
            simp only [List.replicate_zero, bs, List.map_nil, List.append_nil, Nat.add_zero, List.take_append_drop, Array.toArray_toList]
            exact setRow_self w g cur _ _ hg
          rw [hself]
          simp [Builtin.append_, run_underlying ht, run_underlying htn, sizeOf, typeInfo, zeroValue, hi5, hz5, hs5, asInt, asIntOf, hw0, hnc, Addr.add_lit, hnil]
        · have hns : ¬ (k * i5.size = 0) := Nat.mul_ne_zero (by omega) (by rw [hs5]; omega)
          have hk0 : ¬ (k = 0) := by omega
          have hzc := zeroCells_u8 k
          generalize bs (List.replicate k 0) = zs at hzc hst ⊢
          simp [Builtin.append_, run_underlying ht, run_underlying htn, sizeOf, typeInfo, zeroValue, hi5, hz5, hs5, asInt, asIntOf, hw, hneg, h48i, hroom, hk0, hzc, Addr.add_lit, hst]
      · simp
        omega
      · rw [List.length_append, zeros_len]
        simp only [Nat.mul_one] at htake ⊢
        rw [htake, show bs (l ++ List.replicate k 0) = bs l ++ bs (List.replicate k 0) from List.map_append]
        exact List.take_left' (by simp)
    · have holds : ∀ j u, (bs l)[j]? = some u → w.cell? ((⟨g, 0, none⟩ : Addr).add j) = some u := World.ownsRow.cells hown (g := g) rfl
      have hold := run_firstCells_some (P := Try.prog) w.drew 1 l.length ⟨g, 0, none⟩ l.length cap (bs l) (by simp) holds
      rw [← hs5] at hold
      have hk : 0 < k := by omega
      have hr := Lib.run_append_grow_zeros (P := Try.prog) w 37 3 ty 5 i5 (.int .u8 0) .i64 .i64 ht htn hi5 hz5 (some ⟨g, 0, none⟩) l.length cap (bs l) hold k hk (by rw [hs5]; omega) (by omega) (by omega) (by rw [hb5]; omega) (by rw [hb5]; have := growslice_fits (need := l.length + k) (old := cap) (bytes := 1) (by omega) (by omega); omega)
      rw [zeroCells_u8, zeroCells_u8] at hr
      exact ⟨_, _, hr, hrow cap, (Below.refl _ _).drew.alloc hB _⟩
theorem wpList_zeros {w : World} {ops : Array Oper} {rest : List Oper} {o : Oper} {a : Act} {Q : Exit → Act → World → Prop} (B : Nat) (v u : Value) (l : List UInt8) (k : Nat) (hgd : o.guard = none) (s x : Operand)
    (ho : o.op = .call { callee := .builtin .append, args := #[s, x], argTypes := #[37, 3] })
    (hs : a.eval s = v) (hx : a.eval x = u) (hu : u = .int .i64 k) (hown : OB w B v l) (hl : l.length + k ≤ 1000000) (hB : B ≤ w.heap.size)
    (h : ∀ v' w', OB w' B v' (l ++ List.replicate k 0) → Below B w w' → wpList Try.prog ops Q rest (a.put o.dst v') w') : wpList Try.prog ops Q (o :: rest) a w := by
  subst hu
  obtain ⟨v', w', hr, h1, h2⟩ := run_app_zeros o.type w B v l k hown hl hB
  exact Lib.wpList_append_run w hgd s x _ _ ho _ _ hs hx v' w' hr (h v' w' h1 h2)
end Go.Proofs.Ytgeiafijibgdhaa.Cl
