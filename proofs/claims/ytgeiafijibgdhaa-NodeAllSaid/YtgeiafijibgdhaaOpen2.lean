/- Arguments opened: a block, an array of bytes, a slice of ints. -/
import Derived.Test.YtgeiafijibgdhaaBlk
import Derived.Lib.SmallJoins
set_option linter.unusedVariables false
set_option linter.unusedSimpArgs false
namespace Go.Proofs.Ytgeiafijibgdhaa.Cl
open Go Go.Proofs Go.RowKit Fl Go.ChangeShapes Go.WideShapes

theorem okWide_arrayB {P : Program} {w : World} {r : Reach} {b0 n : Nat} {t e : TypeId} {v : Value} (ht : P.underlying t = some (.array n e)) (h : Value.okWide P w r b0 t v) : ∃ cs, v = .agg cs ∧ cs.size = P.cellsOf t := by
  simp only [Value.okWide, ht] at h
  obtain ⟨cs, h1, h2, _⟩ := h
  exact ⟨cs, h1, h2⟩

theorem u8_listB : ∀ (cs : List Value), (∀ i (h : i < cs.length), ∃ b : UInt8, cs[i] = u8 b) → ∃ l : List UInt8, cs = bs l
  | [], _ => ⟨[], rfl⟩
  | c :: cs, h => by
    obtain ⟨b, hb⟩ := h 0 (by simp)
    obtain ⟨l, hl⟩ := u8_listB cs (fun i hi => h (i + 1) (Nat.succ_lt_succ hi))
    simp at hb
    exact ⟨b :: l, by rw [hl, hb]; rfl⟩

/-- an array of bytes that came in -/
theorem open_arrB {H : Type} {enc : TypeId × Value → H} {P : Program} {W : World} {t e : TypeId} {n : Nat} {v : Value} {d : DataW H} {ps : List MemPlace} {b0 : Nat}
    (ht : P.underlying t = some (.array n e)) (he : P.underlying e = some (.int .u8)) (hc : P.cellsOf e = 1) (hC : P.cellsOf t = n) (hval : Value.okWide P W .any b0 t v) (hd : DataW.Trod enc P W 0 (fun _ => true) true t v d ps) :
    ∃ l : List UInt8, l.length = n ∧ v = .agg (bs l).toArray := by
  obtain ⟨⟨cs⟩, rfl, hsz⟩ := okWide_arrayB ht hval
  obtain ⟨fuel, hf⟩ := hd
  obtain ⟨xs, m, _, _, hl, hxl, hall⟩ := DataW.trod_array ht hf
  simp only [Value.cells] at hl hall
  rw [hC] at hl
  obtain ⟨l, rfl⟩ := u8_listB cs (fun i hi => by
    have h := hall i (by omega)
    rw [hc, Nat.mul_one] at h
    have hx : xs[i]? = some xs[i] := by simp [show i < xs.length by omega]
    rw [hx] at h
    obtain ⟨z, hz, _, wz⟩ := DataW.trod_int he h
    have h0 : ((cs.drop i).take 1)[0]? = some cs[i] := by simp [hi]
    rw [hz] at h0
    simp at h0
    obtain ⟨b, rfl⟩ := wf_u8 wz
    exact ⟨b, h0.symm⟩)
  refine ⟨l, by simpa [bs] using hl, rfl⟩

set_option maxRecDepth 100000 in
/-- a block that came in -/
theorem open_blk {H : Type} {enc : TypeId × Value → H} {W : World} {v : Value} {d : DataW H} {ps : List MemPlace} {b0 : Nat}
    (hval : Value.okWide Try.prog W .any b0 28 v) (hd : DataW.Trod enc Try.prog W 0 (fun _ => true) true 28 v d ps) :
    ∃ (k : Int) (b : List UInt8), b.length = 56 ∧ v = blkV k b ∧ (-9223372036854775808 ≤ k ∧ k ≤ 9223372036854775807) := by
  obtain ⟨⟨cs⟩, rfl, hsz⟩ := okWide_struct Try.underlying28 hval
  obtain ⟨fuel, hf⟩ := hd
  obtain ⟨y0, y1, n, _, hl, h0, h1⟩ := trod_struct2 Try.underlying28 hf
  have hC : Try.prog.cellsOf 28 = 57 := by kernel_rfl
  have hI : Try.prog.cellsOf 3 = 1 := by kernel_rfl
  simp only [Value.cells] at h0 h1 hl
  rw [hC] at hl
  rw [hI] at h0
  rw [cells56] at h1
  obtain ⟨a, ha, _, wa⟩ := DataW.trod_int Try.underlying3 h0
  obtain ⟨xs, m, _, _, hl2, hxl, hall⟩ := DataW.trod_array Try.underlying26 h1
  obtain ⟨c, cs, rfl⟩ : ∃ c cs', cs = c :: cs' := by
    cases cs with
    | nil => simp at hl
    | cons c cs => exact ⟨c, cs, rfl⟩
  simp only [List.drop_zero, List.take_succ_cons, List.take_zero, List.cons.injEq, and_true] at ha
  subst ha
  have hcs : cs.length = 56 := by simpa using hl
  simp only [List.drop_succ_cons, List.drop_zero] at hall
  rw [List.take_of_length_le (by omega), cellsU8] at hall
  obtain ⟨l, rfl⟩ := u8_listB cs (fun i hi => by
    have h := hall i (by omega)
    rw [Nat.mul_one] at h
    have hx : xs[i]? = some xs[i] := by simp [show i < xs.length by omega]
    rw [hx] at h
    obtain ⟨z, hz, _, wz⟩ := DataW.trod_int Try.underlying5 h
    have h0 : ((cs.drop i).take 1)[0]? = some cs[i] := by simp [hi]
    rw [hz] at h0
    simp at h0
    obtain ⟨b, rfl⟩ := wf_u8 wz
    exact ⟨b, h0.symm⟩)
  exact ⟨a, l, by simpa using hcs, rfl, wf_i64 wa⟩
/-- a slice of ints that came in -/
theorem open_ints_rd {H : Type} {enc : TypeId × Value → H} {P : Program} {W : World} {t e : TypeId} {v : Value} {d : DataW H} {ps : List MemPlace} {b0 : Nat}
    (ht : P.underlying t = some (.slice e)) (he : P.underlying e = some (.int .i64)) (hc : P.cellsOf e = 1) (hval : Value.okWide P W .any b0 t v) (hd : DataW.Trod enc P W 0 (fun _ => true) true t v d ps) :
    ∃ l : List Int, Rd W v (l.map (Value.int .i64)) := by
  obtain ⟨a, len, cap, rfl⟩ := WideShapes.okWide_slice ht hval
  obtain ⟨fuel, hf⟩ := hd
  rcases ChangeShapes.open_ints ht he hc hf with ⟨hcs, _⟩ | ⟨x, l, c, zs, hcs, _, hl, hm, hz, _, hcell, hwz⟩
  · simp [Value.cells] at hcs
    obtain ⟨rfl, rfl, rfl⟩ := hcs
    exact ⟨[], Rd.nil W⟩
  · simp [Value.cells] at hcs
    obtain ⟨rfl, rfl, rfl⟩ := hcs
    have hz : zs.length = cap := by simpa using hz
    have hlen : ((zs.take len).map (Value.int .i64)).length = len := by simp; omega
    refine ⟨zs.take len, some x, cap, by rw [hlen], by rw [hlen]; exact hl, by unfold maxLen at hm; omega, fun j hj => ⟨x, rfl, ?_⟩, by simp⟩
    rw [hlen] at hj
    rw [hcell j (by omega)]
    have hz : zs.getD j 0 = zs[j]'(by omega) := by rw [List.getD_eq_getElem?_getD, List.getElem?_eq_getElem (by omega)]; rfl
    rw [hz]
    simp only [List.getElem_map, List.getElem_take]
end Go.Proofs.Ytgeiafijibgdhaa.Cl
