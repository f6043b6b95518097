/- Arguments opened: a struct of three integers, an array of bytes. -/
import Derived.Test.YtojebhpjllkdpaaIno
import Derived.Lib.SmallJoins
set_option linter.unusedVariables false
set_option linter.unusedSimpArgs false
namespace Go.Proofs.Ytojebhpjllkdpaa.Cl
open Go Go.Proofs Go.RowKit Fl Go.ChangeShapes Go.WideShapes

theorem open_id {H : Type} {enc : TypeId × Value → H} {W : World} {v : Value} {d : DataW H} {ps : List MemPlace} {b0 : Nat}
    (hval : Value.okWide Try.prog W .any b0 33 v) (hd : DataW.Trod enc Try.prog W 0 (fun _ => true) true 33 v d ps) :
    ∃ a b c : Int, v = idv a b c ∧ (-9223372036854775808 ≤ a ∧ a ≤ 9223372036854775807) ∧ (-9223372036854775808 ≤ b ∧ b ≤ 9223372036854775807) ∧ ∃ m : Nat, c = (m : Int) ∧ m < 4294967296 := by
  obtain ⟨v0, v1, v2, y0, y1, y2, n, rfl, _, _, h0, h1, h2⟩ := Joins.open_agg3 Try.underlying33 (by kernel_rfl) (by kernel_rfl) hval hd
  obtain ⟨a, ha, _, wa⟩ := DataW.trod_int Try.underlying3 h0
  obtain ⟨b, hb, _, wb⟩ := DataW.trod_int Try.underlying3 h1
  obtain ⟨c, hc, _, wc⟩ := DataW.trod_int Try.underlying25 h2
  simp only [List.cons.injEq, and_true] at ha hb hc
  subst ha hb hc
  exact ⟨a, b, c, rfl, wf_i64 wa, wf_i64 wb, wf_u32 wc⟩

theorem okWide_array {P : Program} {w : World} {r : Reach} {b0 n : Nat} {t e : TypeId} {v : Value} (ht : P.underlying t = some (.array n e)) (h : Value.okWide P w r b0 t v) : ∃ cs, v = .agg cs ∧ cs.size = P.cellsOf t := by
  simp only [Value.okWide, ht] at h
  obtain ⟨cs, h1, h2, _⟩ := h
  exact ⟨cs, h1, h2⟩

theorem u8_list : ∀ (cs : List Value), (∀ i (h : i < cs.length), ∃ b : UInt8, cs[i] = u8 b) → ∃ l : List UInt8, cs = bs l
  | [], _ => ⟨[], rfl⟩
  | c :: cs, h => by
    obtain ⟨b, hb⟩ := h 0 (by simp)
    obtain ⟨l, hl⟩ := u8_list cs (fun i hi => h (i + 1) (Nat.succ_lt_succ hi))
    simp at hb
    exact ⟨b :: l, by rw [hl, hb]; rfl⟩

/-- an array of bytes that came in -/
theorem open_arr {H : Type} {enc : TypeId × Value → H} {P : Program} {W : World} {t e : TypeId} {n : Nat} {v : Value} {d : DataW H} {ps : List MemPlace} {b0 : Nat}
    (ht : P.underlying t = some (.array n e)) (he : P.underlying e = some (.int .u8)) (hc : P.cellsOf e = 1) (hC : P.cellsOf t = n) (hval : Value.okWide P W .any b0 t v) (hd : DataW.Trod enc P W 0 (fun _ => true) true t v d ps) :
    ∃ l : List UInt8, l.length = n ∧ v = .agg (bs l).toArray := by
  obtain ⟨⟨cs⟩, rfl, hsz⟩ := okWide_array ht hval
  obtain ⟨fuel, hf⟩ := hd
  obtain ⟨xs, m, _, _, hl, hxl, hall⟩ := DataW.trod_array ht hf
  simp only [Value.cells] at hl hall
  rw [hC] at hl
  obtain ⟨l, rfl⟩ := u8_list cs (fun i hi => by
    have h := hall i (by omega)
    rw [hc, Nat.mul_one] at h
    have hx : xs[i]? = some xs[i] := by simp [show i < xs.length by omega]
    rw [hx] at h
    obtain ⟨z, hz, _, wz⟩ := DataW.trod_int he h
    have h0 : ((cs.drop i).take 1)[0]? = some cs[i] := by simp [hi]
    rw [hz] at h0
    simp at h0
    obtain ⟨b, rfl⟩ := wf_u8 wz
    exact ⟨b, h0.symm⟩)
  refine ⟨l, by simpa [bs] using hl, rfl⟩
end Go.Proofs.Ytojebhpjllkdpaa.Cl
