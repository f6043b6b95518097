/- Labels: which may be, joins, meets, the order, bytes: the walks. -/
import Derived.Test.YtibpipppabommaaInfo
import Derived.Test.YtibpipppabommaaRow
import Derived.Handy
import Derived.Test.YtibpipppabommaaBits
import Derived.WalkMore
set_option linter.unusedVariables false
set_option linter.unusedSimpArgs false
namespace Go.Proofs.Ytibpipppabommaa.Cl
open Go Go.Proofs Go.RowKit Fl Rely

def labOK (v c : Int) : Bool := decide ((0 ≤ v ∧ v ≤ 3) ∧ (0 ≤ c ∧ c ≤ 15))
abbrev lv (l c : Int) : Value := .agg #[.int .i64 l, .int .i64 c]
theorem labOK_yes {v c : Int} (h : labOK v c = true) : (0 ≤ v ∧ v ≤ 3) ∧ (0 ≤ c ∧ c ≤ 15) := by simpa [labOK] using h
theorem labOK_mk {v c : Int} (h1 : 0 ≤ v ∧ v ≤ 3) (h2 : 0 ≤ c ∧ c ≤ 15) : labOK v c = true := by simp [labOK, h1, h2]
theorem labMay_any (v c : Int) (w : World) : Calls Try.prog 36 #[lv v c] w fun e w' => e = .returned (.bool (labOK v c)) ∧ Below w.heap.size w w' := by
  have hcase : (0 ≤ v ∧ v ≤ 3 ∧ 0 ≤ c ∧ labOK v c = decide (c ≤ 15)) ∨ (decide (0 ≤ v) = false ∧ labOK v c = false) ∨ (0 ≤ v ∧ decide (v ≤ 3) = false ∧ labOK v c = false) ∨ (0 ≤ v ∧ v ≤ 3 ∧ decide (0 ≤ c) = false ∧ labOK v c = false) := by
    unfold labOK
    by_cases h1 : 0 ≤ v <;> by_cases h2 : v ≤ 3 <;> by_cases h3 : 0 ≤ c <;> simp [h1, h2, h3]
  rcases hcase with ⟨h1, h2, h3, e⟩ | ⟨h1, e⟩ | ⟨h1, h2, e⟩ | ⟨h1, h2, h3, e⟩
  all_goals
    rw [e]
    clear e
    go_enter Try.func36, Try.ntmps36
    go_wp2
    go_returns
    exact ⟨rfl, by exact below_new _ _⟩
theorem refLabMay_any (v c : Int) (w : World) : Calls Try.prog 37 #[lv v c] w fun e w' => e = .returned (.bool (labOK v c)) ∧ Below w.heap.size w w' := by
  have hcase : (0 ≤ v ∧ v ≤ 3 ∧ 0 ≤ c ∧ labOK v c = decide (c ≤ 15)) ∨ (decide (0 ≤ v) = false ∧ labOK v c = false) ∨ (0 ≤ v ∧ decide (v ≤ 3) = false ∧ labOK v c = false) ∨ (0 ≤ v ∧ v ≤ 3 ∧ decide (0 ≤ c) = false ∧ labOK v c = false) := by
    unfold labOK
    by_cases h1 : 0 ≤ v <;> by_cases h2 : v ≤ 3 <;> by_cases h3 : 0 ≤ c <;> simp [h1, h2, h3]
  rcases hcase with ⟨h1, h2, h3, e⟩ | ⟨h1, e⟩ | ⟨h1, h2, e⟩ | ⟨h1, h2, h3, e⟩
  all_goals
    rw [e]
    clear e
    go_enter Try.func37, Try.ntmps37
    go_wp2
    go_returns
    exact ⟨rfl, by exact below_new _ _⟩

theorem eq_lv (a b a' b' : Int) (w : World) : (binOp .eql 63 (lv a b) (lv a' b')).run Try.prog w = .ok (.bool (decide (a = a' ∧ b = b'))) w := by
  by_cases h1 : a = a' <;> by_cases h2 : b = b' <;> simp [go_sem, h1, h2]

def jL (l c l' c' : Int) : Int := if labOK l c && labOK l' c' then max l l' else 0
def jC (l c l' c' : Int) : Int := if labOK l c && labOK l' c' then ((c.toNat ||| c'.toNat : Nat) : Int) else 0
def mL (l c l' c' : Int) : Int := if labOK l c && labOK l' c' then min l l' else 0
def mC (l c l' c' : Int) : Int := if labOK l c && labOK l' c' then ((c.toNat &&& c'.toNat : Nat) : Int) else 0

theorem point_any (l c : Int) (w : World) : Calls Try.prog 58 #[lv l c] w fun e w' => e = .returned (.complex .f64 (fl l) (fl c)) ∧ Below w.heap.size w w' := by
  go_enter Try.func58, Try.ntmps58
  go_wp2
  go_returns
  exact ⟨rfl, by exact below_new _ _⟩
theorem labOf_any (a b : Int) (w : World) (ha : 0 ≤ a ∧ a ≤ 3) (hb : 0 ≤ b ∧ b ≤ 15) : Calls Try.prog 57 #[.complex .f64 (fl a) (fl b)] w fun e w' => e = .returned (lv a b) ∧ Below w.heap.size w w' := by
  have e1 := conv_fi Try.prog 85 3 .i64 a (by kernel_rfl) Try.underlying3 (by omega) (by rw [min64]; omega) (by rw [max64]; omega)
  have e2 := conv_fi Try.prog 85 3 .i64 b (by kernel_rfl) Try.underlying3 (by omega) (by rw [min64]; omega) (by rw [max64]; omega)
  go_enter Try.func57, Try.ntmps57
  go_wp2
  go_returns
  exact ⟨rfl, by exact below_new _ _⟩

/-! ### labels in rows -/
theorem infoLab : (Try.prog.info? 63).map (·.size) = some 2 := by kernel_rfl
theorem zeroLab : (Try.prog.info? 63).map (·.zero) = some (some (lv 0 0)) := by kernel_rfl
theorem results_lv {fn : Func} {p : Tmp} (h : fn.results = #[.cell p 63]) {tmps : Array Value} {w : World} {g : Nat} {a b : Int} (hp : tmps.getD p undef = .pointer (some ⟨g, 0, none⟩)) (hB : RowAt w g 63 #[.int .i64 a, .int .i64 b]) :
    (results fn tmps).run Try.prog w = .ok (lv a b) w := by
  have hp' : tmps[p]?.getD undef = .pointer (some ⟨g, 0, none⟩) := by simpa using hp
  have hl := run_rw_load (P := Try.prog) hB Try.underlying63 rfl infoLab
  simp [results, h, hp', asAddr, hl]
theorem lab_one (a b : Int) : (#[Value.int .i64 a, Value.int .i64 b] : Array Value).all (·.oneCell') = true := by simp [Value.oneCell']

theorem wp_lab_store {K : Act → World → Prop} {Q : Exit → Act → World → Prop} {o : Oper} {act : Act} {w : World} {x y : Operand} {g : Nat} {a b a0 b0 : Int} (hg : RowAt w g 63 #[.int .i64 a0, .int .i64 b0])
    (hop : o.op = .store 63 x y) (hx : act.eval x = .pointer (some ⟨g, 0, none⟩)) (hy : act.eval y = lv a b)
    (h : ∀ w', RowAt w' g 63 #[.int .i64 a, .int .i64 b] → w.grownBy w' (some g) → w'.heap.size = w.heap.size → K (act.put o.dst undef) w') : o.wp Try.prog act w K Q :=
  wp_rw_store (cs := #[.int .i64 a, .int .i64 b]) hg infoLab rfl (lab_one _ _) hop hx hy h

theorem ck_no (l c l' c' : Int) (h : (labOK l c && labOK l' c') = false) : labOK l c = false ∨ labOK l c = true ∧ labOK l' c' = false := by
  cases h1 : labOK l c <;> cases h2 : labOK l' c' <;> simp_all
theorem or15 {a b : Nat} (ha : a ≤ 15) (hb : b ≤ 15) : a ||| b ≤ 15 := by
  have : a ||| b < 2 ^ 4 := Nat.or_lt_two_pow (by omega) (by omega)
  omega
theorem and15 {a b : Nat} (ha : a ≤ 15) : a &&& b ≤ 15 := Nat.le_trans Nat.and_le_left ha

end Go.Proofs.Ytibpipppabommaa.Cl
