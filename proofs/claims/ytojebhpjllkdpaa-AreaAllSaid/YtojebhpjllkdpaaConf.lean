/- conf.May: which configs may be. -/
import Derived.Test.YtojebhpjllkdpaaConfig
set_option linter.unusedVariables false
set_option linter.unusedSimpArgs false
namespace Go.Proofs.Ytojebhpjllkdpaa.Cl
open Go Go.Proofs Go.RowKit Fl

/-- a config that reads as a list of shares -/
def RdC (w : World) (cv : Value) (c : List Sh) : Prop :=
  ∃ ad cap, cv = .slice ad c.length cap ∧ c.length ≤ cap ∧ cap ≤ 9223372036854775807 ∧ (0 < c.length → ∃ gb off, ad = some ⟨gb, off, none⟩ ∧ ∀ (j : Nat) (h : j < c.length) (i : Nat), i < 5 → w.cell? ⟨gb, off + j * 5 + i, none⟩ = c[j].cells[i]?)
theorem Cfg.rd {w : World} {B : Nat} {cv : Value} {c : List Sh} (h : Cfg w B cv c) : RdC w cv c := by
  rcases h.own.2 with ⟨h0, h1⟩ | ⟨k, cap, cur, hv, hb, hr, h1, h2, h3, h4⟩
  · exact ⟨none, 0, by rw [h0, h1], by omega, by omega, fun h => by omega⟩
  · subst hv
    exact ⟨_, cap, rfl, h1, by unfold maxLen at h2; omega, fun _ => ⟨k, 0, rfl, fun j hj i hi => by rw [Nat.zero_add]; exact h.cell j i hj hi⟩⟩
theorem RdC.below {w w1 : World} {cv : Value} {c : List Sh} (h : RdC w cv c) (hb : Below w.heap.size w w1) : RdC w1 cv c := by
  obtain ⟨ad, cap, rfl, h1, h2, h3⟩ := h
  refine ⟨ad, cap, rfl, h1, h2, fun hl => ?_⟩
  obtain ⟨gb, off, rfl, hc⟩ := h3 hl
  refine ⟨gb, off, rfl, fun j hj i hi => ?_⟩
  have := hc j hj i hi
  have hs : ∃ v, c[j].cells[i]? = some v := ⟨_, List.getElem?_eq_getElem (show i < c[j].cells.length from hi)⟩
  obtain ⟨v, hv⟩ := hs
  rw [hv] at this ⊢
  exact cell_later hb this

def labOK (v c : Int) : Bool := decide ((0 ≤ v ∧ v ≤ 3) ∧ (0 ≤ c ∧ c ≤ 15))
def shOK (s : Sh) : Bool := decide ((0 ≤ s.v ∧ s.v ≤ 3) ∧ (0 ≤ s.c ∧ s.c ≤ 15) ∧ (4 ≤ s.b ∧ s.b ≤ 200) ∧ (16 ≤ s.l ∧ s.l ≤ 100) ∧ 1 ≤ s.f ∧ s.f ≤ 50)

theorem labMay_any (v c : Int) (w : World) : Calls Try.prog 61 #[.agg #[.int .i64 v, .int .i64 c]] w fun e w' => e = .returned (.bool (labOK v c)) ∧ Below w.heap.size w w' := by
  have hfin : ∀ b, b = labOK v c → labOK v c = b := fun b h => h.symm
  by_cases h1 : 0 ≤ v
  · by_cases h2 : v ≤ 3
    · by_cases h3 : 0 ≤ c
      · have e : labOK v c = decide (c ≤ 15) := by unfold labOK; simp [h1, h2, h3]
        rw [e]
        go_enter Try.func61, Try.ntmps61
        go_wp2
        go_returns
        exact ⟨rfl, by go_grown⟩
      · have e : labOK v c = false := by unfold labOK; simp [h3]
        rw [e]
        have h3' : decide (0 ≤ c) = false := by simpa using h3
        clear h3
        go_enter Try.func61, Try.ntmps61
        go_wp2
        go_returns
        exact ⟨rfl, by go_grown⟩
    · have e : labOK v c = false := by unfold labOK; simp [h2]
      rw [e]
      have h2' : decide (v ≤ 3) = false := by simpa using h2
      clear h2
      go_enter Try.func61, Try.ntmps61
      go_wp2
      go_returns
      exact ⟨rfl, by go_grown⟩
  · have e : labOK v c = false := by unfold labOK; simp [h1]
    rw [e]
    have h1' : decide (0 ≤ v) = false := by simpa using h1
    clear h1
    go_enter Try.func61, Try.ntmps61
    go_wp2
    go_returns
    exact ⟨rfl, by go_grown⟩

theorem in_any (n lo hi : Int) (w : World) : Calls Try.prog 60 #[.int .i64 n, .int .i64 lo, .int .i64 hi] w fun e w' => e = .returned (.bool (decide (lo ≤ n ∧ n ≤ hi))) ∧ w = w' := by
  by_cases h1 : lo ≤ n
  · have e : decide (lo ≤ n ∧ n ≤ hi) = decide (n ≤ hi) := by simp [h1]
    rw [e]
    go_enter Try.func60, Try.ntmps60
    go_wp2
    go_ret
    exact ⟨rfl, rfl⟩
  · have e : decide (lo ≤ n ∧ n ≤ hi) = false := by simp [h1]
    rw [e]
    have h1' : decide (lo ≤ n) = false := by simpa using h1
    clear h1
    go_enter Try.func60, Try.ntmps60
    go_wp2
    go_ret
    exact ⟨rfl, rfl⟩
end Go.Proofs.Ytojebhpjllkdpaa.Cl
