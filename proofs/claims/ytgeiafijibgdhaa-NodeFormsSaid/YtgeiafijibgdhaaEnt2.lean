/- entry: names of a folder, which may be. -/
import Derived.Test.YtgeiafijibgdhaaEnt1
import Derived.Test.YtgeiafijibgdhaaIno3
import Derived.Test.YtgeiafijibgdhaaRow
set_option linter.unusedVariables false
set_option linter.unusedSimpArgs false
namespace Go.Proofs.Ytgeiafijibgdhaa.Cl
open Go Go.Proofs Go.RowKit Fl Rely

/-- a name of a folder -/
structure Nm where
  a : Int
  b : Int
  c : Int
  s : List UInt8
  p : Int
  g : Int
def nmA (n : Nm) : Array Value := #[.int .i64 n.a, .int .i64 n.b, .int .u32 n.c, str n.s, .int .i64 n.p, .int .u32 n.g]
abbrev nmV (n : Nm) : Value := .agg (nmA n)
structure NmOk (n : Nm) : Prop where
  a : -9223372036854775808 ≤ n.a ∧ n.a ≤ 9223372036854775807
  b : -9223372036854775808 ≤ n.b ∧ n.b ≤ 9223372036854775807
  c : 0 ≤ n.c ∧ n.c < 4294967296
  s : n.s.length ≤ 1000000
  p : -9223372036854775808 ≤ n.p ∧ n.p ≤ 9223372036854775807
  g : 0 ≤ n.g ∧ n.g < 4294967296
def mayNm (n : Nm) : Bool := mayID n.a n.b n.c && mayName n.s && decide (1 ≤ n.p) && decide (n.p < 200) && decide (1 ≤ n.g)
abbrev NmAt (w : World) (g : Nat) (n : Nm) : Prop := RowAt w g 43 (nmA n)

set_option maxRecDepth 100000 in
set_option maxHeartbeats 2000000 in
theorem entMay_any (n : Nm) (w : World) (ok : NmOk n) :
    Calls Try.prog 29 #[nmV n] w fun e w' => e = .returned (.bool (mayNm n)) ∧ Below w.heap.size w w' := by
  have hI := fun w => may_any n.a n.b n.c w ok.a ok.b
  have hN := fun w => mayName_any n.s w ok.s
  have hm : mayNm n = (mayID n.a n.b n.c && mayName n.s && decide (1 ≤ n.p) && decide (n.p < 200) && decide (1 ≤ n.g)) := rfl
  obtain ⟨a, b, c, s, p, g⟩ := n
  dsimp only at hI hN hm
  have Hm := Lib.hid hm
  clear hm
  go_enter Try.func29, Try.ntmps29
  go_wp2_with (refine wp_want rfl fun K hK => ?_; refine wp_rw_box (P := Try.prog) (t := 43) (nmA ⟨a, b, c, s, p, g⟩) rfl rfl ?_)
  intro w1 A1 b1 s1
  refine hK _ _ ?_
  clear hK K
  have c0 := A1.cell 0 (.int .i64 a) rfl
  have c1 := A1.cell 1 (.int .i64 b) rfl
  have c2 := A1.cell 2 (.int .u32 c) rfl
  have hAt : ∀ {w2}, Below w1.heap.size w1 w2 → w2.cell? ⟨w.heap.size, 3, none⟩ = some (str s) ∧ w2.cell? ⟨w.heap.size, 4, none⟩ = some (.int .i64 p) ∧ w2.cell? ⟨w.heap.size, 5, none⟩ = some (.int .u32 g) := fun {w2} hb => by
    have A := RowAt.later A1 hb
    exact ⟨A.cell 3 (str s) rfl, A.cell 4 (.int .i64 p) rfl, A.cell 5 (.int .u32 g) rfl⟩
  go_wp2_with fail
  refine (hI _).mono ?_
  rintro e w2 ⟨rfl, b2⟩
  obtain ⟨d3, d4, d5⟩ := hAt b2
  have W2 := b1.trans (b2.mono b1.size)
  cases h1 : mayID a b c
  · have hno := Lib.hid (show mayNm ⟨a, b, c, s, p, g⟩ = false by rw [Hm.out, h1]; rfl)
    go_wp2_with fail
    go_ret
    exact ⟨ret_bool hno.out.symm, W2⟩
  · go_wp2_with fail
    refine (hN _).mono ?_
    rintro e w3 ⟨rfl, b3⟩
    obtain ⟨e3, e4, e5⟩ := hAt (b2.trans (b3.mono b2.size))
    have W3 := W2.trans (b3.mono W2.size)
    clear d3 d4 d5
    cases h2 : mayName s
    · have hno := Lib.hid (show mayNm ⟨a, b, c, s, p, g⟩ = false by rw [Hm.out, h1, h2]; rfl)
      go_wp2_with fail
      go_ret
      exact ⟨ret_bool hno.out.symm, W3⟩
    · by_cases h3 : 1 ≤ p
      · by_cases h4 : p < 200
        · have hno := Lib.hid (show mayNm ⟨a, b, c, s, p, g⟩ = decide (1 ≤ g) by rw [Hm.out, h1, h2, decide_eq_true h3, decide_eq_true h4]; rfl)
          go_wp2_with fail
          go_ret
          exact ⟨ret_bool hno.out.symm, W3⟩
        · have hno := Lib.hid (show mayNm ⟨a, b, c, s, p, g⟩ = false by rw [Hm.out, h1, h2, decide_eq_true h3, decide_eq_false h4]; rfl)
          go_wp2_with fail
          go_ret
          exact ⟨ret_bool hno.out.symm, W3⟩
      · have hno := Lib.hid (show mayNm ⟨a, b, c, s, p, g⟩ = false by rw [Hm.out, h1, h2, decide_eq_false h3]; rfl)
        go_wp2_with fail
        go_ret
        exact ⟨ret_bool hno.out.symm, W3⟩
theorem mayAt_any (p : Int) (w : World) : Calls Try.prog 53 #[.int .i64 p] w fun e w' => e = .returned (.bool (decide (1 ≤ p) && decide (p < 200))) ∧ w = w' := by
  go_enter Try.func53, Try.ntmps53
  by_cases h3 : 1 ≤ p
  · by_cases h4 : p < 200
    · rw [decide_eq_true h3, decide_eq_true h4]
      go_wp2_with fail
      go_ret
      exact ⟨rfl, rfl⟩
    · rw [decide_eq_true h3, decide_eq_false h4]
      go_wp2_with fail
      go_ret
      exact ⟨rfl, rfl⟩
  · rw [decide_eq_false h3, Bool.false_and]
    go_wp2_with fail
    go_ret
    exact ⟨rfl, rfl⟩
set_option maxRecDepth 100000 in
set_option maxHeartbeats 2000000 in
theorem refMayEntry_any (n : Nm) (w : World) (ok : NmOk n) :
    Calls Try.prog 30 #[nmV n] w fun e w' => e = .returned (.bool (mayNm n)) ∧ Below w.heap.size w w' := by
  have hI := fun w => refMay_any n.a n.b n.c w
  have hN := fun w => refMayName_any n.s w ok.s
  have hm : mayNm n = (mayID n.a n.b n.c && mayName n.s && decide (1 ≤ n.p) && decide (n.p < 200) && decide (1 ≤ n.g)) := rfl
  obtain ⟨a, b, c, s, p, g⟩ := n
  dsimp only at hI hN hm
  have Hm := Lib.hid hm
  clear hm
  go_enter Try.func30, Try.ntmps30
  go_wp2_with (refine wp_want rfl fun K hK => ?_; refine wp_rw_box (P := Try.prog) (t := 43) (nmA ⟨a, b, c, s, p, g⟩) rfl rfl ?_)
  intro w1 A1 b1 s1
  refine hK _ _ ?_
  clear hK K
  have c0 := A1.cell 0 (.int .i64 a) rfl
  have c1 := A1.cell 1 (.int .i64 b) rfl
  have c2 := A1.cell 2 (.int .u32 c) rfl
  have hAt : ∀ {w2}, Below w1.heap.size w1 w2 → w2.cell? ⟨w.heap.size, 3, none⟩ = some (str s) ∧ w2.cell? ⟨w.heap.size, 4, none⟩ = some (.int .i64 p) ∧ w2.cell? ⟨w.heap.size, 5, none⟩ = some (.int .u32 g) := fun {w2} hb => by
    have A := RowAt.later A1 hb
    exact ⟨A.cell 3 (str s) rfl, A.cell 4 (.int .i64 p) rfl, A.cell 5 (.int .u32 g) rfl⟩
  go_wp2_with fail
  refine (hI _).mono ?_
  rintro e w2 ⟨rfl, b2⟩
  obtain ⟨d3, d4, d5⟩ := hAt b2
  have W2 := b1.trans (b2.mono b1.size)
  cases h1 : mayID a b c
  · have hno := Lib.hid (show mayNm ⟨a, b, c, s, p, g⟩ = false by rw [Hm.out, h1]; rfl)
    go_wp2_with fail
    go_ret
    exact ⟨ret_bool hno.out.symm, W2⟩
  · go_wp2_with fail
    refine (hN _).mono ?_
    rintro e w3 ⟨rfl, b3⟩
    obtain ⟨e3, e4, e5⟩ := hAt (b2.trans (b3.mono b2.size))
    have W3 := W2.trans (b3.mono W2.size)
    clear d3 d4 d5
    cases h2 : mayName s
    · have hno := Lib.hid (show mayNm ⟨a, b, c, s, p, g⟩ = false by rw [Hm.out, h1, h2]; rfl)
      go_wp2_with fail
      go_ret
      exact ⟨ret_bool hno.out.symm, W3⟩
    · go_wp2_with fail
      refine (mayAt_any p _).mono ?_
      rintro e wq ⟨rfl, rfl⟩
      by_cases h3 : 1 ≤ p
      · by_cases h4 : p < 200
        · have hno := Lib.hid (show mayNm ⟨a, b, c, s, p, g⟩ = decide (1 ≤ g) by rw [Hm.out, h1, h2, decide_eq_true h3, decide_eq_true h4]; rfl)
          rw [decide_eq_true h3, decide_eq_true h4]
          go_wp2_with fail
          go_ret
          exact ⟨ret_bool hno.out.symm, W3⟩
        · have hno := Lib.hid (show mayNm ⟨a, b, c, s, p, g⟩ = false by rw [Hm.out, h1, h2, decide_eq_true h3, decide_eq_false h4]; rfl)
          rw [decide_eq_true h3, decide_eq_false h4]
          go_wp2_with fail
          go_ret
          exact ⟨ret_bool hno.out.symm, W3⟩
      · have hno := Lib.hid (show mayNm ⟨a, b, c, s, p, g⟩ = false by rw [Hm.out, h1, h2, decide_eq_false h3]; rfl)
        rw [decide_eq_false h3, Bool.false_and]
        go_wp2_with fail
        go_ret
        exact ⟨ret_bool hno.out.symm, W3⟩
end Go.Proofs.Ytgeiafijibgdhaa.Cl
