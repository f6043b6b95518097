/- dev's laws: what they share. -/
import Derived.Test.YtbagicjimfhmeaaDevG
set_option linter.unusedVariables false
set_option linter.unusedSimpArgs false
namespace Go.Proofs.Ytbagicjimfhmeaa.Cl
open Go Go.Proofs Go.RowKit Fl

theorem rd_u8 (w : World) (b : UInt8) (n : Int) (h : n = (b.toNat : Int)) : Rd (w.alloc (.cells #[.int .u8 n] 5)) (.slice (some ⟨w.heap.size, 0, none⟩) 1 1) (bs [b]) := by
  subst h
  exact Rd.new w #[u8 b] 5 (0, 0) 1 rfl (by simp)
theorem rd_u82 (w : World) (b c : UInt8) (n m : Int) (h : n = (b.toNat : Int)) (h' : m = (c.toNat : Int)) : Rd (w.alloc (.cells #[.int .u8 n, .int .u8 m] 5)) (.slice (some ⟨w.heap.size, 0, none⟩) 2 2) (bs [b, c]) := by
  subst h h'
  exact Rd.new w #[u8 b, u8 c] 5 (0, 0) 2 rfl (by simp)
theorem dFull (v : Value) (l : List UInt8) (w : World) (hv : Rd w v (bs l)) :
    Calls Try.prog 14 #[v] w fun e w' => ∃ g, e = .returned (.slice (some ⟨g, 0, none⟩) 64 64) ∧ Byt w' (.slice (some ⟨g, 0, none⟩) 64 64) (fullB l) ∧ Below w.heap.size w w' := by
  refine (full_any v l w hv).mono ?_
  rintro e w' ⟨rfl, h, hb⟩
  exact ⟨_, rfl, Byt.of_OB h, hb⟩
/-- full of one byte that was just written down -/
theorem dFull1 (w : World) (b : UInt8) (n : Int) (h : n = (b.toNat : Int)) :
    Calls Try.prog 14 #[.slice (some ⟨w.heap.size, 0, none⟩) 1 1] (w.alloc (.cells #[.int .u8 n] 5)) fun e w' => ∃ g, e = .returned (.slice (some ⟨g, 0, none⟩) 64 64) ∧ Byt w' (.slice (some ⟨g, 0, none⟩) 64 64) (fullB [b]) ∧ Below w.heap.size w w' := by
  refine (dFull _ [b] _ (rd_u8 w b n h)).mono ?_
  rintro e w' ⟨g, rfl, h1, h2⟩
  exact ⟨g, rfl, h1, below_new_then h2⟩
theorem dFull2 (w : World) (b c : UInt8) (n m : Int) (h : n = (b.toNat : Int)) (h' : m = (c.toNat : Int)) :
    Calls Try.prog 14 #[.slice (some ⟨w.heap.size, 0, none⟩) 2 2] (w.alloc (.cells #[.int .u8 n, .int .u8 m] 5)) fun e w' => ∃ g, e = .returned (.slice (some ⟨g, 0, none⟩) 64 64) ∧ Byt w' (.slice (some ⟨g, 0, none⟩) 64 64) (fullB [b, c]) ∧ Below w.heap.size w w' := by
  refine (dFull _ [b, c] _ (rd_u82 w b c n m h h')).mono ?_
  rintro e w' ⟨g, rfl, h1, h2⟩
  exact ⟨g, rfl, h1, below_new_then h2⟩
/-- a new device of sizes that were just written down -/
theorem dNew1 (w : World) (B : Nat) (cs : Array Value) (l : List Int) (n : Nat) (hc : cs.toList = ints l) (hn : n = l.length) (hl : okS l) (hB : B ≤ w.heap.size) :
    Calls Try.prog 13 #[.slice (some ⟨w.heap.size, 0, none⟩) n n] (w.alloc (.cells cs 3)) fun e w' => ∃ g, e = .returned (.tuple #[ptr g, .bool true]) ∧ DAt B w' g 0 (newD (l.map Int.toNat)) ∧ Below w.heap.size w w' := by
  have hs : n = cs.size := by rw [hn, ← Array.length_toList, hc]; simp [ints]
  have hr := Rd.new w cs 3 (0, 0) n hs (by rw [← hs, hn]; have := hl.2.1; omega)
  rw [hc] at hr
  refine (dNew _ l _ hr hl).mono ?_
  rintro e w' ⟨g, rfl, h1, h2⟩
  exact ⟨g, rfl, h1.lower (Nat.le_trans hB (le_new _ _)), below_new_then h2⟩
end Go.Proofs.Ytbagicjimfhmeaa.Cl
