/- dev: a crash that keeps what was just written down. -/
import Derived.Test.YtbagicjimfhmeaaDevK
set_option linter.unusedVariables false
set_option linter.unusedSimpArgs false
namespace Go.Proofs.Ytbagicjimfhmeaa.Cl
open Go Go.Proofs Go.RowKit Fl

theorem tCrashLit {B : Nat} {w0 w : World} {g1 n1 : Nat} {D1 : Dv} {g2 n2 : Nat} {D2 : Dv} (h0 : Two B w0 g1 n1 D1 g2 n2 D2) (hb : Below w0.heap.size w0 w) (hB : B ≤ w0.heap.size) (hn : n1 ≤ 100000) (keep : List (List UInt8)) (v : Value)
    (hv : ∃ sl : List Value, sl.length = keep.length ∧ ∀ w', Frm (fun k => k < w0.heap.size) w w' → Rd w' v sl ∧ ∀ j (h : j < sl.length) (h' : j < keep.length), Rd w' sl[j] (bs keep[j])) :
    Calls Try.prog 17 #[ptr g1, v] w fun e w' => e = .returned (.tuple #[]) ∧ Two B w' g1 n1 (crashD D1 keep) g2 n2 D2 ∧ Ch B w w' := by
  obtain ⟨o1, o2, F1, F2, a, b', c, d, e⟩ := id h0
  obtain ⟨sl, hsl, hv⟩ := hv
  have hBw : B ≤ w.heap.size := Nat.le_trans hB hb.size
  refine (crashZ_any (a.below hb) o1 hn keep v ⟨sl, hsl, fun w' F' k => hv w' (k.1.mono fun j _ hj => (c j hj).2)⟩).mono ?_
  rintro e' w' ⟨rfl, F', k1, k2⟩
  refine ⟨rfl, ⟨o1.crash keep, o2, fun j => F' j ∧ j < w'.heap.size, F2, k1.mono fun j hj hF => ⟨hF, hj⟩, (b'.below hb).frm k2.1 k2.2.1 (fun j _ hj hF => e j hF hj), fun j hj => ⟨(step_ch k2 (fun j hj => (c j hj).1) hBw).2 j hj.1, hj.2⟩, fun j hj => ⟨(d j hj).1, Nat.lt_of_lt_of_le (Nat.lt_of_lt_of_le (d j hj).2 hb.size) k2.size⟩, fun j hj hk => ?_⟩, (step_ch k2 (fun j hj => (c j hj).1) hBw).1⟩
  rcases k2.2.2 j hj.1 with hf | hf
  · exact e j hf hk
  · have := (d j hk).2
    have := hb.size
    omega
theorem rd_ff (w : World) : Rd (w.alloc (.cells #[.int .u8 255, .int .u8 255, .int .u8 255, .int .u8 255, .int .u8 255, .int .u8 255] 5)) (.slice (some ⟨w.heap.size, 0, none⟩) 6 6) (bs FF6) :=
  Rd.new w #[u8 255, u8 255, u8 255, u8 255, u8 255, u8 255] 5 (0, 0) 6 rfl (by simp)
/-- 'Crash([][]byte{{255, ..}, {255, ..}})' -/
theorem tCrashFF {B : Nat} {w0 : World} {g1 n1 : Nat} {D1 : Dv} {g2 n2 : Nat} {D2 : Dv} (h0 : Two B w0 g1 n1 D1 g2 n2 D2) (hB : B ≤ w0.heap.size) (hn : n1 ≤ 100000) (z0 z1 z2 : Nat) (e0 : z0 = w0.heap.size) (e1 : z1 = w0.heap.size + 1) (e2 : z2 = w0.heap.size + 1 + 1) :
    Calls Try.prog 17 #[ptr g1, .slice (some ⟨z2, 0, none⟩) 2 2] (((w0.alloc (.cells #[.int .u8 255, .int .u8 255, .int .u8 255, .int .u8 255, .int .u8 255, .int .u8 255] 5)).alloc (.cells #[.int .u8 255, .int .u8 255, .int .u8 255, .int .u8 255, .int .u8 255, .int .u8 255] 5)).alloc (.cells #[.slice (some ⟨z0, 0, none⟩) 6 6, .slice (some ⟨z1, 0, none⟩) 6 6] 34))
      fun e w' => e = .returned (.tuple #[]) ∧ Two B w' g1 n1 (crashD D1 [FF6, FF6]) g2 n2 D2 ∧ Ch B w0 w' := by
  subst e0 e1 e2
  generalize hw1 : w0.alloc (.cells #[.int .u8 255, .int .u8 255, .int .u8 255, .int .u8 255, .int .u8 255, .int .u8 255] 5) = w1
  have s1 : w1.heap.size = w0.heap.size + 1 := by rw [← hw1]; simp
  have r0 : Rd w1 (.slice (some ⟨w0.heap.size, 0, none⟩) 6 6) (bs FF6) := by rw [← hw1]; exact rd_ff w0
  have b1 : Below w0.heap.size w0 w1 := by rw [← hw1]; exact below_new _ _
  clear hw1
  generalize hw2 : w1.alloc (.cells #[.int .u8 255, .int .u8 255, .int .u8 255, .int .u8 255, .int .u8 255, .int .u8 255] 5) = w2
  have s2 : w2.heap.size = w0.heap.size + 1 + 1 := by rw [← hw2]; simp [s1]
  have r1 : Rd w2 (.slice (some ⟨w1.heap.size, 0, none⟩) 6 6) (bs FF6) := by rw [← hw2]; exact rd_ff w1
  have b2 : Below w1.heap.size w1 w2 := by rw [← hw2]; exact below_new _ _
  clear hw2
  have r0 := r0.below b2
  rw [s1] at r1
  generalize hw3 : w2.alloc (.cells #[.slice (some ⟨w0.heap.size, 0, none⟩) 6 6, .slice (some ⟨w0.heap.size + 1, 0, none⟩) 6 6] 34) = w3
  have r2 : Rd w3 (.slice (some ⟨w2.heap.size, 0, none⟩) 2 2) [.slice (some ⟨w0.heap.size, 0, none⟩) 6 6, .slice (some ⟨w0.heap.size + 1, 0, none⟩) 6 6] := by rw [← hw3]; exact Rd.new w2 #[_, _] 34 (0, 0) 2 rfl (by simp)
  have b3 : Below w2.heap.size w2 w3 := by rw [← hw3]; exact below_new _ _
  clear hw3
  have r0 := r0.below b3
  have r1 := r1.below b3
  rw [s2] at r2
  have bb : Below w0.heap.size w0 w3 := (b1.trans (b2.mono (by omega))).trans (b3.mono (by omega))
  refine (tCrashLit h0 bb hB hn [FF6, FF6] _ ⟨[.slice (some ⟨w0.heap.size, 0, none⟩) 6 6, .slice (some ⟨w0.heap.size + 1, 0, none⟩) 6 6], rfl, fun w' f => ⟨f.rd r2 (by omega), fun j h h' => ?_⟩⟩).mono ?_
  · match j, h with
    | 0, _ => exact f.rd r0 (by omega)
    | 1, _ => exact f.rd r1 (by omega)
  · rintro e w' ⟨rfl, T, c⟩
    exact ⟨rfl, T, (Ch.of_below bb hB).trans c⟩
end Go.Proofs.Ytbagicjimfhmeaa.Cl
