/- dev: one device, from a block on. -/
import Derived.Test.YtbagicjimfhmeaaDevE
set_option linter.unusedVariables false
set_option linter.unusedSimpArgs false
namespace Go.Proofs.Ytbagicjimfhmeaa.Cl
open Go Go.Proofs Go.RowKit Fl

def DAt (B : Nat) (w : World) (g n : Nat) (D : Dv) : Prop := DOk n D ∧ ∃ F, DevRep w g F D ∧ ∀ k, F k → B ≤ k
def Ch (B : Nat) (w w' : World) : Prop := Below B w w' ∧ Keep8 w w'
theorem Ch.refl (B : Nat) (w : World) : Ch B w w := ⟨Below.refl _ _, Keep8.refl _⟩
theorem Ch.size {B : Nat} {w w' : World} (h : Ch B w w') : w.heap.size ≤ w'.heap.size := h.1.size
theorem Ch.of_below {B : Nat} {w w' : World} (h : Below w.heap.size w w') (hB : B ≤ w.heap.size) : Ch B w w' := ⟨h.mono hB, Keep8.of_below h⟩
theorem Ch.trans {B : Nat} {w w1 w2 : World} (h : Ch B w w1) (k : Ch B w1 w2) : Ch B w w2 := ⟨h.1.trans k.1, h.2.trans k.2⟩
theorem DAt.mono {B w g n m D} (h : DAt B w g n D) (hm : n ≤ m) : DAt B w g m D := ⟨h.1.mono hm, h.2⟩
theorem DAt.below {B w w' g n D} (h : DAt B w g n D) (hb : Below w.heap.size w w') : DAt B w' g n D := by
  obtain ⟨h1, F, h2, h3⟩ := h
  exact ⟨h1, F, h2.below hb, h3⟩
theorem DAt.lower {B B' w g n D} (h : DAt B w g n D) (hB : B' ≤ B) : DAt B' w g n D := by
  obtain ⟨h1, F, h2, h3⟩ := h
  exact ⟨h1, F, h2, fun k hk => Nat.le_trans hB (h3 k hk)⟩
theorem step_ch {B : Nat} {F F' : Nat → Prop} {w w' : World} (h : Step F w w' F') (hF : ∀ k, F k → B ≤ k) (hB : B ≤ w.heap.size) : Ch B w w' ∧ ∀ k, F' k → B ≤ k :=
  ⟨⟨h.1.below B (fun k _ hk => hF k hk) hB, h.2.1⟩, fun k hk => (h.2.2 k hk).elim (hF k) fun e => Nat.le_trans hB e⟩
/-- v reads as b whatever happens from block B on -/
def LB (B : Nat) (w : World) (v : Value) (b : List UInt8) : Prop := ∀ w', Ch B w w' → Rd w' v (bs b)
theorem LB.lasts {B : Nat} {F : Nat → Prop} {w : World} {v : Value} {b : List UInt8} (h : LB B w v b) (hF : ∀ k, F k → B ≤ k) (hB : B ≤ w.heap.size) : Lasts F w v b := fun w' F' k => h w' (step_ch k hF hB).1
theorem Byt.lb {w : World} {v : Value} {b : List UInt8} (B : Nat) (h : Byt w v b) : LB B w v b := fun w' k => (h.keep k.2).rd
theorem LB.ch {B : Nat} {w w' : World} {v : Value} {b : List UInt8} (h : LB B w v b) (k : Ch B w w') : LB B w' v b := fun w2 k2 => h w2 (k.trans k2)
theorem LB.of_rd {w : World} {v : Value} {b : List UInt8} (h : Rd w v (bs b)) : LB w.heap.size w v b := fun w' k => h.below k.1
def LBL (B : Nat) (w : World) (v : Value) (L : List (List UInt8)) : Prop := ∃ sl : List Value, sl.length = L.length ∧ ∀ w', Ch B w w' → Rd w' v sl ∧ ∀ j (h : j < sl.length) (h' : j < L.length), Rd w' sl[j] (bs L[j])
theorem LBL.nil (B : Nat) (w : World) : LBL B w (.slice none 0 0) [] := ⟨[], rfl, fun w' _ => ⟨Rd.nil w', fun j h => by simp at h⟩⟩
theorem LBL.ch {B : Nat} {w w' : World} {v : Value} {L : List (List UInt8)} (h : LBL B w v L) (k : Ch B w w') : LBL B w' v L := by
  obtain ⟨sl, h1, h2⟩ := h
  exact ⟨sl, h1, fun w2 k2 => h2 w2 (k.trans k2)⟩
theorem LBL.lasts {B : Nat} {F : Nat → Prop} {w : World} {v : Value} {L : List (List UInt8)} (h : LBL B w v L) (hF : ∀ k, F k → B ≤ k) (hB : B ≤ w.heap.size) : LastsL F w v L := by
  obtain ⟨sl, h1, h2⟩ := h
  exact ⟨sl, h1, fun w' F' k => h2 w' (step_ch k hF hB).1⟩
theorem dWrite {B : Nat} {w : World} {g n : Nat} {D : Dv} (h : DAt B w g n D) (hB : B ≤ w.heap.size) (hn : n ≤ 100000) (r i : Int) (v : Value) (b : List UInt8) (hv : LB B w v b) :
    Calls Try.prog 16 #[ptr g, .int .i64 r, .int .i64 i, v] w fun e w' => e = .returned (.bool (inB D r i && decide (b.length = 64))) ∧ DAt B w' g (n + 1) (writeZ D r i b) ∧ Ch B w w' := by
  obtain ⟨h1, F, h2, h3⟩ := h
  refine (writeZ_any h2 h1 hn r i v b (hv.lasts h3 hB)).mono ?_
  rintro e w' ⟨rfl, F', k1, k2⟩
  exact ⟨rfl, ⟨h1.writeZ r i b, F', k1, (step_ch k2 h3 hB).2⟩, (step_ch k2 h3 hB).1⟩
theorem dBarrier {B : Nat} {w : World} {g n : Nat} {D : Dv} (h : DAt B w g n D) (hB : B ≤ w.heap.size) (hn : n ≤ 100000) (r : Int) :
    Calls Try.prog 15 #[ptr g, .int .i64 r] w fun e w' => e = .returned (.bool (inB D r 0)) ∧ DAt B w' g (n + 1) (barrierZ D r) ∧ Ch B w w' := by
  obtain ⟨h1, F, h2, h3⟩ := h
  refine (barrierZ_any h2 h1 hn r).mono ?_
  rintro e w' ⟨rfl, F', k1, k2⟩
  exact ⟨rfl, ⟨h1.barrierZ r, F', k1, (step_ch k2 h3 hB).2⟩, (step_ch k2 h3 hB).1⟩
theorem dCrash {B : Nat} {w : World} {g n : Nat} {D : Dv} (h : DAt B w g n D) (hB : B ≤ w.heap.size) (hn : n ≤ 100000) (keep : List (List UInt8)) (v : Value) (hv : LBL B w v keep) :
    Calls Try.prog 17 #[ptr g, v] w fun e w' => e = .returned (.tuple #[]) ∧ DAt B w' g n (crashD D keep) ∧ Ch B w w' := by
  obtain ⟨h1, F, h2, h3⟩ := h
  refine (crashZ_any h2 h1 hn keep v (hv.lasts h3 hB)).mono ?_
  rintro e w' ⟨rfl, F', k1, k2⟩
  exact ⟨rfl, ⟨h1.crash keep, F', k1, (step_ch k2 h3 hB).2⟩, (step_ch k2 h3 hB).1⟩
theorem dStop {B : Nat} {w : World} {g n : Nat} {D : Dv} (h : DAt B w g n D) (hB : B ≤ w.heap.size) (x : Int) (hx : x ≤ 9223372036854775807) :
    Calls Try.prog 23 #[ptr g, .int .i64 x] w fun e w' => e = .returned (.tuple #[]) ∧ DAt B w' g n (D.1, max x (-1)) ∧ Ch B w w' := by
  obtain ⟨h1, F, h2, h3⟩ := h
  refine (stop_any h2 x).mono ?_
  rintro e w' ⟨rfl, k1, k2⟩
  exact ⟨rfl, ⟨h1.stop x hx, F, k1, h3⟩, (step_ch k2 h3 hB).1⟩
theorem dStopped {B : Nat} {w : World} {g n : Nat} {D : Dv} (h : DAt B w g n D) :
    Calls Try.prog 25 #[ptr g] w fun e w' => e = .returned (.bool (decide (D.2 = 0))) ∧ w = w' := by
  obtain ⟨h1, F, h2, h3⟩ := h
  exact stopped_any h2
theorem dRegions {B : Nat} {w : World} {g n : Nat} {D : Dv} (h : DAt B w g n D) :
    Calls Try.prog 32 #[ptr g] w fun e w' => e = .returned (.int .i64 D.1.length) ∧ w = w' := by
  obtain ⟨h1, F, h2, h3⟩ := h
  exact regions_any h2
theorem dRead {B : Nat} {w : World} {g n : Nat} {D : Dv} (h : DAt B w g n D) (r i : Int) :
    Calls Try.prog 18 #[ptr g, .int .i64 r, .int .i64 i] w fun e w' => ∃ u, e = .returned (.tuple #[u, .bool (inB D r i)]) ∧ OB w' w.heap.size u (if inB D r i then readZ D r i else []) ∧ Below w.heap.size w w' := by
  obtain ⟨h1, F, h2, h3⟩ := h
  exact readZ_any h2 h1 r i
theorem dTrace {B : Nat} {w : World} {g n : Nat} {D : Dv} (h : DAt B w g n D) (hn : n ≤ 100000) (r : Int) :
    Calls Try.prog 19 #[ptr g, .int .i64 r] w fun e w' => ∃ u, e = .returned u ∧ TL w' w.heap.size u (traceZ D r) ∧ Below w.heap.size w w' := by
  obtain ⟨h1, F, h2, h3⟩ := h
  exact traceZ_any h2 h1 hn r
theorem dCopy {B : Nat} {w : World} {g n : Nat} {D : Dv} (h : DAt B w g n D) (hn : n ≤ 100000) :
    Calls Try.prog 20 #[ptr g] w fun e w' => ∃ g2, e = .returned (ptr g2) ∧ DAt w.heap.size w' g2 n D ∧ Below w.heap.size w w' := by
  obtain ⟨h1, F, h2, h3⟩ := h
  refine (copyZ_any h2 h1 hn).mono ?_
  rintro e w' ⟨g2, rfl, k1, k2, k3⟩
  exact ⟨g2, rfl, ⟨h1, _, k1, fun k hk => hk⟩, k3⟩
theorem dNew (v : Value) (l : List Int) (w : World) (hv : Rd w v (ints l)) (hl : okS l) :
    Calls Try.prog 13 #[v] w fun e w' => ∃ g, e = .returned (.tuple #[ptr g, .bool true]) ∧ DAt w.heap.size w' g 0 (newD (l.map Int.toNat)) ∧ Below w.heap.size w w' := by
  refine (devNew_any v l w hv).mono ?_
  rintro e w' (⟨h, g, rfl, k1, k2, k3⟩ | ⟨h, _⟩)
  · exact ⟨g, rfl, ⟨DOk.new hl, _, k1, fun k hk => hk⟩, k3⟩
  · exact absurd hl h
theorem dNewNo (v : Value) (l : List Int) (w : World) (hv : Rd w v (ints l)) (hl : ¬ okS l) :
    Calls Try.prog 13 #[v] w fun e w' => e = .returned (.tuple #[.pointer none, .bool false]) ∧ Below w.heap.size w w' := by
  refine (devNew_any v l w hv).mono ?_
  rintro e w' (⟨h, _⟩ | ⟨h, rfl, k3⟩)
  · exact absurd h hl
  · exact ⟨rfl, k3⟩
end Go.Proofs.Ytbagicjimfhmeaa.Cl
