/- dev: Crash. -/
import Derived.Test.YtbagicjimfhmeaaDev8
import Derived.Test.YtbagicjimfhmeaaBits
set_option linter.unusedVariables false
set_option linter.unusedSimpArgs false
namespace Go.Proofs.Ytbagicjimfhmeaa.Cl
open Go Go.Proofs Go.RowKit Fl

def bitAt (bits : List UInt8) (j : Nat) : Bool := match bits[j / 8]? with
  | some b => decide (b.toNat / 2 ^ (j % 8) % 2 = 1)
  | none => false
def crashS (bits : List UInt8) (S : List (List UInt8)) (L : List (Nat × List UInt8)) : List (List UInt8) := L.zipIdx.foldl (fun s x => if bitAt bits x.2 then s.set x.1.1 x.1.2 else s) S
theorem crashS_length (bits : List UInt8) (S : List (List UInt8)) (L : List (Nat × List UInt8)) : (crashS bits S L).length = S.length := by
  unfold crashS
  generalize L.zipIdx = X
  induction X generalizing S with
  | nil => rfl
  | cons x X ih =>
    rw [List.foldl_cons, ih]
    split
    · rw [List.length_set]
    · rfl
theorem crashS_snoc (bits : List UInt8) (S : List (List UInt8)) (L : List (Nat × List UInt8)) (x : Nat × List UInt8) : crashS bits S (L ++ [x]) = if bitAt bits L.length then (crashS bits S L).set x.1 x.2 else crashS bits S L := by
  unfold crashS
  rw [List.zipIdx_append, List.foldl_append]
  simp
def crashR (bits : List UInt8) (R : Rg) : Rg := ⟨crashS bits R.sure R.later, crashS bits R.sure R.later, [], R.trace⟩
def crashTo (keep : List (List UInt8)) (l : List Rg) (k : Nat) : List Rg := l.mapIdx fun j R => if j < k then crashR (keep.getD j []) R else R
theorem crashTo_length (keep : List (List UInt8)) (l : List Rg) (k : Nat) : (crashTo keep l k).length = l.length := by simp [crashTo]
theorem crashTo_zero (keep : List (List UInt8)) (l : List Rg) : crashTo keep l 0 = l := by
  unfold crashTo
  apply List.ext_getElem?
  intro i
  simp
theorem crashTo_at (keep : List (List UInt8)) (l : List Rg) (k : Nat) (hk : k < l.length) (h : k < (crashTo keep l k).length) : (crashTo keep l k)[k] = l[k] := by simp [crashTo]
theorem crashTo_succ (keep : List (List UInt8)) (l : List Rg) (k : Nat) (hk : k < l.length) : crashTo keep l (k + 1) = (crashTo keep l k).set k (crashR (keep.getD k []) l[k]) := by
  apply List.ext_getElem?
  intro i
  rw [List.getElem?_set, crashTo_length]
  unfold crashTo
  rw [List.getElem?_mapIdx, List.getElem?_mapIdx]
  by_cases e : k = i
  · subst e
    rw [if_pos rfl, if_pos hk, List.getElem?_eq_getElem hk]
    simp
  · rw [if_neg e]
    congr 1
    funext R
    by_cases h : i < k
    · rw [if_pos h, if_pos (by omega)]
    · rw [if_neg h, if_neg (by omega)]
def crashD (D : Dv) (keep : List (List UInt8)) : Dv := (crashTo keep D.1 D.1.length, -1)
/-- lists of bytes that outlast a device's steps -/
def LastsL (F : Nat → Prop) (w : World) (v : Value) (L : List (List UInt8)) : Prop := ∃ sl : List Value, sl.length = L.length ∧ ∀ w' F', Step F w w' F' → Rd w' v sl ∧ ∀ j (h : j < sl.length) (h' : j < L.length), Rd w' sl[j] (bs L[j])
theorem LastsL.nil (F : Nat → Prop) (w : World) : LastsL F w (.slice none 0 0) [] := ⟨[], rfl, fun w' F' _ => ⟨Rd.nil w', fun j h => by simp at h⟩⟩
theorem and_one (n : Nat) (hn : n < 256) : bits .and .u8 (n : Int) 1 = ((n % 2 : Nat) : Int) := by
  have h : ∀ m : Fin 256, bits .and .u8 ((m.val : Nat) : Int) 1 = ((m.val % 2 : Nat) : Int) := by decide +kernel
  exact h ⟨n, hn⟩
theorem LL.at_ {w : World} {v : Value} {L : List (Nat × List UInt8)} (h : LL w v L) (j : Nat) (hj : j < L.length) : ∃ g c u, v = .slice (some ⟨g, 0, none⟩) L.length c ∧ w.cell? ⟨g, j * 2, none⟩ = some (.int .i64 (L[j].1 : Int)) ∧ w.cell? ⟨g, j * 2 + 1, none⟩ = some u ∧ Byt w u L[j].2 := by
  obtain ⟨sl, h1, h2, h3⟩ := h
  have hj' : j < sl.length := by omega
  obtain ⟨k1, k2⟩ := h3 j hj' hj
  rcases own_none h1 with ⟨_, h0, _⟩ | ⟨g, c, rfl, hc⟩
  · omega
  · have hlen : ∀ x ∈ sl, ([Value.int .i64 x.1, x.2] : List Value).length = 2 := fun _ _ => rfl
    have f : ∀ i, i < 2 → (sl.flatMap fun x => [Value.int .i64 x.1, x.2])[j * 2 + i]? = ([Value.int .i64 sl[j].1, sl[j].2] : List Value)[i]? := by
      intro i hi
      have key : ∀ (l : List (Int × Value)) (j : Nat) (hj : j < l.length), (l.flatMap fun x => [Value.int .i64 x.1, x.2])[j * 2 + i]? = ([Value.int .i64 l[j].1, l[j].2] : List Value)[i]? := by
        intro l
        induction l with
        | nil => intro j hj; simp at hj
        | cons x l ih =>
          intro j hj
          cases j with
          | zero =>
            rw [List.flatMap_cons, Nat.zero_mul, Nat.zero_add, List.getElem?_append_left (by simpa using hi)]
            rfl
          | succ j =>
            rw [List.flatMap_cons, List.getElem?_append_right (by simp; omega)]
            have := ih j (by simpa using hj)
            rw [show (j + 1) * 2 + i - ([Value.int .i64 x.1, x.2] : List Value).length = j * 2 + i by simp; omega]
            exact this
      exact key sl j hj'
    refine ⟨g, c, sl[j].2, by rw [h2], ?_, ?_, k2⟩
    · have := hc (j * 2) _ (f 0 (by decide))
      rw [Addr.add_lit, Nat.zero_add] at this
      rw [this, ← k1]
    · have := hc (j * 2 + 1) _ (f 1 (by decide))
      rw [Addr.add_lit, Nat.zero_add] at this
      exact this
end Go.Proofs.Ytbagicjimfhmeaa.Cl
