/- dev: eight sets of texts beside one device (for DevBarrier). -/
import Derived.Test.YtbagicjimfhmeaaDevU
import Derived.Test.YtbagicjimfhmeaaMapW
set_option linter.unusedVariables false
set_option linter.unusedSimpArgs false
namespace Go.Proofs.Ytbagicjimfhmeaa.Cl
open Go Go.Proofs Go.RowKit Fl

def mcs (rs : List (Option Nat)) : Array Value := (rs.map Value.map).toArray
theorem mcs_size (rs : List (Option Nat)) : (mcs rs).size = rs.length := by simp [mcs]
theorem mcs_set (rs : List (Option Nat)) (i r : Nat) (hi : i < rs.length) : patch (mcs rs) i [.map (some r)] = mcs (rs.set i (some r)) := by
  rw [patch_one _ _ _ (by rw [mcs_size]; exact hi)]
  apply Array.ext'
  simp [mcs, List.map_set]
theorem mcs_get (rs : List (Option Nat)) (i : Nat) (r : Option Nat) (h : rs[i]? = some r) : (mcs rs)[i]? = some (.map r) := by
  simp [mcs, h]
theorem infoM_zero : (Try.prog.info? 33).map (·.zero) = some (some (.agg (mcs (List.replicate 8 none)))) := by kernel_rfl
theorem infoMp_size : (Try.prog.info? 31).map (·.size) = some 1 := by kernel_rfl
theorem DZ.putN {B : Nat} {Z : Nat → Prop} {w w' : World} {g n k : Nat} {D : Dv} (h : DZ B Z w g n D) (hb : w.grownBy w' (some k)) (hZ : Z k) (ht : ¬ IsB w k) : DZ B Z w' g n D := by
  obtain ⟨o, F, a, b⟩ := h
  refine ⟨o, F, a.frm (Frm.of_grown (F := fun j => j = k) hb fun j hj => (Option.some.inj hj).symm) (Keep8.of_grown hb fun j hj => by obtain rfl := Option.some.inj hj; exact ht) fun j _ hF e => (b j hF).2.2 (e ▸ hZ), fun j hj => ⟨(b j hj).1, Nat.lt_of_lt_of_le (b j hj).2.1 hb.size, (b j hj).2.2⟩⟩
theorem SSet.notB {w : World} {r : Nat} {S : List (List UInt8)} (h : SSet w r S) : ¬ IsB w r := by
  rintro ⟨cs, fr, e⟩
  exact h.ne_cells e rfl
/-- a device; an array of texts (sure); an array of sets -/
structure Bm (w : World) (g a1 a2 n : Nat) (D : Dv) (U : List (List UInt8)) (rs : List (Option Nat)) (M : List (List (List UInt8))) (Z : Nat → Prop) (wr : World) : Prop where
  d : DZ w.heap.size Z wr g n D
  zl : ∀ k, Z k → k < wr.heap.size
  z1 : Z a1
  z2 : Z a2
  zm : ∀ (i r : Nat), rs[i]? = some (some r) → Z r
  A1 : RowAt wr a1 30 (svs U)
  A2 : RowAt wr a2 33 (mcs rs)
  rl : rs.length = 8
  ml : M.length = 8
  at_ : ∀ (i r : Nat), rs[i]? = some (some r) → w.heap.size ≤ r ∧ SSet wr r (M.getD i [])
  inj : ∀ (i j r : Nat), rs[i]? = some (some r) → rs[j]? = some (some r) → i = j
  b : Below w.heap.size w wr
  h1 : w.heap.size ≤ a1
  h2 : w.heap.size ≤ a2
theorem row_ne {w : World} {g g' : Nat} {t t' : TypeId} {cs cs' : Array Value} (h : RowAt w g t cs) (h' : RowAt w g' t' cs') (ht : t ≠ t') : g ≠ g' := by
  rintro rfl
  unfold RowAt at h h'
  rw [h] at h'
  injection h' with h'
  injection h' with _ e _
  exact ht e
section
variable {w : World} {g a1 a2 n : Nat} {D : Dv} {U : List (List UInt8)} {rs : List (Option Nat)} {M : List (List (List UInt8))} {Z : Nat → Prop} {wr wr' w2 w3 : World}
theorem Bm.size (h : Bm w g a1 a2 n D U rs M Z wr) : w.heap.size ≤ wr.heap.size := h.b.size
theorem Bm.below (h : Bm w g a1 a2 n D U rs M Z wr) (hb : Below wr.heap.size wr wr') : Bm w g a1 a2 n D U rs M Z wr' where
  d := h.d.below hb
  zl := fun k hk => Nat.lt_of_lt_of_le (h.zl k hk) hb.size
  z1 := h.z1
  z2 := h.z2
  zm := h.zm
  A1 := h.A1.later hb
  A2 := h.A2.later hb
  rl := h.rl
  ml := h.ml
  at_ := fun i r hi => ⟨(h.at_ i r hi).1, (h.at_ i r hi).2.later hb⟩
  inj := h.inj
  b := h.b.trans (hb.mono h.b.size)
  h1 := h.h1
  h2 := h.h2
theorem Bm.call {m : Nat} {D' : Dv} (h : Bm w g a1 a2 n D U rs M Z wr) (hd : DZ w.heap.size Z wr' g m D') (hc : CZ w.heap.size Z wr wr') : Bm w g a1 a2 m D' U rs M Z wr' where
  d := hd
  zl := fun k hk => Nat.lt_of_lt_of_le (h.zl k hk) hc.1.size
  z1 := h.z1
  z2 := h.z2
  zm := h.zm
  A1 := hc.row h.A1 h.z1
  A2 := hc.row h.A2 h.z2
  rl := h.rl
  ml := h.ml
  at_ := fun i r hi => ⟨(h.at_ i r hi).1, (h.at_ i r hi).2.heap (hc.2.block r (h.at_ i r hi).2.lt fun hn => hn (h.zm i r hi))⟩
  inj := h.inj
  b := h.b.trans hc.1.1
  h1 := h.h1
  h2 := h.h2
/-- more that is beside it -/
theorem Bm.wide (h : Bm w g a1 a2 n D U rs M Z wr) (hb : Below wr.heap.size wr wr') (Z' : Nat → Prop) (hZ : ∀ k, Z' k → Z k ∨ wr.heap.size ≤ k) (hZ' : ∀ k, Z k → Z' k) (hl : ∀ k, Z' k → k < wr'.heap.size) : Bm w g a1 a2 n D U rs M Z' wr' where
  d := h.d.wide hb Z' hZ
  zl := hl
  z1 := hZ' _ h.z1
  z2 := hZ' _ h.z2
  zm := fun i r hi => hZ' _ (h.zm i r hi)
  A1 := h.A1.later hb
  A2 := h.A2.later hb
  rl := h.rl
  ml := h.ml
  at_ := fun i r hi => ⟨(h.at_ i r hi).1, (h.at_ i r hi).2.later hb⟩
  inj := h.inj
  b := h.b.trans (hb.mono h.b.size)
  h1 := h.h1
  h2 := h.h2
/-- the first array is written -/
theorem Bm.put1 {U' : List (List UInt8)} (h : Bm w g a1 a2 n D U rs M Z wr) (hA : RowAt wr' a1 30 (svs U')) (hg : wr.grownBy wr' (some a1)) : Bm w g a1 a2 n D U' rs M Z wr' where
  d := h.d.putN hg h.z1 (h.A1.notB (by decide))
  zl := fun k hk => Nat.lt_of_lt_of_le (h.zl k hk) hg.size
  z1 := h.z1
  z2 := h.z2
  zm := h.zm
  A1 := hA
  A2 := h.A2.grown hg (row_ne h.A2 h.A1 (by decide))
  rl := h.rl
  ml := h.ml
  at_ := fun i r hi => ⟨(h.at_ i r hi).1, (h.at_ i r hi).2.grown hg ((h.at_ i r hi).2.ne_cells h.A1)⟩
  inj := h.inj
  b := below_grown h.b hg h.b.size h.h1
  h1 := h.h1
  h2 := h.h2
/-- one more block beside it is written, which is no part of this -/
theorem Bm.other {k : Nat} (h : Bm w g a1 a2 n D U rs M Z wr) (hg : wr.grownBy wr' (some k)) (hZ : Z k) (hB : ¬ IsB wr k) (hk : w.heap.size ≤ k) (h1 : k ≠ a1) (h2 : k ≠ a2) (hm : ∀ (i r : Nat), rs[i]? = some (some r) → r ≠ k) : Bm w g a1 a2 n D U rs M Z wr' where
  d := h.d.putN hg hZ hB
  zl := fun k hk => Nat.lt_of_lt_of_le (h.zl k hk) hg.size
  z1 := h.z1
  z2 := h.z2
  zm := h.zm
  A1 := h.A1.grown hg (fun e => h1 e.symm)
  A2 := h.A2.grown hg (fun e => h2 e.symm)
  rl := h.rl
  ml := h.ml
  at_ := fun i r hi => ⟨(h.at_ i r hi).1, (h.at_ i r hi).2.grown hg (hm i r hi)⟩
  inj := h.inj
  b := below_grown h.b hg h.b.size hk
  h1 := h.h1
  h2 := h.h2
/-- a new set for place j -/
theorem Bm.renew {r j : Nat} {S : List (List UInt8)} (h : Bm w g a1 a2 n D U rs M Z wr) (hZ : Z r) (hr : SSet wr r S) (hr2 : w.heap.size ≤ r) (hn : ∀ (i q : Nat), rs[i]? = some (some q) → q ≠ r) (hj : j < 8)
    (hA : RowAt wr' a2 33 (mcs (rs.set j (some r)))) (hg : wr.grownBy wr' (some a2)) : Bm w g a1 a2 n D U (rs.set j (some r)) (M.set j S) Z wr' where
  d := h.d.putN hg h.z2 (h.A2.notB (by decide))
  zl := fun k hk => Nat.lt_of_lt_of_le (h.zl k hk) hg.size
  z1 := h.z1
  z2 := h.z2
  zm := fun i q hi => by
    rw [List.getElem?_set] at hi
    split at hi
    · rename_i e
      split at hi
      · obtain rfl := Option.some.inj (Option.some.inj hi); exact hZ
      · cases hi
    · exact h.zm i q hi
  A1 := h.A1.grown hg (row_ne h.A1 h.A2 (by decide))
  A2 := hA
  rl := by rw [List.length_set]; exact h.rl
  ml := by rw [List.length_set]; exact h.ml
  at_ := fun i q hi => by
    rw [List.getElem?_set] at hi
    rw [List.getD_eq_getElem?_getD, List.getElem?_set]
    split at hi
    · rename_i e
      subst e
      rw [if_pos rfl, if_pos (by rw [h.ml]; exact hj)]
      split at hi
      · obtain rfl := Option.some.inj (Option.some.inj hi)
        exact ⟨hr2, hr.grown hg (hr.ne_cells h.A2)⟩
      · cases hi
    · rename_i e
      rw [if_neg e, ← List.getD_eq_getElem?_getD]
      exact ⟨(h.at_ i q hi).1, (h.at_ i q hi).2.grown hg ((h.at_ i q hi).2.ne_cells h.A2)⟩
  inj := fun i i' q hi hi' => by
    rw [List.getElem?_set] at hi hi'
    by_cases e : j = i
    · rw [if_pos e] at hi
      by_cases e' : j = i'
      · omega
      · rw [if_neg e'] at hi'
        split at hi
        · obtain rfl := Option.some.inj (Option.some.inj hi)
          exact absurd rfl (hn i' _ hi')
        · cases hi
    · rw [if_neg e] at hi
      by_cases e' : j = i'
      · rw [if_pos e'] at hi'
        split at hi'
        · obtain rfl := Option.some.inj (Option.some.inj hi')
          exact absurd rfl (hn i _ hi)
        · cases hi'
      · rw [if_neg e'] at hi'
        exact h.inj i i' q hi hi'
  b := below_grown h.b hg h.b.size h.h2
  h1 := h.h1
  h2 := h.h2
/-- one of the sets has one more -/
theorem Bm.more {r j : Nat} {S : List (List UInt8)} (h : Bm w g a1 a2 n D U rs M Z wr) (hj : rs[j]? = some (some r)) (hS : SSet wr' r S) (hg : wr.grownBy wr' (some r)) : Bm w g a1 a2 n D U rs (M.set j S) Z wr' where
  d := h.d.putN hg (h.zm j r hj) (h.at_ j r hj).2.notB
  zl := fun k hk => Nat.lt_of_lt_of_le (h.zl k hk) hg.size
  z1 := h.z1
  z2 := h.z2
  zm := h.zm
  A1 := h.A1.grown hg (fun e => (h.at_ j r hj).2.ne_cells h.A1 e.symm)
  A2 := h.A2.grown hg (fun e => (h.at_ j r hj).2.ne_cells h.A2 e.symm)
  rl := h.rl
  ml := by rw [List.length_set]; exact h.ml
  at_ := fun i q hi => by
    rw [List.getD_eq_getElem?_getD, List.getElem?_set]
    by_cases e : j = i
    · subst e
      obtain rfl := Option.some.inj (Option.some.inj (hi.symm.trans hj))
      rw [if_pos rfl, if_pos (by rw [h.ml]; have := (List.getElem?_eq_some_iff.1 hj).1; have := h.rl; omega)]
      exact ⟨(h.at_ j q hi).1, hS⟩
    · rw [if_neg e, ← List.getD_eq_getElem?_getD]
      exact ⟨(h.at_ i q hi).1, (h.at_ i q hi).2.grown hg (fun e' => e (h.inj j i r hj (e' ▸ hi)))⟩
  inj := h.inj
  b := below_grown h.b hg h.b.size (h.at_ j r hj).1
  h1 := h.h1
  h2 := h.h2
end
end Go.Proofs.Ytbagicjimfhmeaa.Cl
