/- Two arrays of texts beside one device (for DevKeeps, DevBarrier). -/
import Derived.Test.YtbagicjimfhmeaaDevQ
import Derived.Test.YtbagicjimfhmeaaDevZ
import Derived.Test.YtbagicjimfhmeaaRowP
set_option linter.unusedVariables false
set_option linter.unusedSimpArgs false
namespace Go.Proofs.Ytbagicjimfhmeaa.Cl
open Go Go.Proofs Go.RowKit Fl

def sv (b : List UInt8) : Value := .string ⟨b.toArray⟩
def svs (L : List (List UInt8)) : Array Value := (L.map sv).toArray
theorem svs_size (L : List (List UInt8)) : (svs L).size = L.length := by simp [svs]
theorem infoG_zero : (Try.prog.info? 30).map (·.zero) = some (some (.agg (svs (List.replicate 8 [])))) := by kernel_rfl
theorem infoG_size : (Try.prog.info? 30).map (·.size) = some 8 := by kernel_rfl
theorem infoG4_size : (Try.prog.info? 29).map (·.size) = some 4 := by kernel_rfl
theorem infoSt_size : (Try.prog.info? 9).map (·.size) = some 1 := by kernel_rfl
theorem svs_all (L : List (List UInt8)) : ∀ u ∈ L.map sv, u.oneCell' = true := by
  intro u hu
  obtain ⟨b, _, rfl⟩ := List.mem_map.1 hu
  rfl
theorem svs_set (L : List (List UInt8)) (i : Nat) (b : List UInt8) (hi : i < L.length) : patch (svs L) i [sv b] = svs (L.set i b) := by
  rw [patch_one _ _ _ (by rw [svs_size]; exact hi)]
  apply Array.ext'
  simp [svs, List.map_set]
def part (r : Nat) (L : List (List UInt8)) : List Value := ((L.drop (r * 4)).take 4).map sv
theorem part_len (r : Nat) (hr : r < 2) (L : List (List UInt8)) (hL : L.length = 8) : (part r L).length = 4 := by
  simp only [part, List.length_map, List.length_take, List.length_drop]
  omega
theorem part_at (r : Nat) (hr : r < 2) (L : List (List UInt8)) (hL : L.length = 8) : ∀ i u, (part r L)[i]? = some u → (svs L)[r * 4 + i]? = some u := by
  intro i u h
  simp only [part, List.getElem?_map, List.getElem?_take, List.getElem?_drop] at h
  simp only [svs, List.getElem?_toArray, List.getElem?_map]
  split at h
  · exact h
  · cases h
theorem svs_lay (r : Nat) (hr : r < 2) (L U : List (List UInt8)) (hL : L.length = 8) (hU : U.length = 8) : patch (svs U) (r * 4) (part r L) = svs (lay r L U) := by
  have hp := part_len r hr L hL
  apply Array.ext'
  simp only [patch, hp]
  simp [svs, lay, part, List.map_append, List.map_take, List.map_drop]

def Zk (a1 a2 : Nat) (k : Nat) : Prop := k = a1 ∨ k = a2
structure Kp (w : World) (g a1 a2 n : Nat) (D : Dv) (L U : List (List UInt8)) (wr : World) : Prop where
  d : DZ w.heap.size (Zk a1 a2) wr g n D
  A : RowAt wr a1 30 (svs L)
  A' : RowAt wr a2 30 (svs U)
  b : Below w.heap.size w wr
  h1 : w.heap.size ≤ a1
  h2 : w.heap.size ≤ a2
  ne : a1 ≠ a2
section
variable {w : World} {g a1 a2 n : Nat} {D : Dv} {L U : List (List UInt8)} {wr wr' : World}
theorem Kp.size (h : Kp w g a1 a2 n D L U wr) : w.heap.size ≤ wr.heap.size := h.b.size
theorem Kp.z (h : Kp w g a1 a2 n D L U wr) : ∀ k, Zk a1 a2 k → k < wr.heap.size := by
  rintro k (rfl | rfl)
  · exact h.A.lt
  · exact h.A'.lt
theorem Kp.below (h : Kp w g a1 a2 n D L U wr) (hb : Below wr.heap.size wr wr') : Kp w g a1 a2 n D L U wr' :=
  ⟨h.d.below hb, h.A.later hb, h.A'.later hb, h.b.trans (hb.mono h.b.size), h.h1, h.h2, h.ne⟩
theorem Kp.call {m : Nat} {D' : Dv} (h : Kp w g a1 a2 n D L U wr) (hd : DZ w.heap.size (Zk a1 a2) wr' g m D') (hc : CZ w.heap.size (Zk a1 a2) wr wr') : Kp w g a1 a2 m D' L U wr' :=
  ⟨hd, hc.row h.A (.inl rfl), hc.row h.A' (.inr rfl), h.b.trans hc.1.1, h.h1, h.h2, h.ne⟩
theorem Kp.put1 {L' : List (List UInt8)} (h : Kp w g a1 a2 n D L U wr) (hA : RowAt wr' a1 30 (svs L')) (hg : wr.grownBy wr' (some a1)) : Kp w g a1 a2 n D L' U wr' :=
  ⟨h.d.put hg (.inl rfl) h.A (by decide), hA, h.A'.grown hg (fun e => h.ne e.symm), below_grown h.b hg h.b.size h.h1, h.h1, h.h2, h.ne⟩
theorem Kp.put2 {U' : List (List UInt8)} (h : Kp w g a1 a2 n D L U wr) (hA : RowAt wr' a2 30 (svs U')) (hg : wr.grownBy wr' (some a2)) : Kp w g a1 a2 n D L U' wr' :=
  ⟨h.d.put hg (.inr rfl) h.A' (by decide), h.A.grown hg h.ne, hA, below_grown h.b hg h.b.size h.h2, h.h1, h.h2, h.ne⟩
theorem Kp.write (h : Kp w g a1 a2 n D L U wr) (hn : n ≤ 100000) (r i : Int) (v : Value) (b : List UInt8) (hv : Byt wr v b) :
    Calls Try.prog 16 #[ptr g, .int .i64 r, .int .i64 i, v] wr fun e w' => e = .returned (.bool (inB D r i && decide (b.length = 64))) ∧ Kp w g a1 a2 (n + 1) (writeZ D r i b) L U w' ∧ Keep8 wr w' := by
  refine (zWrite h.d h.z h.size hn r i v b (hv.lb _)).mono ?_
  rintro e w' ⟨rfl, h1, h2⟩
  exact ⟨rfl, h.call h1 h2, h2.1.2⟩
theorem Kp.barrier (h : Kp w g a1 a2 n D L U wr) (hn : n ≤ 100000) (r : Int) :
    Calls Try.prog 15 #[ptr g, .int .i64 r] wr fun e w' => e = .returned (.bool (inB D r 0)) ∧ Kp w g a1 a2 (n + 1) (barrierZ D r) L U w' ∧ Keep8 wr w' := by
  refine (zBarrier h.d h.z h.size hn r).mono ?_
  rintro e w' ⟨rfl, h1, h2⟩
  exact ⟨rfl, h.call h1 h2, h2.1.2⟩
end
theorem fill_step (j : Nat) (hj : j < 8) (Z : List UInt8) : (List.replicate j Z ++ List.replicate (8 - j) []).set j Z = List.replicate (j + 1) Z ++ List.replicate (8 - (j + 1)) [] := by
  match j, hj with
  | 0, _ => rfl
  | 1, _ => rfl
  | 2, _ => rfl
  | 3, _ => rfl
  | 4, _ => rfl
  | 5, _ => rfl
  | 6, _ => rfl
  | 7, _ => rfl
theorem fill_len (j : Nat) (hj : j ≤ 8) (Z : List UInt8) : (List.replicate j Z ++ List.replicate (8 - j) ([] : List UInt8)).length = 8 := by simp; omega
end Go.Proofs.Ytbagicjimfhmeaa.Cl
