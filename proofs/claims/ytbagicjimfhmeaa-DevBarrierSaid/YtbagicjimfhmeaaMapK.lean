/- Maps as lists of pairs, whatever the keys are: made, looked up, written. -/
import Derived.Maps.OwnOps
import Derived.Deep.WholeRow
import Derived.Test.YtbagicjimfhmeaaBase
set_option linter.unusedVariables false
set_option linter.unusedSimpArgs false
namespace Go.Proofs.Ytbagicjimfhmeaa.Cl
open Go Go.Proofs Go.RowKit

section
variable {κ : Type} {kv : κ → Value}
def entOf (kv : κ → Value) (p : κ × Value) : Value × Value := (kv p.1, p.2)
def entIs (e : MapEntry) : Value × Value := (e.key, e.val)
def MapK (kv : κ → Value) (w : World) (r : Nat) (L : List (κ × Value)) : Prop := ∃ es clock, w.heap[r]? = some (.map es clock) ∧ es.toList.map entIs = L.map (entOf kv)
theorem MapK.lt {w : World} {r : Nat} {L : List (κ × Value)} (h : MapK kv w r L) : r < w.heap.size := by
  obtain ⟨es, c, h, _⟩ := h
  exact (Array.getElem?_eq_some_iff.1 h).1
theorem MapK.heap {w w1 : World} {r : Nat} {L : List (κ × Value)} (h : MapK kv w r L) (e : w1.heap[r]? = w.heap[r]?) : MapK kv w1 r L := by
  obtain ⟨es, c, h, hL⟩ := h
  exact ⟨es, c, e.trans h, hL⟩
theorem MapK.below {w w1 : World} {r B : Nat} {L : List (κ × Value)} (h : MapK kv w r L) (hb : Below B w w1) (hr : r < B) : MapK kv w1 r L := h.heap (hb.block r hr)
theorem MapK.later {w w1 : World} {r : Nat} {L : List (κ × Value)} (h : MapK kv w r L) (hb : Below w.heap.size w w1) : MapK kv w1 r L := h.below hb h.lt
theorem MapK.grown {w w1 : World} {r g : Nat} {L : List (κ × Value)} (h : MapK kv w r L) (hb : w.grownBy w1 (some g)) (hr : r ≠ g) : MapK kv w1 r L :=
  h.heap (hb.block r h.lt fun e => hr (Option.some.inj e))
theorem MapK.new (w : World) : MapK kv (w.alloc (.map #[] 0)) w.heap.size [] := ⟨#[], 0, heap_alloc_last w _, rfl⟩
/-- a map is no row -/
theorem MapK.ne_cells {w : World} {r g : Nat} {L : List (κ × Value)} {cs : Array Value} {t : TypeId} {fr : Nat × Nat} (h : MapK kv w r L) (hg : w.heap[g]? = some (.cells cs t fr)) : r ≠ g := by
  rintro rfl
  obtain ⟨es, c, h, _⟩ := h
  rw [hg] at h
  cases h
end
section
variable {κ : Type} [DecidableEq κ]
def kfind (x : κ) : List (κ × Value) → Option Value
  | [] => none
  | p :: r => if p.1 = x then some p.2 else kfind x r
def kput (x : κ) (v : Value) : List (κ × Value) → List (κ × Value)
  | [] => [(x, v)]
  | p :: r => if p.1 = x then (x, v) :: r else p :: kput x v r
def kdel (x : κ) : List (κ × Value) → List (κ × Value)
  | [] => []
  | p :: r => if p.1 = x then r else p :: kdel x r
def kidx (x : κ) : List (κ × Value) → Nat → Option (Nat × Value)
  | [], _ => none
  | p :: r, i => if p.1 = x then some (i, p.2) else kidx x r (i + 1)
theorem kfind_kput (x : κ) (v : Value) (y : κ) : ∀ L : List (κ × Value), kfind y (kput x v L) = if x = y then some v else kfind y L
  | [] => by simp [kput, kfind]
  | p :: r => by
    unfold kput
    by_cases h : p.1 = x
    · rw [if_pos h]
      by_cases hy : x = y
      · simp [kfind, hy]
      · simp [kfind, hy, h]
    · rw [if_neg h]
      unfold kfind
      rw [kfind_kput x v y r]
      by_cases hp : p.1 = y
      · rw [if_pos hp, if_pos hp, if_neg (by rintro rfl; exact h hp)]
      · rw [if_neg hp, if_neg hp]
theorem kidx_none (x : κ) (u : Value) : ∀ (L : List (κ × Value)) (i : Nat), kidx x L i = none → kfind x L = none ∧ kput x u L = L ++ [(x, u)]
  | [], i, _ => ⟨rfl, rfl⟩
  | p :: r, i, h => by
    unfold kidx at h
    by_cases hp : p.1 = x
    · rw [if_pos hp] at h; cases h
    · rw [if_neg hp] at h
      obtain ⟨h1, h2⟩ := kidx_none x u r (i + 1) h
      exact ⟨by unfold kfind; rw [if_neg hp]; exact h1, by unfold kput; rw [if_neg hp, h2]; rfl⟩
theorem kidx_some (x : κ) (u : Value) : ∀ (L : List (κ × Value)) (i j : Nat) (v : Value), kidx x L i = some (j, v) → ∃ m, j = i + m ∧ kfind x L = some v ∧ (L[m]?).map Prod.fst = some x ∧ kput x u L = L.modify m (fun _ => (x, u)) ∧ kdel x L = L.eraseIdx m
  | [], i, j, v, h => by simp [kidx] at h
  | p :: r, i, j, v, h => by
    unfold kidx at h
    by_cases hp : p.1 = x
    · rw [if_pos hp] at h
      simp only [Option.some.injEq, Prod.mk.injEq] at h
      exact ⟨0, h.1.symm, by unfold kfind; rw [if_pos hp, h.2], by simp [hp], by unfold kput; rw [if_pos hp]; rfl, by unfold kdel; rw [if_pos hp]; rfl⟩
    · rw [if_neg hp] at h
      obtain ⟨m, h1, h2, h3, h4, h5⟩ := kidx_some x u r (i + 1) j v h
      exact ⟨m + 1, by omega, by unfold kfind; rw [if_neg hp]; exact h2, by simpa using h3, by unfold kput; rw [if_neg hp, h4, List.modify_succ_cons], by unfold kdel; rw [if_neg hp, h5]; rfl⟩
theorem kidx_none' (x : κ) : ∀ (L : List (κ × Value)) (i : Nat), kidx x L i = none → kdel x L = L
  | [], i, _ => rfl
  | p :: r, i, h => by
    unfold kidx at h
    by_cases hp : p.1 = x
    · rw [if_pos hp] at h; cases h
    · rw [if_neg hp] at h
      unfold kdel
      rw [if_neg hp, kidx_none' x r (i + 1) h]

/-- what the keys of a type are good for -/
structure KeyLaw (P : Program) (k : TypeId) (kv : κ → Value) : Prop where
  check : ∀ (b : Bool) (x : κ) (w : World), (Instr.checkKey b 10000 k (kv x)).run P w = .ok () w
  find : ∀ (x : κ) (es : List MapEntry) (L : List (κ × Value)) (w : World), es.map entIs = L.map (entOf kv) → (Instr.findKey k (kv x) es).run P w = .ok (kidx x L 0) w
  bits : ∀ x : κ, Instr.sameBits 10000 (kv x) (kv x) = true
section
variable {kv : κ → Value}
variable {P : Program} {t k e : TypeId}
theorem run_lookupK {z : Value} (ht : P.underlying t = some (.map k e)) (hk : KeyLaw P k kv) (hz : ∀ w, (zeroValue e).run P w = .ok z w) (c : Bool) {w : World} {r : Nat} {L : List (κ × Value)} (h : MapK kv w r L) (x : κ) :
    (Instr.lookup t (.map (some r)) (kv x) c).run P w = .ok (if c then .tuple #[(kfind x L).getD z, .bool (kfind x L).isSome] else (kfind x L).getD z) w := by
  obtain ⟨es, clock, hb, hL⟩ := h
  have hf := hk.find x es.toList L w hL
  cases hi : kidx x L 0 with
  | none =>
    rw [hi] at hf
    have := (kidx_none x z L 0 hi).1
    simp [Instr.lookup, run_underlying ht, MapKept.run_getObj_map hb, hk.check, hf, hz, Result.andThen, this]
  | some jv =>
    obtain ⟨j, v⟩ := jv
    rw [hi] at hf
    obtain ⟨m, _, h2, _⟩ := kidx_some x z L 0 j v hi
    simp [Instr.lookup, run_underlying ht, MapKept.run_getObj_map hb, hk.check, hf, hz, Result.andThen, h2]
theorem run_lookup_nil {z : Value} (ht : P.underlying t = some (.map k e)) (hk : KeyLaw P k kv) (hz : ∀ w, (zeroValue e).run P w = .ok z w) (c : Bool) (w : World) (x : κ) :
    (Instr.lookup t (.map none) (kv x) c).run P w = .ok (if c then .tuple #[z, .bool false] else z) w := by
  have hf := hk.find x [] [] w rfl
  simp only [kidx] at hf
  simp [Instr.lookup, run_underlying ht, hk.check, hf, hz, Result.andThen]
theorem run_mapUpdateK (ht : P.underlying t = some (.map k e)) (hk : KeyLaw P k kv) {w : World} {r : Nat} {L : List (κ × Value)} (h : MapK kv w r L) (x : κ) (u : Value) :
    ∃ w', (Instr.mapUpdate t (.map (some r)) (kv x) u).run P w = .ok () w' ∧ MapK kv w' r (kput x u L) ∧ w.grownBy w' (some r) ∧ w'.heap.size = w.heap.size := by
  have hlt := h.lt
  obtain ⟨es, clock, hb, hL⟩ := h
  have hset : ∀ o, (setObj r o).run P w = .ok () { w with heap := w.heap.setIfInBounds r o } := fun o => by simp [setObj, Sem.run, hb]
  have hgr : ∀ o, w.grownBy { w with heap := w.heap.setIfInBounds r o } (some r) := fun o => ⟨rfl, rfl, rfl, by simp, fun i hi hne => by
    show (w.heap.setIfInBounds r o)[i]? = _
    rw [Array.getElem?_setIfInBounds_ne (fun e => hne (by rw [e]))]⟩
  have hf := hk.find x es.toList L w hL
  cases hi : kidx x L 0 with
  | none =>
    rw [hi] at hf
    have hp := (kidx_none x u L 0 hi).2
    refine ⟨{ w with heap := w.heap.setIfInBounds r (.map (es.push { key := kv x, val := u, born := clock }) (clock + 1)) }, by simp [Instr.mapUpdate, run_underlying ht, MapKept.run_getObj_map hb, hk.check, hf, Result.andThen, hset],
      ⟨es.push { key := kv x, val := u, born := clock }, clock + 1, ?_, ?_⟩, hgr _, by simp⟩
    · show (w.heap.setIfInBounds r _)[r]? = _
      simp [hlt]
    · rw [Array.toList_push, List.map_append, hL, hp, List.map_append]
      rfl
  | some jv =>
    obtain ⟨j, v⟩ := jv
    rw [hi] at hf
    obtain ⟨m, hm, h2, h3, h4, _⟩ := kidx_some x u L 0 j v hi
    obtain rfl : j = m := by omega
    have hkey : ((es[j]?).map (·.key)).getD (kv x) = kv x := by
      have e1 : ((es.toList.map entIs)[j]?).map Prod.fst = some (kv x) := by
        rw [hL, List.getElem?_map]
        cases hq : L[j]? with
        | none => rw [hq] at h3; cases h3
        | some p => rw [hq] at h3; simp only [Option.map_some, Option.some.injEq] at h3; simp [entOf, h3]
      rw [List.getElem?_map, Array.getElem?_toList] at e1
      cases hq : es[j]? with
      | none => rfl
      | some en => rw [hq] at e1; simpa [entIs] using e1
    have hstay : (Instr.keyThatStays (kv x) (kv x)).run P w = .ok (kv x) w := by
      unfold Instr.keyThatStays
      rw [if_pos (hk.bits x)]
      rfl
    refine ⟨_, by simp only [Instr.mapUpdate, Sem.run_bind, run_underlying ht, MapKept.run_getObj_map hb, hk.check, hf, Result.andThen_ok, Sem.run_pure, hkey, hstay, hset]; rfl, ⟨es.modify j fun e => { key := kv x, val := u, born := e.born }, clock, ?_, ?_⟩, hgr _, by simp⟩
    · show (w.heap.setIfInBounds r _)[r]? = _
      simp [hlt]
    · rw [Array.toList_modify, h4]
      apply List.ext_getElem?
      intro i
      have hi : (es.toList.map entIs)[i]? = (L.map (entOf kv))[i]? := by rw [hL]
      simp only [List.getElem?_map, List.getElem?_modify] at hi ⊢
      by_cases hji : j = i
      · subst hji
        simp only [if_true]
        cases hq : L[j]? with
        | none => rw [hq] at hi; cases hq2 : es.toList[j]? with
          | none => rfl
          | some en => rw [hq2] at hi; cases hi
        | some p => rw [hq] at hi; cases hq2 : es.toList[j]? with
          | none => rw [hq2] at hi; cases hi
          | some en => simp [entIs, entOf]
      · simp only [if_neg hji]
        simpa using hi
end
end

/-! ### keys of one cell -/
theorem keyLaw_now {κ : Type} [DecidableEq κ] {P : Program} {k : TypeId} {kv : κ → Value} {d : TypeDesc} (hk : P.underlying k = some d) (hd : (match d with | .interface _ | .array _ _ | .struct _ => false | _ => true) = true) (h : ∀ x y, Instr.sameNow d (kv x) (kv y) = some (decide (x = y))) (hb : ∀ x : κ, Instr.sameBits 10000 (kv x) (kv x) = true) : KeyLaw P k kv where
  check b x w := by
    rw [Instr.checkKey, Sem.run_bind, run_underlying hk w]
    cases d <;> simp_all <;> cases kv x <;> rfl
  find x es L w hL := by
    have hf : ∀ (es : List MapEntry) (L : List (κ × Value)) (i : Nat), es.map entIs = L.map (entOf kv) → Instr.findNow d (kv x) es i = some (kidx x L i) := by
      intro es
      induction es with
      | nil =>
        intro L i h
        obtain rfl : L = [] := by simpa using h.symm
        rfl
      | cons e es ih =>
        intro L i hL
        obtain _ | ⟨p, L⟩ := L
        · simp at hL
        · rw [List.map_cons, List.map_cons, List.cons.injEq] at hL
          obtain ⟨h1, h2⟩ := hL
          have hk : e.key = kv p.1 := congrArg Prod.fst h1
          have hv : e.val = p.2 := congrArg Prod.snd h1
          rw [Instr.findNow, hk, h, hv]
          unfold kidx
          by_cases hp : p.1 = x
          · rw [if_pos hp, decide_eq_true hp.symm]
          · rw [if_neg hp, decide_eq_false (fun e => hp e.symm)]
            exact ih L (i + 1) h2
    simp [Instr.findKey, run_underlying hk, hf es L 0 hL]
  bits := hb
theorem keyLaw_int {P : Program} {k : TypeId} (hk : P.underlying k = some (.int .i64)) : KeyLaw P k (fun x : Int => .int .i64 x) :=
  keyLaw_now hk rfl (fun x y => by simp [Instr.sameNow, BEq.beq]) (fun x => by simp [Instr.sameBits])
theorem keyLaw_str {P : Program} {k : TypeId} (hk : P.underlying k = some .string) : KeyLaw P k (fun b : List UInt8 => .string ⟨b.toArray⟩) :=
  keyLaw_now hk rfl (fun x y => by
    simp only [Instr.sameNow]
    congr 1
    rw [Bool.eq_iff_iff]
    show (ByteArray.beq _ _ = true) ↔ _
    unfold ByteArray.beq
    simp) (fun x => by
    simp only [Instr.sameBits]
    show ByteArray.beq _ _ = true
    unfold ByteArray.beq
    simp)
end Go.Proofs.Ytbagicjimfhmeaa.Cl
