/- Maps keyed by ints, as lists of pairs: made, looked up, written. Whatever the elements are. -/
import Derived.Maps.OwnOps
import Derived.Deep.WholeRow
import Derived.Test.YtgeiafijibgdhaaBase
set_option linter.unusedVariables false
set_option linter.unusedSimpArgs false
namespace Go.Proofs.Ytgeiafijibgdhaa.Cl
open Go Go.Proofs Go.RowKit

def mfind : List (Int × Value) → Int → Option Value
  | [], _ => none
  | p :: r, x => if p.1 = x then some p.2 else mfind r x
def mput : List (Int × Value) → Int → Value → List (Int × Value)
  | [], x, v => [(x, v)]
  | p :: r, x, v => if p.1 = x then (x, v) :: r else p :: mput r x v
theorem mfind_mput (x : Int) (v : Value) (y : Int) : ∀ L : List (Int × Value), mfind (mput L x v) y = if x = y then some v else mfind L y
  | [] => by simp [mput, mfind]
  | p :: r => by
    unfold mput
    by_cases h : p.1 = x
    · rw [if_pos h]
      by_cases hy : x = y
      · simp [mfind, hy]
      · simp [mfind, hy, h]
    · rw [if_neg h]
      unfold mfind
      rw [mfind_mput x v y r]
      by_cases hp : p.1 = y
      · rw [if_pos hp, if_pos hp, if_neg (by omega)]
      · rw [if_neg hp, if_neg hp]
def asPair (e : MapEntry) : Value × Value := (e.key, e.val)
def asKey (p : Int × Value) : Value × Value := (.int .i64 p.1, p.2)
def MapAt (w : World) (r : Nat) (L : List (Int × Value)) : Prop := ∃ es clock, w.heap[r]? = some (.map es clock) ∧ es.toList.map asPair = L.map asKey
theorem MapAt.lt {w : World} {r : Nat} {L : List (Int × Value)} (h : MapAt w r L) : r < w.heap.size := by
  obtain ⟨es, c, h, _⟩ := h
  exact (Array.getElem?_eq_some_iff.1 h).1
theorem MapAt.below {w w1 : World} {r B : Nat} {L : List (Int × Value)} (h : MapAt w r L) (hb : Below B w w1) (hr : r < B) : MapAt w1 r L := by
  obtain ⟨es, c, h, hL⟩ := h
  exact ⟨es, c, (hb.block r hr).trans h, hL⟩
theorem MapAt.later {w w1 : World} {r : Nat} {L : List (Int × Value)} (h : MapAt w r L) (hb : Below w.heap.size w w1) : MapAt w1 r L := h.below hb h.lt
theorem MapAt.grown {w w1 : World} {r g : Nat} {L : List (Int × Value)} (h : MapAt w r L) (hb : w.grownBy w1 (some g)) (hr : r ≠ g) : MapAt w1 r L := by
  have hlt := h.lt
  obtain ⟨es, c, h, hL⟩ := h
  exact ⟨es, c, (hb.block r hlt (fun e => hr (Option.some.inj e))).trans h, hL⟩
theorem map_new (w : World) : MapAt (w.alloc (.map #[] 0)) w.heap.size [] := ⟨#[], 0, heap_alloc_last w _, rfl⟩

theorem findNow_int (x : Int) (u : Value) : ∀ (es : List MapEntry) (L : List (Int × Value)) (i : Nat), es.map asPair = L.map asKey →
    (mfind L x = none ∧ Instr.findNow (.int .i64) (.int .i64 x) es i = some none ∧ mput L x u = L ++ [(x, u)]) ∨
    (∃ j v, mfind L x = some v ∧ Instr.findNow (.int .i64) (.int .i64 x) es i = some (some (i + j, v)) ∧ (es[j]?).map (·.key) = some (.int .i64 x) ∧
      ∀ b : MapEntry → Nat, (es.modify j fun e => { key := .int .i64 x, val := u, born := b e }).map asPair = (mput L x u).map asKey)
  | [], L, i, h => by
    obtain rfl : L = [] := by simpa using h.symm
    exact .inl ⟨rfl, rfl, rfl⟩
  | e :: es, L, i, h => by
    obtain _ | ⟨p, L⟩ := L
    · simp at h
    · rw [List.map_cons, List.map_cons, List.cons.injEq] at h
      obtain ⟨h1, h2⟩ := h
      have hk : e.key = .int .i64 p.1 := congrArg Prod.fst h1
      have hv : e.val = p.2 := congrArg Prod.snd h1
      by_cases hp : p.1 = x
      · refine .inr ⟨0, p.2, by simp [mfind, hp], ?_, by simp [hk, hp], fun b => ?_⟩
        · simp [Instr.findNow, Instr.sameNow, hk, hp, hv]
        · simp [mput, hp, asPair, asKey, h2]
      · have hx : (x == p.1) = false := beq_eq_false_iff_ne.2 (fun h => hp h.symm)
        have hn : Instr.findNow (.int .i64) (.int .i64 x) (e :: es) i = Instr.findNow (.int .i64) (.int .i64 x) es (i + 1) := by
          rw [Instr.findNow]
          simp only [Instr.sameNow, hk, hx, if_true]
        have hf : mfind (p :: L) x = mfind L x := by simp [mfind, hp]
        have hm : mput (p :: L) x u = p :: mput L x u := by simp [mput, hp]
        rw [hn, hf, hm]
        rcases findNow_int x u es L (i + 1) h2 with ⟨a, b, c⟩ | ⟨j, v, a, b, c, d⟩
        · exact .inl ⟨a, b, by rw [c]; rfl⟩
        · refine .inr ⟨j + 1, v, a, by rw [b]; congr 3; omega, by simpa using c, fun f => ?_⟩
          rw [List.modify_succ_cons, List.map_cons, List.map_cons, d f, h1]
theorem check_int {P : Program} {k : TypeId} (hk : P.underlying k = some (.int .i64)) (b : Bool) (v : Value) (w : World) : (Instr.checkKey b 10000 k v).run P w = .ok () w := by
  rw [Instr.checkKey, Sem.run_bind, run_underlying hk w]
  cases v <;> rfl
theorem run_lookup_at {P : Program} {t k e : TypeId} {z : Value} (ht : P.underlying t = some (.map k e)) (hk : P.underlying k = some (.int .i64)) (hz : ∀ w, (zeroValue e).run P w = .ok z w) (c : Bool) {w : World} {r : Nat} {L : List (Int × Value)} (h : MapAt w r L) (x : Int) :
    (Instr.lookup t (.map (some r)) (.int .i64 x) c).run P w = .ok (if c then .tuple #[(mfind L x).getD z, .bool (mfind L x).isSome] else (mfind L x).getD z) w := by
  obtain ⟨es, clock, hb, hL⟩ := h
  rcases findNow_int x z es.toList L 0 hL with ⟨a, b, _⟩ | ⟨j, v, a, b, _, _⟩
  · simp [Instr.lookup, run_underlying ht, MapKept.run_getObj_map hb, check_int hk, Instr.findKey, run_underlying hk, b, hz, Result.andThen, a]
  · simp [Instr.lookup, run_underlying ht, MapKept.run_getObj_map hb, check_int hk, Instr.findKey, run_underlying hk, b, hz, Result.andThen, a]
theorem run_mapUpdate_at {P : Program} {t k e : TypeId} (ht : P.underlying t = some (.map k e)) (hk : P.underlying k = some (.int .i64)) {w : World} {r : Nat} {L : List (Int × Value)} (h : MapAt w r L) (x : Int) (u : Value) :
    ∃ w', (Instr.mapUpdate t (.map (some r)) (.int .i64 x) u).run P w = .ok () w' ∧ MapAt w' r (mput L x u) ∧ w.grownBy w' (some r) ∧ w'.heap.size = w.heap.size := by
  have hlt := h.lt
  obtain ⟨es, clock, hb, hL⟩ := h
  have hset : ∀ o, (setObj r o).run P w = .ok () { w with heap := w.heap.setIfInBounds r o } := fun o => by simp [setObj, Sem.run, hb]
  have hgr : ∀ o, w.grownBy { w with heap := w.heap.setIfInBounds r o } (some r) := fun o => ⟨rfl, rfl, rfl, by simp, fun i hi hne => by
    show (w.heap.setIfInBounds r o)[i]? = _
    rw [Array.getElem?_setIfInBounds_ne (fun e => hne (by rw [e]))]⟩
  rcases findNow_int x u es.toList L 0 hL with ⟨a, b, c⟩ | ⟨j, v, a, b, c, d⟩
  · refine ⟨{ w with heap := w.heap.setIfInBounds r (.map (es.push { key := .int .i64 x, val := u, born := clock }) (clock + 1)) }, by simp [Instr.mapUpdate, run_underlying ht, MapKept.run_getObj_map hb, check_int hk, Instr.findKey, run_underlying hk, b, Result.andThen, hset],
      ⟨es.push { key := .int .i64 x, val := u, born := clock }, clock + 1, ?_, ?_⟩, hgr _, by simp⟩
    · show (w.heap.setIfInBounds r _)[r]? = _
      simp [hlt]
    · rw [Array.toList_push, List.map_append, hL, c, List.map_append]
      rfl
  · have hkey : ((es[j]?).map (·.key)).getD (.int .i64 x) = .int .i64 x := by
      have : (es.toList[j]?).map (·.key) = (es[j]?).map (·.key) := by simp
      rw [← this, c]
      rfl
    have hstay : (Instr.keyThatStays (.int .i64 x) (.int .i64 x)).run P w = .ok (.int .i64 x) w := by
      unfold Instr.keyThatStays
      rw [if_pos (by simp [Instr.sameBits])]
      rfl
    refine ⟨_, by simp only [Instr.mapUpdate, Sem.run_bind, run_underlying ht, MapKept.run_getObj_map hb, check_int hk, Instr.findKey, run_underlying hk, b, Result.andThen_ok, Sem.run_pure, Nat.zero_add, hkey, hstay, hset]; rfl, ⟨es.modify j fun e => { key := .int .i64 x, val := u, born := e.born }, clock, ?_, ?_⟩, hgr _, by simp⟩
    · show (w.heap.setIfInBounds r _)[r]? = _
      simp [hlt]
    · rw [Array.toList_modify]
      exact d (fun e => e.born)

/-! ### sets: the elements that were ever written are all true -/
def asSet (S : List Int) : List (Int × Value) → Prop := fun L => ∀ x, mfind L x = if x ∈ S then some (.bool true) else none
def SetAt (w : World) (r : Nat) (S : List Int) : Prop := ∃ L, MapAt w r L ∧ asSet S L
theorem SetAt.lt {w : World} {r : Nat} {S : List Int} (h : SetAt w r S) : r < w.heap.size := h.elim fun _ h => h.1.lt
theorem SetAt.below {w w1 : World} {r B : Nat} {S : List Int} (h : SetAt w r S) (hb : Below B w w1) (hr : r < B) : SetAt w1 r S := h.elim fun L h => ⟨L, h.1.below hb hr, h.2⟩
theorem SetAt.later {w w1 : World} {r : Nat} {S : List Int} (h : SetAt w r S) (hb : Below w.heap.size w w1) : SetAt w1 r S := h.below hb h.lt
theorem SetAt.grown {w w1 : World} {r g : Nat} {S : List Int} (h : SetAt w r S) (hb : w.grownBy w1 (some g)) (hr : r ≠ g) : SetAt w1 r S := h.elim fun L h => ⟨L, h.1.grown hb hr, h.2⟩
theorem set_new (w : World) : SetAt (w.alloc (.map #[] 0)) w.heap.size [] := ⟨[], map_new w, fun x => rfl⟩
theorem run_in_set {P : Program} {t k e : TypeId} (ht : P.underlying t = some (.map k e)) (hk : P.underlying k = some (.int .i64)) (hz : ∀ w, (zeroValue e).run P w = .ok (.bool false) w) {w : World} {r : Nat} {S : List Int} (h : SetAt w r S) (x : Int) :
    (Instr.lookup t (.map (some r)) (.int .i64 x) false).run P w = .ok (.bool (decide (x ∈ S))) w := by
  obtain ⟨L, h, hs⟩ := h
  rw [run_lookup_at ht hk hz false h x, hs x]
  by_cases hx : x ∈ S <;> simp [hx]
theorem run_to_set {P : Program} {t k e : TypeId} (ht : P.underlying t = some (.map k e)) (hk : P.underlying k = some (.int .i64)) {w : World} {r : Nat} {S : List Int} (h : SetAt w r S) (x : Int) :
    ∃ w', (Instr.mapUpdate t (.map (some r)) (.int .i64 x) (.bool true)).run P w = .ok () w' ∧ SetAt w' r (x :: S) ∧ w.grownBy w' (some r) ∧ w'.heap.size = w.heap.size := by
  obtain ⟨L, h, hs⟩ := h
  obtain ⟨w', h1, h2, h3, h4⟩ := run_mapUpdate_at ht hk h x (.bool true)
  refine ⟨w', h1, ⟨_, h2, fun y => ?_⟩, h3, h4⟩
  rw [mfind_mput, hs y]
  by_cases hxy : x = y
  · subst hxy; simp
  · rw [if_neg hxy]
    have : (y ∈ x :: S) ↔ y ∈ S := by simp [show y ≠ x from fun h => hxy h.symm]
    by_cases hy : y ∈ S <;> simp [hy, this]
end Go.Proofs.Ytgeiafijibgdhaa.Cl
