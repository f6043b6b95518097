/- Arguments opened: deeds, texts. -/
import Derived.Test.YtbagicjimfhmeaaDevH
import Derived.Deep.Slices
import Derived.Deep.SlicePairs
import Derived.WideShapes
import Derived.OpenShut
import Derived.ChangeSame
set_option linter.unusedVariables false
set_option linter.unusedSimpArgs false
namespace Go.Proofs.Ytbagicjimfhmeaa.Cl
open Go Go.Proofs Go.RowKit Fl Go.ChangeShapes Go.WideShapes Go.Deep

structure Deed where
  kind : Int
  region : Int
  i : Int
  n : Int
  bv : Value
  b : List UInt8
  kv : Value
  keep : List (List UInt8)
instance : Inhabited Deed := ⟨⟨0, 0, 0, 0, .slice none 0 0, [], .slice none 0 0, []⟩⟩
def RdTx (w : World) (v : Value) (L : List (List UInt8)) : Prop := ∃ sl : List Value, Rd w v sl ∧ sl.length = L.length ∧ ∀ j (h : j < sl.length) (h' : j < L.length), Rd w sl[j] (bs L[j])
theorem RdTx.below {w w1 : World} {v : Value} {L : List (List UInt8)} (h : RdTx w v L) (hb : Below w.heap.size w w1) : RdTx w1 v L := by
  obtain ⟨sl, h1, h2, h3⟩ := h
  exact ⟨sl, h1.below hb, h2, fun j h h' => (h3 j h h').below hb⟩
theorem LBL.of_rd {w : World} {v : Value} {L : List (List UInt8)} (h : RdTx w v L) : LBL w.heap.size w v L := by
  obtain ⟨sl, h1, h2, h3⟩ := h
  exact ⟨sl, h2, fun w' k => ⟨h1.below k.1, fun j h h' => (h3 j h h').below k.1⟩⟩
structure DeedAt (w : World) (ad : Addr) (o : Deed) : Prop where
  c0 : w.cell? (ad.add 0) = some (.int .i64 o.kind)
  c1 : w.cell? (ad.add 1) = some (.int .i64 o.region)
  c2 : w.cell? (ad.add 2) = some (.int .i64 o.i)
  c3 : w.cell? (ad.add 3) = some (.int .i64 o.n)
  c4 : w.cell? (ad.add 4) = some o.bv
  c5 : w.cell? (ad.add 5) = some o.kv
  rb : Rd w o.bv (bs o.b)
  rk : RdTx w o.kv o.keep
  wk : -9223372036854775808 ≤ o.kind ∧ o.kind ≤ 9223372036854775807
  wr : -9223372036854775808 ≤ o.region ∧ o.region ≤ 9223372036854775807
  wi : -9223372036854775808 ≤ o.i ∧ o.i ≤ 9223372036854775807
  wn : -9223372036854775808 ≤ o.n ∧ o.n ≤ 9223372036854775807
theorem DeedAt.below {w w1 : World} {ad : Addr} {o : Deed} (h : DeedAt w ad o) (hb : Below w.heap.size w w1) : DeedAt w1 ad o :=
  ⟨cell_later hb h.c0, cell_later hb h.c1, cell_later hb h.c2, cell_later hb h.c3, cell_later hb h.c4, cell_later hb h.c5, h.rb.below hb, h.rk.below hb, h.wk, h.wr, h.wi, h.wn⟩
def RdDs (w : World) (v : Value) (l : List Deed) : Prop := ∃ a cap, v = .slice a l.length cap ∧ l.length ≤ cap ∧ cap ≤ 9223372036854775807 ∧ ∀ j (h : j < l.length), ∃ ad, a = some ad ∧ DeedAt w (ad.add (j * 6)) l[j]
theorem RdDs.below {w w1 : World} {v : Value} {l : List Deed} (h : RdDs w v l) (hb : Below w.heap.size w w1) : RdDs w1 v l := by
  obtain ⟨a, cap, rfl, h1, h2, h3⟩ := h
  refine ⟨a, cap, rfl, h1, h2, fun j hj => ?_⟩
  obtain ⟨ad, ha, hc⟩ := h3 j hj
  exact ⟨ad, ha, hc.below hb⟩
theorem trod_struct6N {H : Type} {enc : TypeId × Value → H} {P : Program} {w : World} {base : Nat} {spare : Nat → Bool} {held : Bool} {t : TypeId} {f0 f1 f2 f3 f4 f5 : Field} {fuel : Nat} {cs : List Value} {x : DataW H × List MemPlace} (ht : P.underlying t = some (.struct #[f0, f1, f2, f3, f4, f5])) (h : DataW.trod enc P w base spare held fuel t cs = some x) :
    ∃ y0 y1 y2 y3 y4 y5 n, cs.length = P.cellsOf t ∧ DataW.trod enc P w base spare held n f0.type ((cs.drop f0.offset).take (P.cellsOf f0.type)) = some y0 ∧ DataW.trod enc P w base spare held n f1.type ((cs.drop f1.offset).take (P.cellsOf f1.type)) = some y1 ∧ DataW.trod enc P w base spare held n f2.type ((cs.drop f2.offset).take (P.cellsOf f2.type)) = some y2 ∧
      DataW.trod enc P w base spare held n f3.type ((cs.drop f3.offset).take (P.cellsOf f3.type)) = some y3 ∧ DataW.trod enc P w base spare held n f4.type ((cs.drop f4.offset).take (P.cellsOf f4.type)) = some y4 ∧ DataW.trod enc P w base spare held n f5.type ((cs.drop f5.offset).take (P.cellsOf f5.type)) = some y5 := by
  obtain ⟨xs, n, _, rfl, hl, hlen, hf⟩ := DataW.trod_struct ht h
  match xs, hlen with
  | [y0, y1, y2, y3, y4, y5], _ => exact ⟨y0, y1, y2, y3, y4, y5, n, hl, by simpa using hf 0 f0 rfl, by simpa using hf 1 f1 rfl, by simpa using hf 2 f2 rfl, by simpa using hf 3 f3 rfl, by simpa using hf 4 f4 rfl, by simpa using hf 5 f5 rfl⟩
theorem list6 {l : List Value} (hl : l.length = 6) : ∃ c0 c1 c2 c3 c4 c5, l = [c0, c1, c2, c3, c4, c5] := by
  match l, hl with
  | [a, b, c, d, e, f], _ => exact ⟨a, b, c, d, e, f, rfl⟩
theorem cellsU8d : Try.prog.cellsOf 5 = 1 := by kernel_rfl
theorem cellsIntD : Try.prog.cellsOf 3 = 1 := by kernel_rfl
theorem cellsTx : Try.prog.cellsOf 34 = 1 := by kernel_rfl
theorem cellsTxs : Try.prog.cellsOf 23 = 1 := by kernel_rfl
theorem cellsDeed : Try.prog.cellsOf 37 = 6 := by kernel_rfl
theorem trod_bytesD {H : Type} {enc : TypeId × Value → H} {W : World} {base fuel : Nat} {held : Bool} {cs : List Value} {x : DataW H × List MemPlace}
    (hf : DataW.trod enc Try.prog W base (fun _ => true) held fuel 34 cs = some x) : ∃ c, cs = [c] ∧ ∃ l : List UInt8, Rd W c (bs l) := by
  rcases ChangeShapes.open_ints Try.underlying34 Try.underlying5 cellsU8d hf with ⟨hcs, _⟩ | ⟨x, l, c, zs, hcs, _, hl, hm, hz, _, hcell, hwz⟩
  · exact ⟨_, hcs, [], Rd.nil W⟩
  · obtain ⟨l', _, h⟩ := rd_of_row (w := W) (.inr ⟨x, rfl, hl, hm, by simpa using hz, hcell, hwz⟩)
    exact ⟨_, hcs, l', h⟩
theorem rd_of_cellsD {w : World} {x : Addr} {cap : Nat} (sl : List Value) (h : ∀ j (hj : j < sl.length), w.cell? (x.add j) = some sl[j]) (h1 : sl.length ≤ cap) (h2 : cap ≤ 9223372036854775807) : Rd w (.slice (some x) sl.length cap) sl :=
  ⟨some x, cap, rfl, h1, h2, fun j hj => ⟨x, rfl, h j hj⟩, fun e => by cases e⟩
theorem trod_texts {H : Type} {enc : TypeId × Value → H} {W : World} {base fuel : Nat} {held : Bool} {cs : List Value} {x : DataW H × List MemPlace}
    (hf : DataW.trod enc Try.prog W base (fun _ => true) held fuel 23 cs = some x) : ∃ c, cs = [c] ∧ ∃ L : List (List UInt8), RdTx W c L := by
  rcases open_slice Try.underlying23 hf with ⟨hcs, _⟩ | ⟨x, len, cap, m, n, D, Pl, hcs, _, hl, hm, hmm, _, hi⟩
  · exact ⟨_, hcs, [], [], Rd.nil _, rfl, fun j h => by simp at h⟩
  · refine ⟨_, hcs, ?_⟩
    have each : ∀ i, i < len → ∃ y : Value × List UInt8, W.cell? (x.add i) = some y.1 ∧ Rd W y.1 (bs y.2) := fun i h => by
      obtain ⟨cs', h1, h2⟩ := hi i (by rw [hmm]; split <;> omega)
      rw [cellsTx] at h1
      obtain ⟨_, hlen, hcell⟩ := World.cells?_some h1
      obtain ⟨c, rfl, l, hl1⟩ := trod_bytesD h2
      refine ⟨(c, l), ?_, hl1⟩
      have := hcell 0 (by simp)
      rwa [Addr.add_zero', Nat.mul_one] at this
    obtain ⟨q, hq⟩ := choose_lt each
    have hql : ((List.range len).map fun i => (q i).1).length = len := by simp
    refine ⟨(List.range len).map fun i => (q i).2, (List.range len).map fun i => (q i).1, ?_, by simp, fun j hj hj' => ?_⟩
    · have := rd_of_cellsD (w := W) (x := x) (cap := cap) ((List.range len).map fun i => (q i).1) (fun j hj => by
        rw [hql] at hj
        rw [List.getElem_map, List.getElem_range]
        exact (hq j hj).1) (by rw [hql]; exact hl) (by unfold maxLen at hm; omega)
      rwa [hql] at this
    · rw [hql] at hj
      rw [List.getElem_map, List.getElem_map, List.getElem_range]
      exact (hq j hj).2
set_option maxRecDepth 100000 in
/-- a slice of texts that came in -/
theorem open_textsD {H : Type} {enc : TypeId × Value → H} {W : World} {v : Value} {d : DataW H} {ps : List MemPlace} {b0 : Nat}
    (hval : Value.okWide Try.prog W .any b0 23 v) (hd : DataW.Trod enc Try.prog W 0 (fun _ => true) true 23 v d ps) :
    ∃ L : List (List UInt8), RdTx W v L := by
  obtain ⟨a, len, cap, rfl⟩ := WideShapes.okWide_slice Try.underlying23 hval
  obtain ⟨fuel, hf⟩ := hd
  obtain ⟨c, hc, L, hL⟩ := trod_texts hf
  simp only [Value.cells, List.cons.injEq, and_true] at hc
  exact ⟨L, hc ▸ hL⟩
set_option maxRecDepth 100000 in
set_option maxHeartbeats 2000000 in
/-- a slice of deeds that came in -/
theorem open_deeds {H : Type} {enc : TypeId × Value → H} {W : World} {v : Value} {d : DataW H} {ps : List MemPlace} {b0 : Nat}
    (hval : Value.okWide Try.prog W .any b0 22 v) (hd : DataW.Trod enc Try.prog W 0 (fun _ => true) true 22 v d ps) :
    ∃ l : List Deed, RdDs W v l := by
  obtain ⟨a, len, cap, rfl⟩ := WideShapes.okWide_slice Try.underlying22 hval
  obtain ⟨fuel, hf⟩ := hd
  rcases open_slice Try.underlying22 hf with ⟨hcs, _⟩ | ⟨x, len', cap', m, n, D, Pl, hcs, _, hl, hm, hmm, _, hi⟩
  · simp [Value.cells] at hcs
    obtain ⟨rfl, rfl, rfl⟩ := hcs
    exact ⟨[], none, 0, rfl, Nat.le_refl _, by decide, fun j h => by simp at h⟩
  · simp [Value.cells] at hcs
    obtain ⟨rfl, rfl, rfl⟩ := hcs
    have each : ∀ i, i < len → ∃ o : Deed, DeedAt W (x.add (i * 6)) o := fun i h => by
      obtain ⟨cs', h1, h2⟩ := hi i (by rw [hmm]; split <;> omega)
      rw [cellsDeed] at h1
      obtain ⟨_, hlen, hcell⟩ := World.cells?_some h1
      obtain ⟨y0, y1, y2, y3, y4, y5, m, hl', g0, g1, g2, g3, g4, g5⟩ := trod_struct6N Try.underlying37 h2
      rw [cellsDeed] at hl'
      obtain ⟨c0, c1, c2, c3, c4, c5, rfl⟩ := list6 hl'
      rw [cellsIntD] at g0 g1 g2 g3
      rw [cellsTx] at g4
      rw [cellsTxs] at g5
      simp only [List.drop_succ_cons, List.drop_zero, List.take_succ_cons, List.take_zero] at g0 g1 g2 g3 g4 g5
      obtain ⟨z0, hz0, _, w0⟩ := DataW.trod_int Try.underlying3 g0
      obtain ⟨z1, hz1, _, w1⟩ := DataW.trod_int Try.underlying3 g1
      obtain ⟨z2, hz2, _, w2⟩ := DataW.trod_int Try.underlying3 g2
      obtain ⟨z3, hz3, _, w3⟩ := DataW.trod_int Try.underlying3 g3
      obtain ⟨u4, hu4, l4, r4⟩ := trod_bytesD g4
      obtain ⟨u5, hu5, l5, r5⟩ := trod_texts g5
      obtain rfl := List.singleton_inj.1 hz0
      obtain rfl := List.singleton_inj.1 hz1
      obtain rfl := List.singleton_inj.1 hz2
      obtain rfl := List.singleton_inj.1 hz3
      obtain rfl := List.singleton_inj.1 hu4
      obtain rfl := List.singleton_inj.1 hu5
      exact ⟨⟨z0, z1, z2, z3, _, l4, _, l5⟩, hcell 0 (by simp), hcell 1 (by simp), hcell 2 (by simp), hcell 3 (by simp), hcell 4 (by simp), hcell 5 (by simp), r4, r5, wf_i64 w0, wf_i64 w1, wf_i64 w2, wf_i64 w3⟩
    obtain ⟨q, hq⟩ := choose_lt each
    have hql : ((List.range len).map q).length = len := by simp
    refine ⟨(List.range len).map q, some x, cap, by rw [hql], by rw [hql]; exact hl, by unfold maxLen at hm; omega, fun j hj => ⟨x, rfl, ?_⟩⟩
    rw [hql] at hj
    rw [List.getElem_map, List.getElem_range]
    exact hq j hj
end Go.Proofs.Ytbagicjimfhmeaa.Cl
