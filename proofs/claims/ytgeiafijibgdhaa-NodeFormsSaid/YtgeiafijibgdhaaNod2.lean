/- node: nodes, the blocks that one names. -/
import Derived.Test.YtgeiafijibgdhaaNod1
import Derived.Test.YtgeiafijibgdhaaRelyT
import Derived.ArgAppend
set_option linter.unusedVariables false
set_option linter.unusedSimpArgs false
namespace Go.Proofs.Ytgeiafijibgdhaa.Cl
open Go Go.Proofs Go.RowKit Fl Rely

def ints (l : List Int) : List Value := l.map (Value.int .i64)
def IOwn (w : World) (B : Nat) (v : Value) (l : List Int) : Prop := w.ownsRow B 3 1 v l.length (ints l)
theorem IOwn.below {w w1 : World} {B : Nat} {v : Value} {l : List Int} (h : IOwn w B v l) (hb : Below w.heap.size w w1) : IOwn w1 B v l := own_below h hb
theorem IOwn.rd {w : World} {B : Nat} {v : Value} {l : List Int} (h : IOwn w B v l) : Rd w v (ints l) := Rd.of_own h
theorem IOwn.ge {w : World} {B : Nat} {v : Value} {l : List Int} (h : IOwn w B v l) : ∀ k, v.ownBlock = some k → B ≤ k := own_ge h
theorem one_rd {w : World} {g : Nat} {x : Value} (h : w.cell? ⟨g, 0, none⟩ = some x) : Rd w (.slice (some ⟨g, 0, none⟩) 1 1) [x] :=
  ⟨some ⟨g, 0, none⟩, 1, rfl, Nat.le_refl _, by omega, fun j hj => ⟨_, rfl, by
    obtain rfl : j = 0 := by simpa using hj
    exact h⟩, fun h => by cases h⟩
def One (n : Int) (v : Value) (W : World) : Prop := ∃ g, v = .slice (some ⟨g, 0, none⟩) 1 1 ∧ W.cell? ⟨g, 0, none⟩ = some (.int .i64 n)
theorem persist_one (n : Int) : RelyT.Persist (One n) := fun v W W' ⟨g, h1, h2⟩ hb => ⟨g, h1, cell_later hb h2⟩

theorem infoInt : (Try.prog.info? 3).map (fun i => (i.zero, i.size, i.bytes)) = some (some (.int .i64 0), 1, 8) := by kernel_rfl
/-- a node -/
structure Nd where
  g : Int
  k : Int
  z : Int
  d0 : Int
  d1 : Int
  d2 : Int
  d3 : Int
  x : Int
  s : List UInt8
def ndA (n : Nd) : Array Value := #[.int .u32 n.g, .int .i64 n.k, .int .i64 n.z, .int .i64 n.d0, .int .i64 n.d1, .int .i64 n.d2, .int .i64 n.d3, .int .i64 n.x, str n.s]
abbrev ndV (n : Nd) : Value := .agg (ndA n)
def I64 (n : Int) : Prop := -9223372036854775808 ≤ n ∧ n ≤ 9223372036854775807
structure NdOk (n : Nd) : Prop where
  g : 0 ≤ n.g ∧ n.g < 4294967296
  k : I64 n.k
  z : I64 n.z
  d0 : I64 n.d0
  d1 : I64 n.d1
  d2 : I64 n.d2
  d3 : I64 n.d3
  x : I64 n.x
  s : n.s.length ≤ 1000000
abbrev NdAt (w : World) (g : Nat) (n : Nd) : Prop := RowAt w g 25 (ndA n)
def placesN (n : Nd) : List Int := [n.d0, n.d1, n.d2, n.d3, n.x]

set_option maxRecDepth 100000 in
set_option maxHeartbeats 2000000 in
theorem places_any (n : Nd) (w : World) :
    Calls Try.prog 45 #[ndV n] w fun e w' => ∃ u, e = .returned u ∧ IOwn w' w.heap.size u (placesN n) ∧ Below w.heap.size w w' := by
  unfold placesN
  obtain ⟨g, k, z, d0, d1, d2, d3, x, s⟩ := n
  go_enter Try.func45, Try.ntmps45
  go_wp2_with (refine wp_want rfl fun K hK => ?_; refine wp_rw_box (P := Try.prog) (t := 25) (ndA ⟨g, k, z, d0, d1, d2, d3, x, s⟩) rfl rfl ?_)
  intro w1 A1 b1 s1
  refine hK _ _ ?_
  clear hK K
  have hdr : Below w.heap.size w w1.drew := b1.drew
  have c4 := fun y : RelyT.Lat w1.drew => cell_later y.2 (A1.drew.cell 7 (.int .i64 x) rfl)
  have A1d := A1.drew
  go_wp2_with fail
  refine RelyT.wp_region_rely 5 (by kernel_rfl) (by kernel_rfl) ?_
  simp only [List.take_succ_cons, List.take_zero]
  generalize World.drew w1 = wd at *
  repeat (first
    | (refine RelyT.wpR_step0 ?_ ?_ (fun K hK => ?_); rfl; rfl; go_simp; refine hK _ ?_; clear hK K))
  refine RelyT.wpR_fresh (One x) 7 rfl rfl rfl rfl (of_decide_eq_true rfl) (persist_one _) (fun y => ?_) ?_
  · go_simp
    exact ⟨below_new _ _, _, rfl, RowAt.cell (RowAt.new _ _ _) 0 _ rfl⟩
  refine RelyT.wpR_nil fun x => ?_
  obtain ⟨we, web⟩ := x
  simp only [RelyT.close, List.drop_succ_cons, List.drop_zero]
  rintro v7 ⟨h, rfl, hh⟩
  simp only [Act.put, List.setIfInBounds_toArray, List.set_cons_zero, List.set_cons_succ]
  obtain ⟨i3, hi3, hz3, hs3, hb3⟩ := info_parts infoInt
  have A2 := A1d.later web
  refine wpList_append_grows we rfl _ _ 39 rfl 3 i3 (.int .i64 0) 1 8 Try.underlying39 hi3 hz3 hs3 hb3 rfl (by decide) (some ⟨w.heap.size, 3, none⟩) 4 4 [.int .i64 d0, .int .i64 d1, .int .i64 d2, .int .i64 d3] rfl (fun h => by cases h) rfl (fun b hb j u hj => ?_) ⟨h, 0, none⟩ 1 1 [.int .i64 x] rfl rfl (fun j u hj => ?_) (by simp [Value.oneCell']) (by decide) (by decide) (by decide) ?_
  · obtain rfl := Option.some.inj hb
    rw [Addr.add_mid]
    refine A2.cell (3 + j) u ?_
    have hj4 : j < 4 := (List.getElem?_eq_some_iff.1 hj).1
    match j, hj4 with
    | 0, _ => exact hj
    | 1, _ => exact hj
    | 2, _ => exact hj
    | 3, _ => exact hj
  · have hj1 : j < 1 := (List.getElem?_eq_some_iff.1 hj).1
    obtain rfl : j = 0 := by omega
    rw [Addr.add_zero', hh]
    exact hj
  intro v8 w8 O8 g8
  have W : Below w.heap.size w w8 := (hdr.trans (web.mono hdr.size)).grown g8 (Nat.le_trans hdr.size web.size) (fun k hk => by cases hk)
  go_wp2_with fail
  go_ret
  exact ⟨_, rfl, own_mono (xs := ints [d0, d1, d2, d3, x]) O8 (Nat.le_trans hdr.size web.size), W⟩

def plOk (l : List Int) : Prop := ∀ j (h : j < l.length), l[j] = -1 ∨ ((1 ≤ l[j] ∧ l[j] < 200) ∧ l[j] ∉ l.take j)
def bareP (l : List Int) : Prop := ∀ p ∈ l, p = -1
instance (l : List Int) : Decidable (plOk l) := by unfold plOk; infer_instance
instance (l : List Int) : Decidable (bareP l) := by unfold bareP; infer_instance
theorem io_shape {w : World} {B n : Nat} {v : Value} {l : List Int} (h : IOwn w B v l) (hn : l.length = n) (h0 : 0 < n) : ∃ g cap, v = .slice (some ⟨g, 0, none⟩) n cap ∧ B ≤ g ∧ g < w.heap.size ∧ n ≤ cap ∧ cap ≤ 9223372036854775807 := by
  subst hn
  exact own_shape h h0
theorem IOwn.at_ {w : World} {B g n c : Nat} {l : List Int} (h : IOwn w B (.slice (some ⟨g, 0, none⟩) n c) l) (k : Nat) (hk : k < l.length) : w.cell? ⟨g, k, none⟩ = some (.int .i64 l[k]) := by
  obtain ⟨a, c', e, g1, g2, g3, _⟩ := h.rd
  injection e with e1 _ _
  subst e1
  obtain ⟨ad, e2, hc⟩ := g3 k (by simpa [ints] using hk)
  obtain rfl := Option.some.inj e2
  rw [Addr.add_lit, Nat.zero_add] at hc
  rw [hc]
  simp [ints]
set_option maxRecDepth 100000 in
set_option maxHeartbeats 2000000 in
theorem bare_any (n : Nd) (w : World) :
    Calls Try.prog 51 #[ndV n] w fun e w' => e = .returned (.bool (decide (bareP (placesN n)))) ∧ Below w.heap.size w w' := by
  have hP := fun w => places_any n w
  have hl5 : (placesN n).length = 5 := rfl
  generalize placesN n = l at *
  go_enter Try.func51, Try.ntmps51
  go_wp2_with (refine wp_want rfl fun K hK => ?_; refine wp_rw_box (P := Try.prog) (t := 25) (ndA n) rfl rfl ?_)
  intro w1 A1 b1 s1
  refine hK _ _ ?_
  clear hK K
  go_wp2_with (refine wp_want rfl fun K hK => ?_; refine wp_rw_load A1 Try.underlying25 rfl (by kernel_rfl) rfl rfl ?_; refine hK _ _ ?_; clear hK K)
  refine (hP _).mono ?_
  rintro e w2 ⟨u, rfl, O2, b2⟩
  have W := b1.trans (b2.mono b1.size)
  obtain ⟨h, c, rfl, k1, k2, k3, k4⟩ := io_shape O2 hl5 (by decide)
  go_wp2_with fail
  go_loopw [4, 8] (fun _ i wr => ∃ k : Nat, k ≤ 5 ∧ i = .int .i64 k ∧ (∀ p ∈ l.take k, p = -1) ∧ Below w2.heap.size w2 wr) (fun _ i _ => 5 - (intOf i).toNat)
  case atStart => exact ⟨0, by decide, rfl, by simp, Below.refl _ _⟩
  case round =>
    obtain ⟨k, hk, rfl, hs, hb⟩ := hrel
    by_cases hlt : k < 5
    · have hlI : (k : Int) < 5 := by omega
      have hc := cell_later hb (O2.at_ k (by omega))
      have hts := Lib.hid (take_snoc l k (by omega))
      have hmem : l[k]'(by omega) ∈ l := List.getElem_mem _
      generalize l[k]'(by omega) = p at *
      have hs := Lib.hid hs
      by_cases hp : p = -1
      · have hp1 : (p != -1) = false := by rw [bne_eq_false_iff_eq]; exact hp
        have Hp := Lib.hid hp
        clear hp hP
        go_wp2_with fail
        go_roundw
        case rel =>
          refine ⟨k + 1, by omega, by go_num, fun q hq => ?_, hb⟩
          rw [hts.out] at hq
          rcases List.mem_append.1 hq with h | h
          · exact hs.out q h
          · rw [List.mem_singleton.1 h]; exact Hp.out
        case measure => simp only [intOf]; omega
      · have hp1 : (p != -1) = true := by rw [bne_iff_ne]; exact hp
        have hno := Lib.hid (show decide (bareP l) = false from decide_eq_false fun h => hp (h p hmem))
        clear hp hP
        go_wp2_with fail
        go_ret
        exact ⟨ret_bool hno.out.symm, W.trans (hb.mono W.size)⟩
    · have hlI : ¬ (k : Int) < 5 := by omega
      have hyes := Lib.hid (show decide (bareP l) = true from decide_eq_true fun p hp => hs p (by rw [List.take_of_length_le (by omega)]; exact hp))
      clear hs hP
      go_wp2_with fail
      go_ret
      exact ⟨ret_bool hyes.out.symm, W.trans (hb.mono W.size)⟩
def fileN (n : Nd) : Prop := plOk (placesN n) ∧ 0 ≤ n.z ∧ n.z ≤ 1120 ∧ n.s = []
instance (n : Nd) : Decidable (fileN n) := by unfold fileN; infer_instance
end Go.Proofs.Ytgeiafijibgdhaa.Cl
