/- dev: traces replayed; a device beside blocks that stay as they are. -/
import Derived.Test.YtbagicjimfhmeaaDevM
set_option linter.unusedVariables false
set_option linter.unusedSimpArgs false
namespace Go.Proofs.Ytbagicjimfhmeaa.Cl
open Go Go.Proofs Go.RowKit Fl

/-! ### plain -/
def tIdx (t : List UInt8) : Nat := (t.getD 0 0).toNat * 256 + (t.getD 1 0).toNat
def rstep (R : Rg) (t : List UInt8) : Rg := if t.length = 2 then barrierR R else writeR R (tIdx t) (t.drop 2)
def tOk (t : List UInt8) : Prop := t = [255, 255] ∨ ∃ i b, i < 4 ∧ b.length = 64 ∧ t = traceB i b
def RInv (R : Rg) : Prop := R.trace.foldl rstep (newR 4) = R ∧ ∀ t ∈ R.trace, tOk t
theorem traceB_idx (i : Nat) (b : List UInt8) (hi : i < 4) : tIdx (traceB i b) = i ∧ (traceB i b).drop 2 = b := by
  refine ⟨?_, rfl⟩
  show (UInt8.ofNat (i / 256 ^ 1)).toNat * 256 + (UInt8.ofNat (i / 256 ^ 0)).toNat = i
  rw [UInt8.toNat_ofNat', UInt8.toNat_ofNat']
  omega
theorem rstep_write (R : Rg) (i : Nat) (b : List UInt8) (hi : i < 4) (hb : b.length = 64) : rstep R (traceB i b) = writeR R i b := by
  unfold rstep
  rw [if_neg (by rw [traceB_length, hb]; omega), (traceB_idx i b hi).1, (traceB_idx i b hi).2]
theorem RInv.write {R : Rg} (h : RInv R) (i : Nat) (b : List UInt8) (hi : i < 4) (hb : b.length = 64) : RInv (writeR R i b) := by
  refine ⟨?_, fun t ht => ?_⟩
  · show (R.trace ++ [traceB i b]).foldl rstep (newR 4) = _
    rw [List.foldl_append, h.1]
    exact rstep_write R i b hi hb
  · rcases List.mem_append.1 ht with ht | ht
    · exact h.2 t ht
    · exact .inr ⟨i, b, hi, hb, List.mem_singleton.1 ht⟩
theorem RInv.barrier {R : Rg} (h : RInv R) : RInv (barrierR R) := by
  refine ⟨?_, fun t ht => ?_⟩
  · show (R.trace ++ [[255, 255]]).foldl rstep (newR 4) = _
    rw [List.foldl_append, h.1]
    rfl
  · rcases List.mem_append.1 ht with ht | ht
    · exact h.2 t ht
    · exact .inl (List.mem_singleton.1 ht)
def TInv (D : Dv) : Prop := ∀ R ∈ D.1, RInv R
theorem TInv.writeZ {D : Dv} (h : TInv D) (r i : Int) (b : List UInt8) (hi : i < 4) : TInv (Cl.writeZ D r i b) := by
  unfold Cl.writeZ
  split
  · rename_i hh
    rw [Bool.and_eq_true, decide_eq_true_eq] at hh
    obtain ⟨x, y, _, rfl, rfl, _⟩ := inB_nat hh.1
    unfold writeD
    split
    · exact h
    · rename_i R hR
      split
      · exact h
      · intro Q hQ
        rcases mem_set_elim hQ with rfl | hQ
        · exact (h R (List.mem_of_getElem? hR)).write _ _ (by omega) hh.2
        · exact h Q hQ
  · exact h
theorem TInv.barrierZ {D : Dv} (h : TInv D) (r : Int) : TInv (Cl.barrierZ D r) := by
  unfold Cl.barrierZ
  split
  · unfold barrierD
    split
    · exact h
    · rename_i R hR
      split
      · exact h
      · intro Q hQ
        rcases mem_set_elim hQ with rfl | hQ
        · exact (h R (List.mem_of_getElem? hR)).barrier
        · exact h Q hQ
  · exact h
theorem TInv.new : TInv (newD [4, 4]) := by
  intro R hR
  simp only [newD, List.map_cons, List.map_nil, List.mem_cons, List.not_mem_nil, or_false, or_self] at hR
  subst hR
  exact ⟨rfl, fun t ht => by simp [newR] at ht⟩
def rep (T : List (List UInt8)) (j : Nat) : Rg := (T.take j).foldl rstep (newR 4)
theorem rep_succ (T : List (List UInt8)) (j : Nat) (h : j < T.length) : rep T (j + 1) = rstep (rep T j) T[j] := by
  unfold rep
  rw [take_snoc T j h, List.foldl_append]
  rfl
theorem rep_len (T : List (List UInt8)) (j : Nat) : (rep T j).seen.length = 4 := by
  unfold rep
  generalize T.take j = L
  have : ∀ (L : List (List UInt8)) (R : Rg), R.seen.length = 4 → (L.foldl rstep R).seen.length = 4 := by
    intro L
    induction L with
    | nil => intro R h; exact h
    | cons t L ih =>
      intro R h
      refine ih _ ?_
      unfold rstep
      split
      · exact h
      · simp [writeR, h]
  exact this L _ (by simp [newR])
def ES (R0 R1 : Rg) (r j : Nat) : Dv := if r = 0 then ([rep R0.trace j, newR 4], -1) else ([R0, rep R1.trace j], -1)
theorem ES_next (R0 R1 : Rg) (h0 : RInv R0) : ES R0 R1 0 R0.trace.length = ES R0 R1 1 0 := by
  unfold ES rep
  rw [if_pos rfl, if_neg (by decide), List.take_of_length_le (Nat.le_refl _), h0.1]
  rfl
theorem ES_end (R0 R1 : Rg) (h1 : RInv R1) : ES R0 R1 1 R1.trace.length = ([R0, R1], -1) := by
  unfold ES rep
  rw [if_neg (by decide), List.take_of_length_le (Nat.le_refl _), h1.1]
def trOf (R0 R1 : Rg) (r : Nat) : List (List UInt8) := if r = 0 then R0.trace else R1.trace
theorem ES_in (R0 R1 : Rg) (r j i : Nat) (hr : r < 2) (hi : i < 4) : inB (ES R0 R1 r j) r i = true := by
  match r, hr with
  | 0, _ =>
    unfold ES inB
    simp [rep_len, hi]
    omega
  | 1, _ =>
    unfold ES inB
    simp [rep_len, hi]
    omega
theorem ES_barrier (R0 R1 : Rg) (r j : Nat) (hr : r < 2) (hj : j < (trOf R0 R1 r).length) (ht : (trOf R0 R1 r)[j].length = 2) : barrierZ (ES R0 R1 r j) r = ES R0 R1 r (j + 1) := by
  have hin : inB (ES R0 R1 r j) r 0 = true := ES_in R0 R1 r j 0 hr (by decide)
  unfold barrierZ
  rw [if_pos hin]
  match r, hr with
  | 0, _ =>
    have e := rep_succ R0.trace j hj
    have ht : R0.trace[j].length = 2 := ht
    unfold rstep at e
    rw [if_pos ht] at e
    unfold ES
    rw [if_pos rfl, if_pos rfl, e]
    rfl
  | 1, _ =>
    have e := rep_succ R1.trace j hj
    have ht : R1.trace[j].length = 2 := ht
    unfold rstep at e
    rw [if_pos ht] at e
    unfold ES
    rw [if_neg (by decide), if_neg (by decide), e]
    rfl
theorem ES_write (R0 R1 : Rg) (r j : Nat) (hr : r < 2) (hj : j < (trOf R0 R1 r).length) (ht : (trOf R0 R1 r)[j].length ≠ 2) (ok : tOk (trOf R0 R1 r)[j]) :
    (trOf R0 R1 r)[j].length = 66 ∧ tIdx (trOf R0 R1 r)[j] < 4 ∧ ((trOf R0 R1 r)[j].drop 2).length = 64 ∧ inB (ES R0 R1 r j) r (tIdx (trOf R0 R1 r)[j]) = true ∧ writeZ (ES R0 R1 r j) r (tIdx (trOf R0 R1 r)[j]) ((trOf R0 R1 r)[j].drop 2) = ES R0 R1 r (j + 1) := by
  rcases ok with ok | ⟨i, b, hi, hb, ok⟩
  · rw [ok] at ht
    exact absurd rfl ht
  · have e66 : (trOf R0 R1 r)[j].length = 66 := by rw [ok, traceB_length, hb]
    have ei : tIdx (trOf R0 R1 r)[j] = i := by rw [ok]; exact (traceB_idx i b hi).1
    have eb : (trOf R0 R1 r)[j].drop 2 = b := by rw [ok]; exact (traceB_idx i b hi).2
    have hin : inB (ES R0 R1 r j) r i = true := ES_in R0 R1 r j i hr hi
    rw [ei, eb]
    refine ⟨e66, hi, hb, hin, ?_⟩
    unfold writeZ
    rw [hin, hb]
    rcases (show r = 0 ∨ r = 1 by omega) with rfl | rfl
    · have e := rep_succ R0.trace j hj
      have ok : R0.trace[j] = traceB i b := ok
      rw [ok, rstep_write _ i b hi hb] at e
      have hE : ∀ q, ES R0 R1 0 q = ([rep R0.trace q, newR 4], -1) := fun q => rfl
      rw [hE, hE, e]
      simp [writeD]
    · have e := rep_succ R1.trace j hj
      have ok : R1.trace[j] = traceB i b := ok
      rw [ok, rstep_write _ i b hi hb] at e
      have hE : ∀ q, ES R0 R1 1 q = ([R0, rep R1.trace q], -1) := fun q => rfl
      rw [hE, hE, e]
      simp [writeD]
/-! ### a device beside blocks that stay -/
def DZ (B : Nat) (Z : Nat → Prop) (w : World) (g n : Nat) (D : Dv) : Prop := DOk n D ∧ ∃ F, DevRep w g F D ∧ ∀ k, F k → B ≤ k ∧ k < w.heap.size ∧ ¬ Z k
def CZ (B : Nat) (Z : Nat → Prop) (w w' : World) : Prop := Ch B w w' ∧ Frm (fun k => ¬ Z k) w w'
theorem CZ.trans {B : Nat} {Z : Nat → Prop} {w w1 w2 : World} (h : CZ B Z w w1) (k : CZ B Z w1 w2) : CZ B Z w w2 := ⟨h.1.trans k.1, h.2.step k.2 fun j _ hj => hj⟩
theorem CZ.refl (B : Nat) (Z : Nat → Prop) (w : World) : CZ B Z w w := ⟨Ch.refl _ _, Frm.refl _ _⟩
theorem CZ.of_below {B : Nat} (Z : Nat → Prop) {w w' : World} (h : Below w.heap.size w w') (hB : B ≤ w.heap.size) : CZ B Z w w' := ⟨Ch.of_below h hB, Frm.of_below _ h⟩
theorem DZ.at_ {B Z w g n D} (h : DZ B Z w g n D) : DAt B w g n D := by
  obtain ⟨o, F, a, b⟩ := h
  exact ⟨o, F, a, fun k hk => (b k hk).1⟩
theorem DZ.mono {B Z w g n m D} (h : DZ B Z w g n D) (hm : n ≤ m) : DZ B Z w g m D := ⟨h.1.mono hm, h.2⟩
theorem DZ.below {B Z w w' g n D} (h : DZ B Z w g n D) (hb : Below w.heap.size w w') : DZ B Z w' g n D := by
  obtain ⟨o, F, a, b⟩ := h
  exact ⟨o, F, a.below hb, fun k hk => ⟨(b k hk).1, Nat.lt_of_lt_of_le (b k hk).2.1 hb.size, (b k hk).2.2⟩⟩
theorem step_z {B : Nat} {Z F F' : Nat → Prop} {w w' : World} {g n : Nat} {D : Dv} (o : DOk n D) (k1 : DevRep w' g F' D) (k2 : Step F w w' F') (hF : ∀ k, F k → B ≤ k ∧ k < w.heap.size ∧ ¬ Z k) (hZ : ∀ k, Z k → k < w.heap.size) (hB : B ≤ w.heap.size) : DZ B Z w' g n D ∧ CZ B Z w w' := by
  have sc := step_ch k2 (fun k hk => (hF k hk).1) hB
  refine ⟨⟨o, fun j => F' j ∧ j < w'.heap.size, k1.mono fun j hj h => ⟨h, hj⟩, fun j hj => ⟨sc.2 j hj.1, hj.2, fun hz => ?_⟩⟩, sc.1, k2.1.mono fun j _ hj => (hF j hj).2.2⟩
  rcases k2.2.2 j hj.1 with h | h
  · exact (hF j h).2.2 hz
  · have := hZ j hz
    omega
theorem zWrite {B : Nat} {Z : Nat → Prop} {w : World} {g n : Nat} {D : Dv} (h : DZ B Z w g n D) (hZ : ∀ k, Z k → k < w.heap.size) (hB : B ≤ w.heap.size) (hn : n ≤ 100000) (r i : Int) (v : Value) (b : List UInt8) (hv : LB B w v b) :
    Calls Try.prog 16 #[ptr g, .int .i64 r, .int .i64 i, v] w fun e w' => e = .returned (.bool (inB D r i && decide (b.length = 64))) ∧ DZ B Z w' g (n + 1) (writeZ D r i b) ∧ CZ B Z w w' := by
  obtain ⟨o, F, a, c⟩ := id h
  refine (writeZ_any a o hn r i v b (hv.lasts (fun k hk => (c k hk).1) hB)).mono ?_
  rintro e' w' ⟨rfl, F', k1, k2⟩
  exact ⟨rfl, step_z (o.writeZ r i b) k1 k2 c hZ hB⟩
theorem zBarrier {B : Nat} {Z : Nat → Prop} {w : World} {g n : Nat} {D : Dv} (h : DZ B Z w g n D) (hZ : ∀ k, Z k → k < w.heap.size) (hB : B ≤ w.heap.size) (hn : n ≤ 100000) (r : Int) :
    Calls Try.prog 15 #[ptr g, .int .i64 r] w fun e w' => e = .returned (.bool (inB D r 0)) ∧ DZ B Z w' g (n + 1) (barrierZ D r) ∧ CZ B Z w w' := by
  obtain ⟨o, F, a, c⟩ := id h
  refine (barrierZ_any a o hn r).mono ?_
  rintro e' w' ⟨rfl, F', k1, k2⟩
  exact ⟨rfl, step_z (o.barrierZ r) k1 k2 c hZ hB⟩
/-- beside the first device and a text list of its, the second -/
theorem Two.open_ {B : Nat} {w w1 : World} {g1 n1 : Nat} {D1 : Dv} {g2 n2 : Nat} {D2 : Dv} (h : Two B w g1 n1 D1 g2 n2 D2) (hb : Below w.heap.size w w1) (u : Value) (hu : ∀ k, u.ownBlock = some k → w.heap.size ≤ k ∧ k < w1.heap.size) :
    ∃ Z : Nat → Prop, DZ B Z w1 g2 n2 D2 ∧ (∀ k, Z k → k < w1.heap.size) ∧ (∀ k, u.ownBlock = some k → Z k) ∧
      ∀ (w' : World) (m : Nat) (D : Dv), DZ B Z w' g2 m D → CZ B Z w1 w' → Two B w' g1 n1 D1 g2 m D := by
  obtain ⟨o1, o2, F1, F2, a, b, c, d, e⟩ := h
  have hs := hb.size
  refine ⟨fun k => F1 k ∨ u.ownBlock = some k, ⟨o2, F2, b.below hb, fun k hk => ⟨(d k hk).1, by have := (d k hk).2; omega, ?_⟩⟩, ?_, fun k hk => .inr hk, ?_⟩
  · rintro (hz | hz)
    · exact e k hz hk
    · have := (hu k hz).1
      have := (d k hk).2
      omega
  · rintro k (hz | hz)
    · have := (c k hz).2
      omega
    · exact (hu k hz).2
  · rintro w' m D ⟨o, F, p, q⟩ cz
    refine ⟨o1, o, F1, F, (a.below hb).frm cz.2 cz.1.2 (fun k _ hk hn => hn (.inl hk)), p, fun k hk => ⟨(c k hk).1, by have := (c k hk).2; have := cz.1.size; omega⟩, fun k hk => ⟨(q k hk).1, (q k hk).2.1⟩, fun k hk hk2 => (q k hk2).2.2 (.inl hk)⟩
end Go.Proofs.Ytbagicjimfhmeaa.Cl
