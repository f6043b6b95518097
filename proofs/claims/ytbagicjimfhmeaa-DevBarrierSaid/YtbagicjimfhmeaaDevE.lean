/- dev: devices that fit; what any call does. -/
import Derived.Test.YtbagicjimfhmeaaDevC
set_option linter.unusedVariables false
set_option linter.unusedSimpArgs false
namespace Go.Proofs.Ytbagicjimfhmeaa.Cl
open Go Go.Proofs Go.RowKit Fl

structure RgOk (n : Nat) (R : Rg) : Prop where
  su : R.sure.length = R.seen.length
  pos : 1 ≤ R.seen.length
  le : R.seen.length ≤ 1000
  ln : R.later.length ≤ n
  tn : R.trace.length ≤ n
  lx : ∀ x ∈ R.later, x.1 < R.seen.length ∧ x.2.length = 64
  s64 : ∀ b ∈ R.seen, b.length = 64
  u64 : ∀ b ∈ R.sure, b.length = 64
  t66 : ∀ t ∈ R.trace, 0 < t.length ∧ t.length ≤ 66
structure DOk (n : Nat) (D : Dv) : Prop where
  len : D.1.length ≤ 8
  rg : ∀ R ∈ D.1, RgOk n R
  lo : -1 ≤ D.2
  hi : D.2 ≤ 9223372036854775807
theorem RgOk.mono {n m : Nat} {R : Rg} (h : RgOk n R) (hm : n ≤ m) : RgOk m R := { h with ln := Nat.le_trans h.ln hm, tn := Nat.le_trans h.tn hm }
theorem DOk.mono {n m : Nat} {D : Dv} (h : DOk n D) (hm : n ≤ m) : DOk m D := { h with rg := fun R hR => (h.rg R hR).mono hm }
theorem traceB_length (i : Nat) (b : List UInt8) : (traceB i b).length = 2 + b.length := by simp [traceB, be_length]
theorem mem_set_elim {α : Type} {l : List α} {i : Nat} {a b : α} (h : b ∈ l.set i a) : b = a ∨ b ∈ l := by
  rw [List.mem_iff_getElem] at h
  obtain ⟨j, hj, e⟩ := h
  rw [List.getElem_set] at e
  split at e
  · exact .inl e.symm
  · exact .inr (e ▸ List.getElem_mem _)
theorem RgOk.write {n : Nat} {R : Rg} (h : RgOk n R) (i : Nat) (b : List UInt8) (hi : i < R.seen.length) (hb : b.length = 64) : RgOk (n + 1) (writeR R i b) where
  su := by simp only [writeR, List.length_set]; exact h.su
  pos := by simp only [writeR, List.length_set]; exact h.pos
  le := by simp only [writeR, List.length_set]; exact h.le
  ln := by simp only [writeR, List.length_append, List.length_cons, List.length_nil]; have := h.ln; omega
  tn := by simp only [writeR, List.length_append, List.length_cons, List.length_nil]; have := h.tn; omega
  lx := fun x hx => by
    simp only [writeR, List.mem_append, List.mem_singleton, List.length_set] at hx ⊢
    rcases hx with hx | rfl
    · exact h.lx x hx
    · exact ⟨hi, hb⟩
  s64 := fun x hx => by
    rcases mem_set_elim hx with rfl | hx
    · exact hb
    · exact h.s64 x hx
  u64 := h.u64
  t66 := fun t ht => by
    simp only [writeR, List.mem_append, List.mem_singleton] at ht
    rcases ht with ht | rfl
    · exact h.t66 t ht
    · rw [traceB_length, hb]; omega
theorem RgOk.barrier {n : Nat} {R : Rg} (h : RgOk n R) : RgOk (n + 1) (barrierR R) where
  su := rfl
  pos := h.pos
  le := h.le
  ln := Nat.zero_le _
  tn := by simp only [barrierR, List.length_append, List.length_cons, List.length_nil]; have := h.tn; omega
  lx := fun x hx => by simp [barrierR] at hx
  s64 := h.s64
  u64 := h.s64
  t66 := fun t ht => by
    simp only [barrierR, List.mem_append, List.mem_singleton] at ht
    rcases ht with ht | rfl
    · exact h.t66 t ht
    · simp
theorem crashS_all {P : List UInt8 → Prop} (bits : List UInt8) (S : List (List UInt8)) (L : List (Nat × List UInt8)) (hS : ∀ b ∈ S, P b) (hL : ∀ x ∈ L, P x.2) : ∀ b ∈ crashS bits S L, P b := by
  unfold crashS
  have : ∀ (M : List ((Nat × List UInt8) × Nat)) (S : List (List UInt8)), (∀ x ∈ M, P x.1.2) → (∀ b ∈ S, P b) → ∀ b ∈ M.foldl (fun s x => if bitAt bits x.2 then s.set x.1.1 x.1.2 else s) S, P b := by
    intro M
    induction M with
    | nil => intro S _ hS; exact hS
    | cons x M ih =>
      intro S hM hS
      rw [List.foldl_cons]
      refine ih _ (fun y hy => hM y (List.mem_cons_of_mem _ hy)) ?_
      intro b hb
      split at hb
      · rcases mem_set_elim hb with rfl | hb
        · exact hM x (List.mem_cons_self ..)
        · exact hS b hb
      · exact hS b hb
  refine this _ S (fun x hx => ?_) hS
  exact hL x.1 (by have := List.mem_zipIdx hx; rw [this.2.2]; exact List.getElem_mem _)
theorem RgOk.crash {n : Nat} {R : Rg} (h : RgOk n R) (bits : List UInt8) : RgOk n (crashR bits R) where
  su := rfl
  pos := by simp only [crashR, crashS_length]; have := h.pos; have := h.su; omega
  le := by simp only [crashR, crashS_length]; have := h.le; have := h.su; omega
  ln := Nat.zero_le _
  tn := h.tn
  lx := fun x hx => by simp [crashR] at hx
  s64 := crashS_all _ _ _ h.u64 fun x hx => (h.lx x hx).2
  u64 := crashS_all _ _ _ h.u64 fun x hx => (h.lx x hx).2
  t66 := h.t66
theorem RgOk.new {n : Nat} (h1 : 1 ≤ n) (h2 : n ≤ 1000) : RgOk 0 (newR n) where
  su := rfl
  pos := by simpa [newR] using h1
  le := by simpa [newR] using h2
  ln := Nat.le_refl _
  tn := Nat.le_refl _
  lx := fun x hx => by simp [newR] at hx
  s64 := fun b hb => by rw [List.eq_of_mem_replicate hb]; exact Z64_length
  u64 := fun b hb => by rw [List.eq_of_mem_replicate hb]; exact Z64_length
  t66 := fun x hx => by simp [newR] at hx
theorem DOk.set {n : Nat} {D : Dv} (h : DOk n D) (r : Nat) (R : Rg) (x : Int) (hR : RgOk (n + 1) R) (h0 : -1 ≤ x) (h1 : x ≤ 9223372036854775807) : DOk (n + 1) (D.1.set r R, x) where
  len := by rw [List.length_set]; exact h.len
  rg := fun Q hQ => by
    rcases mem_set_elim hQ with rfl | hQ
    · exact hR
    · exact (h.rg Q hQ).mono (Nat.le_succ _)
  lo := h0
  hi := h1
theorem DOk.crash {n : Nat} {D : Dv} (h : DOk n D) (keep : List (List UInt8)) : DOk n (crashD D keep) where
  len := by simp only [crashD, crashTo_length]; exact h.len
  rg := fun R hR => by
    simp only [crashD, crashTo] at hR
    rw [List.mem_mapIdx] at hR
    obtain ⟨i, hi, e⟩ := hR
    rw [← e, if_pos hi]
    exact (h.rg _ (List.getElem_mem hi)).crash _
  lo := by simp [crashD]
  hi := by simp [crashD]
theorem DOk.stop {n : Nat} {D : Dv} (h : DOk n D) (x : Int) (hx : x ≤ 9223372036854775807) : DOk n (D.1, max x (-1)) := { h with lo := by simp only; omega, hi := by simp only; omega }
theorem DOk.new {l : List Int} (h : okS l) : DOk 0 (newD (l.map Int.toNat)) where
  len := by simp [newD]; exact h.2.1
  rg := fun R hR => by
    simp only [newD, List.map_map, List.mem_map, Function.comp] at hR
    obtain ⟨n, hn, rfl⟩ := hR
    have := h.2.2 n hn
    exact RgOk.new (by omega) (by omega)
  lo := by simp [newD]
  hi := by simp [newD]
/-! ### any call -/
def inB (D : Dv) (r i : Int) : Bool := decide (0 ≤ r) && decide (0 ≤ i) && match D.1[r.toNat]? with
  | some g => decide (i < g.seen.length)
  | none => false
theorem inB_iff (D : Dv) (r i : Int) : inB D r i = true ↔ inD D r i := by
  unfold inB inD
  constructor
  · intro h
    simp only [Bool.and_eq_true, decide_eq_true_eq] at h
    obtain ⟨⟨h1, h2⟩, h3⟩ := h
    split at h3
    · rename_i g hg
      have := (List.getElem?_eq_some_iff.1 hg).1
      exact ⟨h1, by omega, h2, g, hg, by simpa using h3⟩
    · cases h3
  · rintro ⟨h1, h2, h3, g, hg, h4⟩
    simp [h1, h3, hg, h4]
theorem inB_nat {D : Dv} {r i : Int} (h : inB D r i = true) : ∃ (a b : Nat) (ha : a < D.1.length), r = a ∧ i = b ∧ b < D.1[a].seen.length := by
  obtain ⟨h1, h2, h3, g, hg, h4⟩ := (inB_iff D r i).1 h
  obtain ⟨ha, e⟩ := List.getElem?_eq_some_iff.1 hg
  exact ⟨r.toNat, i.toNat, ha, by omega, by omega, by rw [e]; omega⟩
def writeZ (D : Dv) (r i : Int) (b : List UInt8) : Dv := if inB D r i && decide (b.length = 64) then writeD D r.toNat i.toNat b else D
def barrierZ (D : Dv) (r : Int) : Dv := if inB D r 0 then barrierD D r.toNat else D
def readZ (D : Dv) (r i : Int) : List UInt8 := match D.1[r.toNat]? with
  | some g => g.seen.getD i.toNat []
  | none => []
def traceZ (D : Dv) (r : Int) : List (List UInt8) := if 0 ≤ r then (match D.1[r.toNat]? with | some g => g.trace | none => []) else []
theorem DOk.writeZ {n : Nat} {D : Dv} (h : DOk n D) (r i : Int) (b : List UInt8) : DOk (n + 1) (Cl.writeZ D r i b) := by
  unfold Cl.writeZ
  split
  · rename_i hh
    rw [Bool.and_eq_true, decide_eq_true_eq] at hh
    obtain ⟨a, c, ha, rfl, rfl, hc⟩ := inB_nat hh.1
    unfold writeD
    rw [Int.toNat_natCast, Int.toNat_natCast, List.getElem?_eq_getElem ha]
    simp only
    split
    · exact h.mono (Nat.le_succ _)
    · have := h.lo
      have := h.hi
      refine h.set _ _ _ ((h.rg _ (List.getElem_mem ha)).write _ _ hc hh.2) ?_ ?_ <;> split <;> omega
  · exact h.mono (Nat.le_succ _)
theorem DOk.barrierZ {n : Nat} {D : Dv} (h : DOk n D) (r : Int) : DOk (n + 1) (Cl.barrierZ D r) := by
  unfold Cl.barrierZ
  split
  · rename_i hh
    obtain ⟨a, c, ha, rfl, _, hc⟩ := inB_nat hh
    unfold barrierD
    rw [Int.toNat_natCast, List.getElem?_eq_getElem ha]
    simp only
    split
    · exact h.mono (Nat.le_succ _)
    · exact h.set _ _ _ ((h.rg _ (List.getElem_mem ha)).barrier) h.lo h.hi
  · exact h.mono (Nat.le_succ _)
theorem notD {D : Dv} {r i : Int} (h : inB D r i = false) : ¬ inD D r i := fun hd => by rw [(inB_iff D r i).2 hd] at h; cases h
theorem Lasts.shape {F : Nat → Prop} {w : World} {v : Value} {b : List UInt8} (h : Lasts F w v b) : ∃ a c, v = .slice a b.length c := by
  obtain ⟨a, c, e, _⟩ := h.rd
  rw [bs_length] at e
  exact ⟨a, c, e⟩
theorem writeZ_any {w : World} {gd n : Nat} {F : Nat → Prop} {D : Dv} (h : DevRep w gd F D) (ok : DOk n D) (hn : n ≤ 100000) (r i : Int) (v : Value) (b : List UInt8) (hv : Lasts F w v b) :
    Calls Try.prog 16 #[ptr gd, .int .i64 r, .int .i64 i, v] w fun e w' => e = .returned (.bool (inB D r i && decide (b.length = 64))) ∧ ∃ F', DevRep w' gd F' (writeZ D r i b) ∧ Step F w w' F' := by
  obtain ⟨a, c, rfl⟩ := hv.shape
  by_cases hi : inB D r i = true
  · obtain ⟨x, y, hx, rfl, rfl, hy⟩ := inB_nat hi
    by_cases hb : b.length = 64
    · have he : writeZ D x y b = writeD D x y b := by unfold writeZ; rw [hi, hb]; rfl
      rw [he, hi]
      simp only [hb, decide_true, Bool.and_self]
      have R := ok.rg _ (List.getElem_mem hx)
      by_cases h0 : D.2 = 0
      · refine (write_stop h x y hx hy a c h0).mono ?_
        rintro e w' ⟨rfl, rfl⟩
        refine ⟨rfl, F, ?_, Step.refl _ _⟩
        unfold writeD
        rw [List.getElem?_eq_getElem hx]
        simp only [h0, if_true]
        exact h
      · rw [hb] at hv
        have := R.le
        have := R.ln
        have := R.tn
        have := ok.lo
        have := ok.hi
        exact write_yes h x y hx hy (by omega) a c b hb hv (by omega) (by omega) h0 (by omega) (by omega)
    · have he : writeZ D x y b = D := by unfold writeZ; simp [hb]
      rw [he, hi]
      simp only [hb, decide_false, Bool.and_false]
      refine (write_len h x y hx hy a b.length c hb).mono ?_
      rintro e w' ⟨rfl, rfl⟩
      exact ⟨rfl, F, h, Step.refl _ _⟩
  · have hi : inB D r i = false := by simpa using hi
    have he : writeZ D r i b = D := by unfold writeZ; simp [hi]
    rw [he, hi, Bool.false_and]
    refine (write_no h r i a b.length c (notD hi)).mono ?_
    rintro e w' ⟨rfl, rfl⟩
    exact ⟨rfl, F, h, Step.refl _ _⟩
theorem barrierZ_any {w : World} {gd n : Nat} {F : Nat → Prop} {D : Dv} (h : DevRep w gd F D) (ok : DOk n D) (hn : n ≤ 100000) (r : Int) :
    Calls Try.prog 15 #[ptr gd, .int .i64 r] w fun e w' => e = .returned (.bool (inB D r 0)) ∧ ∃ F', DevRep w' gd F' (barrierZ D r) ∧ Step F w w' F' := by
  by_cases hi : inB D r 0 = true
  · obtain ⟨x, y, hx, rfl, hy0, hy⟩ := inB_nat hi
    have hy : 0 < D.1[x].seen.length := by omega
    have he : barrierZ D x = barrierD D x := by unfold barrierZ; rw [hi]; rfl
    rw [he, hi]
    have R := ok.rg _ (List.getElem_mem hx)
    by_cases h0 : D.2 = 0
    · refine (barrier_stop h x hx hy h0).mono ?_
      rintro e w' ⟨rfl, rfl⟩
      refine ⟨rfl, F, ?_, Step.refl _ _⟩
      unfold barrierD
      rw [List.getElem?_eq_getElem hx]
      simp only [h0, if_true]
      exact h
    · have := R.le
      have := R.tn
      exact barrier_yes h x hx hy (by omega) (by omega) h0
  · have hi : inB D r 0 = false := by simpa using hi
    have he : barrierZ D r = D := by unfold barrierZ; simp [hi]
    rw [he, hi]
    refine (barrier_no h r (notD hi)).mono ?_
    rintro e w' ⟨rfl, rfl⟩
    exact ⟨rfl, F, h, Step.refl _ _⟩
/-- Read, whatever is asked -/
theorem readZ_any {w : World} {gd n : Nat} {F : Nat → Prop} {D : Dv} (h : DevRep w gd F D) (ok : DOk n D) (r i : Int) :
    Calls Try.prog 18 #[ptr gd, .int .i64 r, .int .i64 i] w fun e w' => ∃ u, e = .returned (.tuple #[u, .bool (inB D r i)]) ∧ OB w' w.heap.size u (if inB D r i then readZ D r i else []) ∧ Below w.heap.size w w' := by
  by_cases hi : inB D r i = true
  · rw [hi, if_pos rfl]
    obtain ⟨x, y, hx, rfl, rfl, hy⟩ := inB_nat hi
    have he : readZ D x y = D.1[x].seen[y] := by unfold readZ; rw [Int.toNat_natCast, Int.toNat_natCast, List.getElem?_eq_getElem hx]; simp only; rw [List.getD_eq_getElem?_getD, List.getElem?_eq_getElem hy]; rfl
    rw [he]
    have := (ok.rg _ (List.getElem_mem hx)).s64 _ (List.getElem_mem hy)
    exact read_yes h x y hx hy (by omega) (by omega)
  · have hi : inB D r i = false := by simpa using hi
    rw [hi, if_neg (by decide)]
    refine (read_no h r i (notD hi)).mono ?_
    rintro e w' ⟨rfl, rfl⟩
    exact ⟨_, rfl, OB.nil _ _, Below.refl _ _⟩
/-- Trace, whatever is asked -/
theorem traceZ_any {w : World} {gd n : Nat} {F : Nat → Prop} {D : Dv} (h : DevRep w gd F D) (ok : DOk n D) (hn : n ≤ 100000) (r : Int) :
    Calls Try.prog 19 #[ptr gd, .int .i64 r] w fun e w' => ∃ u, e = .returned u ∧ TL w' w.heap.size u (traceZ D r) ∧ Below w.heap.size w w' := by
  by_cases hi : inB D r 0 = true
  · obtain ⟨x, y, hx, rfl, hy0, hy⟩ := inB_nat hi
    have hy : 0 < D.1[x].seen.length := by omega
    have he : traceZ D x = D.1[x].trace := by unfold traceZ; rw [if_pos (by omega), Int.toNat_natCast, List.getElem?_eq_getElem hx]
    rw [he]
    have R := ok.rg _ (List.getElem_mem hx)
    have := R.tn
    exact trace_yes h x hx hy (by omega) fun x hx => ⟨(R.t66 x hx).1, by have := (R.t66 x hx).2; omega⟩
  · have hi : inB D r 0 = false := by simpa using hi
    have he : traceZ D r = [] := by
      unfold traceZ
      split
      · rename_i h0
        split
        · rename_i g hg
          have := (ok.rg g (List.mem_of_getElem? hg)).pos
          unfold inB at hi
          rw [hg] at hi
          simp only [h0, decide_true, Bool.true_and, Int.le_refl, decide_eq_false_iff_not] at hi
          omega
        · rfl
      · rfl
    rw [he]
    refine (trace_no h r (notD hi)).mono ?_
    rintro e w' ⟨rfl, rfl⟩
    exact ⟨_, rfl, TL.nil _ _, Below.refl _ _⟩
theorem crashZ_any {w : World} {gd n : Nat} {F : Nat → Prop} {D : Dv} (h : DevRep w gd F D) (ok : DOk n D) (hn : n ≤ 100000) (keep : List (List UInt8)) (v : Value) (hv : LastsL F w v keep) :
    Calls Try.prog 17 #[ptr gd, v] w fun e w' => e = .returned (.tuple #[]) ∧ ∃ F', DevRep w' gd F' (crashD D keep) ∧ Step F w w' F' :=
  crash_any h keep v hv (by have := ok.len; omega) fun R hR => by
    have Q := ok.rg R hR
    have := Q.su
    have := Q.le
    have := Q.ln
    exact ⟨by omega, by omega, fun x hx => by have := (Q.lx x hx).1; omega⟩
theorem copyZ_any {w : World} {gd n : Nat} {F : Nat → Prop} {D : Dv} (h : DevRep w gd F D) (ok : DOk n D) (hn : n ≤ 100000) :
    Calls Try.prog 20 #[ptr gd] w fun e w' => ∃ g2, e = .returned (ptr g2) ∧ DevRep w' g2 (fun k => w.heap.size ≤ k) D ∧ w.heap.size ≤ g2 ∧ Below w.heap.size w w' :=
  copy_any h (by have := ok.len; omega) fun R hR => by
    have Q := ok.rg R hR
    have := Q.su
    have := Q.le
    have := Q.ln
    have := Q.tn
    exact ⟨by omega, by omega, by omega, by omega⟩
end Go.Proofs.Ytbagicjimfhmeaa.Cl
