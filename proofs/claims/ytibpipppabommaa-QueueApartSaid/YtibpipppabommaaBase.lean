/- Words on memory that all the walks of this seat use: a slice that reads as a list, a slice that the call owns, what append, conversion and slicing do to them. -/
import Derived.WalkKit
import Derived.WalkLawsBesides
import Derived.WalkSpells
import Derived.Lib.Hide
import Derived.Deep.Cut
import Derived.Deep.QuietTactic
import Derived.BigQuiet
import Derived.ProofKit
import Derived.OpenShut
import Derived.Test.YtibpipppabommaaFl
set_option linter.unusedVariables false
set_option linter.unusedSimpArgs false
namespace Go.Proofs.Ytibpipppabommaa.Cl
open Go Go.RowKit Fl

/-! ### floats, whole numbers -/
theorem conv_fi (P : Program) (src dst : TypeId) (k : IntKind) (n : Int) (hs : (P.underlying src).isSome = true) (hd : P.underlying dst = some (.int k)) (h : n.natAbs < 2 ^ 53) (h1 : k.min ≤ n) (h2 : n ≤ k.max) (w : World) :
    (convert src dst (.float .f64 (fl n))).run P w = .ok (.int k n) w :=
  run_convert_float_int w src dst .f64 k (fl n) n hs hd (floatToIntVal_fl n h k h1 h2)
theorem min64 : IntKind.min .i64 = -9223372036854775808 := by decide
theorem max64 : IntKind.max .i64 = 9223372036854775807 := by decide
theorem minu32 : IntKind.min .u32 = 0 := by decide
theorem maxu32 : IntKind.max .u32 = 4294967295 := by decide
theorem fl1 : fl 1 = 4607182418800017408 := by decide +kernel
theorem fl0 : fl 0 = 0 := by decide +kernel
theorem ret_cx {a b c d : Int} (h : a = c) (h' : b = d) : Ending.returned (.complex .f64 (fl a) (fl b)) = .returned (.complex .f64 (fl c) (fl d)) := by rw [h, h']
theorem ret_int {k : IntKind} {a b : Int} (h : a = b) : Ending.returned (.int k a) = .returned (.int k b) := by rw [h]
theorem int_val {k : IntKind} {a b : Int} (h : a = b) : Value.int k a = Value.int k b := by rw [h]
theorem ret_bool {a b : Bool} (h : a = b) : Ending.returned (.bool a) = .returned (.bool b) := by rw [h]

/-! ### bytes as values -/
abbrev u8 (b : UInt8) : Value := .int .u8 (b.toNat : Int)
abbrev bs (l : List UInt8) : List Value := l.map u8
theorem bs_length (l : List UInt8) : (bs l).length = l.length := by simp

theorem wrap8 (n : Int) : IntKind.u8.wrap n = ((UInt8.ofNat (n % 256).toNat).toNat : Int) := by
  rw [IntKind.wrap_u8, UInt8.toNat_ofNat']; omega

/-! ### worlds -/
theorem cell_later {w wx : World} {a : Addr} {v : Value} (hb : Below w.heap.size w wx) (h : w.cell? a = some v) : wx.cell? a = some v :=
  (hb.cell (World.block_lt_of_cell? _ _ h)).trans h
theorem below_trans {w w1 w2 : World} {B : Nat} (h : Below B w w1) (k : Below w1.heap.size w1 w2) (hB : B ≤ w1.heap.size) : Below B w w2 :=
  h.trans (k.mono hB)
theorem below_drewN {B : Nat} {w W : World} (h : Below B w W) (n : Nat) : Below B w (W.drewN n) := ⟨h.os, h.tape, h.output, h.size, h.block⟩
theorem below_of_grown {w w' : World} (h : w.grownBy w' none) : Below w.heap.size w w' :=
  ⟨h.os, h.tape, h.output, h.size, fun k hk => h.block k hk (by simp)⟩
theorem grown_of_below {w w1 : World} (h : Below w.heap.size w w1) (row : Option Nat) : w.grownBy w1 row :=
  ⟨h.os, h.tape, h.output, h.size, fun i hi _ => h.block i hi⟩

/-- a world of which no more is known than that all that was below B is as it was -/
theorem own_below {w w1 : World} {base n : Nat} {e : TypeId} {s : Nat} {v : Value} {xs : List Value} (h : w.ownsRow base e s v n xs) (hb : Below w.heap.size w w1) : w1.ownsRow base e s v n xs :=
  h.kept (grown_of_below hb none) (by cases v.ownBlock <;> simp)

/-! ### a slice of one-cell elements that reads as a list -/
def Rd (w : World) (v : Value) (xs : List Value) : Prop :=
  ∃ a cap, v = .slice a xs.length cap ∧ xs.length ≤ cap ∧ cap ≤ 9223372036854775807 ∧ (∀ j (h : j < xs.length), ∃ ad, a = some ad ∧ w.cell? (ad.add j) = some xs[j]) ∧ (a = none → cap = 0)

theorem Rd.below {w w1 : World} {v : Value} {xs : List Value} (h : Rd w v xs) (hb : Below w.heap.size w w1) : Rd w1 v xs := by
  obtain ⟨a, cap, rfl, h1, h2, h3, h4⟩ := h
  refine ⟨a, cap, rfl, h1, h2, fun j hj => ?_, h4⟩
  obtain ⟨ad, ha, hc⟩ := h3 j hj
  exact ⟨ad, ha, cell_later hb hc⟩

theorem Rd.same {w w1 : World} {v : Value} {xs : List Value} (h : Rd w v xs) (hc : ∀ a u, w.cell? a = some u → w1.cell? a = some u) : Rd w1 v xs := by
  obtain ⟨a, cap, rfl, h1, h2, h3, h4⟩ := h
  refine ⟨a, cap, rfl, h1, h2, fun j hj => ?_, h4⟩
  obtain ⟨ad, ha, h⟩ := h3 j hj
  exact ⟨ad, ha, hc _ _ h⟩

theorem Rd.nil (w : World) : Rd w (.slice none 0 0) [] := ⟨none, 0, rfl, Nat.le_refl _, by decide, fun j h => by simp at h, fun _ => rfl⟩

theorem Rd.of_own {w : World} {base e n : Nat} {v : Value} {xs : List Value} (h : w.ownsRow base e 1 v n xs) : Rd w v xs := by
  have hl : xs.length = n := by simpa using h.1
  rcases h.2 with ⟨rfl, rfl⟩ | ⟨g, cap, cur, rfl, hb, hg, hnc, hcm, hcs, ht⟩
  · have : xs = [] := List.eq_nil_of_length_eq_zero hl
    subst this
    exact Rd.nil w
  · refine ⟨some ⟨g, 0, none⟩, cap, by rw [hl], by omega, by unfold maxLen at hcm; omega, fun j hj => ⟨⟨g, 0, none⟩, rfl, ?_⟩, by simp⟩
    have := h.cellAt j (by omega)
    rw [Addr.add_lit, Nat.zero_add, this, List.getElem?_eq_getElem hj]

theorem add_add (a : Addr) (l j : Nat) : (a.add l).add j = a.add (l + j) := by
  cases l with
  | zero => rw [Addr.add_zero', Nat.zero_add]
  | succ l =>
    cases j with
    | zero => rw [Addr.add_zero', Nat.add_zero]
    | succ j =>
      rw [Addr.add_succ', Addr.add_succ', show l + 1 + (j + 1) = (l + 1 + j) + 1 from by omega, Addr.add_succ']
      simp; omega

/-- a literal's new row -/
theorem Rd.new (w : World) (cs : Array Value) (e : TypeId) (fr : Nat × Nat) (n : Nat) (hn : n = cs.size) (h : cs.size ≤ 9223372036854775807) : Rd (w.alloc (.cells cs e fr)) (.slice (some ⟨w.heap.size, 0, none⟩) n n) cs.toList := by
  subst hn
  refine ⟨some ⟨w.heap.size, 0, none⟩, cs.size, by simp, by simp, h, fun j hj => ⟨_, rfl, ?_⟩, by simp⟩
  rw [Addr.add_lit, Nat.zero_add, cell_of_row _ _ j cs e fr (heap_alloc_new w _)]
  simp at hj ⊢

/-- 's[l:h]' -/
theorem Rd.sub {w : World} {a : Option Addr} {n cap : Nat} {xs : List Value} (h : Rd w (.slice a n cap) xs) (l k : Nat) (hlk : l ≤ k) (hk : k ≤ xs.length) :
    Rd w (sliced a l k cap 1) ((xs.drop l).take (k - l)) := by
  obtain ⟨a', cap', e, h1, h2, h3, h4⟩ := h
  simp only [Value.slice.injEq] at e
  obtain ⟨rfl, hn, rfl⟩ := e
  have hlen : ((xs.drop l).take (k - l)).length = k - l := by simp; omega
  refine ⟨if cap = l then a else a.map (·.add (l * 1)), cap - l, by unfold sliced; rw [hlen], by omega, by omega, fun j hj => ?_, fun hn => ?_⟩
  · have hj' : j < k - l := by omega
    obtain ⟨ad, ha, hc⟩ := h3 (l + j) (by omega)
    rw [if_neg (by omega), ha]
    refine ⟨ad.add l, by simp, ?_⟩
    rw [add_add, hc]
    simp
  · split at hn
    · omega
    · have : a = none := by cases a <;> simp_all
      have := h4 this
      omega

/-- 's[:k]' of the same slice's head -/
theorem Rd.take {w : World} {a : Option Addr} {n cap : Nat} {xs : List Value} (h : Rd w (.slice a n cap) xs) (k : Nat) (hk : k ≤ xs.length) : Rd w (.slice a k cap) (xs.take k) := by
  obtain ⟨a', cap', e, h1, h2, h3, h4⟩ := h
  simp only [Value.slice.injEq] at e
  obtain ⟨rfl, hn, rfl⟩ := e
  have hlen : (xs.take k).length = k := by simp; omega
  refine ⟨a, cap, by rw [hlen], by omega, h2, fun j hj => ?_, h4⟩
  obtain ⟨ad, ha, hc⟩ := h3 j (by omega)
  exact ⟨ad, ha, by rw [hc]; simp⟩

/-- the cell of an element -/
theorem Rd.at_ {w : World} {a : Option Addr} {n cap : Nat} {xs : List Value} (h : Rd w (.slice a n cap) xs) (j : Nat) (hj : j < xs.length) : ∃ ad, a = some ad ∧ w.cell? (ad.add j) = some xs[j] := by
  obtain ⟨a', cap', e, h1, h2, h3, h4⟩ := h
  simp only [Value.slice.injEq] at e
  obtain ⟨rfl, hn, rfl⟩ := e
  exact h3 j hj

/-- the cells of the first elements, as the walk spells them -/
theorem Rd.cell0 {w : World} {ad : Addr} {n cap : Nat} {xs : List Value} (h : Rd w (.slice (some ad) n cap) xs) (hj : 0 < xs.length) : w.cell? ad = some xs[0] := by
  obtain ⟨ad', e, hc⟩ := h.at_ 0 hj
  obtain rfl := Option.some.inj e
  rwa [Addr.add_zero'] at hc
theorem Rd.cellS {w : World} {ad : Addr} {n cap : Nat} {xs : List Value} (h : Rd w (.slice (some ad) n cap) xs) (j : Nat) (hj : j + 1 < xs.length) : w.cell? { ad with off := ad.off + (j + 1), spot := none } = some xs[j + 1] := by
  obtain ⟨ad', e, hc⟩ := h.at_ (j + 1) hj
  obtain rfl := Option.some.inj e
  rwa [Addr.add_succ'] at hc
/-- a slice that is not empty has an address -/
theorem Rd.some_ {w : World} {v : Value} {xs : List Value} (h : Rd w v xs) (hj : 0 < xs.length) : ∃ ad cap, v = .slice (some ad) xs.length cap ∧ xs.length ≤ cap ∧ cap ≤ 9223372036854775807 := by
  obtain ⟨a, cap, rfl, h1, h2, h3, h4⟩ := h
  obtain ⟨ad, rfl, _⟩ := h3 0 hj
  exact ⟨ad, cap, rfl, h1, h2⟩

/-- 'string(b)' -/
theorem run_string_of {P : Program} {w : World} {v : Value} {l : List UInt8} (h : Rd w v (bs l)) (src e dst : TypeId) (hs : P.underlying src = some (.slice e)) (he : P.underlying e = some (.int .u8)) (hd : P.underlying dst = some .string) :
    (convert src dst v).run P w = .ok (.string ⟨l.toArray⟩) w := by
  obtain ⟨a, cap, rfl, h1, h2, h3, h4⟩ := h
  rw [List.length_map]
  cases a with
  | none =>
    have := h4 rfl
    have : l = [] := List.eq_nil_of_length_eq_zero (by rw [List.length_map] at h1; omega)
    subst this
    exact run_convert_bytes_nil w src e hs he _ _ dst hd
  | some ad =>
    have hl : (loadCells ad l.length).run P w = .ok (bs l).toArray w := by
      have := run_loadCells_list (P := P) w ad (bs l) (fun j u hj => by
        have hjl : j < (bs l).length := (List.getElem?_eq_some_iff.1 hj).1
        obtain ⟨ad', e', hc⟩ := h3 j hjl
        obtain rfl := Option.some.inj e'
        rw [hc, ← hj, List.getElem?_eq_getElem hjl])
      simpa using this
    have hl' : (loadCells ad l.length).run P w = .ok ((l.map fun b => (b.toNat : Int)).map (Value.int .u8)).toArray w := by
      rw [hl]; congr 1; simp [Function.comp_def]
    rw [run_convert_bytes_string w src dst e _ l.length cap hs he hd, run_bytesToString w _ l.length cap _ hl', foldl_push_bytes]
    simp [Function.comp_def]

theorem toList_mk (l : List UInt8) : (ByteArray.mk l.toArray).toList = l := by
  have h : ∀ (s : ByteArray) (n i : Nat) (r : List UInt8), s.size - i = n → ByteArray.toList.loop s i r = r.reverse ++ s.data.toList.drop i := by
    intro s n
    induction n with
    | zero =>
      intro i r h
      unfold ByteArray.toList.loop
      have hd : s.data.toList.length ≤ i := by rw [Array.length_toList]; have : s.data.size = s.size := rfl; omega
      rw [if_neg (by omega), List.drop_eq_nil_of_le hd, List.append_nil]
    | succ n ih =>
      intro i r h
      unfold ByteArray.toList.loop
      have hi : i < s.size := by omega
      rw [if_pos hi, ih (i + 1) _ (by omega)]
      have : s.get! i = s.data.toList[i]'(by rw [Array.length_toList]; exact hi) := by
        show s.data[i]! = _
        rw [getElem!_pos s.data i hi]; rfl
      rw [this, List.reverse_cons, List.append_assoc, List.singleton_append, ← List.drop_eq_getElem_cons]
  unfold ByteArray.toList
  rw [h _ _ 0 [] rfl]
  simp

theorem bytes_eq (l l' : List UInt8) : ((ByteArray.mk l.toArray).toList == (ByteArray.mk l'.toArray).toList) = decide (l = l') := by
  rw [toList_mk, toList_mk, Bool.eq_iff_iff]; simp

/-- append of what reads as a list onto what the call owns -/
theorem wpList_append_rd {P : Program} {w : World} {ops : Array Oper} {rest : List Oper} {o : Oper} {a : Act} {Q : Exit → Act → World → Prop} (hgd : o.guard = none) (s x : Operand) (t : TypeId)
    (ho : o.op = .call { callee := .builtin .append, args := #[s, x], argTypes := #[t, t] })
    (base : Nat) (e : TypeId) (i : TypeInfo) (z : Value) (bytes : Nat) (ht : P.underlying t = some (.slice e)) (hi : P.info? e = some i) (hz : i.zero = some z)
    (hsize : i.size = 1) (hby : i.bytes = bytes) (hzs : z.cells.size = 1)
    (v u : Value) (n : Nat) (xs news : List Value) (hs : a.eval s = v) (hx : a.eval x = u) (hown : w.ownsRow base e 1 v n xs) (hrd : Rd w u news) (h1 : ∀ u ∈ news, u.oneCell' = true)
    (h63 : n + news.length ≤ maxLen) (hbytes : (n + news.length) * bytes ≤ 140737488355328) (hbase : base ≤ w.heap.size)
    (h : ∀ v' w', w'.ownsRow base e 1 v' (n + news.length) (xs ++ news) → w.grownBy w' v.ownBlock → (v' = .slice none 0 0 ↔ v = .slice none 0 0 ∧ news = []) → wpList P ops Q rest (a.put o.dst v') w') : wpList P ops Q (o :: rest) a w := by
  obtain ⟨ad, cap, rfl, g1, g2, g3, g4⟩ := hrd
  cases ad with
  | some ad =>
    refine wpList_append_own w hgd s x t ho base e i z 1 bytes ht hi hz hsize hby hzs (by decide) v n xs hs hown ad news.length cap news hx (by simp) (fun j u hj => ?_) h1 h63 hbytes hbase fun v' w' r1 r2 r3 => h v' w' r1 r2 (by rw [r3]; cases news <;> simp)
    have hjl := (List.getElem?_eq_some_iff.1 hj).1
    obtain ⟨ad', e', hc⟩ := g3 j hjl
    obtain rfl := Option.some.inj e'
    rw [hc, ← hj, List.getElem?_eq_getElem hjl]
  | none =>
    have hc0 := g4 rfl
    have hn0 : news = [] := List.eq_nil_of_length_eq_zero (by omega)
    subst hn0
    refine wpList_plain hgd fun K hK => ?_
    subst hc0
    have hrun := run_append_owned_none (P := P) w base t o.type e i 1 ht hi v n xs hown
    unfold Oper.wp
    simp [execOp, ho, resolve, invoke, builtin, hs, hx, hrun, Result.andThen]
    exact hK _ _ (h _ _ (by simpa using hown) (World.grownBy.refl _ _) (by simp))

/-- the same for one operation of a region that draws its order -/
theorem wp_append_rd {P : Program} {w : World} {o : Oper} {a : Act} {K : Act → World → Prop} {Q : Exit → Act → World → Prop} (s x : Operand) (t : TypeId)
    (ho : o.op = .call { callee := .builtin .append, args := #[s, x], argTypes := #[t, t] })
    (base : Nat) (e : TypeId) (i : TypeInfo) (z : Value) (bytes : Nat) (ht : P.underlying t = some (.slice e)) (hi : P.info? e = some i) (hz : i.zero = some z)
    (hsize : i.size = 1) (hby : i.bytes = bytes) (hzs : z.cells.size = 1)
    (v u : Value) (n : Nat) (xs news : List Value) (hs : a.eval s = v) (hx : a.eval x = u) (hown : w.ownsRow base e 1 v n xs) (hrd : Rd w u news) (h1 : ∀ u ∈ news, u.oneCell' = true)
    (h63 : n + news.length ≤ maxLen) (hbytes : (n + news.length) * bytes ≤ 140737488355328) (hbase : base ≤ w.heap.size)
    (h : ∀ v' w', w'.ownsRow base e 1 v' (n + news.length) (xs ++ news) → w.grownBy w' v.ownBlock → (v' = .slice none 0 0 ↔ v = .slice none 0 0 ∧ news = []) → K (a.put o.dst v') w') : o.wp P a w K Q := by
  obtain ⟨ad, cap, rfl, g1, g2, g3, g4⟩ := hrd
  cases ad with
  | some ad =>
    refine wp_append_own w s x t ho base e i z 1 bytes ht hi hz hsize hby hzs (by decide) v n xs hs hown ad news.length cap news hx (by simp) (fun j u hj => ?_) h1 h63 hbytes hbase fun v' w' r1 r2 r3 => h v' w' r1 r2 (by rw [r3]; cases news <;> simp)
    have hjl := (List.getElem?_eq_some_iff.1 hj).1
    obtain ⟨ad', e', hc⟩ := g3 j hjl
    obtain rfl := Option.some.inj e'
    rw [hc, ← hj, List.getElem?_eq_getElem hjl]
  | none =>
    have hc0 := g4 rfl
    have hn0 : news = [] := List.eq_nil_of_length_eq_zero (by omega)
    subst hn0
    subst hc0
    have hrun := run_append_owned_none (P := P) w base t o.type e i 1 ht hi v n xs hown
    unfold Oper.wp
    simp [execOp, ho, resolve, invoke, builtin, hs, hx, hrun, Result.andThen]
    exact h _ _ (by simpa using hown) (World.grownBy.refl _ _) (by simp)

theorem own_mono {w : World} {B B' e n s : Nat} {v : Value} {xs : List Value} (h : w.ownsRow B' e s v n xs) (hB : B ≤ B') : w.ownsRow B e s v n xs := by
  refine ⟨h.1, ?_⟩
  rcases h.2 with h | ⟨g, cap, cur, rfl, hb, h⟩
  · exact .inl h
  · exact .inr ⟨g, cap, cur, rfl, Nat.le_trans hB hb, h⟩

theorem oneCell_bs (l : List UInt8) : ∀ u ∈ bs l, u.oneCell' = true := by
  intro u hu
  obtain ⟨_, _, rfl⟩ := List.mem_map.1 hu
  rfl

/-- what is known of a slice of bytes that came in -/
theorem rd_of_row {w : World} {a : Option Addr} {len cap : Nat} {zs : List Int} (h : (a = none ∧ len = 0 ∧ cap = 0 ∧ zs = []) ∨
    ∃ x, a = some x ∧ len ≤ cap ∧ cap ≤ maxLen ∧ zs.length = cap ∧ (∀ i, i < zs.length → w.cell? (x.add i) = some (.int .u8 (zs.getD i 0))) ∧ ∀ n ∈ zs, (Lit.int .u8 n).wf = true) :
    ∃ l : List UInt8, l.length = len ∧ Rd w (.slice a len cap) (bs l) := by
  rcases h with ⟨rfl, rfl, rfl, rfl⟩ | ⟨x, rfl, h1, h2, h3, h4, h5⟩
  · exact ⟨[], rfl, Rd.nil w⟩
  · have hl : ((zs.take len).map fun n => UInt8.ofNat n.toNat).length = len := by simp; omega
    refine ⟨(zs.take len).map fun n => UInt8.ofNat n.toNat, hl, some x, cap, by rw [bs_length, hl], by rw [bs_length, hl]; exact h1, by unfold maxLen at h2; omega, fun j hj => ⟨x, rfl, ?_⟩, by simp⟩
    rw [bs_length, hl] at hj
    rw [h4 j (by omega)]
    have hz : zs.getD j 0 = zs[j]'(by omega) := by rw [List.getD_eq_getElem?_getD, List.getElem?_eq_getElem (by omega)]; rfl
    have hw := h5 (zs[j]'(by omega)) (List.getElem_mem _)
    rw [hz]
    simp only [List.getElem_map, List.getElem_take]
    congr 1
    have hr : 0 ≤ zs[j]'(by omega) ∧ zs[j]'(by omega) ≤ 255 := by
      have h := hw
      simp [Lit.wf] at h
      have e1 : IntKind.min .u8 = 0 := by decide
      have e2 : IntKind.max .u8 = 255 := by decide
      rw [e1, e2] at h; exact h
    refine int_val ?_
    rw [UInt8.toNat_ofNat']
    omega

theorem Rd.drewN {w : World} {v : Value} {xs : List Value} (h : Rd w v xs) (n : Nat) : Rd (w.drewN n) v xs := h.same fun a u h => h
theorem Rd.drew {w : World} {v : Value} {xs : List Value} (h : Rd w v xs) : Rd w.drew v xs := h.drewN 1
theorem cell_drew {w : World} {a : Addr} {v : Value} (h : w.cell? a = some v) : w.drew.cell? a = some v := h
theorem quiet_eq {P : Program} {f : FuncId} {args : Array Value} {w : World} {n : Nat} {v : Value}
    (h : Calls P f args (w.drewN n) fun e w' => e = .returned v ∧ w.drewN n = w') : Calls P f args (w.drewN n) fun e w'' => e = .returned v ∧ ∃ m, w'' = w.drewN m :=
  h.mono fun _ _ ⟨he, hm⟩ => ⟨he, n, hm.symm⟩

theorem below_new (w : World) (o : Obj) : Below w.heap.size w (w.alloc o) := (Below.refl _ _).alloc (Nat.le_refl _) _
theorem le_new (w : World) (o : Obj) : w.heap.size ≤ (w.alloc o).heap.size := by simp
theorem below_own {w w1 w2 : World} {B : Nat} {v : Value} (h : Below B w w1) (hg : w1.grownBy w2 v.ownBlock) (hB : B ≤ w1.heap.size) (hv : ∀ k, v.ownBlock = some k → B ≤ k) : Below B w w2 :=
  h.grown hg hB hv
theorem own_ge {w : World} {base n : Nat} {e : TypeId} {s : Nat} {v : Value} {xs : List Value} (h : w.ownsRow base e s v n xs) : ∀ k, v.ownBlock = some k → base ≤ k := fun k hk => (h.lt k hk).1

/-- what is owned and not empty lies in a block -/
theorem own_shape {w : World} {base e n : Nat} {v : Value} {xs : List Value} (h : w.ownsRow base e 1 v n xs) (hn : 0 < n) : ∃ g cap, v = .slice (some ⟨g, 0, none⟩) n cap ∧ base ≤ g ∧ g < w.heap.size ∧ n ≤ cap ∧ cap ≤ 9223372036854775807 := by
  rcases h.2 with ⟨_, h0⟩ | ⟨g, cap, cur, rfl, hb, hg, hnc, hcm, _⟩
  · omega
  · exact ⟨g, cap, rfl, hb, (Array.getElem?_eq_some_iff.1 hg).1, hnc, by unfold maxLen at hcm; omega⟩
theorem bs_set (l : List UInt8) (k : Nat) (b : UInt8) : (bs l).set k (u8 b) = bs (l.set k b) := List.map_set.symm

/-- 'make([]T, n)' of one-cell elements, as an equation for every world -/
theorem run_make_n {P : Program} (t e : TypeId) (i : TypeInfo) (z : Value) (ht : P.underlying t = some (.slice e)) (hi : P.info? e = some i) (hz : i.zero = some z) (hs : i.size = 1) (hz1 : z.cells = #[z])
    (n : Nat) (N : Int) (hN : N = (n : Int)) (hbytes : i.bytes * n ≤ 281474976710656) (h63 : n ≤ 9223372036854775807) (w : World) :
    (Instr.makeSlice t (.int .i64 N) (.int .i64 N)).run P w = .ok (.slice (some ⟨w.heap.size, 0, none⟩) n n) (w.alloc (.cells (List.replicate n z).toArray e)) := by
  subst hN
  have hb : (i.bytes : Int) * (n : Int) ≤ 281474976710656 := by
    have h : ((i.bytes * n : Nat) : Int) ≤ 281474976710656 := by omega
    rwa [Int.natCast_mul] at h
  have hr := run_make (P := P) w t e i z ht hi hz .i64 .i64 n n (by omega) (by omega) hb (by omega)
  simp only [Int.toNat_natCast] at hr
  rw [hr, hs, Nat.mul_one, hz1]
  congr 3
  rw [← toList_madeCells_one]

/-- a call that leaves the world alone, the world under a new name -/
theorem forget {P : Program} {f : FuncId} {args : Array Value} {w : World} {v : Value} (h : Calls P f args w fun e w' => e = .returned v ∧ w = w') : Calls P f args w fun e w' => e = .returned v ∧ Below w.heap.size w w' :=
  h.mono fun _ _ ⟨he, hw⟩ => ⟨he, hw ▸ Below.refl _ _⟩
/-- a new row, then whatever leaves all that was there alone -/
theorem below_new_then {w w1 : World} {o : Obj} (h : Below (w.alloc o).heap.size (w.alloc o) w1) : Below w.heap.size w w1 := below_trans (below_new w o) h (le_new _ _)

/-- a slice of bytes that came in -/
theorem open_bytes {H : Type} {enc : TypeId × Value → H} {P : Program} {W : World} {t e : TypeId} {v : Value} {d : DataW H} {ps : List MemPlace} {b0 : Nat}
    (ht : P.underlying t = some (.slice e)) (he : P.underlying e = some (.int .u8)) (hc : P.cellsOf e = 1) (hval : Value.okWide P W .any b0 t v) (hd : DataW.Trod enc P W 0 (fun _ => true) true t v d ps) :
    ∃ l : List UInt8, Rd W v (bs l) := by
  obtain ⟨a, len, cap, rfl⟩ := WideShapes.okWide_slice ht hval
  obtain ⟨fuel, hf⟩ := hd
  rcases ChangeShapes.open_ints ht he hc hf with ⟨hcs, _⟩ | ⟨x, l, c, zs, hcs, _, hl, hm, hz, _, hcell, hwz⟩
  · simp [Value.cells] at hcs
    obtain ⟨rfl, rfl, rfl⟩ := hcs
    exact ⟨[], Rd.nil W⟩
  · simp [Value.cells] at hcs
    obtain ⟨rfl, rfl, rfl⟩ := hcs
    obtain ⟨l, _, h⟩ := rd_of_row (w := W) (.inr ⟨x, rfl, hl, hm, by simpa using hz, hcell, hwz⟩)
    exact ⟨l, h⟩
theorem wf_u8 {n : Int} (h : (Lit.int .u8 n).wf = true) : ∃ b : UInt8, n = (b.toNat : Int) := by
  simp [Lit.wf] at h
  have e1 : IntKind.min .u8 = 0 := by decide
  have e2 : IntKind.max .u8 = 255 := by decide
  rw [e1, e2] at h
  exact ⟨UInt8.ofNat n.toNat, by rw [UInt8.toNat_ofNat']; omega⟩
theorem wf_u16 {n : Int} (h : (Lit.int .u16 n).wf = true) : ∃ m : Nat, n = (m : Int) ∧ m < 65536 := by
  simp [Lit.wf] at h
  have e1 : IntKind.min .u16 = 0 := by decide
  have e2 : IntKind.max .u16 = 65535 := by decide
  rw [e1, e2] at h
  exact ⟨n.toNat, by omega, by omega⟩
theorem wf_u32 {n : Int} (h : (Lit.int .u32 n).wf = true) : ∃ m : Nat, n = (m : Int) ∧ m < 4294967296 := by
  simp [Lit.wf] at h
  have e1 : IntKind.min .u32 = 0 := by decide
  have e2 : IntKind.max .u32 = 4294967295 := by decide
  rw [e1, e2] at h
  exact ⟨n.toNat, by omega, by omega⟩
theorem wf_i64 {n : Int} (h : (Lit.int .i64 n).wf = true) : -9223372036854775808 ≤ n ∧ n ≤ 9223372036854775807 := by
  simp [Lit.wf] at h
  exact h

/-! ### a struct of three cells in a box -/
def Box3 (w : World) (g : Nat) (x y z : Value) : Prop := w.cell? ⟨g, 0, none⟩ = some x ∧ w.cell? ⟨g, 1, none⟩ = some y ∧ w.cell? ⟨g, 2, none⟩ = some z
theorem Box3.new (w : World) (x y z : Value) (e : TypeId) : Box3 (w.alloc (.cells #[x, y, z] e)) w.heap.size x y z :=
  ⟨by rw [cell_of_row _ _ 0 _ _ _ (heap_alloc_new w _)]; rfl, by rw [cell_of_row _ _ 1 _ _ _ (heap_alloc_new w _)]; rfl, by rw [cell_of_row _ _ 2 _ _ _ (heap_alloc_new w _)]; rfl⟩
theorem Box3.below {w w1 : World} {g : Nat} {x y z : Value} (h : Box3 w g x y z) (hb : Below w.heap.size w w1) : Box3 w1 g x y z :=
  ⟨cell_later hb h.1, cell_later hb h.2.1, cell_later hb h.2.2⟩
theorem keepBox3 {w W W' : World} {g : Nat} {x y z : Value} (hb : Below W.heap.size W W') (h : (W.cell? ⟨g, 0, none⟩ = some x ∧ W.cell? ⟨g, 1, none⟩ = some y ∧ W.cell? ⟨g, 2, none⟩ = some z) ∧ Below w.heap.size w W) :
    (W'.cell? ⟨g, 0, none⟩ = some x ∧ W'.cell? ⟨g, 1, none⟩ = some y ∧ W'.cell? ⟨g, 2, none⟩ = some z) ∧ Below w.heap.size w W' :=
  ⟨Box3.below h.1 hb, below_trans h.2 hb h.2.size⟩
/-- the cells of a box of three while a call goes on making memory from B on -/
def In3 (B : Nat) (w1 : World) (g : Nat) (x y z : Value) (W : World) : Prop := (W.cell? ⟨g, 0, none⟩ = some x ∧ W.cell? ⟨g, 1, none⟩ = some y ∧ W.cell? ⟨g, 2, none⟩ = some z) ∧ Below B w1 W
theorem keepIn3 {B : Nat} {w1 W W' : World} {g : Nat} {x y z : Value} (hb : Below B W W') (hg : g < B) (h : In3 B w1 g x y z W) : In3 B w1 g x y z W' :=
  ⟨⟨(hb.cell hg).trans h.1.1, (hb.cell hg).trans h.1.2.1, (hb.cell hg).trans h.1.2.2⟩, h.2.trans hb⟩
/-- the world of a call under a name of its own -/
theorem at_world {P : Program} {f : FuncId} {args : Array Value} {w : World} {R : Ending → World → Prop} (h : ∀ W, W = w → Calls P f args W R) : Calls P f args w R := h w rfl
theorem at_wp {P : Program} {c : Code} {Q : Exit → Act → World → Prop} {a : Act} {w : World} (h : ∀ W, W = w → c.wp P Q a W) : c.wp P Q a w := h w rfl
theorem want_pos {c : Bool} {p q : Prop} (h : c = true) (hp : p) : if c = true then p else q := by rw [if_pos h]; exact hp
theorem in_size {B : Nat} {w0 W : World} {p : Prop} (h : p ∧ Below B w0 W) (hB : B ≤ w0.heap.size) : B ≤ W.heap.size := Nat.le_trans hB h.2.size
theorem below_size {B : Nat} {w w1 : World} (h : Below B w w1) (hB : B ≤ w.heap.size) : B ≤ w1.heap.size := Nat.le_trans hB h.size
theorem below_mono {B : Nat} {w w1 : World} (h : Below w.heap.size w w1) (hB : B ≤ w.heap.size) : Below B w w1 := h.mono hB
theorem own_lit (B : Nat) (w : World) (e : TypeId) (cs : Array Value) (n : Nat) (hB : B ≤ w.heap.size) (hn : n = cs.size) (h : cs.size ≤ 9223372036854775807) : (w.alloc (.cells cs e)).ownsRow B e 1 (.slice (some ⟨w.heap.size, 0, none⟩) n n) n cs.toList :=
  World.ownsRow_lit w cs n hB (by unfold maxLen; omega) (by omega)
theorem Box3.in_ {B : Nat} {w w1 : World} {g : Nat} {x y z : Value} (h : Box3 w g x y z) (hb : Below B w w1) (hg : g < B) : Box3 w1 g x y z :=
  ⟨(hb.cell hg).trans h.1, (hb.cell hg).trans h.2.1, (hb.cell hg).trans h.2.2⟩
theorem Box3.drew {w : World} {g : Nat} {x y z : Value} (h : Box3 w g x y z) : Box3 w.drew g x y z := h

theorem take_snoc {α : Type} (l : List α) (k : Nat) (h : k < l.length) : l.take (k + 1) = l.take k ++ [l[k]] := by
  rw [List.take_succ_eq_append_getElem h]
theorem wp_want {P : Program} {ops : Array Oper} {Q : Exit → Act → World → Prop} {a : Act} {w : World} {rest : List Oper} {o : Oper} (hw : Region.wanted o (yielded ops a.tmps) = true)
    (h : ∀ K : Act → World → Prop, (∀ a w, wpList P ops Q rest a w → K a w) → o.wp P a w K Q) : wpList P ops Q (o :: rest) a w := by
  simp only [wpList]
  rw [if_pos hw]
  exact .inl (h _ fun _ _ h => h)

end Go.Proofs.Ytibpipppabommaa.Cl
