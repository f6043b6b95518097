/- dev: the device in memory; of. -/
import Derived.Test.YtbagicjimfhmeaaDev1
set_option linter.unusedVariables false
set_option linter.unusedSimpArgs false
namespace Go.Proofs.Ytbagicjimfhmeaa.Cl
open Go Go.Proofs Go.RowKit Fl

abbrev ptr (g : Nat) : Value := .pointer (some ⟨g, 0, none⟩)
/-- writes that are not sure -/
def LL (w : World) (v : Value) (L : List (Nat × List UInt8)) : Prop := ∃ sl : List (Int × Value), w.ownsRow 0 86 2 v sl.length (sl.flatMap fun x => [.int .i64 x.1, x.2]) ∧ sl.length = L.length ∧ ∀ j (h : j < sl.length) (h' : j < L.length), sl[j].1 = (L[j].1 : Int) ∧ Byt w sl[j].2 L[j].2
theorem LL.nil (w : World) : LL w (.slice none 0 0) [] := ⟨[], World.ownsRow_nil _ _ _ _, rfl, fun j h => by simp at h⟩
theorem LL.lt {w : World} {v : Value} {L : List (Nat × List UInt8)} (h : LL w v L) : ∀ k, v.ownBlock = some k → k < w.heap.size := by
  obtain ⟨sl, h1, _⟩ := h
  exact own_lt h1
theorem LL.notB {w : World} {v : Value} {L : List (Nat × List UInt8)} (h : LL w v L) : ∀ k, v.ownBlock = some k → ¬ IsB w k := by
  obtain ⟨sl, h1, _⟩ := h
  exact own_notB h1 (by decide)
theorem LL.frm {F : Nat → Prop} {w w' : World} {v : Value} {L : List (Nat × List UInt8)} (h : LL w v L) (hf : Frm F w w') (hk : Keep8 w w') (hn : ∀ k, v.ownBlock = some k → ¬ F k) : LL w' v L := by
  obtain ⟨sl, h1, h2, h3⟩ := h
  exact ⟨sl, hf.own h1 hn, h2, fun j h h' => ⟨(h3 j h h').1, (h3 j h h').2.keep hk⟩⟩

/-! ### regions, devices -/
structure Rg where
  seen : List (List UInt8)
  sure : List (List UInt8)
  later : List (Nat × List UInt8)
  trace : List (List UInt8)
structure RgA where
  g : Nat
  vs : Value
  vu : Value
  vl : Value
  vt : Value
abbrev rgC (a : RgA) : Array Value := #[a.vs, a.vu, a.vl, a.vt]
def Blk (a : RgA) (k : Nat) : Prop := k = a.g ∨ a.vs.ownBlock = some k ∨ a.vu.ownBlock = some k ∨ a.vl.ownBlock = some k ∨ a.vt.ownBlock = some k
def noTwo (u v : Value) : Prop := ∀ k, u.ownBlock = some k → v.ownBlock ≠ some k
structure RgAt (w : World) (a : RgA) (r : Rg) : Prop where
  row : RowAt w a.g 82 (rgC a)
  seen : TL w 0 a.vs r.seen
  sure : TL w 0 a.vu r.sure
  later : LL w a.vl r.later
  trace : TL w 0 a.vt r.trace
  su : noTwo a.vs a.vu
  st : noTwo a.vs a.vt
  ut : noTwo a.vu a.vt
def HasTy (w : World) (k : Nat) (t : TypeId) : Prop := ∃ cs fr, w.heap[k]? = some (.cells cs t fr)
theorem HasTy.ne {w : World} {k : Nat} {t t' : TypeId} (h : HasTy w k t) (h' : HasTy w k t') : t = t' := by
  obtain ⟨cs, fr, h⟩ := h
  obtain ⟨cs', fr', h'⟩ := h'
  rw [h] at h'
  injection h' with h'
  injection h'
theorem RowAt.ty {w : World} {g : Nat} {t : TypeId} {cs : Array Value} (h : RowAt w g t cs) : HasTy w g t := ⟨_, _, h⟩
theorem own_ty {w : World} {B e s n : Nat} {v : Value} {xs : List Value} (h : w.ownsRow B e s v n xs) {k : Nat} (hk : v.ownBlock = some k) : HasTy w k e := by
  rcases h.2 with ⟨rfl, _⟩ | ⟨g, cap, cur, rfl, _, hg, _⟩
  · cases hk
  · obtain rfl := Option.some.inj hk
    exact ⟨_, _, hg⟩
theorem TL.ty {w : World} {B : Nat} {v : Value} {L : List (List UInt8)} (h : TL w B v L) {k : Nat} (hk : v.ownBlock = some k) : HasTy w k 34 := by
  obtain ⟨sl, h1, _⟩ := h
  exact own_ty h1 hk
theorem LL.ty {w : World} {v : Value} {L : List (Nat × List UInt8)} (h : LL w v L) {k : Nat} (hk : v.ownBlock = some k) : HasTy w k 86 := by
  obtain ⟨sl, h1, _⟩ := h
  exact own_ty h1 hk
theorem RgAt.ty {w : World} {a : RgA} {r : Rg} (h : RgAt w a r) {k : Nat} (hk : Blk a k) : HasTy w k 82 ∨ HasTy w k 34 ∨ HasTy w k 86 := by
  rcases hk with rfl | hk | hk | hk | hk
  · exact .inl h.row.ty
  · exact .inr (.inl (h.seen.ty hk))
  · exact .inr (.inl (h.sure.ty hk))
  · exact .inr (.inr (h.later.ty hk))
  · exact .inr (.inl (h.trace.ty hk))
theorem HasTy.lt {w : World} {k : Nat} {t : TypeId} (h : HasTy w k t) : k < w.heap.size := by
  obtain ⟨cs, fr, h⟩ := h
  exact (Array.getElem?_eq_some_iff.1 h).1
theorem RgAt.lt {w : World} {a : RgA} {r : Rg} (h : RgAt w a r) {k : Nat} (hk : Blk a k) : k < w.heap.size := by
  rcases h.ty hk with h | h | h <;> exact h.lt
theorem RgAt.notB {w : World} {a : RgA} {r : Rg} (h : RgAt w a r) {k : Nat} (hk : Blk a k) : ¬ IsB w k := fun hb => by
  have hb : HasTy w k 5 := hb
  rcases h.ty hk with h | h | h
  · exact absurd (h.ne hb) (by decide)
  · exact absurd (h.ne hb) (by decide)
  · exact absurd (h.ne hb) (by decide)
theorem RgAt.frm {F : Nat → Prop} {w w' : World} {a : RgA} {r : Rg} (h : RgAt w a r) (hf : Frm F w w') (hk : Keep8 w w') (hn : ∀ k, Blk a k → ¬ F k) : RgAt w' a r :=
  ⟨hf.row h.row (hn _ (.inl rfl)), h.seen.frm hf hk fun k e => hn k (.inr (.inl e)), h.sure.frm hf hk fun k e => hn k (.inr (.inr (.inl e))), h.later.frm hf hk fun k e => hn k (.inr (.inr (.inr (.inl e)))), h.trace.frm hf hk fun k e => hn k (.inr (.inr (.inr (.inr e)))), h.su, h.st, h.ut⟩
abbrev Dv := List Rg × Int
structure DR (w : World) (gd : Nat) (vl : Value) (rs : List RgA) (D : Dv) : Prop where
  row : RowAt w gd 78 #[vl, .int .i64 D.2]
  own : w.ownsRow 0 79 1 vl rs.length (rs.map fun a => ptr a.g)
  len : rs.length = D.1.length
  rg : ∀ i (h : i < rs.length) (h' : i < D.1.length), RgAt w rs[i] D.1[i]
  apart : ∀ i j (hi : i < rs.length) (hj : j < rs.length), i ≠ j → ∀ k, Blk rs[i] k → ¬ Blk rs[j] k
/-- all that a device writes -/
def FP (gd : Nat) (vl : Value) (rs : List RgA) (k : Nat) : Prop := k = gd ∨ vl.ownBlock = some k ∨ ∃ a ∈ rs, Blk a k
def DevRep (w : World) (gd : Nat) (F : Nat → Prop) (D : Dv) : Prop := ∃ vl rs, DR w gd vl rs D ∧ ∀ k, FP gd vl rs k → F k
theorem DR.at_ {w : World} {gd : Nat} {vl : Value} {rs : List RgA} {D : Dv} (h : DR w gd vl rs D) {a : RgA} (ha : a ∈ rs) : ∃ i, ∃ (h1 : i < rs.length) (h2 : i < D.1.length), rs[i] = a ∧ RgAt w a D.1[i] := by
  obtain ⟨i, hi, rfl⟩ := List.getElem_of_mem ha
  exact ⟨i, hi, by have := h.len; omega, rfl, h.rg i hi (by have := h.len; omega)⟩
theorem DR.frm {F : Nat → Prop} {w w' : World} {gd : Nat} {vl : Value} {rs : List RgA} {D : Dv} (h : DR w gd vl rs D) (hf : Frm F w w') (hk : Keep8 w w') (hn : ∀ k, FP gd vl rs k → ¬ F k) : DR w' gd vl rs D :=
  ⟨hf.row h.row (hn _ (.inl rfl)), hf.own h.own fun k e => hn k (.inr (.inl e)), h.len, fun i hi hi' => (h.rg i hi hi').frm hf hk fun k hb => hn k (.inr (.inr ⟨_, List.getElem_mem hi, hb⟩)), h.apart⟩
theorem DR.lt {w : World} {gd : Nat} {vl : Value} {rs : List RgA} {D : Dv} (h : DR w gd vl rs D) {k : Nat} (hk : FP gd vl rs k) : k < w.heap.size := by
  rcases hk with rfl | hk | ⟨a, ha, hk⟩
  · exact h.row.lt
  · exact own_lt h.own k hk
  · obtain ⟨i, _, _, _, hr⟩ := h.at_ ha
    exact hr.lt hk
theorem DevRep.frm {F G : Nat → Prop} {w w' : World} {gd : Nat} {D : Dv} (h : DevRep w gd G D) (hf : Frm F w w') (hk : Keep8 w w') (hn : ∀ k, k < w.heap.size → G k → ¬ F k) : DevRep w' gd G D := by
  obtain ⟨vl, rs, h1, h2⟩ := h
  exact ⟨vl, rs, h1.frm hf hk fun k hF => hn k (h1.lt hF) (h2 k hF), h2⟩
theorem DevRep.below {G : Nat → Prop} {w w' : World} {gd : Nat} {D : Dv} (h : DevRep w gd G D) (hb : Below w.heap.size w w') : DevRep w' gd G D := h.frm (Frm.of_below (fun _ => False) hb) (Keep8.of_below hb) fun _ _ _ h => h
theorem DevRep.mono {F G : Nat → Prop} {w : World} {gd : Nat} {D : Dv} (h : DevRep w gd F D) (hG : ∀ k, k < w.heap.size → F k → G k) : DevRep w gd G D := by
  obtain ⟨vl, rs, h1, h2⟩ := h
  exact ⟨vl, rs, h1, fun k hF => hG k (h1.lt hF) (h2 k hF)⟩

theorem RgAt.cs {w : World} {a : RgA} {r : Rg} (h : RgAt w a r) : w.cell? ⟨a.g, 0, none⟩ = some a.vs := h.row.cell 0 _ rfl
theorem RgAt.cu {w : World} {a : RgA} {r : Rg} (h : RgAt w a r) : w.cell? ⟨a.g, 1, none⟩ = some a.vu := h.row.cell 1 _ rfl
theorem RgAt.cl {w : World} {a : RgA} {r : Rg} (h : RgAt w a r) : w.cell? ⟨a.g, 2, none⟩ = some a.vl := h.row.cell 2 _ rfl
theorem RgAt.ct {w : World} {a : RgA} {r : Rg} (h : RgAt w a r) : w.cell? ⟨a.g, 3, none⟩ = some a.vt := h.row.cell 3 _ rfl
theorem DR.cl {w : World} {gd : Nat} {vl : Value} {rs : List RgA} {D : Dv} (h : DR w gd vl rs D) : w.cell? ⟨gd, 0, none⟩ = some vl := h.row.cell 0 _ rfl
theorem DR.left {w : World} {gd : Nat} {vl : Value} {rs : List RgA} {D : Dv} (h : DR w gd vl rs D) : w.cell? ⟨gd, 1, none⟩ = some (.int .i64 D.2) := h.row.cell 1 _ rfl

/-! ### of -/
def inD (D : Dv) (r i : Int) : Prop := 0 ≤ r ∧ r < D.1.length ∧ 0 ≤ i ∧ ∃ g, D.1[r.toNat]? = some g ∧ i < g.seen.length
theorem DR.cells {w : World} {gd : Nat} {vl : Value} {rs : List RgA} {D : Dv} (h : DR w gd vl rs D) (h0 : 0 < rs.length) : ∃ gl c, vl = .slice (some ⟨gl, 0, none⟩) rs.length c ∧ rs.length ≤ c ∧ c ≤ 9223372036854775807 ∧ ∀ j (hj : j < rs.length), w.cell? ⟨gl, j, none⟩ = some (ptr rs[j].g) := by
  obtain ⟨gl, c, rfl, h1, h2, h3, h4⟩ := own_shape h.own h0
  refine ⟨gl, c, rfl, h3, h4, fun j hj => ?_⟩
  obtain ⟨ad, e, hc⟩ := (Rd.of_own h.own).at_ j (by simpa using hj)
  obtain rfl := Option.some.inj e
  rw [Addr.add_lit, Nat.zero_add] at hc
  rw [hc]
  simp
theorem DR.vlen {w : World} {gd : Nat} {vl : Value} {rs : List RgA} {D : Dv} (h : DR w gd vl rs D) : ∃ a c, vl = .slice a rs.length c := by
  obtain ⟨a, c, e, _⟩ := Rd.of_own h.own
  rw [List.length_map] at e
  exact ⟨a, c, e⟩
theorem of_yes {w : World} {gd : Nat} {vl : Value} {rs : List RgA} {D : Dv} (h : DR w gd vl rs D) (r i : Nat) (hr : r < rs.length) (hr' : r < D.1.length) (hi : i < D.1[r].seen.length) :
    Calls Try.prog 41 #[ptr gd, .int .i64 r, .int .i64 i] w fun e w' => e = .returned (ptr rs[r].g) ∧ w = w' := by
  obtain ⟨gl, c, rfl, h1, h2, hc⟩ := h.cells (by omega)
  have c0 := h.cl
  have c1 := hc r hr
  have R := h.rg r hr hr'
  have c2 := R.cs
  obtain ⟨a, k, e, k1, k2⟩ := R.seen.len
  rw [e] at c2
  generalize rs[r].g = gr at *
  generalize D.1[r].seen.length = m at *
  have n1 : (r : Int) < (rs.length : Int) := by omega
  have n2 : (i : Int) < (m : Int) := by omega
  clear R hc e h hr'
  generalize rs.length = n at *
  go_enter Try.func41, Try.ntmps41
  go_wp2_with fail
  go_ret
  exact ⟨rfl, rfl⟩
theorem of_no {w : World} {gd : Nat} {vl : Value} {rs : List RgA} {D : Dv} (h : DR w gd vl rs D) (r i : Int) (hn : ¬ inD D r i) :
    Calls Try.prog 41 #[ptr gd, .int .i64 r, .int .i64 i] w fun e w' => e = .returned (.pointer none) ∧ w = w' := by
  have c0 := h.cl
  have hl := h.len
  by_cases a1 : r < 0
  · go_enter Try.func41, Try.ntmps41
    go_wp2_with fail
    go_ret
    exact ⟨rfl, rfl⟩
  · have a1' : 0 ≤ r := by omega
    obtain ⟨a, c, rfl⟩ := h.vlen
    by_cases a2 : r < (rs.length : Int)
    · by_cases a3 : i < 0
      · clear hn hl
        generalize rs.length = n at *
        go_enter Try.func41, Try.ntmps41
        go_wp2_with fail
        go_ret
        exact ⟨rfl, rfl⟩
      · obtain ⟨r, rfl⟩ := Int.eq_ofNat_of_zero_le a1'
        have hr : r < rs.length := by omega
        have hr' : r < D.1.length := by omega
        obtain ⟨gl, c, e, h1, h2, hc⟩ := h.cells (by omega)
        injection e with e1 _ e3
        subst e1 e3
        have c1 := hc r hr
        have R := h.rg r hr hr'
        have c2 := R.cs
        obtain ⟨a, k, e, k1, k2⟩ := R.seen.len
        have a4 : (D.1[r].seen.length : Int) ≤ i := by
          refine Int.not_lt.1 fun hlt => hn ⟨a1', by omega, by omega, D.1[r], ?_, hlt⟩
          rw [Int.toNat_natCast]
          exact List.getElem?_eq_getElem hr'
        rw [e] at c2
        generalize rs[r].g = gr at *
        generalize D.1[r].seen.length = m at *
        clear R hc e h hr' hn hl
        generalize rs.length = n at *
        have a5 : ¬ i < (m : Int) := by omega
        have a6 : 0 ≤ i := by omega
        go_enter Try.func41, Try.ntmps41
        go_wp2_with fail
        go_ret
        exact ⟨rfl, rfl⟩
    · clear hn hl
      generalize rs.length = n at *
      go_enter Try.func41, Try.ntmps41
      go_wp2_with fail
      go_ret
      exact ⟨rfl, rfl⟩
theorem of_nil (r i : Int) (w : World) : Calls Try.prog 41 #[.pointer none, .int .i64 r, .int .i64 i] w fun e w' => e = .returned (.pointer none) ∧ w = w' := by
  go_enter Try.func41, Try.ntmps41
  go_wp2_with fail
  go_ret
  exact ⟨rfl, rfl⟩
end Go.Proofs.Ytbagicjimfhmeaa.Cl
