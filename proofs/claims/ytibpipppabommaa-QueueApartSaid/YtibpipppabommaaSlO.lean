/- Slices of structs that somebody owns, wherever they lie in their row: appended to, cut. -/
import Derived.ArgAppend
import Derived.Test.YtibpipppabommaaOnto
import Derived.Test.YtibpipppabommaaRowP
set_option linter.unusedVariables false
set_option linter.unusedSimpArgs false
namespace Go.Proofs.Ytibpipppabommaa.Cl
open Go Go.Proofs Go.RowKit Fl

def SlO (w : World) (B : Nat) (e : TypeId) (sz : Nat) (v : Value) (n : Nat) (xs : List Value) : Prop :=
  xs.length = n * sz ∧ ((v = .slice none 0 0 ∧ n = 0) ∨
    ∃ g off cap cur, v = .slice (some ⟨g, off, none⟩) n cap ∧ B ≤ g ∧ RowAt w g e cur ∧ n ≤ cap ∧ cap ≤ maxLen ∧ off + cap * sz ≤ cur.size ∧ (cur.toList.drop off).take (n * sz) = xs)
section
variable {w w' : World} {B n sz : Nat} {e : TypeId} {v : Value} {xs : List Value}
theorem SlO.nil (w : World) (B : Nat) (e : TypeId) (sz : Nat) : SlO w B e sz (.slice none 0 0) 0 [] := ⟨by simp, .inl ⟨rfl, rfl⟩⟩
theorem SlO.of_own (h : w.ownsRow B e sz v n xs) : SlO w B e sz v n xs := by
  refine ⟨h.1, h.2.imp id ?_⟩
  rintro ⟨g, cap, cur, rfl, hb, hg, hn, hm, hc, ht⟩
  exact ⟨g, 0, cap, cur, rfl, hb, hg, hn, hm, by omega, by simpa using ht⟩
theorem SlO.mono {B' : Nat} (h : SlO w B e sz v n xs) (hB : B' ≤ B) : SlO w B' e sz v n xs := ⟨h.1, h.2.imp id fun ⟨g, off, cap, cur, h1, h2, h3⟩ => ⟨g, off, cap, cur, h1, Nat.le_trans hB h2, h3⟩⟩
theorem SlO.lt (h : SlO w B e sz v n xs) : ∀ k, v.ownBlock = some k → k < w.heap.size := by
  intro k hk
  rcases h.2 with ⟨rfl, _⟩ | ⟨g, off, cap, cur, rfl, _, hg, _⟩
  · cases hk
  · obtain rfl := Option.some.inj hk; exact hg.lt
theorem SlO.ge (h : SlO w B e sz v n xs) : ∀ k, v.ownBlock = some k → B ≤ k := by
  intro k hk
  rcases h.2 with ⟨rfl, _⟩ | ⟨g, off, cap, cur, rfl, hb, hg, _⟩
  · cases hk
  · obtain rfl := Option.some.inj hk; exact hb
theorem SlO.heap (h : SlO w B e sz v n xs) (hk : ∀ k, v.ownBlock = some k → w'.heap[k]? = w.heap[k]?) : SlO w' B e sz v n xs := by
  refine ⟨h.1, ?_⟩
  rcases h.2 with hn | ⟨g, off, cap, cur, rfl, hb, hg, hr⟩
  · exact .inl hn
  · exact .inr ⟨g, off, cap, cur, rfl, hb, (hk g rfl).trans hg, hr⟩
theorem SlO.below (h : SlO w B e sz v n xs) (hb : Below w.heap.size w w') : SlO w' B e sz v n xs := h.heap fun k hk => hb.block k (h.lt k hk)
theorem SlO.grown {g : Nat} (h : SlO w B e sz v n xs) (hg : w.grownBy w' (some g)) (hn : v.ownBlock ≠ some g) : SlO w' B e sz v n xs := h.heap fun k hk => hg.block k (h.lt k hk) fun e => hn (by rw [hk, e])
theorem SlO.shape (h : SlO w B e sz v n xs) : ∃ a cap, v = .slice a n cap ∧ n ≤ cap ∧ cap ≤ 9223372036854775807 := by
  rcases h.2 with ⟨rfl, rfl⟩ | ⟨g, off, cap, cur, rfl, _, _, hn, hm, _⟩
  · exact ⟨none, 0, rfl, Nat.le_refl _, by omega⟩
  · exact ⟨_, cap, rfl, hn, by unfold maxLen at hm; omega⟩
theorem SlO.some_ (h : SlO w B e sz v n xs) (hn : 0 < n) : ∃ g off cap, v = .slice (some ⟨g, off, none⟩) n cap ∧ n ≤ cap ∧ cap ≤ 9223372036854775807 ∧ B ≤ g ∧ g < w.heap.size ∧ ∀ j u, xs[j]? = some u → w.cell? ⟨g, off + j, none⟩ = some u := by
  rcases h.2 with ⟨_, rfl⟩ | ⟨g, off, cap, cur, rfl, hb, hg, hn, hm, hs, ht⟩
  · omega
  · refine ⟨g, off, cap, rfl, hn, by unfold maxLen at hm; omega, hb, hg.lt, fun j u hj => hg.cell _ _ ?_⟩
    rw [← ht, List.getElem?_take, List.getElem?_drop] at hj
    split at hj
    · simpa using hj
    · cases hj
theorem SlO.notRow {g : Nat} {t : TypeId} {cs : Array Value} (h : SlO w B e sz v n xs) (hr : RowAt w g t cs) (ht : t ≠ e) : v.ownBlock ≠ some g := by
  intro hk
  rcases h.2 with ⟨rfl, _⟩ | ⟨g', off, cap, cur, rfl, _, hg, _⟩
  · cases hk
  · obtain rfl := Option.some.inj hk
    unfold RowAt at hr hg
    rw [hr] at hg
    injection hg with hg
    injection hg with _ h2 _
    exact ht h2
end
section
variable {P : Program}
theorem run_append_roomO (w : World) (t ty e : TypeId) (i : TypeInfo) (ht : P.underlying t = some (.slice e)) (hi : P.info? e = some i)
    (g off sLen sCap : Nat) (cur : Array Value) (hg : w.heap[g]? = some (.cells cur e (0, 0)))
    (a : Addr) (m c : Nat) (news : List Value) (hl : news.length = m * i.size) (hnews : ∀ j u, news[j]? = some u → w.cell? (a.add j) = some u) (h1 : ∀ u ∈ news, u.oneCell' = true)
    (hroom : sLen + m ≤ sCap) (hfit : off + sLen * i.size + news.length ≤ cur.size) :
    (Builtin.append_ #[t, t] ty #[.slice (some ⟨g, off, none⟩) sLen sCap, .slice (some a) m c]).run P w =
      .ok (.slice (some ⟨g, off, none⟩) (sLen + m) sCap) (w.setRow g (cur.toList.take (off + sLen * i.size) ++ news ++ cur.toList.drop (off + sLen * i.size + news.length)).toArray) := by
  have hf := run_firstCells_some (P := P) w i.size m a m c news hl hnews
  have hst := run_storeCells_at P g (off + sLen * i.size) e news 0 cur w hg (by simpa using hfit) h1
  simp only [Nat.add_zero] at hst
  simp [Builtin.append_, run_underlying ht, sizeOf, typeInfo, hi, Builtin.lenOf, hroom, hf, Addr.add_lit, hst]
theorem run_slo_append {w : World} {B : Nat} (t ty e : TypeId) (i : TypeInfo) (z : Value) (sz bytes : Nat) (ht : P.underlying t = some (.slice e)) (hi : P.info? e = some i) (hz : i.zero = some z)
    (hsize : i.size = sz) (hby : i.bytes = bytes) (hzs : z.cells.size = sz) (hsz : 0 < sz)
    (v : Value) (n : Nat) (xs : List Value) (hown : SlO w B e sz v n xs)
    (a : Addr) (m c : Nat) (news : List Value) (hl : news.length = m * sz) (hnews : ∀ j u, news[j]? = some u → w.cell? (a.add j) = some u) (h1 : ∀ u ∈ news, u.oneCell' = true)
    (h63 : n + m ≤ maxLen) (hbytes : (n + m) * bytes ≤ 140737488355328) (hB : B ≤ w.heap.size) :
    ∃ v' w', (Builtin.append_ #[t, t] ty #[v, .slice (some a) m c]).run P w = .ok v' w' ∧ SlO w' B e sz v' (n + m) (xs ++ news) ∧ Onto w v w' v' := by
  have hlen : (xs ++ news).length = (n + m) * sz := by rw [List.length_append, hown.1, hl, Nat.add_mul]
  rcases hown.2 with ⟨rfl, rfl⟩ | ⟨g, off, cap, cur, rfl, hbg, hg, hnc, hcm, hcs, htake⟩
  · have hx : xs = [] := List.eq_nil_of_length_eq_zero (by simpa using hown.1)
    subst hx
    obtain ⟨v', w', hr, r1, r2, _, r4⟩ := run_append_own_at (P := P) w B t ty e i z sz bytes ht hi hz hsize hby hzs hsz _ 0 [] (World.ownsRow_nil w B e sz) a m c news hl hnews h1 h63 hbytes hB
    refine ⟨v', w', hr, SlO.of_own r1, r2, fun k hk => ?_⟩
    rcases r4 with e' | e'
    · exact .inl (e' ▸ hk)
    · rw [e'] at hk
      exact .inr (Nat.le_of_eq (Option.some.inj hk))
  · by_cases hroom : n + m ≤ cap
    · have hmul : (n + m) * sz ≤ cap * sz := Nat.mul_le_mul_right _ hroom
      rw [Nat.add_mul] at hmul
      have hfit : off + n * i.size + news.length ≤ cur.size := by rw [hl, hsize]; omega
      have hr := run_append_roomO (P := P) w t ty e i ht hi g off n cap cur hg a m c news (by rw [hl, hsize]) hnews h1 hroom hfit
      rw [hsize] at hr
      refine ⟨_, _, hr, ⟨hlen, .inr ⟨g, off, cap, _, rfl, hbg, setRow_heap w g cur _ e _ hg, hroom, hcm, ?_, ?_⟩⟩, ⟨rfl, rfl, rfl, by simp, fun k _ hk => setRow_other w g k _ (fun e => hk (by simp [Value.ownBlock, e]))⟩, fun k hk => .inl hk⟩
      · simp only [List.size_toArray, List.length_append, List.length_take, List.length_drop, Array.length_toList]
        omega
      · have hcl : cur.toList.length = cur.size := Array.length_toList
        rw [List.append_assoc, List.drop_append_of_le_length (by rw [List.length_take]; omega)]
        have e1 : (cur.toList.take (off + n * sz)).drop off = xs := by
          rw [List.drop_take, show off + n * sz - off = n * sz by omega]
          exact htake
        rw [e1, ← List.append_assoc, ← hlen]
        exact List.take_left
    · have holds : ∀ j u, xs[j]? = some u → w.cell? ((⟨g, off, none⟩ : Addr).add j) = some u := fun j u hj => by
        rw [Addr.add_lit]
        refine RowAt.cell hg _ _ ?_
        rw [← htake, List.getElem?_take, List.getElem?_drop] at hj
        split at hj
        · simpa using hj
        · cases hj
      obtain ⟨v', w', hr, r1, r2⟩ := run_append_arg_grows (P := P) w t ty e i z sz bytes ht hi hz hsize hby hzs hsz ⟨g, off, none⟩ n cap xs hown.1 holds a m c news hl hnews (by omega) h63 hbytes
      exact ⟨v', w', hr, (SlO.of_own r1).mono hB, ⟨r2.os, r2.tape, r2.output, r2.size, fun k hk _ => r2.block k hk (fun e => by cases e)⟩, fun k hk => .inr (own_ge r1 k hk)⟩
/-- 'v[1:]' -/
theorem run_slo_tail {B : Nat} (t e : TypeId) (sz : Nat) (ht : P.underlying t = some (.slice (P.elem t))) (he : P.elem t = e) (hs : ∀ w, (sizeOf e).run P w = .ok sz w) (v : Value) (n : Nat) (hn : 0 < n) (w0 : World) (xs0 : List Value) (h0 : SlO w0 B e sz v n xs0) :
    ∃ v', (∀ W, (Instr.sliceAt t v (some (.int .i64 1)) none none).run P W = .ok v' W) ∧ v'.ownBlock = v.ownBlock ∧ ∀ w xs, SlO w B e sz v n xs → SlO w B e sz v' (n - 1) (xs.drop sz) := by
  obtain ⟨g, off, cap, rfl, h1, h2, _⟩ := h0.some_ hn
  refine ⟨sliced (some ⟨g, off, none⟩) 1 n cap sz, fun W => ?_, ?_, fun w xs h => ?_⟩
  · rw [run_sliceAt_slice W t _ _ _ _ ht, run_slice_l W t (some ⟨g, off, none⟩) n cap ht .i64 1 (by omega) (by omega), he, hs]
    rfl
  · unfold sliced
    split <;> simp [Value.ownBlock, Addr.add_lit]
  · rcases h.2 with ⟨e', _⟩ | ⟨g', off', cap', cur, e', hb, hg, hn', hm, hfit, htake⟩
    · cases e'
    · injection e' with e1 e2 e3
      obtain rfl := e3
      injection Option.some.inj e1 with e4 e5 _
      subst e4 e5
      have hmul : cap * sz = (cap - 1) * sz + sz := by
        obtain ⟨c, rfl⟩ : ∃ c, cap = c + 1 := ⟨cap - 1, by omega⟩
        rw [Nat.add_mul, Nat.one_mul, Nat.add_sub_cancel]
      have hmuln : n * sz = (n - 1) * sz + sz := by
        obtain ⟨c, rfl⟩ : ∃ c, n = c + 1 := ⟨n - 1, by omega⟩
        rw [Nat.add_mul, Nat.one_mul, Nat.add_sub_cancel]
      refine ⟨by rw [List.length_drop, h.1]; omega, .inr ?_⟩
      by_cases hc : cap = 1
      · obtain rfl : n = 1 := by omega
        subst hc
        refine ⟨g, off, 0, cur, by unfold sliced; rw [if_pos rfl], hb, hg, by omega, by omega, by omega, ?_⟩
        have e' : xs.drop sz = [] := List.drop_eq_nil_of_le (by rw [h.1]; omega)
        rw [e']
        simp
      · refine ⟨g, off + sz, cap - 1, cur, by unfold sliced; rw [if_neg hc]; simp [Addr.add_lit], hb, hg, by omega, by omega, by omega, ?_⟩
        rw [← htake, List.drop_take, List.drop_drop]
        congr 1
        omega
end
end Go.Proofs.Ytibpipppabommaa.Cl
