/- The walks of the reference's numbers in bytes (High, Num) and of bytes.Equal. -/
import Derived.Test.YtibpipppabommaaInfo
import Derived.Test.YtibpipppabommaaRely
set_option linter.unusedVariables false
set_option linter.unusedSimpArgs false
namespace Go.Proofs.Ytibpipppabommaa.Cl
open Go Go.Proofs Go.RowKit Fl

/-! ### bytes that the call owns, in blocks from B on -/
def OB (w : World) (B : Nat) (v : Value) (l : List UInt8) : Prop := w.ownsRow B 5 1 v l.length (bs l)
theorem OB.below {w w1 : World} {B : Nat} {v : Value} {l : List UInt8} (h : OB w B v l) (hb : Below w.heap.size w w1) : OB w1 B v l := own_below h hb
theorem OB.drew {w : World} {B : Nat} {v : Value} {l : List UInt8} (h : OB w B v l) : OB w.drew B v l := h
theorem OB.mono {w : World} {B B' : Nat} {v : Value} {l : List UInt8} (h : OB w B' v l) (hB : B ≤ B') : OB w B v l := own_mono h hB
theorem OB.rd {w : World} {B : Nat} {v : Value} {l : List UInt8} (h : OB w B v l) : Rd w v (bs l) := Rd.of_own h
theorem OB.nil (w : World) (B : Nat) : OB w B (.slice none 0 0) [] := World.ownsRow_nil _ _ _ _
theorem OB.lit (B : Nat) (w : World) (l : List UInt8) (n : Nat) (hn : n = l.length) (hB : B ≤ w.heap.size) (h : l.length ≤ 9223372036854775807) : OB (w.alloc (.cells (bs l).toArray 5)) B (.slice (some ⟨w.heap.size, 0, none⟩) n n) l := by
  have := own_lit B w 5 (bs l).toArray l.length hB (by rw [List.size_toArray, bs_length]) (by rw [List.size_toArray, bs_length]; exact h)
  subst hn
  rwa [List.toList_toArray] at this
theorem OB.lit' (B : Nat) (w : World) (cs : Array Value) (l : List UInt8) (n : Nat) (hcs : cs.toList = bs l) (hn : n = l.length) (hB : B ≤ w.heap.size) (h : l.length ≤ 9223372036854775807) : OB (w.alloc (.cells cs 5)) B (.slice (some ⟨w.heap.size, 0, none⟩) n n) l := by
  have : cs = (bs l).toArray := by rw [← hcs]
  rw [this]
  exact OB.lit B w l n hn hB h
theorem cons_u8 {x : Int} {b : UInt8} {t t' : List Value} (h : x = (b.toNat : Int)) (ht : t = t') : Value.int .u8 x :: t = u8 b :: t' := by rw [h, ht]
theorem OB.ge {w : World} {B : Nat} {v : Value} {l : List UInt8} (h : OB w B v l) : ∀ k, v.ownBlock = some k → B ≤ k := own_ge h

theorem OB.of_append {w' : World} {B : Nat} {v' : Value} {l l' : List UInt8} (h : w'.ownsRow B 5 1 v' (l.length + (bs l').length) (bs l ++ bs l')) : OB w' B v' (l ++ l') := by
  unfold OB
  rw [List.length_append, show bs (l ++ l') = bs l ++ bs l' from List.map_append, ← bs_length l']
  exact h

/-- 'append(s, x...)' of bytes, at one operation -/
theorem wp_app {w : World} {o : Oper} {a : Act} {K : Act → World → Prop} {Q : Exit → Act → World → Prop} (B : Nat) (v u : Value) (l l' : List UInt8) (s x : Operand)
    (ho : o.op = .call { callee := .builtin .append, args := #[s, x], argTypes := #[49, 49] })
    (hs : a.eval s = v) (hx : a.eval x = u) (hown : OB w B v l) (hrd : Rd w u (bs l')) (hl : l.length + l'.length ≤ 1000000) (hB : B ≤ w.heap.size)
    (h : ∀ v' w', OB w' B v' (l ++ l') → Below B w w' → K (a.put o.dst v') w') : o.wp Try.prog a w K Q := by
  obtain ⟨i5, hi5, hz5, hs5, hb5⟩ := info_parts info5
  refine wp_append_rd s x 49 ho B 5 i5 (.int .u8 0) 1 Try.underlying49 hi5 hz5 hs5 hb5 rfl v u l.length (bs l) (bs l') hs hx hown hrd (oneCell_bs _) (by rw [bs_length]; unfold maxLen; omega) (by rw [bs_length]; omega) hB ?_
  intro v' w' r1 r2 _
  exact h v' w' (OB.of_append r1) (below_own (Below.refl B _) r2 hB hown.ge)
theorem wpList_app {w : World} {ops : Array Oper} {rest : List Oper} {o : Oper} {a : Act} {Q : Exit → Act → World → Prop} (B : Nat) (v u : Value) (l l' : List UInt8) (hgd : o.guard = none) (s x : Operand)
    (ho : o.op = .call { callee := .builtin .append, args := #[s, x], argTypes := #[49, 49] })
    (hs : a.eval s = v) (hx : a.eval x = u) (hown : OB w B v l) (hrd : Rd w u (bs l')) (hl : l.length + l'.length ≤ 1000000) (hB : B ≤ w.heap.size)
    (h : ∀ v' w', OB w' B v' (l ++ l') → Below B w w' → (v' = .slice none 0 0 ↔ v = .slice none 0 0 ∧ l' = []) → wpList Try.prog ops Q rest (a.put o.dst v') w') : wpList Try.prog ops Q (o :: rest) a w := by
  obtain ⟨i5, hi5, hz5, hs5, hb5⟩ := info_parts info5
  refine wpList_append_rd hgd s x 49 ho B 5 i5 (.int .u8 0) 1 Try.underlying49 hi5 hz5 hs5 hb5 rfl v u l.length (bs l) (bs l') hs hx hown hrd (oneCell_bs _) (by rw [bs_length]; unfold maxLen; omega) (by rw [bs_length]; omega) hB ?_
  intro v' w' r1 r2 r3
  exact h v' w' (OB.of_append r1) (below_own (Below.refl B _) r2 hB hown.ge) (by rw [r3]; simp)

theorem persist_OB (B : Nat) (l : List UInt8) : Rely.Persist (fun v W => OB W B v l) := fun v W W' h hb => h.below hb


theorem num_any (v : Value) (l : List UInt8) (w : World) (hv : Rd w v (bs l)) (h8 : l.length ≤ 8) :
    Calls Try.prog 50 #[v] w fun e w' => e = .returned (.int .u64 (num l)) ∧ w = w' := by
  obtain ⟨a, cap, rfl, hc1, hc2, hcell, _⟩ := hv
  rw [List.length_map] at *
  go_enter Try.func50, Try.ntmps50
  go_wp2
  go_loop [3, 4] (fun x i => ∃ k : Nat, k ≤ l.length ∧ i = .int .i64 k ∧ x = .int .u64 (num (l.take k))) (fun _ i => l.length - (intOf i).toNat)
  case atStart => exact ⟨0, Nat.zero_le _, rfl, rfl⟩
  case round =>
    obtain ⟨k, hk, rfl, rfl⟩ := hrel
    by_cases hlt : k < l.length
    · obtain ⟨ad, rfl, hcx⟩ := hcell k (by rw [List.length_map]; exact hlt)
      clear hcell
      have hts := Lib.hid (take_snoc l k hlt)
      rw [List.getElem_map] at hcx
      have hb := l[k].toNat_lt
      have hn : num (l.take k) < 256 ^ 7 := Nat.lt_of_lt_of_le (num_lt _) (Nat.pow_le_pow_right (by decide) (by rw [List.length_take]; omega))
      go_wp2
      go_round
      case rel => exact ⟨k + 1, by omega, by go_num, by rw [hts.out, num_snoc]; exact int_val (by omega)⟩
      case measure => simp [intOf]; omega
    · obtain rfl : k = l.length := by omega
      rw [List.take_length] at *
      go_wp2
      go_ret
      exact ⟨rfl, rfl⟩

theorem div_step (v k : Nat) : v / 256 ^ k / 256 = v / 256 ^ (k + 1) := by rw [Nat.div_div_eq_div_mul, Nat.pow_succ]

theorem high_any (v n : Nat) (w : World) (hv : v < 18446744073709551616) (hn : n ≤ 8) :
    Calls Try.prog 48 #[.int .u64 (v : Int), .int .i64 (n : Int)] w fun e w' => ∃ u, e = .returned u ∧ w'.ownsRow w.heap.size 5 1 u n (bs (be n v)) ∧ Below w.heap.size w w' := by
  obtain ⟨i5, hi5, hz5, hs5, hb5⟩ := info_parts info5
  go_enter Try.func48, Try.ntmps48
  go_wp2_with (first | (at_make; refine wpList_make_full _ rfl _ _ 49 rfl w.heap.size 5 i5 (.int .u8 0) 1 Try.underlying49 hi5 hz5 hs5 _ _ (n : Int) (n : Int) n rfl rfl (by omega) (by omega) (by rw [hb5]; omega) (by unfold maxLen; omega) (Nat.le_refl _) ?_))
  intro w1 hown hgrow
  have hbel := below_of_grown hgrow
  clear hgrow
  generalize (madeCells _ _).toList = xs0 at hown
  go_wp2
  go_loopw [0, 6] (fun x i wr => ∃ (k q : Nat) (xs : List Value), k ≤ n ∧ i = .int .i64 ((n : Int) - 1 - k) ∧ q = v / 256 ^ k ∧ x = .int .u64 (q : Int) ∧ wr.ownsRow w.heap.size 5 1 (.slice (some ⟨w.heap.size, 0, none⟩) n n) n xs ∧ (∀ j, n ≤ j + k → j < n → xs[j]? = some (u8 (UInt8.ofNat (v / 256 ^ (n - 1 - j))))) ∧ Below w.heap.size w wr) (fun _ i _ => (intOf i + 1).toNat)
  case atStart => exact ⟨0, v, xs0, by omega, by simp, by simp, rfl, hown, fun j h h' => by omega, hbel⟩
  case round =>
    clear hown hbel
    obtain ⟨k, q, xs, hk, rfl, hq, rfl, hown, hxs, hbel⟩ := hrel
    have hxl : xs.length = n := by simpa using hown.1
    have hbl := hbel.size
    have hvk : q < 18446744073709551616 := by rw [hq]; exact Nat.lt_of_le_of_lt (Nat.div_le_self _ _) hv
    have HQ := Lib.hid hq
    clear hq
    by_cases hlt : k < n
    · obtain ⟨m, rfl⟩ : ∃ m, n = m + k + 1 := ⟨n - k - 1, by omega⟩
      have em : ((m + k + 1 : Nat) : Int) - 1 - (k : Int) = (m : Int) := by omega
      rw [em]
      have hcx := hown.cellAt m (by omega)
      rw [List.getElem?_eq_getElem (by omega)] at hcx
      have hfx := hown.frozenAt m
      go_wp2
      go_roundw
      case rel =>
        refine ⟨k + 1, q / 256, xs.set m (u8 (UInt8.ofNat q)), by omega, int_val (by omega), by rw [HQ.out, div_step], int_val (by omega), ?_, fun j hj hj' => ?_, hbel.setCell (Nat.le_refl _) _⟩
        · have e : Value.int .u8 ((q : Int) % 256) = u8 (UInt8.ofNat q) := int_val (by rw [UInt8.toNat_ofNat']; omega)
          rw [e]; exact (hown.stored m _).1
        · by_cases e : j = m
          · subst e
            have e1 : j + k + 1 - 1 - j = k := by omega
            rw [List.getElem?_set_self (by omega), HQ.out, e1]
          · rw [List.getElem?_set_ne (by omega)]; exact hxs j (by omega) hj'
      case measure => simp [intOf]
    · obtain rfl : k = n := by omega
      have em : ((k : Int) - 1 - (k : Int)) = -1 := by omega
      rw [em]
      go_wp2
      go_ret
      refine ⟨_, rfl, ?_, hbel⟩
      have e : xs = bs (be k v) := by
        apply List.ext_getElem?
        intro j
        by_cases hj : j < k
        · rw [hxs j (by omega) hj, List.getElem?_map, be_get? _ _ _ hj]; rfl
        · rw [List.getElem?_eq_none (by omega), List.getElem?_eq_none (by rw [bs_length, be_length]; omega)]
      rw [← e]; exact hown

theorem highB_any (v n : Nat) (N : Int) (hN : N = (n : Int)) (B : Nat) (w : World) (hv : v < 18446744073709551616) (hn : n ≤ 8) (hB : B ≤ w.heap.size) :
    Calls Try.prog 48 #[.int .u64 (v : Int), .int .i64 N] w fun e w' => ∃ u, e = .returned u ∧ OB w' B u (be n v) ∧ Below w.heap.size w w' := by
  subst hN
  exact (high_any v n w hv hn).mono fun _ _ ⟨u, h1, h2, h3⟩ => ⟨u, h1, by unfold OB; rw [be_length]; exact own_mono h2 hB, h3⟩
theorem high2_any (v : Nat) (B : Nat) (w : World) (hv : v < 18446744073709551616) (hB : B ≤ w.heap.size) :
    Calls Try.prog 48 #[.int .u64 (v : Int), .int .i64 2] w fun e w' => ∃ u, e = .returned u ∧ OB w' B u (be 2 v) ∧ Below w.heap.size w w' ∧ Below B w w' :=
  (highB_any v 2 2 rfl B w hv (by decide) hB).mono fun _ _ ⟨u, h1, h2, h3⟩ => ⟨u, h1, h2, h3, h3.mono hB⟩
theorem high4_any (v : Nat) (B : Nat) (w : World) (hv : v < 18446744073709551616) (hB : B ≤ w.heap.size) :
    Calls Try.prog 48 #[.int .u64 (v : Int), .int .i64 4] w fun e w' => ∃ u, e = .returned u ∧ OB w' B u (be 4 v) ∧ Below w.heap.size w w' ∧ Below B w w' :=
  (highB_any v 4 4 rfl B w hv (by decide) hB).mono fun _ _ ⟨u, h1, h2, h3⟩ => ⟨u, h1, h2, h3, h3.mono hB⟩
end Go.Proofs.Ytibpipppabommaa.Cl
