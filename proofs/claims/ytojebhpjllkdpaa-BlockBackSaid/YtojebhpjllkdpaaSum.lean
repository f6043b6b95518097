/- The walks of sum, of the reference's Sum, of Out and Intact, of begun. -/
import Derived.Test.YtojebhpjllkdpaaProg
import Derived.Test.YtojebhpjllkdpaaBase
import Derived.Test.YtojebhpjllkdpaaPure
import Derived.Lib.SlBytesConst
set_option linter.unusedVariables false
set_option linter.unusedSimpArgs false
namespace Go.Proofs.Ytojebhpjllkdpaa.Cl
open Go Go.Proofs Go.RowKit Fl

theorem info5 : (Try.prog.info? 5).map (fun i => (i.zero, i.size, i.bytes)) = some (some (.int .u8 0), 1, 1) := by kernel_rfl
theorem start_cx {l : List UInt8} : Value.complex .f64 4607182418800017408 0 = .complex .f64 (fl (sumSt (List.take 0 l)).1) (fl (sumSt (List.take 0 l)).2) := by
  rw [List.take_zero]; show _ = Value.complex .f64 (fl 1) (fl 0); rw [fl1, fl0]

theorem sumOn_any (p : Nat × Nat) (b : UInt8) (w : World) (h1 : p.1 < 65521 ∧ p.2 < 65521) :
   Calls Try.prog 42 #[.complex .f64 (fl p.1) (fl p.2), .int .u8 (b.toNat : Int)] w fun e w' => e = .returned (.complex .f64 (fl (sumOn p b).1) (fl (sumOn p b).2)) ∧ w = w' := by
  obtain ⟨a, c⟩ := p
  obtain ⟨h1, h2⟩ := h1
  have hb := b.toNat_lt
  unfold sumOn
  generalize b.toNat = b at *
  dsimp only at *
  have e1 := conv_fi Try.prog 71 3 .i64 a (by kernel_rfl) Try.underlying3 (by omega) (by rw [min64]; omega) (by rw [max64]; omega)
  have e2 := conv_fi Try.prog 71 3 .i64 c (by kernel_rfl) Try.underlying3 (by omega) (by rw [min64]; omega) (by rw [max64]; omega)
  go_enter Try.func42, Try.ntmps42
  go_wp2
  go_ret
  refine ⟨?_, rfl⟩
  exact ret_cx (by omega) (by omega)

theorem sum_any (v : Value) (l : List UInt8) (w : World) (hv : Rd w v (bs l)) :
    Calls Try.prog 17 #[v] w fun e w' => e = .returned (.int .u32 (sumN l)) ∧ w = w' := by
  obtain ⟨a, cap, rfl, hc1, hc2, hcell, _⟩ := hv
  rw [List.length_map] at *
  go_enter Try.func17, Try.ntmps17
  go_wp2
  go_loop [3, 8] (fun z i => ∃ k : Nat, k ≤ l.length ∧ i = .int .i64 k ∧ z = .complex .f64 (fl (sumSt (l.take k)).1) (fl (sumSt (l.take k)).2)) (fun _ i => l.length - (intOf i).toNat)
  case atStart => exact ⟨0, Nat.zero_le _, rfl, start_cx⟩
  case round =>
    obtain ⟨k, hk, rfl, rfl⟩ := hrel
    have hlt0 := sumSt_lt (l.take k)
    by_cases hlt : k < l.length
    · obtain ⟨ad, rfl, hcx⟩ := hcell k (by rw [List.length_map]; exact hlt)
      clear hcell
      have hts := Lib.hid (take_snoc l k hlt)
      rw [List.getElem_map] at hcx
      go_wp2_with (go_at_call 42; refine (sumOn_any _ _ _ hlt0).mono ?_; rintro e w' ⟨rfl, rfl⟩)
      go_round
      case rel => exact ⟨k + 1, by omega, by go_num, by rw [hts.out, sumSt_snoc]⟩
      case measure => simp [intOf]; omega
    · obtain rfl : k = l.length := by omega
      rw [List.take_length] at *
      have e1 := conv_fi Try.prog 71 25 .u32 (sumSt l).1 (by kernel_rfl) Try.underlying25 (by omega) (by rw [minu32]; omega) (by rw [maxu32]; omega)
      have e2 := conv_fi Try.prog 71 25 .u32 (sumSt l).2 (by kernel_rfl) Try.underlying25 (by omega) (by rw [minu32]; omega) (by rw [maxu32]; omega)
      go_wp2
      go_ret
      exact ⟨ret_int (by unfold sumN; omega), rfl⟩

theorem refSum_any (v : Value) (l : List UInt8) (w : World) (hv : Rd w v (bs l)) :
    Calls Try.prog 18 #[v] w fun e w' => e = .returned (.int .u32 (sumN l)) ∧ w = w' := by
  obtain ⟨a, cap, rfl, hc1, hc2, hcell, _⟩ := hv
  rw [List.length_map] at *
  go_enter Try.func18, Try.ntmps18
  go_wp2
  go_loop [3, 4, 5] (fun x y i => ∃ k : Nat, k ≤ l.length ∧ i = .int .i64 k ∧ x = .int .u64 (sumSt (l.take k)).1 ∧ y = .int .u64 (sumSt (l.take k)).2) (fun _ _ i => l.length - (intOf i).toNat)
  case atStart => exact ⟨0, Nat.zero_le _, rfl, rfl, rfl⟩
  case round =>
    obtain ⟨k, hk, rfl, rfl, rfl⟩ := hrel
    have hlt0 := sumSt_lt (l.take k)
    by_cases hlt : k < l.length
    · obtain ⟨ad, rfl, hcx⟩ := hcell k (by rw [List.length_map]; exact hlt)
      clear hcell
      have hts := Lib.hid (take_snoc l k hlt)
      rw [List.getElem_map] at hcx
      have hb := l[k].toNat_lt
      go_wp2
      go_round
      case rel =>
        refine ⟨k + 1, by omega, by go_num, ?_, ?_⟩
        · rw [hts.out, sumSt_snoc]; unfold sumOn; exact int_val (by omega)
        · rw [hts.out, sumSt_snoc]; unfold sumOn; exact int_val (by omega)
      case measure => simp [intOf]; omega
    · obtain rfl : k = l.length := by omega
      rw [List.take_length] at *
      go_wp2
      go_ret
      exact ⟨ret_int (by unfold sumN; omega), rfl⟩

/-! ### what statements hand out -/
/-- bytes that were handed out with a tail in the same room -/
def OutOf (w : World) (B : Nat) (v : Value) (l : List UInt8) : Prop :=
  ∃ g, v = .slice (some ⟨g, 0, none⟩) l.length (l.length + 7) ∧ w.ownsRow B 5 1 (.slice (some ⟨g, 0, none⟩) (l.length + 7) (l.length + 7)) (l.length + 7) (bs (l ++ tail7 l.length))

theorem OutOf.below {w w1 : World} {B : Nat} {v : Value} {l : List UInt8} (h : OutOf w B v l) (hb : Below w.heap.size w w1) : OutOf w1 B v l := by
  obtain ⟨g, rfl, h⟩ := h
  exact ⟨g, rfl, own_below h hb⟩

theorem OutOf.rd {w : World} {B : Nat} {v : Value} {l : List UInt8} (h : OutOf w B v l) : Rd w v (bs l) := by
  obtain ⟨g, rfl, h⟩ := h
  have := (Rd.of_own h).take l.length (by simp)
  simpa [List.map_append] using this

theorem out_cells (l : List UInt8) (xs : List Value) (hxl : xs.length = l.length + 7) (hxs : ∀ j (_ : j < l.length), xs[j]? = (bs l)[j]?) (hts : ∀ j, l.length ≤ j → j < l.length + 7 → xs[j]? = some (u8 (tl j))) :
    xs = bs (l ++ tail7 l.length) := by
  apply List.ext_getElem?
  intro j
  rw [show bs (l ++ tail7 l.length) = bs l ++ bs (tail7 l.length) from List.map_append]
  by_cases h1 : j < l.length
  · rw [hxs j h1, List.getElem?_append_left (by simpa using h1)]
  · rw [List.getElem?_append_right (by simp; omega)]
    by_cases h2 : j < l.length + 7
    · rw [hts j (by omega) h2]
      have h7 : j - l.length < 7 := by omega
      have hj : l.length + (j - l.length) = j := by omega
      simp [tail7, h7, hj]
    · rw [List.getElem?_eq_none (by omega), List.getElem?_eq_none (by simp [tail7_length]; omega)]
theorem out_at (l : List UInt8) (k : Nat) (h0 : l.length ≤ k) (h : k < l.length + 7) : (bs (l ++ tail7 l.length))[k]? = some (.int .u8 (60 + (k : Int) % 7)) := by
  rw [show bs (l ++ tail7 l.length) = bs l ++ bs (tail7 l.length) from List.map_append, List.getElem?_append_right (by simp; omega)]
  have h7 : k - l.length < 7 := by omega
  have hj : l.length + (k - l.length) = k := by omega
  simp [tail7, h7, hj, tl_toNat]

theorem out_any (v : Value) (l : List UInt8) (w : World) (hv : Rd w v (bs l)) (hl : l.length ≤ 100000) :
    Calls Try.prog 16 #[v] w fun e w' => ∃ u, e = .returned u ∧ OutOf w' w.heap.size u l ∧ Below w.heap.size w w' := by
  obtain ⟨i5, hi5, hz5, hs5, hb5⟩ := info_parts info5
  obtain ⟨a, cap, rfl, hc1, hc2, hcell, _⟩ := hv
  rw [List.length_map] at *
  go_enter Try.func16, Try.ntmps16
  go_wp2_with (first | (at_make; refine wpList_make_full _ rfl _ _ 22 rfl w.heap.size 5 i5 (.int .u8 0) 1 Try.underlying22 hi5 hz5 hs5 _ _ ((l.length : Int) + 7) ((l.length : Int) + 7) (l.length + 7) rfl rfl (by omega) (by omega) (by rw [hb5]; omega) (by unfold maxLen; omega) (Nat.le_refl _) ?_))
  intro w1 hown hgrow
  have hbel := below_of_grown hgrow
  clear hgrow
  generalize (madeCells _ _).toList = xs0 at hown
  go_wp2
  go_loopw [4] (fun i wr => ∃ (k : Nat) (xs : List Value), k ≤ l.length + 7 ∧ i = .int .i64 k ∧ wr.ownsRow w.heap.size 5 1 (.slice (some ⟨w.heap.size, 0, none⟩) (l.length + 7) (l.length + 7)) (l.length + 7) xs ∧ (∀ j, j < k → xs[j]? = some (u8 (tl j))) ∧ Below w.heap.size w wr) (fun i _ => l.length + 7 - (intOf i).toNat)
  case atStart => exact ⟨0, xs0, by omega, rfl, hown, fun j h => by omega, hbel⟩
  case round =>
    obtain ⟨k, xs, hk, rfl, hown, hxs, hbel⟩ := hrel
    have hxl : xs.length = l.length + 7 := by simpa using hown.1
    by_cases hlt : k < l.length + 7
    · have hcx := hown.cellAt k (by omega)
      rw [List.getElem?_eq_getElem (by omega)] at hcx
      have hfx := hown.frozenAt k
      have hbl := hbel.size
      go_wp2
      go_roundw
      case rel =>
        refine ⟨k + 1, xs.set k (u8 (tl k)), by omega, by go_num, ?_, fun j hj => ?_, ?_⟩
        · have e : Value.int .u8 (60 + (k : Int) % 7) = u8 (tl k) := int_val (by rw [tl_toNat]; omega)
          rw [e]; exact (hown.stored k _).1
        · by_cases e : j = k
          · subst e; rw [List.getElem?_set_self (by omega)]
          · rw [List.getElem?_set_ne (by omega)]; exact hxs j (by omega)
        · exact hbel.setCell (Nat.le_refl _) _
      case measure => simp [intOf]; omega
    · obtain rfl : k = l.length + 7 := by omega
      go_wp2
      go_loopw [5] (fun i wr => ∃ (k : Nat) (xs : List Value), k ≤ l.length ∧ i = .int .i64 k ∧ wr.ownsRow w.heap.size 5 1 (.slice (some ⟨w.heap.size, 0, none⟩) (l.length + 7) (l.length + 7)) (l.length + 7) xs ∧ (∀ j (_ : j < k), xs[j]? = (bs l)[j]?) ∧ (∀ j, l.length ≤ j → j < l.length + 7 → xs[j]? = some (u8 (tl j))) ∧ Below w.heap.size w wr) (fun i _ => l.length - (intOf i).toNat)
      case atStart => exact ⟨0, xs, by omega, rfl, hown, fun j h => by omega, fun j h h' => hxs j h', hbel⟩
      case round =>
        clear hown hxl hxs hbel
        obtain ⟨k, xs, hk, rfl, hown, hxs, hts, hbel⟩ := hrel
        have hxl : xs.length = l.length + 7 := by simpa using hown.1
        have hbl := hbel.size
        by_cases hlt : k < l.length
        · have hcx := hown.cellAt k (by omega)
          rw [List.getElem?_eq_getElem (by omega)] at hcx
          have hfx := hown.frozenAt k
          obtain ⟨ad, rfl, hsx⟩ := hcell k (by rw [List.length_map]; exact hlt)
          rw [List.getElem_map] at hsx
          have hsx := cell_later hbel hsx
          clear hcell
          go_wp2
          go_roundw
          case rel =>
            refine ⟨k + 1, xs.set k (u8 l[k]), by omega, by go_num, (hown.stored k _).1, fun j hj => ?_, fun j h h' => ?_, hbel.setCell (Nat.le_refl _) _⟩
            · by_cases e : j = k
              · subst e; rw [List.getElem?_set_self (by omega)]; simp [hlt]
              · rw [List.getElem?_set_ne (by omega)]; exact hxs j (by omega)
            · rw [List.getElem?_set_ne (by omega)]; exact hts j h h'
          case measure => simp [intOf]; omega
        · obtain rfl : k = l.length := by omega
          go_wp2
          go_ret
          refine ⟨_, rfl, ⟨_, rfl, ?_⟩, hbel⟩
          rw [← out_cells l xs hxl hxs hts]; exact hown

theorem intact_any (v u : Value) (l : List UInt8) (B : Nat) (w : World) (hv : OutOf w B v l) (hu : Rd w u (bs l)) (hl : l.length ≤ 100000) :
    Calls Try.prog 19 #[v, u] w fun e w' => e = .returned (.bool true) ∧ w = w' := by
  have hs1 := run_string_of (P := Try.prog) hv.rd 22 5 9 Try.underlying22 Try.underlying5 Try.underlying9
  have hs2 := run_string_of (P := Try.prog) hu 22 5 9 Try.underlying22 Try.underlying5 Try.underlying9
  obtain ⟨g, rfl, hown⟩ := hv
  obtain ⟨a, cap, rfl, hc1, hc2, hcell, _⟩ := hu
  rw [List.length_map] at *
  go_enter Try.func19, Try.ntmps19
  go_wp2
  go_loop [5] (fun i => ∃ k : Nat, l.length ≤ k ∧ k ≤ l.length + 7 ∧ i = .int .i64 k) (fun i => l.length + 7 - (intOf i).toNat)
  case atStart => exact ⟨l.length, by omega, by omega, rfl⟩
  case round =>
    obtain ⟨k, hk0, hk, rfl⟩ := hrel
    by_cases hlt : k < l.length + 7
    · have hcx := hown.cellAt k (by omega)
      rw [out_at l k hk0 hlt] at hcx
      go_wp2
      go_round
      case rel => exact ⟨k + 1, by omega, by omega, by go_num⟩
      case measure => simp [intOf]; omega
    · go_wp2
      go_ret
      exact ⟨rfl, rfl⟩

theorem sumBegun_any (w : World) :
    Calls Try.prog 15 #[] w fun e w' => e = .returned (.bool true) ∧ Below w.heap.size w w' := by
  have kc := fun (w : World) (C : Array Value) (n c : Nat) => Lib.run_convert_bytes_const (P := Try.prog) w 22 5 C n c Try.underlying22 Try.underlying5
  have hb1 : (((sumN [] : Nat) : Int) == 1) = true := by decide
  have hb2 : (((sumN [97, 98, 99] : Nat) : Int) == 38600999) = true := by decide
  go_enter Try.func15, Try.ntmps15
  go_wp2_with fail
  refine (sum_any _ [] _ (Rd.nil _)).mono ?_
  rintro e w' ⟨rfl, rfl⟩
  go_wp2_with fail
  refine (sum_any _ [97, 98, 99] _ (Rd.new w #[.int .u8 97, .int .u8 98, .int .u8 99] _ _ _ rfl (by decide))).mono ?_
  rintro e w' ⟨rfl, rfl⟩
  go_wp2_with fail
  go_ret
  exact ⟨rfl, (Below.refl _ _).alloc (Nat.le_refl _) _⟩
end Go.Proofs.Ytojebhpjllkdpaa.Cl
