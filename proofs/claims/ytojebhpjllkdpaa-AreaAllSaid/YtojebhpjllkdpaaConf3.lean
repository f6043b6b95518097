/- ContainsFunc over shares, conf.May. -/
import Derived.Test.YtojebhpjllkdpaaConf2
set_option linter.unusedVariables false
set_option linter.unusedSimpArgs false
namespace Go.Proofs.Ytojebhpjllkdpaa.Cl
open Go Go.Proofs Go.RowKit Fl

/-- have two shares one label? -/
def same (a b : Sh) : Bool := decide (a.v = b.v) && decide (a.c = b.c)

theorem labelIs_any (x s : Sh) (g : Nat) (w : World) (hx : Box5 w g s.v s.c s.b s.l s.f) :
    Calls Try.prog 58 #[shV x, .pointer (some ⟨g, 0, none⟩)] w fun e w' => e = .returned (.bool (same x s)) ∧ Below w.heap.size w w' := by
  have he := fun w => eq_lab x.v x.c s.v s.c w
  have hx := hx.below (below_new w (.cells #[.int .i64 x.v, .int .i64 x.c, .int .i64 x.b, .int .i64 x.l, .int .i64 x.f] 54))
  obtain ⟨c0, c1, c2, c3, c4⟩ := id hx
  go_enter Try.func58, Try.ntmps58
  go_wp2
  go_ret
  exact ⟨rfl, by go_grown⟩

theorem any_snoc (c : List Sh) (s : Sh) (k : Nat) (hk : k < c.length) (h : (c.take k).any (same · s) = false) : (c.take (k + 1)).any (same · s) = same c[k] s := by
  rw [List.take_add_one, List.any_append, h]
  simp [hk]
theorem any_true (c : List Sh) (s : Sh) (k : Nat) (hk : k < c.length) (h : same c[k] s = true) : c.any (same · s) = true :=
  List.any_eq_true.2 ⟨c[k], List.getElem_mem hk, h⟩

set_option maxHeartbeats 4000000 in
theorem indexFunc_any (cv : Value) (c : List Sh) (s : Sh) (g : Nat) (w : World) (hc : RdC w cv c) (hx : Box5 w g s.v s.c s.b s.l s.f) :
    Calls Try.prog 62 #[cv, .func (.func 58) #[] #[.pointer (some ⟨g, 0, none⟩)]] w fun e w' => ∃ n : Int, e = .returned (.int .i64 n) ∧ decide (0 ≤ n) = c.any (same · s) ∧ Below w.heap.size w w' := by
  obtain ⟨ad, cap, rfl, h1, h2, h3⟩ := id hc
  go_enter Try.func62, Try.ntmps62
  go_wp2
  go_loopw [8] (fun i wr => ∃ k : Nat, k ≤ c.length ∧ i = .int .i64 k ∧ (c.take k).any (same · s) = false ∧ Below w.heap.size w wr) (fun i _ => c.length - (intOf i).toNat)
  case atStart => exact ⟨0, Nat.zero_le _, rfl, by simp, Below.refl _ _⟩
  case round =>
    obtain ⟨k, hk, rfl, hany, hb⟩ := hrel
    by_cases hlt : k < c.length
    · obtain ⟨gb, off, rfl, hcell⟩ := h3 (by omega)
      have q0 := cell_later hb (show w.cell? ⟨gb, off + k * 5, none⟩ = some (.int .i64 c[k].v) from hcell k hlt 0 (by decide))
      have q1 := cell_later hb (show w.cell? ⟨gb, off + k * 5 + 1, none⟩ = some (.int .i64 c[k].c) from hcell k hlt 1 (by decide))
      have q2 := cell_later hb (show w.cell? ⟨gb, off + k * 5 + 2, none⟩ = some (.int .i64 c[k].b) from hcell k hlt 2 (by decide))
      have q3 := cell_later hb (show w.cell? ⟨gb, off + k * 5 + 3, none⟩ = some (.int .i64 c[k].l) from hcell k hlt 3 (by decide))
      have q4 := cell_later hb (show w.cell? ⟨gb, off + k * 5 + 4, none⟩ = some (.int .i64 c[k].f) from hcell k hlt 4 (by decide))
      have hsn := Lib.hid (any_snoc c s k hlt hany)
      have htr := Lib.hid (any_true c s k hlt)
      generalize c[k] = x at *
      clear hcell h3 hc
      go_wp2_with fail
      refine (labelIs_any x s g _ (hx.below hb)).mono ?_
      rintro e w2 ⟨rfl, hb2⟩
      have hb2 := hb.trans (hb2.mono hb.size)
      cases hs : same x s with
      | true =>
        go_wp2_with fail
        go_ret
        exact ⟨_, rfl, by rw [htr.out hs]; simp, hb2⟩
      | false =>
        have hsn := hsn.out
        rw [hs] at hsn
        go_wp2_with fail
        go_roundw
        case rel => exact ⟨k + 1, by omega, by go_num, hsn, hb2⟩
        case measure => simp [intOf]; omega
    · obtain rfl : k = c.length := by omega
      rw [List.take_length] at hany
      go_wp2_with fail
      go_ret
      exact ⟨-1, rfl, by rw [hany]; rfl, hb⟩

theorem containsFunc_any (cv : Value) (c : List Sh) (s : Sh) (g : Nat) (w : World) (hc : RdC w cv c) (hx : Box5 w g s.v s.c s.b s.l s.f) :
    Calls Try.prog 57 #[cv, .func (.func 58) #[] #[.pointer (some ⟨g, 0, none⟩)]] w fun e w' => e = .returned (.bool (c.any (same · s))) ∧ Below w.heap.size w w' := by
  go_enter Try.func57, Try.ntmps57
  go_wp2_with fail
  refine (indexFunc_any cv c s g _ hc hx).mono ?_
  rintro e w2 ⟨n, rfl, hn, hb2⟩
  go_wp2_with fail
  go_ret
  exact ⟨rfl, hb2⟩
end Go.Proofs.Ytojebhpjllkdpaa.Cl
