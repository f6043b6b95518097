/- conf.May. -/
import Derived.Test.YtojebhpjllkdpaaConf3
set_option linter.unusedVariables false
set_option linter.unusedSimpArgs false
namespace Go.Proofs.Ytojebhpjllkdpaa.Cl
open Go Go.Proofs Go.RowKit Fl

def okUp : List Sh → List Sh → Bool
  | _, [] => true
  | acc, s :: r => shOK s && (!(acc.any (same · s)) && okUp (acc ++ [s]) r)
/-- may a config be? -/
def confOK (c : List Sh) : Bool := okUp [] c && (decide (1 ≤ c.length) && decide (c.length ≤ 8))
theorem okUp_at (c : List Sh) (k : Nat) (hk : k < c.length) : okUp (c.take k) (c.drop k) = (shOK c[k] && (!((c.take k).any (same · c[k])) && okUp (c.take (k + 1)) (c.drop (k + 1)))) := by
  rw [List.drop_eq_getElem_cons hk]
  show (shOK c[k] && (!((c.take k).any (same · c[k])) && okUp (c.take k ++ [c[k]]) (c.drop (k + 1)))) = _
  rw [List.take_add_one]
  simp [hk]
theorem okUp_end (c : List Sh) : okUp (c.take c.length) (c.drop c.length) = true := by rw [List.drop_length]; rfl

theorem RdC.take {w : World} {ad : Option Addr} {cap : Nat} {c : List Sh} (h : RdC w (.slice ad c.length cap) c) (k : Nat) (hk : k ≤ c.length) : RdC w (.slice ad k cap) (c.take k) := by
  obtain ⟨ad', cap', e, h1, h2, h3⟩ := h
  simp at e
  obtain ⟨rfl, rfl⟩ := e
  have hl : (c.take k).length = k := by rw [List.length_take]; omega
  refine ⟨ad, cap, by rw [hl], by omega, h2, fun hpos => ?_⟩
  obtain ⟨gb, off, rfl, hc⟩ := h3 (by omega)
  refine ⟨gb, off, rfl, fun j hj i hi => ?_⟩
  rw [hc j (by omega) i hi, List.getElem_take]

set_option maxHeartbeats 4000000 in
theorem confMay_any (cv : Value) (c : List Sh) (w : World) (hc : RdC w cv c) :
    Calls Try.prog 50 #[cv] w fun e w' => e = .returned (.bool (confOK c)) ∧ Below w.heap.size w w' := by
  obtain ⟨ad, cap, rfl, h1, h2, h3⟩ := id hc
  go_enter Try.func50, Try.ntmps50
  go_wp2
  go_loopw [7] (fun i wr => ∃ k : Nat, k ≤ c.length ∧ i = .int .i64 k ∧ okUp [] c = okUp (c.take k) (c.drop k) ∧ Below w.heap.size w wr) (fun i _ => c.length - (intOf i).toNat)
  case atStart => exact ⟨0, Nat.zero_le _, rfl, rfl, Below.refl _ _⟩
  case round =>
    obtain ⟨k, hk, rfl, hok, hb⟩ := hrel
    by_cases hlt : k < c.length
    · have hsl := (hc.below hb).take k hk
      rw [okUp_at c k hlt] at hok
      obtain ⟨gb, off, rfl, hcell⟩ := h3 (by omega)
      have q0 := cell_later hb (show w.cell? ⟨gb, off + k * 5, none⟩ = some (.int .i64 c[k].v) from hcell k hlt 0 (by decide))
      have q1 := cell_later hb (show w.cell? ⟨gb, off + k * 5 + 1, none⟩ = some (.int .i64 c[k].c) from hcell k hlt 1 (by decide))
      have q2 := cell_later hb (show w.cell? ⟨gb, off + k * 5 + 2, none⟩ = some (.int .i64 c[k].b) from hcell k hlt 2 (by decide))
      have q3 := cell_later hb (show w.cell? ⟨gb, off + k * 5 + 3, none⟩ = some (.int .i64 c[k].l) from hcell k hlt 3 (by decide))
      have q4 := cell_later hb (show w.cell? ⟨gb, off + k * 5 + 4, none⟩ = some (.int .i64 c[k].f) from hcell k hlt 4 (by decide))
      have hok := Lib.hid hok
      generalize c[k] = x at *
      clear hcell h3
      go_wp2_with fail
      refine at_world fun w1 hw1 => ?_
      have hx : Box5 w1 wr.heap.size x.v x.c x.b x.l x.f := by rw [hw1]; exact Box5.new _ _ _ _ _ _ _
      have hb1 : Below wr.heap.size wr w1 := by rw [hw1]; exact below_new _ _
      have hsl := hsl.below hb1
      have hb1 := hb.trans (hb1.mono hb.size)
      clear hw1 q0 q1 q2 q3 q4
      refine (share_any x _).mono ?_
      rintro e w2 ⟨rfl, hb2⟩
      have hx := hx.below hb2
      have hsl := hsl.below hb2
      have hb2 := hb1.trans (hb2.mono hb1.size)
      cases hs : shOK x with
      | false =>
        go_wp2_with fail
        go_ret
        exact ⟨ret_bool (by unfold confOK; rw [hok.out, hs]; rfl), hb2⟩
      | true =>
        go_wp2_with fail
        refine (containsFunc_any _ _ x _ _ hsl hx).mono ?_
        rintro e w3 ⟨rfl, hb3⟩
        have hb3 := hb2.trans (hb3.mono hb2.size)
        cases ha : (c.take k).any (same · x) with
        | true =>
          go_wp2_with fail
          go_ret
          exact ⟨ret_bool (by unfold confOK; rw [hok.out, hs, ha]; rfl), hb3⟩
        | false =>
          have hok' := hok.out
          rw [hs, ha] at hok'
          go_wp2_with fail
          go_roundw
          case rel => exact ⟨k + 1, by omega, by go_num, hok', hb3⟩
          case measure => simp [intOf]; omega
    · obtain rfl : k = c.length := by omega
      rw [okUp_end] at hok
      by_cases hp : 1 ≤ c.length
      · go_wp2_with fail
        go_ret
        exact ⟨ret_bool (by unfold confOK; rw [hok]; simp [hp]; omega), hb⟩
      · have hp' : decide (1 ≤ c.length) = false := by simpa using hp
        go_wp2_with fail
        go_ret
        exact ⟨ret_bool (by unfold confOK; rw [hok, hp']; rfl), hb⟩

theorem okUp_right : ∀ (r acc : List Sh), (∀ s ∈ r, s.ok) → (acc ++ r).Pairwise (fun a b => ¬ (a.v = b.v ∧ a.c = b.c)) → okUp acc r = true
  | [], acc, _, _ => rfl
  | s :: r, acc, hok, hp => by
    have h1 : shOK s = true := by
      have := hok s (by simp)
      obtain ⟨a, b, c, d, e, f⟩ := this
      unfold shOK
      simp only [decide_eq_true_eq]
      omega
    have h2 : acc.any (same · s) = false := by
      rw [List.any_eq_false]
      intro x hx
      rw [List.pairwise_append] at hp
      have := hp.2.2 x hx s (by simp)
      simpa [same] using this
    have h3 := okUp_right r (acc ++ [s]) (fun x hx => hok x (by simp [hx])) (by simpa using hp)
    unfold okUp
    rw [h1, h2, h3]
    rfl
theorem Cfg.confOK {w : World} {B : Nat} {cv : Value} {c : List Sh} (h : Cfg w B cv c) (h1 : 1 ≤ c.length) (h8 : c.length ≤ 8) : confOK c = true := by
  unfold Cl.confOK
  rw [okUp_right c [] h.ok (by simpa using h.apart)]
  simp [h1, h8]
theorem okUp_wrong (z : Sh) (hz : shOK z = false) : ∀ (r acc : List Sh), okUp acc (r ++ [z]) = false
  | [], acc => by simp [okUp, hz]
  | s :: r, acc => by simp [okUp, okUp_wrong z hz r]
theorem confOK_wrong (c : List Sh) (z : Sh) (hz : shOK z = false) : confOK (c ++ [z]) = false := by
  unfold confOK; rw [okUp_wrong z hz]; rfl
end Go.Proofs.Ytojebhpjllkdpaa.Cl
