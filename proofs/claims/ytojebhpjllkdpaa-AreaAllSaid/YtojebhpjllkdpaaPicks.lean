/- Choices out of numbers: clathriplay.Made, Num. -/
import Derived.Test.YtojebhpjllkdpaaNum
import Derived.Deep.RegionHeld3
import Derived.Handy
set_option linter.unusedVariables false
set_option linter.unusedSimpArgs false
namespace Go.Proofs.Ytojebhpjllkdpaa.Cl
open Go Go.Proofs Go.RowKit Fl Rely

/-- the box g holds the choices l, of which n have been made -/
structure Pk (w : World) (g : Nat) (v : Value) (l : List UInt8) (n : Nat) : Prop where
  c0 : w.cell? ⟨g, 0, none⟩ = some v
  c1 : w.cell? ⟨g, 1, none⟩ = some (.int .i64 n)
  fr : w.frozen? ⟨g, 1, none⟩ = false
  rd : Rd w v (bs l)
  ne : ∀ a c, v = .slice (some a) l.length c → 0 < l.length → a.block ≠ g
  le : n ≤ l.length

def pick (l : List UInt8) (n m : Nat) : Nat := if n < l.length then (l.getD n 0).toNat % m else 0
def adv (l : List UInt8) (n : Nat) : Nat := if n < l.length then n + 1 else n
theorem pick_lt (l : List UInt8) (n m : Nat) (h : 0 < m) : pick l n m < m := by unfold pick; split; exact Nat.mod_lt _ h; exact h

theorem Pk.below {w w1 : World} {g : Nat} {v : Value} {l : List UInt8} {n : Nat} (h : Pk w g v l n) (hb : Below w.heap.size w w1) : Pk w1 g v l n :=
  ⟨cell_later hb h.c0, cell_later hb h.c1, (hb.frozen (World.block_lt_of_cell? _ _ h.c1)).trans h.fr, h.rd.below hb, h.ne, h.le⟩

theorem grownBy_trans {a w w' : World} {row : Option Nat} (h : a.grownBy w row) (k : w.grownBy w' row) : a.grownBy w' row :=
  ⟨k.os.trans h.os, k.tape.trans h.tape, k.output.trans h.output, Nat.le_trans h.size k.size, fun i hi hr => (k.block i (Nat.lt_of_lt_of_le hi h.size) hr).trans (h.block i hi hr)⟩
theorem grownBy_drew {w w' : World} {row : Option Nat} (h : w.grownBy w' row) : w.grownBy w'.drew row := ⟨h.os, h.tape, h.output, h.size, h.block⟩
theorem bs_get (l : List UInt8) (i : Nat) (h : i < (bs l).length) : (bs l)[i] = u8 (l[i]'(by rw [bs_length] at h; exact h)) := by simp [bs]
theorem setCell_grown (w : World) (g i : Nat) (v : Value) : w.grownBy (w.setCell ⟨g, i, none⟩ v) (some g) :=
  ⟨rfl, rfl, rfl, by simp [World.setCell], fun k hk hne => Below.heap_setCell _ _ _ _ (by simpa using hne)⟩
theorem cell_grown {w w1 : World} {g : Nat} {p : Addr} {v : Value} (hg : w.grownBy w1 (some g)) (hp : p.block ≠ g) (h : w.cell? p = some v) : w1.cell? p = some v :=
  (World.cell?_of_block (hg.block _ (World.block_lt_of_cell? _ _ h) (by simpa using hp))).trans h
/-- one more choice has been made -/
theorem Pk.step {w : World} {g : Nat} {v : Value} {l : List UInt8} {n : Nat} (h : Pk w g v l n) (hn : n < l.length) : Pk (w.setCell ⟨g, 1, none⟩ (.int .i64 ((n : Int) + 1))) g v l (n + 1) := by
  have hg := setCell_grown w g 1 (.int .i64 ((n : Int) + 1))
  refine ⟨?_, ?_, ?_, ?_, h.ne, hn⟩
  · rw [World.cell?_setCell_other (h := by simp)]; exact h.c0
  · rw [World.cell?_setCell_same (h := h.c1)]; rfl
  · rw [World.frozen?_setCell]; exact h.fr
  · obtain ⟨a, cap, rfl, h1, h2, h3, h4⟩ := h.rd
    refine ⟨a, cap, rfl, h1, h2, fun j hj => ?_, h4⟩
    obtain ⟨ad, ha, hc⟩ := h3 j hj
    refine ⟨ad, ha, cell_grown hg ?_ hc⟩
    subst ha
    have hne := h.ne ad cap (by rw [bs_length]) (by omega)
    have e : (ad.add j).block = ad.block := by unfold Addr.add; split <;> rfl
    rw [e]; exact hne

theorem num_none (g n m : Nat) (v : Value) (l : List UInt8) (w : World) (hp : Pk w g v l n) (hn : ¬ n < l.length) :
    Calls Try.prog 49 #[.pointer (some ⟨g, 0, none⟩), .int .i64 m] w fun e w' => e = .returned (.int .i64 0) ∧ Below w.heap.size w w' := by
  obtain ⟨a, cap, rfl, hc1, hc2, _, _⟩ := id hp.rd
  have hg : decide (l.length ≤ n) = true := by simpa using hn
  clear hn
  rw [bs_length] at *
  go_enter Try.func49, Try.ntmps49
  go_wp2_with fail
  have hp := hp.below (Below.refl _ _).drew
  have y0 := fun x : Lat w.drew => (hp.below x.2).c0
  have y1 := fun x : Lat w.drew => (hp.below x.2).c1
  have hb := (Below.refl w.heap.size w).drew
  refine wp_region_rely 10 (by kernel_rfl) (by kernel_rfl) ?_
  simp only [List.take_succ_cons, List.take_zero]
  generalize World.drew w = w1 at *
  repeat (first
    | (refine wpR_step0 ?_ ?_ (fun K hK => ?_); rfl; rfl; go_simp; refine hK _ ?_; clear hK K))
  refine wpR_nil fun x => ?_
  obtain ⟨w2, w2b⟩ := x
  simp only [close, List.drop_succ_cons, List.drop_zero]
  go_wp2
  go_ret
  exact ⟨rfl, hb.trans (w2b.mono hb.size)⟩
theorem num_some (g n m : Nat) (v : Value) (l : List UInt8) (w : World) (hp : Pk w g v l n) (hn : n < l.length) (hm : 0 < m) (hm2 : m < 1000) :
    Calls Try.prog 49 #[.pointer (some ⟨g, 0, none⟩), .int .i64 m] w fun e w' => e = .returned (.int .i64 ((l[n].toNat % m : Nat) : Int)) ∧ Pk w' g v l (n + 1) ∧ w.grownBy w' (some g) := by
  obtain ⟨a, cap, rfl, hc1, hc2, _, _⟩ := id hp.rd
  have hg : decide (l.length ≤ n) = false := by simpa using hn
  rw [bs_length] at *
  have hn := Lib.hid hn
  go_enter Try.func49, Try.ntmps49
  go_wp2_with fail
  have hp := hp.below (Below.refl _ _).drew
  have y0 := fun x : Lat w.drew => (hp.below x.2).c0
  have y1 := fun x : Lat w.drew => (hp.below x.2).c1
  have hb := (Below.refl w.heap.size w).drew
  refine wp_region_rely 10 (by kernel_rfl) (by kernel_rfl) ?_
  simp only [List.take_succ_cons, List.take_zero]
  generalize World.drew w = w1 at *
  repeat (first
    | (refine wpR_step0 ?_ ?_ (fun K hK => ?_); rfl; rfl; go_simp; refine hK _ ?_; clear hK K))
  refine wpR_nil fun x => ?_
  obtain ⟨w2, w2b⟩ := x
  simp only [close, List.drop_succ_cons, List.drop_zero]
  have hp := hp.below w2b
  have hb := hb.trans (w2b.mono hb.size)
  have hc0 := hp.c0
  have hc1' := hp.c1
  have hfr := hp.fr
  go_wp2_with fail
  have hn := hn.out
  refine at_wp fun w3 hw3 => ?_
  have hp := (hp.step hn)
  rw [← hw3] at hp
  have hb3 : w.grownBy w3 (some g) := by rw [hw3]; exact grownBy_trans (grown_of_below hb _) (setCell_grown _ _ _ _)
  clear hw3 hb hc0 hc1' hfr y0 y1
  obtain ⟨ad, rfl, hcx⟩ := hp.rd.at_ n (by rw [bs_length]; exact hn)
  rw [bs_get] at hcx
  have hp := hp.below (Below.refl _ _).drew
  have hb3 := grownBy_drew hb3
  have y0 := fun x : Lat w3.drew => (hp.below x.2).c0
  have y1 := fun x : Lat w3.drew => (hp.below x.2).c1
  have y2 := fun x : Lat w3.drew => cell_later x.2 (show w3.drew.cell? _ = _ from hcx)
  have hlt : decide (n < l.length) = true := by simpa using hn
  have en : IntKind.i64.wrap (n : Int) = n := IntWalk.i64_in _ (by omega)
  have hmm : ¬ m = 0 := by omega
  generalize hz : l[n] = z at *
  have hz8 := z.toNat_lt
  have ez : IntKind.i64.wrap (z.toNat : Int) = z.toNat := IntWalk.i64_in _ (by omega)
  clear hcx
  refine wp_region_rely 14 (by kernel_rfl) (by kernel_rfl) ?_
  simp only [List.take_succ_cons, List.take_zero]
  generalize World.drew w3 = w4 at *
  repeat (first
    | (refine wpR_step0 ?_ ?_ (fun K hK => ?_); rfl; rfl; go_simp; refine hK _ ?_; clear hK K))
  refine wpR_nil fun x => ?_
  obtain ⟨w5, w5b⟩ := x
  simp only [close, List.drop_succ_cons, List.drop_zero]
  go_wp2_with fail
  go_ret
  exact ⟨ret_int (by rw [Int.tmod_eq_emod_of_nonneg (by omega), hz]; rfl), hp.below w5b, grownBy_trans hb3 (grown_of_below w5b _)⟩

/-- a choice below m -/
theorem num_pick (g n m : Nat) (v : Value) (l : List UInt8) (w : World) (hp : Pk w g v l n) (hm : 0 < m) (hm2 : m < 1000) :
    Calls Try.prog 49 #[.pointer (some ⟨g, 0, none⟩), .int .i64 m] w fun e w' => e = .returned (.int .i64 (pick l n m)) ∧ Pk w' g v l (adv l n) ∧ w.grownBy w' (some g) := by
  unfold pick adv
  by_cases h : n < l.length
  · rw [if_pos h, if_pos h]
    refine (num_some g n m v l w hp h hm hm2).mono fun e w' ⟨h1, h2, h3⟩ => ⟨?_, h2, h3⟩
    rw [h1]; simp [List.getD, h]
  · rw [if_neg h, if_neg h]
    exact (num_none g n m v l w hp h).mono fun e w' ⟨h1, h2⟩ => ⟨h1, hp.below h2, grown_of_below h2 _⟩

/-- a new box of choices -/
theorem made_any (v : Value) (l : List UInt8) (w : World) (hv : Rd w v (bs l)) :
    Calls Try.prog 29 #[v] w fun e w' => e = .returned (.pointer (some ⟨w.heap.size, 0, none⟩)) ∧ Pk w' w.heap.size v l 0 ∧ Below w.heap.size w w' ∧ w.heap.size < w'.heap.size := by
  obtain ⟨a, cap, rfl, hc1, hc2, _, _⟩ := id hv
  rw [bs_length] at *
  go_enter Try.func29, Try.ntmps29
  go_wp2
  go_ret
  have hb := below_new w (.cells #[.slice a l.length cap, .int .i64 0] 79)
  refine ⟨rfl, ⟨by simp, by simp, by simp, hv.below hb, ?_, Nat.zero_le _⟩, hb, by simp⟩
  intro a' c he hl
  obtain ⟨ad, rfl, hc⟩ := hv.at_ 0 (by rw [bs_length]; exact hl)
  simp only [Value.slice.injEq, Option.some.injEq] at he
  have := World.block_lt_of_cell? _ _ hc
  have e : (ad.add 0).block = ad.block := by unfold Addr.add; split <;> rfl
  rw [e] at this
  rw [← he.1]
  exact Nat.ne_of_lt this
end Go.Proofs.Ytojebhpjllkdpaa.Cl
