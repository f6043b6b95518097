/- The law IndexPieces. -/
import Derived.Test.YtibpipppabommaaIdxB
set_option linter.unusedVariables false
set_option linter.unusedSimpArgs false
namespace Go.Proofs.Ytibpipppabommaa.Cl
open Go Go.Proofs Go.RowKit Fl Rely

theorem own_sl {w : World} {B e s n : Nat} {v : Value} {xs : List Value} (h : w.ownsRow B e s v n xs) : ∃ a cap, v = .slice a n cap ∧ (n ≠ 0 → ∃ g, a = some ⟨g, 0, none⟩) := by
  rcases h.2 with ⟨h0, h1⟩ | ⟨g, cap, cur, hv, _⟩
  · exact ⟨none, 0, by rw [h0, h1], fun h => (h h1).elim⟩
  · exact ⟨_, cap, hv, fun _ => ⟨g, rfl⟩⟩
def atK (o e k : Nat) : Nat := if k = 0 then o else if k = pcN o e then e else (o / 56 + k) * 56
theorem atK_end {o e : Nat} (h : o ≤ e) : atK o e (pcN o e) = e := by
  unfold atK
  by_cases h0 : pcN o e = 0
  · rw [if_pos h0]
    unfold pcN at h0
    split at h0 <;> omega
  · rw [if_neg h0, if_pos rfl]
theorem pcs_at {o e k : Nat} (h : k < pcN o e) : ∃ pk pf pt, (pcs o e)[k]? = some ⟨pk, pf, pt⟩ ∧ pk * 56 + pf = atK o e k ∧ pf < pt ∧ pt ≤ 56 ∧ (k ≠ 0 → pf = 0) ∧ (k + 1 ≠ pcN o e → pt = 56) ∧ pk * 56 + pt = atK o e (k + 1) := by
  refine ⟨_, _, _, by unfold pcs; rw [List.getElem?_map, List.getElem?_range h]; rfl, ?_⟩
  have hoe : o < e := by unfold pcN at h; split at h <;> omega
  have hN : pcN o e = (e - 1) / 56 + 1 - o / 56 := by unfold pcN; rw [if_pos hoe]
  unfold atK
  generalize pcN o e = N at *
  refine ⟨?_, ?_, ?_, fun h => ?_, fun h => ?_, ?_⟩ <;> (repeat' split) <;> omega
theorem atK_le {o e k : Nat} (hoe : o ≤ e) (h : k ≤ pcN o e) : atK o e k ≤ e := by
  unfold atK
  unfold pcN at *
  (repeat' split) <;> (try split at h) <;> omega

set_option maxRecDepth 100000 in
set_option maxHeartbeats 4000000 in
theorem idxPieces_law (n0 n1 : Nat) (w : World) (h0 : n0 < 65536) (h1 : n1 < 65536) : Calls Try.prog 4 #[.int .u16 (n0 : Int), .int .u16 (n1 : Int)] w fun e w' => e = .returned (.bool true) ∧ Below w.heap.size w w' := by
  obtain ⟨o, ho⟩ : ∃ o, o = n0 % 1200 := ⟨_, rfl⟩
  obtain ⟨m, hm⟩ : ∃ m, m = n1 % 1200 := ⟨_, rfl⟩
  have e0 : (n0 : Int) % 1200 = (o : Int) := by omega
  have e1 : (n1 : Int) % 1200 = (m : Int) := by omega
  have ho2 : o < 1200 := by omega
  have hm2 : m < 1200 := by omega
  clear ho hm
  go_enter Try.func4, Try.ntmps4
  go_wp2_with fail
  refine (idxBegun_any _).mono ?_
  rintro e w1 ⟨rfl, hb1⟩
  go_wp2_with fail
  refine (pieces_any _ _ _).mono ?_
  rintro e w2 ⟨hno, hyes, hb2⟩
  have hb2 := hb1.trans (hb2.mono hb1.size)
  by_cases hbig : 1120 < o + m
  · have hbi : (1120 : Int) < (o : Int) + (m : Int) := by omega
    obtain rfl := hno (by omega)
    clear hno hyes
    go_wp2_with fail
    go_returns
    exact ⟨rfl, hb2⟩
  · have hbi : ¬ ((1120 : Int) < (o : Int) + (m : Int)) := by omega
    obtain ⟨u, rfl, hown⟩ := hyes (by omega)
    clear hno hyes
    have et : ((o : Int) + (m : Int)).toNat = o + m := by omega
    rw [et, Int.toNat_natCast, pcs_length] at hown
    obtain ⟨e, he⟩ : ∃ e, e = o + m := ⟨_, rfl⟩
    have hem : (o : Int) + (m : Int) = (e : Int) := by omega
    rw [← he] at hown
    have He := Lib.hid hem
    have hoe : o ≤ e := by omega
    have he1 : e ≤ 1120 := by omega
    clear et he hem
    obtain ⟨a, cap, rfl, ha⟩ := own_sl hown
    have hN20 := pcN_le (o := o) he1
    go_wp2_with fail
    go_loopw [8, 9] (fun y i wr => ∃ k : Nat, k ≤ pcN o e ∧ i = .int .i64 k ∧ y = .int .i64 (atK o e k) ∧ Below w2.heap.size w2 wr) (fun _ i _ => pcN o e - (intOf i).toNat)
    case atStart => exact ⟨0, Nat.zero_le _, rfl, rfl, Below.refl _ _⟩
    case round =>
      obtain ⟨k, hk, rfl, rfl, hb⟩ := hrel
      by_cases hlt : k < pcN o e
      · obtain ⟨g, rfl⟩ := ha (by omega)
        obtain ⟨pk, pf, pt, hp, p1, p2, p3, p4, p5, p6⟩ := pcs_at hlt
        have hkl : k < (pcs o e).length := by rw [pcs_length]; exact hlt
        have hcells : ∀ j, j < 3 → wr.cell? ⟨g, k * 3 + j, none⟩ = (Pc.cells ⟨pk, pf, pt⟩)[j]? := fun j hj => by
          rw [List.getElem?_eq_getElem hkl] at hp
          rw [← Option.some.inj hp, ← pcCells_get _ k hkl j hj]
          have hc := hown.cellAt (k * 3 + j) (by omega)
          have hlt2 : k * 3 + j < (pcCells (pcs o e)).length := by rw [pcCells_length, pcs_length]; omega
          rw [List.getElem?_eq_getElem hlt2] at hc ⊢
          exact cell_later hb hc
        have c0 : wr.cell? ⟨g, k * 3, none⟩ = some (.int .i64 (pk : Int)) := hcells 0 (by decide)
        have c1 : wr.cell? ⟨g, k * 3 + 1, none⟩ = some (.int .i64 (pf : Int)) := hcells 1 (by decide)
        have c2 : wr.cell? ⟨g, k * 3 + 2, none⟩ = some (.int .i64 (pt : Int)) := hcells 2 (by decide)
        clear hcells hp hkl
        have hat := atK_le hoe hk
        have q1 : (pk : Int) * 56 + (pf : Int) = ((atK o e k : Nat) : Int) := by omega
        have q6 : (pk : Int) * 56 + (pt : Int) = ((atK o e (k + 1) : Nat) : Int) := by omega
        have q2 : ¬ ((pf : Int) < 0) := by omega
        have q3 : ¬ ((56 : Int) < (pt : Int)) := by omega
        have q3' : ¬ (56 < pt) := by omega
        have q4 : ¬ ((pt : Int) ≤ (pf : Int)) := by omega
        have q4' : ¬ (pt ≤ pf) := by omega
        clear p1 p2 p3 p6
        generalize atK o e k = A at *
        generalize hA' : atK o e (k + 1) = A' at *
        have HA' := Lib.hid hA'
        clear hA'
        rcases Nat.eq_zero_or_pos k with rfl | hk0
        · by_cases hl : 0 + 1 = pcN o e
          · have hl' : ¬ ((0 : Int) + 1 < ((pcN o e : Nat) : Int)) := by omega
            have hl2 : ¬ ((1 : Int) < ((pcN o e : Nat) : Int)) := by omega
            have hl3 : ¬ (1 < pcN o e) := by omega
            clear p4 p5 hl
            go_wp2_with fail
            go_roundw
            case rel => exact ⟨_, hlt, by go_num, int_val (by first | (rw [HA'.out]; omega) | rw [HA'.out]), hb.trans ((below_new wr _).mono hb.size)⟩
            case measure => simp only [intOf]; omega
          · obtain rfl := p5 hl
            have hl' : ((0 : Int) + 1 < ((pcN o e : Nat) : Int)) := by omega
            have hl3 : 1 < pcN o e := by omega
            clear p4 p5 hl
            go_wp2_with fail
            go_roundw
            case rel => exact ⟨_, hlt, by go_num, int_val (by first | (rw [HA'.out]; omega) | rw [HA'.out]), hb.trans ((below_new wr _).mono hb.size)⟩
            case measure => simp only [intOf]; omega
        · obtain rfl := p4 (by omega)
          have hk0' : (0 : Int) < (k : Int) := by omega
          by_cases hl : k + 1 = pcN o e
          · have hl' : ¬ ((k : Int) + 1 < ((pcN o e : Nat) : Int)) := by omega
            clear p4 p5 hl
            go_wp2_with fail
            go_roundw
            case rel => exact ⟨_, hlt, by go_num, int_val (by first | (rw [HA'.out]; omega) | rw [HA'.out]), hb.trans ((below_new wr _).mono hb.size)⟩
            case measure => simp only [intOf]; omega
          · obtain rfl := p5 hl
            have hl' : ((k : Int) + 1 < ((pcN o e : Nat) : Int)) := by omega
            clear p4 p5 hl
            go_wp2_with fail
            go_roundw
            case rel => exact ⟨_, hlt, by go_num, int_val (by first | (rw [HA'.out]; omega) | rw [HA'.out]), hb.trans ((below_new wr _).mono hb.size)⟩
            case measure => simp only [intOf]; omega
      · obtain rfl : k = pcN o e := by omega
        rw [atK_end hoe]
        go_wp2_with fail
        go_returns
        exact ⟨ret_bool (by simp [He.out]), hb2.trans (hb.mono hb2.size)⟩
theorem idxPieces_row (n0 n1 : Int) (w : World) (h0 : (Lit.int .u16 n0).wf = true) (h1 : (Lit.int .u16 n1).wf = true) : Calls Try.prog 4 #[.int .u16 n0, .int .u16 n1] w fun e w' => e = .returned (.bool true) ∧ Below w.heap.size w w' := by
  obtain ⟨a, rfl, ha⟩ := wf_u16 h0
  obtain ⟨b, rfl, hb⟩ := wf_u16 h1
  exact idxPieces_law a b w ha hb
end Go.Proofs.Ytibpipppabommaa.Cl
