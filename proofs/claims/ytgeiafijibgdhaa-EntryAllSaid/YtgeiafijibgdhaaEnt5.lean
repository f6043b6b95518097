/- entry: plain laws; names compared. -/
import Derived.Test.YtgeiafijibgdhaaEnt4
set_option linter.unusedVariables false
set_option linter.unusedSimpArgs false
namespace Go.Proofs.Ytgeiafijibgdhaa.Cl
open Go Go.Proofs Go.RowKit Fl Rely

theorem Nm.ext' {n m : Nm} (h : n.a = m.a ∧ n.b = m.b ∧ n.c = m.c ∧ n.s = m.s ∧ n.p = m.p ∧ n.g = m.g) : n = m := by
  obtain ⟨a, b, c, s, p, g⟩ := n
  obtain ⟨a', b', c', s', p', g'⟩ := m
  obtain ⟨rfl, rfl, rfl, rfl, rfl, rfl⟩ := h
  rfl
instance (n m : Nm) : Decidable (n = m) := decidable_of_iff (n.a = m.a ∧ n.b = m.b ∧ n.c = m.c ∧ n.s = m.s ∧ n.p = m.p ∧ n.g = m.g) ⟨Nm.ext', fun h => by subst h; exact ⟨rfl, rfl, rfl, rfl, rfl, rfl⟩⟩
theorem dec_nm (n m : Nm) : decide (n = m) = (decide (n.a = m.a) && decide (n.b = m.b) && decide (n.c = m.c) && decide (n.s = m.s) && decide (n.p = m.p) && decide (n.g = m.g)) := by
  rw [Bool.eq_iff_iff]
  simp only [Bool.and_eq_true, decide_eq_true_iff]
  exact ⟨fun h => by subst h; exact ⟨⟨⟨⟨⟨rfl, rfl⟩, rfl⟩, rfl⟩, rfl⟩, rfl⟩, fun h => Nm.ext' ⟨h.1.1.1.1.1, h.1.1.1.1.2, h.1.1.1.2, h.1.1.2, h.1.2, h.2⟩⟩
set_option maxHeartbeats 2000000 in
theorem eq_nm (n m : Nm) (w : World) : (binOp .eql 43 (nmV n) (nmV m)).run Try.prog w = .ok (.bool (decide (n = m))) w := by
  rw [dec_nm]
  obtain ⟨a, b, c, s, p, g⟩ := n
  obtain ⟨a', b', c', s', p', g'⟩ := m
  unfold nmV nmA
  dsimp only
  by_cases h1 : a = a' <;> by_cases h2 : b = b' <;> by_cases h3 : c = c' <;> by_cases h4 : s = s' <;> by_cases h5 : p = p' <;> by_cases h6 : g = g' <;> simp [go_sem, h1, h2, h3, h4, h5, h6]

/-! ### plain laws -/
theorem idA_of (a : Nat) (h : a < 8) : idA (UInt8.ofNat a) = a := by
  unfold idA
  rw [if_neg (by intro h'; have := congrArg UInt8.toNat h'; rw [UInt8.toNat_ofNat'] at this; simp at this; omega), UInt8.toNat_ofNat']
  omega
theorem idB_of (b : Nat) (h : b < 65536) : idB (UInt8.ofNat (b / 256)) (UInt8.ofNat b) = b := by
  unfold idB
  rw [UInt8.toNat_ofNat', UInt8.toNat_ofNat']
  omega
theorem idC_of (c : Nat) (h : c < 4294967296) : idC (UInt8.ofNat (c / 16777216)) (UInt8.ofNat (c / 65536)) (UInt8.ofNat (c / 256)) (UInt8.ofNat c) = c := by
  unfold idC
  rw [UInt8.toNat_ofNat', UInt8.toNat_ofNat', UInt8.toNat_ofNat', UInt8.toNat_ofNat']
  omega
theorem takeID_put {a b c : Int} (h : mayID a b c = true) (hc : c < 4294967296) : takeID (putID a b c) = (a, b, c, true) := by
  have hp : putID a b c = UInt8.ofNat (a % 256).toNat :: (be 2 b.toNat ++ be 4 c.toNat) := by unfold putID; rw [if_pos h]
  have hl : putID a b c = [UInt8.ofNat (a % 256).toNat, UInt8.ofNat (b.toNat / 256), UInt8.ofNat b.toNat, UInt8.ofNat (c.toNat / 16777216), UInt8.ofNat (c.toNat / 65536), UInt8.ofNat (c.toNat / 256), UInt8.ofNat c.toNat] := by
    rw [hp, be2, be4]; rfl
  have hm : (a = -1 ∧ b = 0 ∧ c = 0) ∨ (0 ≤ a ∧ a < 8 ∧ 1 ≤ b ∧ b < 200 ∧ 1 ≤ c) := by
    unfold mayID at h
    simpa using h
  have eA : idA (UInt8.ofNat (a % 256).toNat) = a := by
    rcases hm with ⟨rfl, _⟩ | ⟨h1, h2, _⟩
    · decide
    · have : (a % 256).toNat = a.toNat := by omega
      rw [this, idA_of a.toNat (by omega)]
      omega
  have eB : idB (UInt8.ofNat (b.toNat / 256)) (UInt8.ofNat b.toNat) = b := by
    rw [idB_of b.toNat (by omega)]; omega
  have eC : idC (UInt8.ofNat (c.toNat / 16777216)) (UInt8.ofNat (c.toNat / 65536)) (UInt8.ofNat (c.toNat / 256)) (UInt8.ofNat c.toNat) = c := by
    rw [idC_of c.toNat (by omega)]; omega
  rw [hl]
  show (if putID (idA (UInt8.ofNat (a % 256).toNat)) (idB (UInt8.ofNat (b.toNat / 256)) (UInt8.ofNat b.toNat)) (idC (UInt8.ofNat (c.toNat / 16777216)) (UInt8.ofNat (c.toNat / 65536)) (UInt8.ofNat (c.toNat / 256)) (UInt8.ofNat c.toNat)) = _ then _ else _) = _
  rw [eA, eB, eC, if_pos hl]
theorem entBody_eq {n : Nm} (h : mayNm n = true) : entBody n = entB n ++ Z56.drop (entB n).length := by unfold entBody; rw [if_pos h]
theorem readNm_own {n : Nm} (ok : NmOk n) (h : mayNm n = true) : readNm (entBody n) = n ∧ (idOf (entBody n)).2.2.2 = true := by
  obtain ⟨hi, hn, hp1, hp2, hg1⟩ := mayNm_facts h
  obtain ⟨hs1, hs2⟩ := mayName_len hn
  have hpl := putID_length hi
  have he := entBody_eq h
  have hT := takeID_put hi ok.c.2
  have hid : idOf (entBody n) = (n.a, n.b, n.c, true) := by
    unfold idOf
    rw [he]
    unfold entB
    rw [List.append_assoc, List.append_assoc, List.take_left' hpl, hT]
  have hd7 : (entBody n).drop 7 = be 2 n.p.toNat ++ (be 4 n.g.toNat ++ (UInt8.ofNat n.s.length :: (n.s ++ Z56.drop (entB n).length))) := by
    rw [he]
    unfold entB midB
    simp only [List.append_assoc]
    rw [List.drop_left' hpl]
    rfl
  have hb : ∀ i, bt (entBody n) (7 + i) = ((entBody n).drop 7).getD i 0 := fun i => by
    unfold bt
    rw [List.getD_eq_getElem?_getD, List.getD_eq_getElem?_getD, List.getElem?_drop]
  have b7 := hb 0
  have b8 := hb 1
  have b9 := hb 2
  have b10 := hb 3
  have b11 := hb 4
  have b12 := hb 5
  have b13 := hb 6
  rw [hd7, be2, be4] at b7 b8 b9 b10 b11 b12 b13
  simp only [List.cons_append, List.nil_append, List.getD_cons_zero, List.getD_cons_succ] at b7 b8 b9 b10 b11 b12 b13
  have hlong : longOf (entBody n) = n.s.length := by
    unfold longOf
    rw [show bt (entBody n) 13 = _ from b13, UInt8.toNat_ofNat']
    omega
  have hd14 : (entBody n).drop 14 = n.s ++ Z56.drop (entB n).length := by
    rw [show (14 : Nat) = 7 + 7 from rfl, ← List.drop_drop, hd7, be2, be4]
    rfl
  refine ⟨Nm.ext' ⟨by show (idOf (entBody n)).1 = _; rw [hid], by show (idOf (entBody n)).2.1 = _; rw [hid], by show (idOf (entBody n)).2.2.1 = _; rw [hid], ?_, ?_, ?_⟩, by rw [hid]⟩
  · show ((entBody n).drop 14).take (longOf (entBody n)) = _
    rw [hd14, hlong, List.take_left' rfl]
  · show (((bt (entBody n) 7).toNat * 256 + (bt (entBody n) 8).toNat : Nat) : Int) = _
    rw [show bt (entBody n) 7 = _ from b7, show bt (entBody n) 8 = _ from b8, UInt8.toNat_ofNat', UInt8.toNat_ofNat']
    omega
  · show (((bt (entBody n) 9).toNat * 16777216 + (bt (entBody n) 10).toNat * 65536 + (bt (entBody n) 11).toNat * 256 + (bt (entBody n) 12).toNat : Nat) : Int) = _
    have := ok.g.2
    rw [show bt (entBody n) 9 = _ from b9, show bt (entBody n) 10 = _ from b10, show bt (entBody n) 11 = _ from b11, show bt (entBody n) 12 = _ from b12, UInt8.toNat_ofNat', UInt8.toNat_ofNat', UInt8.toNat_ofNat', UInt8.toNat_ofNat']
    omega
theorem goodE_own {n : Nm} (ok : NmOk n) (h : mayNm n = true) : goodE 6 (entBody n) = true := by
  obtain ⟨h1, h2⟩ := readNm_own ok h
  unfold goodE
  rw [h2, h1, h, decide_eq_true ⟨rfl, rfl⟩]
  rfl
theorem goodE_facts {k : Int} {b : List UInt8} (h : goodE k b = true) : mayNm (readNm b) = true ∧ k = 6 ∧ b = entBody (readNm b) := by
  unfold goodE at h
  simp only [Bool.and_eq_true, decide_eq_true_eq] at h
  exact ⟨h.1.2, h.2⟩
end Go.Proofs.Ytgeiafijibgdhaa.Cl
