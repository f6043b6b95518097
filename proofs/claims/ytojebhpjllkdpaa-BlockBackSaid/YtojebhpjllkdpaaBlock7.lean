/- What sealed blocks are; begun of layer 6. -/
import Derived.Test.YtojebhpjllkdpaaBlock6
import Derived.Test.YtojebhpjllkdpaaPure
set_option linter.unusedVariables false
set_option linter.unusedSimpArgs false
namespace Go.Proofs.Ytojebhpjllkdpaa.Cl
open Go Go.Proofs Go.RowKit Fl Rely

theorem body60_length {k : Nat} {l : UInt8} {a : Nat} {b : List UInt8} (hb : b.length = 56) : (body60 k l a b).length = 60 := by simp [body60, hb]
theorem sealed_length {k : Nat} {l : UInt8} {a : Nat} {b : List UInt8} (hb : b.length = 56) : (sealedB (body60 k l a b)).length = 64 := by simp [sealedB, body60_length hb, be_length]
theorem be4_inj {n m : Nat} (hn : n < 4294967296) (hm : m < 4294967296) (h : be 4 n = be 4 m) : n = m := by
  rw [be4 n hn, be4 m hm] at h
  simp only [List.cons.injEq, and_true] at h
  obtain ⟨h1, h2, h3, h4⟩ := h
  have e := fun (x y : Nat) (h : UInt8.ofNat x = UInt8.ofNat y) => show x % 256 = y % 256 from by
    have := congrArg UInt8.toNat h
    simpa [UInt8.toNat_ofNat'] using this
  have h1 := e _ _ h1
  have h2 := e _ _ h2
  have h3 := e _ _ h3
  have h4 := e _ _ h4
  omega
theorem sealed_inj {x y : List UInt8} (h : x.length = y.length) (he : sealedB x = sealedB y) : x = y := (List.append_inj he h).1
theorem sealed_head {k : Nat} {l : UInt8} {a : Nat} {b : List UInt8} (hk : k ≤ 7) : ((sealedB (body60 k l a b)).headD 0).toNat = k := by
  show (UInt8.ofNat k).toNat = k
  rw [UInt8.toNat_ofNat']
  omega
theorem sealed_body {k : Nat} {l : UInt8} {a : Nat} {b : List UInt8} (hb : b.length = 56) : bodyOf (sealedB (body60 k l a b)) = b := by
  show ((b ++ be 4 _).take 56) = b
  rw [List.take_append_of_le_length (by omega), List.take_of_length_le (by omega)]
theorem body60_inj {k : Nat} {l l' : UInt8} {a a' : Nat} {b : List UInt8} (ha : a < 200) (ha' : a' < 200) : body60 k l' a' b = body60 k l a b ↔ (l = l' ∧ a = a') := by
  simp only [body60, List.cons_append, List.nil_append, List.cons.injEq, true_and, and_true]
  constructor
  · rintro ⟨h1, h2, h3⟩
    have := congrArg UInt8.toNat h3
    simp only [UInt8.toNat_ofNat'] at this
    exact ⟨h1.symm, by omega⟩
  · rintro ⟨rfl, rfl⟩
    exact ⟨rfl, rfl, rfl⟩
theorem may_of {k a : Nat} (hk : k ≤ 7) (ha : a < 200) : mayBlk (k : Int) (a : Int) = true := by
  simp [mayBlk]
  omega
theorem opens_sealed {k : Nat} {l l' : UInt8} {a a' : Nat} {b : List UInt8} (hk : k ≤ 7) (ha : a < 200) (ha' : a' < 200) (hb : b.length = 56) : opensAs l' (a' : Int) (sealedB (body60 k l a b)) = decide (l = l' ∧ a = a') := by
  rw [opens_eq (sealed_length hb) (by rw [sealed_head hk]; exact may_of hk ha'), sealed_head hk, sealed_body hb, Int.toNat_natCast]
  rw [decide_eq_decide]
  constructor
  · intro h
    exact (body60_inj ha ha').1 (sealed_inj (by rw [body60_length hb, body60_length hb]) h)
  · intro h
    rw [(body60_inj ha ha').2 h]
theorem opBlk_sealed {k : Nat} {l : UInt8} {a : Nat} {b : List UInt8} (hk : k ≤ 7) (ha : a < 200) (hb : b.length = 56) : opBlk l (a : Int) (sealedB (body60 k l a b)) = blkV (k : Int) b := by
  rw [opBlk, if_pos (by rw [opens_sealed hk ha ha hb]; simp), sealed_head hk, sealed_body hb]
theorem opens_turned {k : Nat} {l : UInt8} {a : Nat} {b : List UInt8} (hk : k ≤ 7) (ha : a < 200) (hb : b.length = 56) (i : Nat) (hi : i < 64) (c : UInt8) (hc : (sealedB (body60 k l a b))[i]? ≠ some c) : opensAs l (a : Int) ((sealedB (body60 k l a b)).set i c) = false := by
  rw [Bool.eq_false_iff]
  intro h
  have hlen : ((sealedB (body60 k l a b)).set i c).length = 64 := by rw [List.length_set, sealed_length hb]
  have hX := body60_length (k := k) (l := l) (a := a) hb
  generalize hy : (sealedB (body60 k l a b)).set i c = y at h hlen
  unfold opensAs at h
  simp only [Bool.and_eq_true, decide_eq_true_eq] at h
  have h := h.2
  have hY : (body60 (y.headD 0).toNat l (a : Int).toNat (bodyOf y)).length = 60 := body60_length (bodyOf_length hlen)
  generalize body60 (y.headD 0).toNat l (a : Int).toNat (bodyOf y) = Y at h hY
  generalize body60 k l a b = X at *
  rw [← h] at hy
  unfold sealedB at hy hc
  by_cases h60 : i < 60
  · rw [List.set_append_left _ _ (by omega)] at hy
    obtain ⟨e1, e2⟩ := List.append_inj hy (by rw [List.length_set]; omega)
    have hs := be4_inj (sumN_u32 _) (sumN_u32 _) e2
    rw [← e1] at hs
    have hiX : i < X.length := by omega
    rw [List.getElem?_append_left hiX, List.getElem?_eq_getElem hiX] at hc
    have hne : X[i] ≠ c := fun h => hc (by rw [h])
    have := sum_turned (X.take i) (X.drop (i + 1)) X[i] c hne
    refine this ?_
    rw [List.set_eq_take_append_cons_drop, if_pos hiX] at hs
    rw [← hs]
    congr 1
    rw [← List.drop_eq_getElem_cons hiX, List.take_append_drop]
  · rw [List.set_append_right _ _ (by omega)] at hy
    obtain ⟨e1, e2⟩ := List.append_inj hy (by omega)
    subst e1
    rw [List.getElem?_append_right (by omega), ← e2, List.getElem?_set_self (by rw [be_length]; omega)] at hc
    exact hc rfl
end Go.Proofs.Ytojebhpjllkdpaa.Cl
