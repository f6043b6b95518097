/- rec: the plain laws of records. -/
import Derived.Test.YtgeiafijibgdhaaRecP
set_option linter.unusedVariables false
set_option linter.unusedSimpArgs false
namespace Go.Proofs.Ytgeiafijibgdhaa.Cl
open Go Go.Proofs Go.RowKit Fl Rely

section
variable {label : UInt8} {epoch seq : Nat} {l : List Wr}
theorem headL_short (hl : l.length ≤ 12) : (headL label epoch seq l).length ≤ 60 := by rw [headL_length]; omega
theorem headB_length (hl : l.length ≤ 12) : (headB label epoch seq l).length = 64 := filledB_length (headL_short hl)
theorem head_prefix (l : List Wr) : headL label epoch seq l = ([72, label] ++ be 4 epoch ++ be 4 seq) ++ ([UInt8.ofNat l.length] ++ l.flatMap placeB) := by simp [headL]
theorem head_many (hl : l.length ≤ 12) : ((headB label epoch seq l)[10]?.getD 0).toNat = l.length := by
  unfold headB
  rw [filled_at (headL_short hl) 10 (by rw [headL_length]; omega), head_prefix, List.getElem?_append_right (by simp [be_length])]
  simp only [List.length_append, be_length, List.length_cons, List.length_nil]
  show (UInt8.ofNat l.length).toNat = l.length
  rw [UInt8.toNat_ofNat']
  omega
theorem places_drop : ∀ (l : List Wr) (k : Nat) (h : k < l.length), ((l.flatMap placeB).drop (3 * k)).take 3 = placeB l[k]
  | [], k, h => by simp at h
  | x :: l, 0, _ => by
    rw [Nat.mul_zero, List.drop_zero, List.flatMap_cons, List.take_left' (placeB_length x)]
    rfl
  | x :: l, k + 1, h => by
    rw [List.flatMap_cons, show 3 * (k + 1) = (placeB x).length + 3 * k by rw [placeB_length]; omega, List.drop_append, List.drop_of_length_le (by omega)]
    rw [show (placeB x).length + 3 * k - (placeB x).length = 3 * k by omega, List.nil_append, places_drop l k (by simpa using h)]
    rfl
theorem head_place (hl : l.length ≤ 12) (k : Nat) (h : k < l.length) : ((headB label epoch seq l).drop (11 + 3 * k)).take 3 = placeB l[k] := by
  unfold headB
  rw [filled_mid (headL_short hl) _ 3 (by rw [headL_length]; omega)]
  have e : headL label epoch seq l = ([72, label] ++ be 4 epoch ++ be 4 seq ++ [UInt8.ofNat l.length]) ++ l.flatMap placeB := rfl
  have hn : ([72, label] ++ be 4 epoch ++ be 4 seq ++ [UInt8.ofNat l.length]).length = 11 := by simp [be_length]
  rw [e, List.drop_append, List.drop_of_length_le (by omega), hn, show 11 + 3 * k - 11 = 3 * k by omega, List.nil_append, places_drop l k h]
theorem image_body (x : Wr) (hx : WrOk x) : overB Z56 (imageB epoch seq x) = x.2.2 := by
  have h56 : x.2.2.length = 56 := hx
  have h60 : (x.2.2 ++ be 2 epoch ++ be 2 seq).length ≤ 60 := by simp [be_length, h56]
  unfold overB imageB
  rw [filledB_length h60, List.drop_of_length_le (by rw [Z56_length]; decide), List.append_nil]
  have := filled_mid h60 0 56 (by simp [be_length, h56])
  rw [List.drop_zero, List.drop_zero] at this
  rw [this, List.append_assoc, List.take_left' h56]
theorem image_length (x : Wr) (hx : WrOk x) : (imageB epoch seq x).length = 64 := filledB_length (by simp [be_length, show x.2.2.length = 56 from hx])
theorem readW_own (more : List (List UInt8)) (hok : okW l) (hw : ∀ x ∈ l, WrOk x) (k : Nat) (h : k < l.length) : readW (recB label epoch seq l ++ more) k = l[k] := by
  have hl : l.length ≤ 12 := hok.2.2
  have hn := okW_num hok _ (List.getElem_mem h)
  have hx := hw _ (List.getElem_mem h)
  have hp := head_place (label := label) (epoch := epoch) (seq := seq) hl k h
  have hL : (recB label epoch seq l ++ more)[k + 1]?.getD [] = imageB epoch seq l[k] := by
    unfold recB
    rw [List.cons_append, List.getElem?_cons_succ, List.getElem?_append_left (by simpa using h), List.getElem?_map, List.getElem?_eq_getElem h]
    rfl
  have hH : headOf (recB label epoch seq l ++ more) = headB label epoch seq l := rfl
  unfold readW
  rw [hL, hH, image_body _ hx]
  have h2 : ((headB label epoch seq l).drop (11 + 3 * k)).take 2 = be 2 l[k].1.toNat := by
    have := congrArg (List.take 2) hp
    rw [List.take_take, show min 2 3 = 2 from rfl] at this
    rw [this]
    unfold placeB
    rw [List.take_left' (be_length _ _)]
  have h3 : (headB label epoch seq l)[13 + 3 * k]? = some (UInt8.ofNat l[k].2.1.toNat) := by
    have : (((headB label epoch seq l).drop (11 + 3 * k)).take 3)[2]? = (placeB l[k])[2]? := by rw [hp]
    rw [List.getElem?_take, if_pos (by decide), List.getElem?_drop, show 11 + 3 * k + 2 = 13 + 3 * k by omega] at this
    rw [this]
    unfold placeB
    rw [List.getElem?_append_right (by rw [be_length]; exact Nat.le_refl _), be_length]
    simp [be]
  obtain ⟨⟨a1, a2⟩, a3, a4⟩ := hn
  rw [h2, h3, num_be (by omega)]
  have e1 : ((l[k].1.toNat : Nat) : Int) = l[k].1 := by omega
  have e2 : (((some (UInt8.ofNat l[k].2.1.toNat)).getD 0).toNat : Int) = l[k].2.1 := by
    show (((UInt8.ofNat l[k].2.1.toNat).toNat : Nat) : Int) = _
    rw [UInt8.toNat_ofNat']
    omega
  rw [e1, e2]
theorem many_own (more : List (List UInt8)) (hl : l.length ≤ 12) : manyR (recB label epoch seq l ++ more) = l.length := head_many hl
theorem readAll_own (more : List (List UInt8)) (hok : okW l) (hw : ∀ x ∈ l, WrOk x) : readAll (recB label epoch seq l ++ more) l.length = l := by
  show (List.range l.length).map (readW (recB label epoch seq l ++ more)) = l
  apply List.ext_getElem (by simp)
  intro k h1 h2
  rw [List.getElem_map, List.getElem_range, readW_own more hok hw k h2]
theorem recB_length : (recB label epoch seq l).length = l.length + 1 := by simp [recB]
theorem good_own (more : List (List UInt8)) (hok : okW l) (hw : ∀ x ∈ l, WrOk x) : goodR label epoch seq (recB label epoch seq l ++ more) := by
  have hl : l.length ≤ 12 := hok.2.2
  refine ⟨⟨by rw [List.length_append, recB_length]; omega, headB_length hl, by rw [many_own more hl]; exact hl, by rw [many_own more hl, List.length_append, recB_length]; omega⟩, ?_, ?_⟩
  · rw [many_own more hl, readAll_own more hok hw]; exact hok
  · rw [many_own more hl, readAll_own more hok hw, List.take_left' recB_length]
theorem head_eq {label' : UInt8} {epoch' seq' : Nat} {l' : List Wr} (h1 : epoch < 4294967296) (h2 : epoch' < 4294967296) (h3 : seq < 4294967296) (h4 : seq' < 4294967296) (hl : l.length ≤ 12) (hl' : l'.length ≤ 12)
    (h : headB label epoch seq l = headB label' epoch' seq' l') : label = label' ∧ epoch = epoch' ∧ seq = seq' := by
  have key : ∀ {la : UInt8} {ep sq : Nat} {m : List Wr}, m.length ≤ 12 → (headB la ep sq m).take 10 = [72, la] ++ be 4 ep ++ be 4 sq := fun {la ep sq m} hm => by
    have := filled_mid (headL_short (label := la) (epoch := ep) (seq := sq) hm) 0 10 (by rw [headL_length]; omega)
    rw [List.drop_zero, List.drop_zero] at this
    unfold headB
    rw [this, head_prefix, List.take_left' (by simp [be_length])]
  have e := congrArg (List.take 10) h
  rw [key hl, key hl'] at e
  have e1 := List.append_inj' e (by rw [be_length, be_length])
  have e2 := List.append_inj' e1.1 (by rw [be_length, be_length])
  refine ⟨by simpa using e2.1, be_inj h1 h2 e2.2, be_inj h3 h4 e1.2⟩
theorem good_head {label' : UInt8} {epoch' seq' : Nat} (more : List (List UInt8)) (h1 : epoch < 4294967296) (h2 : epoch' < 4294967296) (h3 : seq < 4294967296) (h4 : seq' < 4294967296) (hl : l.length ≤ 12)
    (h : goodR label' epoch' seq' (recB label epoch seq l ++ more)) : label' = label ∧ epoch' = epoch ∧ seq' = seq := by
  obtain ⟨⟨_, _, hm, _⟩, _, he⟩ := h
  have : (recB label' epoch' seq' (readAll (recB label epoch seq l ++ more) (manyR (recB label epoch seq l ++ more))))[0]? = ((recB label epoch seq l ++ more).take (manyR (recB label epoch seq l ++ more) + 1))[0]? := by rw [he]
  rw [List.getElem?_take, if_pos (by omega)] at this
  have e : headB label' epoch' seq' (readAll (recB label epoch seq l ++ more) (manyR (recB label epoch seq l ++ more))) = headB label epoch seq l := Option.some.inj this
  exact head_eq h2 h1 h4 h3 (by rw [readAll_length]; exact hm) hl e
end
end Go.Proofs.Ytgeiafijibgdhaa.Cl
