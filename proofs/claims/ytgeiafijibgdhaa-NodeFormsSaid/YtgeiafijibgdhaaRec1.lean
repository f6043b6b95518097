/- rec: numbers behind bytes, num, sealed, anchors. -/
import Derived.Test.YtgeiafijibgdhaaOnto
import Derived.Test.YtgeiafijibgdhaaZero
import Derived.Test.YtgeiafijibgdhaaZig
import Derived.Test.YtgeiafijibgdhaaBlk2
import Derived.Test.YtgeiafijibgdhaaBits
import Derived.Handy
set_option linter.unusedVariables false
set_option linter.unusedSimpArgs false
namespace Go.Proofs.Ytgeiafijibgdhaa.Cl
open Go Go.Proofs Go.RowKit Fl Rely

theorem be_take (k n j : Nat) (h : j < k) : (be k n).take (j + 1) = (be k n).take j ++ [UInt8.ofNat (n / 256 ^ (k - 1 - j))] := by
  rw [List.take_add_one, be_get? k n j h]
  rfl
theorem u8_of (n : Int) (m : Nat) (h : n % 256 = (m : Int) % 256) : Value.int .u8 (n % 256) = u8 (UInt8.ofNat m) := by
  refine int_val ?_
  rw [UInt8.toNat_ofNat', h]
  omega
theorem new_byte (w : World) (b : UInt8) (x : Int) (h : x = (b.toNat : Int)) : Rd (w.alloc (.cells #[.int .u8 x] 5)) (.slice (some ⟨w.heap.size, 0, none⟩) 1 1) (bs [b]) := by
  subst h
  exact Rd.new w #[u8 b] 5 (0, 0) 1 rfl (by simp)

set_option maxRecDepth 100000 in
set_option maxHeartbeats 1000000 in
theorem number_any (B : Nat) (v : Value) (l : List UInt8) (n k : Nat) (N : Int) (hN : N = (k : Int)) (w : World) (hk : k ≤ 4) (hn : n < 4294967296) (hl : l.length ≤ 1000) (hO : OB w B v l) (hB : B ≤ w.heap.size) :
    Calls Try.prog 71 #[v, .int .u32 n, .int .i64 N] w fun e w' => ∃ u, e = .returned u ∧ OB w' B u (l ++ be k n) ∧ Onto w v w' u := by
  subst hN
  go_enter Try.func71, Try.ntmps71
  go_wp2_with fail
  go_loopw [0, 7] (fun u i wr => ∃ j : Nat, j ≤ k ∧ i = .int .i64 ((j : Int) - 1) ∧ OB wr B u (l ++ (be k n).take (k - j)) ∧ Onto w v wr u) (fun _ i _ => (intOf i + 1).toNat)
  case atStart => exact ⟨k, Nat.le_refl _, rfl, by rw [Nat.sub_self, List.take_zero, List.append_nil]; exact hO, Onto.refl _ _⟩
  case round =>
    obtain ⟨j, hj, rfl, hU, hT⟩ := hrel
    have hBr : B ≤ wr.heap.size := Nat.le_trans hB hT.size
    by_cases h0 : j = 0
    · subst h0
      rw [Nat.sub_zero, List.take_of_length_le (by rw [be_length]; exact Nat.le_refl _)] at hU
      go_wp2_with fail
      go_ret
      exact ⟨_, rfl, hU, hT⟩
    · have hlen : (l ++ (be k n).take (k - j)).length ≤ 1004 := by rw [List.length_append, List.length_take, be_length]; omega
      have hts := be_take k n (k - j) (by omega)
      have E : l ++ (be k n).take (k - (j - 1)) = l ++ (be k n).take (k - j) ++ [UInt8.ofNat (n / 256 ^ (j - 1))] := by
        rw [show k - (j - 1) = k - j + 1 from by omega, hts, show k - 1 - (k - j) = j - 1 from by omega, List.append_assoc]
      have E := Lib.hid E
      clear hts
      obtain ⟨b, hb⟩ : ∃ b : UInt8, b = UInt8.ofNat (n / 256 ^ (j - 1)) := ⟨_, rfl⟩
      have hbt : b.toNat = n / 256 ^ (j - 1) % 256 := by rw [hb, UInt8.toNat_ofNat']
      rw [← hb] at E
      clear hb
      generalize l ++ (be k n).take (k - j) = x at *
      have hway : j = 1 ∨ j = 2 ∨ j = 3 ∨ j = 4 := by omega
      rcases hway with rfl | rfl | rfl | rfl
      all_goals
        clear h0
        simp only [Nat.sub_self, Nat.pow_zero, Nat.div_one, Nat.reduceSub, Nat.reducePow] at hbt
        go_wp2_with (at_builtin; go_loud (refine wp_want rfl fun K hK => ?_; refine wp_appO B _ _ x [b] (by simp only [List.length_singleton]; omega) (hU.below (below_new wr _)) (new_byte wr b _ (by omega)) (Nat.le_trans hBr (le_new _ _)) rfl rfl rfl ?_))
        intro u2 w2 hU2 hT2
        have hT2 := hT.trans (Onto.after (below_new wr _) hT2)
        refine hK _ _ ?_
        clear hK K
        go_wp2_with fail
        go_roundw
        case rel =>
          have E' := E.out
          first
            | exact ⟨0, by omega, by go_num, by rw [show l ++ (be k n).take (k - 0) = x ++ [b] from E']; exact hU2, hT2⟩
            | exact ⟨1, by omega, by go_num, by rw [show l ++ (be k n).take (k - 1) = x ++ [b] from E']; exact hU2, hT2⟩
            | exact ⟨2, by omega, by go_num, by rw [show l ++ (be k n).take (k - 2) = x ++ [b] from E']; exact hU2, hT2⟩
            | exact ⟨3, by omega, by go_num, by rw [show l ++ (be k n).take (k - 3) = x ++ [b] from E']; exact hU2, hT2⟩
        case measure => simp only [intOf]; omega

theorem recNum_any (v : Value) (l : List UInt8) (w : World) (hv : Rd w v (bs l)) (h4 : l.length ≤ 4) :
    Calls Try.prog 68 #[v] w fun e w' => e = .returned (.int .u32 (num l)) ∧ w = w' := by
  obtain ⟨a, cap, rfl, hc1, hc2, hcell, _⟩ := hv
  rw [List.length_map] at *
  go_enter Try.func68, Try.ntmps68
  go_wp2
  go_loop [2, 4, 7] (fun x _ i => ∃ k : Nat, k ≤ l.length ∧ i = .int .i64 k ∧ x = .int .u32 (num (l.take k))) (fun _ _ i => l.length - (intOf i).toNat)
  case atStart => exact ⟨0, Nat.zero_le _, rfl, rfl⟩
  case round =>
    obtain ⟨k, hk, rfl, rfl⟩ := hrel
    by_cases hlt : k < l.length
    · obtain ⟨ad, rfl, hcx⟩ := hcell k (by rw [List.length_map]; exact hlt)
      clear hcell
      have hts := Lib.hid (take_snoc l k hlt)
      rw [List.getElem_map] at hcx
      have hb := l[k].toNat_lt
      have hn : num (l.take k) < 256 ^ 3 := Nat.lt_of_lt_of_le (num_lt _) (Nat.pow_le_pow_right (by decide) (by rw [List.length_take]; omega))
      have hn : num (l.take k) < 16777216 := hn
      have ho : bits .or .u32 ((num (l.take k) : Int) * 256) (l[k].toNat : Int) = ((num (l.take k) * 256 + l[k].toNat : Nat) : Int) := by
        have h := u32_or_add (num (l.take k)) l[k].toNat 8 256 rfl (by omega) (by omega) (by omega)
        rwa [show ((num (l.take k) * 256 : Nat) : Int) = (num (l.take k) : Int) * 256 from by omega] at h
      go_wp2
      go_round
      case rel => exact ⟨k + 1, by omega, by go_num, by rw [hts.out, num_snoc]; exact int_val (by omega)⟩
      case measure => simp only [intOf]; omega
    · obtain rfl : k = l.length := by omega
      rw [List.take_length] at *
      go_wp2
      go_ret
      exact ⟨rfl, rfl⟩

/-- bytes with their sum behind -/
def sealedB (x : List UInt8) : List UInt8 := x ++ be 4 (sumN x)
def filledB (b : List UInt8) : List UInt8 := sealedB (b ++ List.replicate (60 - b.length) 0)
set_option maxRecDepth 100000 in
theorem sealed_any (B : Nat) (v : Value) (l : List UInt8) (w : World) (hl : l.length ≤ 60) (hO : OB w B v l) (hB : B ≤ w.heap.size) :
    Calls Try.prog 70 #[v] w fun e w' => ∃ u, e = .returned u ∧ OB w' B u (filledB l) ∧ Below B w w' := by
  obtain ⟨a, cap, rfl, hc1, hc2, _, _⟩ := id hO.rd
  rw [bs_length] at *
  have e60 : IntKind.i64.wrap (60 - (l.length : Int)) = ((60 - l.length : Nat) : Int) := by rw [IntWalk.i64_in _ (by omega)]; omega
  unfold filledB sealedB
  obtain ⟨x, hx⟩ : ∃ x, x = l ++ List.replicate (60 - l.length) (0 : UInt8) := ⟨_, rfl⟩
  have hlen : x.length = 60 := by rw [hx]; simp; omega
  rw [← hx]
  have Hx := Lib.hid hx
  have Hlen := Lib.hid hlen
  clear hx hlen
  go_enter Try.func70, Try.ntmps70
  go_wp2_with (at_builtin; go_loud (refine wpList_zeros B _ _ l (60 - l.length) rfl _ _ rfl rfl rfl rfl hO (by omega) hB ?_))
  intro u2 w2 h2 b2
  rw [← Hx.out] at h2
  go_wp2_with fail
  refine (sum_any u2 x w2 h2.rd).mono ?_
  rintro e wq ⟨rfl, rfl⟩
  have hs := sumN_lt x
  go_wp2_with fail
  refine (number_any B u2 x (sumN x) 4 4 rfl _ (by decide) (by omega) (by rw [Hlen.out]; decide) h2 (Nat.le_trans hB b2.size)).mono ?_
  rintro e w3 ⟨u3, rfl, h3, t3⟩
  go_wp2_with fail
  go_ret
  exact ⟨_, rfl, h3, b2.trans (t3.below (Nat.le_trans hB b2.size) h2.ge)⟩

def anchorB (label : UInt8) (epoch : Nat) : List UInt8 := filledB ([65, 78, label] ++ be 4 epoch)
set_option maxRecDepth 100000 in
theorem anchor_any (label : UInt8) (epoch : Nat) (w : World) (he : epoch < 4294967296) :
    Calls Try.prog 41 #[u8 label, .int .u32 epoch] w fun e w' => ∃ u, e = .returned u ∧ OB w' w.heap.size u (anchorB label epoch) ∧ Below w.heap.size w w' := by
  go_enter Try.func41, Try.ntmps41
  go_wp2_with fail
  refine at_world fun w1 hw1 => ?_
  have h1 : OB w1 w.heap.size (.slice (some ⟨w.heap.size, 0, none⟩) 3 3) [65, 78, label] := by rw [hw1]; exact OB.lit' _ _ _ [65, 78, label] 3 rfl rfl (Nat.le_refl _) (by simp)
  have b1 : Below w.heap.size w w1 := by rw [hw1]; exact below_new _ _
  clear hw1
  refine (number_any w.heap.size _ [65, 78, label] epoch 4 4 rfl _ (by decide) he (by simp) h1 b1.size).mono ?_
  rintro e w2 ⟨u2, rfl, h2, t2⟩
  have b2 := b1.trans (t2.below b1.size h1.ge)
  go_wp2_with fail
  refine (sealed_any w.heap.size _ _ _ (by simp [be_length]) h2 b2.size).mono ?_
  rintro e w3 ⟨u3, rfl, h3, b3⟩
  go_wp2_with fail
  go_ret
  exact ⟨_, rfl, h3, b2.trans b3⟩

theorem filledB_length {l : List UInt8} (h : l.length ≤ 60) : (filledB l).length = 64 := by
  unfold filledB sealedB
  rw [List.length_append, be_length, List.length_append, List.length_replicate]
  omega
theorem anchorB_length (label : UInt8) (e : Nat) : (anchorB label e).length = 64 := filledB_length (by simp [be_length])
/-- the epoch of an anchor -/
def takeAnc (label : UInt8) (l : List UInt8) : Option Nat :=
  if l.length = 64 ∧ num ((l.drop 3).take 4) ≠ 4294967295 ∧ anchorB label (num ((l.drop 3).take 4)) = l then some (num ((l.drop 3).take 4)) else none
def ancV : Option Nat → Value
  | some e => .tuple #[.int .u32 e, .bool true]
  | none => .tuple #[.int .u32 0, .bool false]
theorem takeAnc_len {label : UInt8} {l : List UInt8} (h : l.length ≠ 64) : takeAnc label l = none := by unfold takeAnc; rw [if_neg (fun k => h k.1)]
theorem takeAnc_last {label : UInt8} {l : List UInt8} (h : num ((l.drop 3).take 4) = 4294967295) : takeAnc label l = none := by unfold takeAnc; rw [if_neg (fun k => k.2.1 h)]
theorem takeAnc_other {label : UInt8} {l : List UInt8} (h : anchorB label (num ((l.drop 3).take 4)) ≠ l) : takeAnc label l = none := by unfold takeAnc; rw [if_neg (fun k => h k.2.2)]
set_option maxRecDepth 100000 in
set_option maxHeartbeats 1000000 in
theorem takeAnchor_any (label : UInt8) (v : Value) (l : List UInt8) (w : World) (hv : Rd w v (bs l)) :
    Calls Try.prog 37 #[u8 label, v] w fun e w' => e = .returned (ancV (takeAnc label l)) ∧ Below w.heap.size w w' := by
  by_cases h64 : l.length = 64
  · obtain ⟨a, cap, rfl, hc1, hc2⟩ := hv.some_ (by rw [bs_length]; omega)
    have h64v : (bs l).length = 64 := by rw [bs_length]; exact h64
    rw [h64v] at hv hc1 ⊢
    have h4 : ¬ cap = 3 := by omega
    have hd := hv.sub 3 7 (by omega) (by omega)
    have es : sliced (some a) 3 7 cap 1 = .slice (some ⟨a.block, a.off + 3, none⟩) 4 (cap - 3) := by simp [sliced, h4, Addr.add]
    rw [es, show ((bs l).drop 3).take (7 - 3) = bs ((l.drop 3).take 4) from by simp [bs]] at hd
    have hlen4 : ((l.drop 3).take 4).length = 4 := by rw [List.length_take, List.length_drop]; omega
    have hnl := num_lt ((l.drop 3).take 4)
    rw [hlen4] at hnl
    have hnl : num ((l.drop 3).take 4) < 4294967296 := hnl
    by_cases hlast : num ((l.drop 3).take 4) = 4294967295
    · rw [takeAnc_last hlast]
      have hle4 : ((l.drop 3).take 4).length ≤ 4 := by omega
      have Hlast := Lib.hid hlast
      have Hlen4 := Lib.hid hlen4
      clear h64 hlast h64v hlen4 es
      have hcn := fun u w h => recNum_any u ((l.drop 3).take 4) w h hle4
      rw [Hlast.out] at hcn
      go_enter Try.func37, Try.ntmps37
      go_wp2_with fail
      refine (hcn _ _ hd).mono ?_
      rintro e wq ⟨rfl, rfl⟩
      go_wp2_with fail
      go_ret2
      exact ⟨rfl, Below.refl _ _⟩
    · have hle4 : ((l.drop 3).take 4).length ≤ 4 := by omega
      have hcn := fun u w h => recNum_any u ((l.drop 3).take 4) w h hle4
      have hne := takeAnc_other (label := label) (l := l)
      have hyes : anchorB label (num ((l.drop 3).take 4)) = l → takeAnc label l = some (num ((l.drop 3).take 4)) := fun k => by unfold takeAnc; rw [if_pos ⟨h64, hlast, k⟩]
      clear h64 h64v hlen4 es
      generalize num ((l.drop 3).take 4) = n at *
      have hlast' : ((n : Int) == 4294967295) = false := by rw [beq_eq_false_iff_ne]; omega
      have ha := fun w => anchor_any label n w hnl
      have heq := fun v u w h1 h2 => equal_any v u (anchorB label n) l w h1 h2
      clear hlast
      by_cases hk : anchorB label n = l
      · rw [hyes hk]
        rw [decide_eq_true hk] at heq
        clear hk hyes hne
        go_enter Try.func37, Try.ntmps37
        go_wp2_with fail
        refine (hcn _ _ hd).mono ?_
        rintro e wq ⟨rfl, rfl⟩
        go_wp2_with fail
        refine (ha _).mono ?_
        rintro e w2 ⟨u2, rfl, h2, b2⟩
        go_wp2_with fail
        refine (heq _ _ _ h2.rd (hv.below b2)).mono ?_
        rintro e wq ⟨rfl, rfl⟩
        go_wp2_with fail
        go_ret2
        exact ⟨rfl, b2⟩
      · rw [hne hk]
        rw [decide_eq_false hk] at heq
        clear hk hyes hne
        go_enter Try.func37, Try.ntmps37
        go_wp2_with fail
        refine (hcn _ _ hd).mono ?_
        rintro e wq ⟨rfl, rfl⟩
        go_wp2_with fail
        refine (ha _).mono ?_
        rintro e w2 ⟨u2, rfl, h2, b2⟩
        go_wp2_with fail
        refine (heq _ _ _ h2.rd (hv.below b2)).mono ?_
        rintro e wq ⟨rfl, rfl⟩
        go_wp2_with fail
        go_ret2
        exact ⟨rfl, b2⟩
  · rw [takeAnc_len h64]
    obtain ⟨a, cap, rfl, hc1, hc2, _, _⟩ := id hv
    rw [bs_length] at *
    have h' : ((l.length : Int) != 64) = true := by rw [bne_iff_ne]; omega
    clear h64
    go_enter Try.func37, Try.ntmps37
    go_wp2_with fail
    go_ret2
    exact ⟨rfl, Below.refl _ _⟩
end Go.Proofs.Ytgeiafijibgdhaa.Cl
