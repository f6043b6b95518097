/- rec: a record's head, its images, Put. -/
import Derived.Test.YtgeiafijibgdhaaRec2
set_option linter.unusedVariables false
set_option linter.unusedSimpArgs false
namespace Go.Proofs.Ytgeiafijibgdhaa.Cl
open Go Go.Proofs Go.RowKit Fl Rely

/-- a write in numbers that may be -/
def NumW (x : Wr) : Prop := (0 ≤ x.2.1 ∧ x.2.1 ≤ 7) ∧ (0 ≤ x.1 ∧ x.1 < 200)
def placeB (x : Wr) : List UInt8 := be 2 x.1.toNat ++ be 1 x.2.1.toNat
def headL (label : UInt8) (epoch seq : Nat) (l : List Wr) : List UInt8 := [72, label] ++ be 4 epoch ++ be 4 seq ++ [UInt8.ofNat l.length] ++ l.flatMap placeB
def headB (label : UInt8) (epoch seq : Nat) (l : List Wr) : List UInt8 := filledB (headL label epoch seq l)
def imageB (epoch seq : Nat) (x : Wr) : List UInt8 := filledB (x.2.2 ++ be 2 epoch ++ be 2 seq)
theorem placeB_length (x : Wr) : (placeB x).length = 3 := by simp [placeB, be_length]
theorem places_length : ∀ l : List Wr, (l.flatMap placeB).length = 3 * l.length
  | [] => rfl
  | x :: l => by rw [List.flatMap_cons, List.length_append, placeB_length, places_length l, List.length_cons]; omega
theorem headL_length (label : UInt8) (epoch seq : Nat) (l : List Wr) : (headL label epoch seq l).length = 11 + 3 * l.length := by
  unfold headL
  simp only [List.length_append, be_length, places_length, List.length_cons, List.length_nil]

theorem places_take : ∀ (l : List Wr) (k : Nat) (h : k < l.length), (l.flatMap placeB).take (3 * (k + 1)) = (l.flatMap placeB).take (3 * k) ++ placeB l[k]
  | [], k, h => by simp at h
  | x :: l, 0, _ => by
    rw [List.flatMap_cons, List.take_left' (by rw [placeB_length]), Nat.mul_zero, List.take_zero]
    rfl
  | x :: l, k + 1, h => by
    have ih := places_take l k (by simpa using h)
    have e : ∀ n, ((x :: l).flatMap placeB).take (3 * (n + 1)) = placeB x ++ (l.flatMap placeB).take (3 * n) := fun n => by
      rw [List.flatMap_cons, List.take_append, placeB_length, List.take_of_length_le (by rw [placeB_length]; omega), show 3 * (n + 1) - 3 = 3 * n from by omega]
    rw [e (k + 1), e k, ih, List.append_assoc]
    rfl
theorem headL_take (label : UInt8) (epoch seq : Nat) (l : List Wr) (k : Nat) (h : k < l.length) : (headL label epoch seq l).take (11 + 3 * (k + 1)) = (headL label epoch seq l).take (11 + 3 * k) ++ placeB l[k] := by
  have e : ∀ n, (headL label epoch seq l).take (11 + n) = [72, label] ++ be 4 epoch ++ be 4 seq ++ [UInt8.ofNat l.length] ++ (l.flatMap placeB).take n := fun n => by
    unfold headL
    have hl : ([72, label] ++ be 4 epoch ++ be 4 seq ++ [UInt8.ofNat l.length]).length = 11 := by simp [be_length]
    rw [List.take_append, hl, List.take_of_length_le (by rw [hl]; omega), show 11 + n - 11 = n from by omega]
  rw [e, e, places_take l k h]
  simp only [List.append_assoc]

set_option maxRecDepth 100000 in
set_option maxHeartbeats 2000000 in
theorem recHead_any (label : UInt8) (epoch seq : Nat) (v : Value) (l : List Wr) (w : World) (he : epoch < 4294967296) (hs : seq < 4294967296) (hl : l.length ≤ 12) (hok : ∀ x ∈ l, WrOk x) (hnum : ∀ x ∈ l, NumW x) (hv : RdW w v l) :
    Calls Try.prog 65 #[u8 label, .int .u32 epoch, .int .u32 seq, v] w fun e w' => ∃ u, e = .returned u ∧ OB w' w.heap.size u (headB label epoch seq l) ∧ Below w.heap.size w w' := by
  obtain ⟨a, cap, rfl, hc1, hc2, hcell, _⟩ := id hv
  go_enter Try.func65, Try.ntmps65
  go_wp2_with fail
  refine at_world fun w1 hw1 => ?_
  have h1 : OB w1 w.heap.size (.slice (some ⟨w.heap.size, 0, none⟩) 2 2) [72, label] := by rw [hw1]; exact OB.lit' _ _ _ [72, label] 2 rfl rfl (Nat.le_refl _) (by simp)
  have b1 : Below w.heap.size w w1 := by rw [hw1]; exact below_new _ _
  clear hw1
  refine (number_any w.heap.size _ [72, label] epoch 4 4 rfl _ (by decide) he (by simp) h1 b1.size).mono ?_
  rintro e w2 ⟨u2, rfl, h2, t2⟩
  have b2 := b1.trans (t2.below b1.size h1.ge)
  go_wp2_with fail
  refine (number_any w.heap.size u2 _ seq 4 4 rfl _ (by decide) hs (by simp [be_length]) h2 b2.size).mono ?_
  rintro e w3 ⟨u3, rfl, h3, t3⟩
  have b3 := b2.trans (t3.below b2.size h2.ge)
  have e8 : IntKind.u8.wrap (l.length : Int) = (l.length : Int) := by rw [IntKind.wrap_u8]; omega
  clear h1 b1 h2 t2 b2 t3
  go_wp2_with (at_builtin; go_loud (refine wp_want rfl fun K hK => ?_; refine wp_appO w.heap.size _ _ _ [UInt8.ofNat l.length] (by simp [be_length]) (h3.below (below_new w3 _)) (new_byte w3 (UInt8.ofNat l.length) _ (by rw [UInt8.toNat_ofNat']; omega)) (Nat.le_trans b3.size (le_new _ _)) rfl rfl rfl ?_))
  intro u4 w4 h4 t4
  have b4 := b3.trans ((Onto.after (below_new w3 _) t4).below b3.size h3.ge)
  refine hK _ _ ?_
  clear hK K h3 t4 b3
  go_wp2_with fail
  go_loopw [9, 11, 26] (fun u _ i wr => ∃ k : Nat, k ≤ l.length ∧ i = .int .i64 k ∧ OB wr w.heap.size u (headL label epoch seq l |>.take (11 + 3 * k)) ∧ Below w.heap.size w wr) (fun _ _ i _ => l.length - (intOf i).toNat)
  case atStart => exact ⟨0, Nat.zero_le _, rfl, by
    have e : (headL label epoch seq l).take (11 + 3 * 0) = [72, label] ++ be 4 epoch ++ be 4 seq ++ [UInt8.ofNat l.length] := by
      unfold headL
      rw [List.take_left' (by simp [be_length])]
    rw [e]; exact h4, b4⟩
  case round =>
    clear h4 b4
    obtain ⟨k, hk, rfl, hU, hb⟩ := hrel
    by_cases hlt : k < l.length
    · obtain ⟨ad, rfl, hcx⟩ := hcell k hlt
      have hcx : ∀ i u, (wrC l[k])[i]? = some u → wr.cell? ((ad.add (k * 58)).add i) = some u := fun i u hu => cell_later hb (hcx i u hu)
      have hx := hok _ (List.getElem_mem hlt)
      have hn := hnum _ (List.getElem_mem hlt)
      have hts := headL_take label epoch seq l k hlt
      have hlen : ((headL label epoch seq l).take (11 + 3 * k)).length ≤ 60 := by rw [List.length_take, headL_length]; omega
      have hts := Lib.hid hts
      generalize (headL label epoch seq l).take (11 + 3 * k) = y at *
      generalize l[k] = x at *
      obtain ⟨at_, kind, body⟩ := x
      obtain ⟨⟨hk1, hk2⟩, ha1, ha2⟩ := hn
      dsimp only at hk1 hk2 ha1 ha2
      obtain ⟨an, rfl⟩ : ∃ n : Nat, at_ = (n : Int) := ⟨at_.toNat, by omega⟩
      obtain ⟨kn, rfl⟩ : ∃ n : Nat, kind = (n : Int) := ⟨kind.toNat, by omega⟩
      clear hv hcell
      go_wp2_with (refine wp_want rfl fun K hK => ?_; first | (refine wp_wr_elem ((an : Int), (kn : Int), body) hx hcx rfl rfl ?_; refine hK _ _ ?_; clear hK K) | refine wp_wr_alloc rfl ?_)
      intro w5 A5 b5 s5
      refine hK _ _ ?_
      clear hK K
      go_wp2_with (refine wp_want rfl fun K hK => ?_; refine wp_wr_store A5 Z56_length hx rfl rfl rfl ?_)
      intro w6 A6 g6 z6
      refine hK _ _ ?_
      clear hK K
      have hb6 : Below wr.heap.size wr w6 := below_row b5 g6 b5.size (Nat.le_refl _)
      have hU6 := (hU.below hb6).drew
      have hne := own_ne hU (Nat.le_refl wr.heap.size)
      have hbw6 := (hb.trans (hb6.mono hb.size)).drew
      have A6 := A6.drew
      have ea : IntKind.u32.wrap (an : Int) = (an : Int) := by rw [IntKind.wrap_u32]; omega
      have ek : IntKind.u32.wrap (kn : Int) = (kn : Int) := by rw [IntKind.wrap_u32]; omega
      clear hb6 A5 b5 g6 hcx
      go_wp2_with fail
      refine Zig.wp_region_zig [(false, 0), (false, 1), (false, 2), (false, 3), (false, 5), (false, 6), (false, 7), (false, 8), (true, 4), (true, 9), (true, 10)] (fun W => WrAt W wr.heap.size ((an : Int), (kn : Int), body)) (by kernel_rfl) (by kernel_rfl) A6 ?_
      simp only [Zig.sel, List.drop_succ_cons, List.drop_zero]
      generalize World.drew w6 = w7 at *
      haveI : Nonempty (Zig.Lt (fun W => WrAt W wr.heap.size ((an : Int), (kn : Int), body))) := ⟨⟨w7, A6⟩⟩
      have x0 := fun x : Zig.Lt (fun W => WrAt W wr.heap.size ((an : Int), (kn : Int), body)) => WrAt.at_ x.2
      have x1 := fun x : Zig.Lt (fun W => WrAt W wr.heap.size ((an : Int), (kn : Int), body)) => WrAt.kind x.2
      repeat (refine Zig.zig_step (fun K hK => ?_); go_simp; refine hK _ ?_; clear hK K)
      refine Zig.zig_do rfl (fun K hK => ?_)
      unfold Oper.wp
      go_simp
      refine (number_any w.heap.size u9 y an 2 2 rfl _ (by decide) (by omega) (by omega) hU6 hbw6.size).mono ?_
      rintro e w8 ⟨u8', rfl, hO8, t8⟩
      have A8 : WrAt w8 wr.heap.size ((an : Int), (kn : Int), body) := t8.row A6 hne
      have hb8 := hbw6.trans (t8.below hbw6.size hU6.ge)
      have hne8 : u8'.ownBlock ≠ some wr.heap.size := fun e => by
        rcases t8.2 _ e with e | e
        · exact hne e
        · have := A6.lt; omega
      refine hK _ _ A8 ?_
      clear hK K
      repeat (refine Zig.zig_step (fun K hK => ?_); go_simp; refine hK _ ?_; clear hK K)
      refine Zig.zig_do rfl (fun K hK => ?_)
      unfold Oper.wp
      go_simp
      refine (number_any w.heap.size u8' _ kn 1 1 rfl _ (by decide) (by omega) (by rw [List.length_append, be_length]; omega) hO8 hb8.size).mono ?_
      rintro e w9 ⟨u9', rfl, hO9, t9⟩
      have A9 : WrAt w9 wr.heap.size ((an : Int), (kn : Int), body) := t9.row A8 hne8
      have hb9 := hb8.trans (t9.below hb8.size hO8.ge)
      refine hK _ _ A9 ?_
      clear hK K
      refine Zig.zig_do rfl (fun K hK => ?_)
      unfold Oper.wp
      go_simp
      refine hK _ _ A9 ?_
      clear hK K
      refine Zig.zig_nil ?_
      go_wp2_with fail
      go_roundw
      case rel =>
        refine ⟨k + 1, by omega, by go_num, ?_, hb9⟩
        rw [hts.out]
        have e : y ++ placeB ((an : Int), (kn : Int), body) = y ++ be 2 an ++ be 1 kn := by simp [placeB]
        rw [e]
        exact hO9
      case measure => simp only [intOf]; omega
    · obtain rfl : k = l.length := by omega
      rw [List.take_of_length_le (by rw [headL_length]; exact Nat.le_refl _)] at hU
      clear hcell hv
      go_wp2_with fail
      refine (sealed_any w.heap.size _ (headL label epoch seq l) _ (by rw [headL_length]; omega) hU hb.size).mono ?_
      rintro e w5 ⟨u5, rfl, h5, b5⟩
      go_wp2_with fail
      go_ret
      exact ⟨_, rfl, h5, hb.trans b5⟩

set_option maxRecDepth 100000 in
theorem clone_bytes (v : Value) (l : List UInt8) (w : World) (hv : Rd w v (bs l)) (h0 : 0 < l.length) (hl : l.length ≤ 100000) : Calls Try.prog 78 #[v] w fun e w' => ∃ u, e = .returned u ∧ OB w' w.heap.size u l ∧ Below w.heap.size w w' := by
  obtain ⟨a, cap, rfl, hc1, hc2⟩ := hv.some_ (by rw [bs_length]; exact h0)
  rw [bs_length] at hv hc1 ⊢
  have hn := fun w => Lib.run_eql_slice_nil (P := Try.prog) w 37 5 (some a) l.length cap 0 0 Try.underlying37
  go_enter Try.func78, Try.ntmps78
  have hE : OB (w.alloc (.cells #[] 5)) w.heap.size (.slice (some ⟨w.heap.size, 0, none⟩) 0 0) [] := OB.lit' w.heap.size w #[] [] 0 rfl rfl (Nat.le_refl _) (by simp)
  go_wp2_with (at_builtin; go_loud (refine wp_want rfl fun K hK => ?_; refine wp_appO w.heap.size _ _ [] l (by simp; omega) hE (hv.below (below_new w _)) (le_new _ _) rfl rfl rfl ?_))
  intro u2 w2 h2 t2
  have b2 := (below_new w (.cells #[] 5)).trans (t2.below (le_new _ _) hE.ge)
  refine hK _ _ ?_
  clear hK K
  go_wp2_with fail
  go_ret
  exact ⟨_, rfl, h2, b2⟩

set_option maxRecDepth 100000 in
set_option maxHeartbeats 1000000 in
theorem image_any (epoch seq : Nat) (x : Wr) (w : World) (he : epoch < 4294967296) (hs : seq < 4294967296) (hx : WrOk x) :
    Calls Try.prog 66 #[.int .u32 epoch, .int .u32 seq, wrV x] w fun e w' => ∃ u, e = .returned u ∧ OB w' w.heap.size u (imageB epoch seq x) ∧ Below w.heap.size w w' := by
  have hl56 : x.2.2.length = 56 := hx
  go_enter Try.func66, Try.ntmps66
  go_wp2_with (refine wp_want rfl fun K hK => ?_; refine wp_wr_box x rfl rfl ?_)
  intro w1 A1 b1 s1
  refine hK _ _ ?_
  clear hK K
  have ys := fun w2 => slice_body_mid (g := w.heap.size) (o := 2) w2
  have hb1 := A1.body hx
  go_wp2_with fail
  refine (clone_bytes _ x.2.2 _ hb1 (by omega) (by omega)).mono ?_
  rintro e w2 ⟨u2, rfl, h2, b2⟩
  have h2 := h2.mono b1.size
  have b2 := b1.trans (b2.mono b1.size)
  go_wp2_with fail
  refine (number_any w.heap.size u2 _ epoch 2 2 rfl _ (by decide) he (by omega) h2 b2.size).mono ?_
  rintro e w3 ⟨u3, rfl, h3, t3⟩
  have b3 := b2.trans (t3.below b2.size h2.ge)
  go_wp2_with fail
  refine (number_any w.heap.size u3 _ seq 2 2 rfl _ (by decide) hs (by rw [List.length_append, be_length]; omega) h3 b3.size).mono ?_
  rintro e w4 ⟨u4, rfl, h4, t4⟩
  have b4 := b3.trans (t4.below b3.size h3.ge)
  go_wp2_with fail
  refine (sealed_any w.heap.size u4 _ _ (by rw [List.length_append, List.length_append, be_length, be_length]; omega) h4 b4.size).mono ?_
  rintro e w5 ⟨u5, rfl, h5, b5⟩
  go_wp2_with fail
  go_ret
  exact ⟨_, rfl, h5, b4.trans b5⟩

def recB (label : UInt8) (epoch seq : Nat) (l : List Wr) : List (List UInt8) := headB label epoch seq l :: l.map (imageB epoch seq)
theorem okW_num {l : List Wr} (h : okW l) : ∀ x ∈ l, NumW x := fun x hx => by
  obtain ⟨j, hj, e⟩ := List.getElem_of_mem hx
  have := (goodW_at hj).1 (h.1 j hj)
  rw [e] at this
  exact ⟨this.1, this.2.1⟩

theorem ob_shape {w : World} {B n : Nat} {v : Value} {l : List UInt8} (h : OB w B v l) (hn : l.length = n) (h0 : 0 < n) : ∃ g cap, v = .slice (some ⟨g, 0, none⟩) n cap ∧ B ≤ g ∧ g < w.heap.size ∧ n ≤ cap ∧ cap ≤ 9223372036854775807 := by
  subst hn
  exact own_shape h h0
theorem OL.one (B : Nat) (w : World) (u : Value) (l : List UInt8) (hrd : Rd w u (bs l)) {g n c : Nat} (hu : u = .slice (some ⟨g, 0, none⟩) n c) (hg : g < w.heap.size) (hB : B ≤ w.heap.size) : OL (w.alloc (.cells #[u] 37)) B (.slice (some ⟨w.heap.size, 0, none⟩) 1 1) [l] := by
  refine ⟨[u], own_lit B w 37 #[u] 1 hB rfl (by simp), rfl, fun j hj hj' => ?_⟩
  obtain rfl : j = 0 := by simpa using hj
  refine ⟨hrd.below (below_new w _), fun k hk hin => ?_, fun k hin => ?_⟩
  · obtain ⟨a, n', c', e, rfl⟩ := hin
    simp only [List.getElem_cons_zero] at e
    rw [hu] at e
    simp only [Value.slice.injEq, Option.some.injEq] at e
    obtain ⟨rfl, _⟩ := e
    simp [Value.ownBlock] at hk
    omega
  · obtain ⟨a, n', c', e, rfl⟩ := hin
    simp only [List.getElem_cons_zero] at e
    rw [hu] at e
    simp only [Value.slice.injEq, Option.some.injEq] at e
    obtain ⟨rfl, _⟩ := e
    simp
    omega

set_option maxRecDepth 100000 in
set_option maxHeartbeats 2000000 in
theorem recPut_any (label : UInt8) (epoch seq : Nat) (v : Value) (l : List Wr) (w : World) (he : epoch < 4294967296) (hs : seq < 4294967296) (hl : l.length ≤ 1000) (hok : ∀ x ∈ l, WrOk x) (hv : RdW w v l) :
    Calls Try.prog 33 #[u8 label, .int .u32 epoch, .int .u32 seq, v] w fun e w' => (okW l → ∃ u, e = .returned (.tuple #[u, .bool true]) ∧ OL w' w.heap.size u (recB label epoch seq l)) ∧ (¬ okW l → e = .returned (.tuple #[.slice none 0 0, .bool false])) ∧ Below w.heap.size w w' := by
  have hm := fun w h => recMay_any v l w hl hok h
  obtain ⟨a, cap, rfl, hc1, hc2, hcell, _⟩ := id hv
  by_cases h : okW l
  · rw [decide_eq_true h] at hm
    have hnum := okW_num h
    have h12 := h.2.2
    have H := Lib.hid h
    clear h
    go_enter Try.func33, Try.ntmps33
    go_wp2_with fail
    refine (hm _ hv).mono ?_
    rintro e w1 ⟨rfl, b1⟩
    have hv1 := hv.below b1
    clear hm
    go_wp2_with fail
    refine (recHead_any label epoch seq _ l _ he hs h12 hok hnum hv1).mono ?_
    rintro e w2 ⟨u2, rfl, h2, b2⟩
    have b2 := b1.trans (b2.mono b1.size)
    have h2 := h2.mono b1.size
    have hlh : (headB label epoch seq l).length = 64 := filledB_length (by rw [headL_length]; omega)
    obtain ⟨g2, c2, rfl, k1, k2, k3, k4⟩ := ob_shape h2 hlh (by decide)
    clear hlh
    have hL3 := OL.one w.heap.size w2 _ _ h2.rd (g := g2) rfl k2 b2.size
    have b3 := b2.trans (below_mono (below_new w2 (.cells #[.slice (some ⟨g2, 0, none⟩) 64 c2] 37)) b2.size)
    go_wp2_with fail
    go_loopw [10, 12, 24] (fun u _ i wr => ∃ k : Nat, k ≤ l.length ∧ i = .int .i64 k ∧ OL wr w.heap.size u (headB label epoch seq l :: (l.take k).map (imageB epoch seq)) ∧ Below w.heap.size w wr) (fun _ _ i _ => l.length - (intOf i).toNat)
    case atStart => exact ⟨0, Nat.zero_le _, rfl, hL3, b3⟩
    case round =>
      clear hL3 b3
      obtain ⟨k, hk, rfl, hU, hb⟩ := hrel
      by_cases hlt : k < l.length
      · obtain ⟨ad, rfl, hcx⟩ := hcell k hlt
        have hcx : ∀ i u, (wrC l[k])[i]? = some u → wr.cell? ((ad.add (k * 58)).add i) = some u := fun i u hu => cell_later hb (hcx i u hu)
        have hx := hok _ (List.getElem_mem hlt)
        have hts := Lib.hid (take_snoc l k hlt)
        generalize l[k] = x at *
        clear hv hv1 hcell
        go_wp2_with (refine wp_want rfl fun K hK => ?_; first | (refine wp_wr_elem x hx hcx rfl rfl ?_; refine hK _ _ ?_; clear hK K) | refine wp_wr_alloc rfl ?_)
        intro w5 A5 b5 s5
        refine hK _ _ ?_
        clear hK K
        go_wp2_with (refine wp_want rfl fun K hK => ?_; refine wp_wr_store A5 Z56_length hx rfl rfl rfl ?_)
        intro w6 A6 g6 z6
        refine hK _ _ ?_
        clear hK K
        have hb6 : Below wr.heap.size wr w6 := below_row b5 g6 b5.size (Nat.le_refl _)
        have hU6 := hU.below hb6
        have hb6 := hb.trans (hb6.mono hb.size)
        clear A5 b5 g6 hcx
        go_wp2_with (refine wp_want rfl fun K hK => ?_; (refine wp_wr_load A6 hx rfl rfl ?_; refine hK _ _ ?_; clear hK K))
        refine (image_any epoch seq x _ he hs hx).mono ?_
        rintro e w7 ⟨u7, rfl, h7, b7⟩
        have hU7 := hU6.below b7
        have hb7 := hb6.trans (b7.mono hb6.size)
        have hli : (imageB epoch seq x).length = 64 := filledB_length (by rw [List.length_append, List.length_append, be_length, be_length]; have : x.2.2.length = 56 := hx; omega)
        obtain ⟨g7, c7, rfl, q1, q2, q3, q4⟩ := ob_shape h7 hli (by decide)
        clear hli
        have hin7 : ∀ g, inBlock (.slice (some ⟨g7, 0, none⟩) 64 c7) g → g = g7 := fun g hin => by
          obtain ⟨a, n, c, e, rfl⟩ := hin
          simp only [Value.slice.injEq, Option.some.injEq] at e
          rw [← e.1]
        have hfar : ∀ g, g < w6.heap.size → ¬ inBlock (.slice (some ⟨g7, 0, none⟩) 64 c7) g := fun g hg hin => by have := hin7 g hin; omega
        have hbl : ∀ g, inBlock (.slice (some ⟨g7, 0, none⟩) 64 c7) g → g < (w7.alloc (.cells #[.slice (some ⟨g7, 0, none⟩) 64 c7] 37)).heap.size := fun g hin => by have := hin7 g hin; simp; omega
        have hcl := (RowAt.new w7 37 #[.slice (some ⟨g7, 0, none⟩) 64 c7]).cell 0 _ rfl
        have hU8 := hU7.below (below_new w7 (.cells #[.slice (some ⟨g7, 0, none⟩) 64 c7] 37))
        go_wp2_with (at_builtin; go_loud (refine wp_want rfl fun K hK => ?_; refine wp_appL w.heap.size _ _ _ (imageB epoch seq x) ⟨w7.heap.size, 0, none⟩ (by simp; omega) hU8 (Rd.below (OB.rd h7) (below_new w7 _)) (fun g hg => hfar g (hU6.lt g hg)) hbl rfl hcl (Nat.le_trans hb7.size (le_new _ _)) rfl rfl rfl ?_))
        intro u8' w8 hO8 t8
        have hb8 := hb7.trans ((Onto.after (below_new w7 _) t8).below hb7.size hU7.ge)
        refine hK _ _ ?_
        clear hK K
        go_wp2_with fail
        go_roundw
        case rel =>
          refine ⟨k + 1, by omega, by go_num, ?_, hb8⟩
          rw [hts.out, List.map_append, List.map_take]
          exact hO8
        case measure => simp only [intOf]; omega
      · obtain rfl : k = l.length := by omega
        rw [List.take_length] at hU
        clear hv hv1 hcell
        go_wp2_with fail
        go_ret2
        exact ⟨fun _ => ⟨_, rfl, hU⟩, fun h => (h H.out).elim, hb⟩
  · rw [decide_eq_false h] at hm
    have H := Lib.hid h
    clear h hcell
    go_enter Try.func33, Try.ntmps33
    go_wp2_with fail
    refine (hm _ hv).mono ?_
    rintro e w1 ⟨rfl, b1⟩
    clear hm
    go_wp2_with fail
    go_ret2
    exact ⟨fun h => (H.out h).elim, fun _ => rfl, b1⟩
end Go.Proofs.Ytgeiafijibgdhaa.Cl
