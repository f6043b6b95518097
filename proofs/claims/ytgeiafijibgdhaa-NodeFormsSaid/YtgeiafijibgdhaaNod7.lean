/- node.Put. -/
import Derived.Test.YtgeiafijibgdhaaNod6
import Derived.Test.YtgeiafijibgdhaaBody
set_option linter.unusedVariables false
set_option linter.unusedSimpArgs false
namespace Go.Proofs.Ytgeiafijibgdhaa.Cl
open Go Go.Proofs Go.RowKit Fl Rely

def headN (n : Nd) : List UInt8 := be 4 n.g.toNat ++ be 2 n.k.toNat ++ be 4 n.z.toNat
def atsB (l : List Int) : List UInt8 := l.flatMap fun d => be 2 (d + 1).toNat
def nodB (n : Nd) : List UInt8 := headN n ++ atsB (placesN n) ++ be 1 n.s.length ++ n.s
def ndK (kind : Int) (n : Nd) : Int := if mayN kind n then kind else 0
def ndBody (kind : Int) (n : Nd) : List UInt8 := if mayN kind n then nodB n ++ Z56.drop (nodB n).length else Z56
theorem headN_length (n : Nd) : (headN n).length = 10 := by simp [headN, be_length]
theorem atsB_length (l : List Int) : (atsB l).length = 2 * l.length := by
  induction l with
  | nil => rfl
  | cons x l ih => simp only [atsB, List.flatMap_cons, List.length_append, be_length, List.length_cons] at *; omega
theorem atsB_snoc (l : List Int) (d : Int) : atsB (l ++ [d]) = atsB l ++ be 2 (d + 1).toNat := by simp [atsB]
theorem nodB_length (n : Nd) : (nodB n).length = 21 + n.s.length := by
  simp only [nodB, List.length_append, headN_length, atsB_length, be_length, show (placesN n).length = 5 from rfl]
theorem signT_len {l : List UInt8} (h : signT l = true) : 1 ≤ l.length ∧ l.length ≤ 32 := by
  unfold signT at h
  simp only [Bool.and_eq_true, decide_eq_true_eq] at h
  exact h.1
theorem plOk_range {l : List Int} (h : plOk l) : ∀ p ∈ l, -1 ≤ p ∧ p < 200 := fun p hp => by
  obtain ⟨j, hj, rfl⟩ := List.getElem_of_mem hp
  rcases h j hj with e | e
  · omega
  · omega
theorem mayN_facts {kind : Int} {n : Nd} (h : mayN kind n) : (1 ≤ kind ∧ kind ≤ 3) ∧ (1 ≤ n.g ∧ 0 ≤ n.k ∧ n.k ≤ 1000) ∧ (0 ≤ n.z ∧ n.z ≤ 1120) ∧ n.s.length ≤ 32 ∧ ∀ p ∈ placesN n, -1 ≤ p ∧ p < 200 := by
  have hb : bareP (placesN n) → ∀ p ∈ placesN n, -1 ≤ p ∧ p < 200 := fun h p hp => by have := h p hp; omega
  rcases h.2 with ⟨rfl, h1, h2, h3, h4⟩ | ⟨rfl, h1, h2, h3, h4⟩ | ⟨rfl, h1, h2, h3⟩
  · exact ⟨by omega, h.1, ⟨h2, h3⟩, by rw [h4]; decide, plOk_range h1⟩
  · exact ⟨by omega, h.1, by omega, by rw [h3]; decide, hb h2⟩
  · have := signT_len h1
    exact ⟨by omega, h.1, by omega, this.2, hb h3⟩
theorem ndBody_length {kind : Int} {n : Nd} : (ndBody kind n).length = 56 := by
  unfold ndBody
  split
  · rename_i h
    have := (mayN_facts h).2.2.2.1
    rw [List.length_append, List.length_drop, nodB_length, Z56_length]
    omega
  · exact Z56_length
theorem wnumI_any (g : Nat) (v : Value) (l : List UInt8) (x n : Int) (w : World) (hg : WrtAt w g v) (ho : OB w (g + 1) v l) (hl : l.length ≤ 1000) (hx0 : 0 ≤ x) (hx : x < 4294967296) (hn0 : 0 ≤ n) (hn : n ≤ 4) :
    Calls Try.prog 44 #[.pointer (some ⟨g, 0, none⟩), .int .u32 x, .int .i64 n] w fun e w' => ∃ u, e = .returned (.tuple #[]) ∧ WrtAt w' g u ∧ OB w' (g + 1) u (l ++ be n.toNat x.toNat) ∧ KpW g w v w' u := by
  obtain ⟨x, rfl⟩ := Int.eq_ofNat_of_zero_le hx0
  obtain ⟨n, rfl⟩ := Int.eq_ofNat_of_zero_le hn0
  exact wnum_any g v l x n w hg ho hl (by omega) (by omega)
theorem KpW.below {g : Nat} {w w' : World} {v u : Value} {l : List UInt8} (h : KpW g w v w' u) (hg : g < w.heap.size) (ho : OB w (g + 1) v l) : Below g w w' :=
  h.1.below g (fun k hk hF => by
    rcases hF with e | e
    · omega
    · have := ho.ge k e; omega) (Nat.le_of_lt hg)
/-- the loop over the blocks that a node names -/
def PutRel (w3 w8 : World) (h : Nat) (u7 : Value) (hb : List UInt8) (pl : List Int) (x i : Value) (wr : World) : Prop := ∃ (k : Nat) (u : Value), k ≤ 5 ∧ i = .int .i64 (k : Int) ∧ WrtAt wr w3.heap.size u ∧ OB wr (w3.heap.size + 1) u (hb ++ atsB (pl.take k)) ∧ Below w3.heap.size w3 wr ∧ wr.heap[h]? = w8.heap[h]? ∧ u.ownBlock ≠ some h ∧ h < wr.heap.size
set_option maxRecDepth 100000 in
set_option maxHeartbeats 4000000 in
theorem ndPut_any (kind : Int) (n : Nd) (w : World) (ok : NdOk n) :
    Calls Try.prog 16 #[.int .i64 kind, ndV n] w fun e w' => e = .returned (.tuple #[blkV (ndK kind n) (ndBody kind n), .bool (decide (mayN kind n))]) ∧ Below w.heap.size w w' := by
  have hM := fun w => ndMay_any kind n w ok
  by_cases hm : mayN kind n
  · obtain ⟨⟨hk1, hk3⟩, ⟨hg1, hk0, hk9⟩, ⟨hz0, hz9⟩, hs32, hpl⟩ := mayN_facts hm
    have hg2 := ok.g.2
    have hP := fun w => places_any n w
    have hres : blkV (ndK kind n) (ndBody kind n) = blkV kind (nodB n ++ Z56.drop (nodB n).length) := by unfold ndK ndBody; rw [if_pos hm, if_pos hm]
    rw [hres]
    rw [decide_eq_true hm] at hM ⊢
    have hBl : (nodB n).length ≤ 56 := by rw [nodB_length]; omega
    have hBe : nodB n = headN n ++ atsB (placesN n) ++ be 1 n.s.length ++ n.s := rfl
    have hHe : headN n = be 4 n.g.toNat ++ be 2 n.k.toNat ++ be 4 n.z.toNat := rfl
    have hl5 : (placesN n).length = 5 := rfl
    have HBe := Lib.hid hBe
    have HHe := Lib.hid hHe
    have Hpl := Lib.hid hpl
    have Hl5 := Lib.hid hl5
    have Hhl := Lib.hid (headN_length n)
    clear hBe hHe hpl hl5 hres hm
    generalize nodB n = nb at *
    generalize headN n = hb at *
    generalize placesN n = pl at *
    go_enter Try.func16, Try.ntmps16
    go_wp2_with (refine wp_want rfl fun K hK => ?_; refine wp_rw_box (P := Try.prog) (t := 25) (ndA n) rfl rfl ?_)
    intro w1 A1 b1 s1
    refine hK _ _ ?_
    clear hK K
    go_wp2_with (refine wp_want rfl fun K hK => ?_; refine wp_blk_alloc rfl ?_)
    intro w2 B2 b2 s2
    refine hK _ _ ?_
    clear hK K
    have W := b1.trans (b2.mono b1.size)
    have A2 := RowAt.later A1 b2
    go_wp2_with (refine wp_want rfl fun K hK => ?_; refine wp_rw_load (P := Try.prog) A2 Try.underlying25 rfl infoNd_size rfl rfl ?_; refine hK _ _ ?_; clear hK K)
    refine (hM _).mono ?_
    rintro e w3 ⟨rfl, b3⟩
    have W := W.trans (b3.mono W.size)
    have B3 := B2.later b3
    have A3 := RowAt.later A2 b3
    have hlt1 : w.heap.size < w1.heap.size := s1
    have hlt2 := B3.lt
    clear A1 A2 B2 b2 b3 s2 hM
    go_upto_region 4 with (refine wp_want rfl fun K hK => ?_; refine wp_rw_box (P := Try.prog) (t := 76) #[.slice none 0 0] rfl rfl ?_; intro w4 G4 b4 s4; refine hK _ _ ?_; clear hK K)
    have W4 := Below.refl w3.heap.size w3
    have W4 := W4.trans b4
    have hlt3 : w3.heap.size < w4.heap.size := s4
    have O4 : OB w4 (w3.heap.size + 1) (.slice none 0 0) [] := OB.nil _ _
    have A4 := A3.later W4
    have z0 := A4.cell 0 (.int .u32 n.g) rfl
    go_wp2_with fail
    refine (wnumI_any w3.heap.size _ [] n.g 4 _ G4 O4 (by decide) (by omega) (by omega) (by decide) (by decide)).mono ?_
    rintro e w5 ⟨u5, rfl, G5, O5, k5⟩
    rw [show (4 : Int).toNat = 4 from rfl, List.nil_append] at O5
    have W5 := W4.trans (k5.below hlt3 O4)
    have l5 : (be 4 n.g.toNat).length ≤ 1000 := by rw [be_length]; decide
    have A5 := A3.later W5
    have z1 := A5.cell 1 (.int .i64 n.k) rfl
    have lt5 := G5.lt
    clear G4 O4 k5 A4 z0 hlt3 s4 b4
    go_wp2_with fail
    refine (wnumI_any w3.heap.size _ _ n.k 2 _ G5 O5 l5 hk0 (by omega) (by decide) (by decide)).mono ?_
    rintro e w6 ⟨u6, rfl, G6, O6, k6⟩
    rw [show (2 : Int).toNat = 2 from rfl] at O6
    have W6 := W5.trans (k6.below lt5 O5)
    have l6 : (be 4 n.g.toNat ++ be 2 n.k.toNat).length ≤ 1000 := by rw [List.length_append, be_length, be_length]; decide
    have A6 := A3.later W6
    have z2 := A6.cell 2 (.int .i64 n.z) rfl
    have lt6 := G6.lt
    clear G5 O5 k6 A5 z1 lt5 l5
    go_wp2_with fail
    refine (wnumI_any w3.heap.size _ _ n.z 4 _ G6 O6 l6 hz0 (by omega) (by decide) (by decide)).mono ?_
    rintro e w7 ⟨u7, rfl, G7, O7, k7⟩
    rw [show (4 : Int).toNat = 4 from rfl, ← HHe.out] at O7
    have W7 := W6.trans (k7.below lt6 O6)
    have A7 := A3.later W7
    have lt7 := G7.lt
    clear G6 O6 k7 A6 z2 lt6 l6
    go_wp2_with (refine wp_want rfl fun K hK => ?_; refine wp_rw_load (P := Try.prog) A7 Try.underlying25 rfl infoNd_size rfl rfl ?_; refine hK _ _ ?_; clear hK K)
    refine (hP _).mono ?_
    rintro e w8 ⟨v8, rfl, O8, b8⟩
    obtain ⟨h, c, rfl, h1, h2, h3, h4⟩ := io_shape O8 Hl5.out (by decide)
    have W8 := W7.trans (b8.mono W7.size)
    have G8 := G7.later b8
    have P8 := O7.below b8
    have lt8 := G8.lt
    have hgh : w3.heap.size < h := by omega
    have ne8 : u7.ownBlock ≠ some h := fun e => by have := (O7.lt h e).2; omega
    clear hP A7 b8 O7 G7 lt7
    go_wp2_with fail
    go_loopw [8, 34] (fun x i wr => PutRel w3 w8 h u7 hb pl x i wr) (fun _ i _ => 5 - (intOf i).toNat)
    case atStart => exact ⟨0, u7, by decide, rfl, G8, by simpa [atsB] using P8, W8, rfl, ne8, h2⟩
    case round =>
      obtain ⟨k, u, hk, rfl, hG, hO, hW, hh, hne, hlh⟩ := hrel
      clear G8 P8 W8 ne8 lt8 h2
      by_cases hlt : k < 5
      · have hlI : (k : Int) < 5 := by omega
        have hkl : k < pl.length := by rw [Hl5.out]; exact hlt
        have hck : wr.cell? ⟨h, k, none⟩ = some (.int .i64 pl[k]) := by
          rw [← O8.at_ k hkl]
          simp only [World.cell?, hh]
        have hts := Lib.hid (take_snoc pl k hkl)
        have hp := Hpl.out pl[k] (List.getElem_mem hkl)
        have hlen : (hb ++ atsB (pl.take k)).length ≤ 1000 := by rw [List.length_append, atsB_length, List.length_take, Hhl.out]; omega
        generalize pl[k] = p at *
        obtain ⟨hp1, hp2⟩ := hp
        have hlr := hG.lt
        clear O8
        go_wp2_with fail
        refine (wnumI_any w3.heap.size _ _ (p + 1) 2 _ hG hO hlen (by omega) (by omega) (by decide) (by decide)).mono ?_
        rintro e wq ⟨uq, rfl, Gq, Oq, kq⟩
        have Wq := hW.trans (kq.below hlr hO)
        have hq : wq.heap[h]? = w8.heap[h]? := (kq.1.block h hlh (fun e => by rcases e with e | e; omega; exact hne e)).trans hh
        have hneq : uq.ownBlock ≠ some h := fun e => by
          rcases kq.2 h e with e | e
          · exact hne e
          · omega
        have hsz := kq.1.size
        clear kq
        go_wp2_with fail
        go_roundw
        case rel =>
          refine ⟨k + 1, uq, by omega, by go_num, Gq, ?_, Wq, hq, hneq, by omega⟩
          rw [hts.out, atsB_snoc, ← List.append_assoc]
          exact Oq
        case measure => simp only [intOf]; omega
      · have hlI : ¬ (k : Int) < 5 := by omega
        rw [List.take_of_length_le (by rw [Hl5.out]; omega)] at hO
        have hlen : (hb ++ atsB pl).length ≤ 1000 := by rw [List.length_append, atsB_length, Hl5.out, Hhl.out]; decide
        have hlr := hG.lt
        have A9 := A3.later hW
        have z8 := A9.cell 8 (str n.s) rfl
        clear O8 hne hlh hh
        go_wp2_with fail
        refine (wnumI_any w3.heap.size _ _ (n.s.length : Int) 1 _ hG hO hlen (by omega) (by omega) (by decide) (by decide)).mono ?_
        rintro e wq ⟨uq, rfl, Gq, Oq, kq⟩
        rw [show (1 : Int).toNat = 1 from rfl, Int.toNat_natCast] at Oq
        have Wq := hW.trans (kq.below hlr hO)
        have A9 := A3.later Wq
        have B9 := B3.later Wq
        have lq := Gq.lt
        clear kq hG hO z8 hlen hlr hW
        go_wp2_with (refine wp_want rfl fun K hK => ?_; first | (refine wp_blk_build rfl rfl ?_; refine hK _ _ ?_; clear hK K) | refine wp_blk_alloc rfl ?_)
        intro wa Ya ca sa
        refine hK _ _ ?_
        clear hK K
        go_wp2_with (refine wp_want rfl fun K hK => ?_; refine wp_blk_store rfl rfl rfl Z56_length Ya ?_)
        intro wb Xb gb zb
        refine hK _ _ ?_
        clear hK K
        have db := below_row ca gb ca.size (Nat.le_refl _)
        have Ab := A9.later db
        have Bb := B9.later db
        have Gb := Gq.later db
        have Ob := Oq.below db
        have Wb := Wq.trans (db.mono (by omega))
        have nb1 := Xb.lt
        have neb : uq.ownBlock ≠ some wq.heap.size := own_ne Oq (Nat.le_refl _)
        clear Ya ca sa gb zb A9 B9 Gq Oq
        go_upto_region 14 with fail
        have dr := (Below.refl wb.heap.size wb).drew
        have Ad := Ab.drew
        have Gd := Gb.drew
        have Od : OB wb.drew (w3.heap.size + 1) uq _ := Ob
        have Wd := Wb.drew
        have Xd : BlkAt wb.drew wq.heap.size kind Z56 := Xb
        have Bd := Bb.later dr
        have SS : WrtAt wb.drew w3.heap.size uq ∧ wb.drew.cell? ⟨w.heap.size, 8, none⟩ = some (str n.s) := ⟨Gd, Ad.cell 8 _ rfl⟩
        have ys := fun w2 => slice_body_all (g := wq.heap.size) w2
        refine Zig.wp_region_zig [(false, 0), (false, 1), (false, 2), (false, 3), (false, 4), (false, 5), (false, 6), (false, 7), (true, 8), (true, 9)] (fun W => WrtAt W w3.heap.size uq ∧ W.cell? ⟨w.heap.size, 8, none⟩ = some (str n.s)) (by kernel_rfl) (by kernel_rfl) SS ?_
        simp only [Zig.sel, List.drop_succ_cons, List.drop_zero]
        generalize World.drew wb = wd at *
        haveI : Nonempty (Zig.Lt (fun W => WrtAt W w3.heap.size uq ∧ W.cell? ⟨w.heap.size, 8, none⟩ = some (str n.s))) := ⟨⟨wd, SS⟩⟩
        have x0 := fun x : Zig.Lt (fun W => WrtAt W w3.heap.size uq ∧ W.cell? ⟨w.heap.size, 8, none⟩ = some (str n.s)) => RowAt.cell x.2.1 0 uq rfl
        have x1 := fun x : Zig.Lt (fun W => WrtAt W w3.heap.size uq ∧ W.cell? ⟨w.heap.size, 8, none⟩ = some (str n.s)) => x.2.2
        repeat (refine Zig.zig_step (fun K hK => ?_); go_simp; refine hK _ ?_; clear hK K)
        refine Zig.zig_do rfl (fun K hK => ?_)
        refine wp_app_str (w3.heap.size + 1) _ _ n.s (by simp only [List.length_append, atsB_length, Hl5.out, Hhl.out, be_length]; omega) Od (by have := Gd.lt; omega) rfl rfl rfl ?_
        intro ue we Oe ge
        rw [← HBe.out] at Oe
        have We : Below w3.heap.size w3 we := below_own Wd ge Wd.size (fun k hk => by have := Od.ge k hk; omega)
        have Ae := A3.later We
        have Be := B3.later We
        have Ge : WrtAt we w3.heap.size uq := (ge.block _ Gd.lt (fun e => by have := Od.ge _ e.symm; omega)).trans Gd
        have Xe : BlkAt we wq.heap.size kind Z56 := ⟨Z56_length, (ge.block _ Xd.lt (fun e => neb e.symm)).trans Xd.2⟩
        refine hK _ _ ⟨Ge, Ae.cell 8 _ rfl⟩ ?_
        clear hK K
        refine Zig.zig_do rfl (fun K hK => ?_)
        refine wp_copy_body Xe Oe.rd hBl rfl rfl rfl rfl ?_
        intro nf wf Xf gf zf
        have Wf := below_row We gf We.size (by omega)
        have Af := A3.later Wf
        have Bf := B3.later Wf
        refine hK _ _ ⟨Ge.grown gf (by omega), Af.cell 8 _ rfl⟩ ?_
        clear hK K
        refine Zig.zig_nil ?_
        have W := W.trans (Wf.mono W.size)
        clear x0 x1 SS Xe Xd Od Oe
        go_wp2_with (refine wp_want rfl fun K hK => ?_; first | (refine wp_blk_load rfl rfl Xf ?_; refine hK _ _ ?_; clear hK K) | refine wp_blk_store rfl rfl rfl Xf.1 Bf ?_)
        intro wg Bg gg zg
        refine hK _ _ ?_
        clear hK K
        have W := below_row W gg W.size (by omega)
        go_wp2_with fail
        refine bodyPost_ret (results_blk2 rfl rfl rfl Bg) rfl ⟨rfl, W⟩
  · have hres : blkV (ndK kind n) (ndBody kind n) = blkV 0 Z56 := by unfold ndK ndBody; rw [if_neg hm, if_neg hm]
    rw [hres]
    rw [decide_eq_false hm] at hM ⊢
    clear hres hm
    go_enter Try.func16, Try.ntmps16
    go_wp2_with (refine wp_want rfl fun K hK => ?_; refine wp_rw_box (P := Try.prog) (t := 25) (ndA n) rfl rfl ?_)
    intro w1 A1 b1 s1
    refine hK _ _ ?_
    clear hK K
    go_wp2_with (refine wp_want rfl fun K hK => ?_; refine wp_blk_alloc rfl ?_)
    intro w2 B2 b2 s2
    refine hK _ _ ?_
    clear hK K
    have W := b1.trans (b2.mono b1.size)
    have A2 := RowAt.later A1 b2
    go_wp2_with (refine wp_want rfl fun K hK => ?_; refine wp_rw_load (P := Try.prog) A2 Try.underlying25 rfl infoNd_size rfl rfl ?_; refine hK _ _ ?_; clear hK K)
    refine (hM _).mono ?_
    rintro e w3 ⟨rfl, b3⟩
    have W := W.trans (b3.mono W.size)
    have B3 := B2.later b3
    go_wp2_with (refine wp_want rfl fun K hK => ?_; first | (refine wp_blk_build0 rfl ?_; refine hK _ _ ?_; clear hK K) | refine wp_blk_store rfl rfl rfl Z56_length B3 ?_)
    intro w4 B4 g4 z4
    refine hK _ _ ?_
    clear hK K
    have W := below_row W g4 W.size (by have := b1.size; omega)
    go_wp2_with fail
    refine bodyPost_ret (results_blk2 rfl rfl rfl B4) rfl ⟨rfl, W⟩
end Go.Proofs.Ytgeiafijibgdhaa.Cl
