/- The law IndexAll. -/
import Derived.Test.YtibpipppabommaaIdxP
set_option linter.unusedVariables false
set_option linter.unusedSimpArgs false
namespace Go.Proofs.Ytibpipppabommaa.Cl
open Go Go.Proofs Go.RowKit Fl Rely

theorem whereI_form (k : Int) : ∃ (d i : Int) (p : Bool), whereI k = .tuple #[.int .i64 d, .int .i64 i, .bool p] := by
  unfold whereI
  split
  · exact ⟨_, _, _, rfl⟩
  · split <;> exact ⟨_, _, _, rfl⟩
def PutIs (l : List Int) (v : Value) : Prop := (okI l → v = .tuple #[blkV 5 (bodyI l), .bool true]) ∧ (¬ okI l → v = .tuple #[blkV 0 Z56, .bool false])
theorem putIs_form (l : List Int) : ∃ (k : Int) (b : List UInt8) (p : Bool), b.length = 56 ∧ ∀ v, PutIs l v → v = .tuple #[blkV k b, .bool p] := by
  by_cases h : okI l
  · exact ⟨5, bodyI l, true, bodyI_length (Nat.le_of_eq h.1), fun v hv => hv.1 h⟩
  · exact ⟨0, Z56, false, Z56_length, fun v hv => hv.2 h⟩
theorem take_form (k : Int) (b : List UInt8) : ∃ (L : List Int) (p : Bool), L.length ≤ 16 ∧ ∀ (e : Ending) (w' : World) (B : Nat),
    (goodI k b → ∃ u, e = .returned (.tuple #[u, .bool true]) ∧ IOwn w' B u (takeI b)) → (¬ goodI k b → e = .returned (.tuple #[.slice none 0 0, .bool false])) → ∃ u, e = .returned (.tuple #[u, .bool p]) ∧ IOwn w' B u L := by
  by_cases h : goodI k b
  · exact ⟨takeI b, true, Nat.le_of_eq (takeI_length b), fun e w' B h1 _ => h1 h⟩
  · exact ⟨[], false, by simp, fun e w' B _ h2 => ⟨_, h2 h, IOwn.nil _ _⟩⟩
theorem pieces_form (o n : Int) : ∃ P : List Pc, P.length ≤ 20 ∧ ∀ (e : Ending) (w' : World) (B : Nat) (t : TypeId),
    ((o < 0 ∨ n < 0 ∨ 1120 < o ∨ 1120 - o < n) → e = .returned (.slice none 0 0)) → (¬ (o < 0 ∨ n < 0 ∨ 1120 < o ∨ 1120 - o < n) → ∃ u, e = .returned u ∧ w'.ownsRow B t 3 u (pcs o.toNat (o + n).toNat).length (pcCells (pcs o.toNat (o + n).toNat))) →
      ∃ u, e = .returned u ∧ w'.ownsRow B t 3 u P.length (pcCells P) := by
  by_cases h : o < 0 ∨ n < 0 ∨ 1120 < o ∨ 1120 - o < n
  · exact ⟨[], by simp, fun e w' B t h1 _ => ⟨_, h1 h, World.ownsRow_nil _ _ _ _⟩⟩
  · exact ⟨_, by rw [pcs_length]; exact pcN_le (by omega), fun e w' B t _ h2 => h2 h⟩

set_option maxRecDepth 100000 in
set_option maxHeartbeats 8000000 in
theorem idxAll_law (k : Int) (v : Value) (l : List Int) (kb : Int) (b : List UInt8) (o n : Int) (w : World) (hv : Rd w v (ints l)) (hb56 : b.length = 56) :
    Calls Try.prog 3 #[.int .i64 k, v, blkV kb b, .int .i64 o, .int .i64 n] w fun e w' => e = .returned (.bool true) ∧ Below w.heap.size w w' := by
  obtain ⟨ad, cap, rfl, hc1, hc2, _, _⟩ := id hv
  rw [List.length_map] at *
  go_enter Try.func3, Try.ntmps3
  go_wp2_with (refine wp_want rfl fun K hK => ?_; refine wp_blk_box rfl rfl hb56 ?_)
  intro w1 B1 b1 s1
  refine hK _ _ ?_
  clear hK K
  go_wp2_with fail
  refine (idxBegun_any _).mono ?_
  rintro e w2 ⟨rfl, hb2⟩
  have hbb2 := b1.trans (hb2.mono b1.size)
  by_cases hbig : 20 < l.length
  · have hbi : (20 : Int) < (l.length : Int) := by omega
    go_wp2_with fail
    go_returns
    exact ⟨rfl, hbb2⟩
  · have hbi : ¬ ((20 : Int) < (l.length : Int)) := by omega
    have hv2 := hv.below hbb2
    have B2 := B1.later hb2
    clear B1 hv
    go_wp2_with fail
    refine (where_any k _).mono ?_
    rintro e w3 ⟨rfl, rfl⟩
    obtain ⟨d, i, p, hwh⟩ := whereI_form k
    rw [hwh]
    go_wp2_with fail
    refine (refWhere_any k _).mono ?_
    rintro e w3 ⟨rfl, rfl⟩
    rw [hwh]
    clear hwh
    obtain ⟨kk, bb, pp, hbb, hput⟩ := putIs_form l
    go_wp2_with fail
    refine (put_any _ l _ hv2).mono ?_
    rintro e w3 ⟨h1, h2, hb3⟩
    obtain rfl : e = .returned (.tuple #[blkV kk bb, .bool pp]) := by
      by_cases h : okI l
      · rw [h1 h, hput _ ⟨fun _ => rfl, fun h' => (h' h).elim⟩]
      · rw [h2 h, hput _ ⟨fun h' => (h h').elim, fun _ => rfl⟩]
    clear h1 h2
    go_wp2_with (refine wp_want rfl fun K hK => ?_; refine wp_blk_alloc rfl ?_)
    intro w4 B4 b4 s4
    refine hK _ _ ?_
    clear hK K
    go_wp2_with (refine wp_want rfl fun K hK => ?_; refine wp_blk_store rfl rfl rfl hbb B4 ?_)
    intro w5 B5 b5 s5
    have hb35 := below_grown b4 b5 (Nat.le_refl _) (Nat.le_refl _)
    have hb5 := hb3.trans (hb35.mono hb3.size)
    clear s5 B4 b4 b5
    refine hK _ _ ?_
    clear hK K
    go_wp2_with fail
    refine (refPut_any _ l _ (hv2.below hb5)).mono ?_
    rintro e w6 ⟨h1, h2, hb6⟩
    obtain rfl : e = .returned (.tuple #[blkV kk bb, .bool pp]) := by
      by_cases h : okI l
      · rw [h1 h, hput _ ⟨fun _ => rfl, fun h' => (h' h).elim⟩]
      · rw [h2 h, hput _ ⟨fun h' => (h h').elim, fun _ => rfl⟩]
    clear h1 h2 hput
    have B6 := B5.later hb6
    go_wp2_with (refine wp_want rfl fun K hK => ?_; refine wp_blk_alloc rfl ?_)
    intro w7 B7 b7 s7
    refine hK _ _ ?_
    clear hK K
    go_wp2_with (refine wp_want rfl fun K hK => ?_; refine wp_blk_store rfl rfl rfl hbb B7 ?_)
    intro w8 B8 b8 s8
    have hb68 := below_grown b7 b8 (Nat.le_refl _) (Nat.le_refl _)
    clear s8 B7 b7 b8
    refine hK _ _ ?_
    clear hK K
    have B6 := B6.later hb68
    have hb58 := hb6.trans (hb68.mono hb6.size)
    have hb28 := hb5.trans (hb58.mono hb5.size)
    have B28 := B2.later hb28
    go_wp2_with (refine wp_want rfl fun K hK => ?_; (refine wp_blk_load rfl rfl B28 ?_; refine hK _ _ ?_; clear hK K))
    obtain ⟨L, q, hL, htake⟩ := take_form kb b
    refine (take_any kb b _ hb56).mono ?_
    rintro e w9 ⟨h1, h2, hb9⟩
    obtain ⟨u9, rfl, hU9⟩ := htake e w9 _ h1 h2
    clear h1 h2
    have B29 := B28.later hb9
    go_wp2_with (refine wp_want rfl fun K hK => ?_; (refine wp_blk_load rfl rfl B29 ?_; refine hK _ _ ?_; clear hK K))
    refine (refTake_any kb b _ hb56).mono ?_
    rintro e w10 ⟨h1, h2, hb10⟩
    obtain ⟨u10, rfl, hU10⟩ := htake e w10 _ h1 h2
    clear h1 h2 htake
    have hU9 := hU9.below hb10
    have hb810 := hb9.trans (hb10.mono hb9.size)
    have B610 := B6.later hb810
    have B810 := B8.later hb810
    have hb210 := hbb2.trans ((hb28.trans (hb810.mono hb28.size)).mono hbb2.size)
    obtain ⟨a9, c9, rfl, ha9⟩ := own_sl hU9
    obtain ⟨a10, c10, rfl, ha10⟩ := own_sl hU10
    go_wp2_with (refine wp_want rfl fun K hK => ?_; first | (refine wp_blk_load rfl rfl B610 ?_; refine hK _ _ ?_; clear hK K) | (refine wp_blk_load rfl rfl B810 ?_; refine hK _ _ ?_; clear hK K) | (refine wp_blk_neqR true (decide_eq_true ⟨rfl, rfl⟩) rfl rfl rfl B610.1 B810.1 ?_; refine hK _ _ ?_; clear hK K))
    go_loopw [25] (fun i wr => ∃ j : Nat, j ≤ L.length ∧ i = .int .i64 j ∧ Below w10.heap.size w10 wr) (fun i _ => L.length - (intOf i).toNat)
    case atStart => exact ⟨0, Nat.zero_le _, rfl, Below.refl _ _⟩
    case round =>
      obtain ⟨j, hj, rfl, hb⟩ := hrel
      by_cases hlt : j < L.length
      · obtain ⟨g9, rfl⟩ := ha9 (by omega)
        obtain ⟨g10, rfl⟩ := ha10 (by omega)
        have hjl : (j : Int) < (L.length : Int) := by omega
        have hdr := (Below.refl wr.heap.size wr).drew
        have z9 : wr.drew.cell? ⟨g9, j, none⟩ = some (.int .i64 L[j]) := cell_later (hb.trans (hdr.mono hb.size)) (by
          have := World.ownsRow.cellAt hU9 j (by omega)
          rw [List.getElem?_eq_getElem (by simpa using hlt), List.getElem_map] at this
          exact this)
        have z10 : wr.drew.cell? ⟨g10, j, none⟩ = some (.int .i64 L[j]) := cell_later (hb.trans (hdr.mono hb.size)) (by
          have := World.ownsRow.cellAt hU10 j (by omega)
          rw [List.getElem?_eq_getElem (by simpa using hlt), List.getElem_map] at this
          exact this)
        generalize L[j] = z at *
        have y9 := fun x : Lat wr.drew => cell_later x.2 z9
        have y10 := fun x : Lat wr.drew => cell_later x.2 z10
        go_wp2_with fail
        refine wp_region_rely 9 (by kernel_rfl) (by kernel_rfl) ?_
        simp only [List.take_succ_cons, List.take_zero]
        generalize World.drew wr = wa at *
        repeat (first
          | (refine wpR_step0 ?_ ?_ (fun K hK => ?_); rfl; rfl; go_simp; refine hK _ ?_; clear hK K))
        refine wpR_nil fun x => ?_
        obtain ⟨wb, wbb⟩ := x
        simp only [close, List.drop_succ_cons, List.drop_zero]
        clear y9 y10
        go_wp2_with fail
        go_roundw
        case rel => exact ⟨j + 1, by omega, by go_num, hb.trans ((hdr.trans (wbb.mono hdr.size)).mono hb.size)⟩
        case measure => simp only [intOf]; omega
      · obtain rfl : j = L.length := by omega
        obtain ⟨P, hP, hpcs⟩ := pieces_form o n
        have hb11 := hb210.trans (hb.mono hb210.size)
        go_wp2_with fail
        refine (pieces_any o n _).mono ?_
        rintro e w12 ⟨h1, h2, hb12⟩
        obtain ⟨u12, rfl, hO12⟩ := hpcs e w12 _ _ h1 h2
        clear h1 h2
        go_wp2_with fail
        refine (refPieces_any o n _).mono ?_
        rintro e w13 ⟨h1, h2, hb13⟩
        obtain ⟨u13, rfl, hO13⟩ := hpcs e w13 _ _ h1 h2
        clear h1 h2 hpcs
        have hO12 := own_below hO12 hb13
        have hb13 := hb11.trans ((hb12.trans (hb13.mono hb12.size)).mono hb11.size)
        obtain ⟨a12, c12, rfl, ha12⟩ := own_sl hO12
        obtain ⟨a13, c13, rfl, ha13⟩ := own_sl hO13
        go_wp2_with fail
        go_loopw [28] (fun i wr => ∃ j : Nat, j ≤ P.length ∧ i = .int .i64 j ∧ Below w13.heap.size w13 wr) (fun i _ => P.length - (intOf i).toNat)
        case atStart => exact ⟨0, Nat.zero_le _, rfl, Below.refl _ _⟩
        case round =>
          obtain ⟨j, hj, rfl, hb⟩ := hrel
          by_cases hlt : j < P.length
          · obtain ⟨g12, rfl⟩ := ha12 (by omega)
            obtain ⟨g13, rfl⟩ := ha13 (by omega)
            have hjl : (j : Int) < (P.length : Int) := by omega
            have hdr := (Below.refl wr.heap.size wr).drew
            have hlen := pcCells_length P
            have cs : ∀ (g : Nat) (t : TypeId) (B cap : Nat), w13.ownsRow B t 3 (.slice (some ⟨g, 0, none⟩) P.length cap) P.length (pcCells P) → ∀ i, i < 3 → wr.drew.cell? ⟨g, j * 3 + i, none⟩ = P[j].cells[i]? := fun g t B cap h i hi => by
              rw [← pcCells_get P j hlt i hi]
              have hc := h.cellAt (j * 3 + i) (by omega)
              rw [List.getElem?_eq_getElem (by omega)] at hc ⊢
              exact cell_later (hb.trans (hdr.mono hb.size)) hc
            generalize P[j] = pc at *
            have d0 : wr.drew.cell? ⟨g12, j * 3, none⟩ = some (.int .i64 (pc.k : Int)) := cs _ _ _ _ hO12 0 (by decide)
            have d1 : wr.drew.cell? ⟨g12, j * 3 + 1, none⟩ = some (.int .i64 (pc.f : Int)) := cs _ _ _ _ hO12 1 (by decide)
            have d2 : wr.drew.cell? ⟨g12, j * 3 + 2, none⟩ = some (.int .i64 (pc.t : Int)) := cs _ _ _ _ hO12 2 (by decide)
            have e0 : wr.drew.cell? ⟨g13, j * 3, none⟩ = some (.int .i64 (pc.k : Int)) := cs _ _ _ _ hO13 0 (by decide)
            have e1 : wr.drew.cell? ⟨g13, j * 3 + 1, none⟩ = some (.int .i64 (pc.f : Int)) := cs _ _ _ _ hO13 1 (by decide)
            have e2 : wr.drew.cell? ⟨g13, j * 3 + 2, none⟩ = some (.int .i64 (pc.t : Int)) := cs _ _ _ _ hO13 2 (by decide)
            clear cs
            generalize pc.k = pk at *
            generalize pc.f = pf at *
            generalize pc.t = pt at *
            have yd0 := fun x : Lat wr.drew => cell_later x.2 d0
            have yd1 := fun x : Lat wr.drew => cell_later x.2 d1
            have yd2 := fun x : Lat wr.drew => cell_later x.2 d2
            have ye0 := fun x : Lat wr.drew => cell_later x.2 e0
            have ye1 := fun x : Lat wr.drew => cell_later x.2 e1
            have ye2 := fun x : Lat wr.drew => cell_later x.2 e2
            clear d0 d1 d2 e0 e1 e2
            go_wp2_with fail
            refine wp_region_rely 37 (by kernel_rfl) (by kernel_rfl) ?_
            simp only [List.take_succ_cons, List.take_zero]
            generalize World.drew wr = wa at *
            repeat (first
              | (refine wpR_step0 ?_ ?_ (fun K hK => ?_); rfl; rfl; go_simp; refine hK _ ?_; clear hK K))
            refine wpR_nil fun x => ?_
            obtain ⟨wb, wbb⟩ := x
            simp only [close, List.drop_succ_cons, List.drop_zero]
            clear yd0 yd1 yd2 ye0 ye1 ye2
            go_wp2_with fail
            go_roundw
            case rel => exact ⟨j + 1, by omega, by go_num, hb.trans ((hdr.trans (wbb.mono hdr.size)).mono hb.size)⟩
            case measure => simp only [intOf]; omega
          · obtain rfl : j = P.length := by omega
            go_wp2_with fail
            go_returns
            exact ⟨rfl, hb13.trans (hb.mono hb13.size)⟩
end Go.Proofs.Ytibpipppabommaa.Cl
