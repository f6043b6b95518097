/- The law DevBarrier. -/
import Derived.Test.YtbagicjimfhmeaaDevW
import Derived.Test.YtbagicjimfhmeaaDevL
import Derived.Test.YtbagicjimfhmeaaRelyT
import Derived.Test.YtbagicjimfhmeaaZigS
set_option linter.unusedVariables false
set_option linter.unusedSimpArgs false
namespace Go.Proofs.Ytbagicjimfhmeaa.Cl
open Go Go.Proofs Go.RowKit Fl

def fillG {α : Type} (c : Nat) (z x : α) : List α := List.replicate c z ++ List.replicate (8 - c) x
theorem fillG_len {α : Type} (c : Nat) (hc : c ≤ 8) (z x : α) : (fillG c z x).length = 8 := by simp [fillG]; omega
theorem fillG_step {α : Type} (j : Nat) (hj : j < 8) (z x : α) : (fillG j z x).set j z = fillG (j + 1) z x := by
  match j, hj with
  | 0, _ => rfl
  | 1, _ => rfl
  | 2, _ => rfl
  | 3, _ => rfl
  | 4, _ => rfl
  | 5, _ => rfl
  | 6, _ => rfl
  | 7, _ => rfl
abbrev Bm.m' {w : World} {g a1 a2 n : Nat} {D : Dv} {U : List (List UInt8)} {rs : List (Option Nat)} {M : List (List (List UInt8))} {Z : Nat → Prop} {wr : World} (h : Bm w g a1 a2 n D U rs M Z wr) := h
/-- .. and the array of what is seen -/
structure Bp (w : World) (g a1 a2 a3 n : Nat) (D : Dv) (L U : List (List UInt8)) (rs : List (Option Nat)) (M : List (List (List UInt8))) (Z : Nat → Prop) (wr : World) : Prop where
  m' : Bm w g a1 a2 n D U rs M Z wr
  A3 : RowAt wr a3 30 (svs L)
  z3 : Z a3
  h3 : w.heap.size ≤ a3
  ne : a3 ≠ a1
section
variable {w : World} {g a1 a2 a3 n : Nat} {D : Dv} {L U : List (List UInt8)} {rs : List (Option Nat)} {M : List (List (List UInt8))} {Z : Nat → Prop} {wr wr' w2 w3 : World}
theorem Bp.below (h : Bp w g a1 a2 a3 n D L U rs M Z wr) (hb : Below wr.heap.size wr wr') : Bp w g a1 a2 a3 n D L U rs M Z wr' := ⟨h.m'.below hb, h.A3.later hb, h.z3, h.h3, h.ne⟩
theorem Bp.call {m : Nat} {D' : Dv} (h : Bp w g a1 a2 a3 n D L U rs M Z wr) (hd : DZ w.heap.size Z wr' g m D') (hc : CZ w.heap.size Z wr wr') : Bp w g a1 a2 a3 m D' L U rs M Z wr' := ⟨h.m'.call hd hc, hc.row h.A3 h.z3, h.z3, h.h3, h.ne⟩
theorem Bp.wide (h : Bp w g a1 a2 a3 n D L U rs M Z wr) (hb : Below wr.heap.size wr wr') (Z' : Nat → Prop) (hZ : ∀ k, Z' k → Z k ∨ wr.heap.size ≤ k) (hZ' : ∀ k, Z k → Z' k) (hl : ∀ k, Z' k → k < wr'.heap.size) : Bp w g a1 a2 a3 n D L U rs M Z' wr' :=
  ⟨h.m'.wide hb Z' hZ hZ' hl, h.A3.later hb, hZ' _ h.z3, h.h3, h.ne⟩
theorem Bp.put1 {U' : List (List UInt8)} (h : Bp w g a1 a2 a3 n D L U rs M Z wr) (hA : RowAt wr' a1 30 (svs U')) (hg : wr.grownBy wr' (some a1)) : Bp w g a1 a2 a3 n D L U' rs M Z wr' :=
  ⟨h.m'.put1 hA hg, h.A3.grown hg h.ne, h.z3, h.h3, h.ne⟩
theorem Bp.put3 {L' : List (List UInt8)} (h : Bp w g a1 a2 a3 n D L U rs M Z wr) (hA : RowAt wr' a3 30 (svs L')) (hg : wr.grownBy wr' (some a3)) : Bp w g a1 a2 a3 n D L' U rs M Z wr' :=
  ⟨h.m'.other hg h.z3 (h.A3.notB (by decide)) h.h3 h.ne (row_ne h.A3 h.m'.A2 (by decide)) (fun i r hi => (h.m'.at_ i r hi).2.ne_cells h.A3), hA, h.z3, h.h3, h.ne⟩
theorem Bp.other {k : Nat} (h : Bp w g a1 a2 a3 n D L U rs M Z wr) (hg : wr.grownBy wr' (some k)) (hZ : Z k) (hB : ¬ IsB wr k) (hk : w.heap.size ≤ k) (h1 : k ≠ a1) (h2 : k ≠ a2) (hm : ∀ (i r : Nat), rs[i]? = some (some r) → r ≠ k) (h3 : k ≠ a3) : Bp w g a1 a2 a3 n D L U rs M Z wr' :=
  ⟨h.m'.other hg hZ hB hk h1 h2 hm, h.A3.grown hg (fun e => h3 e.symm), h.z3, h.h3, h.ne⟩
theorem Bp.renew {r j : Nat} {S : List (List UInt8)} (h : Bp w g a1 a2 a3 n D L U rs M Z wr) (hZ : Z r) (hr : SSet wr r S) (hr2 : w.heap.size ≤ r) (hn : ∀ (i q : Nat), rs[i]? = some (some q) → q ≠ r) (hj : j < 8)
    (hA : RowAt wr' a2 33 (mcs (rs.set j (some r)))) (hg : wr.grownBy wr' (some a2)) : Bp w g a1 a2 a3 n D L U (rs.set j (some r)) (M.set j S) Z wr' :=
  ⟨h.m'.renew hZ hr hr2 hn hj hA hg, h.A3.grown hg (row_ne h.A3 h.m'.A2 (by decide)), h.z3, h.h3, h.ne⟩
theorem Bp.more {r j : Nat} {S : List (List UInt8)} (h : Bp w g a1 a2 a3 n D L U rs M Z wr) (hj : rs[j]? = some (some r)) (hS : SSet wr' r S) (hg : wr.grownBy wr' (some r)) : Bp w g a1 a2 a3 n D L U rs (M.set j S) Z wr' :=
  ⟨h.m'.more hj hS hg, h.A3.grown hg (fun e => (h.m'.at_ j r hj).2.ne_cells h.A3 e.symm), h.z3, h.h3, h.ne⟩
end
def allM (c : Nat) (rs : List (Option Nat)) : Prop := ∀ j, j < c → ∃ r : Nat, rs[j]? = some (some r)
theorem allM.set {c j r : Nat} {rs : List (Option Nat)} (h : allM c rs) (hj : j < rs.length) : allM c (rs.set j (some r)) := fun i hi => by
  by_cases e : j = i
  · subst e; exact ⟨r, by simp [hj]⟩
  · obtain ⟨q, hq⟩ := h i hi
    exact ⟨q, by rw [List.getElem?_set_ne e]; exact hq⟩
theorem allM.next {c r : Nat} {rs : List (Option Nat)} (h : allM c rs) (hj : c < rs.length) : allM (c + 1) (rs.set c (some r)) := fun i hi => by
  by_cases e : c = i
  · subst e; exact ⟨r, by simp [hj]⟩
  · obtain ⟨q, hq⟩ := h i (by omega)
    exact ⟨q, by rw [List.getElem?_set_ne e]; exact hq⟩
def Pa (w : World) (g a1 a2 c : Nat) (wr : World) : Prop := ∃ (rs : List (Option Nat)) (Z : Nat → Prop), Bm w g a1 a2 0 (newD [4, 4]) (fillG c Z64 []) rs (fillG c [Z64] []) Z wr ∧ allM c rs
def Pa1 (w : World) (g a1 a2 : Nat) (i : Value) (wr : World) : Prop := ∃ q : Nat, q ≤ 2 ∧ i = .int .i64 (q : Int) ∧ Pa w g a1 a2 (q * 4) wr
def Pa2 (w : World) (g a1 a2 q : Nat) (i : Value) (wr : World) : Prop := ∃ s : Nat, s ≤ 4 ∧ i = .int .i64 (s : Int) ∧ Pa w g a1 a2 (q * 4 + s) wr
def Pb (w : World) (g a1 a2 a3 : Nat) (l : List Deed) (i : Value) (wr : World) : Prop := ∃ (k : Nat) (D : Dv) (L U : List (List UInt8)) (rs : List (Option Nat)) (M : List (List (List UInt8))) (Z : Nat → Prop), k ≤ l.length ∧ i = .int .i64 (k : Int) ∧ Bp w g a1 a2 a3 k D L U rs M Z wr ∧ BInv D L U M ∧ allM 8 rs
def Pc (w : World) (g a1 a2 a3 k r : Nat) (D : Dv) (L U : List (List UInt8)) (M : List (List (List UInt8))) (i : Value) (wr : World) : Prop := ∃ (s : Nat) (rs : List (Option Nat)) (Z : Nat → Prop), s ≤ 4 ∧ i = .int .i64 (s : Int) ∧ Bp w g a1 a2 a3 k D L U rs (layM r s U M) Z wr ∧ allM 8 rs
def Pd (w : World) (g a1 a2 k : Nat) (D : Dv) (U : List (List UInt8)) (rs : List (Option Nat)) (M : List (List (List UInt8))) (Z : Nat → Prop) (c : Nat) (i : Value) (wr : World) : Prop := ∃ q : Nat, q ≤ c ∧ i = .int .i64 (q : Int) ∧ Bm w g a1 a2 k D U rs M Z wr
set_option maxRecDepth 100000 in
set_option maxHeartbeats 8000000 in
theorem devBarrier_law (l : List Deed) (v : Value) (kv : Value) (keep : List (List UInt8)) (w : World) (hl : RdDs w v l) (hk : RdTx w kv keep) :
    Calls Try.prog 3 #[v, kv] w fun e w' => e = .returned (.bool true) ∧ Below w.heap.size w w' := by
  have HK := Lib.hid hk
  obtain ⟨a0, cap, rfl, hc1, hc2, hds⟩ := hl
  obtain ⟨sl, ⟨ak, ck, ek, hk1, hk2, _⟩, hsl, _⟩ := hk
  have ekl : sl.length = keep.length := hsl
  rw [ekl] at ek
  subst ek
  clear hsl
  go_enter Try.func3, Try.ntmps3
  go_wp2_with fail
  refine (devBegun_any w).mono ?_
  rintro e w1 ⟨rfl, b1⟩
  by_cases hlen : l.length ≤ 40
  · have hlI : ¬ (40 : Int) < (l.length : Int) := by omega
    by_cases hkl : keep.length ≤ 5
    · have hkI : ¬ (5 : Int) < (keep.length : Int) := by omega
      go_wp2_with fail
      refine (dNew1 w1 w.heap.size #[.int .i64 4, .int .i64 4] [4, 4] 2 rfl rfl (by unfold okS; decide) b1.size).mono ?_
      rintro e w2 ⟨g, rfl, d2, bx⟩
      have d2 : DAt w.heap.size w2 g 0 (newD [4, 4]) := d2
      have b2 := b1.trans (bx.mono b1.size)
      clear bx b1
      go_wp2_with (refine wp_want rfl fun K hK => ?_; refine wp_rw_alloc (P := Try.prog) (t := 30) (.agg (svs (List.replicate 8 []))) infoG_zero rfl ?_)
      intro w3 A3 c3 s3
      refine hK _ _ ?_
      clear hK K
      go_wp2_with (refine wp_want rfl fun K hK => ?_; refine wp_rw_alloc (P := Try.prog) (t := 33) (.agg (mcs (List.replicate 8 none))) infoM_zero rfl ?_)
      intro w4 A4 c4 s4
      refine hK _ _ ?_
      clear hK K
      have A3 := A3.later c4
      have b4 := (b2.trans (c3.mono b2.size)).trans (c4.mono (Nat.le_trans b2.size c3.size))
      have z1 := b2.size
      have z2 := c3.size
      have K4 : Pa w g w2.heap.size w3.heap.size (0 * 4) w4 := ⟨List.replicate 8 none, fun k => k = w2.heap.size ∨ k = w3.heap.size, {
        d := DZ.start d2 (c3.trans (c4.mono c3.size)) (by rintro k (rfl | rfl) <;> omega)
        zl := by rintro k (rfl | rfl) <;> omega
        z1 := .inl rfl
        z2 := .inr rfl
        zm := fun i r hi => by rw [List.getElem?_replicate] at hi; split at hi <;> cases hi
        A1 := A3
        A2 := A4
        rl := rfl
        ml := rfl
        at_ := fun i r hi => by rw [List.getElem?_replicate] at hi; split at hi <;> cases hi
        inj := fun i j r hi => by rw [List.getElem?_replicate] at hi; split at hi <;> cases hi
        b := b4
        h1 := by omega
        h2 := by omega }, fun j hj => by omega⟩
      clear d2 b2 c3 c4 s4 s3 A3 A4 b4 z1 z2
      generalize w2.heap.size = a1 at *
      generalize w3.heap.size = a2 at *
      go_wp2_with fail
      go_loopw [9, 10] (fun i _ wr => Pa1 w g a1 a2 i wr) (fun i _ _ => 2 - (intOf i).toNat)
      case atStart => exact ⟨0, Nat.zero_le _, rfl, K4⟩
      case round =>
        clear K4
        obtain ⟨q, hq, rfl, K4⟩ := hrel
        by_cases hq2 : q < 2
        · have hqI : (q : Int) < 2 := by omega
          have q0I : (0 : Int) ≤ (q : Int) := by omega
          go_wp2_with fail
          go_loopw [10] (fun i wr => Pa2 w g a1 a2 q i wr) (fun i _ => 4 - (intOf i).toNat)
          case atStart => exact ⟨0, Nat.zero_le _, rfl, K4⟩
          case round =>
            clear K4
            rename World => wz
            obtain ⟨s, hs, rfl, rs, Z, k0, al⟩ := hrel
            by_cases hs4 : s < 4
            · have hsI : (s : Int) < 4 := by omega
              have s0I : (0 : Int) ≤ (s : Int) := by omega
              have hj8 : q * 4 + s < 8 := by omega
              have SS : True := trivial
              have hdr : Below wz.heap.size wz wz.drew := (Below.refl _ _).drew
              go_upto_region 16 with fail
              refine ZigS.wp_region_zigS [(false, 0), (false, 1), (false, 4), (true, 2), (false, 3), (false, 5), (true, 6)] (fun W => True) (by kernel_rfl) (by kernel_rfl) SS ?_
              simp only [Zig.sel, List.drop_succ_cons, List.drop_zero]
              generalize World.drew wz = wd at *
              haveI : Nonempty (Zig.Lt (fun W => True)) := ⟨⟨wd, SS⟩⟩
              repeat (refine ZigS.zig_step (fun K hK => ?_); go_simp; refine hK _ ?_; clear hK K)
              refine ZigS.zig_more rfl (fun K hK => ?_)
              unfold Oper.wp
              go_simp
              refine (dFull _ [] _ (Rd.nil _)).mono ?_
              rintro ee w5 ⟨g5, rfl, y5, b5⟩
              rw [show fullB [] = Z64 from rfl] at y5
              refine hK _ _ (fun W => Byt W (.slice (some ⟨g5, 0, none⟩) 64 64) Z64) (fun _ _ => trivial) y5 ?_
              clear hK K
              haveI : Nonempty (Zig.Lt (fun W => Byt W (.slice (some ⟨g5, 0, none⟩) 64 64) Z64)) := ⟨⟨w5, y5⟩⟩
              have hs5 := fun x : Zig.Lt (fun W => Byt W (.slice (some ⟨g5, 0, none⟩) 64 64) Z64) => run_string_of (P := Try.prog) x.2.rd 34 5 9 Try.underlying34 Try.underlying5 Try.underlying9
              repeat (refine ZigS.zig_step (fun K hK => ?_); go_simp; refine hK _ ?_; clear hK K)
              clear hs5 y5
              have k5 := (k0.below hdr).below b5
              have hL := fillG_len (q * 4 + s) (by omega) Z64 ([] : List UInt8)
              refine ZigS.zig_end rfl (by kernel_rfl) (fun K hK => ?_)
              refine wp_rw_storeP (P := Try.prog) (s := q * 4 + s) (v := sv Z64) k5.A1 infoSt_size (by rw [svs_size, hL]; exact hj8) (by intro u hu; simp [sv, Value.cells] at hu; rw [hu]; rfl) rfl rfl rfl ?_
              intro w6 A6 g6 z6
              rw [show (sv Z64).cells.toList = [sv Z64] from rfl, svs_set _ _ _ (by rw [hL]; exact hj8), fillG_step _ hj8] at A6
              refine hK _ _ ?_
              clear hK K
              have k6 := k5.put1 A6 g6
              clear k5 k0 A6 g6 z6 b5 hdr hL
              refine ZigS.zig_nil ?_
              have hcd : w6.drew.cell? ⟨a1, q * 4 + s, none⟩ = some (kt Z64) := k6.A1.cell _ _ (by
                simp only [svs, List.getElem?_toArray, List.getElem?_map]
                rw [← fillG_step _ hj8, List.getElem?_set_self (by rw [fillG_len _ (by omega)]; exact hj8)]
                rfl)
              go_wp2_with fail
              have hdr : Below w6.heap.size w6 w6.drew := (Below.refl _ _).drew
              go_upto_region 17 with fail
              refine ZigS.wp_region_zigS [(false, 0), (false, 1), (false, 3), (false, 4), (false, 5), (false, 6), (false, 7), (false, 10), (true, 2), (true, 8), (false, 9), (false, 11), (true, 12)] (fun W => W.cell? ⟨a1, q * 4 + s, none⟩ = some (kt Z64)) (by kernel_rfl) (by kernel_rfl) hcd ?_
              simp only [Zig.sel, List.drop_succ_cons, List.drop_zero]
              generalize World.drew w6 = wd at *
              haveI : Nonempty (Zig.Lt (fun W => W.cell? ⟨a1, q * 4 + s, none⟩ = some (kt Z64))) := ⟨⟨wd, hcd⟩⟩
              have xc := fun y : Zig.Lt (fun W => W.cell? ⟨a1, q * 4 + s, none⟩ = some (kt Z64)) => (show y.1.cell? ⟨a1, q * 4 + s, none⟩ = some (.string ⟨(Z64).toArray⟩) from y.2)
              repeat (refine ZigS.zig_step (fun K hK => ?_); go_simp; refine hK _ ?_; clear hK K)
              clear xc
              refine ZigS.zig_do rfl (fun K hK => ?_)
              refine wp_kmap_new kt rfl ?_
              intro w5 m5 c5 s5
              refine hK _ _ ?_ ?_
              · exact cell_later c5 hcd
              clear hK K
              have n5 := (k6.below hdr).wide c5 (fun k => Z k ∨ k = wd.heap.size) (fun k hk => hk.imp id fun e => Nat.le_of_eq e.symm) (fun k hk => .inl hk) (fun k hk => hk.elim (fun h => Nat.lt_of_lt_of_le (k6.m'.zl k h) (Nat.le_trans hdr.size c5.size)) (fun h => by omega))
              have hcd := cell_later c5 hcd
              have fr5 : ∀ (i q : Nat), rs[i]? = some (some q) → q ≠ wd.heap.size := fun i q hi => by have := k6.m'.zl q (k6.m'.zm i q hi); have := hdr.size; omega
              have ra1 : wd.heap.size ≠ a1 := by have := (k6.m'.below hdr).A1.lt; omega
              have ra2 : wd.heap.size ≠ a2 := by have := (k6.m'.below hdr).A2.lt; omega
              have rge : w.heap.size ≤ wd.heap.size := Nat.le_trans k6.m'.size hdr.size
              have S5 := SSet.new m5
              generalize wd.heap.size = r5 at *
              haveI : Nonempty (Zig.Lt (fun W => W.cell? ⟨a1, q * 4 + s, none⟩ = some (kt Z64))) := ⟨⟨w5, hcd⟩⟩
              repeat (refine ZigS.zig_step (fun K hK => ?_); go_simp; refine hK _ ?_; clear hK K)
              refine ZigS.zig_do rfl (fun K hK => ?_)
              refine wp_sset_put (P := Try.prog) (c := Z64) Try.underlying31 Try.underlying9 S5 (.inr rfl) rfl rfl rfl ?_
              intro w6 S6 g6 s6
              have hcd : w6.cell? ⟨a1, q * 4 + s, none⟩ = some (kt Z64) := by rw [← hcd]; simp only [World.cell?]; rw [g6.block a1 n5.m'.A1.lt (fun e => ra1 (Option.some.inj e).symm)]
              refine hK _ _ hcd ?_
              clear hK K
              have n6 := n5.other g6 (.inr rfl) S5.notB rge ra1 ra2 fr5
              haveI : Nonempty (Zig.Lt (fun W => W.cell? ⟨a1, q * 4 + s, none⟩ = some (kt Z64))) := ⟨⟨w6, hcd⟩⟩
              repeat (refine ZigS.zig_step (fun K hK => ?_); go_simp; refine hK _ ?_; clear hK K)
              refine ZigS.zig_end rfl (by kernel_rfl) (fun K hK => ?_)
              refine wp_rw_storeP (P := Try.prog) (s := q * 4 + s) (v := .map (some r5)) n6.m'.A2 infoMp_size (by rw [mcs_size, n6.m'.rl]; exact hj8) (by intro u hu; simp [Value.cells] at hu; rw [hu]; rfl) rfl rfl rfl ?_
              intro w7 A7 g7 s7
              rw [show (Value.map (some r5)).cells.toList = [.map (some r5)] from rfl, mcs_set _ _ _ (by rw [n6.m'.rl]; exact hj8)] at A7
              refine hK _ _ ?_
              clear hK K
              have k7 := n6.renew (.inr rfl) S6 rge fr5 hj8 A7 g7
              clear n5 n6 k6 S5 S6 m5 c5 s5 g6 s6 A7 g7 s7 hcd hdr fr5 ra1 ra2 rge
              refine ZigS.zig_nil ?_
              rw [fillG_step _ hj8] at k7
              have al := al.next (r := r5) (by have e := k7.m'.rl; rw [List.length_set] at e; omega)
              go_wp2_with fail
              go_roundw
              case rel => exact ⟨s + 1, by omega, by go_num, _, _, k7, al⟩
              case measure => simp only [intOf]; omega
            · have hsI : ¬ (s : Int) < 4 := by omega
              obtain rfl : s = 4 := by omega
              go_wp2_with fail
              go_roundw
              case rel => exact ⟨q + 1, by omega, by go_num, rs, Z, by rw [show (q + 1) * 4 = q * 4 + 4 by omega]; exact k0, by rw [show (q + 1) * 4 = q * 4 + 4 by omega]; exact al⟩
              case measure => simp only [intOf]; omega
        · have hqI : ¬ (q : Int) < 2 := by omega
          obtain rfl : q = 2 := by omega
          obtain ⟨rs, Z, k0, al⟩ := K4
          rw [show fillG (2 * 4) Z64 ([] : List UInt8) = List.replicate 8 Z64 from rfl, show fillG (2 * 4) [Z64] ([] : List (List UInt8)) = List.replicate 8 [Z64] from rfl] at k0
          have BN := BInv.new
          have hLL : (List.replicate 8 Z64).length = 8 := List.length_replicate
          generalize List.replicate 8 Z64 = LL at *
          generalize List.replicate 8 [Z64] = MM at *
          have hLL := Lib.hid hLL
          go_wp2_with (refine wp_want rfl fun K hK => ?_; first | (refine wp_rw_load (P := Try.prog) k0.A1 Try.underlying30 rfl (by rw [svs_size, hLL.out]; exact infoG_size) rfl rfl ?_; refine hK _ _ ?_; clear hK K) | refine wp_rw_alloc (P := Try.prog) (t := 30) (.agg (svs (List.replicate 8 []))) infoG_zero rfl ?_)
          intro w5 A5 c5 s5
          refine hK _ _ ?_
          clear hK K
          have na1 := k0.A1.lt
          have na2 := k0.A2.lt
          have nm : ∀ (i r : Nat), rs[i]? = some (some r) → r ≠ wr.heap.size := fun i r hi => by have := k0.zl r (k0.zm i r hi); omega
          have h3 := k0.b.size
          have k5 := k0.wide c5 (fun k => Z k ∨ k = wr.heap.size) (fun k hk => hk.imp id fun e => Nat.le_of_eq e.symm) (fun k hk => .inl hk) (fun k hk => hk.elim (fun h => by have := k0.zl k h; have := c5.size; omega) fun h => by omega)
          clear k0 c5 s5
          generalize hw3 : wr.heap.size = a3 at *
          clear hw3
          go_wp2_with (refine wp_want rfl fun K hK => ?_; refine wp_rw_store (P := Try.prog) (cs := svs LL) A5 (by rw [svs_size, hLL.out]; exact infoG_size) (by rw [svs_size, svs_size, hLL.out]; rfl) (by rw [Array.all_eq_true_iff_forall_mem]; intro u hu; exact svs_all _ u (by simpa [svs] using hu)) rfl rfl rfl ?_)
          intro w6 A6 g6 s6
          refine hK _ _ ?_
          clear hK K
          have k6 : Bp w g a1 a2 a3 0 (newD [4, 4]) LL LL rs MM _ w6 := ⟨k5.other g6 (.inr rfl) (A5.notB (by decide)) h3 (by omega) (by omega) nm, A6, .inr rfl, h3, by omega⟩
          clear k5 A5 A6 g6 s6 na1 na2 nm h3
          go_wp2_with fail
          go_loopw [12, 13, 14, 15, 16] (fun i _ _ _ _ wr => Pb w g a1 a2 a3 l i wr) (fun i _ _ _ _ _ => l.length - (intOf i).toNat)
          case atStart => exact ⟨0, _, _, _, rs, _, _, Nat.zero_le _, rfl, k6, BN, al⟩
          case round =>
            clear k6 al
            rename World => wz
            obtain ⟨k, D, L, U, rs, M, Z, hk, rfl, k0, BI, al⟩ := hrel
            by_cases hkl : k < l.length
            · have hkI : (k : Int) < (l.length : Int) := by omega
              obtain ⟨ad, rfl, D0⟩ := hds k hkl
              obtain ⟨o, ho⟩ : ∃ o, o = l[k] := ⟨_, rfl⟩
              rw [← ho] at D0
              have hD := D0.below k0.m'.b
              have q4w := D0.q4
              have qbw := D0.rb
              have q0 := hD.q0
              have q1 := hD.q1
              have q2 := hD.q2
              have q4 := hD.q4
              have qb := hD.rb
              obtain ⟨r, hr⟩ : ∃ r : Nat, (r : Int) = o.region % 2 := ⟨(o.region % 2).toNat, by omega⟩
              obtain ⟨s, hs⟩ : ∃ s : Nat, (s : Int) = o.i % 4 := ⟨(o.i % 4).toNat, by omega⟩
              have e1 := i64_and1 o.region
              have e2 := i64_and3 o.i
              rw [← hr] at e1
              rw [← hs] at e2
              have r2 : r < 2 := by omega
              have s4 : s < 4 := by omega
              clear hr hs hD D0 ho
              have x1 := fun y : RelyT.Lat wz.drew => cell_later y.2 (show wz.drew.cell? _ = _ from q1)
              have x2 := fun y : RelyT.Lat wz.drew => cell_later y.2 (show wz.drew.cell? _ = _ from q2)
              have hdr : Below wz.heap.size wz wz.drew := (Below.refl _ _).drew
              go_upto_region 22 with fail
              refine RelyT.wp_region_rely 14 (by kernel_rfl) (by kernel_rfl) ?_
              simp only [List.take_succ_cons, List.take_zero]
              generalize World.drew wz = wd at *
              repeat (first
                | (refine RelyT.wpR_step0 ?_ ?_ (fun K hK => ?_); rfl; rfl; go_simp; refine hK _ ?_; clear hK K))
              refine RelyT.wpR_nil fun x => ?_
              obtain ⟨we, web⟩ := x
              simp only [RelyT.close, List.drop_succ_cons, List.drop_zero]
              have hdr := hdr.trans (web.mono hdr.size)
              have k0 := k0.below hdr
              have q0 := cell_later hdr q0
              have q4 := cell_later hdr q4
              have qb := qb.below hdr
              clear x1 x2 web q1 q2 hdr e1 e2
              have hL := Lib.hid BI.k.len.1
              have hU := Lib.hid BI.k.len.2
              have r2I : (r : Int) < 2 := by omega
              have s4I : (s : Int) < 4 := by omega
              have r0I : (0 : Int) ≤ (r : Int) := by omega
              have s0I : (0 : Int) ≤ (s : Int) := by omega
              by_cases hkind : o.kind.tmod 7 = 6
              · have hin : inB D (r : Int) 0 = true := BI.k.inB r 0 r2 (by decide)
                go_wp2_with fail
                refine (zBarrier k0.m'.d k0.m'.zl k0.m'.size (by omega) (r : Int)).mono ?_
                rintro ee w5 ⟨rfl, d5, c5⟩
                rw [hin]
                have k5 := k0.call d5 c5
                clear k0 d5 c5 hin
                have BI5 := BI.barrier r r2
                have hp := Lib.hid (part_len r r2 L hL.out)
                have ha := Lib.hid (part_at r r2 L hL.out)
                have hl := Lib.hid (svs_lay r r2 L U hL.out hU.out)
                have ho := Lib.hid (svs_all ((L.drop (r * 4)).take 4))
                rw [show ((L.drop (r * 4)).take 4).map sv = part r L from rfl] at ho
                generalize part r L = vs at *
                go_wp2_with (refine wp_want rfl fun K hK => ?_; first | (refine wp_rw_loadP (P := Try.prog) (s := r * 4) vs k5.A3 Try.underlying29 rfl (by rw [hp.out]; exact infoG4_size) ha.out rfl rfl ?_; refine hK _ _ ?_; clear hK K) | (refine wp_rw_storeP (P := Try.prog) (s := r * 4) (v := .agg vs.toArray) k5.m'.A1 (by rw [show (Value.agg vs.toArray).cells = vs.toArray from rfl, List.size_toArray, hp.out]; exact infoG4_size) (by rw [show (Value.agg vs.toArray).cells = vs.toArray from rfl, List.size_toArray, hp.out, svs_size, hU.out]; omega) (fun u hu => ho.out u (by simpa [Value.cells] using hu)) rfl rfl rfl ?_))
                intro w6 A6 g6 z6
                rw [hl.out] at A6
                refine hK _ _ ?_
                clear hK K hl hp ho ha
                have k6 := k5.put1 A6 g6
                clear k5 A6 g6 z6 BI hU q0 q4 qb q4w qbw
                have hU := Lib.hid BI5.k.len.2
                have ml := Lib.hid k6.m'.ml
                rw [← layM_zero r (lay r L U) M] at k6
                generalize lay r L U = U' at *
                generalize barrierZ D (r : Int) = D' at *
                go_wp2_with fail
                go_loopw [15] (fun i wr => Pc w g a1 a2 a3 (k + 1) r D' L U' M i wr) (fun i _ => 4 - (intOf i).toNat)
                case atStart => exact ⟨0, rs, Z, Nat.zero_le _, rfl, k6, al⟩
                case round =>
                  clear k6 al
                  rename World => wy
                  obtain ⟨m, rs, Z, hm, rfl, k6, al⟩ := hrel
                  by_cases hm4 : m < 4
                  · have hmI : (m : Int) < 4 := by omega
                    have m0I : (0 : Int) ≤ (m : Int) := by omega
                    have hj8 : r * 4 + m < 8 := by omega
                    have hjU := Nat.lt_of_lt_of_eq hj8 hU.out.symm
                    have hcd : wy.drew.cell? ⟨a1, r * 4 + m, none⟩ = some (kt (U'.getD (r * 4 + m) [])) := k6.m'.A1.cell _ _ (by
                      simp only [svs, List.getElem?_toArray, List.getElem?_map]
                      rw [List.getD_eq_getElem?_getD, List.getElem?_eq_getElem hjU]
                      rfl)
                    obtain ⟨X, hX⟩ : ∃ X, X = U'.getD (r * 4 + m) [] := ⟨_, rfl⟩
                    rw [← hX] at hcd
                    have hX' := Lib.hid hX
                    clear hX
                    go_wp2_with fail
                    have hdr : Below wy.heap.size wy wy.drew := (Below.refl _ _).drew
                    go_upto_region 30 with fail
                    refine ZigS.wp_region_zigS [(false, 0), (false, 1), (false, 3), (false, 4), (false, 5), (false, 6), (false, 7), (false, 10), (true, 2), (true, 8), (false, 9), (false, 11), (true, 12)] (fun W => W.cell? ⟨a1, r * 4 + m, none⟩ = some (kt X)) (by kernel_rfl) (by kernel_rfl) hcd ?_
                    simp only [Zig.sel, List.drop_succ_cons, List.drop_zero]
                    generalize World.drew wy = wd at *
                    haveI : Nonempty (Zig.Lt (fun W => W.cell? ⟨a1, r * 4 + m, none⟩ = some (kt X))) := ⟨⟨wd, hcd⟩⟩
                    have xc := fun y : Zig.Lt (fun W => W.cell? ⟨a1, r * 4 + m, none⟩ = some (kt X)) => (show y.1.cell? ⟨a1, r * 4 + m, none⟩ = some (.string ⟨(X).toArray⟩) from y.2)
                    repeat (refine ZigS.zig_step (fun K hK => ?_); go_simp; refine hK _ ?_; clear hK K)
                    clear xc
                    refine ZigS.zig_do rfl (fun K hK => ?_)
                    refine wp_kmap_new kt rfl ?_
                    intro w5 m5 c5 s5
                    refine hK _ _ ?_ ?_
                    · exact cell_later c5 hcd
                    clear hK K
                    have n5 := (k6.below hdr).wide c5 (fun k => Z k ∨ k = wd.heap.size) (fun k hk => hk.imp id fun e => Nat.le_of_eq e.symm) (fun k hk => .inl hk) (fun k hk => hk.elim (fun h => Nat.lt_of_lt_of_le (k6.m'.zl k h) (Nat.le_trans hdr.size c5.size)) (fun h => by omega))
                    have hcd := cell_later c5 hcd
                    have fr5 : ∀ (i q : Nat), rs[i]? = some (some q) → q ≠ wd.heap.size := fun i q hi => by have := k6.m'.zl q (k6.m'.zm i q hi); have := hdr.size; omega
                    have ra1 : wd.heap.size ≠ a1 := by have := (k6.m'.below hdr).A1.lt; omega
                    have ra2 : wd.heap.size ≠ a2 := by have := (k6.m'.below hdr).A2.lt; omega
                    have rge : w.heap.size ≤ wd.heap.size := Nat.le_trans k6.m'.size hdr.size
                    have S5 := SSet.new m5
                    generalize wd.heap.size = r5 at *
                    haveI : Nonempty (Zig.Lt (fun W => W.cell? ⟨a1, r * 4 + m, none⟩ = some (kt X))) := ⟨⟨w5, hcd⟩⟩
                    repeat (refine ZigS.zig_step (fun K hK => ?_); go_simp; refine hK _ ?_; clear hK K)
                    refine ZigS.zig_do rfl (fun K hK => ?_)
                    refine wp_sset_put (P := Try.prog) (c := X) Try.underlying31 Try.underlying9 S5 (.inr rfl) rfl rfl rfl ?_
                    intro w6 S6 g6 s6
                    have hcd : w6.cell? ⟨a1, r * 4 + m, none⟩ = some (kt X) := by rw [← hcd]; simp only [World.cell?]; rw [g6.block a1 n5.m'.A1.lt (fun e => ra1 (Option.some.inj e).symm)]
                    refine hK _ _ hcd ?_
                    clear hK K
                    have n6 := n5.other g6 (.inr rfl) S5.notB rge ra1 ra2 fr5 (fun e => S5.ne_cells n5.A3 e)
                    haveI : Nonempty (Zig.Lt (fun W => W.cell? ⟨a1, r * 4 + m, none⟩ = some (kt X))) := ⟨⟨w6, hcd⟩⟩
                    repeat (refine ZigS.zig_step (fun K hK => ?_); go_simp; refine hK _ ?_; clear hK K)
                    refine ZigS.zig_end rfl (by kernel_rfl) (fun K hK => ?_)
                    refine wp_rw_storeP (P := Try.prog) (s := r * 4 + m) (v := .map (some r5)) n6.m'.A2 infoMp_size (by rw [mcs_size, n6.m'.rl]; exact hj8) (by intro u hu; simp [Value.cells] at hu; rw [hu]; rfl) rfl rfl rfl ?_
                    intro w7 A7 g7 s7
                    rw [show (Value.map (some r5)).cells.toList = [.map (some r5)] from rfl, mcs_set _ _ _ (by rw [n6.m'.rl]; exact hj8)] at A7
                    refine hK _ _ ?_
                    clear hK K
                    have k7 := n6.renew (.inr rfl) S6 rge fr5 hj8 A7 g7
                    clear n5 n6 k6 S5 S6 m5 c5 s5 g6 s6 A7 g7 s7 hcd hdr fr5 ra1 ra2 rge
                    refine ZigS.zig_nil ?_
                    rw [hX'.out, layM_step] at k7
                    have al := al.set (r := r5) (j := r * 4 + m) (by have e := k7.m'.rl; rw [List.length_set] at e; omega)
                    clear hX' hjU
                    go_wp2_with fail
                    go_roundw
                    case rel => exact ⟨m + 1, _, _, by omega, by go_num, k7, al⟩
                    case measure => simp only [intOf]; omega
                  · have hmI : ¬ (m : Int) < 4 := by omega
                    obtain rfl : m = 4 := by omega
                    go_wp2_with fail
                    go_roundw
                    case rel => exact ⟨k + 1, _, _, _, _, _, _, by omega, by go_num, k6, BI5, al⟩
                    case measure => simp only [intOf]; omega
              · have hin : inB D (r : Int) (s : Int) = true := BI.k.inB r s r2 s4
                go_wp2_with fail
                refine (dFull _ o.b _ qb).mono ?_
                rintro ee w5 ⟨g5, rfl, y5, b5⟩
                have k5 := k0.below b5
                clear k0 b5
                go_wp2_with fail
                refine (zWrite k5.m'.d k5.m'.zl k5.m'.size (by omega) (r : Int) (s : Int) _ (fullB o.b) (y5.lb _)).mono ?_
                rintro ee w6 ⟨rfl, d6, c6⟩
                rw [hin, fullB_length]
                simp only [decide_true, Bool.and_self]
                have k6 := k5.call d6 c6
                have y6 := y5.keep c6.1.2
                clear k5 y5 qb q4 q0 d6 c6 hin
                have BI6 := BI.write r s r2 s4 (fullB o.b) (fullB_length _)
                have hrs : r * 4 + s < L.length := by rw [hL.out]; omega
                clear BI hU hL q4w qbw
                generalize writeZ D (r : Int) (s : Int) (fullB o.b) = D' at *
                generalize fullB o.b = X at *
                have y6 : Byt w6.drew _ X := y6
                have hdr : Below w6.heap.size w6 w6.drew := (Below.refl _ _).drew
                go_upto_region 34 with fail
                refine ZigS.wp_region_zigS [(false, 0), (false, 1), (false, 2), (false, 3), (false, 4), (false, 5), (true, 6)] (fun W => Byt W (.slice (some ⟨g5, 0, none⟩) 64 64) X) (by kernel_rfl) (by kernel_rfl) y6 ?_
                simp only [Zig.sel, List.drop_succ_cons, List.drop_zero]
                generalize World.drew w6 = wd at *
                haveI : Nonempty (Zig.Lt (fun W => Byt W (.slice (some ⟨g5, 0, none⟩) 64 64) X)) := ⟨⟨wd, y6⟩⟩
                have hs7 := fun x : Zig.Lt (fun W => Byt W (.slice (some ⟨g5, 0, none⟩) 64 64) X) => run_string_of (P := Try.prog) x.2.rd 34 5 9 Try.underlying34 Try.underlying5 Try.underlying9
                repeat (refine ZigS.zig_step (fun K hK => ?_); go_simp; refine hK _ ?_; clear hK K)
                have k7 := k6.below hdr
                clear hs7 k6 hdr
                refine ZigS.zig_end rfl (by kernel_rfl) (fun K hK => ?_)
                refine wp_rw_storeP (P := Try.prog) (s := r * 4 + s) (v := sv X) k7.A3 infoSt_size (by rw [svs_size]; exact hrs) (by intro u hu; simp [sv, Value.cells] at hu; rw [hu]; rfl) rfl rfl rfl ?_
                intro w8 A8 g8 z8
                rw [show (sv X).cells.toList = [sv X] from rfl, svs_set _ _ _ hrs] at A8
                refine hK _ _ ?_
                have y8 := y6.keep (Keep8.of_grown g8 fun j hj => by obtain rfl := Option.some.inj hj; exact k7.A3.notB (by decide))
                have k8 := k7.put3 A8 g8
                clear hK K k7 A8 g8 z8 hrs y6
                generalize L.set (r * 4 + s) X = L' at *
                refine ZigS.zig_nil ?_
                have hj8 : r * 4 + s < 8 := by omega
                obtain ⟨mr, hmr⟩ := al (r * 4 + s) hj8
                have S8 := (k8.m'.at_ _ mr hmr).2
                have hcm : w8.cell? ⟨a2, r * 4 + s, none⟩ = some (.map (some mr)) := k8.m'.A2.cell _ _ (mcs_get rs _ _ hmr)
                have y8 : Byt w8.drew _ X := y8
                have hcm : w8.drew.cell? ⟨a2, r * 4 + s, none⟩ = some (.map (some mr)) := hcm
                have yc := And.intro y8 hcm
                have hdr : Below w8.heap.size w8 w8.drew := (Below.refl _ _).drew
                go_upto_region 35 with fail
                refine ZigS.wp_region_zigS [(false, 0), (false, 1), (false, 2), (false, 3), (false, 4), (false, 5), (false, 6), (true, 7)] (fun W => Byt W (.slice (some ⟨g5, 0, none⟩) 64 64) X ∧ W.cell? ⟨a2, r * 4 + s, none⟩ = some (.map (some mr))) (by kernel_rfl) (by kernel_rfl) yc ?_
                simp only [Zig.sel, List.drop_succ_cons, List.drop_zero]
                generalize World.drew w8 = wd at *
                haveI : Nonempty (Zig.Lt (fun W => Byt W (.slice (some ⟨g5, 0, none⟩) 64 64) X ∧ W.cell? ⟨a2, r * 4 + s, none⟩ = some (.map (some mr)))) := ⟨⟨wd, yc⟩⟩
                have hs7 := fun x : Zig.Lt (fun W => Byt W (.slice (some ⟨g5, 0, none⟩) 64 64) X ∧ W.cell? ⟨a2, r * 4 + s, none⟩ = some (.map (some mr))) => run_string_of (P := Try.prog) x.2.1.rd 34 5 9 Try.underlying34 Try.underlying5 Try.underlying9
                have hs8 := fun x : Zig.Lt (fun W => Byt W (.slice (some ⟨g5, 0, none⟩) 64 64) X ∧ W.cell? ⟨a2, r * 4 + s, none⟩ = some (.map (some mr))) => x.2.2
                repeat (refine ZigS.zig_step (fun K hK => ?_); go_simp; refine hK _ ?_; clear hK K)
                have k9 := k8.below hdr
                have S9 := S8.later hdr
                clear hs7 hs8 k8 hdr yc S8 y8 hcm
                refine ZigS.zig_end rfl (by kernel_rfl) (fun K hK => ?_)
                refine wp_sset_put (P := Try.prog) (c := X) Try.underlying31 Try.underlying9 S9 (.inl rfl) rfl rfl rfl ?_
                intro w10 S10 g10 s10
                refine hK _ _ ?_
                clear hK K
                have k10 := k9.more hmr S10 g10
                rw [show M.set (r * 4 + s) (X :: M.getD (r * 4 + s) []) = putM (r * 4 + s) X M from rfl] at k10
                clear k9 S9 S10 g10 s10 hmr
                generalize putM (r * 4 + s) X M = M' at *
                refine ZigS.zig_nil ?_
                go_wp2_with fail
                go_roundw
                case rel => exact ⟨k + 1, _, _, _, _, _, _, by omega, by go_num, k10, BI6, al⟩
                case measure => simp only [intOf]; omega
            · have hkI : ¬ (k : Int) < (l.length : Int) := by omega
              have hk40 : k ≤ 100000 := by omega
              obtain ⟨sl', hsl', hb'⟩ := (LBL.of_rd HK.out).ch (Ch.of_below k0.m'.b (Nat.le_refl _))
              have BC := BI.crash keep
              clear BI
              go_wp2_with fail
              refine (zCrash k0.m'.d k0.m'.zl k0.m'.size hk40 keep _ ⟨sl', hsl', fun w' c => hb' w' c.1⟩).mono ?_
              rintro ee w9 ⟨rfl, d9, c9⟩
              have k9 := k0.m'.call d9 c9
              clear k0 d9 c9 hb' hsl'
              generalize crashD D keep = D' at *
              go_wp2_with fail
              go_loopw [17, 18, 19, 20] (fun i _ _ _ wr => Pd w g a1 a2 k D' U rs M Z 2 i wr) (fun i _ _ _ _ => 2 - (intOf i).toNat)
              case atStart => exact ⟨0, Nat.zero_le _, rfl, k9⟩
              case round =>
                clear k9
                rename World => wy
                obtain ⟨q, hq, rfl, k9⟩ := hrel
                by_cases hq2 : q < 2
                · have hqI : (q : Int) < 2 := by omega
                  have q0I : (0 : Int) ≤ (q : Int) := by omega
                  go_wp2_with fail
                  go_loopw [18, 19, 20] (fun i _ _ wr => Pd w g a1 a2 k D' U rs M Z 4 i wr) (fun i _ _ _ => 4 - (intOf i).toNat)
                  case atStart => exact ⟨0, Nat.zero_le _, rfl, k9⟩
                  case round =>
                    clear k9
                    rename World => wx
                    obtain ⟨s, hs, rfl, k9⟩ := hrel
                    by_cases hs4 : s < 4
                    · have hsI : (s : Int) < 4 := by omega
                      have s0I : (0 : Int) ≤ (s : Int) := by omega
                      obtain ⟨hin, hmem⟩ := BC q s hq2 hs4
                      have hj8 : q * 4 + s < 8 := by omega
                      obtain ⟨mr, hmr⟩ := al (q * 4 + s) hj8
                      go_wp2_with fail
                      refine (dRead k9.d.at_ (q : Int) (s : Int)).mono ?_
                      rintro ee r1 ⟨u1, rfl, o1, x1⟩
                      rw [hin, if_pos rfl] at o1
                      rw [hin]
                      have k9 := k9.below x1
                      clear x1 hin
                      generalize readZ D' (q : Int) (s : Int) = X at *
                      have S9 := (k9.at_ _ mr hmr).2
                      have hlk : ∀ y : RelyT.Lat r1.drew, (Instr.lookup 31 (.map (some mr)) (.string ⟨X.toArray⟩) false).run Try.prog y.1 = .ok (.bool true) y.1 := fun y => by
                        have h := run_in_sset (P := Try.prog) Try.underlying31 Try.underlying9 Try.zeroValue4 ((show SSet r1.drew mr _ from S9).later y.2) X
                        rw [decide_eq_true hmem] at h
                        exact h
                      have hcm : r1.cell? ⟨a2, q * 4 + s, none⟩ = some (.map (some mr)) := k9.A2.cell _ _ (mcs_get rs _ _ hmr)
                      have xc := fun y : RelyT.Lat r1.drew => cell_later y.2 (show r1.drew.cell? _ = _ from hcm)
                      have xs := fun y : RelyT.Lat r1.drew => run_string_of (P := Try.prog) ((o1.rd.drew).below y.2) 34 5 9 Try.underlying34 Try.underlying5 Try.underlying9
                      have hdr : Below r1.heap.size r1 r1.drew := (Below.refl _ _).drew
                      clear hcm S9 o1
                      go_upto_region 44 with fail
                      refine RelyT.wp_region_rely 13 (by kernel_rfl) (by kernel_rfl) ?_
                      simp only [List.take_succ_cons, List.take_zero]
                      generalize World.drew r1 = wd at *
                      repeat (first
                        | (refine RelyT.wpR_step0 ?_ ?_ (fun K hK => ?_); rfl; rfl; go_simp; refine hK _ ?_; clear hK K))
                      refine RelyT.wpR_nil fun x => ?_
                      obtain ⟨we, web⟩ := x
                      simp only [RelyT.close, List.drop_succ_cons, List.drop_zero]
                      have hdr := hdr.trans (web.mono hdr.size)
                      have k9 := k9.below hdr
                      clear xc xs web hdr hlk hmem hmr
                      go_wp2_with fail
                      go_roundw
                      case rel => exact ⟨s + 1, by omega, by go_num, k9⟩
                      case measure => simp only [intOf]; omega
                    · have hsI : ¬ (s : Int) < 4 := by omega
                      go_wp2_with fail
                      go_roundw
                      case rel => exact ⟨q + 1, by omega, by go_num, k9⟩
                      case measure => simp only [intOf]; omega
                · have hqI : ¬ (q : Int) < 2 := by omega
                  go_wp2_with fail
                  go_ret
                  exact ⟨rfl, k9.b⟩
    · have hkI : (5 : Int) < (keep.length : Int) := by omega
      go_wp2_with fail
      go_ret
      exact ⟨rfl, b1⟩
  · have hlI : (40 : Int) < (l.length : Int) := by omega
    go_wp2_with fail
    go_ret
    exact ⟨rfl, b1⟩
end Go.Proofs.Ytbagicjimfhmeaa.Cl
