/- The law RecRow. -/
import Derived.Test.YtgeiafijibgdhaaRecW
set_option linter.unusedVariables false
set_option linter.unusedSimpArgs false
namespace Go.Proofs.Ytgeiafijibgdhaa.Cl
open Go Go.Proofs Go.RowKit Fl Rely

set_option maxRecDepth 100000 in
set_option maxHeartbeats 8000000 in
theorem recRow_law (label wch blk : UInt8) (epoch : Nat) (v : Value) (ls : List (List Wr)) (w : World) (he : epoch < 4294967296) (hok : ∀ l ∈ ls, ∀ x ∈ l, WrOk x) (hv : RdWs w v ls) :
    Calls Try.prog 14 #[u8 label, .int .u32 epoch, v, u8 wch, u8 blk] w fun e w' => e = .returned (.bool true) ∧ Below w.heap.size w w' := by
  by_cases hn : ls.length < 1 ∨ 8 < ls.length
  · obtain ⟨av, cv, ev⟩ : ∃ a c, v = .slice a ls.length c := by
      obtain ⟨sl, ⟨a, c, e, _⟩, h2, _⟩ := id hv
      exact ⟨a, c, by rw [e, h2]⟩
    subst ev
    go_enter Try.func14, Try.ntmps14
    go_wp2_with fail
    refine (recBegun_any _).mono ?_
    rintro e w1 ⟨rfl, W⟩
    rcases hn with h | h
    · have hI : (ls.length : Int) < 1 := by omega
      go_wp2_with fail
      go_ret
      exact ⟨rfl, W⟩
    · have hI : ¬ (ls.length : Int) < 1 := by omega
      have hI2 : (8 : Int) < (ls.length : Int) := by omega
      go_wp2_with fail
      go_ret
      exact ⟨rfl, W⟩
  · have hn1 : 1 ≤ ls.length := by omega
    have hn8 : ls.length ≤ 8 := by omega
    obtain ⟨ad, cv, ev⟩ := hv.shape (by omega)
    subst ev
    have hI : ¬ (ls.length : Int) < 1 := by omega
    have hI2 : ¬ (8 : Int) < (ls.length : Int) := by omega
    obtain ⟨bad, hbad⟩ : ∃ b, b = wch.toNat % (ls.length + 1) := ⟨_, rfl⟩
    have hbn : bad ≤ ls.length := by
      have := Nat.mod_lt wch.toNat (show 0 < ls.length + 1 by omega)
      omega
    have hrb : (wrap64 (wch.toNat : Int)).tmod ((ls.length : Int) + 1) = (bad : Int) := by
      have := wch.toNat_lt
      rw [show wrap64 (wch.toNat : Int) = (wch.toNat : Int) by unfold wrap64; omega, hbad]
      exact (Int.ofNat_tmod wch.toNat (ls.length + 1)).symm
    clear hbad hn
    go_enter Try.func14, Try.ntmps14
    go_wp2_with fail
    refine (recBegun_any _).mono ?_
    rintro e w1 ⟨rfl, W⟩
    have hv1 := hv.below W
    have n1 := W.size
    go_wp2_with fail
    clear hrb hI hI2
    go_loopw [11, 13, 14, 15, 16] (fun u i _ _ _ wr => ∃ (k : Nat) (ps : List (List (List UInt8))), k ≤ ls.length ∧ i = .int .i64 (k : Int) ∧ ps.length = k ∧ (∀ j (h : j < ls.length) (h' : j < ps.length), okW ls[j] ∧ PartIs label epoch bad j ls[j] ps[j]) ∧ OL wr w1.heap.size u ps.flatten ∧ Below w1.heap.size w1 wr) (fun _ i _ _ _ _ => ls.length - (intOf i).toNat)
    case atStart => exact ⟨0, [], Nat.zero_le _, rfl, rfl, fun j h h' => by simp at h', OL.nil _ _, Below.refl _ _⟩
    case round =>
      obtain ⟨k, ps, hk, rfl, hps, hall, hO, hb⟩ := hrel
      by_cases hlt : k < ls.length
      · have hlI : (k : Int) < (ls.length : Int) := by omega
        obtain ⟨y, hcy, hry⟩ := hv1.elem k hlt
        have hokk := hok _ (List.getElem_mem hlt)
        have hps13 : ∀ p ∈ ps, p.length ≤ 13 := fun p hp => by
          obtain ⟨j, hj, rfl⟩ := List.getElem_of_mem hp
          have h := hall j (by omega) hj
          rw [h.2.1]
          have := h.1.2.2
          omega
        have hfl := flat_le hps13
        have hfl : ps.flatten.length ≤ 104 := by omega
        have hgrow : ∀ l, okW l → ls[k] = l → ∀ q, PartIs label epoch bad k l q → ∀ j (h : j < ls.length) (h' : j < (ps ++ [q]).length), okW ls[j] ∧ PartIs label epoch bad j ls[j] (ps ++ [q])[j] := fun l hl hlk q hq j h h' => by
          by_cases hj : j < ps.length
          · rw [List.getElem_append_left hj]
            exact hall j h hj
          · have hjk : j = k := by simp at h'; omega
            subst hjk
            rw [List.getElem_append_right (by omega)]
            simp only [List.getElem_singleton]
            rw [hlk]
            exact ⟨hl, hq⟩
        have Hall := Lib.hid hall
        have Hps := Lib.hid hps
        clear hall hps hps13
        have hcy := cell_later hb hcy
        have hry := hry.below hb
        obtain ⟨l, hl⟩ : ∃ l, l = ls[k] := ⟨_, rfl⟩
        rw [← hl] at hry hokk
        have Hl := Lib.hid hl.symm
        clear hl
        obtain ⟨ay, cy, rfl, _⟩ := id hry
        have hM := fun w hv => mayW_any (.slice ay l.length cy) l w hokk hv
        go_wp2_with fail
        refine (hM _ hry).mono ?_
        rintro e w3 ⟨rfl, b3⟩
        have hb3 := hb.trans (b3.mono hb.size)
        by_cases ha : okW l
        · skip
          have hl12 : l.length ≤ 12 := ha.2.2
          have hcy := cell_later b3 hcy
          have hry := hry.below b3
          have hO3 := hO.below b3
          have hk32 : IntKind.u32.wrap (k : Int) = (k : Int) := by rw [IntKind.wrap_u32]; omega
          have hP := fun w hv => recPut_f label epoch k (.slice ay l.length cy) l w he (by omega) ha hokk hv
          have hlN := recB_length (label := label) (epoch := epoch) (seq := k) (l := l)
          have h64 := fun j hj => recB_get64 (label := label) (epoch := epoch) (seq := k) ha hokk j hj
          have hturn := fun more j hj i hi x hx => turned_more (label := label) (epoch := epoch) (seq := k) more ha hokk j hj i hi x hx (label' := label) (epoch' := epoch) (seq' := k)
          obtain ⟨L, hL⟩ : ∃ L, L = recB label epoch k l := ⟨_, rfl⟩
          rw [← hL] at hP hlN
          have HL := Lib.hid hL
          have Hlen := Lib.hid hlN
          have h64 : ∀ j (hj : j < L.length), L[j].length = 64 := by subst hL; exact h64
          have hturn : ∀ more j (hj : j < L.length) i (hi : i < L[j].length) x, x ≠ L[j][i] → ¬ goodR label epoch k (L.set j (L[j].set i x) ++ more) := by subst hL; exact hturn
          clear hL hlN
          have Ha := Lib.hid ha
          rw [decide_eq_true ha]
          clear ha
          go_wp2_with fail
          refine (hP _ hry).mono ?_
          rintro e w4 ⟨u4, rfl, hO4, b4⟩
          have hcy := cell_later b4 hcy
          have n3 := b3.size
          have hb4 := hb3.trans (b4.mono hb3.size)
          have hOl := hO3.below b4
          obtain ⟨g4, c4, ev4, hg4, hg4'⟩ := hO4.ol.shape (show 0 < L.length by rw [show L.length = l.length + 1 from Hlen]; omega)
          rw [show L.length = l.length + 1 from Hlen] at ev4
          subst ev4
          have hfar := hO3.lt
          by_cases hkb : k = bad
          · have hkbI : ((k : Int) == (bad : Int)) = true := by rw [beq_iff_eq, hkb]
            have Hkb := Lib.hid hkb
            clear hkb
            obtain ⟨kk, hkk⟩ : ∃ kk, kk = blk.toNat % (l.length + 1) := ⟨_, rfl⟩
            have hkk0 : kk < l.length + 1 := by rw [hkk]; exact Nat.mod_lt _ (by omega)
            have hkkI : (kk : Int) < (l.length : Int) + 1 := by omega
            have hrk : (wrap64 (blk.toNat : Int)).tmod ((l.length : Int) + 1) = (kk : Int) := by
              have := blk.toNat_lt
              rw [show wrap64 (blk.toNat : Int) = (blk.toNat : Int) by unfold wrap64; omega, hkk]
              exact (Int.ofNat_tmod blk.toNat (l.length + 1)).symm
            clear hkk
            have hkL : kk < L.length := by rw [show L.length = l.length + 1 from Hlen]; exact hkk0
            obtain ⟨adq, y, ead, hc0, hr0, hi0⟩ := hO4.ol.elem kk hkL
            obtain rfl := Option.some.inj ead
            rw [Addr.add_lit, Nat.zero_add] at hc0
            have hl64 := h64 kk hkL
            have hturn := fun more => hturn more kk hkL
            obtain ⟨q, hq⟩ : ∃ q, q = L[kk] := ⟨_, rfl⟩
            rw [← hq] at hl64 hr0 hturn
            have H64 := Lib.hid hl64
            obtain ⟨ay0, cy0, rfl, hcy0, _⟩ := hr0.some_ (by rw [bs_length, hl64]; decide)
            rw [bs_length, hl64] at hc0 hr0 hcy0
            have hq0 : 0 < q.length := by rw [hl64]; decide
            have hc1 : w4.cell? ay0 = some (.int .u8 (q[0].toNat : Nat)) := by
              have := hr0.cell0 (by rw [bs_length]; exact hq0)
              rw [this]
              simp [bs]
            have hx : (q[0]'hq0 ^^^ (1 : UInt8)) ≠ q[0]'hq0 := fun e => by
              have := congrArg (fun t => q[0] ^^^ t) e
              simp [← UInt8.xor_assoc] at this
            have hturn := fun more => hturn more 0 hq0 (q[0] ^^^ 1) hx
            have hxor : bits .xor .u8 (q[0].toNat : Int) 1 = ((q[0] ^^^ 1).toNat : Int) := u8_xor' q[0] 1
            have hset := set_head hq0 (q[0] ^^^ 1)
            rw [← hset] at hturn
            have Ht := Lib.hid hturn
            clear hset hx hq hl64 h64 hturn hM hP
            generalize q[0] ^^^ 1 = xq at *
            generalize hq0' : q[0] = q0 at *
            clear hq0'
            have hsl := hr0.sub 1 64 (by decide) (by rw [bs_length, show q.length = 64 from H64]; exact Nat.le_refl _)
            have hne0 : ¬ cy0 = 1 := by omega
            unfold sliced at hsl
            rw [if_neg hne0, Option.map_some, show (1 * 1 : Nat) = 0 + 1 from rfl, Addr.add_succ', Nat.zero_add, List.take_of_length_le (by rw [List.length_drop, bs_length, show q.length = 64 from H64]; decide), bs, ← List.map_drop] at hsl
            have k64 : (64 : Int) ≤ (cy0 : Int) := by omega
            clear hcy0
            go_upto_region 19 with fail
            have w4b : Below w4.heap.size w4 w4.drew := (Below.refl _ _).drew
            refine Zig.wp_region_zig [(false, 0), (false, 1), (false, 2), (false, 3), (false, 4), (false, 5), (false, 6), (false, 7), (false, 8), (false, 10), (false, 11), (false, 12), (false, 13), (false, 14), (true, 9), (true, 15), (false, 16), (true, 17)] (fun W => Below w4.heap.size w4 W) (by kernel_rfl) (by kernel_rfl) w4b ?_
            simp only [Zig.sel, List.drop_succ_cons, List.drop_zero]
            generalize World.drew w4 = w5 at *
            haveI : Nonempty (Zig.Lt (fun W => Below w4.heap.size w4 W)) := ⟨⟨w5, w4b⟩⟩
            have x0 := fun x : Zig.Lt (fun W => Below w4.heap.size w4 W) => cell_later x.2 hc0
            have x1 := fun x : Zig.Lt (fun W => Below w4.heap.size w4 W) => cell_later x.2 hc1
            repeat (refine Zig.zig_step (fun K hK => ?_); go_simp; refine hK _ ?_; clear hK K)
            refine Zig.zig_do rfl (fun K hK => ?_)
            unfold Oper.wp
            go_simp
            refine hK _ _ (w4b.trans ((below_new w5 _).mono w4b.size)) ?_
            clear hK K
            refine Zig.zig_do rfl (fun K hK => ?_)
            refine wp_appO w4.heap.size _ _ [xq] (q.drop 1) (by rw [List.length_drop, show q.length = 64 from H64]; simp) (OB.lit w4.heap.size w5 [xq] 1 rfl w4b.size (by simp)) ((Rd.below hsl w4b).below (below_new w5 _)) (Nat.le_trans w4b.size (le_new w5 _)) rfl rfl rfl ?_
            intro v6 w6 hO6 t6
            have b56 := (below_new w5 (.cells (bs [xq]).toArray 5)).trans (t6.below (below_new w5 _).size (fun k hk => by cases hk; exact Nat.le_refl _))
            have b46 := w4b.trans (b56.mono w4b.size)
            refine hK _ _ b46 ?_
            clear hK K t6
            have hl6 : ([xq] ++ q.drop 1).length = 64 := by rw [List.length_append, List.length_drop, show q.length = 64 from H64]; rfl
            obtain ⟨g6, c6, rfl, hg6, hg6', _⟩ := ob_shape hO6 hl6 (by decide)
            have hin6 : ∀ g, inBlock (.slice (some ⟨g6, 0, none⟩) 64 c6) g → g = g6 := fun g hin => by
              obtain ⟨a, n, c, e, rfl⟩ := hin
              simp only [Value.slice.injEq, Option.some.injEq] at e
              rw [← e.1]
            have n4 := b4.size
            obtain ⟨⟨z0, s1⟩, s2, s3, s4, s5⟩ := (hO4.below b46).set kk hkL hO6.rd (fun h => by have := hin6 _ h; omega) (fun g h => by have := hin6 _ h; omega)
            have b7 : Below w3.heap.size w3 _ := below_row (b4.trans (b46.mono n4)) s4 (Nat.le_trans n4 b46.size) hg4
            clear s4 s5 x0 x1 hc0 hc1 hr0 hi0 hO4
            refine Zig.zig_step (fun K hK => ?_); go_simp; refine hK _ ?_; clear hK K
            refine Zig.zig_end rfl (by kernel_rfl) (fun K hK => ?_)
            unfold Oper.wp
            go_simp
            refine hK _ _ ?_
            clear hK K
            refine Zig.zig_nil ?_
            generalize w6.setCell ⟨g4, kk, none⟩ (.slice (some ⟨g6, 0, none⟩) 64 c6) = w7 at *
            have hO7 := hO3.below b7
            have hb7 := hb3.trans (b7.mono hb3.size)
            clear s1 s2 hO6 b56 b46 w4b hsl
            go_upto_region 20 with fail
            go_wp2_with (at_builtin; go_loud (refine wp_want rfl fun K hK => ?_; refine wp_appLn w1.heap.size w3.heap.size _ _ ps.flatten (L.set kk ([xq] ++ q.drop 1)) (by rw [List.length_set, show L.length = l.length + 1 from Hlen]; omega) hO7 s3 hfar hb7.size rfl rfl rfl ?_))
            intro v8 w8 hO8 t8
            refine hK _ _ ?_
            clear hK K
            have hb8 := hb7.trans (t8.below hb7.size hO7.ge)
            go_wp2_with fail
            go_roundw
            case rel =>
              refine ⟨k + 1, ps ++ [L.set kk ([xq] ++ q.drop 1)], by omega, by go_num, by simp [show ps.length = k from Hps], hgrow l Ha.out Hl.out _ ⟨by rw [List.length_set]; exact Hlen, fun _ => Ht.out, fun e => absurd Hkb.out e⟩, ?_, hb8⟩
              rw [List.flatten_append]
              simpa using hO8
            case measure => simp only [intOf]; omega
          · have hkbI : ((k : Int) == (bad : Int)) = false := by rw [beq_eq_false_iff_ne]; omega
            go_upto_region 20 with fail
            go_wp2_with (at_builtin; go_loud (refine wp_want rfl fun K hK => ?_; refine wp_appLn w1.heap.size w3.heap.size _ _ ps.flatten L (by rw [show L.length = l.length + 1 from Hlen]; omega) hOl hO4 hfar hb4.size rfl rfl rfl ?_))
            intro v5 w5 hO5 t5
            refine hK _ _ ?_
            clear hK K
            have hb5 := hb4.trans (t5.below hb4.size hOl.ge)
            go_wp2_with fail
            go_roundw
            case rel =>
              refine ⟨k + 1, ps ++ [L], by omega, by go_num, by simp [show ps.length = k from Hps], hgrow l Ha.out Hl.out L ⟨Hlen, fun e => absurd e hkb, fun _ => HL⟩, ?_, hb5⟩
              rw [List.flatten_append]
              simpa using hO5
            case measure => simp only [intOf]; omega
        · rw [decide_eq_false ha]
          have W := W.trans (hb3.mono W.size)
          go_wp2_with fail
          go_ret
          exact ⟨rfl, W⟩
      · have hlI : ¬ (k : Int) < (ls.length : Int) := by omega
        have W := W.trans (hb.mono n1)
        have hv2 := hv1.below hb
        have hR := hO.rd
        have hkn : ps.length = ls.length := by omega
        have Hkn := Lib.hid hkn
        have Hall := Lib.hid hall
        have n2 := W.size
        clear hO hb hall hps hkn hv1 hv
        go_wp2_with fail
        clear hlI hk
        obtain ⟨wo, rfl⟩ : ∃ wo : World, wo = wr := ⟨_, rfl⟩
        go_loopw [11, 17, 18, 19, 20] (fun u i _ _ _ wq => ∃ m : Nat, m ≤ bad ∧ i = .int .i64 (m : Int) ∧ RdL wq u (ps.drop m).flatten ∧ Below wo.heap.size wo wq) (fun _ i _ _ _ _ => bad + 1 - (intOf i).toNat)
        case atStart => exact ⟨0, Nat.zero_le _, rfl, hR, Below.refl _ _⟩
        case round =>
          obtain ⟨m, hm, rfl, hRm, hbm⟩ := hrel
          have hmI : (m : Int) ≤ (ls.length : Int) := by omega
          have hm32 : IntKind.u32.wrap (m : Int) = (m : Int) := by rw [IntKind.wrap_u32]; omega
          by_cases hmb : m = bad
          · have hno : ¬ goodR label epoch m (ps.drop m).flatten := by
              by_cases hbl : bad < ls.length
              · have hbp : m < ps.length := by rw [show ps.length = ls.length from Hkn]; omega
                rw [List.drop_eq_getElem_cons hbp, List.flatten_cons]
                exact (Hall.out m (by omega) hbp).2.2.1 hmb _
              · rw [List.drop_of_length_le (by rw [show ps.length = ls.length from Hkn]; omega)]
                exact empty_not
            have hT := fun v w hv => recTake_any label epoch m v (ps.drop m).flatten w he (by omega) hv
            subst hmb
            go_wp2_with fail
            refine (hT _ _ hRm).mono ?_
            rintro e w5 ⟨⟨_, hno5⟩, b5⟩
            obtain rfl := hno5 hno
            have W := W.trans ((hbm.trans (b5.mono hbm.size)).mono n2)
            have hIb : ¬ (m : Int) < (m : Int) := by omega
            go_wp2_with fail
            go_ret
            exact ⟨rfl, W⟩
          · skip
            have hlt : m < ls.length := by omega
            have hmp : m < ps.length := by rw [show ps.length = ls.length from Hkn]; exact hlt
            obtain ⟨hokm, _, _, hpm⟩ := Hall.out m hlt hmp
            have hpm := hpm hmb
            have hw := hok _ (List.getElem_mem hlt)
            have hdrop := List.drop_eq_getElem_cons hmp
            obtain ⟨rest, hrest⟩ : ∃ r, r = (ps.drop (m + 1)).flatten := ⟨_, rfl⟩
            have hflat : (ps.drop m).flatten = recB label epoch m ls[m] ++ rest := by rw [hdrop, List.flatten_cons, hpm, hrest]
            rw [hflat] at hRm
            have g0 := good_own (label := label) (epoch := epoch) (seq := m) rest hokm hw
            have m0 := many_own (label := label) (epoch := epoch) (seq := m) rest hokm.2.2
            have r0 := readAll_own (label := label) (epoch := epoch) (seq := m) rest hokm hw
            obtain ⟨y, hcy, hry⟩ := hv2.elem m hlt
            have hcy := cell_later hbm hcy
            have hry := hry.below hbm
            have hLn : (recB label epoch m ls[m] ++ rest).length = ls[m].length + 1 + rest.length := by rw [List.length_append, recB_length]
            have hdr : (recB label epoch m ls[m] ++ rest).drop (ls[m].length + 1) = rest := by rw [← recB_length (label := label) (epoch := epoch) (seq := m), List.drop_left]
            have hl12 : ls[m].length ≤ 12 := hokm.2.2
            generalize recB label epoch m ls[m] ++ rest = LL at *
            generalize ls[m] = l at *
            obtain ⟨ay, cy, rfl, _⟩ := id hry
            have hT := fun v w hv => recTake_any label epoch m v LL w he (by omega) hv
            obtain ⟨al, cl, ev, hcl⟩ := hRm.shape (by omega)
            rw [hLn] at ev hcl
            subst ev
            have Hflat := Lib.hid (And.intro hflat (And.intro hpm (And.intro hdrop (And.intro hLn (And.intro hdr hrest)))))
            have M0 := Lib.hid m0
            have R0 := Lib.hid r0
            have HN := Lib.hid hmb
            clear hflat hpm hdrop hLn hdr hrest m0 r0 hmb
            go_wp2_with fail
            refine (hT _ _ hRm).mono ?_
            rintro e w5 ⟨⟨hy5, _⟩, b5⟩
            obtain ⟨u5, rfl, hO5⟩ := hy5 g0
            rw [show manyR LL = l.length from M0] at hO5 ⊢
            rw [show readAll LL l.length = l from R0] at hO5
            have hb5 := hbm.trans (b5.mono hbm.size)
            have hR5 : RdW w5 u5 l := RdS.of_own (fun x hx => wrC_length (hw x hx)) hO5
            have hRm := hRm.below b5
            have hcy := cell_later b5 hcy
            have hry := hry.below b5
            have hSW := sameW_any _ _ l l w5 hw hw hR5 hry
            rw [decide_eq_true rfl] at hSW
            have hmbI : (m : Int) < (bad : Int) := by have := HN.out; omega
            have hmlI : (m : Int) < (ls.length : Int) := by omega
            have hlI2 : ¬ ((l.length : Int) + 1 + (rest.length : Int) < (l.length : Int) + 1) := by omega
            have hneq : ((l.length : Int) + 1 != (l.length : Int) + 1) = false := by rw [bne_eq_false_iff_eq]
            go_wp2_with fail
            refine hSW.mono ?_
            rintro e w6 ⟨rfl, b6⟩
            have hb6 := hb5.trans (b6.mono hb5.size)
            have hRm := hRm.below b6
            have hcy := cell_later b6 hcy
            have hLdrop := hRm.drop (l.length + 1) (by rw [Hflat.out.2.2.2.1]; omega)
            rw [Hflat.out.2.2.2.2.1, Hflat.out.2.2.2.1] at hLdrop
            have hb31 : l.length + 1 ≤ cl := by omega
            have hb32 : (l.length : Int) + 1 ≤ (cl : Int) := by omega
            have hb33 : l.length + 1 ≤ l.length + 1 + rest.length := by omega
            have hb34 : (l.length : Int) + 1 ≤ (l.length : Int) + 1 + (rest.length : Int) := by omega
            have hsub : l.length + 1 + rest.length - (l.length + 1) = rest.length := by omega
            clear hSW hT hR5 hO5 hRm
            unfold sliced at hLdrop
            rw [Option.map_some, Nat.mul_one, Addr.add_succ', Nat.add_sub_cancel_left] at hLdrop
            go_wp2_with fail
            refine ⟨⟨m + 1, by have := HN.out; omega, by go_num, ?_, hb6⟩, by simp only [intOf]; omega⟩
            rw [← Hflat.out.2.2.2.2.2]
            exact hLdrop

theorem recRow_row (n0 n1 n3 n4 : Int) (v : Value) (ls : List (List Wr)) (W : World) (wf0 : (Lit.int .u8 n0).wf = true) (wf1 : (Lit.int .u32 n1).wf = true) (wf3 : (Lit.int .u8 n3).wf = true) (wf4 : (Lit.int .u8 n4).wf = true) (hok : ∀ l ∈ ls, ∀ x ∈ l, WrOk x) (hv : RdWs W v ls) :
    Calls Try.prog 14 #[.int .u8 n0, .int .u32 n1, v, .int .u8 n3, .int .u8 n4] W fun e w' => e = .returned (.bool true) ∧ Below W.heap.size W w' := by
  obtain ⟨b0, rfl⟩ := wf_u8 wf0
  obtain ⟨b3, rfl⟩ := wf_u8 wf3
  obtain ⟨b4, rfl⟩ := wf_u8 wf4
  obtain ⟨k1, rfl, h1⟩ := wf_u32 wf1
  exact recRow_law b0 b3 b4 k1 v ls W h1 hok hv
end Go.Proofs.Ytgeiafijibgdhaa.Cl
