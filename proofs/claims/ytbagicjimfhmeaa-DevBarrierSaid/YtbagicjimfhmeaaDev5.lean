/- dev: Write. -/
import Derived.Test.YtbagicjimfhmeaaDev4
import Derived.Test.YtbagicjimfhmeaaZig
import Derived.Test.YtbagicjimfhmeaaBlock
set_option linter.unusedVariables false
set_option linter.unusedSimpArgs false
namespace Go.Proofs.Ytbagicjimfhmeaa.Cl
open Go Go.Proofs Go.RowKit Fl

theorem write_stop {w : World} {gd : Nat} {F : Nat → Prop} {D : Dv} (h : DevRep w gd F D) (r i : Nat) (hr : r < D.1.length) (hi : i < D.1[r].seen.length) (a : Option Addr) (c : Nat) (h0 : D.2 = 0) :
    Calls Try.prog 16 #[ptr gd, .int .i64 r, .int .i64 i, .slice a 64 c] w fun e w' => e = .returned (.bool true) ∧ w = w' := by
  obtain ⟨vl, rs, h, _⟩ := h
  have hr2 : r < rs.length := by have := h.len; omega
  have hof := of_yes h r i hr2 hr hi
  have c1 := h.left
  rw [h0] at c1
  generalize rs[r].g = gr at *
  clear h hr2 hr hi h0
  go_enter Try.func16, Try.ntmps16
  go_wp2_with fail
  refine hof.mono ?_
  rintro e w1 ⟨rfl, rfl⟩
  go_wp2_with fail
  go_ret
  exact ⟨rfl, rfl⟩
theorem write_no {w : World} {gd : Nat} {F : Nat → Prop} {D : Dv} (h : DevRep w gd F D) (r i : Int) (a : Option Addr) (n c : Nat) (hn : ¬ inD D r i) :
    Calls Try.prog 16 #[ptr gd, .int .i64 r, .int .i64 i, .slice a n c] w fun e w' => e = .returned (.bool false) ∧ w = w' := by
  obtain ⟨vl, rs, h, _⟩ := h
  have hof := of_no h r i hn
  clear h hn
  go_enter Try.func16, Try.ntmps16
  go_wp2_with fail
  refine hof.mono ?_
  rintro e w1 ⟨rfl, rfl⟩
  go_wp2_with fail
  go_ret
  exact ⟨rfl, rfl⟩
theorem write_len {w : World} {gd : Nat} {F : Nat → Prop} {D : Dv} (h : DevRep w gd F D) (r i : Nat) (hr : r < D.1.length) (hi : i < D.1[r].seen.length) (a : Option Addr) (n c : Nat) (h64 : n ≠ 64) :
    Calls Try.prog 16 #[ptr gd, .int .i64 r, .int .i64 i, .slice a n c] w fun e w' => e = .returned (.bool false) ∧ w = w' := by
  obtain ⟨vl, rs, h, _⟩ := h
  have hr2 : r < rs.length := by have := h.len; omega
  have hof := of_yes h r i hr2 hr hi
  have hne : ((n : Int) != 64) = true := by rw [bne_iff_ne]; omega
  generalize rs[r].g = gr at *
  clear h hr2 hr hi h64
  go_enter Try.func16, Try.ntmps16
  go_wp2_with fail
  refine hof.mono ?_
  rintro e w1 ⟨rfl, rfl⟩
  go_wp2_with fail
  go_ret
  exact ⟨rfl, rfl⟩
theorem write_nil (r i : Int) (a : Option Addr) (n c : Nat) (w : World) :
    Calls Try.prog 16 #[.pointer none, .int .i64 r, .int .i64 i, .slice a n c] w fun e w' => e = .returned (.bool false) ∧ w = w' := by
  have hof := of_nil r i w
  go_enter Try.func16, Try.ntmps16
  go_wp2_with fail
  refine hof.mono ?_
  rintro e w1 ⟨rfl, rfl⟩
  go_wp2_with fail
  go_ret
  exact ⟨rfl, rfl⟩

def traceB (i : Nat) (b : List UInt8) : List UInt8 := be 2 i ++ b
theorem Rd.of_own1 {w : World} {B e s n : Nat} {v : Value} {xs : List Value} (h : w.ownsRow B e s v n xs) : ∃ a c, v = .slice a n c ∧ True := by
  rcases h.2 with ⟨rfl, rfl⟩ | ⟨g, cap, cur, rfl, _⟩
  · exact ⟨_, _, rfl, trivial⟩
  · exact ⟨_, _, rfl, trivial⟩
def writeR (R : Rg) (i : Nat) (b : List UInt8) : Rg := ⟨R.seen.set i b, R.sure, R.later ++ [(i, b)], R.trace ++ [traceB i b]⟩
def writeD (D : Dv) (r i : Nat) (b : List UInt8) : Dv := match D.1[r]? with
  | none => D
  | some R => if D.2 = 0 then D else (D.1.set r (writeR R i b), if 0 < D.2 then D.2 - 1 else D.2)
/-- 'append(later, write)' -/
theorem wp_appW {w : World} {o : Oper} {a : Act} {K : Act → World → Prop} {Q : Exit → Act → World → Prop} (v : Value) (L : List (Nat × List UInt8)) (i : Nat) (u : Value) (b : List UInt8) {s x : Operand} (g : Nat) (hl : L.length ≤ 100000)
    (hown : LL w v L) (hu : Byt w u b) (c0 : w.cell? ⟨g, 0, none⟩ = some (.int .i64 i)) (c1 : w.cell? ⟨g, 1, none⟩ = some u)
    (ho : o.op = .call { callee := .builtin .append, args := #[s, x], argTypes := #[80, 80] })
    (hs : a.eval s = v) (hx : a.eval x = .slice (some ⟨g, 0, none⟩) 1 1)
    (h : ∀ v' w', LL w' v' (L ++ [(i, b)]) → Onto w v w' v' → K (a.put o.dst v') w') : o.wp Try.prog a w K Q := by
  obtain ⟨i5, hi5, hz5, hs5, hb5⟩ := info_parts infoWrD
  have hnB := hown.notB
  obtain ⟨sl, h1, h2, h3⟩ := hown
  refine wp_append_onto 0 86 i5 (.agg #[.int .i64 0, .slice none 0 0]) 2 32 Try.underlying80 hi5 hz5 hs5 hb5 rfl (by decide) v sl.length _ ⟨g, 0, none⟩ 1 1 [.int .i64 i, u] rfl (fun y hy => ?_) (by unfold maxLen; omega) (by omega) ho hs hx h1 (fun j y hj => ?_) (Nat.zero_le _) fun v' w' k1 k2 => h v' w' ⟨sl ++ [((i : Int), u)], ?_, by simp [h2], fun j hj hj' => ?_⟩ k2
  · rcases List.mem_cons.1 hy with rfl | hy
    · rfl
    · rw [List.mem_singleton.1 hy]; exact hu.one
  · rw [Addr.add_lit, Nat.zero_add]
    match j, hj with
    | 0, hj => obtain rfl := Option.some.inj hj; exact c0
    | 1, hj => obtain rfl := Option.some.inj hj; exact c1
  · rw [List.length_append, List.flatMap_append]
    exact k1
  · have k8 : Keep8 w w' := Keep8.of_grown k2.1 hnB
    by_cases hjl : j < sl.length
    · have e1 : (sl ++ [((i : Int), u)])[j] = sl[j] := List.getElem_append_left hjl
      have e2 : (L ++ [(i, b)])[j] = L[j]'(by omega) := List.getElem_append_left (by omega)
      rw [e1, e2]
      exact ⟨(h3 j hjl (by omega)).1, (h3 j hjl (by omega)).2.keep k8⟩
    · have hje : j = sl.length := by simp at hj; omega
      have e1 : (sl ++ [((i : Int), u)])[j] = ((i : Int), u) := by subst hje; simp
      have e2 : (L ++ [(i, b)])[j] = (i, b) := by
        have : j = L.length := by omega
        subst this
        simp
      rw [e1, e2]
      exact ⟨rfl, hu.keep k8⟩
/-- 'append(texts, text)' -/
theorem wp_appT {w : World} {o : Oper} {a : Act} {K : Act → World → Prop} {Q : Exit → Act → World → Prop} (B : Nat) (v : Value) (L : List (List UInt8)) (u : Value) (b : List UInt8) {s x : Operand} (g : Nat) (hl : L.length ≤ 100000) (hB : B ≤ w.heap.size)
    (hown : TL w B v L) (hu : Byt w u b) (c0 : w.cell? ⟨g, 0, none⟩ = some u)
    (ho : o.op = .call { callee := .builtin .append, args := #[s, x], argTypes := #[23, 23] })
    (hs : a.eval s = v) (hx : a.eval x = .slice (some ⟨g, 0, none⟩) 1 1)
    (h : ∀ v' w', TL w' B v' (L ++ [b]) → Onto w v w' v' → K (a.put o.dst v') w') : o.wp Try.prog a w K Q := by
  obtain ⟨i5, hi5, hz5, hs5, hb5⟩ := info_parts infoSlD
  have hnB := hown.notB
  obtain ⟨sl, h1, h2, h3⟩ := hown
  refine wp_append_onto B 34 i5 (.slice none 0 0) 1 24 Try.underlying23 hi5 hz5 hs5 hb5 rfl (by decide) v sl.length sl ⟨g, 0, none⟩ 1 1 [u] rfl (fun y hy => ?_) (by unfold maxLen; omega) (by omega) ho hs hx h1 (fun j y hj => ?_) hB fun v' w' k1 k2 => h v' w' ⟨sl ++ [u], ?_, by simp [h2], fun j hj hj' => ?_⟩ k2
  · rw [List.mem_singleton.1 hy]; exact hu.one
  · rw [Addr.add_lit, Nat.zero_add]
    match j, hj with
    | 0, hj => obtain rfl := Option.some.inj hj; exact c0
  · rw [List.length_append]
    exact k1
  · have k8 : Keep8 w w' := Keep8.of_grown k2.1 hnB
    by_cases hjl : j < sl.length
    · have e1 : (sl ++ [u])[j] = sl[j] := List.getElem_append_left hjl
      have e2 : (L ++ [b])[j] = L[j]'(by omega) := List.getElem_append_left (by omega)
      rw [e1, e2]
      exact (h3 j hjl (by omega)).keep k8
    · have hje : j = sl.length := by simp at hj; omega
      have e1 : (sl ++ [u])[j] = u := by subst hje; simp
      have e2 : (L ++ [b])[j] = b := by
        have : j = L.length := by omega
        subst this
        simp
      rw [e1, e2]
      exact hu.keep k8
/-- bytes that outlast a device's steps -/
def Lasts (F : Nat → Prop) (w : World) (v : Value) (b : List UInt8) : Prop := ∀ w' F', Step F w w' F' → Rd w' v (bs b)
theorem Lasts.rd {F : Nat → Prop} {w : World} {v : Value} {b : List UInt8} (h : Lasts F w v b) : Rd w v (bs b) := h w F (Step.refl _ _)
theorem Lasts.step {F F' : Nat → Prop} {w w' : World} {v : Value} {b : List UInt8} (h : Lasts F w v b) (k : Step F w w' F') : Lasts F' w' v b := fun w2 F2 h2 => h w2 F2 (k.trans h2)
theorem Byt.lasts {w : World} {v : Value} {b : List UInt8} (F : Nat → Prop) (h : Byt w v b) : Lasts F w v b := fun w' F' k => (h.keep k.2.1).rd
theorem trace2 (i : Nat) (hi : i < 65536) : (#[Value.int .u8 ((i : Int) / 256), .int .u8 ((i : Int) % 256)] : Array Value) = (bs (be 2 i)).toArray := by
  apply Array.ext'
  simp only [be, bs, List.map_cons, List.map_nil]
  refine cons_u8 ?_ (cons_u8 ?_ rfl) <;> (rw [UInt8.toNat_ofNat']; omega)
set_option maxRecDepth 100000 in
set_option maxHeartbeats 4000000 in
theorem write_yes {w : World} {gd : Nat} {F : Nat → Prop} {D : Dv} (h : DevRep w gd F D) (r i : Nat) (hr : r < D.1.length) (hi : i < D.1[r].seen.length) (hi2 : i < 65536) (a0 : Option Addr) (c0 : Nat) (b : List UInt8) (hb : b.length = 64) (hv : Lasts F w (.slice a0 64 c0) b)
    (hL : D.1[r].later.length ≤ 100000) (hT : D.1[r].trace.length ≤ 100000) (h0 : D.2 ≠ 0) (hb0 : -9223372036854775808 ≤ D.2) (hb1 : D.2 ≤ 9223372036854775807) :
    Calls Try.prog 16 #[ptr gd, .int .i64 r, .int .i64 i, .slice a0 64 c0] w fun e w' => e = .returned (.bool true) ∧ ∃ F', DevRep w' gd F' (writeD D r i b) ∧ Step F w w' F' := by
  obtain ⟨vl, rs, h, hF⟩ := h
  have hr2 : r < rs.length := by have := h.len; omega
  have hof := of_yes h r i hr2 hr hi
  have c1 := h.left
  have hwd : writeD D r i b = (D.1.set r (writeR D.1[r] i b), if 0 < D.2 then D.2 - 1 else D.2) := by
    unfold writeD
    rw [List.getElem?_eq_getElem hr]
    simp only
    rw [if_neg h0]
  have Hwd := Lib.hid hwd
  clear hwd
  have h01 : (D.2 == 0) = false := beq_eq_false_iff_ne.2 h0
  have hgd : F gd := hF gd (.inl rfl)
  by_cases hpos : 0 < D.2
  · obtain ⟨H1, S1, f1⟩ := h.setLeft (D.2 - 1)
    have S1 : Step F w (w.setCell ⟨gd, 1, none⟩ (.int .i64 (D.2 - 1))) F := ⟨S1.1.mono fun k _ e => e ▸ hgd, S1.2.1, fun k hk => .inl hk⟩
    rw [if_pos hpos] at Hwd
    go_enter Try.func16, Try.ntmps16
    go_wp2_with fail
    refine hof.mono ?_
    rintro e w1 ⟨rfl, rfl⟩
    go_upto_region 8 with fail
    obtain ⟨W1, hW1⟩ : ∃ W, W = w.setCell ⟨gd, 1, none⟩ (.int .i64 (D.2 - 1)) := ⟨_, rfl⟩
    have S0 : Step F w W1 F := by rw [hW1]; exact S1
    rw [← hW1] at H1 ⊢
    clear S1
    have S1 := S0
    clear S0
    clear hW1 h hof c1 h01 hpos f1
    have R1 : RgAt W1 rs[r] D.1[r] := H1.rg r hr2 hr
    have upd := fun (w' : World) a' R' => H1.upd (w' := w') r hr2 a' R'
    obtain ⟨R, hR⟩ : ∃ R, R = D.1[r] := ⟨_, rfl⟩
    obtain ⟨a, ha⟩ : ∃ a, a = rs[r] := ⟨_, rfl⟩
    rw [← hR] at R1 hi hL hT Hwd
    rw [← ha] at R1 upd ⊢
    have Fa : ∀ k, Blk a k → F k := fun k hk => hF k (.inr (.inr ⟨_, List.getElem_mem hr2, ha ▸ hk⟩))
    clear hR ha
    have hv1 := hv.step S1
    obtain ⟨gs, cs, es, _, _, k1, k2⟩ := R1.seen.shape (by omega)
    have cs0 := R1.cs
    rw [es] at cs0
    have T1 := R1.seen
    rw [es] at T1
    obtain ⟨u0, hu0, _⟩ := T1.at_ i hi
    have hiI : (i : Int) < (R.seen.length : Int) := by omega
    clear T1
    have hcl := fun w h => clone8_any (.slice a0 64 c0) b w h (by omega) (by omega)
    have hdr : Below W1.heap.size W1 W1.drew := (Below.refl _ _).drew
    have SS : W1.drew.cell? ⟨a.g, 0, none⟩ = some (.slice (some ⟨gs, 0, none⟩) R.seen.length cs) ∧ W1.drew.cell? ⟨gs, i, none⟩ = some u0 := ⟨cell_later hdr cs0, cell_later hdr hu0⟩
    refine Zig.wp_region_zig [(false, 0), (false, 1), (false, 2), (false, 3), (false, 4), (false, 5), (true, 6), (false, 7), (true, 8)] (fun W => W.cell? ⟨a.g, 0, none⟩ = some (.slice (some ⟨gs, 0, none⟩) R.seen.length cs) ∧ W.cell? ⟨gs, i, none⟩ = some u0) (by kernel_rfl) (by kernel_rfl) SS ?_
    simp only [Zig.sel, List.drop_succ_cons, List.drop_zero]
    generalize World.drew W1 = W2 at *
    haveI : Nonempty (Zig.Lt (fun W => W.cell? ⟨a.g, 0, none⟩ = some (.slice (some ⟨gs, 0, none⟩) R.seen.length cs) ∧ W.cell? ⟨gs, i, none⟩ = some u0)) := ⟨⟨W2, SS⟩⟩
    have x0 := fun x : Zig.Lt (fun W => W.cell? ⟨a.g, 0, none⟩ = some (.slice (some ⟨gs, 0, none⟩) R.seen.length cs) ∧ W.cell? ⟨gs, i, none⟩ = some u0) => x.2.1
    repeat (refine Zig.zig_step (fun K hK => ?_); go_simp; refine hK _ ?_; clear hK K)
    refine Zig.zig_do rfl (fun K hK => ?_)
    unfold Oper.wp
    go_simp
    refine (hcl _ (hv1 _ _ (Step.of_below (F := F) hdr))).mono ?_
    rintro e W3 ⟨u3, rfl, o3, b3⟩
    have bb : Below W1.heap.size W1 W3 := hdr.trans (b3.mono hdr.size)
    refine hK _ _ ⟨cell_later b3 SS.1, cell_later b3 SS.2⟩ ?_
    clear hK K
    repeat (refine Zig.zig_step (fun K hK => ?_); go_simp; refine hK _ ?_; clear hK K)
    have y3 := Byt.of_OB o3
    obtain ⟨R4, S4, f4⟩ := (R1.below bb).setOne i hi u3 b y3 es
    have s4 := (RS.below a bb).trans S4
    have q4 : W3.cell? ⟨gs, i, none⟩ = some u0 := cell_later bb hu0
    obtain ⟨a3, n3, c3, e3⟩ : ∃ a n c, u3 = .slice a n c := by obtain ⟨a3, c3, e3, _⟩ := y3.rd; exact ⟨_, _, _, e3⟩
    subst e3
    refine Zig.zig_end rfl (by kernel_rfl) (fun K hK => ?_)
    unfold Oper.wp
    go_simp
    refine hK _ _ ?_
    clear hK K
    refine Zig.zig_nil ?_
    generalize World.setCell W3 ⟨gs, i, none⟩ _ = W4 at *
    clear x0 SS q4 f4 S4 hu0 cs0 hcl hdr R1 bb b3 o3 y3
    have hv4 : Lasts (fun k => F k ∨ W1.heap.size ≤ k) W4 (.slice a0 64 c0) b := hv1.step ⟨s4.frm.mono fun k _ e => Fa k e, s4.k8, fun k e => e⟩
    have T4 := R4.seen
    simp only at T4
    have es4 : a.vs = .slice (some ⟨gs, 0, none⟩) R.seen.length cs := es
    rw [es] at T4
    obtain ⟨u4, hu4, y4⟩ := T4.at_ i (by rw [List.length_set]; exact hi)
    rw [List.getElem_set_self] at y4
    obtain ⟨a4, n4, c4, e4⟩ : ∃ a n c, u4 = .slice a n c := by obtain ⟨a3, c3, e3, _⟩ := y4.rd; exact ⟨_, _, _, e3⟩
    subst e4
    have cs4 := R4.cs
    rw [es] at cs4
    have cl4 := R4.cl
    clear T4
    go_upto_region 9 with fail
    have hdr : Below W4.heap.size W4 W4.drew := (Below.refl _ _).drew
    have R5 := R4.below hdr
    have SS : W4.drew.cell? ⟨a.g, 0, none⟩ = some (.slice (some ⟨gs, 0, none⟩) R.seen.length cs) ∧ W4.drew.cell? ⟨gs, i, none⟩ = some (.slice a4 n4 c4) ∧ W4.drew.cell? ⟨a.g, 2, none⟩ = some a.vl := ⟨cell_later hdr cs4, cell_later hdr hu4, cell_later hdr cl4⟩
    refine Zig.wp_region_zig [(false, 0), (false, 1), (false, 2), (false, 3), (false, 4), (false, 5), (false, 6), (false, 7), (false, 8), (false, 9), (false, 10), (false, 11), (false, 12), (false, 13), (true, 14), (true, 15), (false, 16), (false, 17), (true, 18)] (fun W => W.cell? ⟨a.g, 0, none⟩ = some (.slice (some ⟨gs, 0, none⟩) R.seen.length cs) ∧ W.cell? ⟨gs, i, none⟩ = some (.slice a4 n4 c4) ∧ W.cell? ⟨a.g, 2, none⟩ = some a.vl) (by kernel_rfl) (by kernel_rfl) SS ?_
    simp only [Zig.sel, List.drop_succ_cons, List.drop_zero]
    generalize World.drew W4 = W5 at *
    haveI : Nonempty (Zig.Lt (fun W => W.cell? ⟨a.g, 0, none⟩ = some (.slice (some ⟨gs, 0, none⟩) R.seen.length cs) ∧ W.cell? ⟨gs, i, none⟩ = some (.slice a4 n4 c4) ∧ W.cell? ⟨a.g, 2, none⟩ = some a.vl)) := ⟨⟨W5, SS⟩⟩
    have x0 := fun x : Zig.Lt (fun W => W.cell? ⟨a.g, 0, none⟩ = some (.slice (some ⟨gs, 0, none⟩) R.seen.length cs) ∧ W.cell? ⟨gs, i, none⟩ = some (.slice a4 n4 c4) ∧ W.cell? ⟨a.g, 2, none⟩ = some a.vl) => x.2.1
    have x1 := fun x : Zig.Lt (fun W => W.cell? ⟨a.g, 0, none⟩ = some (.slice (some ⟨gs, 0, none⟩) R.seen.length cs) ∧ W.cell? ⟨gs, i, none⟩ = some (.slice a4 n4 c4) ∧ W.cell? ⟨a.g, 2, none⟩ = some a.vl) => x.2.2.1
    have x2 := fun x : Zig.Lt (fun W => W.cell? ⟨a.g, 0, none⟩ = some (.slice (some ⟨gs, 0, none⟩) R.seen.length cs) ∧ W.cell? ⟨gs, i, none⟩ = some (.slice a4 n4 c4) ∧ W.cell? ⟨a.g, 2, none⟩ = some a.vl) => x.2.2.2
    repeat (refine Zig.zig_step (fun K hK => ?_); go_simp; refine hK _ ?_; clear hK K)
    refine Zig.zig_do rfl (fun K hK => ?_)
    unfold Oper.wp
    go_simp
    generalize hW6 : World.alloc W5 _ = W6
    have b6 : Below W5.heap.size W5 W6 := by rw [← hW6]; exact below_new _ _
    have d0 : W6.cell? ⟨W5.heap.size, 0, none⟩ = some (.int .i64 (i : Int)) := by rw [← hW6]; exact (RowAt.new W5 _ _).cell 0 _ rfl
    have d1 : W6.cell? ⟨W5.heap.size, 1, none⟩ = some (.slice a4 n4 c4) := by rw [← hW6]; exact (RowAt.new W5 _ _).cell 1 _ rfl
    have bb : Below W4.heap.size W4 W6 := hdr.trans (b6.mono hdr.size)
    clear hW6
    have R6 := R4.below bb
    have y6 := y4.below bb
    refine hK _ _ ⟨R6.cs.trans (congrArg some es), cell_later bb hu4, R6.cl⟩ ?_
    clear hK K
    refine Zig.zig_do rfl (fun K hK => ?_)
    refine wp_appW a.vl R.later i _ b W5.heap.size hL R6.later y6 d0 d1 rfl rfl rfl ?_
    intro v7 W7 l7 t7
    obtain ⟨R8, S8, q8, f8⟩ := R6.setLater v7 _ t7.frm t7.2 l7
    have n7 : ¬ a.vl.ownBlock = some a.g := R6.gNe.2.2.1
    have n7' : ¬ a.vl.ownBlock = some gs := fun e => R6.lNe.1 gs e (by rw [es]; rfl)
    refine hK _ _ ⟨(t7.cell (R6.cs.trans (congrArg some es)) n7), t7.cell (cell_later bb hu4) n7', q8⟩ ?_
    clear hK K
    repeat (refine Zig.zig_step (fun K hK => ?_); go_simp; refine hK _ ?_; clear hK K)
    obtain ⟨a7, m7, c7, e7⟩ : ∃ a n c, v7 = .slice a n c := by
      obtain ⟨sl, h1, _⟩ := l7
      obtain ⟨a7, c7, e7, _⟩ := Rd.of_own1 h1
      exact ⟨_, _, _, e7⟩
    subst e7
    refine Zig.zig_end rfl (by kernel_rfl) (fun K hK => ?_)
    unfold Oper.wp
    go_simp
    refine hK _ _ ?_
    clear hK K
    refine Zig.zig_nil ?_
    have s8 := s4.trans ((RS.below a bb).trans S8)
    generalize World.setCell W7 ⟨a.g, 2, none⟩ _ = W8 at *
    clear x0 x1 x2 SS q8 f8 S8 hu4 cs4 cl4 hdr R4 R5 R6 y4 y6 bb b6 d0 d1 l7 t7 n7 n7'
    have R8 : RgAt W8 { a with vl := Value.slice a7 m7 c7 } ⟨R.seen.set i b, R.sure, R.later ++ [(i, b)], R.trace⟩ := R8
    go_upto_region 10 with fail
    have hv8 : Lasts (fun k => F k ∨ W1.heap.size ≤ k) W8 (.slice a0 64 c0) b := hv1.step ⟨s8.frm.mono fun k _ e => Fa k e, s8.k8, fun k e => e⟩
    have hdr : Below W8.heap.size W8 W8.drew := (Below.refl _ _).drew
    have ct8 : W8.cell? ⟨a.g, 3, none⟩ = some a.vt := R8.ct
    have SS : W8.drew.cell? ⟨a.g, 3, none⟩ = some a.vt := cell_later hdr ct8
    have e1 : IntKind.u8.wrap ((i : Int) / 256) = (i : Int) / 256 := by rw [IntKind.wrap_u8]; omega
    have e2 : IntKind.u8.wrap (i : Int) = (i : Int) % 256 := IntKind.wrap_u8 _
    refine Zig.wp_region_zig [(false, 0), (false, 1), (false, 2), (false, 3), (false, 4), (false, 5), (false, 6), (false, 7), (false, 8), (false, 9), (false, 11), (true, 10), (true, 12), (true, 13), (true, 14), (true, 15), (false, 16), (false, 17), (true, 18)] (fun W => W.cell? ⟨a.g, 3, none⟩ = some a.vt) (by kernel_rfl) (by kernel_rfl) SS ?_
    simp only [Zig.sel, List.drop_succ_cons, List.drop_zero]
    generalize World.drew W8 = W9 at *
    haveI : Nonempty (Zig.Lt (fun W => W.cell? ⟨a.g, 3, none⟩ = some a.vt)) := ⟨⟨W9, SS⟩⟩
    have x0 := fun x : Zig.Lt (fun W => W.cell? ⟨a.g, 3, none⟩ = some a.vt) => x.2
    repeat (refine Zig.zig_step (fun K hK => ?_); go_simp; refine hK _ ?_; clear hK K)
    refine Zig.zig_do rfl (fun K hK => ?_)
    unfold Oper.wp
    go_simp
    generalize hWa : World.alloc W9 _ = Wa
    have ba : Below W9.heap.size W9 Wa := by rw [← hWa]; exact below_new _ _
    have ra : Rd Wa (.slice (some ⟨W9.heap.size, 0, none⟩) 2 2) (bs (be 2 i)) := by
      rw [← hWa, trace2 i hi2]
      exact Rd.new W9 (bs (be 2 i)).toArray 5 (0, 0) 2 (by rw [List.size_toArray, bs_length, be_length]) (by rw [List.size_toArray, bs_length, be_length]; decide)
    have bba : Below W8.heap.size W8 Wa := hdr.trans (ba.mono hdr.size)
    clear hWa
    refine hK _ _ (cell_later bba ct8) ?_
    clear hK K
    refine Zig.zig_do rfl (fun K hK => ?_)
    unfold Oper.wp
    go_simp
    generalize hWb : World.alloc Wa _ = Wb
    have bb' : Below Wa.heap.size Wa Wb := by rw [← hWb]; exact below_new _ _
    have d0 : Wb.cell? ⟨Wa.heap.size, 0, none⟩ = some (.slice (some ⟨W9.heap.size, 0, none⟩) 2 2) := by rw [← hWb]; exact (RowAt.new Wa _ _).cell 0 _ rfl
    have d1 : Wb.cell? ⟨Wa.heap.size, 1, none⟩ = some (.slice a0 64 c0) := by rw [← hWb]; exact (RowAt.new Wa _ _).cell 1 _ rfl
    have bbb : Below W8.heap.size W8 Wb := bba.trans (bb'.mono bba.size)
    clear hWb
    have rb : Rd Wb (.slice a0 64 c0) (bs b) := hv8 _ _ (Step.of_below (F := fun k => F k ∨ W1.heap.size ≤ k) bbb)
    refine hK _ _ (cell_later bbb ct8) ?_
    clear hK K
    refine Zig.zig_do rfl (fun K hK => ?_)
    unfold Oper.wp
    go_simp
    refine (concat_any Wa.heap.size _ _ (be 2 i) b Wb d0 d1 (ra.below bb') rb (by omega) (by rw [be_length]; omega)).mono ?_
    rintro e Wc ⟨uc, rfl, oc, bc⟩
    have bbc : Below W8.heap.size W8 Wc := bbb.trans (bc.mono bbb.size)
    have yc : Byt Wc uc (traceB i b) := Byt.of_OB oc
    obtain ⟨ac, nc, cc, ec⟩ : ∃ a n c, uc = .slice a n c := by obtain ⟨a3, c3, e3, _⟩ := yc.rd; exact ⟨_, _, _, e3⟩
    subst ec
    refine hK _ _ (cell_later bbc ct8) ?_
    clear hK K
    refine Zig.zig_do rfl (fun K hK => ?_)
    unfold Oper.wp
    go_simp
    generalize hWd : World.alloc Wc _ = Wd
    have bd : Below Wc.heap.size Wc Wd := by rw [← hWd]; exact below_new _ _
    have dd : Wd.cell? ⟨Wc.heap.size, 0, none⟩ = some (.slice ac nc cc) := by rw [← hWd]; exact (RowAt.new Wc _ _).cell 0 _ rfl
    have bbd : Below W8.heap.size W8 Wd := bbc.trans (bd.mono bbc.size)
    clear hWd
    have Rd8 := R8.below bbd
    have yd := yc.below bd
    refine hK _ _ (cell_later bbd ct8) ?_
    clear hK K
    refine Zig.zig_do rfl (fun K hK => ?_)
    refine wp_appT 0 a.vt R.trace _ _ Wc.heap.size hT (Nat.zero_le _) Rd8.trace yd dd rfl rfl rfl ?_
    intro ve We le te
    obtain ⟨Rf, Sf, qf, ff⟩ := Rd8.setTrace ve _ te.frm te.2 le
    refine hK _ _ qf ?_
    clear hK K
    repeat (refine Zig.zig_step (fun K hK => ?_); go_simp; refine hK _ ?_; clear hK K)
    obtain ⟨ae, me, ce, ee⟩ : ∃ a n c, ve = .slice a n c := by
      obtain ⟨sl, h1, _⟩ := le
      obtain ⟨a7, c7, e7, _⟩ := Rd.of_own1 h1
      exact ⟨_, _, _, e7⟩
    subst ee
    refine Zig.zig_end rfl (by kernel_rfl) (fun K hK => ?_)
    unfold Oper.wp
    go_simp
    refine hK _ _ ?_
    clear hK K
    refine Zig.zig_nil ?_
    have sf := s8.trans ((RS.below _ bbd).trans Sf)
    obtain ⟨Hf, Ff⟩ := upd _ _ _ sf Rf
    generalize World.setCell We ⟨a.g, 3, none⟩ _ = Wf at *
    clear x0 SS qf ff
    go_wp2_with fail
    go_ret
    have HD : DevRep Wf gd (fun k => F k ∨ W1.heap.size ≤ k) (writeD D r i b) := by
      rw [Hwd.out]
      refine ⟨vl, _, Hf, fun k hk => ?_⟩
      rcases Ff k hk with e | e
      · exact .inl (hF k e)
      · exact .inr e
    refine ⟨rfl, fun k => F k ∨ W1.heap.size ≤ k, HD, ?_⟩
    · refine ⟨(S1.1.step sf.frm fun j _ e => Fa j e), S1.2.1.trans sf.k8, fun k hk => ?_⟩
      rcases hk with e | e
      · exact .inl e
      · exact .inr (Nat.le_trans S1.size e)
  · have hneg : ¬ 0 < D.2 := hpos
    have f1 : True := trivial
    have H1 : DR w gd vl rs (D.1, D.2) := h
    have S1 := Step.refl F w
    rw [if_neg hpos] at Hwd
    go_enter Try.func16, Try.ntmps16
    go_wp2_with fail
    refine hof.mono ?_
    rintro e w1 ⟨rfl, rfl⟩
    go_upto_region 8 with fail
    obtain ⟨W1, hW1⟩ : ∃ W, W = w := ⟨_, rfl⟩
    have S0 : Step F w W1 F := by rw [hW1]; exact S1
    rw [← hW1] at H1 ⊢
    clear S1
    have S1 := S0
    clear S0
    clear hW1 h hof c1 h01 hpos f1
    have R1 : RgAt W1 rs[r] D.1[r] := H1.rg r hr2 hr
    have upd := fun (w' : World) a' R' => H1.upd (w' := w') r hr2 a' R'
    obtain ⟨R, hR⟩ : ∃ R, R = D.1[r] := ⟨_, rfl⟩
    obtain ⟨a, ha⟩ : ∃ a, a = rs[r] := ⟨_, rfl⟩
    rw [← hR] at R1 hi hL hT Hwd
    rw [← ha] at R1 upd ⊢
    have Fa : ∀ k, Blk a k → F k := fun k hk => hF k (.inr (.inr ⟨_, List.getElem_mem hr2, ha ▸ hk⟩))
    clear hR ha
    have hv1 := hv.step S1
    obtain ⟨gs, cs, es, _, _, k1, k2⟩ := R1.seen.shape (by omega)
    have cs0 := R1.cs
    rw [es] at cs0
    have T1 := R1.seen
    rw [es] at T1
    obtain ⟨u0, hu0, _⟩ := T1.at_ i hi
    have hiI : (i : Int) < (R.seen.length : Int) := by omega
    clear T1
    have hcl := fun w h => clone8_any (.slice a0 64 c0) b w h (by omega) (by omega)
    have hdr : Below W1.heap.size W1 W1.drew := (Below.refl _ _).drew
    have SS : W1.drew.cell? ⟨a.g, 0, none⟩ = some (.slice (some ⟨gs, 0, none⟩) R.seen.length cs) ∧ W1.drew.cell? ⟨gs, i, none⟩ = some u0 := ⟨cell_later hdr cs0, cell_later hdr hu0⟩
    refine Zig.wp_region_zig [(false, 0), (false, 1), (false, 2), (false, 3), (false, 4), (false, 5), (true, 6), (false, 7), (true, 8)] (fun W => W.cell? ⟨a.g, 0, none⟩ = some (.slice (some ⟨gs, 0, none⟩) R.seen.length cs) ∧ W.cell? ⟨gs, i, none⟩ = some u0) (by kernel_rfl) (by kernel_rfl) SS ?_
    simp only [Zig.sel, List.drop_succ_cons, List.drop_zero]
    generalize World.drew W1 = W2 at *
    haveI : Nonempty (Zig.Lt (fun W => W.cell? ⟨a.g, 0, none⟩ = some (.slice (some ⟨gs, 0, none⟩) R.seen.length cs) ∧ W.cell? ⟨gs, i, none⟩ = some u0)) := ⟨⟨W2, SS⟩⟩
    have x0 := fun x : Zig.Lt (fun W => W.cell? ⟨a.g, 0, none⟩ = some (.slice (some ⟨gs, 0, none⟩) R.seen.length cs) ∧ W.cell? ⟨gs, i, none⟩ = some u0) => x.2.1
    repeat (refine Zig.zig_step (fun K hK => ?_); go_simp; refine hK _ ?_; clear hK K)
    refine Zig.zig_do rfl (fun K hK => ?_)
    unfold Oper.wp
    go_simp
    refine (hcl _ (hv1 _ _ (Step.of_below (F := F) hdr))).mono ?_
    rintro e W3 ⟨u3, rfl, o3, b3⟩
    have bb : Below W1.heap.size W1 W3 := hdr.trans (b3.mono hdr.size)
    refine hK _ _ ⟨cell_later b3 SS.1, cell_later b3 SS.2⟩ ?_
    clear hK K
    repeat (refine Zig.zig_step (fun K hK => ?_); go_simp; refine hK _ ?_; clear hK K)
    have y3 := Byt.of_OB o3
    obtain ⟨R4, S4, f4⟩ := (R1.below bb).setOne i hi u3 b y3 es
    have s4 := (RS.below a bb).trans S4
    have q4 : W3.cell? ⟨gs, i, none⟩ = some u0 := cell_later bb hu0
    obtain ⟨a3, n3, c3, e3⟩ : ∃ a n c, u3 = .slice a n c := by obtain ⟨a3, c3, e3, _⟩ := y3.rd; exact ⟨_, _, _, e3⟩
    subst e3
    refine Zig.zig_end rfl (by kernel_rfl) (fun K hK => ?_)
    unfold Oper.wp
    go_simp
    refine hK _ _ ?_
    clear hK K
    refine Zig.zig_nil ?_
    generalize World.setCell W3 ⟨gs, i, none⟩ _ = W4 at *
    clear x0 SS q4 f4 S4 hu0 cs0 hcl hdr R1 bb b3 o3 y3
    have hv4 : Lasts (fun k => F k ∨ W1.heap.size ≤ k) W4 (.slice a0 64 c0) b := hv1.step ⟨s4.frm.mono fun k _ e => Fa k e, s4.k8, fun k e => e⟩
    have T4 := R4.seen
    simp only at T4
    have es4 : a.vs = .slice (some ⟨gs, 0, none⟩) R.seen.length cs := es
    rw [es] at T4
    obtain ⟨u4, hu4, y4⟩ := T4.at_ i (by rw [List.length_set]; exact hi)
    rw [List.getElem_set_self] at y4
    obtain ⟨a4, n4, c4, e4⟩ : ∃ a n c, u4 = .slice a n c := by obtain ⟨a3, c3, e3, _⟩ := y4.rd; exact ⟨_, _, _, e3⟩
    subst e4
    have cs4 := R4.cs
    rw [es] at cs4
    have cl4 := R4.cl
    clear T4
    go_upto_region 9 with fail
    have hdr : Below W4.heap.size W4 W4.drew := (Below.refl _ _).drew
    have R5 := R4.below hdr
    have SS : W4.drew.cell? ⟨a.g, 0, none⟩ = some (.slice (some ⟨gs, 0, none⟩) R.seen.length cs) ∧ W4.drew.cell? ⟨gs, i, none⟩ = some (.slice a4 n4 c4) ∧ W4.drew.cell? ⟨a.g, 2, none⟩ = some a.vl := ⟨cell_later hdr cs4, cell_later hdr hu4, cell_later hdr cl4⟩
    refine Zig.wp_region_zig [(false, 0), (false, 1), (false, 2), (false, 3), (false, 4), (false, 5), (false, 6), (false, 7), (false, 8), (false, 9), (false, 10), (false, 11), (false, 12), (false, 13), (true, 14), (true, 15), (false, 16), (false, 17), (true, 18)] (fun W => W.cell? ⟨a.g, 0, none⟩ = some (.slice (some ⟨gs, 0, none⟩) R.seen.length cs) ∧ W.cell? ⟨gs, i, none⟩ = some (.slice a4 n4 c4) ∧ W.cell? ⟨a.g, 2, none⟩ = some a.vl) (by kernel_rfl) (by kernel_rfl) SS ?_
    simp only [Zig.sel, List.drop_succ_cons, List.drop_zero]
    generalize World.drew W4 = W5 at *
    haveI : Nonempty (Zig.Lt (fun W => W.cell? ⟨a.g, 0, none⟩ = some (.slice (some ⟨gs, 0, none⟩) R.seen.length cs) ∧ W.cell? ⟨gs, i, none⟩ = some (.slice a4 n4 c4) ∧ W.cell? ⟨a.g, 2, none⟩ = some a.vl)) := ⟨⟨W5, SS⟩⟩
    have x0 := fun x : Zig.Lt (fun W => W.cell? ⟨a.g, 0, none⟩ = some (.slice (some ⟨gs, 0, none⟩) R.seen.length cs) ∧ W.cell? ⟨gs, i, none⟩ = some (.slice a4 n4 c4) ∧ W.cell? ⟨a.g, 2, none⟩ = some a.vl) => x.2.1
    have x1 := fun x : Zig.Lt (fun W => W.cell? ⟨a.g, 0, none⟩ = some (.slice (some ⟨gs, 0, none⟩) R.seen.length cs) ∧ W.cell? ⟨gs, i, none⟩ = some (.slice a4 n4 c4) ∧ W.cell? ⟨a.g, 2, none⟩ = some a.vl) => x.2.2.1
    have x2 := fun x : Zig.Lt (fun W => W.cell? ⟨a.g, 0, none⟩ = some (.slice (some ⟨gs, 0, none⟩) R.seen.length cs) ∧ W.cell? ⟨gs, i, none⟩ = some (.slice a4 n4 c4) ∧ W.cell? ⟨a.g, 2, none⟩ = some a.vl) => x.2.2.2
    repeat (refine Zig.zig_step (fun K hK => ?_); go_simp; refine hK _ ?_; clear hK K)
    refine Zig.zig_do rfl (fun K hK => ?_)
    unfold Oper.wp
    go_simp
    generalize hW6 : World.alloc W5 _ = W6
    have b6 : Below W5.heap.size W5 W6 := by rw [← hW6]; exact below_new _ _
    have d0 : W6.cell? ⟨W5.heap.size, 0, none⟩ = some (.int .i64 (i : Int)) := by rw [← hW6]; exact (RowAt.new W5 _ _).cell 0 _ rfl
    have d1 : W6.cell? ⟨W5.heap.size, 1, none⟩ = some (.slice a4 n4 c4) := by rw [← hW6]; exact (RowAt.new W5 _ _).cell 1 _ rfl
    have bb : Below W4.heap.size W4 W6 := hdr.trans (b6.mono hdr.size)
    clear hW6
    have R6 := R4.below bb
    have y6 := y4.below bb
    refine hK _ _ ⟨R6.cs.trans (congrArg some es), cell_later bb hu4, R6.cl⟩ ?_
    clear hK K
    refine Zig.zig_do rfl (fun K hK => ?_)
    refine wp_appW a.vl R.later i _ b W5.heap.size hL R6.later y6 d0 d1 rfl rfl rfl ?_
    intro v7 W7 l7 t7
    obtain ⟨R8, S8, q8, f8⟩ := R6.setLater v7 _ t7.frm t7.2 l7
    have n7 : ¬ a.vl.ownBlock = some a.g := R6.gNe.2.2.1
    have n7' : ¬ a.vl.ownBlock = some gs := fun e => R6.lNe.1 gs e (by rw [es]; rfl)
    refine hK _ _ ⟨(t7.cell (R6.cs.trans (congrArg some es)) n7), t7.cell (cell_later bb hu4) n7', q8⟩ ?_
    clear hK K
    repeat (refine Zig.zig_step (fun K hK => ?_); go_simp; refine hK _ ?_; clear hK K)
    obtain ⟨a7, m7, c7, e7⟩ : ∃ a n c, v7 = .slice a n c := by
      obtain ⟨sl, h1, _⟩ := l7
      obtain ⟨a7, c7, e7, _⟩ := Rd.of_own1 h1
      exact ⟨_, _, _, e7⟩
    subst e7
    refine Zig.zig_end rfl (by kernel_rfl) (fun K hK => ?_)
    unfold Oper.wp
    go_simp
    refine hK _ _ ?_
    clear hK K
    refine Zig.zig_nil ?_
    have s8 := s4.trans ((RS.below a bb).trans S8)
    generalize World.setCell W7 ⟨a.g, 2, none⟩ _ = W8 at *
    clear x0 x1 x2 SS q8 f8 S8 hu4 cs4 cl4 hdr R4 R5 R6 y4 y6 bb b6 d0 d1 l7 t7 n7 n7'
    have R8 : RgAt W8 { a with vl := Value.slice a7 m7 c7 } ⟨R.seen.set i b, R.sure, R.later ++ [(i, b)], R.trace⟩ := R8
    go_upto_region 10 with fail
    have hv8 : Lasts (fun k => F k ∨ W1.heap.size ≤ k) W8 (.slice a0 64 c0) b := hv1.step ⟨s8.frm.mono fun k _ e => Fa k e, s8.k8, fun k e => e⟩
    have hdr : Below W8.heap.size W8 W8.drew := (Below.refl _ _).drew
    have ct8 : W8.cell? ⟨a.g, 3, none⟩ = some a.vt := R8.ct
    have SS : W8.drew.cell? ⟨a.g, 3, none⟩ = some a.vt := cell_later hdr ct8
    have e1 : IntKind.u8.wrap ((i : Int) / 256) = (i : Int) / 256 := by rw [IntKind.wrap_u8]; omega
    have e2 : IntKind.u8.wrap (i : Int) = (i : Int) % 256 := IntKind.wrap_u8 _
    refine Zig.wp_region_zig [(false, 0), (false, 1), (false, 2), (false, 3), (false, 4), (false, 5), (false, 6), (false, 7), (false, 8), (false, 9), (false, 11), (true, 10), (true, 12), (true, 13), (true, 14), (true, 15), (false, 16), (false, 17), (true, 18)] (fun W => W.cell? ⟨a.g, 3, none⟩ = some a.vt) (by kernel_rfl) (by kernel_rfl) SS ?_
    simp only [Zig.sel, List.drop_succ_cons, List.drop_zero]
    generalize World.drew W8 = W9 at *
    haveI : Nonempty (Zig.Lt (fun W => W.cell? ⟨a.g, 3, none⟩ = some a.vt)) := ⟨⟨W9, SS⟩⟩
    have x0 := fun x : Zig.Lt (fun W => W.cell? ⟨a.g, 3, none⟩ = some a.vt) => x.2
    repeat (refine Zig.zig_step (fun K hK => ?_); go_simp; refine hK _ ?_; clear hK K)
    refine Zig.zig_do rfl (fun K hK => ?_)
    unfold Oper.wp
    go_simp
    generalize hWa : World.alloc W9 _ = Wa
    have ba : Below W9.heap.size W9 Wa := by rw [← hWa]; exact below_new _ _
    have ra : Rd Wa (.slice (some ⟨W9.heap.size, 0, none⟩) 2 2) (bs (be 2 i)) := by
      rw [← hWa, trace2 i hi2]
      exact Rd.new W9 (bs (be 2 i)).toArray 5 (0, 0) 2 (by rw [List.size_toArray, bs_length, be_length]) (by rw [List.size_toArray, bs_length, be_length]; decide)
    have bba : Below W8.heap.size W8 Wa := hdr.trans (ba.mono hdr.size)
    clear hWa
    refine hK _ _ (cell_later bba ct8) ?_
    clear hK K
    refine Zig.zig_do rfl (fun K hK => ?_)
    unfold Oper.wp
    go_simp
    generalize hWb : World.alloc Wa _ = Wb
    have bb' : Below Wa.heap.size Wa Wb := by rw [← hWb]; exact below_new _ _
    have d0 : Wb.cell? ⟨Wa.heap.size, 0, none⟩ = some (.slice (some ⟨W9.heap.size, 0, none⟩) 2 2) := by rw [← hWb]; exact (RowAt.new Wa _ _).cell 0 _ rfl
    have d1 : Wb.cell? ⟨Wa.heap.size, 1, none⟩ = some (.slice a0 64 c0) := by rw [← hWb]; exact (RowAt.new Wa _ _).cell 1 _ rfl
    have bbb : Below W8.heap.size W8 Wb := bba.trans (bb'.mono bba.size)
    clear hWb
    have rb : Rd Wb (.slice a0 64 c0) (bs b) := hv8 _ _ (Step.of_below (F := fun k => F k ∨ W1.heap.size ≤ k) bbb)
    refine hK _ _ (cell_later bbb ct8) ?_
    clear hK K
    refine Zig.zig_do rfl (fun K hK => ?_)
    unfold Oper.wp
    go_simp
    refine (concat_any Wa.heap.size _ _ (be 2 i) b Wb d0 d1 (ra.below bb') rb (by omega) (by rw [be_length]; omega)).mono ?_
    rintro e Wc ⟨uc, rfl, oc, bc⟩
    have bbc : Below W8.heap.size W8 Wc := bbb.trans (bc.mono bbb.size)
    have yc : Byt Wc uc (traceB i b) := Byt.of_OB oc
    obtain ⟨ac, nc, cc, ec⟩ : ∃ a n c, uc = .slice a n c := by obtain ⟨a3, c3, e3, _⟩ := yc.rd; exact ⟨_, _, _, e3⟩
    subst ec
    refine hK _ _ (cell_later bbc ct8) ?_
    clear hK K
    refine Zig.zig_do rfl (fun K hK => ?_)
    unfold Oper.wp
    go_simp
    generalize hWd : World.alloc Wc _ = Wd
    have bd : Below Wc.heap.size Wc Wd := by rw [← hWd]; exact below_new _ _
    have dd : Wd.cell? ⟨Wc.heap.size, 0, none⟩ = some (.slice ac nc cc) := by rw [← hWd]; exact (RowAt.new Wc _ _).cell 0 _ rfl
    have bbd : Below W8.heap.size W8 Wd := bbc.trans (bd.mono bbc.size)
    clear hWd
    have Rd8 := R8.below bbd
    have yd := yc.below bd
    refine hK _ _ (cell_later bbd ct8) ?_
    clear hK K
    refine Zig.zig_do rfl (fun K hK => ?_)
    refine wp_appT 0 a.vt R.trace _ _ Wc.heap.size hT (Nat.zero_le _) Rd8.trace yd dd rfl rfl rfl ?_
    intro ve We le te
    obtain ⟨Rf, Sf, qf, ff⟩ := Rd8.setTrace ve _ te.frm te.2 le
    refine hK _ _ qf ?_
    clear hK K
    repeat (refine Zig.zig_step (fun K hK => ?_); go_simp; refine hK _ ?_; clear hK K)
    obtain ⟨ae, me, ce, ee⟩ : ∃ a n c, ve = .slice a n c := by
      obtain ⟨sl, h1, _⟩ := le
      obtain ⟨a7, c7, e7, _⟩ := Rd.of_own1 h1
      exact ⟨_, _, _, e7⟩
    subst ee
    refine Zig.zig_end rfl (by kernel_rfl) (fun K hK => ?_)
    unfold Oper.wp
    go_simp
    refine hK _ _ ?_
    clear hK K
    refine Zig.zig_nil ?_
    have sf := s8.trans ((RS.below _ bbd).trans Sf)
    obtain ⟨Hf, Ff⟩ := upd _ _ _ sf Rf
    generalize World.setCell We ⟨a.g, 3, none⟩ _ = Wf at *
    clear x0 SS qf ff
    go_wp2_with fail
    go_ret
    have HD : DevRep Wf gd (fun k => F k ∨ W1.heap.size ≤ k) (writeD D r i b) := by
      rw [Hwd.out]
      refine ⟨vl, _, Hf, fun k hk => ?_⟩
      rcases Ff k hk with e | e
      · exact .inl (hF k e)
      · exact .inr e
    refine ⟨rfl, fun k => F k ∨ W1.heap.size ≤ k, HD, ?_⟩
    · refine ⟨(S1.1.step sf.frm fun j _ e => Fa j e), S1.2.1.trans sf.k8, fun k hk => ?_⟩
      rcases hk with e | e
      · exact .inl e
      · exact .inr (Nat.le_trans S1.size e)
end Go.Proofs.Ytbagicjimfhmeaa.Cl
