/- dev: a region more; Copy. -/
import Derived.Test.YtbagicjimfhmeaaDev7
set_option linter.unusedVariables false
set_option linter.unusedSimpArgs false
namespace Go.Proofs.Ytbagicjimfhmeaa.Cl
open Go Go.Proofs Go.RowKit Fl

theorem infoPtrD : (Try.prog.info? 79).map (fun i => (i.zero, i.size, i.bytes)) = some (some (.pointer none), 1, 8) := by kernel_rfl
theorem wp_appP {w : World} {o : Oper} {a : Act} {K : Act → World → Prop} {Q : Exit → Act → World → Prop} (v : Value) (n : Nat) (L : List Value) (p : Nat) {s x : Operand} (g : Nat) (hl : n ≤ 100000)
    (hown : w.ownsRow 0 79 1 v n L) (c0 : w.cell? ⟨g, 0, none⟩ = some (ptr p))
    (ho : o.op = .call { callee := .builtin .append, args := #[s, x], argTypes := #[76, 76] })
    (hs : a.eval s = v) (hx : a.eval x = .slice (some ⟨g, 0, none⟩) 1 1)
    (h : ∀ v' w', w'.ownsRow 0 79 1 v' (n + 1) (L ++ [ptr p]) → Onto w v w' v' → K (a.put o.dst v') w') : o.wp Try.prog a w K Q := by
  obtain ⟨i5, hi5, hz5, hs5, hb5⟩ := info_parts infoPtrD
  refine wp_append_onto 0 79 i5 (.pointer none) 1 8 Try.underlying76 hi5 hz5 hs5 hb5 rfl (by decide) v n L ⟨g, 0, none⟩ 1 1 [ptr p] rfl (fun y hy => ?_) (by unfold maxLen; omega) (by omega) ho hs hx hown (fun j y hj => ?_) (Nat.zero_le _) h
  · rw [List.mem_singleton.1 hy]; rfl
  · rw [Addr.add_lit, Nat.zero_add]
    match j, hj with
    | 0, hj => obtain rfl := Option.some.inj hj; exact c0
theorem DR.push {w w1 : World} {gd : Nat} {vl : Value} {rs : List RgA} {D : Dv} (h : DR w gd vl rs D) (a : RgA) (R : Rg) (hR : RgAt w a R) (hap : ∀ k, Blk a k → ¬ FP gd vl rs k) (vl' : Value) (hf : Frm (fun k => vl.ownBlock = some k) w w1) (hl : Lies w vl vl')
    (ho : w1.ownsRow 0 79 1 vl' (rs.length + 1) ((rs.map fun a => ptr a.g) ++ [ptr a.g])) :
    DR (w1.setCell ⟨gd, 0, none⟩ vl') gd vl' (rs ++ [a]) (D.1 ++ [R], D.2) ∧ Frm (fun k => k = gd ∨ vl.ownBlock = some k) w (w1.setCell ⟨gd, 0, none⟩ vl') ∧ Keep8 w (w1.setCell ⟨gd, 0, none⟩ vl') ∧ w1.cell? ⟨gd, 0, none⟩ = some vl ∧ w1.frozen? ⟨gd, 0, none⟩ = false ∧ ∀ k, FP gd vl' (rs ++ [a]) k → FP gd vl rs k ∨ Blk a k ∨ w.heap.size ≤ k := by
  have hvg : ∀ k, vl.ownBlock = some k → k ≠ gd := fun k hk e => by
    subst e
    exact absurd ((own_ty h.own hk).ne h.row.ty) (by decide)
  have hvr : ∀ (r : Nat) (hr : r < rs.length), ∀ k, Blk rs[r] k → k ≠ gd ∧ vl.ownBlock ≠ some k := fun r hr k hb => by
    have R0 := h.rg r hr (by have := h.len; omega)
    refine ⟨fun e => ?_, fun e => ?_⟩
    · subst e
      rcases R0.ty hb with e | e | e <;> exact absurd (e.ne h.row.ty) (by decide)
    · rcases R0.ty hb with e' | e' | e' <;> exact absurd (e'.ne (own_ty h.own e)) (by decide)
  have k8 : Keep8 w w1 := fun k hk => hf.block k hk.lt fun e => own_notB h.own (by decide) k e hk
  have row1 : RowAt w1 gd 78 #[vl, .int .i64 D.2] := hf.row h.row fun e => hvg _ e rfl
  obtain ⟨s1, s2, s3⟩ := row1.set 0 vl'
  have f2 : Frm (fun k => k = gd) w1 (w1.setCell ⟨gd, 0, none⟩ vl') := Frm.of_grown s2 fun k e => (Option.some.inj e).symm
  have k82 : Keep8 w1 (w1.setCell ⟨gd, 0, none⟩ vl') := Keep8.of_grown s2 fun k e => by obtain rfl := Option.some.inj e; exact row1.notB (by decide)
  have ff : Frm (fun k => k = gd ∨ vl.ownBlock = some k) w (w1.setCell ⟨gd, 0, none⟩ vl') := (hf.mono fun k _ e => .inr e).step f2 fun k _ e => .inl e
  have kk := k8.trans k82
  have hv'g : ∀ k, vl'.ownBlock = some k → ¬ k = gd := fun k hk e => by
    subst e
    exact absurd ((own_ty ho hk).ne row1.ty) (by decide)
  have hRa : ∀ k, Blk a k → ¬ (k = gd ∨ vl.ownBlock = some k) := fun k hb e => hap k hb (e.elim .inl fun e => .inr (.inl e))
  refine ⟨⟨s1, ?_, by simp [h.len], fun i hi hi' => ?_, fun i j hi hj hne k hb => ?_⟩, ff, kk, row1.cell 0 _ rfl, row1.frozen, fun k hk => ?_⟩
  · have := f2.own ho hv'g
    rw [List.length_append, List.map_append]
    exact this
  · rw [List.length_append, List.length_singleton] at hi
    by_cases e : i < rs.length
    · have e2 : i < D.1.length := by have := h.len; omega
      rw [List.getElem_append_left e]
      simp only [List.getElem_append_left e2]
      exact (h.rg i e e2).frm ff kk fun k hb e' => e'.elim (fun e' => (hvr i e k hb).1 e') fun e' => (hvr i e k hb).2 e'
    · obtain rfl : i = rs.length := by omega
      have e1 : (rs ++ [a])[rs.length] = a := by simp
      have e2 : (D.1 ++ [R])[rs.length]'(by simp [h.len]) = R := by simp [h.len]
      rw [e1]
      simp only [e2]
      exact hR.frm ff kk hRa
  · rw [List.length_append, List.length_singleton] at hi hj
    by_cases ei : i < rs.length
    · rw [List.getElem_append_left ei] at hb
      by_cases ej : j < rs.length
      · rw [List.getElem_append_left ej]
        exact h.apart i j ei ej hne k hb
      · obtain rfl : j = rs.length := by omega
        have e1 : (rs ++ [a])[rs.length] = a := by simp
        rw [e1]
        exact fun hb' => hap k hb' (.inr (.inr ⟨_, List.getElem_mem ei, hb⟩))
    · obtain rfl : i = rs.length := by omega
      have e1 : (rs ++ [a])[rs.length] = a := by simp
      rw [e1] at hb
      have ej : j < rs.length := by omega
      rw [List.getElem_append_left ej]
      exact fun hb' => hap k hb (.inr (.inr ⟨_, List.getElem_mem ej, hb'⟩))
  · rcases hk with e | e | ⟨x, hx, hb⟩
    · exact .inl (.inl e)
    · rcases hl k e with e | e
      · exact .inl (.inr (.inl e))
      · exact .inr (.inr e)
    · rcases List.mem_append.1 hx with hx | hx
      · exact .inl (.inr (.inr ⟨x, hx, hb⟩))
      · rw [List.mem_singleton.1 hx] at hb
        exact .inr (.inl hb)
theorem DR.none {w : World} {gd : Nat} {x : Int} (h : RowAt w gd 78 #[.slice none 0 0, .int .i64 x]) : DR w gd (.slice none 0 0) [] ([], x) :=
  ⟨h, World.ownsRow_nil _ _ _ _, rfl, fun i h => by simp at h, fun i j hi => by simp at hi⟩
theorem fp_none {g B : Nat} (h : B ≤ g) : ∀ j, FP g (.slice none 0 0) [] j → B ≤ j := fun j hj => by
  rcases hj with e | e | ⟨x, hx, _⟩
  · omega
  · cases e
  · cases hx
theorem DR.below {w w' : World} {gd : Nat} {vl : Value} {rs : List RgA} {D : Dv} (h : DR w gd vl rs D) (hb : Below w.heap.size w w') : DR w' gd vl rs D := h.frm (Frm.of_below (fun _ => False) hb) (Keep8.of_below hb) fun _ _ h => h
theorem LL.below {w w' : World} {v : Value} {L : List (Nat × List UInt8)} (h : LL w v L) (hb : Below w.heap.size w w') : LL w' v L := h.frm (Frm.of_below (fun _ => False) hb) (Keep8.of_below hb) fun _ _ h => h
theorem LL.shape {w : World} {v : Value} {L : List (Nat × List UInt8)} (h : LL w v L) : ∃ a n c, v = .slice a n c := by
  obtain ⟨sl, h1, _⟩ := h
  obtain ⟨a7, c7, e7, _⟩ := Rd.of_own1 h1
  exact ⟨_, _, _, e7⟩
def CopyRel (w : World) (g2 : Nat) (D : Dv) (x i : Value) (wr : World) : Prop := ∃ (k : Nat) (vl : Value) (rs : List RgA), k ≤ D.1.length ∧ i = .int .i64 (k : Int) ∧ DR wr g2 vl rs (D.1.take k, D.2) ∧ (∀ j, FP g2 vl rs j → w.heap.size ≤ j) ∧ Below w.heap.size w wr
set_option maxRecDepth 100000 in
set_option maxHeartbeats 8000000 in
theorem copy_any {w : World} {gd : Nat} {F : Nat → Prop} {D : Dv} (h : DevRep w gd F D) (hn : D.1.length ≤ 100) (hS : ∀ R ∈ D.1, R.seen.length ≤ 100000 ∧ R.sure.length ≤ 100000 ∧ R.later.length ≤ 100000 ∧ R.trace.length ≤ 100000) :
    Calls Try.prog 20 #[ptr gd] w fun e w' => ∃ g2, e = .returned (ptr g2) ∧ DevRep w' g2 (fun k => w.heap.size ≤ k) D ∧ w.heap.size ≤ g2 ∧ Below w.heap.size w w' := by
  obtain ⟨vl, rs, h, hF⟩ := h
  have HS := Lib.hid hS
  clear hS
  have c0 := h.cl
  have c1 := h.left
  obtain ⟨al, cl, el⟩ := h.vlen
  rw [el] at c0
  have hlen := h.len
  have hlen1 : rs.length ≤ D.1.length := by omega
  have hlen2 : D.1.length ≤ rs.length := by omega
  clear hlen
  go_enter Try.func20, Try.ntmps20
  go_upto_region 4 with fail
  have A1 := RowAt.new w 78 #[.slice none 0 0, .int .i64 D.2]
  have b1 := below_new w (.cells #[.slice none 0 0, .int .i64 D.2] 78)
  generalize w.alloc (.cells #[.slice none 0 0, .int .i64 D.2] 78) = w1 at *
  have N1 := DR.none A1
  have c0 := cell_later b1 c0
  have c1' := cell_later b1 c1
  generalize hnr : rs.length = n at *
  have Hnr := Lib.hid hnr
  clear hnr
  go_wp2_with fail
  go_loopw [5, 19] (fun x i wr => CopyRel w w.heap.size D x i wr) (fun _ i _ => n - (intOf i).toNat)
  case atStart => exact ⟨0, _, _, Nat.zero_le _, rfl, by simpa using N1, fp_none (Nat.le_refl _), b1⟩
  case round =>
    clear N1 A1 c1' c0
    obtain ⟨k, vl2, rs2, hk, rfl, N, hN, hb⟩ := hrel
    by_cases hlt : k < n
    · have hlI : (k : Int) < (n : Int) := by omega
      have hkr : k < rs.length := by rw [Hnr.out]; exact hlt
      have hkD : k < D.1.length := by omega
      obtain ⟨gl, cl', e1, _, _, hc⟩ := h.cells (by omega)
      rw [el] at e1
      injection e1 with e1 _ _
      subst e1
      have ck := cell_later hb (hc k hkr)
      have R1 := (h.rg k hkr hkD).below hb
      obtain ⟨n1, n2, n3, n4⟩ := HS.out _ (List.getElem_mem hkD)
      have hts := Lib.hid (take_snoc D.1 k hkD)
      obtain ⟨a, ha⟩ : ∃ a, a = rs[k] := ⟨_, rfl⟩
      obtain ⟨R, hR⟩ : ∃ R, R = D.1[k] := ⟨_, rfl⟩
      rw [← ha, ← hR] at R1
      rw [← ha] at ck
      rw [← hR] at n1 n2 n3 n4 hts
      clear ha hR hc
      have z0 := R1.cs
      have z1 := R1.cu
      have z2 := R1.cl
      have z3 := R1.ct
      have z4 := N.cl
      have m1 := fun w' h => cloneT_any a.vs R.seen w' h n1
      have m2 := fun w' h => cloneT_any a.vu R.sure w' h n2
      have m3 := fun w' h => cloneW_any a.vl R.later w' h n3
      have m4 := fun w' h => cloneT_any a.vt R.trace w' h n4
      go_upto_region 7 with fail
      have hdr : Below wr.heap.size wr wr.drew := (Below.refl _ _).drew
      have SS : wr.drew.cell? ⟨w.heap.size, 0, none⟩ = some vl2 ∧ wr.drew.cell? ⟨a.g, 0, none⟩ = some a.vs ∧ wr.drew.cell? ⟨a.g, 1, none⟩ = some a.vu ∧ wr.drew.cell? ⟨a.g, 2, none⟩ = some a.vl ∧ wr.drew.cell? ⟨a.g, 3, none⟩ = some a.vt := ⟨z4, z0, z1, z2, z3⟩
      have Sb : ∀ W, Below wr.heap.size wr W → W.cell? ⟨w.heap.size, 0, none⟩ = some vl2 ∧ W.cell? ⟨a.g, 0, none⟩ = some a.vs ∧ W.cell? ⟨a.g, 1, none⟩ = some a.vu ∧ W.cell? ⟨a.g, 2, none⟩ = some a.vl ∧ W.cell? ⟨a.g, 3, none⟩ = some a.vt := fun W hW => ⟨cell_later hW z4, cell_later hW z0, cell_later hW z1, cell_later hW z2, cell_later hW z3⟩
      clear z0 z1 z2 z3 z4
      refine Zig.wp_region_zig [(false, 0), (false, 1), (false, 2), (false, 3), (false, 4), (false, 5), (false, 6), (false, 7), (false, 8), (false, 10), (false, 11), (false, 12), (false, 13), (false, 15), (false, 16), (false, 17), (false, 18), (false, 20), (false, 21), (false, 22), (false, 23), (true, 9), (true, 14), (true, 19), (true, 24), (false, 25), (true, 26), (true, 27), (true, 28), (false, 29), (false, 30), (true, 31)] (fun W => W.cell? ⟨w.heap.size, 0, none⟩ = some vl2 ∧ W.cell? ⟨a.g, 0, none⟩ = some a.vs ∧ W.cell? ⟨a.g, 1, none⟩ = some a.vu ∧ W.cell? ⟨a.g, 2, none⟩ = some a.vl ∧ W.cell? ⟨a.g, 3, none⟩ = some a.vt) (by kernel_rfl) (by kernel_rfl) SS ?_
      simp only [Zig.sel, List.drop_succ_cons, List.drop_zero]
      generalize World.drew wr = wd at *
      haveI : Nonempty (Zig.Lt (fun W => W.cell? ⟨w.heap.size, 0, none⟩ = some vl2 ∧ W.cell? ⟨a.g, 0, none⟩ = some a.vs ∧ W.cell? ⟨a.g, 1, none⟩ = some a.vu ∧ W.cell? ⟨a.g, 2, none⟩ = some a.vl ∧ W.cell? ⟨a.g, 3, none⟩ = some a.vt)) := ⟨⟨wd, SS⟩⟩
      have x0 := fun x : Zig.Lt (fun W => W.cell? ⟨w.heap.size, 0, none⟩ = some vl2 ∧ W.cell? ⟨a.g, 0, none⟩ = some a.vs ∧ W.cell? ⟨a.g, 1, none⟩ = some a.vu ∧ W.cell? ⟨a.g, 2, none⟩ = some a.vl ∧ W.cell? ⟨a.g, 3, none⟩ = some a.vt) => x.2.1
      have x1 := fun x : Zig.Lt (fun W => W.cell? ⟨w.heap.size, 0, none⟩ = some vl2 ∧ W.cell? ⟨a.g, 0, none⟩ = some a.vs ∧ W.cell? ⟨a.g, 1, none⟩ = some a.vu ∧ W.cell? ⟨a.g, 2, none⟩ = some a.vl ∧ W.cell? ⟨a.g, 3, none⟩ = some a.vt) => x.2.2.1
      have x2 := fun x : Zig.Lt (fun W => W.cell? ⟨w.heap.size, 0, none⟩ = some vl2 ∧ W.cell? ⟨a.g, 0, none⟩ = some a.vs ∧ W.cell? ⟨a.g, 1, none⟩ = some a.vu ∧ W.cell? ⟨a.g, 2, none⟩ = some a.vl ∧ W.cell? ⟨a.g, 3, none⟩ = some a.vt) => x.2.2.2.1
      have x3 := fun x : Zig.Lt (fun W => W.cell? ⟨w.heap.size, 0, none⟩ = some vl2 ∧ W.cell? ⟨a.g, 0, none⟩ = some a.vs ∧ W.cell? ⟨a.g, 1, none⟩ = some a.vu ∧ W.cell? ⟨a.g, 2, none⟩ = some a.vl ∧ W.cell? ⟨a.g, 3, none⟩ = some a.vt) => x.2.2.2.2.1
      have x4 := fun x : Zig.Lt (fun W => W.cell? ⟨w.heap.size, 0, none⟩ = some vl2 ∧ W.cell? ⟨a.g, 0, none⟩ = some a.vs ∧ W.cell? ⟨a.g, 1, none⟩ = some a.vu ∧ W.cell? ⟨a.g, 2, none⟩ = some a.vl ∧ W.cell? ⟨a.g, 3, none⟩ = some a.vt) => x.2.2.2.2.2
      repeat (refine Zig.zig_step (fun K hK => ?_); go_simp; refine hK _ ?_; clear hK K)
      refine Zig.zig_do rfl (fun K hK => ?_)
      unfold Oper.wp
      go_simp
      refine (m1 _ (R1.below hdr).seen).mono ?_
      rintro e' wa ⟨ua, rfl, ta, ba⟩
      have ba := hdr.trans (ba.mono hdr.size)
      refine hK _ _ (Sb _ ba) ?_
      clear hK K
      refine Zig.zig_do rfl (fun K hK => ?_)
      unfold Oper.wp
      go_simp
      refine (m2 _ (R1.below ba).sure).mono ?_
      rintro e' wb ⟨ub, rfl, tb, bb'⟩
      have hab := ta.lt
      have ta := ta.below bb'
      have bb := ba.trans (bb'.mono ba.size)
      refine hK _ _ (Sb _ bb) ?_
      clear hK K
      refine Zig.zig_do rfl (fun K hK => ?_)
      unfold Oper.wp
      go_simp
      refine (m3 _ (R1.below bb).later).mono ?_
      rintro e' wc ⟨uc, rfl, lc, gc, bc'⟩
      have tac := ta.below bc'
      have tbc := tb.below bc'
      have bc := bb.trans (bc'.mono bb.size)
      refine hK _ _ (Sb _ bc) ?_
      clear hK K
      refine Zig.zig_do rfl (fun K hK => ?_)
      unfold Oper.wp
      go_simp
      refine (m4 _ (R1.below bc).trace).mono ?_
      rintro e' wd2 ⟨ud, rfl, td, bd'⟩
      have tad := tac.below bd'
      have tbd := tbc.below bd'
      have lcd := lc.frm (Frm.of_below (fun _ => False) bd') (Keep8.of_below bd') fun _ _ h => h
      have bd := bc.trans (bd'.mono bc.size)
      refine hK _ _ (Sb _ bd) ?_
      clear hK K
      obtain ⟨p1, q1, f1, _⟩ := ta.len
      obtain ⟨p2, q2, f2, _⟩ := tb.len
      obtain ⟨p3, o3, q3, f3⟩ := lc.shape
      obtain ⟨p4, q4, f4, _⟩ := td.len
      subst f1 f2 f3 f4
      repeat (refine Zig.zig_step (fun K hK => ?_); go_simp; refine hK _ ?_; clear hK K)
      refine Zig.zig_do rfl (fun K hK => ?_)
      unfold Oper.wp
      go_simp
      generalize hWe : World.alloc wd2 _ = We
      have be : Below wd2.heap.size wd2 We := by rw [← hWe]; exact below_new _ _
      have re : RowAt We wd2.heap.size 82 #[.slice p1 R.seen.length q1, .slice p2 R.sure.length q2, .slice p3 o3 q3, .slice p4 R.trace.length q4] := by rw [← hWe]; exact RowAt.new _ _ _
      clear hWe
      have bbe := bd.trans (be.mono bd.size)
      have hs1 := ba.size
      have hs2 := bb'.size
      have hs3 := bc'.size
      have hs4 := bd'.size
      have hsd := hdr.size
      have gta := ta.ge
      have gtb := tb.ge
      have gtd := td.ge
      have ltb := tb.lt
      have Re : RgAt We ⟨wd2.heap.size, .slice p1 R.seen.length q1, .slice p2 R.sure.length q2, .slice p3 o3 q3, .slice p4 R.trace.length q4⟩ R :=
        ⟨re, (tad.below be).zero, (tbd.below be).zero, lcd.below be, (td.below be).zero, (fun j e1 e2 => by have := hab j e1; have := gtb j e2; omega), (fun j e1 e2 => by have := hab j e1; have := gtd j e2; omega), fun j e1 e2 => by have := ltb j e1; have := gtd j e2; omega⟩
      have hBk : ∀ j, Blk ⟨wd2.heap.size, .slice p1 R.seen.length q1, .slice p2 R.sure.length q2, .slice p3 o3 q3, .slice p4 R.trace.length q4⟩ j → wr.heap.size ≤ j := fun j hj => by
        rcases hj with e | e | e | e | e
        · have e : j = wd2.heap.size := e
          omega
        · have := gta j e; omega
        · have := gtb j e; omega
        · have := gc j e; omega
        · have := gtd j e; omega
      refine hK _ _ (Sb _ bbe) ?_
      clear hK K
      refine Zig.zig_do rfl (fun K hK => ?_)
      unfold Oper.wp
      go_simp
      generalize hWf : World.alloc We _ = Wf
      have bf : Below We.heap.size We Wf := by rw [← hWf]; exact below_new _ _
      have df : Wf.cell? ⟨We.heap.size, 0, none⟩ = some (ptr wd2.heap.size) := by rw [← hWf]; exact (RowAt.new We _ _).cell 0 _ rfl
      clear hWf
      have bbf := bbe.trans (bf.mono bbe.size)
      have Nf := N.below bbf
      have Rf := Re.below bf
      refine hK _ _ (Sb _ bbf) ?_
      clear hK K
      have hl2 : rs2.length ≤ 100000 := by have := N.len; rw [List.length_take] at this; omega
      refine Zig.zig_do rfl (fun K hK => ?_)
      refine wp_appP vl2 rs2.length _ wd2.heap.size We.heap.size hl2 Nf.own df rfl rfl rfl ?_
      intro v5 W5 o5 t5
      obtain ⟨P1, P2, P3, P4, P5, P6⟩ := Nf.push _ R Rf (fun j hj hfp => by have := hBk j hj; have := N.lt hfp; omega) v5 t5.frm t5.2 o5
      have hne : ∀ {g i : Nat} {u : Value}, wr.cell? ⟨g, i, none⟩ = some u → vl2.ownBlock ≠ some g → W5.cell? ⟨g, i, none⟩ = some u := fun hc hn => t5.cell (cell_later bbf hc) hn
      have hv2 : ∀ g, vl2.ownBlock = some g → g ≠ a.g := fun g hg e => by
        subst e
        exact absurd ((own_ty N.own hg).ne R1.row.ty) (by decide)
      have hv3 := fun e => hv2 a.g e rfl
      refine hK _ _ ⟨P4, hne R1.cs hv3, hne R1.cu hv3, hne R1.cl hv3, hne R1.ct hv3⟩ ?_
      clear hK K
      repeat (refine Zig.zig_step (fun K hK => ?_); go_simp; refine hK _ ?_; clear hK K)
      obtain ⟨av, cv, ev, _⟩ := Rd.of_own1 o5
      subst ev
      refine Zig.zig_end rfl (by kernel_rfl) (fun K hK => ?_)
      unfold Oper.wp
      go_simp
      refine hK _ _ ?_
      clear hK K
      refine Zig.zig_nil ?_
      have Bz : Below w.heap.size w (W5.setCell ⟨w.heap.size, 0, none⟩ (.slice av (rs2.length + 1) cv)) := by
        have := P2.below w.heap.size (fun j hj hF => hF.elim (fun e => by omega) fun e => hN j (.inr (.inl e))) (by have := hb.size; have := bbf.size; omega)
        exact (hb.trans (bbf.mono hb.size)).trans this
      have Fz : ∀ j, FP w.heap.size (.slice av (rs2.length + 1) cv) (rs2 ++ [⟨wd2.heap.size, .slice p1 R.seen.length q1, .slice p2 R.sure.length q2, .slice p3 o3 q3, .slice p4 R.trace.length q4⟩]) j → w.heap.size ≤ j := fun j hj => by
        have := hb.size
        have := bbf.size
        rcases P6 j hj with e | e | e
        · exact hN j e
        · have := hBk j e; omega
        · omega
      generalize World.setCell W5 ⟨w.heap.size, 0, none⟩ _ = Wz at *
      clear x0 x1 x2 x3 x4 SS Sb P2 P3 P4 P5 P6 hne
      go_wp2_with fail
      go_roundw
      case rel =>
        refine ⟨k + 1, _, _, by omega, by go_num, ?_, Fz, Bz⟩
        rw [hts.out]
        exact P1
      case measure => simp only [intOf]; omega
    · have hlI : ¬ (k : Int) < (n : Int) := by omega
      rw [List.take_of_length_le (by omega)] at N
      go_wp2_with fail
      go_ret
      exact ⟨_, rfl, ⟨vl2, rs2, N, hN⟩, Nat.le_refl _, hb⟩
end Go.Proofs.Ytbagicjimfhmeaa.Cl
