/- The index of a block: index.Take and the document's. -/
import Derived.Test.YtibpipppabommaaIdx3
import Derived.Test.YtibpipppabommaaRelyT
set_option linter.unusedVariables false
set_option linter.unusedSimpArgs false
namespace Go.Proofs.Ytibpipppabommaa.Cl
open Go Go.Proofs Go.RowKit Fl Rely

def IOwn (w : World) (B : Nat) (v : Value) (l : List Int) : Prop := w.ownsRow B 3 1 v l.length (ints l)
theorem IOwn.below {w w1 : World} {B : Nat} {v : Value} {l : List Int} (h : IOwn w B v l) (hb : Below w.heap.size w w1) : IOwn w1 B v l := own_below h hb
theorem IOwn.rd {w : World} {B : Nat} {v : Value} {l : List Int} (h : IOwn w B v l) : Rd w v (ints l) := Rd.of_own h
theorem IOwn.nil (w : World) (B : Nat) : IOwn w B (.slice none 0 0) [] := World.ownsRow_nil _ _ _ _
theorem IOwn.ge {w : World} {B : Nat} {v : Value} {l : List Int} (h : IOwn w B v l) : ∀ k, v.ownBlock = some k → B ≤ k := own_ge h
theorem one_rd {w : World} {g : Nat} {x : Value} (h : w.cell? ⟨g, 0, none⟩ = some x) : Rd w (.slice (some ⟨g, 0, none⟩) 1 1) [x] :=
  ⟨some ⟨g, 0, none⟩, 1, rfl, Nat.le_refl _, by omega, fun j hj => ⟨_, rfl, by
    obtain rfl : j = 0 := by simpa using hj
    exact h⟩, fun h => by cases h⟩
theorem wpList_int1 {w : World} {ops : Array Oper} {rest : List Oper} {o : Oper} {a : Act} {Q : Exit → Act → World → Prop} (B : Nat) (v u : Value) (l : List Int) (n : Int) (hgd : o.guard = none) (s x : Operand)
    (ho : o.op = .call { callee := .builtin .append, args := #[s, x], argTypes := #[22, 22] })
    (hs : a.eval s = v) (hx : a.eval x = u) (hown : IOwn w B v l) (hrd : Rd w u [.int .i64 n]) (hl : l.length ≤ 1000000) (hB : B ≤ w.heap.size)
    (h : ∀ v' w', IOwn w' B v' (l ++ [n]) → Below B w w' → wpList Try.prog ops Q rest (a.put o.dst v') w') : wpList Try.prog ops Q (o :: rest) a w := by
  obtain ⟨i3, hi3, hz3, hs3, hb3⟩ := info_parts info3
  refine wpList_append_rd hgd s x 22 ho B 3 i3 (.int .i64 0) 8 Try.underlying22 hi3 hz3 hs3 hb3 rfl v u l.length (ints l) [.int .i64 n] hs hx hown hrd (by intro u hu; simp at hu; subst hu; rfl) (by unfold maxLen; simp; omega) (by simp; omega) hB ?_
  intro v' w' r1 r2 r3
  refine h v' w' ?_ (below_own (Below.refl B _) r2 hB hown.ge)
  unfold IOwn ints
  rw [List.length_append, List.map_append]
  exact r1
theorem new_cells (w : World) (cs : Array Value) (e : TypeId) : ∀ (j : Nat) (u : Value), cs.toList[j]? = some u → (w.alloc (.cells cs e)).cell? ((⟨w.heap.size, 0, none⟩ : Addr).add j) = some u := by
  intro j u hu
  have hadd : (⟨w.heap.size, 0, none⟩ : Addr).add j = ⟨w.heap.size, j, none⟩ := by unfold Addr.add; split <;> simp_all
  rw [hadd, cell_of_row _ _ j cs e (0, 0) (heap_alloc_last w _)]
  simpa using hu
def One (n : Int) (v : Value) (W : World) : Prop := ∃ g, v = .slice (some ⟨g, 0, none⟩) 1 1 ∧ W.cell? ⟨g, 0, none⟩ = some (.int .i64 n)
theorem persist_one (n : Int) : RelyT.Persist (One n) := fun v W W' ⟨g, h1, h2⟩ hb => ⟨g, h1, cell_later hb h2⟩
def tkI (b : List UInt8) (i : Nat) : Int := (((b.getD (2 * i) 0).toNat * 256 + (b.getD (2 * i + 1) 0).toNat : Nat) : Int) - 1
def takeI (b : List UInt8) : List Int := (List.range 16).map (tkI b)
theorem takeI_snoc (b : List UInt8) (i : Nat) (hi : i < 16) : (takeI b).take (i + 1) = (takeI b).take i ++ [tkI b i] := by
  rw [List.take_add_one]
  unfold takeI
  simp [hi]
theorem takeI_length (b : List UInt8) : (takeI b).length = 16 := by simp [takeI]
def goodI (k : Int) (b : List UInt8) : Prop := okI (takeI b) ∧ 5 = k ∧ bodyI (takeI b) = b

set_option maxRecDepth 100000 in
set_option maxHeartbeats 4000000 in
theorem take_any (k : Int) (b : List UInt8) (w : World) (hb56 : b.length = 56) :
    Calls Try.prog 20 #[blkV k b] w fun e w' => (goodI k b → ∃ u, e = .returned (.tuple #[u, .bool true]) ∧ IOwn w' w.heap.size u (takeI b)) ∧ (¬ goodI k b → e = .returned (.tuple #[.slice none 0 0, .bool false])) ∧ Below w.heap.size w w' := by
  go_enter Try.func20, Try.ntmps20
  go_wp2_with (refine wp_want rfl fun K hK => ?_; refine wp_blk_box rfl rfl hb56 ?_)
  intro w1 B1 b1 s1
  refine hK _ _ ?_
  clear hK K
  go_wp2_with fail
  go_loopw [4, 8] (fun u i wr => ∃ j : Nat, j ≤ 16 ∧ i = .int .i64 j ∧ IOwn wr w1.heap.size u ((takeI b).take j) ∧ Below w1.heap.size w1 wr) (fun _ i _ => 16 - (intOf i).toNat)
  case atStart => exact ⟨0, Nat.zero_le _, rfl, IOwn.nil _ _, Below.refl _ _⟩
  case round =>
    obtain ⟨j, hj, rfl, hU, hb⟩ := hrel
    have hBr := B1.later hb
    by_cases hlt : j < 16
    · have hU := hU.below (Below.refl wr.heap.size wr).drew
      have hdr := (Below.refl wr.heap.size wr).drew
      have e1 : IntKind.i64.wrap (2 * (j : Int)) = 2 * (j : Int) := IntWalk.i64_in _ (by omega)
      have e2 : IntKind.i64.wrap (2 * (j : Int) + 1) = 2 * (j : Int) + 1 := IntWalk.i64_in _ (by omega)
      have hBd := hBr.later hdr
      have c1 := hBd.byte (i := 2 * j) (by omega)
      have c2 := hBd.byte (i := 2 * j + 1) (by omega)
      have et : tkI b j = (((b[2 * j]'(by omega)).toNat * 256 + (b[2 * j + 1]'(by omega)).toNat : Nat) : Int) - 1 := by
        unfold tkI
        rw [List.getD_eq_getElem?_getD, List.getD_eq_getElem?_getD, List.getElem?_eq_getElem (by omega), List.getElem?_eq_getElem (by omega)]
        rfl
      have hts := Lib.hid (takeI_snoc b j hlt)
      generalize b[2 * j]'(by omega) = x0 at *
      generalize b[2 * j + 1]'(by omega) = x1 at *
      have hx0 := x0.toNat_lt
      have hx1 := x1.toNat_lt
      have y1 := fun x : RelyT.Lat wr.drew => cell_later x.2 c1
      have y2 := fun x : RelyT.Lat wr.drew => cell_later x.2 c2
      have hj2 : 2 * (j : Int) < 56 := by omega
      have hj3 : 2 * (j : Int) + 1 < 56 := by omega
      have hj4 : 0 ≤ 2 * (j : Int) := by omega
      have hj5 : 0 ≤ 2 * (j : Int) + 1 := by omega
      have t1 : (2 * (j : Int)).toNat = 2 * j := by omega
      have t2 : (2 * (j : Int) + 1).toNat = 2 * j + 1 := by omega
      have e3 : IntKind.i64.wrap (x0.toNat : Int) = (x0.toNat : Int) := IntWalk.i64_in _ (by omega)
      have e4 : IntKind.i64.wrap (x1.toNat : Int) = (x1.toNat : Int) := IntWalk.i64_in _ (by omega)
      have e5 : IntKind.i64.wrap ((x0.toNat : Int) * 256) = (x0.toNat : Int) * 256 := IntWalk.i64_in _ (by omega)
      have e6 : IntKind.i64.wrap ((x0.toNat : Int) * 256 + (x1.toNat : Int)) = (x0.toNat : Int) * 256 + (x1.toNat : Int) := IntWalk.i64_in _ (by omega)
      have e7 : IntKind.i64.wrap ((x0.toNat : Int) * 256 + (x1.toNat : Int) - 1) = (x0.toNat : Int) * 256 + (x1.toNat : Int) - 1 := IntWalk.i64_in _ (by omega)
      have et' := Lib.hid (show (x0.toNat : Int) * 256 + (x1.toNat : Int) - 1 = tkI b j from by rw [et]; omega)
      clear et
      go_wp2_with fail
      refine RelyT.wp_region_rely 18 (by kernel_rfl) (by kernel_rfl) ?_
      simp only [List.take_succ_cons, List.take_zero]
      generalize World.drew wr = wa at *
      repeat (first
        | (refine RelyT.wpR_step0 ?_ ?_ (fun K hK => ?_); rfl; rfl; go_simp; refine hK _ ?_; clear hK K))
      refine RelyT.wpR_fresh (One (tkI b j)) 28 rfl rfl rfl rfl (of_decide_eq_true rfl) (persist_one _) (fun x => ?_) ?_
      · go_simp
        rw [et'.out]
        exact ⟨below_new _ _, _, rfl, new_cells x.1 #[.int .i64 (tkI b j)] 3 0 _ rfl⟩
      refine RelyT.wpR_nil fun x => ?_
      obtain ⟨w5, w5b⟩ := x
      simp only [RelyT.close, List.drop_succ_cons, List.drop_zero]
      rintro u28 ⟨g, rfl, hg⟩
      clear y1 y2
      have hsz : w1.heap.size ≤ w5.heap.size := Nat.le_trans (Nat.le_trans hb.size hdr.size) w5b.size
      refine wpList_int1 w1.heap.size _ _ ((takeI b).take j) (tkI b j) rfl _ _ rfl rfl rfl (hU.below w5b) (one_rd hg) (by rw [List.length_take]; omega) hsz ?_
      intro u6 w6 hO6 hb6
      have hb6' := (hb.trans ((hdr.trans (w5b.mono hdr.size)).mono hb.size)).trans hb6
      go_wp2_with fail
      go_roundw
      case rel => exact ⟨j + 1, by omega, by go_num, by rw [hts.out]; exact hO6, hb6'⟩
      case measure => simp only [intOf]; omega
    · obtain rfl : j = 16 := by omega
      rw [List.take_of_length_le (by rw [takeI_length]; omega)] at hU
      go_wp2_with fail
      refine (put_any _ (takeI b) _ hU.rd).mono ?_
      rintro e w5 ⟨h1, h2, hb5⟩
      have hU5 := hU.below hb5
      have hB5 := (hBr.later hb5)
      have hb5' := hb.trans (hb5.mono hb.size)
      by_cases hok : okI (takeI b)
      · rw [h1 hok]
        by_cases hg : 5 = k ∧ bodyI (takeI b) = b
        · have hgood : goodI k b := ⟨hok, hg⟩
          have Hr := Lib.hid (decide_eq_true hg)
          clear hg
          go_wp2_with (refine wp_want rfl fun K hK => ?_; refine wp_blk_alloc rfl ?_)
          intro w6 B6 b6 s6
          refine hK _ _ ?_
          clear hK K
          go_wp2_with (refine wp_want rfl fun K hK => ?_; go_loud (refine wp_blk_store rfl rfl rfl (bodyI_length (Nat.le_of_eq (takeI_length b))) B6 ?_))
          intro w7 B7 b7 s7
          refine hK _ _ ?_
          clear hK K
          have b57 := below_grown b6 b7 (Nat.le_refl _) (Nat.le_refl _)
          have hBr7 := hB5.later b57
          have hU7 := hU5.below b57
          have hb7 := hb5'.trans (b57.mono hb5'.size)
          go_wp2_with (refine wp_want rfl fun K hK => ?_; first | (refine wp_blk_load rfl rfl B7 ?_; refine hK _ _ ?_; clear hK K) | (refine wp_blk_load rfl rfl hBr7 ?_; refine hK _ _ ?_; clear hK K) | (refine wp_blk_neqR true Hr.out rfl rfl rfl B7.1 hBr7.1 ?_; refine hK _ _ ?_; clear hK K))
          go_returns
          exact ⟨fun _ => ⟨_, rfl, own_mono hU7 (Nat.le_of_lt s1)⟩, fun h => (h hgood).elim, b1.trans (hb7.mono b1.size)⟩
        · have hgood : ¬ goodI k b := fun h => hg h.2
          have Hr := Lib.hid (decide_eq_false hg)
          clear hg
          go_wp2_with (refine wp_want rfl fun K hK => ?_; refine wp_blk_alloc rfl ?_)
          intro w6 B6 b6 s6
          refine hK _ _ ?_
          clear hK K
          go_wp2_with (refine wp_want rfl fun K hK => ?_; go_loud (refine wp_blk_store rfl rfl rfl (bodyI_length (Nat.le_of_eq (takeI_length b))) B6 ?_))
          intro w7 B7 b7 s7
          refine hK _ _ ?_
          clear hK K
          have b57 := below_grown b6 b7 (Nat.le_refl _) (Nat.le_refl _)
          have hBr7 := hB5.later b57
          have hU7 := hU5.below b57
          have hb7 := hb5'.trans (b57.mono hb5'.size)
          go_wp2_with (refine wp_want rfl fun K hK => ?_; first | (refine wp_blk_load rfl rfl B7 ?_; refine hK _ _ ?_; clear hK K) | (refine wp_blk_load rfl rfl hBr7 ?_; refine hK _ _ ?_; clear hK K) | (refine wp_blk_neqR false Hr.out rfl rfl rfl B7.1 hBr7.1 ?_; refine hK _ _ ?_; clear hK K))
          go_returns
          exact ⟨fun h => (hgood h).elim, fun _ => rfl, b1.trans (hb7.mono b1.size)⟩
      · rw [h2 hok]
        have hgood : ¬ goodI k b := fun h => hok h.1
        go_wp2_with (refine wp_want rfl fun K hK => ?_; refine wp_blk_alloc rfl ?_)
        intro w6 B6 b6 s6
        refine hK _ _ ?_
        clear hK K
        go_wp2_with (refine wp_want rfl fun K hK => ?_; refine wp_blk_store rfl rfl rfl Z56_length B6 ?_)
        intro w7 B7 b7 s7
        refine hK _ _ ?_
        clear hK K
        have b57 := below_grown b6 b7 (Nat.le_refl _) (Nat.le_refl _)
        have hBr7 := hB5.later b57
        have hU7 := hU5.below b57
        have hb7 := hb5'.trans (b57.mono hb5'.size)
        go_wp2_with fail
        go_returns
        exact ⟨fun h => (hgood h).elim, fun _ => rfl, b1.trans (hb7.mono b1.size)⟩
end Go.Proofs.Ytibpipppabommaa.Cl
