/- Configs out of choices: (*Picks).Config. -/
import Derived.Test.YtojebhpjllkdpaaPicks
import Derived.Test.YtojebhpjllkdpaaRelyG
import Derived.Test.YtojebhpjllkdpaaArea2
import Derived.Lib.SmallJoins
set_option linter.unusedVariables false
set_option linter.unusedSimpArgs false
namespace Go.Proofs.Ytojebhpjllkdpaa.Cl
open Go Go.Proofs Go.RowKit Fl

/-- a share -/
structure Sh where
  v : Int
  c : Int
  b : Int
  l : Int
  f : Int
def Sh.cells (s : Sh) : List Value := [.int .i64 s.v, .int .i64 s.c, .int .i64 s.b, .int .i64 s.l, .int .i64 s.f]
def Sh.ok (s : Sh) : Prop := (0 ≤ s.v ∧ s.v ≤ 3) ∧ (0 ≤ s.c ∧ s.c ≤ 15) ∧ (4 ≤ s.b ∧ s.b ≤ 100) ∧ (16 ≤ s.l ∧ s.l ≤ 100) ∧ 1 ≤ s.f ∧ s.f ≤ 50
def shCells (c : List Sh) : List Value := c.flatMap Sh.cells
theorem shCells_length (c : List Sh) : (shCells c).length = c.length * 5 := by
  induction c with
  | nil => rfl
  | cons s c ih => simp only [shCells, List.flatMap_cons, List.length_append, List.length_cons] at *; rw [ih]; simp [Sh.cells]; omega

/-! ### what the choices' calls do to the world -/
def pkRel (g : Nat) (v : Value) (l : List UInt8) : RelyG.Rel where
  R W W' := W.grownBy W' (some g) ∧ ((∃ n, Pk W g v l n) → ∃ n, Pk W' g v l n)
  refl W := ⟨grown_of_below (Below.refl _ _) _, id⟩
  trans h k := ⟨grownBy_trans h.1 k.1, fun x => k.2 (h.2 x)⟩

/-! ### what is known of the values -/
def Lt (m : Nat) (v : Value) (W : World) : Prop := ∃ k : Nat, k < m ∧ v = .int .i64 k
def Btw (lo hi : Nat) (v : Value) (W : World) : Prop := ∃ k : Nat, lo ≤ k ∧ k ≤ hi ∧ v = .int .i64 k
def Lab (v : Value) (W : World) : Prop := ∃ a b : Nat, a < 3 ∧ b < 4 ∧ v = .agg #[.int .i64 a, .int .i64 b]
def blk : Nat → Int | 0 => 8 | 1 => 20 | 2 => 40 | 3 => 4 | _ => 100
def Five (g : Nat) (v : Value) (W : World) : Prop := ∃ h, v = .slice (some ⟨h, 0, none⟩) 5 5 ∧ h ≠ g ∧ ∀ k, k < 5 → W.cell? ⟨h, k, none⟩ = some (.int .i64 (blk k))
def At5 (g : Nat) (v : Value) (W : World) : Prop := ∃ h k, v = .pointer (some ⟨h, k, none⟩) ∧ k < 5 ∧ h ≠ g ∧ W.cell? ⟨h, k, none⟩ = some (.int .i64 (blk k))
def ShV (v : Value) (W : World) : Prop := ∃ s : Sh, s.ok ∧ v = .agg s.cells.toArray
theorem persist_five (g : Nat) (pv : Value) (l : List UInt8) : RelyG.Persist (pkRel g pv l) (Five g) := by
  rintro v W W' ⟨h, e, hg, hc⟩ hr
  exact ⟨h, e, hg, fun k hk => cell_grown hr.1 hg (hc k hk)⟩
theorem persist_at5 (g : Nat) (pv : Value) (l : List UInt8) : RelyG.Persist (pkRel g pv l) (At5 g) := by
  rintro v W W' ⟨h, k, e, hk, hg, hc⟩ hr
  exact ⟨h, k, e, hk, hg, cell_grown hr.1 hg hc⟩
/-- a box of a share that is the call's own -/
def NewS (B g : Nat) (v : Value) (W : World) : Prop := ∃ h, v = .pointer (some ⟨h, 0, none⟩) ∧ B ≤ h ∧ h ≠ g ∧ W.heap[h]? = some (.cells #[.int .i64 0, .int .i64 0, .int .i64 0, .int .i64 0, .int .i64 0] 54 (0, 0))
theorem heap_grown {w w1 : World} {g h : Nat} {o : Obj} (hg : w.grownBy w1 (some g)) (hne : h ≠ g) (ho : w.heap[h]? = some o) : w1.heap[h]? = some o := by
  have hl := (Array.getElem?_eq_some_iff.1 ho).1
  rw [hg.block h hl (by simpa using hne)]; exact ho
theorem persist_newS (B g : Nat) (pv : Value) (l : List UInt8) : RelyG.Persist (pkRel g pv l) (NewS B g) := by
  rintro v W W' ⟨h, e, hB, hg, hc⟩ hr
  exact ⟨h, e, hB, hg, heap_grown hr.1 hg hc⟩

theorem pk_num {g m : Nat} {v : Value} {l : List UInt8} {w0 : World} (hp0 : ∃ n, Pk w0 g v l n) (x : RelyG.Lat (pkRel g v l) w0) (hm : 0 < m) (hm2 : m < 1000) :
    Calls Try.prog 49 #[.pointer (some ⟨g, 0, none⟩), .int .i64 m] x.1 fun e w' => ∃ u, e = .returned u ∧ (pkRel g v l).R x.1 w' ∧ Lt m u w' := by
  obtain ⟨n, hn⟩ := x.2.2 hp0
  refine (num_pick g n m v l x.1 hn hm hm2).mono ?_
  rintro e w' ⟨rfl, h2, h3⟩
  exact ⟨_, rfl, ⟨h3, fun _ => ⟨_, h2⟩⟩, _, pick_lt l n m hm, rfl⟩

/-- a config that the call owns -/
structure Cfg (w : World) (B : Nat) (cv : Value) (c : List Sh) : Prop where
  own : w.ownsRow B 54 5 cv c.length (shCells c)
  ok : ∀ s ∈ c, s.ok
  apart : c.Pairwise fun a b => ¬ (a.v = b.v ∧ a.c = b.c)
theorem Cfg.grown {w w1 : World} {B g : Nat} {cv : Value} {c : List Sh} (h : Cfg w B cv c) (hg : w.grownBy w1 (some g)) (hgB : g < B) : Cfg w1 B cv c := by
  refine ⟨⟨h.own.1, ?_⟩, h.ok, h.apart⟩
  rcases h.own.2 with h0 | ⟨k, cap, cur, hv, hb, hh, r⟩
  · exact .inl h0
  · exact .inr ⟨k, cap, cur, hv, hb, heap_grown hg (by omega) hh, r⟩

/-! ### boxes of one's own beside -/
theorem grownBy_above {a b c : World} {row : Option Nat} {h : Nat} (hab : a.grownBy b row) (hbc : b.grownBy c (some h)) (hh : a.heap.size ≤ h) : a.grownBy c row :=
  ⟨hbc.os.trans hab.os, hbc.tape.trans hab.tape, hbc.output.trans hab.output, Nat.le_trans hab.size hbc.size, fun k hk hr => (hbc.block k (Nat.lt_of_lt_of_le hk hab.size) (by simp; omega)).trans (hab.block k hk hr)⟩
theorem pk_above {g : Nat} {v : Value} {l : List UInt8} {a b c : World} {h : Nat} (ha : ∃ n, Pk a g v l n) (hb : ∃ n, Pk b g v l n) (hbc : b.grownBy c (some h)) (hh : a.heap.size ≤ h) : ∃ n, Pk c g v l n := by
  obtain ⟨na, pa⟩ := ha
  obtain ⟨n, pb⟩ := hb
  have hg : g < a.heap.size := World.block_lt_of_cell? _ _ pa.c0
  have hgb := World.block_lt_of_cell? _ _ pb.c0
  have hblk : c.heap[g]? = b.heap[g]? := hbc.block g hgb (by simp; omega)
  refine ⟨n, ?_, ?_, ?_, ?_, pb.ne, pb.le⟩
  · exact (World.cell?_of_block (w := b) hblk).trans pb.c0
  · exact (World.cell?_of_block (w := b) hblk).trans pb.c1
  · exact (World.frozen?_of_block (w := b) hblk).trans pb.fr
  · obtain ⟨ad, cap, rfl, h1, h2, h3, h4⟩ := pb.rd
    refine ⟨ad, cap, rfl, h1, h2, fun j hj => ?_, h4⟩
    obtain ⟨a1, e1, hc⟩ := h3 j hj
    obtain ⟨a2, e2, hc2⟩ := pa.rd.at_ j hj
    rw [e1] at e2
    obtain rfl := Option.some.inj e2
    have hlt := World.block_lt_of_cell? _ _ hc2
    exact ⟨a1, e1, cell_grown hbc (by omega) hc⟩
theorem Cfg.above {a b c : World} {B h : Nat} {cv : Value} {cs : List Sh} (hc : Cfg b B cv cs) (hca : Cfg a B cv cs) (hbc : b.grownBy c (some h)) (hh : a.heap.size ≤ h) : Cfg c B cv cs := by
  refine ⟨⟨hc.own.1, ?_⟩, hc.ok, hc.apart⟩
  rcases hc.own.2 with h0 | ⟨k, cap, cur, hv, hb, hr, r⟩
  · exact .inl h0
  · rcases hca.own.2 with ⟨h0, _⟩ | ⟨k', cap', cur', hv', hb', hr', r'⟩
    · rw [h0] at hv; simp at hv
    · rw [hv] at hv'
      simp at hv'
      have hl := (Array.getElem?_eq_some_iff.1 hr').1
      exact .inr ⟨k, cap, cur, hv, hb, heap_grown hbc (by omega) hr, r⟩
theorem shCells_get (c : List Sh) : ∀ (j i : Nat) (hj : j < c.length), i < 5 → (shCells c)[j * 5 + i]? = c[j].cells[i]? := by
  induction c with
  | nil => intro j i hj; simp at hj
  | cons s c ih =>
    intro j i hj hi
    have hl : s.cells.length = 5 := rfl
    simp only [shCells, List.flatMap_cons]
    cases j with
    | zero => rw [List.getElem?_append_left (by omega)]; simp
    | succ j =>
      rw [List.getElem?_append_right (by omega), hl]
      have e : (j + 1) * 5 + i - 5 = j * 5 + i := by omega
      rw [e]
      exact ih j i (by simpa using hj) hi
/-- a cell of a config -/
theorem Cfg.cell {w : World} {B : Nat} {cap gb : Nat} {c : List Sh} (h : Cfg w B (.slice (some ⟨gb, 0, none⟩) c.length cap) c) (j i : Nat) (hj : j < c.length) (hi : i < 5) : w.cell? ⟨gb, j * 5 + i, none⟩ = c[j].cells[i]? := by
  rcases h.own.2 with ⟨h0, _⟩ | ⟨k, cap', cur, hv, hb, hr, h1, h2, h3, h4⟩
  · simp at h0
  · simp at hv
    obtain ⟨rfl, rfl⟩ := hv
    rw [Joins.cell_of_block hr, ← shCells_get c j i hj hi, ← h4, List.getElem?_take, if_pos (by omega), Array.getElem?_toList]
/-- a label's place in the row in which labels are tried -/
def code (v c : Int) : Nat := (c * 4 + v).toNat
def bump (v c : Int) : Int × Int := ((v + 1) % 4, if (v + 1) % 4 = 0 then (c + 1) % 16 else c)
theorem code_bump (v c : Int) (hv : 0 ≤ v ∧ v ≤ 3) (hc : 0 ≤ c ∧ c ≤ 15) : code (bump v c).1 (bump v c).2 = (code v c + 1) % 64 ∧ (0 ≤ (bump v c).1 ∧ (bump v c).1 ≤ 3) ∧ (0 ≤ (bump v c).2 ∧ (bump v c).2 ≤ 15) := by
  unfold code bump
  dsimp only
  split <;> omega
theorem code_inj {v c v' c' : Int} (hv : 0 ≤ v ∧ v ≤ 3) (hc : 0 ≤ c ∧ c ≤ 15) (hv' : 0 ≤ v' ∧ v' ≤ 3) (hc' : 0 ≤ c' ∧ c' ≤ 15) (h : code v c = code v' c') : v = v' ∧ c = c' := by
  unfold code at h; omega
theorem sub_len {l : List Nat} : ∀ {C : List Nat}, l.Nodup → (∀ y ∈ l, y ∈ C) → l.length ≤ C.length := by
  induction l with
  | nil => intro C _ _; simp
  | cons y l ih =>
    intro C hn hs
    have hy := hs y (by simp)
    have := ih (C := C.erase y) (List.nodup_cons.1 hn).2 (fun z hz => (List.mem_erase_of_ne (by intro e; subst e; exact (List.nodup_cons.1 hn).1 hz)).2 (hs z (by simp [hz])))
    rw [List.length_erase_of_mem hy] at this
    have := List.length_pos_of_mem hy
    simp; omega
theorem free_code (C : List Nat) (h : C.length ≤ 8) : ∃ y, y < 64 ∧ y ∉ C := by
  by_cases hx : ∃ y ∈ List.range 9, y ∉ C
  · obtain ⟨y, hy, hn⟩ := hx
    simp at hy
    exact ⟨y, by omega, hn⟩
  · have := sub_len (l := List.range 9) (C := C) List.nodup_range (fun y hy => Classical.byContradiction fun hn => hx ⟨y, hy, hn⟩)
    simp at this
    omega
/-- how far the label in the box is from one that nobody has -/
def boxDist (w : World) (b y : Nat) : Nat := match w.cell? ⟨b, 0, none⟩, w.cell? ⟨b, 1, none⟩ with
  | some (.int _ v), some (.int _ c) => (y + 64 - code v c) % 64
  | _, _ => 0
theorem boxDist_of {w : World} {b y : Nat} {s : Sh} {t : TypeId} (h : w.heap[b]? = some (.cells s.cells.toArray t (0, 0))) : boxDist w b y = (y + 64 - code s.v s.c) % 64 := by
  unfold boxDist
  rw [Joins.cell_of_block h, Joins.cell_of_block h]
  rfl
theorem Cfg.form {w : World} {B : Nat} {cv : Value} {c : List Sh} (h : Cfg w B cv c) : ∃ ad cap, cv = .slice ad c.length cap := by
  rcases h.own.2 with ⟨h0, h1⟩ | ⟨k, cap, cur, hv, _⟩
  · exact ⟨none, 0, by rw [h0, h1]⟩
  · exact ⟨_, _, hv⟩
theorem Cfg.at_ {w : World} {B cap : Nat} {ad : Option Addr} {c : List Sh} (h : Cfg w B (.slice ad c.length cap) c) (hl : 0 < c.length) : ∃ gb, ad = some ⟨gb, 0, none⟩ := by
  rcases h.own.2 with ⟨h0, h1⟩ | ⟨k, cap, cur, hv, _⟩
  · omega
  · simp at hv; exact ⟨_, hv.1⟩
theorem info54 : (Try.prog.info? 54).map (fun i => (i.zero, i.size, i.bytes)) = some (some (.agg #[.int .i64 0, .int .i64 0, .int .i64 0, .int .i64 0, .int .i64 0]), 5, 40) := by kernel_rfl
theorem new_cells (w : World) (cs : Array Value) (e : TypeId) : ∀ (j : Nat) (u : Value), cs.toList[j]? = some u → (w.alloc (.cells cs e)).cell? ((⟨w.heap.size, 0, none⟩ : Addr).add j) = some u := by
  intro j u h
  rw [Addr.add_lit, Nat.zero_add, cell_of_row _ _ j cs e _ (heap_alloc_new w _)]
  rw [← h, Array.getElem?_toList]
theorem Cfg.own_grown {w w' : World} {B : Nat} {cv : Value} {c : List Sh} (h : Cfg w B cv c) (hg : w.grownBy w' cv.ownBlock) : ∃ h, B ≤ h ∧ w.grownBy w' (some h) := by
  rcases h.own.2 with ⟨h0, _⟩ | ⟨k, cap, cur, hv, hb, _⟩
  · subst h0
    exact ⟨B, Nat.le_refl _, hg.os, hg.tape, hg.output, hg.size, fun k hk _ => hg.block k hk (by simp [Value.ownBlock])⟩
  · subst hv
    exact ⟨k, hb, hg⟩
theorem shCells_snoc (c : List Sh) (s : Sh) : shCells (c ++ [s]) = shCells c ++ s.cells := by simp [shCells]
theorem Cfg.snoc {w : World} {B : Nat} {cv : Value} {c : List Sh} {s : Sh} {B0 : Nat} {w0 : World} {cv0 : Value} (h0 : Cfg w0 B0 cv0 c) (h : w.ownsRow B 54 5 cv (c.length + 1) (shCells c ++ s.cells)) (hs : s.ok) (hap : ∀ (m : Nat) (h : m < c.length), ¬ (c[m].v = s.v ∧ c[m].c = s.c)) : Cfg w B cv (c ++ [s]) := by
  refine ⟨?_, ?_, ?_⟩
  · rw [shCells_snoc, List.length_append]; exact h
  · intro x hx
    rcases List.mem_append.1 hx with hx | hx
    · exact h0.ok x hx
    · simp at hx; subst hx; exact hs
  · rw [List.pairwise_append]
    refine ⟨h0.apart, by simp, fun a ha b hb => ?_⟩
    simp at hb
    subst hb
    obtain ⟨m, hm, rfl⟩ := List.mem_iff_getElem.1 ha
    exact hap m hm
theorem oneCell_sh (s : Sh) : ∀ u ∈ s.cells, u.oneCell' = true := by
  intro u hu
  simp only [Sh.cells, List.mem_cons, List.not_mem_nil, or_false] at hu
  rcases hu with rfl | rfl | rfl | rfl | rfl <;> rfl
theorem box_cells {w : World} {b : Nat} {s : Sh} {t : TypeId} (h : w.heap[b]? = some (.cells s.cells.toArray t (0, 0))) : Box5 w b s.v s.c s.b s.l s.f :=
  ⟨Joins.cell_of_block h 0, Joins.cell_of_block h 1, Joins.cell_of_block h 2, Joins.cell_of_block h 3, Joins.cell_of_block h 4⟩
theorem eq_lab (a b a' b' : Int) (w : World) : (binOp .eql 52 (.agg #[.int .i64 a, .int .i64 b]) (.agg #[.int .i64 a', .int .i64 b'])).run Try.prog w = .ok (.bool (decide (a = a' ∧ b = b'))) w := by
  by_cases h1 : a = a' <;> by_cases h2 : b = b' <;> simp [go_sem, h1, h2]
/-- the distance of a share's label from the free one -/
def dist (y : Nat) (s : Sh) : Nat := (y + 64 - code s.v s.c) % 64
def bumped (s : Sh) : Sh := ⟨(bump s.v s.c).1, (bump s.v s.c).2, s.b, s.l, s.f⟩
theorem bumped_ok {s : Sh} (h : s.ok) : (bumped s).ok := by
  obtain ⟨_, h1, h2⟩ := code_bump s.v s.c h.1 h.2.1
  exact ⟨h1, h2, h.2.2⟩
theorem dist_bumped {s : Sh} {c : List Sh} {y j : Nat} (h : s.ok) (hy : y < 64) (hyn : y ∉ c.map fun s => code s.v s.c) (hj : j < c.length) (he : c[j].v = s.v ∧ c[j].c = s.c) : dist y (bumped s) < dist y s := by
  obtain ⟨h0, _, _⟩ := code_bump s.v s.c h.1 h.2.1
  have hne : code s.v s.c ≠ y := by
    intro e
    apply hyn
    refine List.mem_map.2 ⟨c[j], List.getElem_mem hj, ?_⟩
    rw [he.1, he.2]; exact e
  have hlt : code s.v s.c < 64 := by
    have := h.1; have := h.2.1
    unfold code; omega
  unfold dist bumped
  dsimp only
  rw [h0]
  omega
theorem dist_step {y j j3 n : Nat} {s s3 : Sh} (h : (j3 = j ∧ dist y s3 = dist y s) ∨ dist y s3 < dist y s) (hj : j3 < n) :
    (y + 64 - code s3.v s3.c) % 64 * (n + 1) + (n - (j3 + 1)) < (y + 64 - code s.v s.c) % 64 * (n + 1) + (n - j) := by
  show dist y s3 * (n + 1) + (n - (j3 + 1)) < dist y s * (n + 1) + (n - j)
  rcases h with ⟨rfl, h⟩ | h
  · rw [h]; omega
  · have : (dist y s3 + 1) * (n + 1) ≤ dist y s * (n + 1) := Nat.mul_le_mul_right _ h
    rw [Nat.add_mul] at this
    omega
theorem bump0 {w : World} {b nv nc : Nat} {s : Sh} {t : TypeId} (h : w.heap[b]? = some (.cells s.cells.toArray t (0, 0))) (hv : s.v = nv) (hc : s.c = nc) (hz : (((nv : Int) + 1) % 4 == 0) = false) :
    (w.setCell ⟨b, 0, none⟩ (.int .i64 (((nv : Int) + 1) % 4))).heap[b]? = some (.cells (bumped s).cells.toArray t (0, 0)) := by
  rw [Joins.block_setCell h]
  obtain ⟨v, c, x, y, z⟩ := s
  dsimp only at hv hc
  subst hv hc
  have hz' : ¬ (((nv : Int) + 1) % 4 = 0) := by simpa using hz
  simp [bumped, bump, Sh.cells, hz']
theorem bump1 {w : World} {b nv nc : Nat} {s : Sh} {t : TypeId} (h : w.heap[b]? = some (.cells s.cells.toArray t (0, 0))) (hv : s.v = nv) (hc : s.c = nc) (hz : (((nv : Int) + 1) % 4 == 0) = true) :
    ((w.setCell ⟨b, 0, none⟩ (.int .i64 (((nv : Int) + 1) % 4))).setCell ⟨b, 1, none⟩ (.int .i64 (((nc : Int) + 1) % 16))).heap[b]? = some (.cells (bumped s).cells.toArray t (0, 0)) := by
  rw [Joins.block_setCell (Joins.block_setCell h _)]
  obtain ⟨v, c, x, y, z⟩ := s
  dsimp only at hv hc
  subst hv hc
  have hz' : ((nv : Int) + 1) % 4 = 0 := by simpa using hz
  simp [bumped, bump, Sh.cells, hz']
theorem sh_ok {a b z o f : Nat} (ha : a < 3) (hb : b < 4) (hz1 : 4 ≤ z) (hz2 : z ≤ 100) (ho1 : 16 ≤ o) (ho2 : o ≤ 45) (hf1 : 1 ≤ f) (hf2 : f ≤ 9) : Sh.ok ⟨a, b, z, o, f⟩ := by
  unfold Sh.ok
  dsimp only
  omega
theorem lt5 {k : Nat} (h : k < 5) : k = 0 ∨ k = 1 ∨ k = 2 ∨ k = 3 ∨ k = 4 := by omega
theorem blk_in {k : Nat} (h : k < 5) : ∃ z : Nat, 4 ≤ z ∧ z ≤ 100 ∧ blk k = (z : Int) := by
  rcases lt5 h with rfl | rfl | rfl | rfl | rfl
  · exact ⟨8, by decide, by decide, rfl⟩
  · exact ⟨20, by decide, by decide, rfl⟩
  · exact ⟨40, by decide, by decide, rfl⟩
  · exact ⟨4, by decide, by decide, rfl⟩
  · exact ⟨100, by decide, by decide, rfl⟩
theorem pk_lt {g : Nat} {v : Value} {l : List UInt8} {w0 : World} (hp0 : ∃ n, Pk w0 g v l n) (x : RelyG.Lat (pkRel g v l) w0) : g < x.1.heap.size := by
  obtain ⟨n, hn⟩ := x.2.2 hp0
  exact World.block_lt_of_cell? _ _ hn.c0
theorem pk_alloc {g : Nat} {v : Value} {l : List UInt8} {w0 : World} (x : RelyG.Lat (pkRel g v l) w0) (o : Obj) : (pkRel g v l).R x.1 (x.1.alloc o) :=
  ⟨grown_of_below (below_new _ _) _, fun ⟨n, h⟩ => ⟨n, h.below (below_new _ _)⟩⟩
end Go.Proofs.Ytojebhpjllkdpaa.Cl
