/- area.Sizes. -/
import Derived.Test.YtojebhpjllkdpaaConf4
import Derived.Test.YtojebhpjllkdpaaConfig2
set_option linter.unusedVariables false
set_option linter.unusedSimpArgs false
namespace Go.Proofs.Ytojebhpjllkdpaa.Cl
open Go Go.Proofs Go.RowKit Fl

theorem info3 : (Try.prog.info? 3).map (fun i => (i.zero, i.size, i.bytes)) = some (some (.int .i64 0), 1, 8) := by kernel_rfl
def sizeOf (s : Sh) : Int := 2 + s.l + s.b
def sizes (c : List Sh) : List Value := c.map fun s => .int .i64 (sizeOf s)
theorem sizes_snoc (c : List Sh) (k : Nat) (hk : k < c.length) : sizes (c.take (k + 1)) = sizes (c.take k) ++ [.int .i64 (sizeOf c[k])] := by
  unfold sizes
  rw [List.take_add_one, List.map_append, List.getElem?_eq_getElem hk]
  rfl

theorem sizesWrong_any (cv : Value) (c : List Sh) (w : World) (hc : RdC w cv c) (hok : confOK c = false) :
    Calls Try.prog 31 #[cv] w fun e w' => e = .returned (.slice none 0 0) ∧ Below w.heap.size w w' := by
  go_enter Try.func31, Try.ntmps31
  go_wp2_with fail
  refine (confMay_any cv c _ hc).mono ?_
  rw [hok]
  rintro e w1 ⟨rfl, hb1⟩
  go_wp2_with fail
  go_ret
  exact ⟨rfl, hb1⟩

set_option maxHeartbeats 4000000 in
theorem sizes_any (cv : Value) (c : List Sh) (w : World) (hc : RdC w cv c) (hok : confOK c = true) (hsh : ∀ s ∈ c, s.ok) (h8 : c.length ≤ 8) :
    Calls Try.prog 31 #[cv] w fun e w' => ∃ u, e = .returned u ∧ w'.ownsRow w.heap.size 3 1 u c.length (sizes c) ∧ Below w.heap.size w w' := by
  obtain ⟨ad, cap, rfl, h1, h2, h3⟩ := id hc
  obtain ⟨i3, hi3, hz3, hs3, hb3⟩ := info_parts info3
  go_enter Try.func31, Try.ntmps31
  go_wp2_with fail
  refine (confMay_any _ c _ hc).mono ?_
  rw [hok]
  rintro e w1 ⟨rfl, hb1⟩
  go_wp2_with fail
  go_loopw [2, 10] (fun u i wr => ∃ k : Nat, k ≤ c.length ∧ i = .int .i64 k ∧ wr.ownsRow w.heap.size 3 1 u k (sizes (c.take k)) ∧ Below w.heap.size w wr) (fun _ i _ => c.length - (intOf i).toNat)
  case atStart => exact ⟨0, Nat.zero_le _, rfl, ⟨rfl, .inl ⟨rfl, rfl⟩⟩, hb1⟩
  case round =>
    obtain ⟨k, hk, rfl, hown, hb⟩ := hrel
    by_cases hlt : k < c.length
    · obtain ⟨gb, off, rfl, hcell⟩ := h3 (by omega)
      have q0 := cell_later hb (show w.cell? ⟨gb, off + k * 5, none⟩ = some (.int .i64 c[k].v) from hcell k hlt 0 (by decide))
      have q1 := cell_later hb (show w.cell? ⟨gb, off + k * 5 + 1, none⟩ = some (.int .i64 c[k].c) from hcell k hlt 1 (by decide))
      have q2 := cell_later hb (show w.cell? ⟨gb, off + k * 5 + 2, none⟩ = some (.int .i64 c[k].b) from hcell k hlt 2 (by decide))
      have q3 := cell_later hb (show w.cell? ⟨gb, off + k * 5 + 3, none⟩ = some (.int .i64 c[k].l) from hcell k hlt 3 (by decide))
      have q4 := cell_later hb (show w.cell? ⟨gb, off + k * 5 + 4, none⟩ = some (.int .i64 c[k].f) from hcell k hlt 4 (by decide))
      have hsn := Lib.hid (sizes_snoc c k hlt)
      have hxok := hsh c[k] (List.getElem_mem hlt)
      generalize c[k] = x at *
      clear hcell h3
      go_wp2_with fail
      refine at_world fun w2 hw2 => ?_
      have hb2 : Below wr.heap.size wr w2 := by rw [hw2]; exact below_new _ _
      have hown := own_below hown hb2
      have hb2 := hb.trans (hb2.mono hb.size)
      clear hw2 q0 q1 q2 q3 q4
      refine (size_any x.v x.c x.b x.l x.f _ (by have := hxok.2.2.1; omega) (by have := hxok.2.2.2.1; omega)).mono ?_
      rintro e w3 ⟨rfl, hb3'⟩
      have hown := own_below hown hb3'
      have hb3' := hb2.trans (hb3'.mono hb2.size)
      have hown4 := own_below hown (below_new w3 (.cells #[.int .i64 (2 + x.l + x.b)] 3))
      go_wp2_with (at_builtin; refine wpList_append_own _ rfl _ _ 49 rfl w.heap.size 3 i3 _ 1 8 Try.underlying49 hi3 hz3 hs3 hb3 rfl (by decide) _ k (sizes (c.take k)) rfl hown4 ⟨w3.heap.size, 0, none⟩ 1 1 [.int .i64 (2 + x.l + x.b)] rfl rfl (new_cells w3 #[.int .i64 (2 + x.l + x.b)] _) (by intro u hu; simp at hu; subst hu; rfl) (by unfold maxLen; omega) (by omega) (Nat.le_trans hb3'.size (le_new _ _)) ?_)
      intro u' w5 hown5 hgr5 _
      have hb5 : Below w.heap.size w w5 := below_own (hb3'.trans (below_mono (below_new _ _) hb3'.size)) hgr5 (Nat.le_trans hb3'.size (le_new _ _)) (own_ge hown4)
      go_wp2_with fail
      go_roundw
      case rel => exact ⟨k + 1, by omega, by go_num, by rw [hsn.out]; exact hown5, hb5⟩
      case measure => simp [intOf]; omega
    · obtain rfl : k = c.length := by omega
      rw [List.take_length] at hown
      go_wp2_with fail
      go_ret
      exact ⟨_, rfl, hown, hb⟩
end Go.Proofs.Ytojebhpjllkdpaa.Cl
