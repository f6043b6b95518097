/- slices.Concat of any number of rows of bytes. -/
import Derived.Test.YtgeiafijibgdhaaBlock
import Derived.Test.YtgeiafijibgdhaaOnto
set_option linter.unusedVariables false
set_option linter.unusedSimpArgs false
namespace Go.Proofs.Ytgeiafijibgdhaa.Cl
open Go Go.Proofs Go.RowKit Fl

def szN (ls : List (List UInt8)) (k : Nat) : Nat := (ls.take k).flatten.length
theorem szN_succ (ls : List (List UInt8)) (k : Nat) (h : k < ls.length) : szN ls (k + 1) = szN ls k + ls[k].length := by
  unfold szN
  rw [take_snoc ls k h, List.flatten_append, List.length_append]
  simp
theorem szN_le (ls : List (List UInt8)) (k : Nat) : szN ls k ≤ ls.flatten.length := by
  unfold szN
  have := congrArg (fun l => l.flatten.length) (List.take_append_drop k ls)
  simp only [List.flatten_append, List.length_append] at this
  omega
set_option maxRecDepth 100000 in
set_option maxHeartbeats 4000000 in
theorem concatN_any (g n c : Nat) (vs : List Value) (ls : List (List UInt8)) (w : World) (hn : n = ls.length) (hvl : vs.length = ls.length) (hc : ∀ j (h : j < vs.length), w.cell? ⟨g, j, none⟩ = some vs[j]) (hr : ∀ j (h : j < vs.length) (h' : j < ls.length), Rd w vs[j] (bs ls[j]))
    (h0 : 0 < ls.flatten.length) (h1 : ls.flatten.length ≤ 100000) (hn2 : n ≤ 1000) :
    Calls Try.prog 55 #[.slice (some ⟨g, 0, none⟩) n c] w fun e w' => ∃ u, e = .returned u ∧ OB w' w.heap.size u ls.flatten ∧ Below w.heap.size w w' := by
  subst hn
  go_enter Try.func55, Try.ntmps55
  go_wp2_with fail
  go_loop [3, 11] (fun s i => ∃ j : Nat, j ≤ ls.length ∧ i = .int .i64 (j : Int) ∧ s = .int .i64 (szN ls j : Nat)) (fun _ i => ls.length - (intOf i).toNat)
  case atStart => exact ⟨0, Nat.zero_le _, rfl, rfl⟩
  case round =>
    obtain ⟨j, hj, rfl, rfl⟩ := hrel
    by_cases hlt : j < ls.length
    · have hlI : (j : Int) < (ls.length : Int) := by omega
      have cj := hc j (by omega)
      have rj := hr j (by omega) hlt
      have hs := szN_succ ls j hlt
      have hs1 := szN_le ls (j + 1)
      obtain ⟨a, p, ev, _⟩ := id rj
      rw [ev] at cj
      rw [bs_length] at cj
      generalize ls[j].length = m at *
      clear rj ev hr hc
      have i1 : wrap64 ((szN ls j : Int) + (m : Int)) = ((szN ls (j + 1) : Nat) : Int) := by unfold wrap64; omega
      have i2 : ¬ ((szN ls (j + 1) : Nat) : Int) < 0 := by omega
      have hs := Lib.hid hs
      clear hs1
      go_wp2_with fail
      go_round
      case rel => exact ⟨j + 1, hlt, by go_num, by rw [hs.out]; go_num⟩
      case measure => simp only [intOf]; omega
    · have hlI : ¬ (j : Int) < (ls.length : Int) := by omega
      have e : szN ls j = ls.flatten.length := by unfold szN; rw [List.take_of_length_le (by omega)]
      rw [e]
      clear e
      obtain ⟨N, hN⟩ : ∃ N, N = ls.flatten.length := ⟨_, rfl⟩
      rw [← hN]
      have hg := fun w => grow_any N w (by omega) (by omega)
      clear hN
      go_wp2_with fail
      refine (hg _).mono ?_
      rintro e w2 ⟨u, rfl, hO, hb⟩
      have hOn : OB w2 w.heap.size u (ls.take 0).flatten := hO
      clear hO
      go_wp2_with fail
      clear hj hlt hlI
      go_loopw [6, 27] (fun s i wr => ∃ j : Nat, j ≤ ls.length ∧ i = .int .i64 (j : Int) ∧ OB wr w.heap.size s (ls.take j).flatten ∧ Below w.heap.size w wr) (fun _ i _ => ls.length - (intOf i).toNat)
      case atStart => exact ⟨0, Nat.zero_le _, rfl, hOn, hb⟩
      case round =>
        obtain ⟨j, hj, rfl, hO, hb⟩ := hrel
        by_cases hlt : j < ls.length
        · have hlI : (j : Int) < (ls.length : Int) := by omega
          have cj := cell_later hb (hc j (by omega))
          have rj := (hr j (by omega) hlt).below hb
          have hs := szN_succ ls j hlt
          have hs1 := szN_le ls (j + 1)
          unfold szN at hs
          have ht : (ls.take (j + 1)).flatten = (ls.take j).flatten ++ ls[j] := by rw [take_snoc ls j hlt, List.flatten_append]; simp
          have hlen : (ls.take j).flatten.length + ls[j].length ≤ 1000000 := by unfold szN at hs1; omega
          have ht := Lib.hid ht
          clear hs hs1
          obtain ⟨a, p, ev, _⟩ := id rj
          rw [bs_length] at ev
          rw [ev] at cj rj
          generalize (ls.take j).flatten = x at *
          generalize ls[j] = y at *
          clear ev hr hc hOn
          go_wp2_with (at_builtin; go_loud (refine wp_want rfl fun K hK => ?_; refine wp_appO w.heap.size _ _ x y hlen hO rj hb.size rfl rfl rfl ?_))
          intro u3 w3 hO3 t3
          refine hK _ _ ?_
          clear hK K
          have hb3 := hb.trans (t3.below hb.size hO.ge)
          go_wp2_with fail
          go_roundw
          case rel => exact ⟨j + 1, hlt, by go_num, by rw [ht.out]; exact hO3, hb3⟩
          case measure => simp only [intOf]; omega
        · have hlI : ¬ (j : Int) < (ls.length : Int) := by omega
          rw [List.take_of_length_le (by omega)] at hO
          go_wp2_with fail
          go_returns
          exact ⟨_, rfl, hO, hb⟩
end Go.Proofs.Ytgeiafijibgdhaa.Cl
