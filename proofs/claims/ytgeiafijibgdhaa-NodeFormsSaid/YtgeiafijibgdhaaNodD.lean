/- node: what a node's block reads as. -/
import Derived.Test.YtgeiafijibgdhaaNodC
set_option linter.unusedVariables false
set_option linter.unusedSimpArgs false
namespace Go.Proofs.Ytgeiafijibgdhaa.Cl
open Go Go.Proofs Go.RowKit Fl Rely

theorem foldl_be_n : ∀ k n a, (be k n).foldl (fun n b => n * 256 + b.toNat) a = a * 256 ^ k + n % 256 ^ k
  | 0, n, a => by simp [be, Nat.mod_one]
  | k + 1, n, a => by
    simp only [be, List.foldl_cons]
    have h8 : (UInt8.ofNat (n / 256 ^ k)).toNat = n / 256 ^ k % 256 := UInt8.toNat_ofNat'
    rw [foldl_be_n k n, h8, show (256 : Nat) ^ (k + 1) = 256 ^ k * 256 from rfl, Nat.mod_mul, Nat.add_mul, Nat.mul_assoc, Nat.mul_comm 256, Nat.mul_comm (256 ^ k) (n / 256 ^ k % 256)]
    omega
theorem num_be_lt {k n : Nat} (h : n < 256 ^ k) : num (be k n) = n := by
  unfold num
  rw [foldl_be_n, Nat.mod_eq_of_lt h]; omega
theorem part_at {l pre m post : List UInt8} {a n : Nat} (hl : l = pre ++ (m ++ post)) (ha : pre.length = a) (hn : m.length = n) : part l a n = m := by
  unfold part
  rw [hl, List.drop_left' ha, List.take_left' hn]
theorem nodB_eq (n : Nd) : nodB n = be 4 n.g.toNat ++ (be 2 n.k.toNat ++ (be 4 n.z.toNat ++ (be 2 (n.d0 + 1).toNat ++ (be 2 (n.d1 + 1).toNat ++ (be 2 (n.d2 + 1).toNat ++ (be 2 (n.d3 + 1).toNat ++ (be 2 (n.x + 1).toNat ++ (be 1 n.s.length ++ n.s)))))))) := by
  unfold nodB headN atsB placesN
  simp only [List.flatMap_cons, List.flatMap_nil, List.append_nil, List.append_assoc]
theorem readNd_own {kind : Int} {n : Nd} (ok : NdOk n) (h : mayN kind n) : readNd (ndBody kind n) = n := by
  obtain ⟨hk, ⟨hg1, hk0, hk9⟩, ⟨hz0, hz9⟩, hs32, hpl⟩ := mayN_facts h
  have hg2 := ok.g.2
  have p0 := hpl n.d0 (by simp [placesN])
  have p1 := hpl n.d1 (by simp [placesN])
  have p2 := hpl n.d2 (by simp [placesN])
  have p3 := hpl n.d3 (by simp [placesN])
  have p4 := hpl n.x (by simp [placesN])
  have hb : ndBody kind n = be 4 n.g.toNat ++ (be 2 n.k.toNat ++ (be 4 n.z.toNat ++ (be 2 (n.d0 + 1).toNat ++ (be 2 (n.d1 + 1).toNat ++ (be 2 (n.d2 + 1).toNat ++ (be 2 (n.d3 + 1).toNat ++ (be 2 (n.x + 1).toNat ++ (be 1 n.s.length ++ (n.s ++ Z56.drop (nodB n).length))))))))) := by
    unfold ndBody
    rw [if_pos h, nodB_eq]
    simp only [List.append_assoc]
  generalize ndBody kind n = b at *
  generalize Z56.drop (nodB n).length = P at *
  have e0 : part b 0 4 = be 4 n.g.toNat := part_at (pre := []) hb rfl (be_length _ _)
  have e1 : part b 4 2 = be 2 n.k.toNat := part_at (pre := be 4 n.g.toNat) hb (be_length _ _) (be_length _ _)
  have e2 : part b 6 4 = be 4 n.z.toNat := part_at (pre := be 4 n.g.toNat ++ be 2 n.k.toNat) (by rw [hb]; simp only [List.append_assoc]; rfl) (by simp [be_length]) (be_length _ _)
  have e3 : part b 10 2 = be 2 (n.d0 + 1).toNat := part_at (pre := be 4 n.g.toNat ++ be 2 n.k.toNat ++ be 4 n.z.toNat) (by rw [hb]; simp only [List.append_assoc]; rfl) (by simp [be_length]) (be_length _ _)
  have e4 : part b 12 2 = be 2 (n.d1 + 1).toNat := part_at (pre := be 4 n.g.toNat ++ be 2 n.k.toNat ++ be 4 n.z.toNat ++ be 2 (n.d0 + 1).toNat) (by rw [hb]; simp only [List.append_assoc]; rfl) (by simp [be_length]) (be_length _ _)
  have e5 : part b 14 2 = be 2 (n.d2 + 1).toNat := part_at (pre := be 4 n.g.toNat ++ be 2 n.k.toNat ++ be 4 n.z.toNat ++ be 2 (n.d0 + 1).toNat ++ be 2 (n.d1 + 1).toNat) (by rw [hb]; simp only [List.append_assoc]; rfl) (by simp [be_length]) (be_length _ _)
  have e6 : part b 16 2 = be 2 (n.d3 + 1).toNat := part_at (pre := be 4 n.g.toNat ++ be 2 n.k.toNat ++ be 4 n.z.toNat ++ be 2 (n.d0 + 1).toNat ++ be 2 (n.d1 + 1).toNat ++ be 2 (n.d2 + 1).toNat) (by rw [hb]; simp only [List.append_assoc]; rfl) (by simp [be_length]) (be_length _ _)
  have e7 : part b 18 2 = be 2 (n.x + 1).toNat := part_at (pre := be 4 n.g.toNat ++ be 2 n.k.toNat ++ be 4 n.z.toNat ++ be 2 (n.d0 + 1).toNat ++ be 2 (n.d1 + 1).toNat ++ be 2 (n.d2 + 1).toNat ++ be 2 (n.d3 + 1).toNat) (by rw [hb]; simp only [List.append_assoc]; rfl) (by simp [be_length]) (be_length _ _)
  have e8 : part b 20 1 = be 1 n.s.length := part_at (pre := be 4 n.g.toNat ++ be 2 n.k.toNat ++ be 4 n.z.toNat ++ be 2 (n.d0 + 1).toNat ++ be 2 (n.d1 + 1).toNat ++ be 2 (n.d2 + 1).toNat ++ be 2 (n.d3 + 1).toNat ++ be 2 (n.x + 1).toNat) (by rw [hb]; simp only [List.append_assoc]; rfl) (by simp [be_length]) (be_length _ _)
  have e9 : part b 21 n.s.length = n.s := part_at (pre := be 4 n.g.toNat ++ be 2 n.k.toNat ++ be 4 n.z.toNat ++ be 2 (n.d0 + 1).toNat ++ be 2 (n.d1 + 1).toNat ++ be 2 (n.d2 + 1).toNat ++ be 2 (n.d3 + 1).toNat ++ be 2 (n.x + 1).toNat ++ be 1 n.s.length) (by rw [hb]; simp only [List.append_assoc]; rfl) (by simp [be_length]) rfl
  have two : ∀ x : Int, 0 ≤ x → x < 65536 → ((num (be 2 x.toNat) : Nat) : Int) = x := fun x h0 h1 => by
    rw [num_be_lt (by simp only [Nat.reducePow]; omega)]; omega
  have four : ∀ x : Int, 0 ≤ x → x < 4294967296 → ((num (be 4 x.toNat) : Nat) : Int) = x := fun x h0 h1 => by
    rw [num_be_lt (by simp only [Nat.reducePow]; omega)]; omega
  have one : num (be 1 n.s.length) = n.s.length := num_be_lt (by simp only [Nat.reducePow]; omega)
  refine Nd.ext' ⟨?_, ?_, ?_, ?_, ?_, ?_, ?_, ?_, ?_⟩
  · show ((num (part b 0 4) : Nat) : Int) = _; rw [e0, four _ (by omega) hg2]
  · show ((num (part b 4 2) : Nat) : Int) = _; rw [e1, two _ hk0 (by omega)]
  · show ((num (part b 6 4) : Nat) : Int) = _; rw [e2, four _ hz0 (by omega)]
  · show ((num (part b 10 2) : Nat) : Int) - 1 = _; rw [e3, two _ (by omega) (by omega)]; omega
  · show ((num (part b 12 2) : Nat) : Int) - 1 = _; rw [e4, two _ (by omega) (by omega)]; omega
  · show ((num (part b 14 2) : Nat) : Int) - 1 = _; rw [e5, two _ (by omega) (by omega)]; omega
  · show ((num (part b 16 2) : Nat) : Int) - 1 = _; rw [e6, two _ (by omega) (by omega)]; omega
  · show ((num (part b 18 2) : Nat) : Int) - 1 = _; rw [e7, two _ (by omega) (by omega)]; omega
  · show part b 21 (num (part b 20 1)) = _; rw [e8, one, e9]
theorem goodN_own {kind : Int} {n : Nd} (ok : NdOk n) (h : mayN kind n) : goodN kind (ndBody kind n) := by
  unfold goodN
  rw [readNd_own ok h]
  exact ⟨h, rfl⟩
theorem ndO_own {kind : Int} {n : Nd} (ok : NdOk n) (h : mayN kind n) : ndO kind (ndBody kind n) = .tuple #[ndV n, .bool true] := by
  have hg := goodN_own ok h
  unfold ndO
  rw [if_pos hg, decide_eq_true hg, readNd_own ok h]
theorem ndO_no {kind : Int} {b : List UInt8} (h : ¬ goodN kind b) : ndO kind b = .tuple #[ndV zNd, .bool false] := by
  unfold ndO
  rw [if_neg h, decide_eq_false h]
theorem ndO_yes {kind : Int} {b : List UInt8} (h : goodN kind b) : ndO kind b = .tuple #[ndV (readNd b), .bool true] := by
  unfold ndO
  rw [if_pos h, decide_eq_true h]
end Go.Proofs.Ytgeiafijibgdhaa.Cl
