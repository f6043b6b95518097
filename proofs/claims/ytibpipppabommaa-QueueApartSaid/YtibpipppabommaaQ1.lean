/- queue: rows of requests in memory; there, Len. -/
import Derived.Test.YtibpipppabommaaSlO
import Derived.Test.YtibpipppabommaaDev1
set_option linter.unusedVariables false
set_option linter.unusedSimpArgs false
namespace Go.Proofs.Ytibpipppabommaa.Cl
open Go Go.Proofs Go.RowKit Fl

structure Rq where
  kind : Int
  path : List UInt8
  to : List UInt8
  n : Int
  off : Int
  len : Int
  d : List UInt8
abbrev qs (l : List UInt8) : Value := .string ⟨l.toArray⟩
abbrev qp (g : Nat) : Value := .pointer (some ⟨g, 0, none⟩)
/-- a request, its bytes at the value dv -/
def rqA (r : Rq) (dv : Value) : Array Value := #[.int .i64 r.kind, qs r.path, qs r.to, .int .i64 r.n, .int .i64 r.off, .int .i64 r.len, dv]
abbrev rqV (r : Rq) (dv : Value) : Value := .agg (rqA r dv)
/-- who asked, what, and where its bytes are -/
structure As where
  s : Int
  r : Rq
  v : Value
def asC (x : As) : List Value := .int .i64 x.s :: (rqA x.r x.v).toList
theorem asC_len (x : As) : (asC x).length = 8 := rfl
def AsOk (w : World) (x : As) : Prop := Byt w x.v x.r.d
def QRow (w : World) (B : Nat) (v : Value) (l : List As) : Prop := SlO w B 92 8 v l.length (l.flatMap asC) ∧ ∀ x ∈ l, AsOk w x
theorem QRow.nil (w : World) (B : Nat) : QRow w B (.slice none 0 0) [] := ⟨SlO.nil _ _ _ _, fun x hx => by cases hx⟩
theorem AsOk.keep {w w' : World} {x : As} (h : AsOk w x) (hk : Keep8 w w') : AsOk w' x := Byt.keep h hk
/-- a queue -/
structure QR (w : World) (B g gl : Nat) (vs : List Value) (L : List (List As)) : Prop where
  q : RowAt w g 90 #[.slice (some ⟨gl, 0, none⟩) L.length L.length]
  l : RowAt w gl 93 vs.toArray
  len : vs.length = L.length
  pos : 1 ≤ L.length
  le : L.length ≤ 8
  row : ∀ i (h : i < vs.length) (h' : i < L.length), QRow w B vs[i] L[i]
  sep : ∀ i j (h : i < vs.length) (h' : j < vs.length), i ≠ j → ∀ k, vs[i].ownBlock = some k → vs[j].ownBlock ≠ some k
  bg : B ≤ g
  bl : B ≤ gl
def QFp (g gl : Nat) (vs : List Value) (k : Nat) : Prop := k = g ∨ k = gl ∨ ∃ v ∈ vs, v.ownBlock = some k
def QF (w : World) (B g : Nat) (F : Nat → Prop) (L : List (List As)) : Prop := ∃ gl vs, QR w B g gl vs L ∧ ∀ k, QFp g gl vs k → F k
theorem QR.frm {F : Nat → Prop} {w w' : World} {B g gl : Nat} {vs : List Value} {L : List (List As)} (h : QR w B g gl vs L) (hf : Frm F w w') (hk : Keep8 w w') (hn : ∀ k, QFp g gl vs k → ¬ F k) : QR w' B g gl vs L where
  q := hf.row h.q (hn g (.inl rfl))
  l := hf.row h.l (hn gl (.inr (.inl rfl)))
  len := h.len
  pos := h.pos
  le := h.le
  row := fun i hi hi' => ⟨(h.row i hi hi').1.heap fun k hk' => hf.block k ((h.row i hi hi').1.lt k hk') (hn k (.inr (.inr ⟨_, List.getElem_mem hi, hk'⟩))), fun x hx => ((h.row i hi hi').2 x hx).keep hk⟩
  sep := h.sep
  bg := h.bg
  bl := h.bl
theorem QF.frm {F G : Nat → Prop} {w w' : World} {B g : Nat} {L : List (List As)} (h : QF w B g G L) (hf : Frm F w w') (hk : Keep8 w w') (hn : ∀ k, k < w.heap.size → G k → ¬ F k) : QF w' B g G L := by
  obtain ⟨gl, vs, hq, hG⟩ := h
  refine ⟨gl, vs, hq.frm hf hk fun k hk' => hn k ?_ (hG k hk'), hG⟩
  rcases hk' with rfl | rfl | ⟨v, hv, hb⟩
  · exact hq.q.lt
  · exact hq.l.lt
  · obtain ⟨i, hi, rfl⟩ := List.mem_iff_getElem.1 hv
    exact (hq.row i hi (by rw [← hq.len]; exact hi)).1.lt k hb
theorem QF.below {G : Nat → Prop} {w w' : World} {B g : Nat} {L : List (List As)} (h : QF w B g G L) (hb : Below w.heap.size w w') : QF w' B g G L := h.frm (Frm.of_below (fun _ => False) hb) (Keep8.of_below hb) fun _ _ _ h => h
theorem QR.cell {w : World} {B g gl : Nat} {vs : List Value} {L : List (List As)} (h : QR w B g gl vs L) : w.cell? ⟨g, 0, none⟩ = some (.slice (some ⟨gl, 0, none⟩) L.length L.length) := h.q.cell 0 _ rfl
theorem QR.at_ {w : World} {B g gl : Nat} {vs : List Value} {L : List (List As)} (h : QR w B g gl vs L) (i : Nat) (hi : i < L.length) : w.cell? ⟨gl, i, none⟩ = some (vs[i]'(by rw [h.len]; exact hi)) := h.l.cell i _ (by simp [h.len, hi])
def inQ (L : List (List As)) (label : Int) : Bool := decide (0 ≤ label) && decide (label < (L.length : Int))
set_option maxRecDepth 100000 in
theorem there_any {w : World} {B g gl : Nat} {vs : List Value} {L : List (List As)} (h : QR w B g gl vs L) (label : Int) :
    Calls Try.prog 54 #[qp g, .int .i64 label] w fun e w' => e = .returned (.bool (inQ L label)) ∧ w = w' := by
  have hc := h.cell
  have hle := h.le
  clear h
  unfold inQ
  by_cases h0 : 0 ≤ label
  · rw [decide_eq_true h0]
    by_cases h1 : label < (L.length : Int)
    · rw [decide_eq_true h1]
      go_enter Try.func54, Try.ntmps54
      go_wp2_with fail
      go_ret
      exact ⟨rfl, rfl⟩
    · rw [decide_eq_false h1]
      go_enter Try.func54, Try.ntmps54
      go_wp2_with fail
      go_ret
      exact ⟨rfl, rfl⟩
  · rw [decide_eq_false h0]
    go_enter Try.func54, Try.ntmps54
    go_wp2_with fail
    go_ret
    exact ⟨rfl, rfl⟩
theorem there_nil (label : Int) (w : World) :
    Calls Try.prog 54 #[.pointer none, .int .i64 label] w fun e w' => e = .returned (.bool false) ∧ w = w' := by
  go_enter Try.func54, Try.ntmps54
  go_wp2_with fail
  go_ret
  exact ⟨rfl, rfl⟩
theorem inQ_nat {L : List (List As)} {label : Int} (h : inQ L label = true) : ∃ i : Nat, label = (i : Int) ∧ i < L.length := by
  unfold inQ at h
  simp only [Bool.and_eq_true, decide_eq_true_eq] at h
  exact ⟨label.toNat, by omega, by omega⟩
def lenQ (L : List (List As)) (label : Int) : Nat := if inQ L label then (L.getD label.toNat []).length else 0
set_option maxRecDepth 100000 in
theorem qLen_any {w : World} {B g gl : Nat} {vs : List Value} {L : List (List As)} (h : QR w B g gl vs L) (label : Int) :
    Calls Try.prog 30 #[qp g, .int .i64 label] w fun e w' => e = .returned (.int .i64 (lenQ L label : Nat)) ∧ w = w' := by
  unfold lenQ
  by_cases hin : inQ L label = true
  · have ht := there_any h label
    rw [hin] at ht
    rw [if_pos hin]
    obtain ⟨i, rfl, hi⟩ := inQ_nat hin
    have hvi : i < vs.length := by rw [h.len]; exact hi
    obtain ⟨a, cap, hv, hcap, hcap2⟩ := (h.row i hvi hi).1.shape
    have hc := h.cell
    have hci := h.at_ i hi
    rw [hv] at hci
    have hle := h.le
    rw [Int.toNat_natCast, show L.getD i [] = L[i] from by rw [List.getD_eq_getElem?_getD, List.getElem?_eq_getElem hi]; rfl]
    have hiI : (i : Int) < (L.length : Int) := by omega
    clear h hin hv
    generalize (L[i]).length = m at *
    go_enter Try.func30, Try.ntmps30
    go_wp2_with fail
    refine ht.mono ?_
    rintro e w' ⟨rfl, rfl⟩
    go_wp2_with fail
    go_ret
    exact ⟨rfl, rfl⟩
  · have hin : inQ L label = false := by simpa using hin
    have ht := there_any h label
    rw [hin] at ht
    rw [hin, if_neg (by simp)]
    clear h hin
    go_enter Try.func30, Try.ntmps30
    go_wp2_with fail
    refine ht.mono ?_
    rintro e w' ⟨rfl, rfl⟩
    go_wp2_with fail
    go_ret
    exact ⟨rfl, rfl⟩
end Go.Proofs.Ytibpipppabommaa.Cl
