/- The law NodeForms (printed by mknodh.py). -/
import Derived.Test.YtgeiafijibgdhaaNodE
import Derived.Test.YtgeiafijibgdhaaRowP
import Derived.Test.YtgeiafijibgdhaaZigS
set_option linter.unusedVariables false
set_option linter.unusedSimpArgs false
namespace Go.Proofs.Ytgeiafijibgdhaa.Cl
open Go Go.Proofs Go.RowKit Fl Rely

def ndL (n : Nd) : List Value := (ndA n).toList
def nfC (l : List Nd) : Array Value := (l.flatMap ndL).toArray
theorem info4_zero : (Try.prog.info? 23).map (·.zero) = some (some (.agg #[.int .i64 0, .int .i64 0, .int .i64 0, .int .i64 0])) := by kernel_rfl
theorem info4_size : (Try.prog.info? 23).map (·.size) = some 4 := by kernel_rfl
theorem infoU32_size : (Try.prog.info? 22).map (·.size) = some 1 := by kernel_rfl
theorem infoI_size : (Try.prog.info? 3).map (·.size) = some 1 := by kernel_rfl
theorem infoStr_size : (Try.prog.info? 9).map (·.size) = some 1 := by kernel_rfl
theorem infoNd3 : (Try.prog.info? 25).map (fun i => (i.zero, i.size, i.bytes)) = some (some (ndV zNd), 9, 80) := by kernel_rfl
theorem ndOne (n : Nd) : ∀ u ∈ (ndA n).toList, u.oneCell' = true := by
  intro u hu
  simp only [ndA, List.mem_cons, List.not_mem_nil, or_false] at hu
  rcases hu with rfl | rfl | rfl | rfl | rfl | rfl | rfl | rfl | rfl <;> rfl
abbrev gd : Nd := ⟨1, 1, 0, -1, -1, -1, -1, -1, []⟩
def nf0 : List Nd := [⟨1, 1, 0, -1, -1, -1, -1, -1, []⟩, ⟨1, 1, 0, -1, -1, -1, -1, -1, []⟩, ⟨1, 1, 0, -1, -1, -1, -1, -1, []⟩, ⟨1, 1, 0, -1, -1, -1, -1, -1, []⟩, ⟨1, 1, 0, -1, -1, -1, -1, -1, []⟩, ⟨1, 1, 0, -1, -1, -1, -1, -1, []⟩, ⟨1, 1, 0, -1, -1, -1, -1, -1, []⟩, ⟨1, 1, 0, -1, -1, -1, -1, -1, []⟩, ⟨1, 1, 0, -1, -1, -1, -1, -1, []⟩, ⟨1, 1, 0, -1, -1, -1, -1, -1, []⟩, ⟨1, 1, 0, -1, -1, -1, -1, -1, []⟩, ⟨1, 1, 0, -1, -1, -1, -1, -1, []⟩]
def nf1 : List Nd := [⟨0, 1, 0, -1, -1, -1, -1, -1, []⟩, ⟨1, 1, 0, -1, -1, -1, -1, -1, []⟩, ⟨1, 1, 0, -1, -1, -1, -1, -1, []⟩, ⟨1, 1, 0, -1, -1, -1, -1, -1, []⟩, ⟨1, 1, 0, -1, -1, -1, -1, -1, []⟩, ⟨1, 1, 0, -1, -1, -1, -1, -1, []⟩, ⟨1, 1, 0, -1, -1, -1, -1, -1, []⟩, ⟨1, 1, 0, -1, -1, -1, -1, -1, []⟩, ⟨1, 1, 0, -1, -1, -1, -1, -1, []⟩, ⟨1, 1, 0, -1, -1, -1, -1, -1, []⟩, ⟨1, 1, 0, -1, -1, -1, -1, -1, []⟩, ⟨1, 1, 0, -1, -1, -1, -1, -1, []⟩]
def nf2 : List Nd := [⟨0, 1, 0, -1, -1, -1, -1, -1, []⟩, ⟨1, -1, 0, -1, -1, -1, -1, -1, []⟩, ⟨1, 1, 0, -1, -1, -1, -1, -1, []⟩, ⟨1, 1, 0, -1, -1, -1, -1, -1, []⟩, ⟨1, 1, 0, -1, -1, -1, -1, -1, []⟩, ⟨1, 1, 0, -1, -1, -1, -1, -1, []⟩, ⟨1, 1, 0, -1, -1, -1, -1, -1, []⟩, ⟨1, 1, 0, -1, -1, -1, -1, -1, []⟩, ⟨1, 1, 0, -1, -1, -1, -1, -1, []⟩, ⟨1, 1, 0, -1, -1, -1, -1, -1, []⟩, ⟨1, 1, 0, -1, -1, -1, -1, -1, []⟩, ⟨1, 1, 0, -1, -1, -1, -1, -1, []⟩]
def nf3 : List Nd := [⟨0, 1, 0, -1, -1, -1, -1, -1, []⟩, ⟨1, -1, 0, -1, -1, -1, -1, -1, []⟩, ⟨1, 1001, 0, -1, -1, -1, -1, -1, []⟩, ⟨1, 1, 0, -1, -1, -1, -1, -1, []⟩, ⟨1, 1, 0, -1, -1, -1, -1, -1, []⟩, ⟨1, 1, 0, -1, -1, -1, -1, -1, []⟩, ⟨1, 1, 0, -1, -1, -1, -1, -1, []⟩, ⟨1, 1, 0, -1, -1, -1, -1, -1, []⟩, ⟨1, 1, 0, -1, -1, -1, -1, -1, []⟩, ⟨1, 1, 0, -1, -1, -1, -1, -1, []⟩, ⟨1, 1, 0, -1, -1, -1, -1, -1, []⟩, ⟨1, 1, 0, -1, -1, -1, -1, -1, []⟩]
def nf4 : List Nd := [⟨0, 1, 0, -1, -1, -1, -1, -1, []⟩, ⟨1, -1, 0, -1, -1, -1, -1, -1, []⟩, ⟨1, 1001, 0, -1, -1, -1, -1, -1, []⟩, ⟨1, 1, 1121, -1, -1, -1, -1, -1, []⟩, ⟨1, 1, 0, -1, -1, -1, -1, -1, []⟩, ⟨1, 1, 0, -1, -1, -1, -1, -1, []⟩, ⟨1, 1, 0, -1, -1, -1, -1, -1, []⟩, ⟨1, 1, 0, -1, -1, -1, -1, -1, []⟩, ⟨1, 1, 0, -1, -1, -1, -1, -1, []⟩, ⟨1, 1, 0, -1, -1, -1, -1, -1, []⟩, ⟨1, 1, 0, -1, -1, -1, -1, -1, []⟩, ⟨1, 1, 0, -1, -1, -1, -1, -1, []⟩]
def nf5 : List Nd := [⟨0, 1, 0, -1, -1, -1, -1, -1, []⟩, ⟨1, -1, 0, -1, -1, -1, -1, -1, []⟩, ⟨1, 1001, 0, -1, -1, -1, -1, -1, []⟩, ⟨1, 1, 1121, -1, -1, -1, -1, -1, []⟩, ⟨1, 1, 0, 0, -1, -1, -1, -1, []⟩, ⟨1, 1, 0, -1, -1, -1, -1, -1, []⟩, ⟨1, 1, 0, -1, -1, -1, -1, -1, []⟩, ⟨1, 1, 0, -1, -1, -1, -1, -1, []⟩, ⟨1, 1, 0, -1, -1, -1, -1, -1, []⟩, ⟨1, 1, 0, -1, -1, -1, -1, -1, []⟩, ⟨1, 1, 0, -1, -1, -1, -1, -1, []⟩, ⟨1, 1, 0, -1, -1, -1, -1, -1, []⟩]
def nf6 : List Nd := [⟨0, 1, 0, -1, -1, -1, -1, -1, []⟩, ⟨1, -1, 0, -1, -1, -1, -1, -1, []⟩, ⟨1, 1001, 0, -1, -1, -1, -1, -1, []⟩, ⟨1, 1, 1121, -1, -1, -1, -1, -1, []⟩, ⟨1, 1, 0, 0, -1, -1, -1, -1, []⟩, ⟨1, 1, 0, -1, -1, -1, -1, 200, []⟩, ⟨1, 1, 0, -1, -1, -1, -1, -1, []⟩, ⟨1, 1, 0, -1, -1, -1, -1, -1, []⟩, ⟨1, 1, 0, -1, -1, -1, -1, -1, []⟩, ⟨1, 1, 0, -1, -1, -1, -1, -1, []⟩, ⟨1, 1, 0, -1, -1, -1, -1, -1, []⟩, ⟨1, 1, 0, -1, -1, -1, -1, -1, []⟩]
def nf7 : List Nd := [⟨0, 1, 0, -1, -1, -1, -1, -1, []⟩, ⟨1, -1, 0, -1, -1, -1, -1, -1, []⟩, ⟨1, 1001, 0, -1, -1, -1, -1, -1, []⟩, ⟨1, 1, 1121, -1, -1, -1, -1, -1, []⟩, ⟨1, 1, 0, 0, -1, -1, -1, -1, []⟩, ⟨1, 1, 0, -1, -1, -1, -1, 200, []⟩, ⟨1, 1, 0, -1, -1, -1, -1, -1, [120]⟩, ⟨1, 1, 0, -1, -1, -1, -1, -1, []⟩, ⟨1, 1, 0, -1, -1, -1, -1, -1, []⟩, ⟨1, 1, 0, -1, -1, -1, -1, -1, []⟩, ⟨1, 1, 0, -1, -1, -1, -1, -1, []⟩, ⟨1, 1, 0, -1, -1, -1, -1, -1, []⟩]
def nf8 : List Nd := [⟨0, 1, 0, -1, -1, -1, -1, -1, []⟩, ⟨1, -1, 0, -1, -1, -1, -1, -1, []⟩, ⟨1, 1001, 0, -1, -1, -1, -1, -1, []⟩, ⟨1, 1, 1121, -1, -1, -1, -1, -1, []⟩, ⟨1, 1, 0, 0, -1, -1, -1, -1, []⟩, ⟨1, 1, 0, -1, -1, -1, -1, 200, []⟩, ⟨1, 1, 0, -1, -1, -1, -1, -1, [120]⟩, ⟨1, 1, 1, -1, -1, -1, -1, -1, []⟩, ⟨1, 1, 0, -1, -1, -1, -1, -1, []⟩, ⟨1, 1, 0, -1, -1, -1, -1, -1, []⟩, ⟨1, 1, 0, -1, -1, -1, -1, -1, []⟩, ⟨1, 1, 0, -1, -1, -1, -1, -1, []⟩]
def nf9 : List Nd := [⟨0, 1, 0, -1, -1, -1, -1, -1, []⟩, ⟨1, -1, 0, -1, -1, -1, -1, -1, []⟩, ⟨1, 1001, 0, -1, -1, -1, -1, -1, []⟩, ⟨1, 1, 1121, -1, -1, -1, -1, -1, []⟩, ⟨1, 1, 0, 0, -1, -1, -1, -1, []⟩, ⟨1, 1, 0, -1, -1, -1, -1, 200, []⟩, ⟨1, 1, 0, -1, -1, -1, -1, -1, [120]⟩, ⟨1, 1, 1, -1, -1, -1, -1, -1, []⟩, ⟨1, 2, 0, -1, -1, -1, -1, -1, []⟩, ⟨1, 1, 0, -1, -1, -1, -1, -1, []⟩, ⟨1, 1, 0, -1, -1, -1, -1, -1, []⟩, ⟨1, 1, 0, -1, -1, -1, -1, -1, []⟩]
def nf10 : List Nd := [⟨0, 1, 0, -1, -1, -1, -1, -1, []⟩, ⟨1, -1, 0, -1, -1, -1, -1, -1, []⟩, ⟨1, 1001, 0, -1, -1, -1, -1, -1, []⟩, ⟨1, 1, 1121, -1, -1, -1, -1, -1, []⟩, ⟨1, 1, 0, 0, -1, -1, -1, -1, []⟩, ⟨1, 1, 0, -1, -1, -1, -1, 200, []⟩, ⟨1, 1, 0, -1, -1, -1, -1, -1, [120]⟩, ⟨1, 1, 1, -1, -1, -1, -1, -1, []⟩, ⟨1, 2, 0, -1, -1, -1, -1, -1, []⟩, ⟨1, 1, 0, -1, -1, -1, -1, -1, (List.replicate 33 120)⟩, ⟨1, 1, 0, -1, -1, -1, -1, -1, []⟩, ⟨1, 1, 0, -1, -1, -1, -1, -1, []⟩]
def nf11 : List Nd := [⟨0, 1, 0, -1, -1, -1, -1, -1, []⟩, ⟨1, -1, 0, -1, -1, -1, -1, -1, []⟩, ⟨1, 1001, 0, -1, -1, -1, -1, -1, []⟩, ⟨1, 1, 1121, -1, -1, -1, -1, -1, []⟩, ⟨1, 1, 0, 0, -1, -1, -1, -1, []⟩, ⟨1, 1, 0, -1, -1, -1, -1, 200, []⟩, ⟨1, 1, 0, -1, -1, -1, -1, -1, [120]⟩, ⟨1, 1, 1, -1, -1, -1, -1, -1, []⟩, ⟨1, 2, 0, -1, -1, -1, -1, -1, []⟩, ⟨1, 1, 33, -1, -1, -1, -1, -1, (List.replicate 33 120)⟩, ⟨1, 1, 0, -1, -1, -1, -1, -1, []⟩, ⟨1, 1, 0, -1, -1, -1, -1, -1, []⟩]
def nf12 : List Nd := [⟨0, 1, 0, -1, -1, -1, -1, -1, []⟩, ⟨1, -1, 0, -1, -1, -1, -1, -1, []⟩, ⟨1, 1001, 0, -1, -1, -1, -1, -1, []⟩, ⟨1, 1, 1121, -1, -1, -1, -1, -1, []⟩, ⟨1, 1, 0, 0, -1, -1, -1, -1, []⟩, ⟨1, 1, 0, -1, -1, -1, -1, 200, []⟩, ⟨1, 1, 0, -1, -1, -1, -1, -1, [120]⟩, ⟨1, 1, 1, -1, -1, -1, -1, -1, []⟩, ⟨1, 2, 0, -1, -1, -1, -1, -1, []⟩, ⟨1, 1, 33, -1, -1, -1, -1, -1, (List.replicate 33 120)⟩, ⟨1, 1, 0, -1, -1, -1, -1, -1, [97, 32, 98]⟩, ⟨1, 1, 0, -1, -1, -1, -1, -1, []⟩]
def nf13 : List Nd := [⟨0, 1, 0, -1, -1, -1, -1, -1, []⟩, ⟨1, -1, 0, -1, -1, -1, -1, -1, []⟩, ⟨1, 1001, 0, -1, -1, -1, -1, -1, []⟩, ⟨1, 1, 1121, -1, -1, -1, -1, -1, []⟩, ⟨1, 1, 0, 0, -1, -1, -1, -1, []⟩, ⟨1, 1, 0, -1, -1, -1, -1, 200, []⟩, ⟨1, 1, 0, -1, -1, -1, -1, -1, [120]⟩, ⟨1, 1, 1, -1, -1, -1, -1, -1, []⟩, ⟨1, 2, 0, -1, -1, -1, -1, -1, []⟩, ⟨1, 1, 33, -1, -1, -1, -1, -1, (List.replicate 33 120)⟩, ⟨1, 1, 3, -1, -1, -1, -1, -1, [97, 32, 98]⟩, ⟨1, 1, 0, -1, -1, -1, -1, -1, []⟩]
theorem nf0_step : patch (nfC nf0) 0 [.int .u32 0] = nfC nf1 := by kernel_rfl
theorem nf1_step : patch (nfC nf1) 10 [.int .i64 (-1)] = nfC nf2 := by kernel_rfl
theorem nf2_step : patch (nfC nf2) 19 [.int .i64 1001] = nfC nf3 := by kernel_rfl
theorem nf3_step : patch (nfC nf3) 29 [.int .i64 1121] = nfC nf4 := by kernel_rfl
theorem nf4_step : patch (nfC nf4) 39 [.int .i64 0] = nfC nf5 := by kernel_rfl
theorem nf5_step : patch (nfC nf5) 52 [.int .i64 200] = nfC nf6 := by kernel_rfl
theorem nf6_step : patch (nfC nf6) 62 [str [120]] = nfC nf7 := by kernel_rfl
theorem nf7_step : patch (nfC nf7) 65 [.int .i64 1] = nfC nf8 := by kernel_rfl
theorem nf8_step : patch (nfC nf8) 73 [.int .i64 2] = nfC nf9 := by kernel_rfl
theorem nf9_step : patch (nfC nf9) 89 [str (List.replicate 33 120)] = nfC nf10 := by kernel_rfl
theorem nf10_step : patch (nfC nf10) 83 [.int .i64 33] = nfC nf11 := by kernel_rfl
theorem nf11_step : patch (nfC nf11) 98 [str [97, 32, 98]] = nfC nf12 := by kernel_rfl
theorem nf12_step : patch (nfC nf12) 92 [.int .i64 3] = nfC nf13 := by kernel_rfl
theorem nf_size : (nfC nf0).size = 108 := by kernel_rfl
theorem nf1_size : (nfC nf1).size = 108 := by kernel_rfl
theorem nf2_size : (nfC nf2).size = 108 := by kernel_rfl
theorem nf3_size : (nfC nf3).size = 108 := by kernel_rfl
theorem nf4_size : (nfC nf4).size = 108 := by kernel_rfl
theorem nf5_size : (nfC nf5).size = 108 := by kernel_rfl
theorem nf6_size : (nfC nf6).size = 108 := by kernel_rfl
theorem nf7_size : (nfC nf7).size = 108 := by kernel_rfl
theorem nf8_size : (nfC nf8).size = 108 := by kernel_rfl
theorem nf9_size : (nfC nf9).size = 108 := by kernel_rfl
theorem nf10_size : (nfC nf10).size = 108 := by kernel_rfl
theorem nf11_size : (nfC nf11).size = 108 := by kernel_rfl
theorem nf12_size : (nfC nf12).size = 108 := by kernel_rfl
theorem nf13_size : (nfC nf13).size = 108 := by kernel_rfl
def nfK : List Int := [1, 1, 1, 1, 1, 1, 1, 2, 2, 3, 3, 4]
theorem nf_bad : ∀ i (h : i < 12), mayN (nfK.getD i 0) (nf13.getD i gd) = False := by
  have : ∀ i : Fin 12, ¬ mayN (nfK.getD i.val 0) (nf13.getD i.val gd) := by decide +kernel
  intro i h
  exact eq_false (this ⟨i, h⟩)
theorem nf_ok : ∀ i (h : i < 12), NdOk (nf13.getD i gd) := by
  intro i h
  match i, h with
  | 0, _ => exact ⟨by decide +kernel, by constructor <;> decide +kernel, by constructor <;> decide +kernel, by constructor <;> decide +kernel, by constructor <;> decide +kernel, by constructor <;> decide +kernel, by constructor <;> decide +kernel, by constructor <;> decide +kernel, by decide +kernel⟩
  | 1, _ => exact ⟨by decide +kernel, by constructor <;> decide +kernel, by constructor <;> decide +kernel, by constructor <;> decide +kernel, by constructor <;> decide +kernel, by constructor <;> decide +kernel, by constructor <;> decide +kernel, by constructor <;> decide +kernel, by decide +kernel⟩
  | 2, _ => exact ⟨by decide +kernel, by constructor <;> decide +kernel, by constructor <;> decide +kernel, by constructor <;> decide +kernel, by constructor <;> decide +kernel, by constructor <;> decide +kernel, by constructor <;> decide +kernel, by constructor <;> decide +kernel, by decide +kernel⟩
  | 3, _ => exact ⟨by decide +kernel, by constructor <;> decide +kernel, by constructor <;> decide +kernel, by constructor <;> decide +kernel, by constructor <;> decide +kernel, by constructor <;> decide +kernel, by constructor <;> decide +kernel, by constructor <;> decide +kernel, by decide +kernel⟩
  | 4, _ => exact ⟨by decide +kernel, by constructor <;> decide +kernel, by constructor <;> decide +kernel, by constructor <;> decide +kernel, by constructor <;> decide +kernel, by constructor <;> decide +kernel, by constructor <;> decide +kernel, by constructor <;> decide +kernel, by decide +kernel⟩
  | 5, _ => exact ⟨by decide +kernel, by constructor <;> decide +kernel, by constructor <;> decide +kernel, by constructor <;> decide +kernel, by constructor <;> decide +kernel, by constructor <;> decide +kernel, by constructor <;> decide +kernel, by constructor <;> decide +kernel, by decide +kernel⟩
  | 6, _ => exact ⟨by decide +kernel, by constructor <;> decide +kernel, by constructor <;> decide +kernel, by constructor <;> decide +kernel, by constructor <;> decide +kernel, by constructor <;> decide +kernel, by constructor <;> decide +kernel, by constructor <;> decide +kernel, by decide +kernel⟩
  | 7, _ => exact ⟨by decide +kernel, by constructor <;> decide +kernel, by constructor <;> decide +kernel, by constructor <;> decide +kernel, by constructor <;> decide +kernel, by constructor <;> decide +kernel, by constructor <;> decide +kernel, by constructor <;> decide +kernel, by decide +kernel⟩
  | 8, _ => exact ⟨by decide +kernel, by constructor <;> decide +kernel, by constructor <;> decide +kernel, by constructor <;> decide +kernel, by constructor <;> decide +kernel, by constructor <;> decide +kernel, by constructor <;> decide +kernel, by constructor <;> decide +kernel, by decide +kernel⟩
  | 9, _ => exact ⟨by decide +kernel, by constructor <;> decide +kernel, by constructor <;> decide +kernel, by constructor <;> decide +kernel, by constructor <;> decide +kernel, by constructor <;> decide +kernel, by constructor <;> decide +kernel, by constructor <;> decide +kernel, by decide +kernel⟩
  | 10, _ => exact ⟨by decide +kernel, by constructor <;> decide +kernel, by constructor <;> decide +kernel, by constructor <;> decide +kernel, by constructor <;> decide +kernel, by constructor <;> decide +kernel, by constructor <;> decide +kernel, by constructor <;> decide +kernel, by decide +kernel⟩
  | 11, _ => exact ⟨by decide +kernel, by constructor <;> decide +kernel, by constructor <;> decide +kernel, by constructor <;> decide +kernel, by constructor <;> decide +kernel, by constructor <;> decide +kernel, by constructor <;> decide +kernel, by constructor <;> decide +kernel, by decide +kernel⟩
theorem nf_cells : ∀ i (h : i < 12) j u, (ndL (nf13.getD i gd))[j]? = some u → (nfC nf13)[i * 9 + j]? = some u := by
  intro i h j u hj
  have hl : j < 9 := (List.getElem?_eq_some_iff.1 hj).1
  match i, h with
  | 0, _ => (match j, hl with
    | 0, _ => exact hj
    | 1, _ => exact hj
    | 2, _ => exact hj
    | 3, _ => exact hj
    | 4, _ => exact hj
    | 5, _ => exact hj
    | 6, _ => exact hj
    | 7, _ => exact hj
    | 8, _ => exact hj)
  | 1, _ => (match j, hl with
    | 0, _ => exact hj
    | 1, _ => exact hj
    | 2, _ => exact hj
    | 3, _ => exact hj
    | 4, _ => exact hj
    | 5, _ => exact hj
    | 6, _ => exact hj
    | 7, _ => exact hj
    | 8, _ => exact hj)
  | 2, _ => (match j, hl with
    | 0, _ => exact hj
    | 1, _ => exact hj
    | 2, _ => exact hj
    | 3, _ => exact hj
    | 4, _ => exact hj
    | 5, _ => exact hj
    | 6, _ => exact hj
    | 7, _ => exact hj
    | 8, _ => exact hj)
  | 3, _ => (match j, hl with
    | 0, _ => exact hj
    | 1, _ => exact hj
    | 2, _ => exact hj
    | 3, _ => exact hj
    | 4, _ => exact hj
    | 5, _ => exact hj
    | 6, _ => exact hj
    | 7, _ => exact hj
    | 8, _ => exact hj)
  | 4, _ => (match j, hl with
    | 0, _ => exact hj
    | 1, _ => exact hj
    | 2, _ => exact hj
    | 3, _ => exact hj
    | 4, _ => exact hj
    | 5, _ => exact hj
    | 6, _ => exact hj
    | 7, _ => exact hj
    | 8, _ => exact hj)
  | 5, _ => (match j, hl with
    | 0, _ => exact hj
    | 1, _ => exact hj
    | 2, _ => exact hj
    | 3, _ => exact hj
    | 4, _ => exact hj
    | 5, _ => exact hj
    | 6, _ => exact hj
    | 7, _ => exact hj
    | 8, _ => exact hj)
  | 6, _ => (match j, hl with
    | 0, _ => exact hj
    | 1, _ => exact hj
    | 2, _ => exact hj
    | 3, _ => exact hj
    | 4, _ => exact hj
    | 5, _ => exact hj
    | 6, _ => exact hj
    | 7, _ => exact hj
    | 8, _ => exact hj)
  | 7, _ => (match j, hl with
    | 0, _ => exact hj
    | 1, _ => exact hj
    | 2, _ => exact hj
    | 3, _ => exact hj
    | 4, _ => exact hj
    | 5, _ => exact hj
    | 6, _ => exact hj
    | 7, _ => exact hj
    | 8, _ => exact hj)
  | 8, _ => (match j, hl with
    | 0, _ => exact hj
    | 1, _ => exact hj
    | 2, _ => exact hj
    | 3, _ => exact hj
    | 4, _ => exact hj
    | 5, _ => exact hj
    | 6, _ => exact hj
    | 7, _ => exact hj
    | 8, _ => exact hj)
  | 9, _ => (match j, hl with
    | 0, _ => exact hj
    | 1, _ => exact hj
    | 2, _ => exact hj
    | 3, _ => exact hj
    | 4, _ => exact hj
    | 5, _ => exact hj
    | 6, _ => exact hj
    | 7, _ => exact hj
    | 8, _ => exact hj)
  | 10, _ => (match j, hl with
    | 0, _ => exact hj
    | 1, _ => exact hj
    | 2, _ => exact hj
    | 3, _ => exact hj
    | 4, _ => exact hj
    | 5, _ => exact hj
    | 6, _ => exact hj
    | 7, _ => exact hj
    | 8, _ => exact hj)
  | 11, _ => (match j, hl with
    | 0, _ => exact hj
    | 1, _ => exact hj
    | 2, _ => exact hj
    | 3, _ => exact hj
    | 4, _ => exact hj
    | 5, _ => exact hj
    | 6, _ => exact hj
    | 7, _ => exact hj
    | 8, _ => exact hj)
def fillN (i : Nat) : List Nd := List.replicate i gd ++ List.replicate (12 - i) zNd
theorem fillN_step : ∀ i, i < 12 → patch (nfC (fillN i)) (i * 9) (ndA gd).toList = nfC (fillN (i + 1)) := by
  intro i h
  match i, h with
  | 0, _ => exact rfl
  | 1, _ => exact rfl
  | 2, _ => exact rfl
  | 3, _ => exact rfl
  | 4, _ => exact rfl
  | 5, _ => exact rfl
  | 6, _ => exact rfl
  | 7, _ => exact rfl
  | 8, _ => exact rfl
  | 9, _ => exact rfl
  | 10, _ => exact rfl
  | 11, _ => exact rfl
theorem fillN_size : ∀ i, i ≤ 12 → (nfC (fillN i)).size = 108 := by
  intro i h
  match i, h with
  | 0, _ => exact rfl
  | 1, _ => exact rfl
  | 2, _ => exact rfl
  | 3, _ => exact rfl
  | 4, _ => exact rfl
  | 5, _ => exact rfl
  | 6, _ => exact rfl
  | 7, _ => exact rfl
  | 8, _ => exact rfl
  | 9, _ => exact rfl
  | 10, _ => exact rfl
  | 11, _ => exact rfl
  | 12, _ => exact rfl

/-- 'make([]api.Node, 12)' -/
theorem wp_nd_make {o : Oper} {a : Act} {w : World} {K : Act → World → Prop} {Q : Exit → Act → World → Prop} {x y : Operand} (ho : o.op = .makeSlice 38 x y) (hx : a.eval x = .int .i64 12) (hy : a.eval y = .int .i64 12)
    (h : ∀ w', RowAt w' w.heap.size 25 (nfC (fillN 0)) → Below w.heap.size w w' → w.heap.size < w'.heap.size → K (a.put o.dst (.slice (some ⟨w.heap.size, 0, none⟩) 12 12)) w') : o.wp Try.prog a w K Q := by
  obtain ⟨i, hi, hz, hs, hb⟩ := info_parts infoNd3
  have hr := run_make (P := Try.prog) w 38 25 i _ Try.underlying38 hi hz .i64 .i64 12 12 (by decide) (by decide) (by rw [hb]; decide) (by decide)
  unfold Oper.wp execOp
  simp only [ho, Sem.run_bind, hx, hy, hr, Result.andThen_ok]
  refine h _ ?_ (below_new _ _) (by simp)
  have e : madeCells (ndV zNd).cells ((12 : Int).toNat * i.size) = nfC (fillN 0) := by rw [hs]; kernel_rfl
  rw [e]
  exact RowAt.new w 25 _
theorem str_snoc (l : List UInt8) : Value.string (ByteArray.mk l.toArray ++ ByteArray.mk #[120]) = str (l ++ [120]) := by
  show Value.string _ = Value.string _
  exact congrArg Value.string (ByteArray.ext (by rw [ByteArray.data_append]; simp))
theorem byteAt {w : World} {g : Nat} {k : Int} {b : List UInt8} (h : BlkAt w g k b) (i : Nat) (hi : i < 56) (c : UInt8) (hc : b.getD i 0 = c) : w.cell? ⟨g, 1 + i, none⟩ = some (.int .u8 (c.toNat : Int)) := by
  have hl : i < b.length := by rw [h.1]; exact hi
  have e : b[i] = c := by rw [← hc, List.getD_eq_getElem?_getD, List.getElem?_eq_getElem hl]; rfl
  have := h.byte hl
  rw [e] at this
  exact this
theorem tw_ok : NdOk (⟨1, 1, 9, 5, -1, -1, -1, 5, []⟩ : Nd) := ⟨by decide +kernel, by constructor <;> decide +kernel, by constructor <;> decide +kernel, by constructor <;> decide +kernel, by constructor <;> decide +kernel, by constructor <;> decide +kernel, by constructor <;> decide +kernel, by constructor <;> decide +kernel, by decide +kernel⟩
theorem sg_ok : NdOk (⟨1, 1, 32, -1, -1, -1, -1, -1, (List.replicate 32 120)⟩ : Nd) := ⟨by decide +kernel, by constructor <;> decide +kernel, by constructor <;> decide +kernel, by constructor <;> decide +kernel, by constructor <;> decide +kernel, by constructor <;> decide +kernel, by constructor <;> decide +kernel, by constructor <;> decide +kernel, by decide +kernel⟩
theorem ff_ok : NdOk (⟨258, 3, 1120, 1, -1, 199, -1, 4, []⟩ : Nd) := ⟨by decide +kernel, by constructor <;> decide +kernel, by constructor <;> decide +kernel, by constructor <;> decide +kernel, by constructor <;> decide +kernel, by constructor <;> decide +kernel, by constructor <;> decide +kernel, by constructor <;> decide +kernel, by decide +kernel⟩
theorem tw_may : ¬ mayN 1 (⟨1, 1, 9, 5, -1, -1, -1, 5, []⟩ : Nd) := by decide +kernel
theorem sg_may : mayN 3 (⟨1, 1, 32, -1, -1, -1, -1, -1, (List.replicate 32 120)⟩ : Nd) := by decide +kernel
theorem ff_may : mayN 1 (⟨258, 3, 1120, 1, -1, 199, -1, 4, []⟩ : Nd) := by decide +kernel
theorem sg_len : (ndBody 3 (⟨1, 1, 32, -1, -1, -1, -1, -1, (List.replicate 32 120)⟩ : Nd)).length = 56 := by decide +kernel
theorem ff_len : (ndBody 1 (⟨258, 3, 1120, 1, -1, 199, -1, 4, []⟩ : Nd)).length = 56 := by decide +kernel
theorem sg_bytes : (ndBody 3 (⟨1, 1, 32, -1, -1, -1, -1, -1, (List.replicate 32 120)⟩ : Nd)).getD 20 0 = 32 ∧ (ndBody 3 (⟨1, 1, 32, -1, -1, -1, -1, -1, (List.replicate 32 120)⟩ : Nd)).getD 52 0 = 120 ∧ (ndBody 3 (⟨1, 1, 32, -1, -1, -1, -1, -1, (List.replicate 32 120)⟩ : Nd)).getD 53 0 = 0 := by decide +kernel
theorem ff_bytes : (ndBody 1 (⟨258, 3, 1120, 1, -1, 199, -1, 4, []⟩ : Nd)).take 21 = [0, 0, 1, 2, 0, 3, 0, 0, 4, 96, 0, 2, 0, 0, 0, 200, 0, 0, 0, 5, 0] := by decide +kernel
def nfKs : Array Value := #[.int .i64 1, .int .i64 1, .int .i64 1, .int .i64 1, .int .i64 1, .int .i64 1, .int .i64 1, .int .i64 2, .int .i64 2, .int .i64 3, .int .i64 3, .int .i64 4]
theorem nfK_cell : ∀ i, i < 12 → nfKs[i]? = some (.int .i64 (nfK.getD i 0)) := by
  intro i h
  match i, h with
  | 0, _ => exact rfl
  | 1, _ => exact rfl
  | 2, _ => exact rfl
  | 3, _ => exact rfl
  | 4, _ => exact rfl
  | 5, _ => exact rfl
  | 6, _ => exact rfl
  | 7, _ => exact rfl
  | 8, _ => exact rfl
  | 9, _ => exact rfl
  | 10, _ => exact rfl
  | 11, _ => exact rfl
def NfLong (w w1 : World) (v i : Value) (wr : World) : Prop := ∃ (k : Nat) (l : List UInt8), k ≤ 33 ∧ i = .int .i64 (k : Int) ∧ v = str l ∧ Hid (l = List.replicate k 120) ∧ wr = w1
end Go.Proofs.Ytgeiafijibgdhaa.Cl
