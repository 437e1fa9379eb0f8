/- ShareCounts: for every input the law returns true and leaves its arguments as they were. No condition. -/
import Derived.Test.YtbkkpbjlicgcfaaShareW
import Derived.Test.YtbkkpbjlicgcfaaLift
set_option linter.unusedVariables false
set_option linter.unusedSimpArgs false
namespace Go.Proofs.Ytbkkpbjlicgcfaa
open Go.ChangeShapes Go.WideShapes Go.ChangeAt Go.RowKit

theorem wf_i32 {a : Int} (h : (Lit.int .i32 a).wf = true) : -2147483648 ≤ a ∧ a ≤ 2147483647 := by
  have hmin : IntKind.i32.min = -2147483648 := rfl
  have hmax : IntKind.i32.max = 2147483647 := rfl
  simp only [Lit.wf, Bool.and_eq_true, decide_eq_true_eq] at h
  omega
theorem shareCounts_walk (t n : Int) (ht : -2147483648 ≤ t ∧ t ≤ 2147483647) (w : World) :
    Calls Try.prog 3 #[.int .i32 t, .int .i64 n] w fun e w' => e = .returned (.bool true) ∧ Below w.heap.size w w' := by
  by_cases h0 : n < 0
  · exact shareCounts_neg t n ht h0 w
  · by_cases h1 : 1024 < n
    · exact shareCounts_many t n ht h1 w
    · obtain ⟨m, rfl⟩ := Int.eq_ofNat_of_zero_le (show 0 ≤ n by omega)
      by_cases h2 : 0 < m
      · exact shareCounts_main t m ht (by omega) h2 w
      · obtain rfl : m = 0 := by omega
        exact shareCounts_zero t ht w
set_option maxRecDepth 100000 in
theorem shareCounts_lifted (os : Os) (started : os.Started) (H : Type) (enc : TypeId × Value → H) :
    ReturnsInHanded {} Try.checked os 3 .any (Rows.shareCountsSpec.pre6 enc Try.prog Try.f3 [] false) (Rows.shareCountsSpec.post enc Try.prog Try.f3 false true false false) := by
  refine law_lift os started H enc (by kernel_rfl) Try.func3 rfl (by kernel_rfl) rfl Try.underlying4
    (ChangeSpec.witness6 (enc := enc) (C := Try.checked) false ⟨#[], #[.int .i32 0, .int .i64 0], []⟩ 8 (by kernel_rfl) (by kernel_rfl) (by kernel_rfl) (by kernel_rfl)) ?_
  intro W base args ds p hval hA hsz
  rw [Try.params3] at hA hval
  obtain ⟨v0, v1, d0, d1, p0, p1, rfl, rfl, rfl, h0, h1⟩ := trodAll_two hA
  obtain ⟨t, rfl, _, _, wt⟩ := open_int Try.underlying21 (hval 0 21 v0 rfl rfl) h0
  obtain ⟨n, rfl, _, _, wn⟩ := open_int Try.underlying3 (hval 1 3 v1 rfl rfl) h1
  exact ⟨rfl, shareCounts_walk t n (wf_i32 wt) W⟩

theorem shareCounts_holds : Rows.ShareCountsSaid :=
  OpenClaim.holds_of_wide 3 Try.f3 rfl rfl rfl rfl rfl rfl rfl ⟨rfl, rfl, rfl, rfl, rfl⟩ rfl rfl rfl rfl rfl (by kernel_rfl) Try.func3 (by kernel_rfl)
    (of_decide_eq_true (by kernel_rfl)) (by unfold Func.isWrapper; first | (rw [if_pos (by decide +kernel)]; kernel_rfl) | (rw [if_neg (by decide +kernel)]; exact ⟨rfl, rfl⟩))
    (fun os started H enc _ => shareCounts_lifted os started H enc)
#print axioms shareCounts_holds
end Go.Proofs.Ytbkkpbjlicgcfaa
