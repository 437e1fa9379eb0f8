/- SizingFits: for every input the law returns true and leaves its argument as it was. No condition. -/
import Derived.Test.YtbkkpbjlicgcfaaSizW
import Derived.Test.YtbkkpbjlicgcfaaLift
import Derived.Lib.SmallJoins
set_option linter.unusedVariables false
set_option linter.unusedSimpArgs false
namespace Go.Proofs.Ytbkkpbjlicgcfaa
open Go.ChangeShapes Go.WideShapes Go.ChangeAt Go.RowKit Go.Joins

theorem cells32 : Try.prog.cellsOf 32 = 4 := by kernel_rfl
theorem wf_u32 {a : Int} (h : (Lit.int .u32 a).wf = true) : 0 ≤ a ∧ a ≤ 4294967295 := by
  have hmin : IntKind.u32.min = 0 := rfl
  have hmax : IntKind.u32.max = 4294967295 := rfl
  simp only [Lit.wf, Bool.and_eq_true, decide_eq_true_eq] at h
  omega
set_option maxRecDepth 100000 in
theorem sizingFits_lifted (os : Os) (started : os.Started) (H : Type) (enc : TypeId × Value → H) :
    ReturnsInHanded {} Try.checked os 4 .any (Rows.sizingFitsSpec.pre6 enc Try.prog Try.f4 [] false) (Rows.sizingFitsSpec.post enc Try.prog Try.f4 false true false false) := by
  refine law_lift os started H enc (by kernel_rfl) Try.func4 rfl (by kernel_rfl) rfl Try.underlying4
    (ChangeSpec.witness6 (enc := enc) (C := Try.checked) false ⟨#[], #[.agg #[.int .u32 0, .int .u32 0, .int .u32 0, .int .u32 0]], []⟩ 8 (by kernel_rfl) (by kernel_rfl) (by kernel_rfl) (by kernel_rfl)) ?_
  intro W base args ds p hval hA hsz
  rw [Try.params4] at hA hval
  obtain ⟨v0, d0, rfl, rfl, h0⟩ := trodAll_one hA
  obtain ⟨c0, c1, c2, c3, y0, y1, y2, y3, m, rfl, rfl, rfl, hy0, hy1, hy2, hy3⟩ := open_agg4 Try.underlying32 (by kernel_rfl) cells32 (hval 0 32 v0 rfl rfl) h0
  obtain ⟨a, e0, _, wa⟩ := DataW.trod_int Try.underlying30 hy0
  obtain ⟨b, e1, _, wb⟩ := DataW.trod_int Try.underlying30 hy1
  obtain ⟨c, e2, _, wc⟩ := DataW.trod_int Try.underlying30 hy2
  obtain ⟨d, e3, _, wd⟩ := DataW.trod_int Try.underlying30 hy3
  simp at e0 e1 e2 e3
  subst e0 e1 e2 e3
  exact ⟨rfl, sizingFits_walk a b c d (wf_u32 wa) (wf_u32 wb) (wf_u32 wc) (wf_u32 wd) W⟩

theorem sizingFits_holds : Rows.SizingFitsSaid :=
  OpenClaim.holds_of_wide 4 Try.f4 rfl rfl rfl rfl rfl rfl rfl ⟨rfl, rfl, rfl, rfl, rfl⟩ rfl rfl rfl rfl rfl (by kernel_rfl) Try.func4 (by kernel_rfl)
    (of_decide_eq_true (by kernel_rfl)) (by unfold Func.isWrapper; first | (rw [if_pos (by decide +kernel)]; kernel_rfl) | (rw [if_neg (by decide +kernel)]; exact ⟨rfl, rfl⟩))
    (fun os started H enc _ => sizingFits_lifted os started H enc)
#print axioms sizingFits_holds
end Go.Proofs.Ytbkkpbjlicgcfaa
