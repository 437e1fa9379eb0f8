/- Contracts of the functions of clapboardlaw10. -/
import Derived.Test.YtfgphleophghnaaRefE
set_option linter.unusedVariables false
set_option linter.unusedSimpArgs false
namespace Go.Proofs.Ytfgphleophghnaa
open Go.RowKit Go.MapKept

set_option maxRecDepth 20000 in
/-- same, of lists that are. -/
theorem same_true (a1 a2 : Option Addr) (n c1 c2 : Nat) (l : List Int) (hn : n ≤ 1000000) (w : World) (hs1 : Ints w 3 a1 n c1 l) (hs2 : Ints w 3 a2 n c2 l) :
    Calls Try.prog 25 #[.slice a1 n c1, .slice a2 n c2] w fun e w' => e = .returned (.bool true) ∧ Below w.heap.size w w' := by
  apply cps; intro R hR
  have H1 := hid hs1
  have H2 := hid hs2
  clear hs1 hs2
  go_enter Try.func25, Try.ntmps25
  go_wp2_with fail
  go_loopw [5] (fun k wr => ∃ j : Nat, j ≤ n ∧ k = .int .i64 j ∧ Below w.heap.size w wr) (fun k _ => n - (intOf k).toNat)
  case atStart => exact ⟨0, Nat.zero_le _, rfl, Below.refl _ _⟩
  case round =>
    obtain ⟨j, hj, rfl, hb⟩ := hrel
    by_cases hlt : j < n
    · obtain ⟨b1, o1, rfl, hb1, hc1⟩ := Ints.atI (l := l) (Arr.below H1.out hb) (by omega)
      obtain ⟨b2, o2, rfl, hb2, hc2⟩ := Ints.atI (l := l) (Arr.below H2.out hb) (by omega)
      have k1 := hc1 j hlt
      have k2 := hc2 j hlt
      replace hb := hid hb
      have hjI : (j : Int) < n := by omega
      clear hc1 hc2
      generalize l.getD j 0 = y at *
      go_wp2_with fail
      go_quiet (fail)
      go_wp2_with fail
      go_roundw
      case rel => exact ⟨j + 1, by omega, by go_num, hb.out.drewN nq⟩
      case measure => simp [intOf]; omega
    · obtain rfl : j = n := by omega
      replace hb := hid hb
      go_wp2_with fail
      exact hR.out _ _ ⟨rfl, hb.out⟩
end Go.Proofs.Ytfgphleophghnaa
