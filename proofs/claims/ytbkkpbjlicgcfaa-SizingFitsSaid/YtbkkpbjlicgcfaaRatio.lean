/- Contracts of package ratio (size, common, Good, Down) and of fixed.Scale, fixed.Sub. -/
import Derived.Test.YtbkkpbjlicgcfaaFixed
import Derived.LoopTactic
set_option linter.unusedVariables false
set_option linter.unusedSimpArgs false
namespace Go.Proofs.Ytbkkpbjlicgcfaa
open Go.RowKit

theorem rsize_any (n : Int) (hn : I64 n) (w : World) :
    Calls Try.prog 100 #[.int .i64 n] w fun e w' => e = .returned (.int .u64 n.natAbs) ∧ w' = w := by
  obtain ⟨h1, h2⟩ := hn
  apply cps; intro R hR
  by_cases c : n < 0
  · obtain ⟨u, hu, hu1, hu2⟩ : ∃ u : Int, IntKind.u64.wrap n = u ∧ u = n + 18446744073709551616 ∧ 0 ≤ u := by
      refine ⟨_, rfl, ?_⟩; rw [IntKind.wrap_u64]; omega
    have k1 : IntKind.u64.wrap (-u) = n.natAbs := by rw [IntKind.wrap_u64]; omega
    generalize (n.natAbs : Int) = m at *
    clear hu1
    go_enter Try.func100, Try.ntmps100
    go_wp2_with fail
    exact hR.out _ _ ⟨rfl, rfl⟩
  · have k1 : (n.natAbs : Int) = n := by omega
    rw [k1] at hR; clear k1
    go_enter Try.func100, Try.ntmps100
    go_wp2_with fail
    exact hR.out _ _ ⟨rfl, rfl⟩

/-- ratio.common: the greatest common divisor. -/
theorem common_any (a b : Nat) (ha : a < 18446744073709551616) (hb : b < 18446744073709551616) (w : World) :
    Calls Try.prog 99 #[.int .u64 a, .int .u64 b] w fun e w' => e = .returned (.int .u64 (Nat.gcd a b)) ∧ ∃ k, w' = w.drewN k := by
  apply cps; intro R hR
  go_enter Try.func99, Try.ntmps99
  go_wp2_with fail
  go_loopw [0, 1] (fun x y wr => ∃ m n : Nat, m < 18446744073709551616 ∧ n < 18446744073709551616 ∧ Hid (Nat.gcd m n = Nat.gcd a b) ∧ x = .int .u64 m ∧ y = .int .u64 n ∧ ∃ k, wr = w.drewN k) (fun x y _ => (intOf y).toNat)
  case atStart => exact ⟨a, b, ha, hb, rfl, rfl, rfl, 0, rfl⟩
  case round =>
    obtain ⟨m, n, hm, hn, hg, rfl, rfl, k0, rfl⟩ := hrel
    by_cases c : 0 < n
    · have c0 : ¬ (n : Int) = 0 := by omega
      go_wp2_with fail
      go_quiet (fail)
      go_wp2_with fail
      go_roundw
      case rel => exact ⟨n, m % n, hn, by have := Nat.mod_lt m c; omega, by rw [Nat.gcd_comm, ← Nat.gcd_rec, Nat.gcd_comm]; exact hg.out, rfl, by simp, _, World.drewN_drewN ..⟩
      case measure => 
        simp [intOf]
        have := Nat.mod_lt m c
        omega
    · obtain rfl : n = 0 := by omega
      go_wp2_with fail
      refine hR.out _ _ ⟨?_, _, rfl⟩
      have := hg.out
      rw [Nat.gcd_zero_right] at this
      rw [← this]; rfl

/-- A ratio in memory. -/
abbrev ratV (n d : Int) : Value := .agg #[.int .i64 n, .int .i64 d]

theorem good_with (n d : Int) (hn : I64 n) (hd : I64 d) (hd1 : 1 ≤ d) (g : Nat) (hg : Nat.gcd n.natAbs d.natAbs = g) (w : World) :
    Calls Try.prog 96 #[ratV n d] w fun e w' => e = .returned (.bool ((g : Int) == 1)) ∧ Below w.heap.size w w' := by
  have B1 := hid (rsize_any n hn)
  have B2 := hid (rsize_any d hd)
  have B3 := hid (common_any n.natAbs d.natAbs (by obtain ⟨_, _⟩ := hn; omega) (by obtain ⟨_, _⟩ := hd; omega))
  rw [hg] at B3; clear hg
  obtain ⟨h1, h2⟩ := hn
  obtain ⟨h3, h4⟩ := hd
  apply cps; intro R hR
  generalize (n.natAbs : Int) = N at *
  generalize (d.natAbs : Int) = D at *
  go_enter Try.func96, Try.ntmps96
  go_wp2_with fail
  go_quiet ((first | (go_at_call 99; exact Calls.quiet_of (B3.out _)) | (with_reducible exact Calls.quiet_of_same (B1.out _)) | (with_reducible exact Calls.quiet_of_same (B2.out _))))
  go_wp2_with fail
  exact hR.out _ _ ⟨rfl, ((Below.refl _ _).alloc (Nat.le_refl _) _).drewN _⟩

theorem good_low (n d : Int) (hd1 : ¬ 1 ≤ d) (w : World) :
    Calls Try.prog 96 #[ratV n d] w fun e w' => e = .returned (.bool false) ∧ Below w.heap.size w w' := by
  have k0 : decide (1 ≤ d) = false := by simpa using hd1
  have k1 : d < 1 := by omega
  apply cps; intro R hR
  go_enter Try.func96, Try.ntmps96
  go_wp2_with fail
  go_quiet (fail)
  go_wp2_with fail
  exact hR.out _ _ ⟨rfl, ((Below.refl _ _).alloc (Nat.le_refl _) _).drewN _⟩

/-- May a ratio be? -/
def GoodR (n d : Int) : Prop := 1 ≤ d ∧ Nat.gcd n.natAbs d.natAbs = 1
theorem good_any (n d : Int) (hn : I64 n) (hd : I64 d) (w : World) :
    Calls Try.prog 96 #[ratV n d] w fun e w' => ∃ b : Bool, (b = true ↔ GoodR n d) ∧ e = .returned (.bool b) ∧ Below w.heap.size w w' := by
  by_cases c : 1 ≤ d
  · refine (good_with n d hn hd c _ rfl w).mono ?_
    rintro e w' ⟨rfl, hb⟩
    refine ⟨_, ?_, rfl, hb⟩
    simp [GoodR, c]; omega
  · refine (good_low n d c w).mono ?_
    rintro e w' ⟨rfl, hb⟩
    exact ⟨false, by simp [GoodR, c], rfl, hb⟩

/-- (ratio.Ratio).Down of a good ratio. -/
theorem down_good (n d x : Int) (hn : I64 n) (hd : I64 d) (hx : I64 x) (hg : GoodR n d) (h93 : DivAt (x * n) d) (w : World) :
    Calls Try.prog 88 #[ratV n d, .int .i64 x] w fun e w' =>
      ((I64 ((x * n).fdiv d) → e = .returned (.tuple #[.int .i64 ((x * n).fdiv d), .int .i64 0])) ∧ (¬ I64 ((x * n).fdiv d) → e = .returned (.tuple #[.int .i64 0, .int .i64 2]))) ∧ Below w.heap.size w w' := by
  have M1 := hid (muldiv_any x n d hx hn hd (by have := hg.1; omega) h93)
  have G1 := hid (good_any n d hn hd)
  generalize (x * n).fdiv d = q at *
  clear h93
  obtain ⟨h1, h2⟩ := hn
  obtain ⟨h3, h4⟩ := hd
  apply cps; intro R hR
  go_enter Try.func88, Try.ntmps88
  go_wp2_with fail
  refine (G1.out _).mono ?_
  rintro e w1 ⟨b, hb, rfl, hb1⟩
  obtain rfl := hb.2 hg
  have hz1 : w.heap.size < w1.heap.size := by have := hb1.size; simp at this; omega
  have c0 := hb1.cell (p := ⟨w.heap.size, 0, none⟩) (by simp)
  have c1 := hb1.cell (p := ⟨w.heap.size, 1, none⟩) (by simp)
  simp [go_sem] at c0 c1
  have HB := hid (((Below.refl _ _).alloc (Nat.le_refl _) _).then hb1 (by simp)); clear hb1 hb
  go_wp2_with fail
  refine (M1.out _).mono ?_
  rintro e w2 ⟨⟨y1, y2⟩, hb2⟩
  have HB2 := hid (HB.out.then hb2 (by omega)); clear hb2
  by_cases cq : I64 q
  · obtain rfl := y1 cq
    clear y1 y2
    go_wp2_with fail
    exact hR.out _ _ ⟨⟨fun _ => rfl, fun h => absurd cq h⟩, HB2.out⟩
  · obtain rfl := y2 cq
    clear y1 y2
    go_wp2_with fail
    exact hR.out _ _ ⟨⟨fun h => absurd h cq, fun _ => rfl⟩, HB2.out⟩

/-- What fixed.clipped answers. -/
def clip (n : Int) : Int := min (max n (-52776558133248)) 52776558133248
theorem clip_bd (n : Int) : -52776558133248 ≤ clip n ∧ clip n ≤ 52776558133248 ∧ (-52776558133248 ≤ n → n ≤ 52776558133248 → clip n = n) ∧ (n < -52776558133248 → clip n = -52776558133248) ∧ (52776558133248 < n → clip n = 52776558133248) := by
  unfold clip; omega
theorem clipped_any (n : Int) (w : World) : Calls Try.prog 81 #[.int .i64 n] w fun e w' => e = .returned (.int .i64 (clip n)) ∧ w' = w := by
  apply cps; intro R hR
  have hb := hid (clip_bd n)
  go_enter Try.func81, Try.ntmps81
  go_wp2_with fail
  all_goals (refine hR.out _ _ ⟨?_, rfl⟩; refine congrArg Ending.returned (int_ext ?_); unfold clip; omega)

/-- fixed.Sub of two numbers within 2^45: their difference, or it gives up. -/
theorem fsub_in (a b : Int) (h0 : -17592186044416 ≤ a - b) (h1 : a - b ≤ 17592186044416) (ha : -35184372088832 ≤ a) (ha' : a ≤ 35184372088832) (w : World) :
    Calls Try.prog 70 #[.int .i64 a, .int .i64 b] w fun e w' => e = .returned (.int .i64 (a - b)) ∧ w' = w := by
  have A := hid (clipped_any a)
  have B := hid (clipped_any b)
  have e1 : clip a = a := (clip_bd a).2.2.1 (by omega) (by omega)
  have e2 : clip b = b := (clip_bd b).2.2.1 (by omega) (by omega)
  rw [e1] at A; rw [e2] at B; clear e1 e2
  have F := hid (fof_in (a - b) h0 h1)
  apply cps; intro R hR
  go_enter Try.func70, Try.ntmps70
  go_wp2_with fail
  refine (A.out _).mono ?_
  rintro e w1 ⟨rfl, rfl⟩
  go_wp2_with fail
  refine (B.out _).mono ?_
  rintro e w1 ⟨rfl, rfl⟩
  go_wp2_with fail
  refine (F.out _).mono ?_
  rintro e w1 ⟨rfl, rfl⟩
  go_wp2_with fail
  refine (F.out _).mono ?_
  rintro e w1 ⟨rfl, rfl⟩
  go_wp2_with fail
  exact hR.out _ _ ⟨rfl, rfl⟩

/-- fixed.Scale by a good ratio. -/
theorem scale_good (x n d : Int) (hn : I64 n) (hd : I64 d) (hx : I64 x) (hg : GoodR n d) (h93 : DivAt (x * n) d) (w : World) :
    Calls Try.prog 80 #[.int .i64 x, ratV n d] w (PartEnd ((x * n).fdiv d) w) := by
  have D := hid (down_good n d x hn hd hx hg h93)
  generalize (x * n).fdiv d = q at *
  clear h93 hg
  apply cps; intro R hR
  go_enter Try.func80, Try.ntmps80
  go_wp2_with fail
  refine (D.out _).mono ?_
  rintro e w1 ⟨⟨y1, y2⟩, hb1⟩
  have hb2 := hid (((Below.refl _ _).alloc (Nat.le_refl _) _).then hb1 (by simp)); clear hb1
  by_cases cq : I64 q
  · obtain rfl := y1 cq
    clear y1 y2
    go_wp2_with fail
    refine (fail_no _).mono ?_
    rintro e w' ⟨rfl, rfl⟩
    by_cases c1 : -17592186044416 ≤ q ∧ q ≤ 17592186044416
    · go_wp2_with fail
      refine (fof_in q c1.1 c1.2 _).mono ?_
      rintro e w' ⟨rfl, rfl⟩
      go_wp2_with fail
      exact hR.out _ _ ⟨hb2.out, fun _ => rfl, fun h => absurd c1 h⟩
    · go_wp2_with fail
      refine (fof_out q (by omega) _).mono ?_
      rintro e w' ⟨rfl, rfl⟩
      go_wp2_with fail
      exact ⟨rfl, hR.out _ _ ⟨hb2.out, fun h => absurd h c1, fun _ => rfl⟩⟩
  · obtain rfl := y2 cq
    clear y1 y2
    go_wp2_with fail
    refine (fail_up 2 (by decide) _).mono ?_
    rintro e w' ⟨rfl, rfl⟩
    go_wp2_with fail
    exact ⟨rfl, hR.out _ _ ⟨hb2.out, fun h => absurd ⟨by omega, by omega⟩ cq, fun _ => rfl⟩⟩
end Go.Proofs.Ytbkkpbjlicgcfaa
