/- The walk of SizingFits. -/
import Derived.Test.YtbkkpbjlicgcfaaRatio
set_option linter.unusedVariables false
set_option linter.unusedSimpArgs false
namespace Go.Proofs.Ytbkkpbjlicgcfaa
open Go.RowKit

theorem divAt_low (x d : Int) (hx : (x.natAbs : Int) < 18446744073709551616) (hd : d ≠ 0) (hd' : I64 d) : DivAt x d := by
  intro a b D hab ha hb hD w
  obtain ⟨a0, a1⟩ := ha
  obtain ⟨b0, b1⟩ := hb
  obtain rfl : a = 0 := by omega
  rw [show (0 : Int) % D = 0 from by simp, show (0 : Int) * 18446744073709551616 + b = b from by omega]
  obtain ⟨h3, h4⟩ := hd'
  exact div64_low b D ⟨b0, b1⟩ ⟨by omega, by omega⟩ w

/-- sizing.Fit. -/
theorem fit_any (a l m : Int) (w : World) : Calls Try.prog 13 #[.int .i64 a, .int .i64 l, .int .i64 m] w fun e w' => e = .returned (.int .i64 (max (min a m) l)) ∧ w' = w := by
  apply cps; intro R hR
  go_enter Try.func13, Try.ntmps13
  go_wp2_with fail
  all_goals (refine hR.out _ _ ⟨?_, rfl⟩; refine congrArg Ending.returned (int_ext ?_); omega)

theorem limits_of (l m n : Int) (hlm : m < n) (hl : m < l) (w : World) : Calls Try.prog 40 #[.agg #[.int .i64 l, .int .i64 m, .bool true], .int .i64 n] w fun e w' => e = .returned (.int .i64 l) ∧ Below w.heap.size w w' := by
  apply cps; intro R hR
  go_enter Try.func40, Try.ntmps40
  go_wp2_with fail
  exact hR.out _ _ ⟨rfl, (Below.refl _ _).alloc (Nat.le_refl _) _⟩

theorem in_fixed (base x n d : Int) (hn : I64 n) (hd : I64 d) (hx : I64 x) (hg : GoodR n d) (h93 : DivAt (x * n) d) (hq : -17592186044416 ≤ (x * n).fdiv d ∧ (x * n).fdiv d ≤ 17592186044416) (w : World) :
    Calls Try.prog 69 #[.agg #[.int .i64 3, .int .i64 x], .int .i64 base, ratV n d] w fun e w' => e = .returned (.tuple #[.int .i64 ((x * n).fdiv d), .bool true]) ∧ Below w.heap.size w w' := by
  have S := hid (scale_good x n d hn hd hx hg h93)
  generalize (x * n).fdiv d = q at *
  clear h93 hg
  apply cps; intro R hR
  go_enter Try.func69, Try.ntmps69
  go_wp2_with fail
  refine (S.out _).mono ?_
  rintro e w1 ⟨hb1, y1, y2⟩
  obtain rfl := y1 hq
  have hb2 := hid ((((Below.refl _ _).alloc (Nat.le_refl _) _).alloc (by simp) _).then hb1 (by simp; omega)); clear hb1
  go_wp2_with fail
  exact hR.out _ _ ⟨rfl, hb2.out⟩

theorem of_speaks (w : World) :
    Calls Try.prog 39 #[.agg #[.int .i64 3, .int .i64 640], .agg #[.int .i64 0, .bool false, .int .i64 1, .int .i64 1, .int .i64 2, .int .i64 100]] w fun e w' => e = .returned (.tuple #[.int .i64 540, .bool true]) ∧ Below w.heap.size w w' := by
  have S := fun w => in_fixed 0 640 1 1 (by unfold I64; omega) (by unfold I64; omega) (by unfold I64; omega) (by unfold GoodR; decide) (divAt_low _ _ (by decide) (by decide) (by unfold I64; omega)) (by decide) w
  have e1 : ((640 : Int) * 1).fdiv 1 = 640 := by decide
  rw [e1] at S
  have s := hid S; clear S e1
  apply cps; intro R hR
  go_enter Try.func39, Try.ntmps39
  go_wp2_with fail
  refine (s.out _).mono ?_
  rintro e w1 ⟨rfl, hb1⟩
  have hz1 : w.heap.size + 1 < w1.heap.size := by have := hb1.size; simp at this; omega
  have c3 := hb1.cell (p := ⟨w.heap.size + 1, 3, none⟩) (by simp)
  have c4 := hb1.cell (p := ⟨w.heap.size + 1, 4, none⟩) (by simp)
  have c5 := hb1.cell (p := ⟨w.heap.size + 1, 5, none⟩) (by simp)
  simp [go_sem] at c3 c4 c5
  have HB := hid ((((Below.refl _ _).alloc (Nat.le_refl _) _).alloc (by simp) _).then hb1 (by simp; omega)); clear hb1
  go_wp2_with fail
  refine (fsub_in 640 100 (by decide) (by decide) (by decide) (by decide) _).mono ?_
  rintro e w1 ⟨rfl, rfl⟩
  go_wp2_with fail
  exact hR.out _ _ ⟨rfl, HB.out⟩

/-- The closure that speaks hands to fixed.Try. -/
theorem speaks1_any (b1 b2 : Nat) (n0 : Int) (o0 : Bool) (w : World) (hne : b1 ≠ b2) (c1 : w.cell? ⟨b1, 0, none⟩ = some (.int .i64 n0)) (c2 : w.cell? ⟨b2, 0, none⟩ = some (.bool o0))
    (f1 : w.frozen? ⟨b1, 0, none⟩ = false) (f2 : w.frozen? ⟨b2, 0, none⟩ = false) :
    Calls Try.prog 38 #[.pointer (some ⟨b1, 0, none⟩), .pointer (some ⟨b2, 0, none⟩)] w fun e w' => e = .returned (.tuple #[]) ∧ ∃ w1, Below w.heap.size w w1 ∧ w' = (w1.setCell ⟨b1, 0, none⟩ (.int .i64 540)).setCell ⟨b2, 0, none⟩ (.bool true) := by
  have l1 := World.block_lt_of_cell? w _ c1
  have l2 := World.block_lt_of_cell? w _ c2
  simp only at l1 l2
  apply cps; intro R hR
  go_enter Try.func38, Try.ntmps38
  go_wp2_with fail
  refine (of_speaks _).mono ?_
  rintro e w1 ⟨rfl, hb1⟩
  have d1 := (hb1.cell (p := ⟨b1, 0, none⟩) l1).trans c1
  have d2 := (hb1.cell (p := ⟨b2, 0, none⟩) l2).trans c2
  have g1 := (hb1.frozen (p := ⟨b1, 0, none⟩) l1).trans f1
  have g2 := (hb1.frozen (p := ⟨b2, 0, none⟩) l2).trans f2
  have HB := hid hb1; clear hb1 c1 c2 f1 f2
  go_wp2_with fail
  exact bodyPost_end (results_none rfl _ _ _) rfl (hR.out _ _ ⟨rfl, w1, HB.out, rfl⟩)
theorem enters38 (args : Array Value) (w : World) : (callFunc 38 args).run Try.prog w = .ok (.enter 38 args) w := enters Try.func38 (by kernel_rfl) (by kernel_rfl) args w

set_option maxRecDepth 10000 in
set_option maxHeartbeats 400000 in
theorem speaks14 (w : World) : Calls Try.prog 12 #[] w fun e w' => e = .returned (.bool true) ∧ Below w.heap.size w w' := by
  have hmf : ∀ (fn : Fn) (first cap : Array Value) (w : World), (Instr.makeFunc fn first cap).run Try.prog w = .ok (.func fn first cap) w := fun _ _ _ _ => rfl
  apply cps; intro R hR
  go_enter Try.func12, Try.ntmps12
  go_wp2_with fail
  refine (try_any 38 _ _ (fun x w' => x = 0 ∧ Below w.heap.size w w' ∧ w'.cell? ⟨w.heap.size, 0, none⟩ = some (.int .i64 540) ∧ w'.cell? ⟨w.heap.size + 1, 0, none⟩ = some (.bool true)) enters38 ?_).mono ?_
  · refine (speaks1_any w.heap.size (w.heap.size + 1) 0 false _ (by omega) (by simp [go_sem]) (by simp [go_sem]) (by simp [go_sem]) (by simp [go_sem])).mono ?_
    rintro e w' ⟨rfl, w1, hb1, rfl⟩
    have hz1 : w.heap.size + 2 < w1.heap.size := by have := hb1.size; simp at this; omega
    have c0 := hb1.cell (p := ⟨w.heap.size, 0, none⟩) (by simp; omega)
    have c1 := hb1.cell (p := ⟨w.heap.size + 1, 0, none⟩) (by simp)
    have c2 := hb1.cell (p := ⟨w.heap.size + 2, 0, none⟩) (by simp)
    have f2 := hb1.frozen (p := ⟨w.heap.size + 2, 0, none⟩) (by simp)
    simp [go_sem] at c0 c1 c2 f2
    refine ⟨?_, ?_, Or.inl ⟨rfl, rfl, ?_, ?_, ?_⟩⟩
    · simp [go_sem, c2]
    · simp [go_sem, f2]
    · exact ((((((Below.refl _ _).alloc (Nat.le_refl _) _).alloc (by simp) _).alloc (by simp; omega) _).then hb1 (by simp; omega)).setCell (by simp) _).setCell (by simp) _
    · simp [go_sem, c0]
    · simp [go_sem, c1]
  rintro e w1 ⟨x, rfl, rfl, hb, c0, c1⟩
  have HB := hid hb; clear hb
  go_wp2_with fail
  refine (fit_any 5 7 9 _).mono ?_
  rintro e w2 ⟨rfl, rfl⟩
  rw [show max (min (5 : Int) 9) 7 = 7 from by decide]
  go_wp2_with fail
  refine (limits_of 3 2 9 (by decide) (by decide) _).mono ?_
  rintro e w3 ⟨rfl, hb3⟩
  have HB3 := hid (HB.out.then hb3 HB.out.size); clear hb3
  go_wp2_with fail
  exact hR.out _ _ ⟨rfl, HB3.out⟩

set_option maxRecDepth 10000 in
set_option maxHeartbeats 800000 in
theorem sizingFits_walk (a more l m : Int) (ha : 0 ≤ a ∧ a ≤ 4294967295) (hmore : 0 ≤ more ∧ more ≤ 4294967295) (hl : 0 ≤ l ∧ l ≤ 4294967295) (hm : 0 ≤ m ∧ m ≤ 4294967295) (w : World) :
    Calls Try.prog 4 #[.agg #[.int .u32 a, .int .u32 more, .int .u32 l, .int .u32 m]] w fun e w' => e = .returned (.bool true) ∧ Below w.heap.size w w' := by
  obtain ⟨n, hn⟩ : ∃ n, n = max (min a m) l := ⟨_, rfl⟩
  obtain ⟨n2, hn2⟩ : ∃ n2, n2 = max (min (a + more) m) l := ⟨_, rfl⟩
  have F1 := fit_any a l m
  have F2 := fit_any (a + more) l m
  rw [← hn] at F1
  rw [← hn2] at F2
  have k2 : n ≤ n2 := by omega
  have f1 := hid F1; have f2 := hid F2; clear F1 F2
  obtain ⟨a0, a1⟩ := ha
  obtain ⟨b0, b1⟩ := hmore
  obtain ⟨l0, l1⟩ := hl
  obtain ⟨m0, m1⟩ := hm
  apply cps; intro R hR
  by_cases c1 : a ≤ m <;> by_cases c2 : min a m ≤ l
  · obtain rfl : n = l := by omega
    have HN := hid hn; have HN2 := hid hn2; clear hn hn2
    go_enter Try.func4, Try.ntmps4
    go_wp2_with fail
    refine (speaks14 _).mono ?_
    rintro e w1 ⟨rfl, hb1⟩
    have hz1 : w.heap.size < w1.heap.size := by have := hb1.size; simp at this; omega
    have e0 := hb1.cell (p := ⟨w.heap.size, 0, none⟩) (by simp)
    have e1 := hb1.cell (p := ⟨w.heap.size, 1, none⟩) (by simp)
    have e2 := hb1.cell (p := ⟨w.heap.size, 2, none⟩) (by simp)
    have e3 := hb1.cell (p := ⟨w.heap.size, 3, none⟩) (by simp)
    simp [go_sem] at e0 e1 e2 e3
    have HB := hid (((Below.refl _ _).alloc (Nat.le_refl _) _).then hb1 (by simp)); clear hb1
    go_wp2_with fail
    go_quiet (fail)
    go_wp2_with fail
    refine (f1.out _).mono ?_
    rintro e w2 ⟨rfl, rfl⟩
    go_wp2_with fail
    refine (f2.out _).mono ?_
    rintro e w2 ⟨rfl, rfl⟩
    go_wp2_with fail
    exact hR.out _ _ ⟨rfl, HB.out.drewN _⟩
  · obtain rfl : n = a := by omega
    have HN := hid hn; have HN2 := hid hn2; clear hn hn2
    go_enter Try.func4, Try.ntmps4
    go_wp2_with fail
    refine (speaks14 _).mono ?_
    rintro e w1 ⟨rfl, hb1⟩
    have hz1 : w.heap.size < w1.heap.size := by have := hb1.size; simp at this; omega
    have e0 := hb1.cell (p := ⟨w.heap.size, 0, none⟩) (by simp)
    have e1 := hb1.cell (p := ⟨w.heap.size, 1, none⟩) (by simp)
    have e2 := hb1.cell (p := ⟨w.heap.size, 2, none⟩) (by simp)
    have e3 := hb1.cell (p := ⟨w.heap.size, 3, none⟩) (by simp)
    simp [go_sem] at e0 e1 e2 e3
    have HB := hid (((Below.refl _ _).alloc (Nat.le_refl _) _).then hb1 (by simp)); clear hb1
    go_wp2_with fail
    go_quiet (fail)
    go_wp2_with fail
    refine (f1.out _).mono ?_
    rintro e w2 ⟨rfl, rfl⟩
    go_wp2_with fail
    refine (f2.out _).mono ?_
    rintro e w2 ⟨rfl, rfl⟩
    go_wp2_with fail
    exact hR.out _ _ ⟨rfl, HB.out.drewN _⟩
  · obtain rfl : n = l := by omega
    have HN := hid hn; have HN2 := hid hn2; clear hn hn2
    go_enter Try.func4, Try.ntmps4
    go_wp2_with fail
    refine (speaks14 _).mono ?_
    rintro e w1 ⟨rfl, hb1⟩
    have hz1 : w.heap.size < w1.heap.size := by have := hb1.size; simp at this; omega
    have e0 := hb1.cell (p := ⟨w.heap.size, 0, none⟩) (by simp)
    have e1 := hb1.cell (p := ⟨w.heap.size, 1, none⟩) (by simp)
    have e2 := hb1.cell (p := ⟨w.heap.size, 2, none⟩) (by simp)
    have e3 := hb1.cell (p := ⟨w.heap.size, 3, none⟩) (by simp)
    simp [go_sem] at e0 e1 e2 e3
    have HB := hid (((Below.refl _ _).alloc (Nat.le_refl _) _).then hb1 (by simp)); clear hb1
    go_wp2_with fail
    go_quiet (fail)
    go_wp2_with fail
    refine (f1.out _).mono ?_
    rintro e w2 ⟨rfl, rfl⟩
    go_wp2_with fail
    refine (f2.out _).mono ?_
    rintro e w2 ⟨rfl, rfl⟩
    go_wp2_with fail
    exact hR.out _ _ ⟨rfl, HB.out.drewN _⟩
  · obtain rfl : n = m := by omega
    have HN := hid hn; have HN2 := hid hn2; clear hn hn2
    go_enter Try.func4, Try.ntmps4
    go_wp2_with fail
    refine (speaks14 _).mono ?_
    rintro e w1 ⟨rfl, hb1⟩
    have hz1 : w.heap.size < w1.heap.size := by have := hb1.size; simp at this; omega
    have e0 := hb1.cell (p := ⟨w.heap.size, 0, none⟩) (by simp)
    have e1 := hb1.cell (p := ⟨w.heap.size, 1, none⟩) (by simp)
    have e2 := hb1.cell (p := ⟨w.heap.size, 2, none⟩) (by simp)
    have e3 := hb1.cell (p := ⟨w.heap.size, 3, none⟩) (by simp)
    simp [go_sem] at e0 e1 e2 e3
    have HB := hid (((Below.refl _ _).alloc (Nat.le_refl _) _).then hb1 (by simp)); clear hb1
    go_wp2_with fail
    go_quiet (fail)
    go_wp2_with fail
    refine (f1.out _).mono ?_
    rintro e w2 ⟨rfl, rfl⟩
    go_wp2_with fail
    refine (f2.out _).mono ?_
    rintro e w2 ⟨rfl, rfl⟩
    go_wp2_with fail
    exact hR.out _ _ ⟨rfl, HB.out.drewN _⟩
end Go.Proofs.Ytbkkpbjlicgcfaa
