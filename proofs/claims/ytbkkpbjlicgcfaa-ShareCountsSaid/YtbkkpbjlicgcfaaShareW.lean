/- The walk of ShareCounts: too few parts, too many, and so many. -/
import Derived.Test.YtbkkpbjlicgcfaaShareC
set_option linter.unusedVariables false
set_option linter.unusedSimpArgs false
namespace Go.Proofs.Ytbkkpbjlicgcfaa
open Go.RowKit

set_option maxRecDepth 100000 in
set_option maxHeartbeats 800000 in
theorem shareCounts_neg (t n : Int) (ht : -2147483648 ≤ t ∧ t ≤ 2147483647) (hn : n < 0) (w : World) :
    Calls Try.prog 3 #[.int .i32 t, .int .i64 n] w fun e w' => e = .returned (.bool true) ∧ Below w.heap.size w w' := by
  obtain ⟨t1, t2⟩ := ht
  apply cps; intro R hR
  go_enter Try.func3, Try.ntmps3
  go_wp2_with fail
  refine (speaks05 _).mono ?_
  rintro e w1 ⟨rfl, hb1⟩
  have HB1 := hid hb1; clear hb1
  go_wp2_with fail
  refine (even_neg _ n hn _).mono ?_
  rintro e w2 ⟨rfl, rfl⟩
  go_wp2_with fail
  exact hR.out _ _ ⟨rfl, HB1.out⟩

set_option maxRecDepth 100000 in
set_option maxHeartbeats 800000 in
theorem shareCounts_many (t n : Int) (ht : -2147483648 ≤ t ∧ t ≤ 2147483647) (hn : 1024 < n) (w : World) :
    Calls Try.prog 3 #[.int .i32 t, .int .i64 n] w fun e w' => e = .returned (.bool true) ∧ Below w.heap.size w w' := by
  obtain ⟨t1, t2⟩ := ht
  have hn0 : ¬ n < 0 := by omega
  obtain ⟨i0, hi, hz0, hz1, hz2⟩ := info_parts info2
  apply cps; intro R hR
  go_enter Try.func3, Try.ntmps3
  go_wp2_with fail
  refine (speaks05 _).mono ?_
  rintro e w1 ⟨rfl, hb1⟩
  have HB1 := hid hb1; clear hb1
  go_wp2_with fail
  refine (even_many _ n hn _).mono ?_
  rintro e w2 ⟨rfl, rfl⟩
  go_wp2_with (at_make; refine wpList_make_full _ rfl _ _ 23 rfl w1.heap.size 2 i0 (.int .i64 0) 1 Try.underlying23 hi hz0 hz1 .i64 .i64 1025 1025 1025 rfl rfl rfl rfl (by rw [hz2]; omega) (by unfold maxLen; omega) (Nat.le_refl _) ?_)
  intro w2 hown hg
  have hb0 : Below w1.heap.size w1 w2 := ⟨hg.os, hg.tape, hg.output, hg.size, fun k hk => hg.block k hk (by simp)⟩
  have HB2 := hid (HB1.out.then hb0 HB1.out.size)
  clear hown hg hb0
  go_wp2_with fail
  refine (split_many 1 _ 1025 1025 (by omega) _).mono ?_
  rintro e w3 ⟨rfl, hb3⟩
  have HB3 := hid (HB2.out.then hb3 HB2.out.size); clear hb3
  go_wp2_with fail
  exact hR.out _ _ ⟨rfl, HB3.out⟩

set_option maxRecDepth 100000 in
set_option maxHeartbeats 2000000 in
theorem shareCounts_main (t : Int) (n : Nat) (ht : -2147483648 ≤ t ∧ t ≤ 2147483647) (hn : n ≤ 1024) (hn0 : 0 < n) (w : World) :
    Calls Try.prog 3 #[.int .i32 t, .int .i64 n] w fun e w' => e = .returned (.bool true) ∧ Below w.heap.size w w' := by
  have ht' := ht
  obtain ⟨t1, t2⟩ := ht
  have k0 : ¬ (n : Int) < 0 := by omega
  have k1 : ¬ (1024 : Int) < n := by omega
  obtain ⟨i0, hi, hz0, hz1, hz2⟩ := info_parts info2
  apply cps; intro R hR
  go_enter Try.func3, Try.ntmps3
  go_wp2_with fail
  refine (speaks05 _).mono ?_
  rintro e w1 ⟨rfl, hb1⟩
  have HB1 := hid hb1; clear hb1
  go_wp2_with fail
  refine (even_ones t ht' n hn _).mono ?_
  rintro e w2 ⟨hb2, A, C, rfl, hown⟩
  have HB2 := hid (HB1.out.then hb2 HB1.out.size); clear hb2
  have S := hid (sl_of_own hown); clear hown HB1
  obtain ⟨b, o, rfl, hlt2, hcells⟩ := S.out.cells hn0
  have HC := hid hcells; clear hcells
  have cy0 := HC.out 0 hn0
  rw [partsL_getD t n n 0 hn0] at cy0
  simp only [Nat.add_zero, Int.natCast_zero, Int.zero_add, Int.mul_one, Int.mul_zero, Int.zero_ediv, Int.sub_zero] at cy0
  obtain ⟨y, hy⟩ : ∃ y : Int, t / (n : Int) = y := ⟨_, rfl⟩
  rw [hy] at cy0
  have yb := bound_mul t 1 n ht' hn0 hn0 hn
  simp only [Int.natCast_one, Int.mul_one, hy] at yb
  obtain ⟨y0, y1, _, _⟩ := yb
  have HY := hid hy; clear hy
  go_wp2_with fail
  go_loopw [9, 10] (fun s i wr => ∃ k : Nat, k ≤ n ∧ i = .int .i64 k ∧ s = .int .i64 (t * k / n) ∧ ∃ d, wr = w2.drewN d) (fun _ i _ => n - (intOf i).toNat)
  case atStart => exact ⟨0, Nat.zero_le _, rfl, by simp, 0, rfl⟩
  case round =>
    obtain ⟨k, hk, rfl, rfl, d, rfl⟩ := hrel
    by_cases hlt : k < n
    · have cx := HC.out k hlt
      rw [partsL_getD t n n k hlt] at cx
      have nr := part_near t n hn0 k
      rw [HY.out] at nr
      have b1 := bound_mul t (k + 1) n ht' (by omega) hn0 hn
      have b0 := bound_mul t k n ht' hk hn0 hn
      rw [show ((k + 1 : Nat) : Int) = (k : Int) + 1 from rfl] at b1
      obtain ⟨p, hp⟩ : ∃ p : Int, t * (k : Int) / n = p := ⟨_, rfl⟩
      obtain ⟨q, hq⟩ : ∃ q : Int, t * ((k : Int) + 1) / n = q := ⟨_, rfl⟩
      rw [hp] at cx nr b0 ⊢
      rw [hq] at cx nr b1
      obtain ⟨x, hx⟩ : ∃ x : Int, q - p = x := ⟨_, rfl⟩
      rw [hx] at cx nr
      obtain ⟨n1, n2⟩ := nr
      obtain ⟨p1, p2, _, _⟩ := b0
      obtain ⟨q1, q2, _, _⟩ := b1
      have d1 : decide (x < y - 1) = false := by simp; omega
      have d2 : decide (y + 1 < x) = false := by simp; omega
      have x1 : -4294967296 ≤ x := by omega
      have x2 : x ≤ 4294967296 := by omega
      have j1 : (k : Int) < (n : Int) := by omega
      have j2 : (0 : Int) ≤ (k : Int) := by omega
      have j3 : (0 : Int) < (n : Int) := by omega
      have HQ := hid hq; have HX := hid hx; clear hp hq hx
      go_wp2_with fail
      go_quiet (fail)
      go_wp2_with fail
      go_roundw
      case rel => exact ⟨k + 1, by omega, by go_num, by rw [show ((k + 1 : Nat) : Int) = (k : Int) + 1 from rfl, HQ.out]; exact int_ext (by have := HX.out; omega), _, rfl⟩
      case measure => simp [intOf]; omega
    · obtain rfl : k = n := by omega
      have e1 : t * (k : Int) / k = t := Int.mul_ediv_cancel _ (by omega)
      rw [e1]; clear e1
      have k2 : ((k : Int) == 0) = false := by simp; omega
      have k3 : (t == t) = true := by simp
      go_wp2_with (at_make; refine wpList_make_full _ rfl _ _ 23 rfl w2.heap.size 2 i0 (.int .i64 0) 1 Try.underlying23 hi hz0 hz1 .i64 .i64 k k k rfl rfl rfl rfl (by rw [hz2]; omega) (by unfold maxLen; omega) (Nat.le_refl _) ?_)
      intro w3 hown hg
      have hb0 : Below w2.heap.size w2 w3 := ⟨hg.os, hg.tape, hg.output, hg.size, fun k hk => hg.block k hk (by simp)⟩
      generalize hxs : (madeCells _ _).toList = xs at hown
      obtain rfl := onesTo_zero k xs hxs.symm
      clear hg hxs
      go_wp2_with fail
      go_loopw [12] (fun i wr => ∃ j : Nat, j ≤ k ∧ i = .int .i64 j ∧ wr.ownsRow w2.heap.size 2 1 (.slice (some ⟨w2.heap.size, 0, none⟩) k k) k (onesTo k j) ∧ Below w2.heap.size w2 wr) (fun i _ => k - (intOf i).toNat)
      case atStart => exact ⟨0, Nat.zero_le _, rfl, hown, hb0⟩
      case round =>
        clear hown hb0
        obtain ⟨j, hj, rfl, hown, hbw⟩ := hrel
        by_cases hlt : j < k
        · obtain ⟨c1, f1, _⟩ := own_cell hown hlt
          obtain ⟨x, hx⟩ := onesTo_get k j hlt
          rw [hx] at c1
          have hs := own_set hown hlt (.int .i64 1)
          rw [onesTo_set k j hlt] at hs
          have HS := hid hs; have HB := hid hbw; clear hs hbw hown hx
          go_wp2_with fail
          go_roundw
          case rel => exact ⟨j + 1, by omega, by go_num, HS.out, HB.out.setCell (Nat.le_refl _) _⟩
          case measure => simp [intOf]; omega
        · obtain rfl : j = k := by omega
          have hs : Sl wr .i64 (some ⟨w2.heap.size, 0, none⟩) j j (List.replicate j 1) := by
            rw [onesTo_all] at hown
            exact sl_of_own hown
          have SP := hid (split_ones t ht' _ j j hn wr hs)
          have HB := hid hbw; clear hs hbw hown
          go_wp2_with fail
          refine SP.out.mono ?_
          rintro e w5 ⟨hb5, A5, C5, rfl, hown5⟩
          have bw : Below w2.heap.size w2 w5 := (Below.refl _ _).trans (HB.out.trans (hb5.mono HB.out.size))
          have S5 := hid (sl_of_own hown5); clear hown5
          have S2 := hid (S.out.below bw)
          have HBW := hid (HB2.out.then bw HB2.out.size); clear hb5 bw
          go_wp2_with fail
          refine (same05 _ _ _ j _ _ (by omega) _ S2.out S5.out).mono ?_
          rintro e w6 ⟨rfl, d6, rfl⟩
          have z0 : ((j : Int) == j) = true := by simp

          go_wp2_with fail
          exact hR.out _ _ ⟨rfl, HBW.out.drewN _⟩

set_option maxRecDepth 100000 in
set_option maxHeartbeats 2000000 in
theorem shareCounts_zero (t : Int) (ht : -2147483648 ≤ t ∧ t ≤ 2147483647) (w : World) :
    Calls Try.prog 3 #[.int .i32 t, .int .i64 0] w fun e w' => e = .returned (.bool true) ∧ Below w.heap.size w w' := by
  have ht' := ht
  obtain ⟨t1, t2⟩ := ht
  obtain ⟨i0, hi, hz0, hz1, hz2⟩ := info_parts info2
  apply cps; intro R hR
  go_enter Try.func3, Try.ntmps3
  go_wp2_with fail
  refine (speaks05 _).mono ?_
  rintro e w1 ⟨rfl, hb1⟩
  have HB1 := hid hb1; clear hb1
  go_wp2_with fail
  refine (even_ones t ht' 0 (by omega) _).mono ?_
  rintro e w2 ⟨hb2, A, C, rfl, hown⟩
  have HB2 := hid (HB1.out.then hb2 HB1.out.size); clear hb2
  have S := hid (sl_of_own hown); clear hown HB1
  go_wp2_with fail
  go_loopw [9, 10] (fun s i wr => i = .int .i64 0 ∧ s = .int .i64 0 ∧ w2 = wr) (fun _ i _ => 0)
  case atStart => exact ⟨rfl, rfl, rfl⟩
  case round =>
    obtain ⟨rfl, rfl, rfl⟩ := hrel
    · have hmk : ∀ w, (Instr.makeSlice 23 (.int .i64 0) (.int .i64 0)).run Try.prog w = .ok (.slice (some ⟨w.heap.size, 0, none⟩) 0 0) (w.alloc (.cells #[] 2)) := fun _ => by kernel_rfl
      go_wp2_with fail
      go_loopw [12] (fun i wr => i = .int .i64 0 ∧ w2.alloc (.cells #[] 2) = wr) (fun i _ => 0)
      case atStart => exact ⟨rfl, rfl⟩
      case round =>
        obtain ⟨rfl, rfl⟩ := hrel
        have hb0 := (Below.refl w2.heap.size w2).alloc (Nat.le_refl _) (.cells #[] 2)
        have SP := hid (split_ones t ht' (some ⟨w2.heap.size, 0, none⟩) 0 0 (by omega) (w2.alloc (.cells #[] 2)) ⟨rfl, Nat.le_refl _, fun h => by omega⟩)
        have HB := hid hb0; clear hb0
        go_wp2_with fail
        refine SP.out.mono ?_
        rintro e w5 ⟨hb5, A5, C5, rfl, hown5⟩
        have bw : Below w2.heap.size w2 w5 := HB.out.trans (hb5.mono HB.out.size)
        have S5 := hid (sl_of_own hown5); clear hown5
        have S2 := hid (S.out.below bw)
        have HBW := hid (HB2.out.then bw HB2.out.size); clear hb5 bw
        go_wp2_with fail
        refine (same05 _ _ _ 0 _ _ (by omega) _ S2.out S5.out).mono ?_
        rintro e w6 ⟨rfl, d6, rfl⟩
        go_wp2_with fail
        exact hR.out _ _ ⟨rfl, HBW.out.drewN _⟩
end Go.Proofs.Ytbkkpbjlicgcfaa
