/- The walk of ShareCounts. -/
import Derived.Test.YtbkkpbjlicgcfaaShareB
set_option linter.unusedVariables false
set_option linter.unusedSimpArgs false
namespace Go.Proofs.Ytbkkpbjlicgcfaa
open Go.RowKit

/-- clapboardlaw05.same of two slices that hold the same numbers. -/
theorem same05 (l : List Int) (a a' : Option Addr) (n c c' : Nat) (hn : n ≤ 9223372036854775807) (w : World) (hs : Sl w .i64 a n c l) (hs' : Sl w .i64 a' n c' l) :
    Calls Try.prog 11 #[.slice a n c, .slice a' n c'] w fun e w' => e = .returned (.bool true) ∧ ∃ k, w' = w.drewN k := by
  apply cps; intro R hR
  have H := hid hs; have H' := hid hs'; clear hs hs'
  have k0 : ((n : Int) != n) = false := by simp
  go_enter Try.func11, Try.ntmps11
  go_wp2_with fail
  go_loopw [5] (fun i wr => ∃ k : Nat, k ≤ n ∧ i = .int .i64 k ∧ ∃ d, wr = w.drewN d) (fun i _ => n - (intOf i).toNat)
  case atStart => exact ⟨0, Nat.zero_le _, rfl, 0, rfl⟩
  case round =>
    obtain ⟨k, hk, rfl, d, rfl⟩ := hrel
    by_cases hlt : k < n
    · obtain ⟨b, o, rfl, hb, hc⟩ := H.out.cells (by omega)
      obtain ⟨b', o', rfl, hb', hc'⟩ := H'.out.cells (by omega)
      have c0 := hc k hlt
      have c1 := hc' k hlt
      generalize l.getD k 0 = x at c0 c1
      clear hc hc'
      have k1 : (x != x) = false := by simp
      have k2 : (k : Int) < (n : Int) := by omega
      have k3 : (0 : Int) ≤ (k : Int) := by omega
      go_wp2_with fail
      go_quiet (fail)
      go_wp2_with fail
      go_roundw
      case rel => exact ⟨k + 1, by omega, by go_num, _, rfl⟩
      case measure => simp [intOf]; omega
    · obtain rfl : k = n := by omega
      go_wp2_with fail
      exact hR.out _ _ ⟨rfl, d, rfl⟩

theorem sl_new3 (w : World) (x y z : Int) : Sl (w.alloc (.cells #[.int .i64 x, .int .i64 y, .int .i64 z] 2)) .i64 (some ⟨w.heap.size, 0, none⟩) 3 3 [x, y, z] :=
  ⟨rfl, Nat.le_refl _, fun _ => ⟨_, _, rfl, by simp, fun i hi => by
    match i, hi with
    | 0, _ => simp [go_sem, List.getD]
    | 1, _ => simp [go_sem, List.getD]
    | 2, _ => simp [go_sem, List.getD]⟩⟩
theorem sl_new1 (w : World) (x : Int) : Sl (w.alloc (.cells #[.int .i64 x] 2)) .i64 (some ⟨w.heap.size, 0, none⟩) 1 1 (List.replicate 1 x) :=
  ⟨rfl, Nat.le_refl _, fun _ => ⟨_, _, rfl, by simp, fun i hi => by
    match i, hi with
    | 0, _ => simp [go_sem, List.getD]⟩⟩

set_option maxRecDepth 20000 in
set_option maxHeartbeats 800000 in
theorem speaks05 (w : World) : Calls Try.prog 8 #[] w fun e w' => e = .returned (.bool true) ∧ Below w.heap.size w w' := by
  apply cps; intro R hR
  go_enter Try.func8, Try.ntmps8
  go_wp2_with fail
  refine (split_ones 10 (by omega) _ 3 3 (by omega) _ (sl_new3 w 1 1 1)).mono ?_
  rintro e w1 ⟨hb1, A, C, rfl, ho1⟩
  have HB1 := hid (((Below.refl _ _).alloc (Nat.le_refl _) _).then hb1 (by simp)); clear hb1
  have HO1 := hid ho1; clear ho1
  go_wp2_with fail
  refine (even_ones (-10) (by omega) 3 (by omega) _).mono ?_
  rintro e w2 ⟨hb2, A2, C2, rfl, ho2⟩
  have HO1' := hid (own_below HO1.out hb2); clear HO1
  have HB2 := hid (HB1.out.then hb2 HB1.out.size); clear HB1 hb2
  have HO2 := hid ho2; clear ho2
  go_wp2_with fail
  refine (split_neg 1 (-1) (by unfold I64; omega) (by decide) _ 1 _ (sl_new1 w2 (-1))).mono ?_
  rintro e w3 ⟨rfl, hb3⟩
  have hb4 := ((Below.refl w2.heap.size w2).alloc (Nat.le_refl _) (.cells #[.int .i64 (-1)] 2)).then hb3 (by simp)
  have S1 := hid (sl_of_own (own_below HO1'.out hb4)); clear HO1'
  have S2 := hid (sl_of_own (own_below HO2.out hb4)); clear HO2
  have HB3 := hid (HB2.out.then hb4 HB2.out.size); clear HB2 hb4 hb3
  go_wp2_with fail
  have bb := (Below.refl w3.heap.size w3).alloc (Nat.le_refl _) (.cells #[.int .i64 3, .int .i64 3, .int .i64 4] 2)
  refine (same05 [3, 3, 4] _ _ 3 _ 3 (by omega) _ (S1.out.below bb) (sl_new3 w3 3 3 4)).mono ?_
  rintro e w4 ⟨rfl, d, rfl⟩
  have BB := hid bb; clear bb
  go_wp2_with fail
  have b2 := (BB.out.drewN d).alloc (by simp) (.cells #[.int .i64 (-4), .int .i64 (-3), .int .i64 (-3)] 2)
  have n2 := sl_new3 ((w3.alloc (.cells #[.int .i64 3, .int .i64 3, .int .i64 4] 2)).drewN d) (-4) (-3) (-3)
  simp at n2
  refine (same05 [-4, -3, -3] _ _ 3 _ 3 (by omega) _ (S2.out.below b2) n2).mono ?_
  rintro e w4 ⟨rfl, d2, rfl⟩
  have B2 := hid b2; clear b2 n2
  go_wp2_with fail
  exact hR.out _ _ ⟨rfl, (HB3.out.then B2.out HB3.out.size).drewN _⟩

theorem part_near (t : Int) (n : Nat) (hn : 0 < n) (k : Nat) :
    t / n ≤ t * ((k : Int) + 1) / n - t * k / n ∧ t * ((k : Int) + 1) / n - t * k / n ≤ t / n + 1 := by
  have e : t * ((k : Int) + 1) = t * k + t := by rw [Int.mul_add, Int.mul_one]
  rw [e]
  generalize t * (k : Int) = A
  have hn' : (0 : Int) < n := by omega
  generalize (n : Int) = N at *
  have a1 := Int.mul_ediv_add_emod A N
  have a2 := Int.emod_nonneg A (show N ≠ 0 by omega)
  have a3 := Int.emod_lt_of_pos A hn'
  have b1 := Int.mul_ediv_add_emod t N
  have b2 := Int.emod_nonneg t (show N ≠ 0 by omega)
  have b3 := Int.emod_lt_of_pos t hn'
  have c : (A + t) / N = A / N + t / N ∨ (A + t) / N = A / N + t / N + 1 := by
    by_cases h : A % N + t % N < N
    · left
      exact ((Int.ediv_emod_unique (r := A % N + t % N) hn').2 ⟨by rw [Int.mul_add]; omega, by omega, h⟩).1
    · right
      exact ((Int.ediv_emod_unique (r := A % N + t % N - N) hn').2 ⟨by rw [Int.mul_add, Int.mul_add, Int.mul_one]; omega, by omega, by omega⟩).1
  omega
theorem partsL_getD (t : Int) (n m k : Nat) (hk : k < m) : (partsL t n m).getD k 0 = t * ((k : Int) + 1) / n - t * k / n := by
  unfold partsL
  simp [List.getD, List.getElem?_range hk]
end Go.Proofs.Ytbkkpbjlicgcfaa
