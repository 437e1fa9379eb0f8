/- Contracts of package share (all, parts, Split, Even) where every weight is one. -/
import Derived.Test.YtbkkpbjlicgcfaaFixed
import Derived.LoopTactic
import Derived.OwnWalk
import Derived.Maps.AppendAt
set_option linter.unusedVariables false
set_option linter.unusedSimpArgs false
namespace Go.Proofs.Ytbkkpbjlicgcfaa
open Go.RowKit

/-- A slice of numbers, as it is read in a world. -/
structure Sl (w : World) (k : IntKind) (a : Option Addr) (n c : Nat) (l : List Int) : Prop where
  len : l.length = n
  cap : n ≤ c
  cells : 0 < n → ∃ b o, a = some ⟨b, o, none⟩ ∧ b < w.heap.size ∧ ∀ i, i < n → w.cell? ⟨b, o + i, none⟩ = some (.int k (l.getD i 0))

theorem Sl.below {w w' : World} {k : IntKind} {a : Option Addr} {n c : Nat} {l : List Int} (h : Sl w k a n c l) (hb : Below w.heap.size w w') : Sl w' k a n c l :=
  ⟨h.len, h.cap, fun h0 => by
    obtain ⟨b, o, ha, hlt, hc⟩ := h.cells h0
    exact ⟨b, o, ha, Nat.lt_of_lt_of_le hlt hb.size, fun i hi => (hb.cell (p := ⟨b, o + i, none⟩) hlt).trans (hc i hi)⟩⟩

/-- share.all of so many ones. -/
theorem all_ones (a : Option Addr) (n c : Nat) (hn : n ≤ 1024) (w : World) (hs : Sl w .i64 a n c (List.replicate n 1)) :
    Calls Try.prog 36 #[.slice a n c] w fun e w' => e = .returned (.int .i64 n) ∧ w = w' := by
  apply cps; intro R hR
  have H := hid hs; clear hs
  go_enter Try.func36, Try.ntmps36
  go_wp2_with fail
  go_loop [3, 8] (fun s i => ∃ k : Nat, k ≤ n ∧ i = .int .i64 k ∧ s = .int .i64 k) (fun _ i => n - (intOf i).toNat)
  case atStart => exact ⟨0, Nat.zero_le _, rfl, rfl⟩
  case round =>
    obtain ⟨k, hk, rfl, rfl⟩ := hrel
    by_cases hlt : k < n
    · obtain ⟨b, o, rfl, hb, hc⟩ := H.out.cells (by omega)
      have c0 := hc k hlt
      rw [show (List.replicate n (1 : Int)).getD k 0 = 1 from by simp [List.getD, hlt]] at c0
      clear hc
      go_wp2_with fail
      go_round
      case rel => exact ⟨k + 1, by omega, by go_num, by go_num⟩
      case measure => simp [intOf]; omega
    · obtain rfl : k = n := by omega
      go_wp2_with fail
      exact hR.out _ _ ⟨rfl, rfl⟩

/-- The parts of a total by n ones. -/
def partsL (t : Int) (n k : Nat) : List Int := (List.range k).map fun (i : Nat) => t * ((i : Int) + 1) / (n : Int) - t * (i : Int) / (n : Int)
theorem partsL_snoc (t : Int) (n k : Nat) : partsL t n (k + 1) = partsL t n k ++ [t * ((k : Int) + 1) / n - t * k / n] := by
  simp [partsL, List.range_succ]
theorem partsL_length (t : Int) (n k : Nat) : (partsL t n k).length = k := by simp [partsL]
theorem bound_mul (t : Int) (k n : Nat) (ht : -2147483648 ≤ t ∧ t ≤ 2147483647) (hk : k ≤ n) (hn : 0 < n) (hn' : n ≤ 1024) :
    -2147483648 ≤ t * k / n ∧ t * k / n ≤ 2147483647 ∧ -2199023255552 ≤ t * k ∧ t * k ≤ 2199023255552 := by
  have h1 : (t * k).natAbs ≤ 2147483648 * 1024 := by rw [Int.natAbs_mul]; exact Nat.mul_le_mul (by omega) (by omega)
  have h2 : t * k ≤ 2147483647 * n := by
    rcases Int.le_total 0 t with h | h
    · exact Int.mul_le_mul ht.2 (by omega) (by omega) (by omega)
    · have := Int.mul_nonneg (show (0 : Int) ≤ -t by omega) (show (0 : Int) ≤ (k : Int) by omega)
      rw [Int.neg_mul] at this; omega
  have h3 : -2147483648 * (n : Int) ≤ t * k := by
    have e : -t * (k : Int) ≤ 2147483648 * n := by
      rcases Int.le_total 0 t with h | h
      · have := Int.mul_nonneg h (show (0 : Int) ≤ (k : Int) by omega)
        rw [Int.neg_mul]; omega
      · exact Int.mul_le_mul (by omega) (by omega) (by omega) (by omega)
    rw [Int.neg_mul] at e; omega
  refine ⟨(Int.le_ediv_iff_mul_le (by omega)).2 h3, ?_, by omega, by omega⟩
  exact Int.le_trans (Int.ediv_le_ediv (by omega) h2) (by rw [Int.mul_ediv_cancel _ (by omega)]; exact Int.le_refl _)

theorem divAt_low (x d : Int) (hx : (x.natAbs : Int) < 18446744073709551616) (hd : d ≠ 0) (hd' : I64 d) : DivAt x d := by
  intro a b D hab ha hb hD w
  obtain ⟨a0, a1⟩ := ha
  obtain ⟨b0, b1⟩ := hb
  obtain rfl : a = 0 := by omega
  rw [show (0 : Int) % D = 0 from by simp, show (0 : Int) * 18446744073709551616 + b = b from by omega]
  obtain ⟨h3, h4⟩ := hd'
  exact div64_low b D ⟨b0, b1⟩ ⟨by omega, by omega⟩ w
theorem grown_none {w w1 : World} (h : Below w.heap.size w w1) : w.grownBy w1 none := ⟨h.os, h.tape, h.output, h.size, fun i hi _ => h.block i hi⟩
theorem own_below {w w1 : World} {base : Nat} {e : TypeId} {size : Nat} {v : Value} {n : Nat} {xs : List Value} (h : w.ownsRow base e size v n xs) (hb : Below w.heap.size w w1) : w1.ownsRow base e size v n xs :=
  h.kept (grown_none hb) (by cases hv : v.ownBlock <;> simp)
theorem own_ge {w : World} {base : Nat} {e : TypeId} {size : Nat} {v : Value} {n : Nat} {xs : List Value} (h : w.ownsRow base e size v n xs) : ∀ k, v.ownBlock = some k → base ≤ k := by
  intro k hk
  rcases h.2 with ⟨rfl, _⟩ | ⟨g, cap, cur, rfl, hb, _⟩
  · cases hk
  · simp [Value.ownBlock] at hk; omega
theorem own_shape {w : World} {base : Nat} {e : TypeId} {size : Nat} {v : Value} {n : Nat} {xs : List Value} (h : w.ownsRow base e size v n xs) : ∃ A C, v = .slice A n C := by
  rcases h.2 with ⟨rfl, rfl⟩ | ⟨g, cap, cur, rfl, _⟩
  · exact ⟨_, _, rfl⟩
  · exact ⟨_, _, rfl⟩
theorem info2 : (Try.prog.info? 2).map (fun i => (i.zero, i.size, i.bytes)) = some (some (.int .i64 0), 1, 8) := by kernel_rfl

set_option maxRecDepth 20000 in
set_option maxHeartbeats 800000 in
/-- share.parts by so many ones. -/
theorem parts_ones (t : Int) (ht : -2147483648 ≤ t ∧ t ≤ 2147483647) (a : Option Addr) (n c : Nat) (hn : n ≤ 1024) (hn0 : 0 < n) (w : World) (hs : Sl w .i64 a n c (List.replicate n 1)) :
    Calls Try.prog 37 #[.int .i64 t, .slice a n c, .int .i64 n] w fun e w' => Below w.heap.size w w' ∧ ∃ A C, e = .returned (.slice A n C) ∧ w'.ownsRow w.heap.size 2 1 (.slice A n C) n ((partsL t n n).map (Value.int .i64)) := by
  apply cps; intro R hR
  obtain ⟨b, o, rfl, hb, hc⟩ := hs.cells hn0
  have H := hid hs; clear hs
  have HC := hid hc; clear hc
  obtain ⟨i0, hi, hz0, hz1, hz2⟩ := info_parts info2
  go_enter Try.func37, Try.ntmps37
  go_wp2_with fail
  go_loopw [7, 8, 9, 15] (fun out ahead bound i wr => ∃ k : Nat, k ≤ n ∧ i = .int .i64 k ∧ ahead = .int .i64 k ∧ bound = .int .i64 (t * k / n) ∧ wr.ownsRow w.heap.size 2 1 out (partsL t n k).length ((partsL t n k).map (Value.int .i64)) ∧ Below w.heap.size w wr) (fun _ _ _ i _ => n - (intOf i).toNat)
  case atStart => exact ⟨0, Nat.zero_le _, rfl, rfl, by simp, ⟨rfl, Or.inl ⟨rfl, rfl⟩⟩, Below.refl _ _⟩
  case round =>
    obtain ⟨k, hk, rfl, rfl, rfl, hown, hbw⟩ := hrel
    have HB := hid hbw
    by_cases hlt : k < n
    · have c0 := (hbw.cell (p := ⟨b, o + k, none⟩) hb).trans (HC.out k hlt)
      rw [show (List.replicate n (1 : Int)).getD k 0 = 1 from by simp [List.getD, hlt]] at c0
      clear hbw
      obtain ⟨q, hq⟩ : ∃ q : Int, t * ((k : Int) + 1) / n = q := ⟨_, rfl⟩
      obtain ⟨p, hp⟩ : ∃ p : Int, t * (k : Int) / n = p := ⟨_, rfl⟩
      have e1 := bound_mul t (k + 1) n ht (by omega) hn0 hn
      have e2 := bound_mul t k n ht hk hn0 hn
      rw [show ((k + 1 : Nat) : Int) = (k : Int) + 1 from rfl, hq] at e1
      rw [hp] at e2
      have PP := part_any t (k + 1) n (by unfold I64; omega) (by unfold I64; omega) (by unfold I64; omega) (by omega) (divAt_low _ _ (by omega) (by omega) (by unfold I64; omega))
      rw [Int.fdiv_eq_ediv_of_nonneg _ (by omega), hq] at PP
      have pp := hid PP; clear PP
      obtain ⟨q0, q1, q2, q3⟩ := e1
      obtain ⟨p0, p1, p2, p3⟩ := e2
      rw [hp]
      have HQ := hid hq; have HP := hid hp; clear hq hp
      go_wp2_with fail
      refine (pp.out _).mono ?_
      rintro e w1 ⟨hb1, y1, y2⟩
      obtain rfl := y1 ⟨by omega, by omega⟩
      clear y1 y2
      have hown1 := own_below hown hb1
      have hbw1 := hid (HB.out.then hb1 HB.out.size)
      have hsz1 : w.heap.size ≤ w1.heap.size := by have := hb1.size; have := HB.out.size; omega
      clear hb1 hown
      go_wp2_with (first | (at_builtin; refine wpList_append_own _ rfl _ _ 23 rfl w.heap.size 2 i0 (.int .i64 0) 1 8 Try.underlying23 hi hz0 hz1 hz2 rfl (by decide) _ _ _ rfl (hown1.alloc _) ⟨w1.heap.size, 0, none⟩ 1 1 [.int .i64 (q - p)] rfl rfl ?c1 ?c2 ?c3 ?c4 ?c5 ?_))
      case c1 => exact cell_one_new _ _ _
      case c2 => exact ints_oneCell .i64 [q - p]
      case c3 => rw [partsL_length]; unfold maxLen; omega
      case c4 => rw [partsL_length]; omega
      case c5 => simp; omega
      intro v' w2 hown2 hgrow hnil
      have hbw2 := hid ((hbw1.out.alloc hsz1 _).grown hgrow (by simp; omega) (own_ge hown1))
      clear hgrow hnil hown1 hbw1
      rw [partsL_length] at hown2
      go_wp2_with fail
      go_roundw
      case rel =>
        refine ⟨k + 1, by omega, by go_num, by go_num, ?_, ?_, hbw2.out⟩
        · rw [show ((k + 1 : Nat) : Int) = (k : Int) + 1 from rfl, HQ.out]
        · rw [partsL_length, partsL_snoc, HQ.out, HP.out, List.map_append]
          exact hown2
      case measure => simp [intOf]; omega
    · obtain rfl : k = n := by omega
      clear hbw
      go_wp2_with fail
      rw [partsL_length] at hown
      obtain ⟨A, C, rfl⟩ := own_shape hown
      exact hR.out _ _ ⟨HB.out, A, C, rfl, hown⟩

/-- slices.Min of so many times one number. -/
theorem min_same (x : Int) (hx : I64 x) (a : Option Addr) (n c : Nat) (hn : n ≤ 1024) (hn0 : 0 < n) (w : World) (hs : Sl w .i64 a n c (List.replicate n x)) :
    Calls Try.prog 32 #[.slice a n c] w fun e w' => e = .returned (.int .i64 x) ∧ w = w' := by
  obtain ⟨x1, x2⟩ := hx
  apply cps; intro R hR
  obtain ⟨b, o, rfl, hb, hc⟩ := hs.cells hn0
  have HC := hid hc; clear hc
  have c0 := HC.out 0 hn0
  rw [show (List.replicate n x).getD 0 0 = x from by simp [List.getD, hn0]] at c0
  simp only [Nat.add_zero] at c0
  have hn1 : ¬ n < 1 := by omega
  go_enter Try.func32, Try.ntmps32
  go_wp2_with fail
  go_loop [3, 4] (fun m i => ∃ k : Nat, k ≤ n ∧ i = .int .i64 k ∧ m = .int .i64 x) (fun _ i => n - (intOf i).toNat)
  case atStart => exact ⟨1, by omega, rfl, rfl⟩
  case round =>
    obtain ⟨k, hk, rfl, rfl⟩ := hrel
    by_cases hlt : k < n
    · have c1 := HC.out k hlt
      rw [show (List.replicate n x).getD k 0 = x from by simp [List.getD, hlt]] at c1
      have hxx : ¬ x < x := by omega
      clear c0
      go_wp2_with fail
      go_round
      case rel => exact ⟨k + 1, by omega, by go_num, rfl⟩
      case measure => simp [intOf]; omega
    · obtain rfl : k = n := by omega
      go_wp2_with fail
      exact hR.out _ _ ⟨rfl, rfl⟩

set_option maxRecDepth 20000 in
/-- The closure of share.Split, at so many ones. -/
theorem split1_ones (t : Int) (ht : -2147483648 ≤ t ∧ t ≤ 2147483647) (a : Option Addr) (n c : Nat) (hn : n ≤ 1024) (bt bw bo : Nat) (w : World) (hs : Sl w .i64 a n c (List.replicate n 1))
    (ct : w.cell? ⟨bt, 0, none⟩ = some (.int .i64 t)) (cw : w.cell? ⟨bw, 0, none⟩ = some (.slice a n c)) (co : w.cell? ⟨bo, 0, none⟩ = some (.slice none 0 0)) (fo : w.frozen? ⟨bo, 0, none⟩ = false) :
    Calls Try.prog 34 #[.pointer (some ⟨bt, 0, none⟩), .pointer (some ⟨bw, 0, none⟩), .pointer (some ⟨bo, 0, none⟩)] w fun e w' =>
      e = .returned (.tuple #[]) ∧ ∃ A C w1, Below w.heap.size w w1 ∧ w' = w1.setCell ⟨bo, 0, none⟩ (.slice A n C) ∧ w1.ownsRow w.heap.size 2 1 (.slice A n C) n ((partsL t n n).map (Value.int .i64)) := by
  have lt1 := World.block_lt_of_cell? w _ ct
  have lw := World.block_lt_of_cell? w _ cw
  have lo := World.block_lt_of_cell? w _ co
  simp only at lt1 lw lo
  have A := hid (all_ones a n c hn w hs)
  apply cps; intro R hR
  obtain ⟨i0, hi, hz0, hz1, hz2⟩ := info_parts info2
  by_cases hn0 : 0 < n
  · have P := hid (parts_ones t ht a n c hn hn0 w hs)
    have k0 : ((n : Int) == 0) = false := by simp; omega
    have HS := hid hs; clear hs
    go_enter Try.func34, Try.ntmps34
    go_wp2_with fail
    refine (fof_in t (by omega) (by omega) _).mono ?_
    rintro e w1 ⟨rfl, rfl⟩
    go_wp2_with fail
    refine A.out.mono ?_
    rintro e w1 ⟨rfl, rfl⟩
    go_wp2_with fail
    refine P.out.mono ?_
    rintro e w1 ⟨hb1, A1, C1, rfl, hown⟩
    have co1 := (hb1.cell (p := ⟨bo, 0, none⟩) lo).trans co
    have fo1 := (hb1.frozen (p := ⟨bo, 0, none⟩) lo).trans fo
    have HB := hid hb1; clear hb1 co fo ct cw
    go_wp2_with fail
    exact bodyPost_end (results_none rfl _ _ _) rfl (hR.out _ _ ⟨rfl, A1, C1, w1, HB.out, rfl, hown⟩)
  · obtain rfl : n = 0 := by omega
    have hmk : ∀ w, (Instr.makeSlice 23 (.int .i64 0) (.int .i64 0)).run Try.prog w = .ok (.slice (some ⟨w.heap.size, 0, none⟩) 0 0) (w.alloc (.cells #[] 2)) := fun _ => by kernel_rfl
    have HS := hid hs; clear hs
    go_enter Try.func34, Try.ntmps34
    go_wp2_with fail
    refine (fof_in t (by omega) (by omega) _).mono ?_
    rintro e w1 ⟨rfl, rfl⟩
    go_wp2_with fail
    refine A.out.mono ?_
    rintro e w1 ⟨rfl, rfl⟩
    go_wp2_with fail
    refine bodyPost_end (results_none rfl _ _ _) rfl (hR.out _ _ ⟨rfl, some ⟨w.heap.size, 0, none⟩, 0, w.alloc (.cells #[] 2), (Below.refl _ _).alloc (Nat.le_refl _) _, ?_, ?_⟩)
    · simp [go_sem, lo]
    · exact ⟨rfl, Or.inr ⟨w.heap.size, 0, #[], rfl, Nat.le_refl _, (MapKept.heap_alloc w _).1, by omega, by unfold maxLen; omega, rfl, rfl⟩⟩
end Go.Proofs.Ytbkkpbjlicgcfaa
