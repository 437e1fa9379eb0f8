/- Contracts of the document's tree (clapboardref10): At, End, Kids, Parent. -/
import Derived.Test.YtfgphleophghnaaTreeF
set_option linter.unusedVariables false
set_option linter.unusedSimpArgs false
namespace Go.Proofs.Ytfgphleophghnaa
open Go.RowKit Go.MapKept

abbrev RL := List (Int × Int)
def rv (R : RL) : List Value := R.flatMap fun r => [.int .i64 r.1, .int .i64 r.2]
theorem rv_length (R : RL) : (rv R).length = R.length * 2 := by
  induction R with
  | nil => rfl
  | cons r R ih => simp only [rv, List.flatMap_cons, List.length_append, List.length_cons, List.length_nil] at ih ⊢; omega
theorem rv_append (R S : RL) : rv (R ++ S) = rv R ++ rv S := by simp [rv]
theorem rv_get (R : RL) (j : Nat) (hj : j < R.length) : (rv R)[j * 2]? = some (.int .i64 (R.getD j (0, 0)).1) ∧ (rv R)[j * 2 + 1]? = some (.int .i64 (R.getD j (0, 0)).2) := by
  induction R generalizing j with
  | nil => simp at hj
  | cons r R ih =>
    cases j with
    | zero => simp [rv]
    | succ j =>
      have := ih j (by simpa using hj)
      have e : rv (r :: R) = [.int .i64 r.1, .int .i64 r.2] ++ rv R := by simp [rv]
      rw [e]
      rw [List.getElem?_append_right (by simp; omega), List.getElem?_append_right (by simp; omega)]
      simp only [List.length_cons, List.length_nil]
      rw [show (j + 1) * 2 - (0 + 1 + 1) = j * 2 by omega, show (j + 1) * 2 + 1 - (0 + 1 + 1) = j * 2 + 1 by omega]
      simpa using this
abbrev RowsAt (w : World) (a : Option Addr) (n c : Nat) (R : RL) : Prop := Arr w 83 2 a n c (rv R)
theorem RowsAt.len {w : World} {a : Option Addr} {n c : Nat} {R : RL} (h : RowsAt w a n c R) : n = R.length := by
  have := Arr.len h; rw [rv_length] at this; omega
theorem RowsAt.cellsAt {w : World} {a : Option Addr} {n c : Nat} {R : RL} (h : RowsAt w a n c R) (h0 : 0 < n) : ∃ b o, a = some ⟨b, o, .none⟩ ∧ b < w.heap.size ∧ ∀ i, i < n → w.cell? ⟨b, o + i * 2, .none⟩ = some (.int .i64 (R.getD i (0, 0)).1) ∧ w.cell? ⟨b, o + i * 2 + 1, .none⟩ = some (.int .i64 (R.getD i (0, 0)).2) := by
  have hl := RowsAt.len h
  obtain ⟨b, o, cs, fr, ha, hh, hc⟩ := Arr.cells h h0
  refine ⟨b, o, ha, (Array.getElem?_eq_some_iff.1 hh).1, fun i hi => ?_⟩
  have hg := rv_get R i (by omega)
  constructor
  · simp [World.cell?, hh, hc (i * 2) (by omega), hg.1]
  · have h2 := hc (i * 2 + 1) (by omega)
    rw [← Nat.add_assoc] at h2
    simp [World.cell?, hh, h2, hg.2]

set_option maxRecDepth 20000 in
/-- At. -/
theorem at_any (a : Option Addr) (n c : Nat) (nx x : Int) (R : RL) (hn : n ≤ 1000000) (w : World) (hs : RowsAt w a n c R) :
    Calls Try.prog 33 #[.agg #[.slice a n c, .int .i64 nx], .int .i64 x] w fun e w' => e = .returned (.int .i64 (idx (R.map (·.1)) x)) ∧ Below w.heap.size w w' := by
  apply cps; intro R' hR
  have hl := hid (RowsAt.len hs)
  have hb0 := (Below.refl w.heap.size w).alloc (Nat.le_refl _) (.cells #[.slice a n c, .int .i64 nx] 28)
  have H := hid (hs.below hb0)
  have hh := (heap_alloc w (.cells #[.slice a n c, .int .i64 nx] 28)).1
  have hc0 := hid (show (w.alloc (.cells #[.slice a n c, .int .i64 nx] 28)).cell? ⟨w.heap.size, 0, none⟩ = some (.slice a n c) from by simp only [World.cell?, hh]; rfl)
  have hb1 := hid hb0
  clear hs hh hb0
  go_enter Try.func33, Try.ntmps33
  go_wp2_with fail
  go_loopw [5] (fun k wr => ∃ j : Nat, j ≤ n ∧ k = .int .i64 j ∧ (∀ i, i < j → (R.map (·.1)).getD i 0 ≠ x) ∧ RowsAt wr a n c R ∧ wr.cell? ⟨w.heap.size, 0, none⟩ = some (.slice a n c) ∧ Below w.heap.size w wr) (fun k _ => n - (intOf k).toNat)
  case atStart => exact ⟨0, Nat.zero_le _, rfl, by omega, H.out, hc0.out, hb1.out⟩
  case round =>
    obtain ⟨j, hj, rfl, hno, H, c0, hb⟩ := hrel
    have hno := hid hno
    have H := hid H
    have hb0 := hid hb
    clear hb
    by_cases hlt : j < n
    · obtain ⟨b, o, rfl, hb, hc⟩ := RowsAt.cellsAt H.out (by omega)
      have c1 := (hc j hlt).1
      have e1 : (R.map (·.1)).getD j 0 = (R.getD j (0, 0)).1 := by simp [List.getD, List.getElem?_eq_getElem (show j < R.length by have := hl.out; omega)]
      rw [← e1] at c1
      have hit := fun h => idx_hit (l := R.map (·.1)) (x := x) (by have := hl.out; simp; omega : j < (R.map (·.1)).length) h hno.out
      have hnx : (R.map (·.1)).getD j 0 ≠ x → ∀ i, i < j + 1 → (R.map (·.1)).getD i 0 ≠ x := fun h i hi => by
        rcases Nat.lt_or_ge i j with h1 | h1
        · exact hno.out i h1
        · have : i = j := by omega
          subst this; exact h
      have hnx := hid hnx
      have hit := hid hit
      clear hc e1
      generalize (R.map (·.1)).getD j 0 = y at *
      by_cases hxy : y = x
      · subst hxy
        go_wp2_with fail
        rw [hit.out (by simp)] at hR
        exact hR.out _ _ ⟨rfl, hb0.out⟩
      · have hxy' : (y == x) = false := beq_eq_false_iff_ne.2 hxy
        go_wp2_with fail
        go_roundw
        case rel => exact ⟨j + 1, by omega, by go_num, hnx.out hxy, H.out, c0, hb0.out⟩
        case measure => simp [intOf]; omega
    · obtain rfl : j = n := by omega
      have hm := idx_miss (l := R.map (·.1)) (x := x) (fun i hi => hno.out i (by have := hl.out; simp at hi; omega))
      rw [hm] at hR
      clear hm
      go_wp2_with fail
      exact hR.out _ _ ⟨rfl, hb0.out⟩
end Go.Proofs.Ytfgphleophghnaa
