/- Contracts of the document's tree: Drop refused, Add. -/
import Derived.Test.YtfgphleophghnaaRefD
set_option linter.unusedVariables false
set_option linter.unusedSimpArgs false
namespace Go.Proofs.Ytfgphleophghnaa
open Go.RowKit Go.MapKept

set_option maxRecDepth 20000 in
/-- Drop that is refused. -/
theorem rdrop_no (a : Option Addr) (n c : Nat) (nx x : Int) (R : RL) (hn : n ≤ 100000) (h : x = 0 ∨ idx (R.map (·.1)) x = -1) (w : World) (hs : RowsAt w a n c R) :
    Calls Try.prog 11 #[.agg #[.slice a n c, .int .i64 nx], .int .i64 x] w fun e w' => e = .returned (.tuple #[.agg #[.slice a n c, .int .i64 nx], .int .i64 (if x = 0 then 1 else 9)]) ∧ Below w.heap.size w w' := by
  apply cps; intro R' hR
  have hb1 := ((Below.refl w.heap.size w).alloc (Nat.le_refl _) (.cells #[.slice a n c, .int .i64 nx] 28)).alloc (by simp) (.cells #[.slice none 0 0, .int .i64 0] 28)
  by_cases hx : x = 0
  · subst hx
    rw [if_pos rfl] at hR
    clear hs h
    have hb2 := hid (((Below.refl w.heap.size w).alloc (Nat.le_refl _) (.cells #[.slice a n c, .int .i64 nx] 28)).alloc (by simp) (.cells #[.slice a n c, .int .i64 nx] 28))
    clear hb1
    go_enter Try.func11, Try.ntmps11
    go_wp2_with fail
    exact bodyPost_ret (v := .tuple #[.agg #[.slice a n c, .int .i64 nx], .int .i64 1]) (by simp [results, Try.results11, go_sem]) rfl (hR.out _ _ ⟨rfl, hb2.out⟩)
  · rw [if_neg hx] at hR
    have hx0 : (x == 0) = false := beq_eq_false_iff_ne.2 hx
    have C1 := at_any a n c nx x R (by omega) _ (hs.below hb1)
    rw [h.resolve_left hx] at C1
    have hh0 : ((w.alloc (.cells #[.slice a n c, .int .i64 nx] 28)).alloc (.cells #[.slice none 0 0, .int .i64 0] 28)).heap[w.heap.size]? = some (.cells #[.slice a n c, .int .i64 nx] 28 (0, 0)) :=
      ((heap_alloc (w.alloc (.cells #[.slice a n c, .int .i64 nx] 28)) _).2 _ (by simp)).trans (heap_alloc w _).1
    have hh1 : ((w.alloc (.cells #[.slice a n c, .int .i64 nx] 28)).alloc (.cells #[.slice none 0 0, .int .i64 0] 28)).heap[w.heap.size + 1]? = some (.cells #[.slice none 0 0, .int .i64 0] 28 (0, 0)) := by
      have := (heap_alloc (w.alloc (.cells #[.slice a n c, .int .i64 nx] 28)) (.cells #[.slice none 0 0, .int .i64 0] 28)).1
      simpa using this
    have hz0 := hid (show ((w.alloc (.cells #[.slice a n c, .int .i64 nx] 28)).alloc (.cells #[.slice none 0 0, .int .i64 0] 28)).heap.size = w.heap.size + 2 from by simp)
    replace C1 := hid C1
    replace hb1 := hid hb1
    replace hh0 := hid hh0
    replace hh1 := hid hh1
    clear hs h
    go_enter Try.func11, Try.ntmps11
    go_wp2_with fail
    refine C1.out.mono ?_
    rintro e w1 ⟨rfl, hbA⟩
    have hhA := (hbA.block w.heap.size (by have := hz0.out; omega)).trans hh0.out
    have hhB := (hbA.block (w.heap.size + 1) (by have := hz0.out; omega)).trans hh1.out
    have hb2 := hid (hb1.out.trans (hbA.mono (by have := hz0.out; omega)))
    have g0 : w1.cell? ⟨w.heap.size, 0, none⟩ = some (.slice a n c) := by simp [World.cell?, hhA]
    have g1 : w1.cell? ⟨w.heap.size, 1, none⟩ = some (.int .i64 nx) := by simp [World.cell?, hhA]
    have e1 : w1.cell? ⟨w.heap.size + 1, 0, none⟩ = some (.slice none 0 0) := by simp [World.cell?, hhB]
    have e2 : w1.cell? ⟨w.heap.size + 1, 1, none⟩ = some (.int .i64 0) := by simp [World.cell?, hhB]
    have f1 : w1.frozen? ⟨w.heap.size + 1, 0, none⟩ = false := by simp [World.frozen?, hhB]
    have f2 : w1.frozen? ⟨w.heap.size + 1, 1, none⟩ = false := by simp [World.frozen?, hhB]
    replace hhB := hid hhB
    clear C1 hbA hb1 hh0 hh1 hhA
    go_wp2_with fail
    exact bodyPost_ret (v := .tuple #[.agg #[.slice a n c, .int .i64 nx], .int .i64 9]) (by simp [results, Try.results11, go_sem, World.cell?, World.setCell, Array.getElem?_modify, hhB.out]) rfl (hR.out _ _ ⟨rfl, (hb2.out.setCell (p := ⟨w.heap.size + 1, 0, none⟩) (by show w.heap.size ≤ w.heap.size + 1; omega) _).setCell (p := ⟨w.heap.size + 1, 1, none⟩) (by show w.heap.size ≤ w.heap.size + 1; omega) _⟩)
end Go.Proofs.Ytfgphleophghnaa
