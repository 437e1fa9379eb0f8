/- Contracts of the document's tree: Move that is refused at once. -/
import Derived.Test.YtfgphleophghnaaRefG
import Derived.Test.YtfgphleophghnaaTreeQ
import Derived.Deep.RegionLaw
import Derived.Deep.RegionWith
import Derived.Deep.Cut
import Derived.Deep.DeepCutAuto
set_option linter.unusedVariables false
set_option linter.unusedSimpArgs false
namespace Go.Proofs.Ytfgphleophghnaa
open Go.RowKit Go.MapKept

/-- Where the boxes of the tree that came and of the tree that goes lie. -/
structure MoveAt (w : World) (a : Option Addr) (n c : Nat) (nx : Int) (wx : World) : Prop where
  bel : Below w.heap.size w wx
  h0 : wx.heap[w.heap.size]? = some (.cells #[.slice a n c, .int .i64 nx] 28 (0, 0))
  h1 : wx.heap[w.heap.size + 1]? = some (.cells #[.slice none 0 0, .int .i64 0] 28 (0, 0))
theorem MoveAt.size {w : World} {a : Option Addr} {n c : Nat} {nx : Int} {wx : World} (h : MoveAt w a n c nx wx) : w.heap.size + 2 ≤ wx.heap.size := (Array.getElem?_eq_some_iff.1 h.h1).1
theorem MoveAt.below {w : World} {a : Option Addr} {n c : Nat} {nx : Int} {w1 w2 : World} (h : MoveAt w a n c nx w1) (hb : Below w1.heap.size w1 w2) : MoveAt w a n c nx w2 :=
  ⟨h.bel.then hb h.bel.size, (hb.block _ (by have := h.size; omega)).trans h.h0, (hb.block _ (by have := h.size; omega)).trans h.h1⟩
theorem MoveAt.drew {w : World} {a : Option Addr} {n c : Nat} {nx : Int} {w1 : World} (h : MoveAt w a n c nx w1) : MoveAt w a n c nx w1.drew := h.below (Below.refl _ _).drew
theorem MoveAt.start (w : World) (a : Option Addr) (n c : Nat) (nx : Int) : MoveAt w a n c nx ((w.alloc (.cells #[.slice a n c, .int .i64 nx] 28)).alloc (.cells #[.slice none 0 0, .int .i64 0] 28)) := by
  refine ⟨((Below.refl w.heap.size w).alloc (Nat.le_refl _) _).alloc (by simp) _, ((heap_alloc (w.alloc (.cells #[.slice a n c, .int .i64 nx] 28)) _).2 _ (by simp)).trans (heap_alloc w _).1, ?_⟩
  have := (heap_alloc (w.alloc (.cells #[.slice a n c, .int .i64 nx] 28)) (.cells #[.slice none 0 0, .int .i64 0] 28)).1
  simpa using this

set_option maxRecDepth 20000 in
set_option maxHeartbeats 1600000 in
/-- Move that is refused: the root; no such node; below itself. -/
theorem rmove_no (a : Option Addr) (n c : Nat) (nx x p q : Int) (R : RL) (hn : n ≤ 100000) (h : x = 0 ∨ idx (R.map (·.1)) x < 0 ∨ idx (R.map (·.1)) p < 0 ∨ (idx (R.map (·.1)) x ≤ idx (R.map (·.1)) p ∧ idx (R.map (·.1)) p < endR R (at_ R x))) (w : World) (hs : RowsAt w a n c R) :
    Calls Try.prog 13 #[.agg #[.slice a n c, .int .i64 nx], .int .i64 x, .int .i64 p, .int .i64 q] w fun e w' => e = .returned (.tuple #[.agg #[.slice a n c, .int .i64 nx], .int .i64 (moveRE R x p q)]) ∧ Below w.heap.size w w' := by
  apply cps; intro R' hR
  unfold moveRE at hR
  by_cases hx : x = 0
  · subst hx
    rw [if_pos rfl] at hR
    clear hs h
    have hb2 := hid (((Below.refl w.heap.size w).alloc (Nat.le_refl _) (.cells #[.slice a n c, .int .i64 nx] 28)).alloc (by simp) (.cells #[.slice a n c, .int .i64 nx] 28))
    go_enter Try.func13, Try.ntmps13
    go_wp2_with fail
    exact bodyPost_ret (v := .tuple #[.agg #[.slice a n c, .int .i64 nx], .int .i64 1]) (by simp [results, Try.results13, go_sem]) rfl (hR.out _ _ ⟨rfl, hb2.out⟩)
  · rw [if_neg hx] at hR
    replace h := h.resolve_left hx
    have hx0 : (x == 0) = false := beq_eq_false_iff_ne.2 hx
    have HM0 := hid (MoveAt.start w a n c nx)
    have AX := hid (fun (w' : World) (h : Below w.heap.size w w') => at_any a n c nx x R (by omega) w' (hs.below h))
    have AP := hid (fun (w' : World) (h : Below w.heap.size w w') => at_any a n c nx p R (by omega) w' (hs.below h))
    have hAt : (at_ R x : Int) = if idx (R.map (·.1)) x < 0 then 0 else idx (R.map (·.1)) x := by unfold at_; split <;> omega
    have hIl := idx_le (R.map (·.1)) x
    rw [List.length_map] at hIl
    replace hIl := hid hIl
    have hlR := hid hs.len
    have EE := hid (fun (w' : World) (h : Below w.heap.size w w') (hp : at_ R x < n) => end_any a n c nx (at_ R x) R (by omega) hp w' (hs.below h))
    replace hAt := hid hAt
    replace h := hid h
    clear hs
    have hLo := idx_lo (R.map (·.1)) x
    have hLp := idx_lo (R.map (·.1)) p
    generalize idx (R.map (·.1)) x = I at *
    generalize idx (R.map (·.1)) p = J at *
    generalize at_ R x = A at *
    generalize endR R A = E at *
    go_enter Try.func13, Try.ntmps13
    go_upto_region 3 with fail
    have hz := (two_cells HM0.out.h0)
    obtain ⟨s0, s1, s2, s3⟩ := hz
    go_cut [10, 11] from 19 (fun v10 v11 wx => v10 = .int .i64 I ∧ v11 = .int .i64 J ∧ MoveAt w a n c nx wx)
    case first =>
      go_region_law (first
        | (go_simp; go_at_call_of 33 (Value.int .i64 x); refine (AX.out _ (by first | exact hP.out.bel | exact HM0.out.bel.drew)).mono ?_; rintro e wX ⟨rfl, hbX⟩; have hX := hid (MoveAt.below (by first | exact hP.out | exact HM0.out.drew) hbX); obtain ⟨sX0, sX1, _, _⟩ := two_cells hX.out.h0; clear hbX)
        | (go_simp; go_at_call_of 33 (Value.int .i64 p); refine (AP.out _ (by first | exact hX.out.bel | exact HM0.out.bel.drew)).mono ?_; rintro e wP ⟨rfl, hbP⟩; have hP := hid (MoveAt.below (by first | exact hX.out | exact HM0.out.drew) hbP); obtain ⟨sP0, sP1, _, _⟩ := two_cells hP.out.h0; clear hbP))
      all_goals (go_wp2_with fail; go_meet; exact ⟨rfl, rfl, by first | exact hP.out | exact hX.out⟩)
    case rest =>
      obtain ⟨rfl, rfl, hc⟩ := hcut
      have HC := hid hc
      obtain ⟨c0, c1, c2, c3⟩ := two_cells hc.h0
      obtain ⟨r0, r1, r2, r3⟩ := two_cells hc.h1
      have hsz := hc.size
      clear hc s0 s1 s2 s3 HM0 AX AP
      by_cases h9 : I < 0 ∨ J < 0
      · rw [if_pos h9] at hR
        clear EE hAt hIl h
        by_cases hI : I < 0
        · go_wp2_with fail
          exact bodyPost_ret (v := .tuple #[.agg #[.slice a n c, .int .i64 nx], .int .i64 9]) (by simp [results, Try.results13, go_sem, World.cell?, World.setCell, Array.getElem?_modify, HC.out.h1]) rfl (hR.out _ _ ⟨rfl, (HC.out.bel.setCell (p := ⟨w.heap.size + 1, 0, none⟩) (by show w.heap.size ≤ w.heap.size + 1; omega) _).setCell (p := ⟨w.heap.size + 1, 1, none⟩) (by show w.heap.size ≤ w.heap.size + 1; omega) _⟩)
        · have hJ : J < 0 := by omega
          go_wp2_with fail
          exact bodyPost_ret (v := .tuple #[.agg #[.slice a n c, .int .i64 nx], .int .i64 9]) (by simp [results, Try.results13, go_sem, World.cell?, World.setCell, Array.getElem?_modify, HC.out.h1]) rfl (hR.out _ _ ⟨rfl, (HC.out.bel.setCell (p := ⟨w.heap.size + 1, 0, none⟩) (by show w.heap.size ≤ w.heap.size + 1; omega) _).setCell (p := ⟨w.heap.size + 1, 1, none⟩) (by show w.heap.size ≤ w.heap.size + 1; omega) _⟩)
      · rw [if_neg h9] at hR
        have h6 : I ≤ J ∧ J < E := by
          rcases h.out with h | h | h
          · exact absurd (Or.inl h) h9
          · exact absurd (Or.inr h) h9
          · exact h
        rw [if_pos h6] at hR
        have hI1 : ¬ I < 0 := by omega
        have hJ1 : ¬ J < 0 := by omega
        have hA : (A : Int) = I := by have := hAt.out; rw [if_neg hI1] at this; exact this
        have hAn : A < n := by have := hIl.out; have := hlR.out; omega
        have E1 := hid (EE.out wc HC.out.bel hAn)
        subst hA
        clear EE hAt hIl h
        obtain ⟨h6a, h6b⟩ := h6
        go_wp2_with fail
        refine E1.out.mono ?_
        rintro e w2 ⟨rfl, hb2⟩
        have HD := hid (HC.out.below hb2)
        obtain ⟨c0', c1', c2', c3'⟩ := two_cells HD.out.h0
        obtain ⟨r0', r1', r2', r3'⟩ := two_cells HD.out.h1
        clear c0 c1 c2 c3 r0 r1 r2 r3 hb2 E1
        go_wp2_with fail
        exact bodyPost_ret (v := .tuple #[.agg #[.slice a n c, .int .i64 nx], .int .i64 6]) (by simp [results, Try.results13, go_sem, World.cell?, World.setCell, Array.getElem?_modify, HD.out.h1]) rfl (hR.out _ _ ⟨rfl, (HD.out.bel.setCell (p := ⟨w.heap.size + 1, 0, none⟩) (by show w.heap.size ≤ w.heap.size + 1; omega) _).setCell (p := ⟨w.heap.size + 1, 1, none⟩) (by show w.heap.size ≤ w.heap.size + 1; omega) _⟩)
end Go.Proofs.Ytfgphleophghnaa
