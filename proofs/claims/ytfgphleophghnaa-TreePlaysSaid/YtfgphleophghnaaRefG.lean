/- Contracts of the document's tree: Add that is refused. -/
import Derived.Test.YtfgphleophghnaaRefF
set_option linter.unusedVariables false
set_option linter.unusedSimpArgs false
namespace Go.Proofs.Ytfgphleophghnaa
open Go.RowKit Go.MapKept

/-- The place of a node, as a number from 0 on. -/
def at_ (R : RL) (x : Int) : Nat := (idx (R.map (·.1)) x).toNat
/-- What Add answers. -/
def addRE (R : RL) (x q : Int) : Int :=
  if idx (R.map (·.1)) x < 0 then 9 else if q < 0 ∨ ((kidsR R (at_ R x)).length : Int) < q then 2 else if 1024 ≤ R.length then 8 else if 64 ≤ dep R (at_ R x) then 7 else 0

theorem idx_lo (l : List Int) (x : Int) : idx l x = -1 ∨ 0 ≤ idx l x := by
  unfold idx; split <;> omega

set_option maxRecDepth 20000 in
set_option maxHeartbeats 800000 in
/-- Add that is refused. -/
theorem radd_no (a : Option Addr) (n c : Nat) (nx x q : Int) (R : RL) (hn : n ≤ 100000) (hE : addRE R x q ≠ 0) (w : World) (hs : RowsAt w a n c R) :
    Calls Try.prog 15 #[.agg #[.slice a n c, .int .i64 nx], .int .i64 x, .int .i64 q] w fun e w' => e = .returned (.tuple #[.agg #[.slice a n c, .int .i64 nx], .int .i64 0, .int .i64 (addRE R x q)]) ∧ Below w.heap.size w w' := by
  apply cps; intro R' hR
  have hlR := hid hs.len
  have hb1 := ((Below.refl w.heap.size w).alloc (Nat.le_refl _) (.cells #[.slice a n c, .int .i64 nx] 28)).alloc (by simp) (.cells #[.slice none 0 0, .int .i64 0] 28)
  have hh0 : ((w.alloc (.cells #[.slice a n c, .int .i64 nx] 28)).alloc (.cells #[.slice none 0 0, .int .i64 0] 28)).heap[w.heap.size]? = some (.cells #[.slice a n c, .int .i64 nx] 28 (0, 0)) :=
    ((heap_alloc (w.alloc (.cells #[.slice a n c, .int .i64 nx] 28)) _).2 _ (by simp)).trans (heap_alloc w _).1
  have hh1 : ((w.alloc (.cells #[.slice a n c, .int .i64 nx] 28)).alloc (.cells #[.slice none 0 0, .int .i64 0] 28)).heap[w.heap.size + 1]? = some (.cells #[.slice none 0 0, .int .i64 0] 28 (0, 0)) := by
    have := (heap_alloc (w.alloc (.cells #[.slice a n c, .int .i64 nx] 28)) (.cells #[.slice none 0 0, .int .i64 0] 28)).1
    simpa using this
  have C1 := at_any a n c nx x R (by omega) _ (hs.below hb1)
  have hz0 := hid (show ((w.alloc (.cells #[.slice a n c, .int .i64 nx] 28)).alloc (.cells #[.slice none 0 0, .int .i64 0] 28)).heap.size = w.heap.size + 2 from by simp)
  have hEd : addRE R x q = if idx (R.map (·.1)) x < 0 then 9 else if q < 0 ∨ ((kidsR R (at_ R x)).length : Int) < q then 2 else if 1024 ≤ R.length then 8 else if 64 ≤ dep R (at_ R x) then 7 else 0 := rfl
  have hAt : (at_ R x : Int) = if idx (R.map (·.1)) x < 0 then 0 else idx (R.map (·.1)) x := by unfold at_; split <;> omega
  have hIl := idx_le (R.map (·.1)) x
  rw [List.length_map] at hIl
  replace hIl := hid hIl
  have KK := hid (fun (w' : World) (h : Below w.heap.size w w') (hp : at_ R x < n) => rkids_any a n c nx (at_ R x) R (by omega) hp w' (hs.below h))
  have HS := hid hs
  replace hEd := hid hEd
  replace hE := hid hE
  replace hAt := hid hAt
  replace C1 := hid C1
  replace hb1 := hid hb1
  replace hh0 := hid hh0
  replace hh1 := hid hh1
  clear hs
  have hLo := idx_lo (R.map (·.1)) x
  generalize idx (R.map (·.1)) x = I at *
  generalize hPd : at_ R x = P at *
  generalize hKl : (kidsR R P).length = K at *
  generalize addRE R x q = EE at *
  replace hKl := hid hKl
  clear hPd
  go_enter Try.func15, Try.ntmps15
  go_wp2_with fail
  refine C1.out.mono ?_
  rintro e w1 ⟨rfl, hbA⟩
  have hhA := (hbA.block w.heap.size (by have := hz0.out; omega)).trans hh0.out
  have hhB := (hbA.block (w.heap.size + 1) (by have := hz0.out; omega)).trans hh1.out
  have hb2 := hid (hb1.out.trans (hbA.mono (by have := hz0.out; omega)))
  obtain ⟨s0, s1, s2, s3⟩ := two_cells hhA
  obtain ⟨r0, r1, r2, r3⟩ := two_cells hhB
  have hsz1 : w.heap.size + 2 ≤ w1.heap.size := by have := hbA.size; rw [hz0.out] at this; exact this
  replace hhA := hid hhA
  replace hhB := hid hhB
  clear C1 hbA hb1 hh0 hh1 hz0
  rcases hLo with rfl | hI0
  · have hEE : EE = 9 := by have := hEd.out; simpa using this
    subst hEE
    clear KK hEd hE hAt hKl hIl
    go_wp2_with fail
    exact bodyPost_ret (v := .tuple #[.agg #[.slice a n c, .int .i64 nx], .int .i64 0, .int .i64 9]) (by simp [results, Try.results15, go_sem, World.cell?, World.setCell, Array.getElem?_modify, hhB.out]) rfl (hR.out _ _ ⟨rfl, (hb2.out.setCell (p := ⟨w.heap.size + 1, 0, none⟩) (by show w.heap.size ≤ w.heap.size + 1; omega) _).setCell (p := ⟨w.heap.size + 1, 1, none⟩) (by show w.heap.size ≤ w.heap.size + 1; omega) _⟩)
  · have hI1 : ¬ I < 0 := by omega
    have hP : (P : Int) = I := by have := hAt.out; rw [if_neg hI1] at this; exact this
    have hEd1 := hEd.out
    rw [if_neg hI1] at hEd1
    have hPn : P < n := by have := hIl.out; have := hlR.out; omega
    have K1 := hid (KK.out w1 hb2.out hPn)
    subst hP
    clear KK hEd hAt hIl
    replace hEd1 := hid hEd1
    by_cases hq : q < 0
    · have hEE : EE = 2 := by have := hEd1.out; simpa [hq] using this
      subst hEE
      clear hEd1 hE K1 hKl
      have hq' : decide (q < 0) = true := by simpa using hq
      go_wp2_with fail
      exact bodyPost_ret (v := .tuple #[.agg #[.slice a n c, .int .i64 nx], .int .i64 0, .int .i64 2]) (by simp [results, Try.results15, go_sem, World.cell?, World.setCell, Array.getElem?_modify, hhB.out]) rfl (hR.out _ _ ⟨rfl, (hb2.out.setCell (p := ⟨w.heap.size + 1, 0, none⟩) (by show w.heap.size ≤ w.heap.size + 1; omega) _).setCell (p := ⟨w.heap.size + 1, 1, none⟩) (by show w.heap.size ≤ w.heap.size + 1; omega) _⟩)
    · have hq' : decide (q < 0) = false := by simpa using hq
      go_wp2_with fail
      refine K1.out.mono ?_
      rintro e w2 ⟨hbK, A, C, rfl, _⟩
      have hhA2 := (hbK.block w.heap.size (by omega)).trans hhA.out
      have hhB2 := (hbK.block (w.heap.size + 1) (by omega)).trans hhB.out
      have hb3 := hid (hb2.out.then hbK hb2.out.size)
      obtain ⟨s0', s1', s2', s3'⟩ := two_cells hhA2
      obtain ⟨r0', r1', r2', r3'⟩ := two_cells hhB2
      replace hhA2 := hid hhA2
      replace hhB2 := hid hhB2
      have hsz2 := Nat.le_trans hsz1 hbK.size
      clear K1 hbK hhA hhB s0 s1 s2 s3 r0 r1 r2 r3 hb2
      by_cases hk : (K : Int) < q
      · have hEE : EE = 2 := by have := hEd1.out; simpa [hq, hk] using this
        subst hEE
        clear hEd1 hE hKl
        have hk' : decide ((K : Int) < q) = true := by simpa using hk
        go_wp2_with fail
        exact bodyPost_ret (v := .tuple #[.agg #[.slice a n c, .int .i64 nx], .int .i64 0, .int .i64 2]) (by simp [results, Try.results15, go_sem, World.cell?, World.setCell, Array.getElem?_modify, hhB2.out]) rfl (hR.out _ _ ⟨rfl, (hb3.out.setCell (p := ⟨w.heap.size + 1, 0, none⟩) (by show w.heap.size ≤ w.heap.size + 1; omega) _).setCell (p := ⟨w.heap.size + 1, 1, none⟩) (by show w.heap.size ≤ w.heap.size + 1; omega) _⟩)
      · have hk' : decide ((K : Int) < q) = false := by simpa using hk
        have hEd2 := hEd1.out
        rw [if_neg (by omega)] at hEd2
        clear hEd1 hKl
        by_cases hn1 : 1024 ≤ n
        · have hEE : EE = 8 := by rw [if_pos (by have := hlR.out; omega)] at hEd2; exact hEd2
          subst hEE
          clear hEd2 hE
          have hnI : (1024 : Int) ≤ n := by omega
          go_wp2_with fail
          exact bodyPost_ret (v := .tuple #[.agg #[.slice a n c, .int .i64 nx], .int .i64 0, .int .i64 8]) (by simp [results, Try.results15, go_sem, World.cell?, World.setCell, Array.getElem?_modify, hhB2.out]) rfl (hR.out _ _ ⟨rfl, (hb3.out.setCell (p := ⟨w.heap.size + 1, 0, none⟩) (by show w.heap.size ≤ w.heap.size + 1; omega) _).setCell (p := ⟨w.heap.size + 1, 1, none⟩) (by show w.heap.size ≤ w.heap.size + 1; omega) _⟩)
        · have hnI : ¬ (1024 : Int) ≤ n := by omega
          rw [if_neg (by have := hlR.out; omega)] at hEd2
          have hd : 64 ≤ dep R P := by
            refine Classical.byContradiction fun hd => ?_
            rw [if_neg hd] at hEd2
            exact hE.out hEd2
          have hEE : EE = 7 := by rw [if_pos hd] at hEd2; exact hEd2
          subst hEE
          clear hEd2 hE
          obtain ⟨b, o, hab, hbl, hcc⟩ := RowsAt.cellsAt (Arr.below HS.out hb3.out) (by omega)
          subst hab
          have kd := (hcc P hPn).2
          change w2.cell? _ = some (.int .i64 (dep R P)) at kd
          generalize dep R P = dp at *
          clear hcc
          have hpI : (P : Int) < n := by omega
          go_wp2_with fail
          exact bodyPost_ret (v := .tuple #[.agg #[.slice (some ⟨b, o, none⟩) n c, .int .i64 nx], .int .i64 0, .int .i64 7]) (by simp [results, Try.results15, go_sem, World.cell?, World.setCell, Array.getElem?_modify, hhB2.out]) rfl (hR.out _ _ ⟨rfl, (hb3.out.setCell (p := ⟨w.heap.size + 1, 0, none⟩) (by show w.heap.size ≤ w.heap.size + 1; omega) _).setCell (p := ⟨w.heap.size + 1, 1, none⟩) (by show w.heap.size ≤ w.heap.size + 1; omega) _⟩)
end Go.Proofs.Ytfgphleophghnaa
