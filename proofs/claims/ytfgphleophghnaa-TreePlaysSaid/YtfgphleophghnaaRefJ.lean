/- Contract of the document's tree: Drop that succeeds. -/
import Derived.Test.YtfgphleophghnaaRefD
set_option linter.unusedVariables false
set_option linter.unusedSimpArgs false
namespace Go.Proofs.Ytfgphleophghnaa
open Go.RowKit Go.MapKept

set_option maxRecDepth 20000 in
set_option maxHeartbeats 400000 in
/-- Drop that succeeds. -/
theorem rdrop_own (b o n c k : Nat) (nx x : Int) (R : RL) (hn : n ≤ 100000) (hk : k < n) (hx : x ≠ 0) (hat : idx (R.map (·.1)) x = k) (w : World) (hs : RowsAt w (some ⟨b, o, none⟩) n c R) :
    Calls Try.prog 11 #[.agg #[.slice (some ⟨b, o, none⟩) n c, .int .i64 nx], .int .i64 x] w fun e w' => ∃ a' c', e = .returned (.tuple #[.agg #[.slice a' (dropR R k).length c', .int .i64 nx], .int .i64 0]) ∧ Below w.heap.size w w' ∧ (∀ g, (Value.slice a' (dropR R k).length c').ownBlock = some g → w.heap.size ≤ g) ∧ RowsAt w' a' (dropR R k).length c' (dropR R k) := by
  obtain ⟨i0, hi0, hz0, hz1, hz2⟩ := info_parts infoRow
  have hx0 : (x == 0) = false := beq_eq_false_iff_ne.2 hx
  have hlR := RowsAt.len hs
  have hEd := endR_bd R k (by omega)
  have hdl : (dropR R k).length = k + (n - endR R k) := by simp [dropR]; omega
  apply cps; intro R' hR
  have hcap := hs.cap
  have hc0 : ¬ c = 0 := by omega
  have hb1 := ((Below.refl w.heap.size w).alloc (Nat.le_refl _) (.cells #[.slice (some ⟨b, o, none⟩) n c, .int .i64 nx] 28)).alloc (by simp) (.cells #[.slice none 0 0, .int .i64 0] 28)
  have hh0 : ((w.alloc (.cells #[.slice (some ⟨b, o, none⟩) n c, .int .i64 nx] 28)).alloc (.cells #[.slice none 0 0, .int .i64 0] 28)).heap[w.heap.size]? = some (.cells #[.slice (some ⟨b, o, none⟩) n c, .int .i64 nx] 28 (0, 0)) :=
    ((heap_alloc (w.alloc (.cells #[.slice (some ⟨b, o, none⟩) n c, .int .i64 nx] 28)) _).2 _ (by simp)).trans (heap_alloc w _).1
  have hh1 : ((w.alloc (.cells #[.slice (some ⟨b, o, none⟩) n c, .int .i64 nx] 28)).alloc (.cells #[.slice none 0 0, .int .i64 0] 28)).heap[w.heap.size + 1]? = some (.cells #[.slice none 0 0, .int .i64 0] 28 (0, 0)) := by
    have := (heap_alloc (w.alloc (.cells #[.slice (some ⟨b, o, none⟩) n c, .int .i64 nx] 28)) (.cells #[.slice none 0 0, .int .i64 0] 28)).1
    simpa using this
  have C1 := at_any (some ⟨b, o, none⟩) n c nx x R (by omega) _ (hs.below hb1)
  rw [hat] at C1
  replace C1 := hid C1
  have hz0' := hid (show ((w.alloc (.cells #[.slice (some ⟨b, o, none⟩) n c, .int .i64 nx] 28)).alloc (.cells #[.slice none 0 0, .int .i64 0] 28)).heap.size = w.heap.size + 2 from by simp)
  have A0 := hid hs
  replace hb1 := hid hb1
  replace hh0 := hid hh0
  replace hh1 := hid hh1
  have hDR : dropR R k = R.take k ++ R.drop (endR R k) := rfl
  replace hDR := hid hDR
  replace hdl := hid hdl
  have EE := hid (fun (w' : World) (h : Below w.heap.size w w') => end_any (some ⟨b, o, none⟩) n c nx k R (by omega) hk w' (hs.below h))
  clear hs hat
  generalize dropR R k = D at *
  generalize endR R k = E at *
  replace hlR := hid hlR
  go_enter Try.func11, Try.ntmps11
  go_wp2_with fail
  refine C1.out.mono ?_
  rintro e w1 ⟨rfl, hbA⟩
  have hhA := (hbA.block w.heap.size (by have := hz0'.out; omega)).trans hh0.out
  have hhB := (hbA.block (w.heap.size + 1) (by have := hz0'.out; omega)).trans hh1.out
  have hb2 := hid (hb1.out.trans (hbA.mono (by have := hz0'.out; omega)))
  have hsz2 : w.heap.size + 2 ≤ w1.heap.size := by have := hbA.size; rw [hz0'.out] at this; exact this
  have A1 := hid (Arr.cutLo (Arr.below A0.out hb2.out) (Nat.le_of_lt hk))
  have g0 : w1.cell? ⟨w.heap.size, 0, none⟩ = some (.slice (some ⟨b, o, none⟩) n c) := by simp [World.cell?, hhA]
  clear C1 hbA hb1 hh0 hh1 hz0'
  go_wp2_with (at_builtin; refine wp_append_any _ rfl _ _ 26 rfl (w.heap.size + 2) 83 i0 (.agg #[.int .i64 0, .int .i64 0]) 2 16 Try.underlying26 hi0 hz0 hz1 hz2 rfl (by decide) _ _ _ rfl (own_nil _ _ _ _) _ k c _ rfl A1.out ?c1 ?c2 ?c3 ?c4 ?_)
  case c1 => rw [rv_take]; exact rv_one _
  case c2 => unfold maxLen; omega
  case c3 => omega
  case c4 => exact hsz2
  intro v2 w2 hown2 hg2 hloc2
  rw [rv_take] at hown2
  have hbA : Below (w.heap.size + 2) w1 w2 := (Below.refl _ _).grown hg2 hsz2 (fun k hk => by cases hk)
  have hhA2 := (hbA.block w.heap.size (by omega)).trans hhA
  have hhB2 := (hbA.block (w.heap.size + 1) (by omega)).trans hhB
  have hb3 := hid (hb2.out.trans (hbA.mono (by omega)))
  have hsz3 := Nat.le_trans hsz2 hbA.size
  obtain ⟨A3, C3, rfl⟩ := own_shape hown2
  replace hown2 := hid hown2
  have g0 : w2.cell? ⟨w.heap.size, 0, none⟩ = some (.slice (some ⟨b, o, none⟩) n c) := by simp [World.cell?, hhA2]
  have g1 : w2.cell? ⟨w.heap.size, 1, none⟩ = some (.int .i64 nx) := by simp [World.cell?, hhA2]
  replace hhA2 := hid hhA2
  replace hhB2 := hid hhB2
  clear hg2 hloc2 hbA hhA hhB hb2 A1
  go_wp2_with fail
  have hb3d : Below w.heap.size w w2.drew := hb3.out.drew
  have CE := hid (EE.out w2.drew hb3d)
  have hEn : E ≤ n := by have := hlR.out; omega
  clear hb3d
  by_cases hcE : c = E
  · have hnE : E = n := by omega
    subst hnE
    subst hcE
    have hA5 : Hid (RowsAt w2 (some ⟨b, o, none⟩) 0 0 (R.drop c)) := by
      have : R.drop c = [] := List.eq_nil_of_length_eq_zero (by have := hlR.out; simp; omega)
      rw [this]; exact Arr.cutNil _ _
    go_region_law (first
      | (refine step_append_rows rfl _ _ rfl (w.heap.size + 2) _ k (R.take k) rfl hown3.out b o 0 0 (R.drop c) rfl hA6.out (by omega) (Nat.le_trans hsz3 hsz4) ?_; intro A5 C5 w4 hown4 hg4)
      | (go_simp; go_at_call 34; refine CE.out.mono ?_; rintro e w3 ⟨rfl, hb4⟩; have g0' := (hb4.cell (p := ⟨w.heap.size, 0, none⟩) (by show w.heap.size < w2.heap.size; omega)).trans g0; have g1' := (hb4.cell (p := ⟨w.heap.size, 1, none⟩) (by show w.heap.size < w2.heap.size; omega)).trans g1; have hown3 := hid (own_below hown2.out ((Below.refl _ _).drew.trans hb4)); have hA6 := hid (Arr.below hA5.out ((Below.refl _ _).drew.trans hb4)); have hsz4 : w2.heap.size ≤ w3.heap.size := hb4.size; replace hb4 := hid hb4))
    all_goals (
      have hbA : Below (w.heap.size + 2) w2 w4 := (((Below.refl _ _).drew.trans hb4.out).mono hsz3).grown hg4 (Nat.le_trans hsz3 hsz4) (fun k hk => own_ge hown3.out k hk)
      have hhA4 := (hbA.block w.heap.size (by omega)).trans hhA2.out
      have hhB4 := (hbA.block (w.heap.size + 1) (by omega)).trans hhB2.out
      have hb5 := hid (hb3.out.trans (hbA.mono (by omega)))
      have e0 : w4.cell? ⟨w.heap.size, 1, none⟩ = some (.int .i64 nx) := by simp [World.cell?, hhA4]
      have e1 : w4.cell? ⟨w.heap.size + 1, 0, none⟩ = some (.slice none 0 0) := by simp [World.cell?, hhB4]
      have e2 : w4.cell? ⟨w.heap.size + 1, 1, none⟩ = some (.int .i64 0) := by simp [World.cell?, hhB4]
      have f1 : w4.frozen? ⟨w.heap.size + 1, 0, none⟩ = false := by simp [World.frozen?, hhB4]
      have f2 : w4.frozen? ⟨w.heap.size + 1, 1, none⟩ = false := by simp [World.frozen?, hhB4]
      have ho : (Value.slice A5 (k + 0) C5).ownBlock ≠ some (w.heap.size + 1) := fun h => by have := own_ge hown4 _ h; omega
      replace hown4 := hid hown4
      replace hhB4 := hid hhB4
      clear hg4 hbA hhA4 hb4 hown3 hA6 g0' g1' g0 g1 hown2
      go_wp2_with fail
      refine bodyPost_ret (v := .tuple #[.agg #[.slice A5 (k + 0) C5, .int .i64 nx], .int .i64 0]) (by simp [results, Try.results11, go_sem, World.cell?, World.setCell, Array.getElem?_modify, hhB4.out]) rfl (hR.out _ _ ⟨A5, C5, by rw [hdl.out, Nat.sub_self], (hb5.out.setCell (p := ⟨w.heap.size + 1, 0, none⟩) (by show w.heap.size ≤ w.heap.size + 1; omega) _).setCell (p := ⟨w.heap.size + 1, 1, none⟩) (by show w.heap.size ≤ w.heap.size + 1; omega) _, (fun g hg => by have := own_ge hown4.out g (by cases A5 <;> exact hg); omega), ?_⟩)
      have := arr_of_own (own_setCell (own_setCell hown4.out (p := ⟨w.heap.size + 1, 0, none⟩) ho (.slice A5 (k + 0) C5)) (p := ⟨w.heap.size + 1, 1, none⟩) ho (.int .i64 nx))
      rw [hdl.out, hDR.out, Nat.sub_self]
      exact this)
  · have hA5 := Arr.cutHi (Arr.below A0.out hb3.out) hEn
    rw [rv_drop] at hA5
    replace hA5 := hid hA5
    go_region_law (first
      | (refine step_append_rows rfl _ _ rfl (w.heap.size + 2) _ k (R.take k) rfl hown3.out b (o + E * 2) (n - E) (c - E) (R.drop E) rfl hA6.out (by omega) (Nat.le_trans hsz3 hsz4) ?_; intro A5 C5 w4 hown4 hg4)
      | (go_simp; go_at_call 34; refine CE.out.mono ?_; rintro e w3 ⟨rfl, hb4⟩; have g0' := (hb4.cell (p := ⟨w.heap.size, 0, none⟩) (by show w.heap.size < w2.heap.size; omega)).trans g0; have g1' := (hb4.cell (p := ⟨w.heap.size, 1, none⟩) (by show w.heap.size < w2.heap.size; omega)).trans g1; have hown3 := hid (own_below hown2.out ((Below.refl _ _).drew.trans hb4)); have hA6 := hid (Arr.below hA5.out ((Below.refl _ _).drew.trans hb4)); have hsz4 : w2.heap.size ≤ w3.heap.size := hb4.size; replace hb4 := hid hb4))
    all_goals (
      have hbA : Below (w.heap.size + 2) w2 w4 := (((Below.refl _ _).drew.trans hb4.out).mono hsz3).grown hg4 (Nat.le_trans hsz3 hsz4) (fun k hk => own_ge hown3.out k hk)
      have hhA4 := (hbA.block w.heap.size (by omega)).trans hhA2.out
      have hhB4 := (hbA.block (w.heap.size + 1) (by omega)).trans hhB2.out
      have hb5 := hid (hb3.out.trans (hbA.mono (by omega)))
      have e0 : w4.cell? ⟨w.heap.size, 1, none⟩ = some (.int .i64 nx) := by simp [World.cell?, hhA4]
      have e1 : w4.cell? ⟨w.heap.size + 1, 0, none⟩ = some (.slice none 0 0) := by simp [World.cell?, hhB4]
      have e2 : w4.cell? ⟨w.heap.size + 1, 1, none⟩ = some (.int .i64 0) := by simp [World.cell?, hhB4]
      have f1 : w4.frozen? ⟨w.heap.size + 1, 0, none⟩ = false := by simp [World.frozen?, hhB4]
      have f2 : w4.frozen? ⟨w.heap.size + 1, 1, none⟩ = false := by simp [World.frozen?, hhB4]
      have ho : (Value.slice A5 (k + (n - E)) C5).ownBlock ≠ some (w.heap.size + 1) := fun h => by have := own_ge hown4 _ h; omega
      replace hown4 := hid hown4
      replace hhB4 := hid hhB4
      clear hg4 hbA hhA4 hb4 hown3 hA6 g0' g1' g0 g1 hown2
      go_wp2_with fail
      refine bodyPost_ret (v := .tuple #[.agg #[.slice A5 (k + (n - E)) C5, .int .i64 nx], .int .i64 0]) (by simp [results, Try.results11, go_sem, World.cell?, World.setCell, Array.getElem?_modify, hhB4.out]) rfl (hR.out _ _ ⟨A5, C5, by rw [hdl.out], (hb5.out.setCell (p := ⟨w.heap.size + 1, 0, none⟩) (by show w.heap.size ≤ w.heap.size + 1; omega) _).setCell (p := ⟨w.heap.size + 1, 1, none⟩) (by show w.heap.size ≤ w.heap.size + 1; omega) _, (fun g hg => by have := own_ge hown4.out g (by cases A5 <;> exact hg); omega), ?_⟩)
      have := arr_of_own (own_setCell (own_setCell hown4.out (p := ⟨w.heap.size + 1, 0, none⟩) ho (.slice A5 (k + (n - E)) C5)) (p := ⟨w.heap.size + 1, 1, none⟩) ho (.int .i64 nx))
      rw [hdl.out, hDR.out]
      exact this)
end Go.Proofs.Ytfgphleophghnaa
