/- Contracts of the document's tree: New, with, place, Drop. -/
import Derived.Test.YtfgphleophghnaaRefB
set_option linter.unusedVariables false
set_option linter.unusedSimpArgs false
namespace Go.Proofs.Ytfgphleophghnaa
open Go.RowKit Go.MapKept

theorem infoRow : (Try.prog.info? 83).map (fun i => (i.zero, i.size, i.bytes)) = some (some (.agg #[.int .i64 0, .int .i64 0]), 2, 16) := by kernel_rfl
theorem rv_one (R : RL) : ∀ u ∈ rv R, u.oneCell' = true := by
  intro u hu
  simp only [rv, List.mem_flatMap] at hu
  obtain ⟨r, _, hu⟩ := hu
  simp only [List.mem_cons, List.not_mem_nil, or_false] at hu
  rcases hu with rfl | rfl <;> rfl
theorem Arr.cutLo {w : World} {E : TypeId} {sz : Nat} {b o n c : Nat} {xs : List Value} (h : Arr w E sz (some ⟨b, o, none⟩) n c xs) {k : Nat} (hk : k ≤ n) : Arr w E sz (some ⟨b, o, none⟩) k c (xs.take (k * sz)) := by
  have hks : k * sz ≤ n * sz := Nat.mul_le_mul_right _ hk
  refine ⟨by rw [List.length_take, h.len]; omega, by have := h.cap; omega, (fun e => nomatch e), fun h0 => ?_⟩
  obtain ⟨b', o', cs, fr, ha, hh, hc⟩ := h.cells (by omega)
  cases ha
  refine ⟨b, o, cs, fr, rfl, hh, fun i hi => ?_⟩
  rw [hc i (by omega), List.getElem?_take, if_pos hi]
theorem Arr.cutHi {w : World} {E : TypeId} {sz : Nat} {b o n c : Nat} {xs : List Value} (h : Arr w E sz (some ⟨b, o, none⟩) n c xs) {k : Nat} (hk : k ≤ n) : Arr w E sz (some ⟨b, o + k * sz, none⟩) (n - k) (c - k) (xs.drop (k * sz)) := by
  have hks : k * sz ≤ n * sz := Nat.mul_le_mul_right _ hk
  refine ⟨by rw [List.length_drop, h.len, Nat.sub_mul], by have := h.cap; omega, (fun e => nomatch e), fun h0 => ?_⟩
  obtain ⟨b', o', cs, fr, ha, hh, hc⟩ := h.cells (by omega)
  cases ha
  refine ⟨b, o + k * sz, cs, fr, rfl, hh, fun i hi => ?_⟩
  rw [Nat.sub_mul] at hi
  rw [Nat.add_assoc, hc (k * sz + i) (by omega), List.getElem?_drop]
theorem Arr.cutNil {w : World} {E : TypeId} {sz : Nat} (a : Addr) (c : Nat) : Arr w E sz (some a) 0 c [] :=
  ⟨by simp, Nat.zero_le _, (fun e => nomatch e), fun h => by omega⟩
theorem rv_take (R : RL) (k : Nat) : (rv R).take (k * 2) = rv (R.take k) := by
  induction R generalizing k with
  | nil => simp [rv]
  | cons r R ih =>
    cases k with
    | zero => simp [rv]
    | succ k =>
      have e : ∀ X : RL, rv (r :: X) = .int .i64 r.1 :: .int .i64 r.2 :: rv X := fun X => by simp [rv]
      rw [List.take_succ_cons, e, e, show (k + 1) * 2 = k * 2 + 1 + 1 by omega, List.take_succ_cons, List.take_succ_cons, ih]
theorem rv_drop (R : RL) (k : Nat) : (rv R).drop (k * 2) = rv (R.drop k) := by
  induction R generalizing k with
  | nil => simp [rv]
  | cons r R ih =>
    cases k with
    | zero => simp
    | succ k =>
      have e : ∀ X : RL, rv (r :: X) = .int .i64 r.1 :: .int .i64 r.2 :: rv X := fun X => by simp [rv]
      rw [List.drop_succ_cons, e, show (k + 1) * 2 = k * 2 + 1 + 1 by omega, List.drop_succ_cons, List.drop_succ_cons, ih]

set_option maxRecDepth 20000 in
/-- New. -/
theorem rnew_any (w : World) : Calls Try.prog 8 #[] w fun e w' => ∃ a c, e = .returned (.agg #[.slice a 1 c, .int .i64 1]) ∧ Below w.heap.size w w' ∧ RowsAt w' a 1 c [(0, 0)] := by
  apply cps; intro R hR
  go_enter Try.func8, Try.ntmps8
  go_wp2_with fail
  refine bodyPost_ret (v := .agg #[.slice (some ⟨w.heap.size + 1, 0, none⟩) 1 1, .int .i64 1]) (by simp [results, Try.results8, go_sem]) rfl (hR.out _ _ ⟨_, _, rfl, ((Below.refl _ _).alloc (Nat.le_refl _) _).alloc (by simp) _, ?_⟩)
  have h := arr_of_own (own_lit (w.alloc (.cells #[.slice (some ⟨w.heap.size + 1, 0, none⟩) 1 1, .int .i64 1] 28)) w.heap.size 83 (by simp) #[.int .i64 0, .int .i64 0] 1 2 rfl (by unfold maxLen; omega))
  rw [show (w.alloc (.cells #[.slice (some ⟨w.heap.size + 1, 0, none⟩) 1 1, .int .i64 1] 28)).heap.size = w.heap.size + 1 by simp] at h
  exact h

set_option maxRecDepth 20000 in
/-- with. -/
theorem with_any (b o n c k : Nat) (nx : Int) (R L : RL) (a2 : Option Addr) (m c2 : Nat) (hn : n ≤ 100000) (hm : m ≤ 100000) (hk : k ≤ n) (h0 : 0 < n) (w : World) (hs : RowsAt w (some ⟨b, o, none⟩) n c R) (hs2 : RowsAt w a2 m c2 L) :
    Calls Try.prog 40 #[.agg #[.slice (some ⟨b, o, none⟩) n c, .int .i64 nx], .int .i64 k, .slice a2 m c2] w fun e w' => ∃ a' c', e = .returned (.agg #[.slice a' (n + m) c', .int .i64 nx]) ∧ Below w.heap.size w w' ∧ RowsAt w' a' (n + m) c' (R.take k ++ L ++ R.drop k) := by
  obtain ⟨i0, hi0, hz0, hz1, hz2⟩ := info_parts infoRow
  apply cps; intro R' hR
  have hcap := hs.cap
  have hc0 : ¬ c = 0 := by omega
  have hb1 := ((Below.refl w.heap.size w).alloc (Nat.le_refl _) (.cells #[.slice (some ⟨b, o, none⟩) n c, .int .i64 nx] 28)).alloc (by simp) (.cells #[.slice none 0 0, .int .i64 0] 28)
  have A1 := hid (Arr.cutLo (hs.below hb1) hk)
  have A0 := hid hs
  have A2 := hid hs2
  have hb1 := hid hb1
  clear hs hs2
  have hh0 : ((w.alloc (.cells #[.slice (some ⟨b, o, none⟩) n c, .int .i64 nx] 28)).alloc (.cells #[.slice none 0 0, .int .i64 0] 28)).heap[w.heap.size]? = some (.cells #[.slice (some ⟨b, o, none⟩) n c, .int .i64 nx] 28 (0, 0)) :=
    ((heap_alloc (w.alloc (.cells #[.slice (some ⟨b, o, none⟩) n c, .int .i64 nx] 28)) _).2 _ (by simp)).trans (heap_alloc w _).1
  have hh1 : ((w.alloc (.cells #[.slice (some ⟨b, o, none⟩) n c, .int .i64 nx] 28)).alloc (.cells #[.slice none 0 0, .int .i64 0] 28)).heap[w.heap.size + 1]? = some (.cells #[.slice none 0 0, .int .i64 0] 28 (0, 0)) := by
    have := (heap_alloc (w.alloc (.cells #[.slice (some ⟨b, o, none⟩) n c, .int .i64 nx] 28)) (.cells #[.slice none 0 0, .int .i64 0] 28)).1
    simpa using this
  have hz0' : ((w.alloc (.cells #[.slice (some ⟨b, o, none⟩) n c, .int .i64 nx] 28)).alloc (.cells #[.slice none 0 0, .int .i64 0] 28)).heap.size = w.heap.size + 2 := by simp
  have hh0 := hid hh0
  have hh1 := hid hh1
  have hz0' := hid hz0'
  go_enter Try.func40, Try.ntmps40
  go_wp2_with (at_builtin; refine wp_append_any _ rfl _ _ 26 rfl (w.heap.size + 2) 83 i0 (.agg #[.int .i64 0, .int .i64 0]) 2 16 Try.underlying26 hi0 hz0 hz1 hz2 rfl (by decide) _ _ _ rfl (own_nil _ _ _ _) _ k c _ rfl A1.out ?c1 ?c2 ?c3 ?c4 ?_)
  case c1 => rw [rv_take]; exact rv_one _
  case c2 => unfold maxLen; omega
  case c3 => omega
  case c4 => exact Nat.le_of_eq hz0'.out.symm
  intro v1 w1 hown1 hg1 hloc1
  have hbA : Below (w.heap.size + 2) _ w1 := (Below.refl _ _).grown hg1 (Nat.le_of_eq hz0'.out.symm) (fun k hk => by cases hk)
  rw [rv_take] at hown1
  have hhA := hid ((hbA.block w.heap.size (by omega)).trans hh0.out)
  have hhB := hid ((hbA.block (w.heap.size + 1) (by omega)).trans hh1.out)
  have hb2 := hid (hb1.out.trans (hbA.mono (by omega)))
  have hz2' := hid (show w.heap.size + 2 ≤ w1.heap.size from by have := hbA.size; rw [hz0'.out] at this; exact this)
  obtain ⟨A1', C1, rfl⟩ := own_shape hown1
  have hown1 := hid hown1
  clear hg1 hloc1 hbA hh0 hh1 hz0' hb1 A1
  have A2' := hid (Arr.below A2.out hb2.out)
  go_wp2_with (at_builtin; refine wp_append_any _ rfl _ _ 26 rfl (w.heap.size + 2) 83 i0 (.agg #[.int .i64 0, .int .i64 0]) 2 16 Try.underlying26 hi0 hz0 hz1 hz2 rfl (by decide) _ _ _ rfl hown1.out _ m c2 _ rfl A2'.out ?c1 ?c2 ?c3 ?c4 ?_)
  case c1 => exact rv_one _
  case c2 => unfold maxLen; omega
  case c3 => omega
  case c4 => exact hz2'.out
  intro v2 w2 hown2 hg2 hloc2
  have hbA : Below (w.heap.size + 2) w1 w2 := (Below.refl _ _).grown hg2 hz2'.out (fun k hk => own_ge hown1.out k hk)
  rw [← rv_append] at hown2
  have hhA2 := (hbA.block w.heap.size (by omega)).trans hhA.out
  have hhB2 := (hbA.block (w.heap.size + 1) (by omega)).trans hhB.out
  have hb3 := hid (hb2.out.trans (hbA.mono (by omega)))
  have hz3' := hid (Nat.le_trans hz2'.out hbA.size)
  obtain ⟨A3, C3, rfl⟩ := own_shape hown2
  have hown2 := hid hown2
  have g0 : w2.cell? ⟨w.heap.size, 0, none⟩ = some (.slice (some ⟨b, o, none⟩) n c) := by simp [World.cell?, hhA2]
  have g1 : w2.cell? ⟨w.heap.size, 1, none⟩ = some (.int .i64 nx) := by simp [World.cell?, hhA2]
  have hhA2 := hid hhA2
  have hhB2 := hid hhB2
  clear hg2 hloc2 hbA hhA hhB hb2 hz2' A2' hown1
  have A4 := Arr.cutHi (Arr.below A0.out hb3.out) hk
  rw [rv_drop] at A4
  have A4 := hid A4
  by_cases hck : c = k
  · have hnk : k = n := by omega
    subst hnk
    subst hck
    have A4 : Hid (RowsAt w2 (some ⟨b, o, none⟩) 0 0 (R.drop c)) := by
      have h := Arr.len A4.out
      have : R.drop c = [] := List.eq_nil_of_length_eq_zero (by rw [rv_length] at h; omega)
      rw [this]; exact Arr.cutNil _ _
    go_wp2_with (at_builtin; refine wp_append_any _ rfl _ _ 26 rfl (w.heap.size + 2) 83 i0 (.agg #[.int .i64 0, .int .i64 0]) 2 16 Try.underlying26 hi0 hz0 hz1 hz2 rfl (by decide) _ _ _ rfl hown2.out _ 0 0 (rv (R.drop c)) rfl A4.out ?c1 ?c2 ?c3 ?c4 ?_)
    case c1 => exact rv_one _
    case c2 => unfold maxLen; omega
    case c3 => omega
    case c4 => exact hz3'.out
    intro v4 w4 hown4 hg4 hloc4
    have hbA : Below (w.heap.size + 2) w2 w4 := (Below.refl _ _).grown hg4 hz3'.out (fun k hk => own_ge hown2.out k hk)
    rw [← rv_append] at hown4
    have hhA4 := (hbA.block w.heap.size (by omega)).trans hhA2.out
    have hhB4 := (hbA.block (w.heap.size + 1) (by omega)).trans hhB2.out
    have hb5 := hid (hb3.out.trans (hbA.mono (by omega)))
    obtain ⟨A5, C5, rfl⟩ := own_shape hown4
    have e0 : w4.cell? ⟨w.heap.size, 1, none⟩ = some (.int .i64 nx) := by simp [World.cell?, hhA4]
    have e1 : w4.cell? ⟨w.heap.size + 1, 0, none⟩ = some (.slice none 0 0) := by simp [World.cell?, hhB4]
    have e2 : w4.cell? ⟨w.heap.size + 1, 1, none⟩ = some (.int .i64 0) := by simp [World.cell?, hhB4]
    have f1 : w4.frozen? ⟨w.heap.size + 1, 0, none⟩ = false := by simp [World.frozen?, hhB4]
    have f2 : w4.frozen? ⟨w.heap.size + 1, 1, none⟩ = false := by simp [World.frozen?, hhB4]
    have ho : (Value.slice A5 (c + m + 0) C5).ownBlock ≠ some (w.heap.size + 1) := fun h => by have := own_ge hown4 _ h; omega
    have hown4 := hid hown4
    have hhB4 := hid hhB4
    clear hg4 hloc4 hbA hhA2 hhB2 hhA4 hown2 A4
    go_wp2_with fail
    refine bodyPost_ret (v := .agg #[.slice A5 (c + m + 0) C5, .int .i64 nx]) (by simp [results, Try.results40, go_sem, World.cell?, World.setCell, Array.getElem?_modify, hhB4.out]) rfl (hR.out _ _ ⟨A5, C5, by rw [show c + m + 0 = c + m by omega], (hb5.out.setCell (p := ⟨w.heap.size + 1, 0, none⟩) (by show w.heap.size ≤ w.heap.size + 1; omega) _).setCell (p := ⟨w.heap.size + 1, 1, none⟩) (by show w.heap.size ≤ w.heap.size + 1; omega) _, ?_⟩)
    have := arr_of_own (own_setCell (own_setCell hown4.out (p := ⟨w.heap.size + 1, 0, none⟩) ho (.slice A5 (c + m + 0) C5)) (p := ⟨w.heap.size + 1, 1, none⟩) ho (.int .i64 nx))
    rw [show c + m + 0 = c + m by omega] at this
    exact this
  · go_wp2_with (at_builtin; refine wp_append_any _ rfl _ _ 26 rfl (w.heap.size + 2) 83 i0 (.agg #[.int .i64 0, .int .i64 0]) 2 16 Try.underlying26 hi0 hz0 hz1 hz2 rfl (by decide) _ _ _ rfl hown2.out _ (n - k) (c - k) (rv (R.drop k)) rfl A4.out ?c1 ?c2 ?c3 ?c4 ?_)
    case c1 => exact rv_one _
    case c2 => unfold maxLen; omega
    case c3 => omega
    case c4 => exact hz3'.out
    intro v4 w4 hown4 hg4 hloc4
    have hbA : Below (w.heap.size + 2) w2 w4 := (Below.refl _ _).grown hg4 hz3'.out (fun k hk => own_ge hown2.out k hk)
    rw [← rv_append] at hown4
    have hhA4 := (hbA.block w.heap.size (by omega)).trans hhA2.out
    have hhB4 := (hbA.block (w.heap.size + 1) (by omega)).trans hhB2.out
    have hb5 := hid (hb3.out.trans (hbA.mono (by omega)))
    obtain ⟨A5, C5, rfl⟩ := own_shape hown4
    have e0 : w4.cell? ⟨w.heap.size, 1, none⟩ = some (.int .i64 nx) := by simp [World.cell?, hhA4]
    have e1 : w4.cell? ⟨w.heap.size + 1, 0, none⟩ = some (.slice none 0 0) := by simp [World.cell?, hhB4]
    have e2 : w4.cell? ⟨w.heap.size + 1, 1, none⟩ = some (.int .i64 0) := by simp [World.cell?, hhB4]
    have f1 : w4.frozen? ⟨w.heap.size + 1, 0, none⟩ = false := by simp [World.frozen?, hhB4]
    have f2 : w4.frozen? ⟨w.heap.size + 1, 1, none⟩ = false := by simp [World.frozen?, hhB4]
    have ho : (Value.slice A5 (k + m + (n - k)) C5).ownBlock ≠ some (w.heap.size + 1) := fun h => by have := own_ge hown4 _ h; omega
    have hown4 := hid hown4
    have hhB4 := hid hhB4
    clear hg4 hloc4 hbA hhA2 hhB2 hhA4 hown2 A4
    go_wp2_with fail
    refine bodyPost_ret (v := .agg #[.slice A5 (k + m + (n - k)) C5, .int .i64 nx]) (by simp [results, Try.results40, go_sem, World.cell?, World.setCell, Array.getElem?_modify, hhB4.out]) rfl (hR.out _ _ ⟨A5, C5, by rw [show k + m + (n - k) = n + m by omega], (hb5.out.setCell (p := ⟨w.heap.size + 1, 0, none⟩) (by show w.heap.size ≤ w.heap.size + 1; omega) _).setCell (p := ⟨w.heap.size + 1, 1, none⟩) (by show w.heap.size ≤ w.heap.size + 1; omega) _, ?_⟩)
    have := arr_of_own (own_setCell (own_setCell hown4.out (p := ⟨w.heap.size + 1, 0, none⟩) ho (.slice A5 (k + m + (n - k)) C5)) (p := ⟨w.heap.size + 1, 1, none⟩) ho (.int .i64 nx))
    rw [show n + m = k + m + (n - k) by omega]
    exact this

def placeR (R : RL) (p : Nat) (a : Nat) : Int := if a < (kidsR R p).length then (kidsR R p).getD a 0 else (endR R p : Int)

set_option maxRecDepth 20000 in
/-- place. -/
theorem place_any (a : Option Addr) (n c : Nat) (nx : Int) (i q : Nat) (R : RL) (hn : n ≤ 1000000) (hi : i < n) (w : World) (hs : RowsAt w a n c R) :
    Calls Try.prog 41 #[.agg #[.slice a n c, .int .i64 nx], .int .i64 i, .int .i64 q] w fun e w' => e = .returned (.int .i64 (placeR R i q)) ∧ Below w.heap.size w w' := by
  apply cps; intro R' hR
  have hs0 := hid hs
  have hb0 := (Below.refl w.heap.size w).alloc (Nat.le_refl _) (.cells #[.slice a n c, .int .i64 nx] 28)
  have hh := (heap_alloc w (.cells #[.slice a n c, .int .i64 nx] 28)).1
  have C1 := hid (rkids_any a n c nx i R hn hi _ (hs.below hb0))
  have EE := hid (fun (w' : World) (h : Below w.heap.size w w') => end_any a n c nx i R hn hi w' (hs.below h))
  have hb0 := hid hb0
  have hh := hid hh
  clear hs
  have hP : placeR R i q = if q < (kidsR R i).length then (kidsR R i).getD q 0 else (endR R i : Int) := rfl
  have hP := hid hP
  generalize placeR R i q = P at *
  generalize kidsR R i = K at *
  generalize endR R i = E at *
  go_enter Try.func41, Try.ntmps41
  go_wp2_with fail
  refine C1.out.mono ?_
  rintro e w1 ⟨hb1, A, C, rfl, hown⟩
  have hh1 := (hb1.block w.heap.size (by simp)).trans hh.out
  have c0 : w1.cell? ⟨w.heap.size, 0, none⟩ = some (.slice a n c) := by simp [World.cell?, hh1]
  have c1 : w1.cell? ⟨w.heap.size, 1, none⟩ = some (.int .i64 nx) := by simp [World.cell?, hh1]
  have hb2 := hid (hb0.out.then hb1 hb0.out.size)
  have HA := hid (arr_of_own hown)
  have E1 := hid (EE.out w1 hb2.out)
  clear C1 hb1 hown hh1 hb0 hh
  by_cases hlt : q < K.length
  · obtain ⟨b, o, rfl, hb, hc⟩ := Ints.atI (l := K) HA.out (by omega)
    have k0 := hc q hlt
    have hP1 := hP.out
    rw [if_pos hlt] at hP1
    rw [hP1] at hR
    clear hP1 hP hc
    generalize K.getD q 0 = y at *
    have hltI : (q : Int) < K.length := by omega
    go_wp2_with fail
    exact hR.out _ _ ⟨rfl, hb2.out⟩
  · have hP1 := hP.out
    rw [if_neg hlt] at hP1
    rw [hP1] at hR
    have hltI : ¬ (q : Int) < K.length := by omega
    clear hP1 hP
    go_wp2_with fail
    refine E1.out.mono ?_
    rintro e w2 ⟨rfl, hb3⟩
    have hb4 := hid (hb2.out.then hb3 hb2.out.size)
    clear E1 hb3
    go_wp2_with fail
    exact hR.out _ _ ⟨rfl, hb4.out⟩
end Go.Proofs.Ytfgphleophghnaa
