/- Contracts of share.Split and share.Even where every weight is one. -/
import Derived.Test.YtbkkpbjlicgcfaaShareA
set_option linter.unusedVariables false
set_option linter.unusedSimpArgs false
namespace Go.Proofs.Ytbkkpbjlicgcfaa
open Go.RowKit
theorem enters34 (args : Array Value) (w : World) : (callFunc 34 args).run Try.prog w = .ok (.enter 34 args) w := enters Try.func34 (by kernel_rfl) (by kernel_rfl) args w

theorem own_mono {w : World} {base base' : Nat} {e : TypeId} {size : Nat} {v : Value} {n : Nat} {xs : List Value} (h : w.ownsRow base e size v n xs) (hb : base' ≤ base) : w.ownsRow base' e size v n xs := by
  refine ⟨h.1, ?_⟩
  rcases h.2 with h2 | ⟨g, cap, cur, hv, hg, r⟩
  · exact Or.inl h2
  · exact Or.inr ⟨g, cap, cur, hv, by omega, r⟩

set_option maxRecDepth 20000 in
/-- share.Split: too many weights. -/
theorem split_many (t : Int) (a : Option Addr) (n c : Nat) (hn : 1024 < n) (w : World) :
    Calls Try.prog 10 #[.int .i64 t, .slice a n c] w fun e w' => e = .returned (.tuple #[.slice none 0 0, .int .i64 8]) ∧ Below w.heap.size w w' := by
  apply cps; intro R hR
  go_enter Try.func10, Try.ntmps10
  go_wp2_with fail
  exact hR.out _ _ ⟨rfl, ((Below.refl _ _).alloc (Nat.le_refl _) _).alloc (by simp) _⟩

set_option maxRecDepth 20000 in
/-- share.Split: a weight below nought. -/
theorem split_neg (t x : Int) (hx : I64 x) (hx0 : x < 0) (a : Option Addr) (c : Nat) (w : World) (hs : Sl w .i64 a 1 c (List.replicate 1 x)) :
    Calls Try.prog 10 #[.int .i64 t, .slice a 1 c] w fun e w' => e = .returned (.tuple #[.slice none 0 0, .int .i64 1]) ∧ Below w.heap.size w w' := by
  have hb := ((Below.refl w.heap.size w).alloc (Nat.le_refl _) (.cells #[.int .i64 t] 2)).alloc (by simp) (.cells #[.slice a 1 c] 23)
  have M := hid (min_same x hx a 1 c (by omega) (by omega) _ (hs.below hb))
  have HB := hid hb; clear hb hs
  apply cps; intro R hR
  go_enter Try.func10, Try.ntmps10
  go_wp2_with fail
  refine M.out.mono ?_
  rintro e w1 ⟨rfl, rfl⟩
  go_wp2_with fail
  exact hR.out _ _ ⟨rfl, HB.out⟩

set_option maxRecDepth 20000 in
set_option maxHeartbeats 800000 in
/-- share.Split by so many ones. -/
theorem split_ones (t : Int) (ht : -2147483648 ≤ t ∧ t ≤ 2147483647) (a : Option Addr) (n c : Nat) (hn : n ≤ 1024) (w : World) (hs : Sl w .i64 a n c (List.replicate n 1)) :
    Calls Try.prog 10 #[.int .i64 t, .slice a n c] w fun e w' => Below w.heap.size w w' ∧ ∃ A C, e = .returned (.tuple #[.slice A n C, .int .i64 0]) ∧ w'.ownsRow w.heap.size 2 1 (.slice A n C) n ((partsL t n n).map (Value.int .i64)) := by
  have hmf : ∀ (fn : Fn) (first cap : Array Value) (w : World), (Instr.makeFunc fn first cap).run Try.prog w = .ok (.func fn first cap) w := fun _ _ _ _ => rfl
  have hb1 := ((Below.refl w.heap.size w).alloc (Nat.le_refl _) (.cells #[.int .i64 t] 2)).alloc (by simp) (.cells #[.slice a n c] 23)
  have hb2 := (hb1.alloc (by simp; omega) (.cells #[.slice none 0 0] 23)).alloc (by simp; omega) (.cells #[.int .i64 0] 24)
  have S1 := hid (split1_ones t ht a n c hn w.heap.size (w.heap.size + 1) (w.heap.size + 2) _ (hs.below hb2) (by simp [go_sem]) (by simp [go_sem]) (by simp [go_sem]) (by simp [go_sem]))
  have HB2 := hid hb2
  have M := fun h : 0 < n => min_same 1 (by unfold I64; omega) a n c hn h _ (hs.below hb1)
  have m := hid M; clear M hb1 hb2 hs
  apply cps; intro R hR
  have hn1 : ¬ 1024 < n := by omega
  have main : ∀ (W : World), W = ((w.alloc (.cells #[.int .i64 t] 2)).alloc (.cells #[.slice a n c] 23)).alloc (.cells #[.slice none 0 0] 23) →
      Calls Try.prog 33 #[.func (.func 34) #[] #[.pointer (some ⟨w.heap.size, 0, none⟩), .pointer (some ⟨w.heap.size + 1, 0, none⟩), .pointer (some ⟨w.heap.size + 2, 0, none⟩)]] W fun e w' =>
        e = .returned (.int .i64 0) ∧ ∃ A C, Below w.heap.size w w' ∧ w'.cell? ⟨w.heap.size + 2, 0, none⟩ = some (.slice A n C) ∧ w'.ownsRow w.heap.size 2 1 (.slice A n C) n ((partsL t n n).map (Value.int .i64)) := by
    rintro W rfl
    refine (try_any 34 _ _ (fun x w' => x = 0 ∧ ∃ A C, Below w.heap.size w w' ∧ w'.cell? ⟨w.heap.size + 2, 0, none⟩ = some (.slice A n C) ∧ w'.ownsRow w.heap.size 2 1 (.slice A n C) n ((partsL t n n).map (Value.int .i64))) enters34 ?_).mono ?_
    · refine S1.out.mono ?_
      rintro e w' ⟨rfl, A, C, w1, hb1, rfl, hown⟩
      have hz1 : w.heap.size + 3 < w1.heap.size := by have := hb1.size; simp at this; omega
      have c2 := hb1.cell (p := ⟨w.heap.size + 2, 0, none⟩) (by simp)
      have c3 := hb1.cell (p := ⟨w.heap.size + 3, 0, none⟩) (by simp)
      have f3 := hb1.frozen (p := ⟨w.heap.size + 3, 0, none⟩) (by simp)
      simp [go_sem] at c2 c3 f3
      refine ⟨?_, ?_, Or.inl ⟨rfl, rfl, A, C, ?_, ?_, ?_⟩⟩
      · simp [go_sem, c3]
      · simp [go_sem, f3]
      · exact ((HB2.out.then hb1 (by simp; omega)).setCell (by simp) _)
      · simp [go_sem, c2]
      · exact own_mono (ownsRow_setCell_below hown (by simp) _) (by simp; omega)
    · rintro e w' ⟨x, rfl, rfl, A, C, h1, h2, h3⟩
      exact ⟨rfl, A, C, h1, h2, h3⟩
  have MM := hid main; clear main
  by_cases hn0 : 0 < n
  · go_enter Try.func10, Try.ntmps10
    go_wp2_with fail
    refine (m.out hn0).mono ?_
    rintro e w1 ⟨rfl, rfl⟩
    go_wp2_with fail
    refine (MM.out _ rfl).mono ?_
    rintro e w1 ⟨rfl, A, C, hbw, hc, hown⟩
    have HBW := hid hbw; clear hbw
    have HO := hid hown; clear hown
    go_wp2_with fail
    exact hR.out _ _ ⟨HBW.out, A, C, rfl, HO.out⟩
  · obtain rfl : n = 0 := by omega
    go_enter Try.func10, Try.ntmps10
    go_wp2_with fail
    refine (MM.out _ rfl).mono ?_
    rintro e w1 ⟨rfl, A, C, hbw, hc, hown⟩
    have HBW := hid hbw; clear hbw
    have HO := hid hown; clear hown
    go_wp2_with fail
    exact hR.out _ _ ⟨HBW.out, A, C, rfl, HO.out⟩

/-- What owns so many numbers reads as them. -/
theorem sl_of_own {w : World} {base : Nat} {A : Option Addr} {n C : Nat} {k : IntKind} {l : List Int} {e : TypeId} (h : w.ownsRow base e 1 (.slice A n C) n (l.map (Value.int k))) : Sl w k A n C l := by
  have hl : l.length = n := by simpa using h.1
  rcases h.2 with ⟨hv, hn⟩ | ⟨g, cap, cur, hv, hg, hh, hc, _, hz, ht⟩
  · simp at hv
    obtain ⟨rfl, rfl, rfl⟩ := hv
    exact ⟨hl, Nat.le_refl _, fun h => by omega⟩
  · simp at hv
    obtain ⟨rfl, rfl⟩ := hv
    refine ⟨hl, hc, fun h0 => ⟨g, 0, rfl, (Array.getElem?_eq_some_iff.1 hh).1, fun i hi => ?_⟩⟩
    have e1 : cur[i]? = some (.int k (l.getD i 0)) := by
      have e2 : (cur.toList.take (n * 1))[i]? = (l.map (Value.int k))[i]? := by rw [ht]
      rw [List.getElem?_take, if_pos (by omega)] at e2
      have e3 : (l.map (Value.int k))[i]? = some (.int k (l.getD i 0)) := by
        rw [List.getElem?_map, List.getElem?_eq_getElem (by omega)]
        simp [List.getD, List.getElem?_eq_getElem (show i < l.length by omega)]
      rw [e3] at e2
      simpa using e2
    simp [World.cell?, hh, e1]

/-- A store into an element of what is owned. -/
theorem own_set {w : World} {base g n C i : Nat} {xs : List Value} {e : TypeId} (h : w.ownsRow base e 1 (.slice (some ⟨g, 0, none⟩) n C) n xs) (hi : i < n) (u : Value) :
    (w.setCell ⟨g, i, none⟩ u).ownsRow base e 1 (.slice (some ⟨g, 0, none⟩) n C) n (xs.set i u) := by
  rcases h with ⟨hl, ⟨hv, hn⟩ | ⟨g', cap, cur, hv, hg, hh, hc, hm, hz, ht⟩⟩
  · simp at hv
  · simp at hv
    obtain ⟨rfl, rfl⟩ := hv
    refine ⟨by simpa using hl, Or.inr ⟨g, C, cur.setIfInBounds i u, rfl, hg, ?_, hc, hm, by simpa using hz, ?_⟩⟩
    · simp [World.setCell, Array.getElem?_modify, hh]
    · rw [Array.toList_setIfInBounds, List.take_set, ht]
theorem own_cell {w : World} {base g n C i : Nat} {xs : List Value} {e : TypeId} (h : w.ownsRow base e 1 (.slice (some ⟨g, 0, none⟩) n C) n xs) (hi : i < n) :
    w.cell? ⟨g, i, none⟩ = xs[i]? ∧ w.frozen? ⟨g, i, none⟩ = false ∧ base ≤ g := by
  rcases h with ⟨hl, ⟨hv, hn⟩ | ⟨g', cap, cur, hv, hg, hh, hc, hm, hz, ht⟩⟩
  · simp at hv
  · simp at hv
    obtain ⟨rfl, rfl⟩ := hv
    refine ⟨?_, ?_, hg⟩
    · rw [← ht, List.getElem?_take, if_pos (by omega)]
      simp [World.cell?, hh]
    · simp [World.frozen?, hh]

/-- Ones so far, noughts behind. -/
def onesTo (n k : Nat) : List Value := (List.range n).map fun i => Value.int .i64 (if i < k then 1 else 0)
theorem onesTo_set (n k : Nat) (h : k < n) : (onesTo n k).set k (.int .i64 1) = onesTo n (k + 1) := by
  unfold onesTo
  apply List.ext_getElem?
  intro i
  rw [List.getElem?_set]
  simp only [List.getElem?_map, List.length_map, List.length_range]
  by_cases hi : i < n
  · rw [List.getElem?_range hi]
    by_cases e : k = i
    · subst e; simp [h]
    · have : (i < k) ↔ (i < k + 1) := by omega
      simp [e, this]
  · rw [List.getElem?_eq_none (by simp; omega)]
    have : ¬ k = i := by omega
    simp [this]
theorem onesTo_get (n k : Nat) (h : k < n) : ∃ x : Int, (onesTo n k)[k]? = some (.int .i64 x) := by
  unfold onesTo
  exact ⟨_, by rw [List.getElem?_map, List.getElem?_range h]; rfl⟩
theorem onesTo_zero (n : Nat) (l : List Value) (hl : l = (madeCells #[Value.int .i64 0] n).toList) : l = onesTo n 0 := by
  subst hl
  unfold onesTo madeCells
  simp only [Array.toList_map, Array.toList_range]
  apply List.map_congr_left
  intro i _
  simp [Value.cells]
  rw [Nat.mod_one]; rfl
theorem onesTo_all (n : Nat) : onesTo n n = (List.replicate n (1 : Int)).map (Value.int .i64) := by
  unfold onesTo
  apply List.ext_getElem?
  intro i
  simp only [List.getElem?_map]
  by_cases hi : i < n
  · rw [List.getElem?_range hi, List.getElem?_replicate, if_pos hi]; simp [hi]
  · rw [List.getElem?_eq_none (by simp; omega), List.getElem?_eq_none (by simp; omega)]; rfl

set_option maxRecDepth 20000 in
/-- share.Even of fewer than no parts; of too many. -/
theorem even_neg (t n : Int) (hn : n < 0) (w : World) : Calls Try.prog 9 #[.int .i64 t, .int .i64 n] w fun e w' => e = .returned (.tuple #[.slice none 0 0, .int .i64 1]) ∧ w = w' := by
  apply cps; intro R hR
  go_enter Try.func9, Try.ntmps9
  go_wp2_with fail
  exact hR.out _ _ ⟨rfl, rfl⟩
set_option maxRecDepth 20000 in
theorem even_many (t n : Int) (hn : 1024 < n) (w : World) : Calls Try.prog 9 #[.int .i64 t, .int .i64 n] w fun e w' => e = .returned (.tuple #[.slice none 0 0, .int .i64 8]) ∧ w = w' := by
  apply cps; intro R hR
  have h0 : ¬ n < 0 := by omega
  go_enter Try.func9, Try.ntmps9
  go_wp2_with fail
  exact hR.out _ _ ⟨rfl, rfl⟩

set_option maxRecDepth 20000 in
set_option maxHeartbeats 800000 in
theorem even_ones (t : Int) (ht : -2147483648 ≤ t ∧ t ≤ 2147483647) (n : Nat) (hn : n ≤ 1024) (w : World) :
    Calls Try.prog 9 #[.int .i64 t, .int .i64 n] w fun e w' => Below w.heap.size w w' ∧ ∃ A C, e = .returned (.tuple #[.slice A n C, .int .i64 0]) ∧ w'.ownsRow w.heap.size 2 1 (.slice A n C) n ((partsL t n n).map (Value.int .i64)) := by
  apply cps; intro R hR
  obtain ⟨i0, hi, hz0, hz1, hz2⟩ := info_parts info2
  have h0 : ¬ (n : Int) < 0 := by omega
  have h1 : ¬ (1024 : Int) < n := by omega
  go_enter Try.func9, Try.ntmps9
  go_wp2_with (at_make; refine wpList_make_full _ rfl _ _ 23 rfl w.heap.size 2 i0 (.int .i64 0) 1 Try.underlying23 hi hz0 hz1 .i64 .i64 n n n rfl rfl rfl rfl ?b1 ?b2 ?b3 ?_)
  case b1 => omega
  case b2 => unfold maxLen; omega
  intro w1 hown hg
  have hz : w1.heap.size ≠ 0 := by
    intro h
    rcases hown.2 with ⟨hv, _⟩ | ⟨g, cap, cur, hv, hgg, hh, _⟩
    · simp at hv
    · have := (Array.getElem?_eq_some_iff.1 hh).1; omega
  have hb0 : Below w.heap.size w w1 := ⟨hg.os, hg.tape, hg.output, hg.size, fun k hk => hg.block k hk (by simp)⟩
  generalize hxs : (madeCells _ _).toList = xs at hown
  obtain rfl := onesTo_zero n xs hxs.symm
  clear hg hxs
  go_wp2_with fail
  go_loopw [18] (fun i wr => ∃ k : Nat, k ≤ n ∧ i = .int .i64 k ∧ wr.ownsRow w.heap.size 2 1 (.slice (some ⟨w.heap.size, 0, none⟩) n n) n (onesTo n k) ∧ Below w.heap.size w wr) (fun i _ => n - (intOf i).toNat)
  case atStart => exact ⟨0, Nat.zero_le _, rfl, hown, hb0⟩
  case round =>
    clear hown hb0 hz
    obtain ⟨k, hk, rfl, hown, hbw⟩ := hrel
    by_cases hlt : k < n
    · obtain ⟨c1, f1, _⟩ := own_cell hown hlt
      obtain ⟨x, hx⟩ := onesTo_get n k hlt
      rw [hx] at c1
      have hs := own_set hown hlt (.int .i64 1)
      rw [onesTo_set n k hlt] at hs
      have HS := hid hs; have HB := hid hbw; clear hs hbw hown hx
      go_wp2_with fail
      go_roundw
      case rel => exact ⟨k + 1, by omega, by go_num, HS.out, HB.out.setCell (Nat.le_refl _) _⟩
      case measure => simp [intOf]; omega
    · obtain rfl : k = n := by omega
      have hs : Sl wr .i64 (some ⟨w.heap.size, 0, none⟩) k k (List.replicate k 1) := by
        rw [onesTo_all] at hown
        exact sl_of_own hown
      have S := hid (split_ones t ht _ k k hn wr hs)
      have HB := hid hbw; clear hs hbw hown
      go_wp2_with fail
      refine S.out.mono ?_
      rintro e w2 ⟨hb2, A, C, rfl, hown2⟩
      have HO := hid hown2; clear hown2
      have HB2 := hid (HB.out.then hb2 HB.out.size); clear hb2
      go_wp2_with fail
      exact hR.out _ _ ⟨HB2.out, A, C, rfl, own_mono HO.out HB.out.size⟩
end Go.Proofs.Ytbkkpbjlicgcfaa
