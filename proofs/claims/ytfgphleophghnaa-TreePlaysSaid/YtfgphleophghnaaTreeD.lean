/- Contracts of slices.Index, Contains, IndexFunc, DeleteFunc at []int with the closure of tree.without, and of tree.without. -/
import Derived.Test.YtfgphleophghnaaTreeC
set_option linter.unusedVariables false
set_option linter.unusedSimpArgs false
namespace Go.Proofs.Ytfgphleophghnaa
open Go.RowKit Go.MapKept

/-- The first place of a number in a list; -1: none. -/
def idx (l : List Int) (x : Int) : Int := if x ∈ l then (l.idxOf x : Int) else -1
theorem idx_hit {l : List Int} {x : Int} {j : Nat} (hj : j < l.length) (h : l.getD j 0 = x) (hno : ∀ i, i < j → l.getD i 0 ≠ x) : idx l x = j := by
  have hg : l[j] = x := by simpa [List.getD, List.getElem?_eq_getElem hj] using h
  have hm : x ∈ l := by rw [← hg]; exact List.getElem_mem hj
  unfold idx
  rw [if_pos hm]
  have h1 := List.idxOf_lt_length_iff.2 hm
  have h2 : l[l.idxOf x] = x := List.getElem_idxOf h1
  congr 1
  rcases Nat.lt_trichotomy (l.idxOf x) j with h | h | h
  · exact absurd (by simp [List.getD, List.getElem?_eq_getElem h1]) (hno _ h)
  · exact h
  · exfalso
    have := List.not_of_lt_findIdx (p := (· == x)) (xs := l) (i := j) h
    simp [hg] at this
theorem idx_miss {l : List Int} {x : Int} (hno : ∀ i, i < l.length → l.getD i 0 ≠ x) : idx l x = -1 := by
  unfold idx
  rw [if_neg]
  intro hm
  obtain ⟨j, hj, e⟩ := List.getElem_of_mem hm
  exact hno j hj (by simp [List.getD, List.getElem?_eq_getElem hj, e])

set_option maxRecDepth 20000 in
/-- slices.Index. -/
theorem index_any (a : Option Addr) (n c : Nat) (l : List Int) (x : Int) (hn : n ≤ 1000000) (w : World) (hs : Ints w 3 a n c l) :
    Calls Try.prog 50 #[.slice a n c, .int .i64 x] w fun e w' => e = .returned (.int .i64 (idx l x)) ∧ w' = w := by
  apply cps; intro R hR
  have hl : l.length = n := by have := hs.len; rw [iv_length] at this; omega
  have H := hid hs; clear hs
  go_enter Try.func50, Try.ntmps50
  go_wp2_with fail
  go_loop [5, 8] (fun i k => ∃ j : Nat, j ≤ n ∧ k = .int .i64 j ∧ ∀ i, i < j → l.getD i 0 ≠ x) (fun _ k => n - (intOf k).toNat)
  case atStart => exact ⟨0, Nat.zero_le _, rfl, by omega⟩
  case round =>
    obtain ⟨j, hj, rfl, hno⟩ := hrel
    have hno := hid hno
    by_cases hlt : j < n
    · obtain ⟨b, o, rfl, hb, hc⟩ := H.out.atI (by omega)
      have c0 := hc j hlt
      have hit := fun h => idx_hit (l := l) (x := x) (by omega : j < l.length) h hno.out
      have hnx : l.getD j 0 ≠ x → ∀ i, i < j + 1 → l.getD i 0 ≠ x := fun h i hi => by
        rcases Nat.lt_or_ge i j with h1 | h1
        · exact hno.out i h1
        · have : i = j := by omega
          subst this; exact h
      have hnx := hid hnx
      have hit := hid hit
      clear hc
      generalize l.getD j 0 = y at *
      by_cases hxy : x = y
      · subst hxy
        go_wp2_with fail
        rw [hit.out (by simp)] at hR
        exact hR.out _ _ ⟨rfl, rfl⟩
      · have hxy' : (x == y) = false := beq_eq_false_iff_ne.2 hxy
        go_wp2_with fail
        go_round
        case rel => exact ⟨j + 1, by omega, by go_num, hnx.out (Ne.symm hxy)⟩
        case measure => simp [intOf]; omega
    · obtain rfl : j = n := by omega
      have hm := idx_miss (l := l) (x := x) (by rw [hl]; exact hno.out)
      rw [hm] at hR
      clear hm
      go_wp2_with fail
      exact hR.out _ _ ⟨rfl, rfl⟩

theorem idx_contains (l : List Int) (x : Int) : decide (0 ≤ idx l x) = decide (x ∈ l) := by
  unfold idx
  by_cases h : x ∈ l <;> simp [h]
theorem idx_le (l : List Int) (x : Int) : idx l x < l.length ∨ l.length = 0 ∧ idx l x = -1 := by
  unfold idx
  by_cases h : x ∈ l
  · have := List.idxOf_lt_length_iff.2 h; rw [if_pos h]; omega
  · rw [if_neg h]; omega

set_option maxRecDepth 20000 in
/-- slices.Contains. -/
theorem contains_any (a : Option Addr) (n c : Nat) (l : List Int) (x : Int) (hn : n ≤ 1000000) (w : World) (hs : Ints w 3 a n c l) :
    Calls Try.prog 35 #[.slice a n c, .int .i64 x] w fun e w' => e = .returned (.bool (decide (x ∈ l))) ∧ w' = w := by
  apply cps; intro R hR
  have C := hid (index_any a n c l x hn w hs)
  have e1 := idx_contains l x
  rw [← e1] at hR
  clear hs e1
  generalize idx l x = q at *
  go_enter Try.func35, Try.ntmps35
  go_wp2_with fail
  refine C.out.mono ?_
  rintro e w' ⟨rfl, rfl⟩
  go_wp2_with fail
  exact hR.out _ _ ⟨rfl, rfl⟩

set_option maxRecDepth 20000 in
/-- The closure of tree.without. -/
theorem without1_any (b : Nat) (x k : Int) (w : World) (hb : w.cell? ⟨b, 0, none⟩ = some (.int .i64 x)) :
    Calls Try.prog 52 #[.int .i64 k, .pointer (some ⟨b, 0, none⟩)] w fun e w' => e = .returned (.bool (decide (k = x))) ∧ w' = w := by
  apply cps; intro R hR
  go_enter Try.func52, Try.ntmps52
  go_wp2_with fail
  exact hR.out _ _ ⟨rfl, rfl⟩
theorem entersW1 (args : Array Value) (w : World) : (callFunc 52 args).run Try.prog w = .ok (.enter 52 args) w := enters Try.func52 (by kernel_rfl) (by kernel_rfl) args w

set_option maxRecDepth 20000 in
/-- slices.IndexFunc with that closure. -/
theorem indexFunc_any (a : Option Addr) (n c b : Nat) (l : List Int) (x : Int) (hn : n ≤ 1000000) (w : World) (hs : Ints w 3 a n c l) (hb : w.cell? ⟨b, 0, none⟩ = some (.int .i64 x)) :
    Calls Try.prog 60 #[.slice a n c, .func (.func 52) #[] #[.pointer (some ⟨b, 0, none⟩)]] w fun e w' => e = .returned (.int .i64 (idx l x)) ∧ w' = w := by
  apply cps; intro R hR
  have hl : l.length = n := by have := hs.len; rw [iv_length] at this; omega
  have H := hid hs
  have CC := hid (fun k => without1_any b x k w hb)
  have hen := entersW1
  clear hs hb
  go_enter Try.func60, Try.ntmps60
  go_wp2_with fail
  go_loop [5, 8] (fun i k => ∃ j : Nat, j ≤ n ∧ k = .int .i64 j ∧ ∀ i, i < j → l.getD i 0 ≠ x) (fun _ k => n - (intOf k).toNat)
  case atStart => exact ⟨0, Nat.zero_le _, rfl, by omega⟩
  case round =>
    obtain ⟨j, hj, rfl, hno⟩ := hrel
    have hno := hid hno
    by_cases hlt : j < n
    · obtain ⟨b2, o, rfl, hb2, hc⟩ := H.out.atI (by omega)
      have c0 := hc j hlt
      have hit := fun h => idx_hit (l := l) (x := x) (by omega : j < l.length) h hno.out
      have hnx : l.getD j 0 ≠ x → ∀ i, i < j + 1 → l.getD i 0 ≠ x := fun h i hi => by
        rcases Nat.lt_or_ge i j with h1 | h1
        · exact hno.out i h1
        · have : i = j := by omega
          subst this; exact h
      have hnx := hid hnx
      have hit := hid hit
      have CD := hid (CC.out (l.getD j 0))
      clear hc
      generalize l.getD j 0 = y at *
      by_cases hxy : y = x
      · subst hxy
        go_wp2_with fail
        refine CD.out.mono ?_
        rintro e w' ⟨rfl, rfl⟩
        go_wp2_with fail
        rw [hit.out (by simp)] at hR
        exact hR.out _ _ ⟨rfl, rfl⟩
      · go_wp2_with fail
        refine CD.out.mono ?_
        rintro e w' ⟨rfl, rfl⟩
        rw [decide_eq_false hxy]
        go_wp2_with fail
        go_round
        case rel => exact ⟨j + 1, by omega, by go_num, hnx.out hxy⟩
        case measure => simp [intOf]; omega
    · obtain rfl : j = n := by omega
      have hm := idx_miss (l := l) (x := x) (by rw [hl]; exact hno.out)
      rw [hm] at hR
      clear hm
      go_wp2_with fail
      exact hR.out _ _ ⟨rfl, rfl⟩
end Go.Proofs.Ytfgphleophghnaa
