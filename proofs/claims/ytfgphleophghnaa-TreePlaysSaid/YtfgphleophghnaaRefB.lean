/- Contracts of the document's tree: End, Kids, Parent. -/
import Derived.Test.YtfgphleophghnaaRef
set_option linter.unusedVariables false
set_option linter.unusedSimpArgs false
namespace Go.Proofs.Ytfgphleophghnaa
open Go.RowKit Go.MapKept

abbrev dep (R : RL) (i : Nat) : Int := (R.getD i (0, 0)).2
def endR (R : RL) (i : Nat) : Nat := i + 1 + ((R.drop (i + 1)).takeWhile (fun r => decide (dep R i < r.2))).length
theorem endR_hit {R : RL} {i j : Nat} (hij : i < j) (hj : j ≤ R.length) (hb : ∀ k, i < k → k < j → dep R i < dep R k) (hs : j < R.length → ¬ dep R i < dep R j) : endR R i = j := by
  obtain ⟨m, rfl⟩ : ∃ m, j = i + 1 + m := ⟨j - (i + 1), by omega⟩
  unfold endR
  congr 1
  have key : ∀ (L : RL) (m : Nat), m ≤ L.length → (∀ k, k < m → dep R i < (L.getD k (0, 0)).2) → (m < L.length → ¬ dep R i < (L.getD m (0, 0)).2) → (L.takeWhile (fun r => decide (dep R i < r.2))).length = m := by
    intro L
    induction L with
    | nil => intro m hm _ _; simp at hm; simp [hm]
    | cons r L ih =>
      intro m hm h1 h2
      cases m with
      | zero =>
        have := h2 (by simp)
        simp only [List.getD_cons_zero] at this
        simp [List.takeWhile_cons, this]
      | succ m =>
        have h0 := h1 0 (by omega)
        simp only [List.getD_cons_zero] at h0
        rw [List.takeWhile_cons, if_pos (by simpa using h0)]
        simp only [List.length_cons]
        rw [ih m (by simpa using hm) (fun k hk => by have := h1 (k + 1) (by omega); simpa using this) (fun h => by have := h2 (by simpa using h); simpa using this)]
  have hg : ∀ k, (R.drop (i + 1)).getD k (0, 0) = R.getD (i + 1 + k) (0, 0) := fun k => by simp [List.getD, List.getElem?_drop]
  refine key _ m (by simp; omega) (fun k hk => ?_) (fun h => ?_)
  · rw [hg]; exact hb _ (by omega) (by omega)
  · rw [hg]; exact hs (by simp at h; omega)
theorem endR_bd (R : RL) (i : Nat) (hi : i < R.length) : i < endR R i ∧ endR R i ≤ R.length := by
  unfold endR
  have := (List.takeWhile_sublist (fun r : Int × Int => decide (dep R i < r.2)) (l := R.drop (i + 1))).length_le
  simp only [List.length_drop] at this
  omega

set_option maxRecDepth 20000 in
/-- End. -/
theorem end_any (a : Option Addr) (n c : Nat) (nx : Int) (i : Nat) (R : RL) (hn : n ≤ 1000000) (hi : i < n) (w : World) (hs : RowsAt w a n c R) :
    Calls Try.prog 34 #[.agg #[.slice a n c, .int .i64 nx], .int .i64 i] w fun e w' => e = .returned (.int .i64 (endR R i : Nat)) ∧ Below w.heap.size w w' := by
  apply cps; intro R' hR
  have hl := hid (RowsAt.len hs)
  have hb0 := (Below.refl w.heap.size w).alloc (Nat.le_refl _) (.cells #[.slice a n c, .int .i64 nx] 28)
  have H := hid (hs.below hb0)
  have hh := (heap_alloc w (.cells #[.slice a n c, .int .i64 nx] 28)).1
  have hc0 := hid (show (w.alloc (.cells #[.slice a n c, .int .i64 nx] 28)).cell? ⟨w.heap.size, 0, none⟩ = some (.slice a n c) from by simp only [World.cell?, hh]; rfl)
  have hb1 := hid hb0
  clear hs hh hb0
  go_enter Try.func34, Try.ntmps34
  go_wp2_with fail
  go_loopw [5] (fun k wr => ∃ j : Nat, i < j ∧ j ≤ n ∧ k = .int .i64 j ∧ (∀ k, i < k → k < j → dep R i < dep R k) ∧ RowsAt wr a n c R ∧ wr.cell? ⟨w.heap.size, 0, none⟩ = some (.slice a n c) ∧ Below w.heap.size w wr) (fun k _ => n - (intOf k).toNat)
  case atStart => exact ⟨i + 1, by omega, by omega, by go_num, by omega, H.out, hc0.out, hb1.out⟩
  case round =>
    obtain ⟨j, hij, hj, rfl, hno, H, c0, hb⟩ := hrel
    have hno := hid hno
    have H := hid H
    have hb0 := hid hb
    clear hb
    have hii : (i : Int) < n := by omega
    by_cases hlt : j < n
    · obtain ⟨b, o, rfl, hb, hc⟩ := RowsAt.cellsAt H.out (by omega)
      have c1 := (hc j hlt).2
      have c2 := (hc i hi).2
      have hit := hid (fun h => endR_hit (R := R) hij (by have := hl.out; omega) hno.out h)
      have hnx : dep R i < dep R j → ∀ k, i < k → k < j + 1 → dep R i < dep R k := fun h k hk1 hk2 => by
        rcases Nat.lt_or_ge k j with h1 | h1
        · exact hno.out k hk1 h1
        · have : k = j := by omega
          subst this; exact h
      have hnx := hid hnx
      clear hc
      change wr.cell? _ = some (.int .i64 (dep R j)) at c1
      change wr.cell? _ = some (.int .i64 (dep R i)) at c2
      generalize dep R j = y at *
      generalize hx : dep R i = x at *
      have hjj : (j : Int) < n := by omega
      have hdec : decide ((j : Int) < n) = true := by simpa using hjj
      by_cases hxy : x < y
      · go_wp2_with fail
        go_quiet (fail)
        go_wp2_with fail
        go_roundw
        case rel => exact ⟨j + 1, by omega, by omega, by go_num, hnx.out hxy, H.out.below ((Below.refl _ _).drewN nq), c0, hb0.out.drewN nq⟩
        case measure => simp [intOf]; omega
      · have hE := hit.out (fun _ => by omega)
        rw [hE] at hR
        clear hE
        go_wp2_with fail
        go_quiet (fail)
        go_wp2_with fail
        exact hR.out _ _ ⟨rfl, hb0.out.drewN nq⟩
    · obtain rfl : j = n := by omega
      have hE := endR_hit (R := R) hij (by have := hl.out; omega) hno.out (fun h => by have := hl.out; omega)
      rw [hE] at hR
      have hdec : decide ((j : Int) < j) = false := by simp
      clear hE
      go_wp2_with fail
      go_quiet (fail)
      go_wp2_with fail
      exact hR.out _ _ ⟨rfl, hb0.out.drewN nq⟩

def parGo (R : RL) (x : Int) : Nat → Int
  | 0 => -1
  | j + 1 => if dep R j < x then (j : Int) else parGo R x j
/-- The place of the parent; -1: there is none. -/
def parR (R : RL) (i : Nat) : Int := parGo R (dep R i) i

set_option maxRecDepth 20000 in
/-- Parent. -/
theorem rparent_any (a : Option Addr) (n c : Nat) (nx : Int) (i : Nat) (R : RL) (hn : n ≤ 1000000) (hi : i < n) (w : World) (hs : RowsAt w a n c R) :
    Calls Try.prog 43 #[.agg #[.slice a n c, .int .i64 nx], .int .i64 i] w fun e w' => e = .returned (.int .i64 (parR R i)) ∧ Below w.heap.size w w' := by
  apply cps; intro R' hR
  have hb0 := (Below.refl w.heap.size w).alloc (Nat.le_refl _) (.cells #[.slice a n c, .int .i64 nx] 28)
  have H := hid (hs.below hb0)
  have hh := (heap_alloc w (.cells #[.slice a n c, .int .i64 nx] 28)).1
  have hc0 := hid (show (w.alloc (.cells #[.slice a n c, .int .i64 nx] 28)).cell? ⟨w.heap.size, 0, none⟩ = some (.slice a n c) from by simp only [World.cell?, hh]; rfl)
  have hb1 := hid hb0
  clear hs hh hb0
  go_enter Try.func43, Try.ntmps43
  go_wp2_with fail
  go_loopw [5] (fun k wr => ∃ j : Nat, j ≤ i ∧ k = .int .i64 ((j : Int) - 1) ∧ parR R i = parGo R (dep R i) j ∧ RowsAt wr a n c R ∧ wr.cell? ⟨w.heap.size, 0, none⟩ = some (.slice a n c) ∧ Below w.heap.size w wr) (fun k _ => (intOf k + 1).toNat)
  case atStart => exact ⟨i, Nat.le_refl _, by go_num, rfl, H.out, hc0.out, hb1.out⟩
  case round =>
    obtain ⟨j, hj, rfl, hP, H, c0, hb⟩ := hrel
    have H := hid H
    have hb0 := hid hb
    clear hb
    have hii : (i : Int) < n := by omega
    cases j with
    | zero =>
      have hdec : decide ((0 : Int) ≤ (0 : Nat) - 1) = false := by decide
      rw [hP] at hR
      clear hP
      go_wp2_with fail
      go_quiet (fail)
      go_wp2_with fail
      exact hR.out _ _ ⟨rfl, hb0.out.drewN nq⟩
    | succ j =>
      obtain ⟨b, o, rfl, hb, hc⟩ := RowsAt.cellsAt H.out (by omega)
      have c1 := (hc j (by omega)).2
      have c2 := (hc i hi).2
      change wr.cell? _ = some (.int .i64 (dep R j)) at c1
      change wr.cell? _ = some (.int .i64 (dep R i)) at c2
      have ej : (((j + 1 : Nat) : Int) - 1) = j := by omega
      rw [ej]
      have hP1 : parR R i = if dep R j < dep R i then (j : Int) else parGo R (dep R i) j := hP
      have hP1 := hid hP1
      clear hc hP
      have hxy : dep R j < dep R i ∨ dep R i ≤ dep R j := by omega
      generalize dep R j = y at *
      generalize hx : dep R i = x at *
      have hjj : (j : Int) < n := by omega
      have hj0 : (0 : Int) ≤ j := by omega
      have hdec : decide ((0 : Int) ≤ j) = true := by simp
      rcases hxy with hxy | hxy
      · have hE := hP1.out
        rw [if_pos hxy] at hE
        rw [hE] at hR
        clear hE hP1
        go_wp2_with fail
        go_quiet (fail)
        go_wp2_with fail
        exact hR.out _ _ ⟨rfl, hb0.out.drewN nq⟩
      · have hE := hP1.out
        rw [if_neg (by omega)] at hE
        have hE := hid hE
        clear hP1
        go_wp2_with fail
        go_quiet (fail)
        go_wp2_with fail
        go_roundw
        case rel => exact ⟨j, by omega, rfl, hE.out, H.out.below ((Below.refl _ _).drewN nq), c0, hb0.out.drewN nq⟩
        case measure => (simp [intOf] <;> omega)

def kidsGo (R : RL) (e : Nat) : Nat → Nat → List Int
  | 0, _ => []
  | f + 1, i => if i < e then (i : Int) :: kidsGo R e f (endR R i) else []
/-- The places of the kids. -/
def kidsR (R : RL) (i : Nat) : List Int := kidsGo R (endR R i) R.length (i + 1)
theorem kidsGo_len (R : RL) (e : Nat) (he : e ≤ R.length) : ∀ (f i : Nat), i ≤ e → (kidsGo R e f i).length ≤ e - i
  | 0, _, _ => Nat.zero_le _
  | f + 1, i, hi => by
    unfold kidsGo
    by_cases h : i < e
    · rw [if_pos h, List.length_cons]
      have h1 := endR_bd R i (by omega)
      by_cases h2 : endR R i ≤ e
      · have := kidsGo_len R e he f (endR R i) h2; omega
      · cases f with
        | zero => simp [kidsGo]; omega
        | succ f => rw [kidsGo, if_neg (by omega)]; simp; omega
    · rw [if_neg h]; simp

set_option maxRecDepth 20000 in
/-- Kids. -/
theorem rkids_any (a : Option Addr) (n c : Nat) (nx : Int) (i : Nat) (R : RL) (hn : n ≤ 1000000) (hi : i < n) (w : World) (hs : RowsAt w a n c R) :
    Calls Try.prog 39 #[.agg #[.slice a n c, .int .i64 nx], .int .i64 i] w fun e w' => Below w.heap.size w w' ∧ ∃ A C, e = .returned (.slice A (kidsR R i).length C) ∧ w'.ownsRow w.heap.size 3 1 (.slice A (kidsR R i).length C) (kidsR R i).length (iv (kidsR R i)) := by
  obtain ⟨i0, hi0, hz0, hz1, hz2⟩ := info_parts info3
  apply cps; intro R' hR
  have hl := hid (RowsAt.len hs)
  have hs0 := hid hs
  have hb0 := (Below.refl w.heap.size w).alloc (Nat.le_refl _) (.cells #[.slice a n c, .int .i64 nx] 28)
  have H := hid (hs.below hb0)
  have hh := (heap_alloc w (.cells #[.slice a n c, .int .i64 nx] 28)).1
  have hc0 := hid (show (w.alloc (.cells #[.slice a n c, .int .i64 nx] 28)).cell? ⟨w.heap.size, 0, none⟩ = some (.slice a n c) ∧ (w.alloc (.cells #[.slice a n c, .int .i64 nx] 28)).cell? ⟨w.heap.size, 1, none⟩ = some (.int .i64 nx) from by simp only [World.cell?, hh]; exact ⟨rfl, rfl⟩)
  have hb1 := hid hb0
  clear hs hh hb0
  have hed := endR_bd R i (by have := hl.out; omega)
  rw [← hl.out] at hed
  have hed := hid hed
  have hk0 : Hid (kidsR R i = [] ++ kidsGo R (endR R i) n (i + 1)) := by unfold kidsR; rw [hl.out]; rfl
  have EE := hid (fun (w' : World) (j : Nat) (hj : j < n) (h : RowsAt w' a n c R) => end_any a n c nx j R hn hj w' h)
  have EEi := hid (fun (w' : World) (h : RowsAt w' a n c R) => end_any a n c nx i R hn hi w' h)
  generalize kidsR R i = K at *
  generalize endR R i = E at *
  go_enter Try.func39, Try.ntmps39
  go_wp2_with fail
  go_loopw [5, 6] (fun out k wr => ∃ (f j : Nat) (L : List Int) (A : Option Addr) (C : Nat), j ≤ n ∧ n ≤ f + j ∧ k = .int .i64 j ∧ K = L ++ kidsGo R E f j ∧ L.length ≤ j ∧ out = .slice A L.length C ∧ wr.ownsRow (w.heap.size + 1) 3 1 out L.length (iv L) ∧ RowsAt wr a n c R ∧ (wr.cell? ⟨w.heap.size, 0, none⟩ = some (.slice a n c) ∧ wr.cell? ⟨w.heap.size, 1, none⟩ = some (.int .i64 nx)) ∧ Below w.heap.size w wr ∧ w.heap.size < wr.heap.size) (fun _ k _ => n - (intOf k).toNat)
  case atStart => exact ⟨n, i + 1, [], none, 0, by omega, by omega, by go_num, hk0.out, by simp, rfl, own_nil _ _ _ _, H.out, hc0.out, hb1.out, by simp⟩
  case round =>
    obtain ⟨f, j, L, A, C, hj, hf, rfl, hK, hLj, rfl, hown, H, ⟨c0, c1⟩, hb, hsz⟩ := hrel
    have H := hid H
    have hown := hid hown
    have hb0 := hid hb
    have C1 := hid (EEi.out wr H.out)
    have hK := hid hK
    clear hb
    have hed := hed
    go_wp2_with fail
    refine C1.out.mono ?_
    rintro e w2 ⟨rfl, hb2⟩
    clear C1
    by_cases hlt : j < E
    · have hjn : j < n := by have := hed.out; omega
      obtain ⟨f, rfl⟩ : ∃ f', f = f' + 1 := ⟨f - 1, by omega⟩
      have hK2 : K = (L ++ [(j : Int)]) ++ kidsGo R E f (endR R j) := by rw [hK.out, kidsGo, if_pos hlt, List.append_assoc]; rfl
      have hbd := endR_bd R j (by have := hl.out; omega)
      rw [← hl.out] at hbd
      have hK2 := hid hK2
      have hown2 := own_below hown.out hb2
      have hb3 := hid (hb0.out.then hb2 hb0.out.size)
      have hsz2 := hb2.size
      have H2 := hid (H.out.below hb2)
      have d0 := (hb2.cell (p := ⟨w.heap.size, 0, none⟩) hsz).trans c0
      have d1 := (hb2.cell (p := ⟨w.heap.size, 1, none⟩) hsz).trans c1
      have hltI : (j : Int) < E := by omega
      have CE := hid (fun (w' : World) (h : Below w2.heap.size w2 w') => EE.out w' j hjn (H2.out.below h))
      clear hb2 H c0 c1
      have hba := (Below.refl w2.heap.size w2).alloc (Nat.le_refl _) (.cells #[.int .i64 j] 3)
      have hown3 := own_below hown2 hba
      have hr1 : Ints (w2.alloc (.cells #[.int .i64 j] 3)) 3 (some ⟨w2.heap.size, 0, none⟩) 1 1 [(j : Int)] := arr_of_own (own_lit w2 w2.heap.size 3 (Nat.le_refl _) #[.int .i64 j] 1 1 rfl (by unfold maxLen; omega))
      have hr1 := hid hr1
      have hown3 := hid hown3
      have hba := hid hba
      have hlLe : L.length + 1 ≤ 1000001 := by omega
      clear hown2
      go_wp2_with (at_builtin; refine wp_append_any _ rfl _ _ 73 rfl (w.heap.size + 1) 3 i0 (.int .i64 0) 1 8 Try.underlying73 hi0 hz0 hz1 hz2 rfl (by decide) _ _ _ rfl hown3.out _ 1 1 (iv [(j : Int)]) rfl hr1.out (iv_one [(j : Int)]) ?c2 ?c3 ?c4 ?_)
      case c2 => unfold maxLen; omega
      case c3 => omega
      case c4 => simp; omega
      intro v' w4 hown4 hg hloc
      rw [← iv_append] at hown4
      have hb4 : Below (w.heap.size + 1) w2 w4 := (hba.out.mono (by omega)).grown hg (by simp; omega) (fun k hk => own_ge hown3.out k hk)
      have hz4 := hb4.size
      have d0' := (hb4.cell (p := ⟨w.heap.size, 0, none⟩) (by show w.heap.size < w.heap.size + 1; omega)).trans d0
      have d1' := (hb4.cell (p := ⟨w.heap.size, 1, none⟩) (by show w.heap.size < w.heap.size + 1; omega)).trans d1
      have hb5 := hid (hb3.out.trans (hb4.mono (Nat.le_succ _)))
      obtain ⟨A4, C4, rfl⟩ := own_shape hown4
      have H4 : RowsAt w4 a n c R := Arr.below hs0.out hb5.out
      have CF := hid (end_any a n c nx j R hn hjn w4 H4)
      have H4 := hid H4
      have hown4 := hid hown4
      clear hg hloc hown3 hr1 hb4 hba d0 d1 CE
      go_wp2_with fail
      refine CF.out.mono ?_
      rintro e w5 ⟨rfl, hb6⟩
      have e0 := (hb6.cell (p := ⟨w.heap.size, 0, none⟩) (by show w.heap.size < w4.heap.size; omega)).trans d0'
      have e1 := (hb6.cell (p := ⟨w.heap.size, 1, none⟩) (by show w.heap.size < w4.heap.size; omega)).trans d1'
      have hb7 := hid (hb5.out.then hb6 hb5.out.size)
      have hown5 := hid (own_below hown4.out hb6)
      have hsz5 := hb6.size
      have H5 : RowsAt w5 a n c R := Arr.below hs0.out hb7.out
      have H5 := hid H5
      clear CF hb6 hown4 H4 d0' d1'
      generalize endR R j = J at *
      go_wp2_with fail
      go_roundw
      case rel => exact ⟨f, J, L ++ [(j : Int)], A4, C4, by omega, by omega, rfl, hK2.out, by simp; omega, by simp, by simpa using hown5.out, H5.out, ⟨e0, e1⟩, hb7.out, by omega⟩
      case measure => simp [intOf]; omega
    · have hKL : K = L := by
        have h1 := hK.out
        cases f with
        | zero => simpa [kidsGo] using h1
        | succ f => rw [kidsGo, if_neg hlt, List.append_nil] at h1; exact h1
      have hb3 := hid (hb0.out.then hb2 hb0.out.size)
      have hown2 := hid (own_mono (own_below hown.out hb2) (Nat.le_succ _))
      have hltI : ¬ (j : Int) < E := by omega
      rw [hKL] at hR
      clear hK hKL hb2
      go_wp2_with fail
      exact hR.out _ _ ⟨hb3.out, _, _, rfl, hown2.out⟩
end Go.Proofs.Ytfgphleophghnaa
