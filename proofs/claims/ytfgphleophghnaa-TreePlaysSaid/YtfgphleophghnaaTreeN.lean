/- The plain law that joins the tree with the document's rows: where each node's row lies, its end, its kids, its parent. No program in sight. -/
import Derived.Test.YtfgphleophghnaaTreeF
import Derived.Test.YtfgphleophghnaaRefC
set_option linter.unusedVariables false
set_option linter.unusedSimpArgs false
namespace Go.Proofs.Ytfgphleophghnaa

/-! ### rows alone -/
theorem dep_at (A B : RL) (r : Int × Int) : dep (A ++ r :: B) A.length = r.2 := by simp [dep, List.getD]
theorem endR_split (A B C : RL) (r : Int × Int) (hB : ∀ s ∈ B, r.2 < s.2) (hC : ∀ s L, C = s :: L → ¬ r.2 < s.2) : endR (A ++ r :: (B ++ C)) A.length = A.length + 1 + B.length := by
  unfold endR
  rw [dep_at]
  have h1 : (A ++ r :: (B ++ C)).drop (A.length + 1) = B ++ C := by
    rw [← List.drop_drop, List.drop_left]; rfl
  rw [h1, List.takeWhile_append_of_pos (by intro s hs; simpa using hB s hs)]
  have h2 : C.takeWhile (fun s => decide (r.2 < s.2)) = [] := by
    cases C with
    | nil => rfl
    | cons s L => rw [List.takeWhile_cons, if_neg (by simpa using hC s L rfl)]
  rw [h2]; simp
theorem parR_split (A B C : RL) (r s : Int × Int) (hrs : r.2 < s.2) (hB : ∀ t ∈ B, s.2 ≤ t.2) : parR (A ++ r :: (B ++ s :: C)) (A.length + 1 + B.length) = A.length := by
  unfold parR
  have hd : dep (A ++ r :: (B ++ s :: C)) (A.length + 1 + B.length) = s.2 := by
    have := dep_at (A ++ r :: B) C s
    simp only [List.length_append, List.length_cons, List.append_assoc, List.cons_append] at this
    rw [show A.length + 1 + B.length = A.length + (B.length + 1) by omega]; exact this
  rw [hd]
  have key : ∀ j, j ≤ B.length → parGo (A ++ r :: (B ++ s :: C)) s.2 (A.length + 1 + j) = A.length := by
    intro j
    induction j with
    | zero => intro _; show parGo _ _ (A.length + 1) = _; unfold parGo; rw [dep_at, if_pos hrs]
    | succ j ih =>
      intro hj
      show parGo _ _ (A.length + 1 + j + 1) = _
      unfold parGo
      have : dep (A ++ r :: (B ++ s :: C)) (A.length + 1 + j) = (B[j]'(by omega)).2 := by
        simp only [dep, List.getD]
        rw [List.getElem?_append_right (by omega), show A.length + 1 + j - A.length = j + 1 by omega, List.getElem?_cons_succ, List.getElem?_append_left (by omega), List.getElem?_eq_getElem (by omega)]
        rfl
      rw [this, if_neg (by have := hB _ (List.getElem_mem (l := B) (n := j) (by omega)); omega)]
      exact ih (by omega)
  exact key _ (Nat.le_refl _)
theorem parR_root (r : Int × Int) (C : RL) : parR (r :: C) 0 = -1 := rfl

/-- The places of kids whose rows lie one behind the other from a place on. -/
def kpos (sub : Int → List Int) : Nat → List Int → List Int
  | _, [] => []
  | b, c :: l => (b : Int) :: kpos sub (b + (sub c).length) l
theorem kpos_len (sub : Int → List Int) : ∀ (l : List Int) (b : Nat), (kpos sub b l).length = l.length
  | [], _ => rfl
  | c :: l, b => by simp [kpos, kpos_len sub l]
theorem kpos_get (sub : Int → List Int) : ∀ (l : List Int) (b q : Nat), q < l.length → (kpos sub b l).getD q 0 = ((b + ((l.take q).flatMap sub).length : Nat) : Int)
  | [], _, _, h => by simp at h
  | c :: l, b, 0, _ => by simp [kpos]
  | c :: l, b, q + 1, h => by
    rw [kpos, List.getD_cons_succ, kpos_get sub l _ q (by simpa using h), List.take_succ_cons, List.flatMap_cons, List.length_append]
    omega
/-- Rows of a list of nodes. -/
def RD (d : Int → Nat) (L : List Int) : RL := L.map (fun y => (y, (d y : Int)))
theorem RD_append (d : Int → Nat) (A B : List Int) : RD d (A ++ B) = RD d A ++ RD d B := by simp [RD]
theorem RD_cons (d : Int → Nat) (a : Int) (B : List Int) : RD d (a :: B) = (a, (d a : Int)) :: RD d B := rfl
theorem RD_length (d : Int → Nat) (A : List Int) : (RD d A).length = A.length := by simp [RD]
theorem RD_fst (d : Int → Nat) (A : List Int) : (RD d A).map (·.1) = A := by simp [RD, Function.comp_def]
theorem RD_mem {d : Int → Nat} {A : List Int} {s : Int × Int} (h : s ∈ RD d A) : s.1 ∈ A ∧ s.2 = d s.1 := by
  obtain ⟨y, hy, rfl⟩ := List.mem_map.1 h; exact ⟨hy, rfl⟩
theorem RD_congr {d d' : Int → Nat} : ∀ {A : List Int}, (∀ y ∈ A, d' y = d y) → RD d' A = RD d A
  | [], _ => rfl
  | a :: A, h => by rw [RD_cons, RD_cons, h a (by simp), RD_congr (fun y hy => h y (by simp [hy]))]
theorem kidsGo_split (d : Int → Nat) (sub : Int → List Int) (D : Nat) (C : List Int) (hC : ∀ y l, C = y :: l → d y ≤ D) : ∀ (l A : List Int) (f : Nat), (∀ c ∈ l, ∃ t, sub c = c :: t ∧ d c = D ∧ ∀ y ∈ t, D < d y) → (l.flatMap sub).length ≤ f →
    kidsGo (RD d (A ++ (l.flatMap sub ++ C))) (A.length + (l.flatMap sub).length) f A.length = kpos sub A.length l
  | [], A, f, _, _ => by
    cases f with
    | zero => rfl
    | succ f => rw [kidsGo, if_neg (by simp)]; rfl
  | c :: l, A, f, h, hf => by
    obtain ⟨t, ht, hd, hy⟩ := h c (by simp)
    rw [List.flatMap_cons, ht] at hf ⊢
    cases f with
    | zero => simp at hf
    | succ f =>
      rw [kidsGo, if_pos (by simp), kpos]
      have he : endR (RD d (A ++ (c :: t ++ l.flatMap sub ++ C))) A.length = A.length + 1 + t.length := by
        have := endR_split (RD d A) (RD d t) (RD d (l.flatMap sub ++ C)) (c, (d c : Int)) (fun s hs => by obtain ⟨h1, h2⟩ := RD_mem hs; have := hy _ h1; rw [h2]; show (d c : Int) < _; omega) (fun s L hsL => by
          have hhd : ∀ y m, l.flatMap sub ++ C = y :: m → d y ≤ D := by
            intro y m hym
            cases l with
            | nil => exact hC y m (by simpa using hym)
            | cons c' l' =>
              obtain ⟨t', ht', hd', _⟩ := h c' (by simp)
              rw [List.flatMap_cons, ht'] at hym
              simp at hym
              rw [← hym.1]; omega
          cases hq : l.flatMap sub ++ C with
          | nil => rw [hq] at hsL; cases hsL
          | cons y m =>
            rw [hq, RD_cons] at hsL
            cases hsL
            have := hhd y m hq
            show ¬ (d c : Int) < (d y : Int); omega)
        rw [RD_length, RD_length, ← RD_append, ← RD_cons, ← RD_append] at this
        rw [← this]; simp
      rw [he]
      congr 1
      have ih := kidsGo_split d sub D C hC l (A ++ c :: t) f (fun c' hc' => h c' (by simp [hc'])) (by rw [List.length_append, List.length_cons] at hf; omega)
      rw [ht]
      simp only [List.length_append, List.length_cons, List.append_assoc, List.cons_append] at ih ⊢
      rw [show A.length + 1 + t.length = A.length + (t.length + 1) by omega, show A.length + (t.length + (l.flatMap sub).length + 1) = A.length + (t.length + 1) + (l.flatMap sub).length by omega]
      exact ih
theorem kpos_names (d : Int → Nat) (sub : Int → List Int) (C : List Int) : ∀ (l A : List Int), (∀ c ∈ l, ∃ t, sub c = c :: t) → (kpos sub A.length l).map (fun j => ((RD d (A ++ (l.flatMap sub ++ C))).getD j.toNat (0, 0)).1) = l
  | [], _, _ => rfl
  | c :: l, A, h => by
    obtain ⟨t, ht⟩ := h c (by simp)
    rw [kpos, List.map_cons, List.flatMap_cons, ht]
    congr 1
    · simp [RD, List.getD]
    · have ih := kpos_names d sub C l (A ++ c :: t) (fun c' hc' => h c' (by simp [hc']))
      simp only [List.length_append, List.length_cons, List.append_assoc, List.cons_append] at ih ⊢
      exact ih
theorem idx_split {A B : List Int} {x : Int} (h : x ∉ A) : idx (A ++ x :: B) x = A.length := by
  refine idx_hit (by simp) (by simp [List.getD]) (fun i hi he => h ?_)
  simp only [List.getD] at he
  rw [List.getElem?_append_left hi, List.getElem?_eq_getElem hi] at he
  simp at he
  rw [← he]; exact List.getElem_mem _
theorem idx_no {A : List Int} {x : Int} (h : x ∉ A) : idx A x = -1 := by unfold idx; rw [if_neg h]
end Go.Proofs.Ytfgphleophghnaa
