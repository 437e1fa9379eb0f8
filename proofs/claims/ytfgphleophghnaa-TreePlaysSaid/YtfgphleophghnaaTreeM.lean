/- The plain law of a tree: nodes as a function from numbers, its well-formedness, the list below a node, adding a node. No program in sight. -/
import Derived.Test.YtfgphleophghnaaMap
set_option linter.unusedVariables false
set_option linter.unusedSimpArgs false
namespace Go.Proofs.Ytfgphleophghnaa

abbrev TM := Int → Option (Int × List Int)
def kidsOf (M : TM) (k : Int) : List Int := match M k with | some (_, l) => l | none => []
def parOf (M : TM) (k : Int) : Int := match M k with | some (p, _) => p | none => 0
theorem kidsOf_some {M : TM} {k p : Int} {l : List Int} (h : M k = some (p, l)) : kidsOf M k = l := by simp [kidsOf, h]
theorem parOf_some {M : TM} {k p : Int} {l : List Int} (h : M k = some (p, l)) : parOf M k = p := by simp [parOf, h]
theorem kidsOf_none {M : TM} {k : Int} (h : M k = none) : kidsOf M k = [] := by simp [kidsOf, h]

/-- A node, and all below it, down to a depth. -/
def belowL : Nat → TM → Int → List Int
  | 0, _, k => [k]
  | f + 1, M, k => k :: (kidsOf M k).flatMap (belowL f M)

theorem nodup_flat (f : Int → List Int) : ∀ (l : List Int), (∀ c ∈ l, (f c).Nodup) → l.Nodup → (∀ a ∈ l, ∀ b ∈ l, a ≠ b → ∀ x, x ∈ f a → x ∈ f b → False) → (l.flatMap f).Nodup
  | [], _, _, _ => by simp
  | a :: l, h1, h2, h3 => by
    rw [List.flatMap_cons, List.nodup_append]
    refine ⟨h1 a (by simp), nodup_flat f l (fun c hc => h1 c (by simp [hc])) (List.nodup_cons.1 h2).2 (fun b hb c hc => h3 b (by simp [hb]) c (by simp [hc])), ?_⟩
    intro x hx y hy hxy
    subst hxy
    obtain ⟨b, hb, hy⟩ := List.mem_flatMap.1 hy
    exact h3 a (by simp) b (by simp [hb]) (by rintro rfl; exact (List.nodup_cons.1 h2).1 hb) x hx hy
theorem flatMap_same {f g : Int → List Int} : ∀ (l : List Int), (∀ c ∈ l, f c = g c) → l.flatMap f = l.flatMap g
  | [], _ => rfl
  | a :: l, h => by rw [List.flatMap_cons, List.flatMap_cons, h a (by simp), flatMap_same l (fun c hc => h c (by simp [hc]))]

/-- What every tree has, one from which a node is taken too. -/
structure WK (M : TM) (d : Int → Nat) (next sz : Nat) : Prop where
  root : parOf M 0 = -1 ∧ (M 0).isSome
  d0 : d 0 = 0
  up : ∀ k, (M k).isSome → k ≠ 0 → (M (parOf M k)).isSome ∧ d k = d (parOf M k) + 1
  kidm : ∀ k, (M k).isSome → ∀ c, c ∈ kidsOf M k → c ≠ 0 ∧ (M c).isSome ∧ parOf M c = k
  nodup : ∀ k, (kidsOf M k).Nodup
  dle : ∀ k, (M k).isSome → d k ≤ 64
  range : ∀ k, (M k).isSome → 0 ≤ k ∧ k < next
  fin : ∃ l : List Int, l.Nodup ∧ l.length = sz ∧ ∀ k, k ∈ l ↔ (M k).isSome
structure WF (M : TM) (d : Int → Nat) (next sz : Nat) : Prop extends WK M d next sz where
  kidc : ∀ k, (M k).isSome → ∀ c, c ≠ 0 → (M c).isSome → parOf M c = k → c ∈ kidsOf M k
theorem WF.kid {M : TM} {d : Int → Nat} {next sz : Nat} (h : WF M d next sz) : ∀ k, (M k).isSome → ∀ c, c ∈ kidsOf M k ↔ c ≠ 0 ∧ (M c).isSome ∧ parOf M c = k :=
  fun k hk c => ⟨h.kidm k hk c, fun ⟨h1, h2, h3⟩ => h.kidc k hk c h1 h2 h3⟩
theorem WF.mk' {M : TM} {d : Int → Nat} {next sz : Nat} (h1 : parOf M 0 = -1 ∧ (M 0).isSome) (h2 : d 0 = 0) (h3 : ∀ k, (M k).isSome → k ≠ 0 → (M (parOf M k)).isSome ∧ d k = d (parOf M k) + 1)
    (h4 : ∀ k, (M k).isSome → ∀ c, c ∈ kidsOf M k ↔ c ≠ 0 ∧ (M c).isSome ∧ parOf M c = k) (h5 : ∀ k, (kidsOf M k).Nodup) (h6 : ∀ k, (M k).isSome → d k ≤ 64) (h7 : ∀ k, (M k).isSome → 0 ≤ k ∧ k < next)
    (h8 : ∃ l : List Int, l.Nodup ∧ l.length = sz ∧ ∀ k, k ∈ l ↔ (M k).isSome) : WF M d next sz :=
  ⟨⟨h1, h2, h3, fun k hk c => (h4 k hk c).1, h5, h6, h7, h8⟩, fun k hk c a b e => (h4 k hk c).2 ⟨a, b, e⟩⟩

def anc (M : TM) : Nat → Int → Int
  | 0, x => x
  | n + 1, x => anc M n (parOf M x)
theorem anc_succ (M : TM) : ∀ (n : Nat) (x : Int), anc M (n + 1) x = parOf M (anc M n x)
  | 0, _ => rfl
  | n + 1, x => by rw [anc, anc_succ M n]; rfl

theorem WK.kid_mem {M : TM} {d : Int → Nat} {next sz : Nat} (h : WK M d next sz) {k c : Int} (hk : (M k).isSome) (hc : c ∈ kidsOf M k) : c ≠ 0 ∧ (M c).isSome ∧ parOf M c = k ∧ d c = d k + 1 := by
  obtain ⟨h1, h2, h3⟩ := h.kidm k hk c hc
  have := (h.up c h2 h1).2
  rw [h3] at this
  exact ⟨h1, h2, h3, this⟩

theorem mem_below {M : TM} {d : Int → Nat} {next sz : Nat} (h : WK M d next sz) : ∀ (f : Nat) (k x : Int), (M k).isSome → x ∈ belowL f M k → (M x).isSome ∧ d k ≤ d x ∧ anc M (d x - d k) x = k
  | 0, k, x, hk, hx => by simp [belowL] at hx; subst hx; simp [hk, anc]
  | f + 1, k, x, hk, hx => by
    simp only [belowL, List.mem_cons, List.mem_flatMap] at hx
    rcases hx with rfl | ⟨c, hc, hx⟩
    · simp [hk, anc]
    · obtain ⟨c0, c1, c2, c3⟩ := h.kid_mem hk hc
      obtain ⟨x1, x2, x3⟩ := mem_below h f c x c1 hx
      refine ⟨x1, by omega, ?_⟩
      rw [show d x - d k = (d x - d c) + 1 by omega, anc_succ, x3, c2]

theorem nodup_below {M : TM} {d : Int → Nat} {next sz : Nat} (h : WK M d next sz) : ∀ (f : Nat) (k : Int), (M k).isSome → (belowL f M k).Nodup
  | 0, k, _ => by simp [belowL]
  | f + 1, k, hk => by
    simp only [belowL, List.nodup_cons]
    constructor
    · intro hx
      obtain ⟨c, hc, hx⟩ := List.mem_flatMap.1 hx
      obtain ⟨c0, c1, c2, c3⟩ := h.kid_mem hk hc
      have := (mem_below h f c k c1 hx).2.1
      omega
    · refine nodup_flat _ _ (fun c hc => nodup_below h f c (h.kid_mem hk hc).2.1) (h.nodup k) ?_
      intro a ha b hb hne x hxa hxb
      obtain ⟨a0, a1, a2, a3⟩ := h.kid_mem hk ha
      obtain ⟨b0, b1, b2, b3⟩ := h.kid_mem hk hb
      have e1 := (mem_below h f a x a1 hxa).2.2
      have e2 := (mem_below h f b x b1 hxb).2.2
      rw [a3] at e1; rw [b3] at e2
      exact hne (e1.symm.trans e2)

theorem nodup_sub_length : ∀ (l m : List Int), l.Nodup → (∀ x ∈ l, x ∈ m) → l.length ≤ m.length := by
  intro l
  induction l with
  | nil => intro m _ _; simp
  | cons a l ih =>
    intro m hn hs
    have ha := hs a (by simp)
    have := ih (m.erase a) hn.of_cons (fun x hx => by
      have hne : x ≠ a := by rintro rfl; exact (List.nodup_cons.1 hn).1 hx
      exact (List.mem_erase_of_ne hne).2 (hs x (by simp [hx])))
    rw [List.length_erase_of_mem ha] at this
    have hp : 0 < m.length := List.length_pos_of_mem ha
    simp; omega

theorem length_below {M : TM} {d : Int → Nat} {next sz : Nat} (h : WK M d next sz) (f : Nat) (k : Int) (hk : (M k).isSome) : (belowL f M k).length ≤ sz := by
  obtain ⟨l, h1, h2, h3⟩ := h.fin
  rw [← h2]
  exact nodup_sub_length _ _ (nodup_below h f k hk) (fun x hx => (h3 x).2 (mem_below h f k x hk hx).1)
theorem length_kids {M : TM} {d : Int → Nat} {next sz : Nat} (h : WK M d next sz) (k : Int) : (kidsOf M k).length ≤ sz := by
  obtain ⟨l, h1, h2, h3⟩ := h.fin
  rw [← h2]
  by_cases hk : (M k).isSome
  · exact nodup_sub_length _ _ (h.nodup k) (fun x hx => (h3 x).2 (h.kid_mem hk hx).2.1)
  · rw [kidsOf_none (by simpa using hk)]; simp

/-- The list below a node is the same from a depth on. -/
theorem below_enough {M : TM} {d : Int → Nat} {next sz : Nat} (h : WK M d next sz) : ∀ (f g : Nat) (k : Int), (M k).isSome → 65 ≤ d k + f → 65 ≤ d k + g → belowL f M k = belowL g M k
  | 0, _, k, hk, hf, _ => by have := h.dle k hk; omega
  | _ + 1, 0, k, hk, _, hg => by have := h.dle k hk; omega
  | f + 1, g + 1, k, hk, hf, hg => by
    simp only [belowL]
    congr 1
    refine flatMap_same _ fun c hc => ?_
    obtain ⟨c0, c1, c2, c3⟩ := h.kid_mem hk hc
    exact below_enough h f g c c1 (by omega) (by omega)
/-- All that lies below: the kids' lists, one after the other. -/
theorem below_step {M : TM} {d : Int → Nat} {next sz : Nat} (h : WK M d next sz) (f : Nat) (k : Int) (hk : (M k).isSome) (hf : 65 ≤ d k + f) : belowL f M k = k :: (kidsOf M k).flatMap (belowL f M) := by
  rw [below_enough h f (f + 1) k hk hf (by omega)]
  rfl
theorem below_all {M : TM} {d : Int → Nat} {next sz : Nat} (h : WF M d next sz) : ∀ (n : Nat) (x : Int), d x = n → (M x).isSome → x ∈ belowL 65 M 0
  | 0, x, hd, hx => by
    by_cases h0 : x = 0
    · subst h0; unfold belowL; exact List.mem_cons_self
    · have := (h.up x hx h0).2; omega
  | n + 1, x, hd, hx => by
    have h0 : x ≠ 0 := by rintro rfl; have := h.d0; omega
    obtain ⟨hp, hdp⟩ := h.up x hx h0
    have := below_all h n (parOf M x) (by omega) hp
    have hin : x ∈ kidsOf M (parOf M x) := (h.kid _ hp x).2 ⟨h0, hx, rfl⟩
    have key : ∀ (f : Nat) (k y : Int), (M k).isSome → 65 ≤ d k + f → y ∈ belowL f M k → ∀ z ∈ kidsOf M y, z ∈ belowL f M k := by
      intro f
      induction f with
      | zero => intro k y hk hf _ _ _; have := h.dle k hk; omega
      | succ f ih =>
        intro k y hk hf hy z hz
        simp only [belowL, List.mem_cons, List.mem_flatMap] at hy ⊢
        rcases hy with rfl | ⟨c, hc, hy⟩
        · refine Or.inr ⟨z, hz, ?_⟩
          cases f <;> simp [belowL]
        · obtain ⟨c0, c1, c2, c3⟩ := h.kid_mem hk hc
          exact Or.inr ⟨c, hc, ih c y c1 (by omega) hy z hz⟩
    exact key 65 0 _ h.root.2 (by omega) this x hin

/-! ### a node added -/
def putM (M : TM) (n p : Int) (at_ : Nat) : TM := fun i =>
  if i = n then some (p, kidsOf M n) else if i = p then some (parOf M p, (kidsOf M p).take at_ ++ n :: (kidsOf M p).drop at_) else M i

theorem mem_insert (l : List Int) (i : Nat) (x y : Int) : y ∈ l.take i ++ x :: l.drop i ↔ y = x ∨ y ∈ l := by
  constructor
  · intro h
    simp only [List.mem_append, List.mem_cons] at h
    rcases h with h | h | h
    · exact Or.inr (List.mem_of_mem_take h)
    · exact Or.inl h
    · exact Or.inr (List.mem_of_mem_drop h)
  · intro h
    rcases h with rfl | h
    · simp
    · rw [← List.take_append_drop i l] at h
      simp only [List.mem_append, List.mem_cons] at h ⊢
      rcases h with h | h
      · exact Or.inl h
      · exact Or.inr (Or.inr h)
theorem nodup_insert (l : List Int) (i : Nat) (x : Int) (h : l.Nodup) (hx : x ∉ l) : (l.take i ++ x :: l.drop i).Nodup := by
  rw [← List.take_append_drop i l] at h hx
  rw [List.nodup_append] at h
  obtain ⟨h1, h2, h3⟩ := h
  simp only [List.mem_append, not_or] at hx
  rw [List.nodup_append]
  refine ⟨h1, List.nodup_cons.2 ⟨hx.2, h2⟩, ?_⟩
  intro a ha b hb
  rcases List.mem_cons.1 hb with rfl | hb
  · rintro rfl; exact hx.1 ha
  · exact h3 a ha b hb

theorem WF.fresh {M : TM} {d : Int → Nat} {next sz : Nat} (h : WF M d next sz) : M next = none := by
  cases hm : M next with
  | none => rfl
  | some v => have := (h.range next (by simp [hm])).2; omega
theorem WF.next_pos {M : TM} {d : Int → Nat} {next sz : Nat} (h : WF M d next sz) : 0 < next := by
  have := (h.range 0 h.root.2).2; omega

theorem WF.add {M : TM} {d : Int → Nat} {next sz : Nat} (h : WF M d next sz) {p : Int} (hp : (M p).isSome) (hd : d p < 64) (a : Nat) :
    WF (putM M next p a) (fun i => if i = next then d p + 1 else d i) (next + 1) (sz + 1) := by
  have hf := h.fresh
  have hn0 := h.next_pos
  have hpn : p ≠ next := by rintro rfl; rw [hf] at hp; cases hp
  have hkn : kidsOf M next = [] := kidsOf_none hf
  have some_iff : ∀ i, (putM M next p a i).isSome ↔ i = next ∨ (M i).isSome := by
    intro i
    unfold putM
    by_cases h1 : i = next
    · simp [h1]
    · by_cases h2 : i = p
      · subst h2; simp [h1, hp]
      · simp [h1, h2]
  have par_eq : ∀ i, parOf (putM M next p a) i = if i = next then p else parOf M i := by
    intro i
    unfold parOf putM
    by_cases h1 : i = next
    · simp [h1]
    · by_cases h2 : i = p
      · subst h2; simp only [if_neg h1, if_pos]; rfl
      · simp [h1, h2]
  have kids_eq : ∀ i, kidsOf (putM M next p a) i = if i = p then (kidsOf M p).take a ++ (next : Int) :: (kidsOf M p).drop a else kidsOf M i := by
    intro i
    by_cases h1 : i = next
    · subst h1; rw [if_neg (Ne.symm hpn), kidsOf, putM, if_pos rfl]
    · by_cases h2 : i = p
      · subst h2; simp [kidsOf, putM, h1]
      · simp [kidsOf, putM, h1, h2]
  have hnk : ∀ k, (next : Int) ∉ kidsOf M k := by
    intro k hk
    by_cases hm : (M k).isSome
    · have := (h.kid_mem hm hk).2.1; rw [hf] at this; cases this
    · rw [kidsOf_none (by simpa using hm)] at hk; cases hk
  refine WF.mk' ?_ ?_ ?_ ?_ ?_ ?_ ?_ ?_
  · rw [par_eq, if_neg (by omega)]; exact ⟨h.root.1, (some_iff 0).2 (Or.inr h.root.2)⟩
  · simp [show ¬ (0 : Int) = next by omega, h.d0]
  · intro k hk hk0
    rw [par_eq]
    by_cases h1 : k = next
    · subst h1; simp [hpn, some_iff, hp]
    · have hkM : (M k).isSome := by exact ((some_iff k).1 hk).resolve_left h1
      obtain ⟨u1, u2⟩ := h.up k hkM hk0
      have : parOf M k ≠ next := by intro e; rw [e, hf] at u1; cases u1
      simp only [if_neg h1, if_neg this]
      exact ⟨(some_iff _).2 (Or.inr u1), u2⟩
  · intro k hk c
    rw [kids_eq, par_eq, some_iff]
    by_cases hkn : k = next
    · subst hkn
      rw [if_neg (Ne.symm hpn), kidsOf_none hf]
      constructor
      · intro hc; cases hc
      · rintro ⟨c0, c1, c2⟩
        by_cases hcn : c = next
        · rw [if_pos hcn] at c2; exact absurd c2 hpn
        · rw [if_neg hcn] at c2
          rcases c1 with c1 | c1
          · exact absurd c1 hcn
          · have := (h.up c c1 c0).1; rw [c2, hf] at this; cases this
    · have hkM : (M k).isSome := by exact ((some_iff k).1 hk).resolve_left hkn
      have hk' := h.kid k hkM c
      by_cases hkp : k = p
      · subst hkp
        rw [if_pos rfl, mem_insert]
        by_cases hcn : c = next
        · subst hcn; simp; omega
        · simp only [if_neg hcn, hcn, false_or]; exact hk'
      · rw [if_neg hkp]
        by_cases hcn : c = next
        · subst hcn; rw [if_pos rfl]
          exact ⟨fun hc => absurd hc (hnk k), fun hc => absurd hc.2.2.symm hkp⟩
        · simp only [if_neg hcn, hcn, false_or]; exact hk'
  · intro k
    rw [kids_eq]
    by_cases hkp : k = p
    · rw [if_pos hkp]; exact nodup_insert _ _ _ (h.nodup p) (hnk p)
    · rw [if_neg hkp]; exact h.nodup k
  · intro k hk
    by_cases h1 : k = next
    · simp [h1]; omega
    · simp only [if_neg h1]
      rcases (some_iff k).1 hk with h2 | h2
      · exact absurd h2 h1
      · exact h.dle k h2
  · intro k hk
    rcases (some_iff k).1 hk with h2 | h2
    · subst h2; omega
    · have := h.range k h2; omega
  · obtain ⟨l, l1, l2, l3⟩ := h.fin
    refine ⟨(next : Int) :: l, List.nodup_cons.2 ⟨fun hx => ?_, l1⟩, by simp [l2], fun k => ?_⟩
    · have := (l3 next).1 hx; rw [hf] at this; cases this
    · rw [some_iff, List.mem_cons, l3]

/-- The tree of the root alone. -/
def newM : TM := fun i => if i = 0 then some (-1, []) else none
theorem WF.new : WF newM (fun _ => 0) 1 1 := by
  have hs : ∀ i, (newM i).isSome ↔ i = 0 := by intro i; unfold newM; by_cases h : i = 0 <;> simp [h]
  refine WF.mk' (by simp [parOf, newM]) rfl ?_ ?_ ?_ ?_ ?_ ⟨[0], by simp, rfl, fun k => by rw [hs]; simp⟩
  · intro k hk h0; exact absurd ((hs k).1 hk) h0
  · intro k hk c
    rw [(hs k).1 hk, hs]
    constructor
    · intro h; simp [kidsOf, newM] at h
    · rintro ⟨h0, h1, _⟩; exact absurd h1 h0
  · intro k; unfold kidsOf newM; by_cases h : k = 0 <;> simp [h]
  · intro k _; omega
  · intro k hk; have := (hs k).1 hk; omega
end Go.Proofs.Ytfgphleophghnaa
