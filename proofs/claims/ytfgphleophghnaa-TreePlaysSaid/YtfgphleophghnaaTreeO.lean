/- The plain law that joins the tree with the document's rows, part 2: each node's part of the whole list, and what is told of it. No program in sight. -/
import Derived.Test.YtfgphleophghnaaTreeN
set_option linter.unusedVariables false
set_option linter.unusedSimpArgs false
namespace Go.Proofs.Ytfgphleophghnaa

theorem below_cons {M : TM} {d : Int → Nat} {next sz : Nat} (h : WK M d next sz) {k : Int} (hk : (M k).isSome) : belowL 65 M k = k :: (kidsOf M k).flatMap (belowL 65 M) := below_step h 65 k hk (by omega)
theorem below_self {M : TM} {f : Nat} {k : Int} : k ∈ belowL f M k := by cases f <;> simp [belowL]
theorem below_tail {M : TM} {d : Int → Nat} {next sz : Nat} (h : WK M d next sz) {k y : Int} (hk : (M k).isSome) (hy : y ∈ (kidsOf M k).flatMap (belowL 65 M)) : (M y).isSome ∧ d k < d y := by
  obtain ⟨c, hc, hy⟩ := List.mem_flatMap.1 hy
  obtain ⟨c0, c1, c2, c3⟩ := h.kid_mem hk hc
  obtain ⟨m1, m2, _⟩ := mem_below h 65 c y c1 hy
  exact ⟨m1, by omega⟩
/-- Two kids have nothing below them in common. -/
theorem below_apart {M : TM} {d : Int → Nat} {next sz : Nat} (h : WK M d next sz) {p a b y : Int} (hp : (M p).isSome) (ha : a ∈ kidsOf M p) (hb : b ∈ kidsOf M p) (hab : a ≠ b) (hya : y ∈ belowL 65 M a) (hyb : y ∈ belowL 65 M b) : False := by
  obtain ⟨a0, a1, a2, a3⟩ := h.kid_mem hp ha
  obtain ⟨b0, b1, b2, b3⟩ := h.kid_mem hp hb
  have e1 := (mem_below h 65 a y a1 hya).2.2
  have e2 := (mem_below h 65 b y b1 hyb).2.2
  rw [a3] at e1; rw [b3] at e2
  exact hab (e1.symm.trans e2)
theorem below_agree {M M' : TM} {d : Int → Nat} {next sz : Nat} (h : WK M d next sz) : ∀ (f : Nat) (k : Int), (M k).isSome → (∀ y ∈ belowL f M k, kidsOf M' y = kidsOf M y) → belowL f M' k = belowL f M k
  | 0, _, _, _ => rfl
  | f + 1, k, hk, hM => by
    simp only [belowL]
    rw [hM k (by simp [belowL])]
    congr 1
    refine flatMap_same _ fun c hc => ?_
    exact below_agree h f c (h.kid_mem hk hc).2.1 (fun y hy => hM y (by simp only [belowL, List.mem_cons, List.mem_flatMap]; exact Or.inr ⟨c, hc, hy⟩))
theorem below_sub {M : TM} {d : Int → Nat} {next sz : Nat} (h : WK M d next sz) {k c y : Int} (hk : (M k).isSome) (hc : c ∈ kidsOf M k) (hy : y ∈ belowL 65 M c) : y ∈ belowL 65 M k := by
  rw [below_cons h hk]; exact List.mem_cons_of_mem _ (List.mem_flatMap.2 ⟨c, hc, hy⟩)

/-- A node's part of the whole list: what lies ahead of it, what lies behind it; and the same in a tree that differs in that part alone. -/
structure Dec (M : TM) (d : Int → Nat) (x : Int) (pre post : List Int) : Prop where
  eq : belowL 65 M 0 = pre ++ (belowL 65 M x ++ post)
  next : ∀ y l, post = y :: l → d y ≤ d x
  up : ∀ M' : TM, (∀ y, (M y).isSome → y ∉ belowL 65 M x → kidsOf M' y = kidsOf M y) → belowL 65 M' 0 = pre ++ (belowL (65 - d x) M' x ++ post)

theorem Dec.root {M : TM} {d : Int → Nat} {next sz : Nat} (h : WK M d next sz) : Dec M d 0 [] [] :=
  ⟨by simp, (by intro y l h1; cases h1), fun M' _ => (by rw [h.d0]; simp)⟩
theorem Dec.kid {M : TM} {d : Int → Nat} {next sz : Nat} (h : WK M d next sz) {p x : Int} {pre post l1 l2 : List Int} (hp : (M p).isSome) (hD : Dec M d p pre post) (hk : kidsOf M p = l1 ++ x :: l2) :
    Dec M d x (pre ++ p :: l1.flatMap (belowL 65 M)) (l2.flatMap (belowL 65 M) ++ post) := by
  have hx : x ∈ kidsOf M p := by rw [hk]; simp
  obtain ⟨x0, x1, x2, x3⟩ := h.kid_mem hp hx
  have hb := below_cons h hp
  rw [hk, List.flatMap_append, List.flatMap_cons] at hb
  have hnd := h.nodup p
  rw [hk, List.nodup_append, List.nodup_cons] at hnd
  have hd64 := h.dle x x1
  refine ⟨?_, ?_, ?_⟩
  · rw [hD.eq, hb]; simp
  · intro y l hy
    cases l2 with
    | nil => have := hD.next y l (by simpa using hy); omega
    | cons c l2 =>
      have hc : c ∈ kidsOf M p := by rw [hk]; simp
      obtain ⟨c0, c1, c2, c3⟩ := h.kid_mem hp hc
      rw [List.flatMap_cons, below_cons h c1] at hy
      simp at hy
      rw [← hy.1]; omega
  · intro M' hM
    have hpx : p ∉ belowL 65 M x := fun hpx => by have := (mem_below h 65 x p x1 hpx).2.1; omega
    rw [hD.up M' (fun y hy hn => hM y hy (fun hyx => hn (below_sub h hp hx hyx)))]
    have hf : 65 - d p = (65 - d x) + 1 := by omega
    rw [hf, belowL, hM p hp hpx, hk, List.flatMap_append, List.flatMap_cons]
    have same : ∀ c ∈ kidsOf M p, c ≠ x → belowL (65 - d x) M' c = belowL 65 M c := by
      intro c hc hcx
      obtain ⟨c0, c1, c2, c3⟩ := h.kid_mem hp hc
      have e := below_enough h (65 - d x) 65 c c1 (by omega) (by omega)
      rw [← e]
      refine below_agree h _ c c1 (fun y hy => ?_)
      rw [e] at hy
      exact hM y (mem_below h 65 c y c1 hy).1 (fun hyx => below_apart h hp hc hx hcx hy hyx)
    rw [flatMap_same l1 (fun c hc => same c (by rw [hk]; simp [hc]) (fun e => hnd.2.2 c hc x (by simp) e)), flatMap_same l2 (fun c hc => same c (by rw [hk]; simp [hc]) (fun e => hnd.2.1.1 (e ▸ hc)))]
    simp
theorem Dec.all {M : TM} {d : Int → Nat} {next sz : Nat} (h : WF M d next sz) : ∀ (n : Nat) (x : Int), d x = n → (M x).isSome → ∃ pre post, Dec M d x pre post
  | 0, x, hd, hx => by
    by_cases h0 : x = 0
    · subst h0; exact ⟨[], [], Dec.root h.toWK⟩
    · have := (h.up x hx h0).2; omega
  | n + 1, x, hd, hx => by
    have h0 : x ≠ 0 := by rintro rfl; have := h.d0; omega
    obtain ⟨hp, hdp⟩ := h.up x hx h0
    obtain ⟨pre, post, hD⟩ := Dec.all h n (parOf M x) (by omega) hp
    obtain ⟨l1, l2, hk⟩ := List.append_of_mem (h.kidc _ hp x h0 hx rfl)
    exact ⟨_, _, hD.kid h.toWK hp hk⟩
/-- The nodes are those of the list. -/
theorem in_below {M : TM} {d : Int → Nat} {next sz : Nat} (h : WF M d next sz) (x : Int) : x ∈ belowL 65 M 0 ↔ (M x).isSome :=
  ⟨fun hx => (mem_below h.toWK 65 0 x h.root.2 hx).1, fun hx => below_all h _ x rfl hx⟩
theorem length_all {M : TM} {d : Int → Nat} {next sz : Nat} (h : WF M d next sz) : (belowL 65 M 0).length = sz := by
  obtain ⟨l, h1, h2, h3⟩ := h.fin
  refine Nat.le_antisymm (length_below h.toWK 65 0 h.root.2) ?_
  rw [← h2]
  exact nodup_sub_length _ _ h1 (fun x hx => (in_below h x).2 ((h3 x).1 hx))

/-- The document's rows of a tree. -/
def rowsOf (M : TM) (d : Int → Nat) : RL := RD d (belowL 65 M 0)

section
variable {M : TM} {d : Int → Nat} {next sz : Nat} {x : Int} {pre post : List Int}
theorem Dec.notin (h : WK M d next sz) (hD : Dec M d x pre post) (hx : (M x).isSome) : x ∉ pre := by
  have := nodup_below h 65 0 h.root.2
  rw [hD.eq, List.nodup_append] at this
  intro hx1
  exact this.2.2 x hx1 x (List.mem_append_left _ below_self) rfl
theorem Dec.rows (h : WK M d next sz) (hD : Dec M d x pre post) (hx : (M x).isSome) : rowsOf M d = RD d pre ++ (x, (d x : Int)) :: (RD d ((kidsOf M x).flatMap (belowL 65 M)) ++ RD d post) := by
  rw [rowsOf, hD.eq, below_cons h hx, RD_append, RD_append, RD_cons, List.cons_append]
theorem Dec.idx (h : WK M d next sz) (hD : Dec M d x pre post) (hx : (M x).isSome) : idx ((rowsOf M d).map (·.1)) x = pre.length := by
  rw [rowsOf, RD_fst, hD.eq, below_cons h hx]
  exact idx_split (hD.notin h hx)
theorem Dec.get (h : WK M d next sz) (hD : Dec M d x pre post) (hx : (M x).isSome) : (rowsOf M d).getD pre.length (0, 0) = (x, (d x : Int)) := by
  rw [hD.rows h hx, ← RD_length d pre]; simp [List.getD]
theorem Dec.end_ (h : WK M d next sz) (hD : Dec M d x pre post) (hx : (M x).isSome) : endR (rowsOf M d) pre.length = pre.length + 1 + ((kidsOf M x).flatMap (belowL 65 M)).length := by
  rw [hD.rows h hx]
  have := endR_split (RD d pre) (RD d ((kidsOf M x).flatMap (belowL 65 M))) (RD d post) (x, (d x : Int)) (fun s hs => by
    obtain ⟨h1, h2⟩ := RD_mem hs
    have := (below_tail h hx h1).2
    rw [h2]; show (d x : Int) < _; omega) (fun s L hsL => by
    cases hq : post with
    | nil => rw [hq] at hsL; cases hsL
    | cons y m =>
      rw [hq, RD_cons] at hsL; cases hsL
      have := hD.next y m hq
      show ¬ (d x : Int) < (d y : Int); omega)
  rw [RD_length, RD_length] at this
  exact this
theorem kid_shape (h : WK M d next sz) (hx : (M x).isSome) : ∀ c ∈ kidsOf M x, ∃ t, belowL 65 M c = c :: t ∧ d c = d x + 1 ∧ ∀ y ∈ t, d x + 1 < d y := by
  intro c hc
  obtain ⟨c0, c1, c2, c3⟩ := h.kid_mem hx hc
  exact ⟨_, below_cons h c1, c3, fun y hy => by have := (below_tail h c1 hy).2; omega⟩
theorem Dec.kids (h : WK M d next sz) (hD : Dec M d x pre post) (hx : (M x).isSome) : kidsR (rowsOf M d) pre.length = kpos (belowL 65 M) (pre.length + 1) (kidsOf M x) := by
  have he := hD.end_ h hx
  unfold kidsR
  rw [he]
  have := kidsGo_split d (belowL 65 M) (d x + 1) post (fun y l hy => by have := hD.next y l hy; omega) (kidsOf M x) (pre ++ [x]) (rowsOf M d).length (kid_shape h hx) (by rw [hD.rows h hx]; simp [RD_length]; omega)
  rw [hD.rows h hx] at this ⊢
  simp only [List.length_append, List.length_cons, List.length_nil, RD_append, RD_cons, List.append_assoc, List.cons_append, List.nil_append, RD_length, Nat.zero_add] at this ⊢
  exact this
theorem Dec.names (h : WK M d next sz) (hD : Dec M d x pre post) (hx : (M x).isSome) : (kidsR (rowsOf M d) pre.length).map (fun j => ((rowsOf M d).getD j.toNat (0, 0)).1) = kidsOf M x := by
  rw [hD.kids h hx]
  have := kpos_names d (belowL 65 M) post (kidsOf M x) (pre ++ [x]) (fun c hc => by obtain ⟨t, ht, _⟩ := kid_shape h hx c hc; exact ⟨t, ht⟩)
  rw [hD.rows h hx]
  simp only [List.length_append, List.length_cons, List.length_nil, RD_append, RD_cons, List.append_assoc, List.cons_append, List.nil_append, Nat.zero_add] at this ⊢
  exact this
theorem Dec.place (h : WK M d next sz) (hD : Dec M d x pre post) (hx : (M x).isSome) {q : Nat} (hq : q ≤ (kidsOf M x).length) : placeR (rowsOf M d) pre.length q = ((pre.length + 1 + (((kidsOf M x).take q).flatMap (belowL 65 M)).length : Nat) : Int) := by
  unfold placeR
  rw [hD.kids h hx, kpos_len]
  by_cases hq1 : q < (kidsOf M x).length
  · rw [if_pos hq1, kpos_get _ _ _ _ hq1]
  · rw [if_neg hq1, hD.end_ h hx, List.take_of_length_le (by omega)]
theorem Dec.parent (h : WF M d next sz) (hx : (M x).isSome) (hx0 : x ≠ 0) : ∃ pre post, Dec M d x pre post ∧ ∃ j : Nat, parR (rowsOf M d) pre.length = j ∧ j < pre.length ∧ ((rowsOf M d).getD j (0, 0)).1 = parOf M x := by
  obtain ⟨hp, hdp⟩ := h.up x hx hx0
  obtain ⟨pre, post, hD⟩ := Dec.all h _ (parOf M x) rfl hp
  obtain ⟨l1, l2, hk⟩ := List.append_of_mem (h.kidc _ hp x hx0 hx rfl)
  have hD2 := hD.kid h.toWK hp hk
  refine ⟨_, _, hD2, pre.length, ?_, by simp, by rw [hD.get h.toWK hp]⟩
  rw [hD2.rows h.toWK hx]
  have := parR_split (RD d pre) (RD d (l1.flatMap (belowL 65 M))) (RD d ((kidsOf M x).flatMap (belowL 65 M)) ++ RD d (l2.flatMap (belowL 65 M) ++ post)) (parOf M x, (d (parOf M x) : Int)) (x, (d x : Int)) (by show (d (parOf M x) : Int) < d x; omega) (fun t ht => by
    obtain ⟨h1, h2⟩ := RD_mem ht
    have h3 : t.1 ∈ (kidsOf M (parOf M x)).flatMap (belowL 65 M) := by rw [hk, List.flatMap_append]; exact List.mem_append_left _ h1
    have := (below_tail h.toWK hp h3).2
    rw [h2]; show (d x : Int) ≤ _; omega)
  rw [RD_length, RD_length] at this
  rw [RD_append, RD_cons, List.append_assoc, List.cons_append]
  simp only [List.length_append, List.length_cons]
  rw [show pre.length + ((l1.flatMap (belowL 65 M)).length + 1) = pre.length + 1 + (l1.flatMap (belowL 65 M)).length by omega]
  exact this
theorem Dec.uniq (h : WK M d next sz) (hx : (M x).isSome) {pre' post' : List Int} (hD : Dec M d x pre post) (hD' : Dec M d x pre' post') : pre.length = pre'.length := by
  have h1 := hD.idx h hx
  have h2 := hD'.idx h hx
  omega
end
end Go.Proofs.Ytfgphleophghnaa
