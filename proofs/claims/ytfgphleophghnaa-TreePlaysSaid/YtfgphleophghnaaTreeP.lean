/- The plain law that joins the tree with the document's rows, part 3: a node added; a node and all below it dropped. No program in sight. -/
import Derived.Test.YtfgphleophghnaaTreeO
import Derived.Test.YtfgphleophghnaaRefD
import Derived.Test.YtfgphleophghnaaRefG
set_option linter.unusedVariables false
set_option linter.unusedSimpArgs false
namespace Go.Proofs.Ytfgphleophghnaa

section
variable {M : TM} {d : Int → Nat} {next sz : Nat} {n : Int}
theorem below_ge (h : WK M d next sz) {k y : Int} (hk : (M k).isSome) (hy : y ∈ belowL 65 M k) : (M y).isSome ∧ d k ≤ d y := ⟨(mem_below h 65 k y hk hy).1, (mem_below h 65 k y hk hy).2.1⟩
theorem rowsOf_length (h : WF M d next sz) : (rowsOf M d).length = sz := by rw [rowsOf, RD_length, length_all h]
theorem rows_idx (h : WF M d next sz) (x : Int) : idx ((rowsOf M d).map (·.1)) x < 0 ↔ M x = none := by
  cases hx : M x with
  | some v =>
    obtain ⟨pre, post, hD⟩ := Dec.all h _ x rfl (by simp [hx])
    rw [hD.idx h.toWK (by simp [hx])]
    simp
  | none =>
    rw [rowsOf, RD_fst, idx_no (fun hm => by have := (in_below h x).1 hm; rw [hx] at this; cases this)]
    simp
theorem Dec.at_ (h : WF M d next sz) {x : Int} {pre post : List Int} (hD : Dec M d x pre post) (hx : (M x).isSome) : at_ (rowsOf M d) x = pre.length := by
  unfold Go.Proofs.Ytfgphleophghnaa.at_
  rw [hD.idx h.toWK hx]; simp
theorem Dec.dep_ (h : WF M d next sz) {x : Int} {pre post : List Int} (hD : Dec M d x pre post) (hx : (M x).isSome) : dep (rowsOf M d) pre.length = d x := by
  unfold dep; rw [hD.get h.toWK hx]
theorem Dec.kidsLen (h : WF M d next sz) {x : Int} {pre post : List Int} (hD : Dec M d x pre post) (hx : (M x).isSome) : (kidsR (rowsOf M d) pre.length).length = (kidsOf M x).length := by
  rw [hD.kids h.toWK hx, kpos_len]
/-- Add answers the same. -/
theorem add_err (h : WF M d next sz) (p a : Int) : addRE (rowsOf M d) p a = addE M d sz p a := by
  unfold addRE addE
  rw [rowsOf_length h]
  by_cases hp : M p = none
  · rw [if_pos ((rows_idx h p).2 hp), if_pos hp]
  · rw [if_neg (fun hi => hp ((rows_idx h p).1 hi)), if_neg hp]
    have hs : (M p).isSome := by cases hm : M p with | none => exact absurd hm hp | some v => rfl
    obtain ⟨pre, post, hD⟩ := Dec.all h _ p rfl hs
    rw [hD.at_ h hs, hD.kidsLen h hs, hD.dep_ h hs]
    simp only [show ((64 : Int) ≤ (d p : Int)) = (64 ≤ d p) from by simp; omega]

theorem putM_kids {n p : Int} {a : Nat} (hnp : n ≠ p) (i : Int) : kidsOf (putM M n p a) i = if i = p then (kidsOf M p).take a ++ n :: (kidsOf M p).drop a else kidsOf M i := by
  by_cases h1 : i = n
  · subst h1; rw [if_neg hnp, kidsOf, putM, if_pos rfl]
  · by_cases h2 : i = p
    · subst h2; simp [kidsOf, putM, h1]
    · simp [kidsOf, putM, h1, h2]

/-- A node put below p: the list of all nodes. -/
theorem put_list (h : WK M d next sz) {p n : Int} {pre post : List Int} (hp : (M p).isSome) (hD : Dec M d p pre post) (hd : d p < 64) {a : Nat} (M' : TM)
    (hM : ∀ y, (M y).isSome → kidsOf M' y = if y = p then (kidsOf M p).take a ++ n :: (kidsOf M p).drop a else kidsOf M y) :
    belowL 65 M' 0 = pre ++ p :: ((kidsOf M p).take a).flatMap (belowL 65 M) ++ belowL (64 - d p) M' n ++ (((kidsOf M p).drop a).flatMap (belowL 65 M) ++ post) := by
  rw [hD.up M' (fun y hy hn => by rw [hM y hy, if_neg (show ¬ y = p from by rintro rfl; exact hn below_self)])]
  have hf : 65 - d p = (64 - d p) + 1 := by omega
  rw [hf, belowL, hM p hp, if_pos rfl, List.flatMap_append, List.flatMap_cons]
  have same : ∀ c ∈ kidsOf M p, belowL (64 - d p) M' c = belowL 65 M c := by
    intro c hc
    obtain ⟨c0, c1, c2, c3⟩ := h.kid_mem hp hc
    have e := below_enough h (64 - d p) 65 c c1 (by omega) (by omega)
    rw [← e]
    refine below_agree h _ c c1 (fun y hy => ?_)
    rw [e] at hy
    obtain ⟨y1, y2⟩ := below_ge h c1 hy
    rw [hM y y1, if_neg (by rintro rfl; omega)]
  rw [flatMap_same _ (fun c hc => same c (List.mem_of_mem_take hc)), flatMap_same _ (fun c hc => same c (List.mem_of_mem_drop hc))]
  simp

theorem leaf_below {M' : TM} {n : Int} (hk : kidsOf M' n = []) : ∀ f, belowL f M' n = [n]
  | 0 => rfl
  | f + 1 => by simp [belowL, hk]

/-- Rows parted at a place among p's kids. -/
theorem cut_rows (h : WF M d next sz) {p : Int} {pre post : List Int} (hp : (M p).isSome) (hD : Dec M d p pre post) (a : Nat) :
    rowsOf M d = RD d (pre ++ p :: ((kidsOf M p).take a).flatMap (belowL 65 M)) ++ RD d (((kidsOf M p).drop a).flatMap (belowL 65 M) ++ post) := by
  rw [← RD_append, rowsOf, hD.eq, below_cons h.toWK hp]
  congr 1
  have : (kidsOf M p).flatMap (belowL 65 M) = ((kidsOf M p).take a).flatMap (belowL 65 M) ++ ((kidsOf M p).drop a).flatMap (belowL 65 M) := by rw [← List.flatMap_append, List.take_append_drop]
  rw [this]; simp
theorem place_cut (h : WF M d next sz) {p : Int} {pre post : List Int} (hp : (M p).isSome) (hD : Dec M d p pre post) {a : Nat} (ha : a ≤ (kidsOf M p).length) :
    (placeR (rowsOf M d) pre.length a).toNat = (RD d (pre ++ p :: ((kidsOf M p).take a).flatMap (belowL 65 M))).length := by
  rw [hD.place h.toWK hp ha, RD_length, List.length_append, List.length_cons]; omega

/-- Rows with a node added. -/
theorem add_rows (h : WF M d next sz) {p : Int} (hp : (M p).isSome) (hd : d p < 64) {a : Nat} (ha : a ≤ (kidsOf M p).length) :
    rowsOf (putM M next p a) (fun i => if i = next then d p + 1 else d i) = addR (rowsOf M d) (at_ (rowsOf M d) p) a next ∧ 0 ≤ placeR (rowsOf M d) (at_ (rowsOf M d) p) a ∧ placeR (rowsOf M d) (at_ (rowsOf M d) p) a ≤ sz := by
  obtain ⟨pre, post, hD⟩ := Dec.all h _ p rfl hp
  have hfr := h.fresh
  have hpn : (next : Int) ≠ p := by rintro e; rw [e] at hfr; rw [hfr] at hp; cases hp
  rw [hD.at_ h hp]
  have hl := place_cut h hp hD ha
  have hlen := rowsOf_length h
  refine ⟨?_, by rw [hD.place h.toWK hp ha]; omega, ?_⟩
  · unfold addR
    rw [hl, hD.dep_ h hp]
    have hc := cut_rows h hp hD a
    rw [hc, List.take_left' rfl, List.drop_left' rfl]
    have hL := put_list h.toWK (n := next) hp hD hd (a := a) (putM M next p a) (fun y hy => putM_kids hpn y)
    rw [leaf_below (M' := putM M next p a) (n := (next : Int)) (by rw [putM_kids hpn, if_neg hpn, kidsOf_none hfr])] at hL
    rw [rowsOf, hL, RD_append, RD_append]
    have hne : ∀ y, y ∈ belowL 65 M 0 → (if y = (next : Int) then d p + 1 else d y) = d y := fun y hy => by
      rw [if_neg (by rintro rfl; have := (in_below h next).1 hy; rw [hfr] at this; cases this)]
    have hin : ∀ y, y ∈ pre ++ p :: ((kidsOf M p).take a).flatMap (belowL 65 M) ∨ y ∈ ((kidsOf M p).drop a).flatMap (belowL 65 M) ++ post → y ∈ belowL 65 M 0 := by
      intro y hy
      have hc' := congrArg (List.map (·.1)) hc
      rw [List.map_append, rowsOf, RD_fst, RD_fst, RD_fst] at hc'
      rw [hc']; exact List.mem_append.2 hy
    rw [RD_congr (d := d) (fun y hy => hne y (hin y (Or.inl hy))), RD_congr (d := d) (fun y hy => hne y (hin y (Or.inr hy)))]
    simp [RD]
  · have h1 : (placeR (rowsOf M d) pre.length a).toNat ≤ sz := by
      rw [hl, ← hlen, cut_rows h hp hD a, List.length_append]; omega
    have := hD.place h.toWK hp ha
    omega

/-! ### a node dropped -/
/-- The tree without n and all below it. -/
def cutM (M : TM) (n : Int) : TM := delM (takeM M n) (belowL 65 M n)
/-- Whoever's parent lies below n lies below n. -/
theorem below_closed (h : WK M d next sz) : ∀ (f : Nat) (k y z : Int), (M k).isSome → 65 ≤ d k + f → y ∈ belowL f M k → z ∈ kidsOf M y → z ∈ belowL f M k
  | 0, k, y, z, hk, hf, _, _ => by have := h.dle k hk; omega
  | f + 1, k, y, z, hk, hf, hy, hz => by
    simp only [belowL, List.mem_cons, List.mem_flatMap] at hy ⊢
    rcases hy with rfl | ⟨c, hc, hy⟩
    · exact Or.inr ⟨z, hz, below_self⟩
    · obtain ⟨c0, c1, c2, c3⟩ := h.kid_mem hk hc
      exact Or.inr ⟨c, hc, below_closed h f c y z c1 (by omega) hy hz⟩
/-- And the other way round, but n itself. -/
theorem below_parent (h : WK M d next sz) : ∀ (f : Nat) (k z : Int), (M k).isSome → z ∈ belowL f M k → z ≠ k → parOf M z ∈ belowL f M k
  | 0, k, z, hk, hz, hzk => by simp [belowL] at hz; exact absurd hz hzk
  | f + 1, k, z, hk, hz, hzk => by
    simp only [belowL, List.mem_cons, List.mem_flatMap] at hz ⊢
    rcases hz with rfl | ⟨c, hc, hz⟩
    · exact absurd rfl hzk
    · obtain ⟨c0, c1, c2, c3⟩ := h.kid_mem hk hc
      by_cases hzc : z = c
      · subst hzc; exact Or.inl c2
      · exact Or.inr ⟨c, hc, below_parent h f c z c1 hz hzc⟩
theorem cutM_some (hp : (M (parOf M n)).isSome = true) (i : Int) : (cutM M n i).isSome ↔ (M i).isSome ∧ i ∉ belowL 65 M n := by
  unfold cutM delM
  by_cases hi : i ∈ belowL 65 M n
  · rw [if_pos hi]; simp [hi]
  · rw [if_neg hi, takeM_some hp]; simp [hi]
theorem cutM_par {n i : Int} (hi : i ∉ belowL 65 M n) : parOf (cutM M n) i = parOf M i := by
  refine Eq.trans ?_ (takeM_par (n := n) i); unfold cutM delM; simp only [parOf, if_neg hi]
theorem cutM_kids {n i : Int} (hi : i ∉ belowL 65 M n) : kidsOf (cutM M n) i = if i = parOf M n then wo (kidsOf M i) n else kidsOf M i := by
  rw [← takeM_kids]; unfold cutM delM; simp only [kidsOf, if_neg hi]
theorem cutM_kids' {n i : Int} (hi : i ∈ belowL 65 M n) : kidsOf (cutM M n) i = [] := by
  unfold cutM delM; simp only [kidsOf, if_pos hi]
theorem count_out (l m : List Int) (hl : l.Nodup) (hm : m.Nodup) (hs : ∀ x ∈ m, x ∈ l) : (l.filter (fun x => decide (x ∉ m))).length = l.length - m.length := by
  have h1 : (l.filter (fun x => decide (x ∈ m))).length = m.length := by
    refine Nat.le_antisymm (nodup_sub_length _ _ (hl.filter _) (fun x hx => by simpa using (List.mem_filter.1 hx).2)) (nodup_sub_length _ _ hm (fun x hx => List.mem_filter.2 ⟨hs x hx, by simpa using hx⟩))
  have h2 : ∀ (l : List Int), (l.filter (fun x => decide (x ∈ m))).length + (l.filter (fun x => decide (x ∉ m))).length = l.length := by
    intro l
    induction l with
    | nil => rfl
    | cons a l ih => by_cases ha : a ∈ m <;> simp [ha] at ih ⊢ <;> omega
  have := h2 l
  omega
theorem par_out (h : WK M d next sz) {n : Int} (hn : (M n).isSome) (hn0 : n ≠ 0) : parOf M n ∉ belowL 65 M n ∧ (M (parOf M n)).isSome := by
  obtain ⟨u1, u2⟩ := h.up n hn hn0
  exact ⟨fun hm => by have := (below_ge h hn hm).2; omega, u1⟩
theorem WF.cut (h : WF M d next sz) {n : Int} (hn : (M n).isSome) (hn0 : n ≠ 0) : WF (cutM M n) d next (sz - (belowL 65 M n).length) := by
  obtain ⟨po, ps⟩ := par_out h.toWK hn hn0
  have hsome := cutM_some (M := M) (n := n) ps
  have h0 : (0 : Int) ∉ belowL 65 M n := fun hm => by
    have h1 := (below_ge h.toWK hn hm).2
    have h2 := h.d0
    have h3 := (h.up n hn hn0).2
    omega
  refine WF.mk' ?_ h.d0 ?_ ?_ ?_ ?_ ?_ ?_
  · rw [cutM_par h0]; exact ⟨h.root.1, (hsome 0).2 ⟨h.root.2, h0⟩⟩
  · intro k hk hk0
    obtain ⟨k1, k2⟩ := (hsome k).1 hk
    obtain ⟨u1, u2⟩ := h.up k k1 hk0
    rw [cutM_par k2]
    exact ⟨(hsome _).2 ⟨u1, fun hm => k2 (below_closed h.toWK 65 n _ k hn (by omega) hm (h.kidc _ u1 k hk0 k1 rfl))⟩, u2⟩
  · intro k hk c
    obtain ⟨k1, k2⟩ := (hsome k).1 hk
    rw [cutM_kids k2]
    have hk' := h.kid k k1 c
    have hcn : c ∈ kidsOf M k → c ∈ belowL 65 M n → c = n := by
      intro hc hm
      refine Classical.byContradiction fun hne => ?_
      have := below_parent h.toWK 65 n c hn hm hne
      rw [(hk'.1 hc).2.2] at this
      exact k2 this
    have hiff : c ∈ (if k = parOf M n then wo (kidsOf M k) n else kidsOf M k) ↔ c ∈ kidsOf M k ∧ c ≠ n := by
      by_cases hkp : k = parOf M n
      · rw [if_pos hkp, wo_sub]
      · rw [if_neg hkp]
        exact ⟨fun hc => ⟨hc, fun e => hkp (by rw [← (hk'.1 hc).2.2, e])⟩, fun hc => hc.1⟩
    rw [hiff, hsome]
    constructor
    · rintro ⟨hc, hne⟩
      have hcb : c ∉ belowL 65 M n := fun hm => hne (hcn hc hm)
      rw [cutM_par hcb]
      obtain ⟨a1, a2, a3⟩ := hk'.1 hc
      exact ⟨a1, ⟨a2, hcb⟩, a3⟩
    · rintro ⟨a1, ⟨a2, a3⟩, a4⟩
      rw [cutM_par a3] at a4
      exact ⟨hk'.2 ⟨a1, a2, a4⟩, fun e => a3 (e ▸ below_self)⟩
  · intro k
    by_cases hk : k ∈ belowL 65 M n
    · rw [cutM_kids' hk]; exact List.nodup_nil
    · rw [cutM_kids hk]
      split
      · exact (h.nodup k).filter _
      · exact h.nodup k
  · intro k hk; exact h.dle k ((hsome k).1 hk).1
  · intro k hk; exact h.range k ((hsome k).1 hk).1
  · obtain ⟨l, l1, l2, l3⟩ := h.fin
    refine ⟨l.filter (fun x => decide (x ∉ belowL 65 M n)), l1.filter _, ?_, fun k => ?_⟩
    · rw [count_out l _ l1 (nodup_below h.toWK 65 n hn) (fun x hx => (l3 x).2 (below_ge h.toWK hn hx).1), l2]
    · rw [hsome, List.mem_filter, l3]; simp

theorem wo_split {l1 l2 : List Int} {n : Int} (h : (l1 ++ n :: l2).Nodup) : wo (l1 ++ n :: l2) n = l1 ++ l2 := by
  rw [List.nodup_append, List.nodup_cons] at h
  unfold wo
  rw [List.filter_append, List.filter_cons, if_neg (by simp)]
  rw [List.filter_eq_self.2 (fun a ha => by simpa using fun e => h.2.2 a ha n (by simp) e), List.filter_eq_self.2 (fun a ha => by have : a ≠ n := (by rintro rfl; exact h.2.1.1 ha); simpa using this)]
/-- Rows with a node dropped. -/
theorem drop_rows (h : WF M d next sz) {n : Int} (hn : (M n).isSome) (hn0 : n ≠ 0) : rowsOf (cutM M n) d = dropR (rowsOf M d) (at_ (rowsOf M d) n) := by
  obtain ⟨po, ps⟩ := par_out h.toWK hn hn0
  obtain ⟨u1, u2⟩ := h.up n hn hn0
  obtain ⟨pre, post, hD⟩ := Dec.all h _ (parOf M n) rfl ps
  obtain ⟨l1, l2, hk⟩ := List.append_of_mem (h.kidc _ ps n hn0 hn rfl)
  have hD2 := hD.kid h.toWK ps hk
  have hnd := h.nodup (parOf M n)
  rw [hk] at hnd
  rw [hD2.at_ h hn]
  have hL : belowL 65 (cutM M n) 0 = pre ++ (parOf M n :: (l1.flatMap (belowL 65 M) ++ l2.flatMap (belowL 65 M)) ++ post) := by
    rw [hD.up (cutM M n) (fun y hy hyp => by
      have h1 : y ∉ belowL 65 M n := fun hm => hyp (below_sub h.toWK ps (by rw [hk]; simp) hm)
      have h2 : y ≠ parOf M n := by rintro rfl; exact hyp below_self
      rw [cutM_kids h1, if_neg h2])]
    have hd64 := h.dle n hn
    have hf : 65 - d (parOf M n) = (65 - d n) + 1 := by omega
    rw [hf, belowL, cutM_kids po, if_pos rfl, hk, wo_split hnd, List.flatMap_append]
    have same : ∀ c ∈ kidsOf M (parOf M n), c ≠ n → belowL (65 - d n) (cutM M n) c = belowL 65 M c := by
      intro c hc hcn
      obtain ⟨c0, c1, c2, c3⟩ := h.kid_mem ps hc
      have e := below_enough h.toWK (65 - d n) 65 c c1 (by omega) (by omega)
      rw [← e]
      refine below_agree h.toWK _ c c1 (fun y hy => ?_)
      rw [e] at hy
      have h1 : y ∉ belowL 65 M n := fun hm => below_apart h.toWK ps hc (by rw [hk]; simp) hcn hy hm
      have h2 : y ≠ parOf M n := by rintro rfl; have := (below_ge h.toWK c1 hy).2; omega
      rw [cutM_kids h1, if_neg h2]
    rw [List.nodup_append, List.nodup_cons] at hnd
    rw [flatMap_same l1 (fun c hc => same c (by rw [hk]; simp [hc]) (fun e => hnd.2.2 c hc n (by simp) e)), flatMap_same l2 (fun c hc => same c (by rw [hk]; simp [hc]) (fun e => hnd.2.1.1 (e ▸ hc)))]
  unfold dropR
  rw [hD2.end_ h.toWK hn, rowsOf, hL, rowsOf, hD2.eq, below_cons h.toWK hn]
  have e1 : (RD d (pre ++ parOf M n :: l1.flatMap (belowL 65 M) ++ (n :: (kidsOf M n).flatMap (belowL 65 M) ++ (l2.flatMap (belowL 65 M) ++ post)))).take (pre ++ parOf M n :: l1.flatMap (belowL 65 M)).length = RD d (pre ++ parOf M n :: l1.flatMap (belowL 65 M)) := by
    rw [RD_append, List.take_left' (RD_length _ _)]
  have e2 : (RD d (pre ++ parOf M n :: l1.flatMap (belowL 65 M) ++ (n :: (kidsOf M n).flatMap (belowL 65 M) ++ (l2.flatMap (belowL 65 M) ++ post)))).drop ((pre ++ parOf M n :: l1.flatMap (belowL 65 M)).length + 1 + ((kidsOf M n).flatMap (belowL 65 M)).length) = RD d (l2.flatMap (belowL 65 M) ++ post) := by
    rw [← List.append_assoc, RD_append, List.drop_left' (by rw [RD_length, List.length_append, List.length_cons]; omega)]
  rw [e1, e2, ← RD_append]
  simp
end
end Go.Proofs.Ytfgphleophghnaa
