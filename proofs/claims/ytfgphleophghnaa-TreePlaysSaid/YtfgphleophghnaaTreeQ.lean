/- The plain law that joins the tree with the document's rows, part 4: a node moved. No program in sight. -/
import Derived.Test.YtfgphleophghnaaTreeP
set_option linter.unusedVariables false
set_option linter.unusedSimpArgs false
namespace Go.Proofs.Ytfgphleophghnaa

/-- The rows of a node and of all below it. -/
def partR (R : RL) (i : Nat) : RL := (R.take (endR R i)).drop i
def shiftR (L : RL) (k : Int) : RL := L.map (fun r => (r.1, r.2 + k))
/-- By how much what is moved sinks. -/
def byR (R : RL) (x p : Int) : Int := dep (dropR R (at_ R x)) (at_ (dropR R (at_ R x)) p) + 1 - dep R (at_ R x)
def deepR (R : RL) (x p : Int) : Bool := (partR R (at_ R x)).any (fun r => decide (64 < r.2 + byR R x p))
/-- What Move answers. -/
def moveRE (R : RL) (x p q : Int) : Int :=
  if x = 0 then 1 else if idx (R.map (·.1)) x < 0 ∨ idx (R.map (·.1)) p < 0 then 9
  else if idx (R.map (·.1)) x ≤ idx (R.map (·.1)) p ∧ idx (R.map (·.1)) p < endR R (at_ R x) then 6
  else if q < 0 ∨ ((kidsR (dropR R (at_ R x)) (at_ (dropR R (at_ R x)) p)).length : Int) < q then 2
  else if deepR R x p = true then 7 else 0
/-- The rows behind a Move. -/
def moveR (R : RL) (x p : Int) (q : Nat) : RL :=
  (dropR R (at_ R x)).take (placeR (dropR R (at_ R x)) (at_ (dropR R (at_ R x)) p) q).toNat ++ shiftR (partR R (at_ R x)) (byR R x p) ++ (dropR R (at_ R x)).drop (placeR (dropR R (at_ R x)) (at_ (dropR R (at_ R x)) p) q).toNat

theorem idx_between {A B C : List Int} {p : Int} (hn : (A ++ (B ++ C)).Nodup) (hp : p ∈ A ++ (B ++ C)) : ((A.length : Int) ≤ idx (A ++ (B ++ C)) p ∧ idx (A ++ (B ++ C)) p < ((A.length + B.length : Nat) : Int)) ↔ p ∈ B := by
  have e : idx (A ++ (B ++ C)) p = ((A ++ (B ++ C)).idxOf p : Int) := by unfold idx; rw [if_pos hp]
  rw [e]
  have hlt := List.idxOf_lt_length_iff.2 hp
  have hg : (A ++ (B ++ C))[(A ++ (B ++ C)).idxOf p] = p := List.getElem_idxOf hlt
  generalize hi : (A ++ (B ++ C)).idxOf p = i at *
  constructor
  · rintro ⟨h1, h2⟩
    rw [List.getElem_append_right (by omega), List.getElem_append_left (by omega)] at hg
    rw [← hg]; exact List.getElem_mem _
  · intro hB
    obtain ⟨j, hj, hjp⟩ := List.getElem_of_mem hB
    have h3 : (A ++ (B ++ C))[A.length + j]'(by simp; omega) = p := by
      rw [List.getElem_append_right (by omega), List.getElem_append_left (by omega)]
      simpa using hjp
    have h4 := (List.getElem_inj (h₀ := hlt) (h₁ := by simp; omega) hn).1 (hg.trans h3.symm)
    omega
theorem heightL_le_iff (d : Int → Nat) (n : Int) (b : Nat) : ∀ (l : List Int) (m : Nat), l.foldl (fun m k => max m (d k - d n)) m ≤ b ↔ m ≤ b ∧ ∀ y ∈ l, d y - d n ≤ b
  | [], m => by simp
  | y :: l, m => by
    rw [List.foldl_cons, heightL_le_iff d n b l]
    simp only [List.mem_cons]
    constructor
    · rintro ⟨h1, h2⟩
      refine ⟨by omega, ?_⟩
      rintro z (rfl | hz)
      · omega
      · exact h2 z hz
    · rintro ⟨h1, h2⟩
      exact ⟨by have := h2 y (Or.inl rfl); omega, fun z hz => h2 z (Or.inr hz)⟩

section
variable {M : TM} {d : Int → Nat} {next sz : Nat} {n p : Int}
theorem Dec.part (h : WF M d next sz) {pre post : List Int} (hD : Dec M d n pre post) (hn : (M n).isSome) : partR (rowsOf M d) pre.length = RD d (belowL 65 M n) := by
  unfold partR
  rw [hD.end_ h.toWK hn, rowsOf, hD.eq, RD_append, RD_append, ← List.append_assoc, List.take_left' (by rw [List.length_append, RD_length, RD_length, below_cons h.toWK hn, List.length_cons]; omega), List.drop_left' (RD_length _ _)]
theorem cut_kids (h : WF M d next sz) (hn : (M n).isSome) (hn0 : n ≠ 0) (hp : (M p).isSome) (hpn : p ∉ belowL 65 M n) : kidsOf (cutM M n) p = wo (kidsOf M p) n := by
  rw [cutM_kids hpn]
  by_cases hpp : p = parOf M n
  · rw [if_pos hpp]
  · rw [if_neg hpp, wo_none]
    intro hm
    exact hpp (h.kid_mem hp hm).2.2.1.symm
/-- The depths behind a Move. -/
def moveD (M : TM) (d : Int → Nat) (n p : Int) : Int → Nat := fun y => if y ∈ belowL 65 M n then d y + d p + 1 - d n else d y

/-- Move answers the same. -/
theorem move_err (h : WF M d next sz) (n p a : Int) : moveRE (rowsOf M d) n p a = moveE M d n p a := by
  unfold moveRE moveE
  by_cases hn0 : n = 0
  · rw [if_pos hn0, if_pos hn0]
  rw [if_neg hn0, if_neg hn0]
  by_cases h9 : M n = none ∨ M p = none
  · rw [if_pos h9, if_pos (h9.imp (rows_idx h n).2 (rows_idx h p).2)]
  rw [if_neg h9, if_neg (fun hi => h9 (hi.imp (rows_idx h n).1 (rows_idx h p).1))]
  have hn : (M n).isSome := by cases hm : M n with | none => exact absurd (Or.inl hm) h9 | some v => rfl
  have hp : (M p).isSome := by cases hm : M p with | none => exact absurd (Or.inr hm) h9 | some v => rfl
  obtain ⟨pre, post, hD⟩ := Dec.all h _ n rfl hn
  have h6 : (idx ((rowsOf M d).map (·.1)) n ≤ idx ((rowsOf M d).map (·.1)) p ∧ idx ((rowsOf M d).map (·.1)) p < endR (rowsOf M d) (at_ (rowsOf M d) n)) ↔ p ∈ belowL 65 M n := by
    rw [hD.at_ h hn, hD.end_ h.toWK hn, hD.idx h.toWK hn, rowsOf, RD_fst]
    have hnd := nodup_below h.toWK 65 0 h.root.2
    have hin := (in_below h p).2 hp
    rw [hD.eq] at hnd hin ⊢
    have := idx_between hnd hin
    rw [← this, below_cons h.toWK hn, List.length_cons]
    rw [show pre.length + (((kidsOf M n).flatMap (belowL 65 M)).length + 1) = pre.length + 1 + ((kidsOf M n).flatMap (belowL 65 M)).length by omega]
  by_cases hin : p ∈ belowL 65 M n
  · rw [if_pos (h6.2 hin), if_pos hin]
  rw [if_neg (fun hi => hin (h6.1 hi)), if_neg hin]
  have hW := h.cut hn hn0
  obtain ⟨po, ps⟩ := par_out h.toWK hn hn0
  have hp1 : (cutM M n p).isSome := (cutM_some ps p).2 ⟨hp, hin⟩
  obtain ⟨pr1, po1, hD1⟩ := Dec.all hW _ p rfl hp1
  have hdeep : deepR (rowsOf M d) n p = true ↔ 64 < d p + 1 + heightL d n (belowL 65 M n) := by
    unfold deepR byR
    rw [← drop_rows h hn hn0, hD1.at_ hW hp1, hD1.dep_ hW hp1, hD.at_ h hn, hD.dep_ h hn, hD.part h hn]
    have hh := heightL_le_iff d n (63 - d p) (belowL 65 M n) 0
    change heightL d n (belowL 65 M n) ≤ 63 - d p ↔ _ at hh
    have hself := h.dle n hn
    have hpd := h.dle p hp
    rw [List.any_eq_true]
    constructor
    · rintro ⟨r, hr, hr2⟩
      obtain ⟨h1, h2⟩ := RD_mem hr
      have h3 := of_decide_eq_true hr2
      have h4 := (below_ge h.toWK hn h1).2
      rw [h2] at h3
      refine Classical.byContradiction fun hc => ?_
      have := (hh.1 (by omega)).2 _ h1
      omega
    · intro hc
      by_cases hd64 : d p = 64
      · refine ⟨(n, (d n : Int)), List.mem_map.2 ⟨n, below_self, rfl⟩, decide_eq_true ?_⟩
        show (64 : Int) < (d n : Int) + ((d p : Int) + 1 - (d n : Int)); omega
      · refine Classical.byContradiction fun hno => ?_
        have : heightL d n (belowL 65 M n) ≤ 63 - d p := hh.2 ⟨Nat.zero_le _, fun y hy => by
          refine Classical.byContradiction fun hy2 => hno ⟨(y, (d y : Int)), List.mem_map.2 ⟨y, hy, rfl⟩, decide_eq_true ?_⟩
          have h4 := (below_ge h.toWK hn hy).2
          show (64 : Int) < (d y : Int) + ((d p : Int) + 1 - (d n : Int)); omega⟩
        omega
  have hkl : (kidsR (dropR (rowsOf M d) (at_ (rowsOf M d) n)) (at_ (dropR (rowsOf M d) (at_ (rowsOf M d) n)) p)).length = (wo (kidsOf M p) n).length := by
    rw [← drop_rows h hn hn0, hD1.at_ hW hp1, hD1.kidsLen hW hp1, cut_kids h hn hn0 hp hin]
  rw [hkl]
  simp only [hdeep]

theorem moveM_kids (hnp : n ≠ p) (a : Int) (i : Int) : kidsOf (moveM M n p a) i = if i = p then (kidsOf (takeM M n) p).take a.toNat ++ n :: (kidsOf (takeM M n) p).drop a.toNat else kidsOf (takeM M n) i := putM_kids hnp i
theorem moveM_par (hnp : n ≠ p) (a : Int) (i : Int) : parOf (moveM M n p a) i = if i = n then p else parOf M i := by
  unfold moveM parOf putM
  by_cases h1 : i = n
  · simp [h1]
  · by_cases h2 : i = p
    · subst h2; simp only [if_neg h1, if_pos]; exact takeM_par (n := n) i
    · simp only [if_neg h1, if_neg h2]; exact takeM_par (n := n) i
theorem moveM_some (hn : (M n).isSome) (hp : (M p).isSome) (ps : (M (parOf M n)).isSome = true) (a : Int) (i : Int) : (moveM M n p a i).isSome ↔ (M i).isSome := by
  unfold moveM putM
  by_cases h1 : i = n
  · subst h1; simp [hn]
  · by_cases h2 : i = p
    · subst h2; simp [h1, hp]
    · simp only [if_neg h1, if_neg h2]; rw [takeM_some ps]

theorem WF.move (h : WF M d next sz) (hn : (M n).isSome) (hn0 : n ≠ 0) (hp : (M p).isSome) (hpn : p ∉ belowL 65 M n) (a : Int) (hd : d p + 1 + heightL d n (belowL 65 M n) ≤ 64) : WF (moveM M n p a) (moveD M d n p) next sz := by
  obtain ⟨po, ps⟩ := par_out h.toWK hn hn0
  have hnp : n ≠ p := by rintro rfl; exact hpn below_self
  have hsome := moveM_some hn hp ps a
  have hpar := moveM_par (M := M) hnp a
  have h0 : (0 : Int) ∉ belowL 65 M n := fun hm => by
    have h1 := (below_ge h.toWK hn hm).2
    have h2 := h.d0
    have h3 := (h.up n hn hn0).2
    omega
  have dout : ∀ y, y ∉ belowL 65 M n → moveD M d n p y = d y := fun y hy => by unfold moveD; rw [if_neg hy]
  have din : ∀ y, y ∈ belowL 65 M n → moveD M d n p y = d y + d p + 1 - d n := fun y hy => by unfold moveD; rw [if_pos hy]
  refine WF.mk' ?_ ?_ ?_ ?_ ?_ ?_ ?_ ?_
  · rw [hpar, if_neg (Ne.symm hn0)]; exact ⟨h.root.1, (hsome 0).2 h.root.2⟩
  · rw [dout 0 h0]; exact h.d0
  · intro k hk hk0
    have k1 := (hsome k).1 hk
    rw [hpar, hsome]
    by_cases hkn : k = n
    · subst hkn
      rw [if_pos rfl, dout p hpn, din k below_self]
      exact ⟨hp, by omega⟩
    · rw [if_neg hkn]
      obtain ⟨u1, u2⟩ := h.up k k1 hk0
      refine ⟨u1, ?_⟩
      by_cases hkb : k ∈ belowL 65 M n
      · have hb := below_parent h.toWK 65 n k hn hkb hkn
        have := (below_ge h.toWK hn hb).2
        rw [din k hkb, din _ hb]; omega
      · have hb : parOf M k ∉ belowL 65 M n := fun hm => hkb (below_closed h.toWK 65 n _ k hn (by omega) hm (h.kidc _ u1 k hk0 k1 rfl))
        rw [dout k hkb, dout _ hb]; exact u2
  · intro k hk c
    have k1 := (hsome k).1 hk
    have hk' := h.kid k k1 c
    rw [moveM_kids hnp, hpar, hsome]
    have hiff : c ∈ kidsOf (takeM M n) k ↔ c ∈ kidsOf M k ∧ c ≠ n := by
      rw [takeM_kids]
      by_cases hkp : k = parOf M n
      · rw [if_pos hkp, wo_sub]
      · rw [if_neg hkp]
        exact ⟨fun hc => ⟨hc, fun e => hkp (by rw [← (hk'.1 hc).2.2, e])⟩, fun hc => hc.1⟩
    by_cases hkp : k = p
    · subst hkp
      rw [if_pos rfl, mem_insert, hiff]
      by_cases hcn : c = n
      · rw [if_pos hcn, hcn]
        exact ⟨fun _ => ⟨hn0, hn, rfl⟩, fun _ => Or.inl rfl⟩
      · rw [if_neg hcn]
        constructor
        · rintro (hc | hc)
          · exact absurd hc hcn
          · exact hk'.1 hc.1
        · intro hc; exact Or.inr ⟨hk'.2 hc, hcn⟩
    · rw [if_neg hkp, hiff]
      by_cases hcn : c = n
      · rw [if_pos hcn]
        constructor
        · intro hc; exact absurd hcn hc.2
        · intro hc; exact absurd hc.2.2.symm hkp
      · rw [if_neg hcn]
        exact ⟨fun hc => hk'.1 hc.1, fun hc => ⟨hk'.2 hc, hcn⟩⟩
  · intro k
    have hnt : ∀ k, (kidsOf (takeM M n) k).Nodup := by
      intro k; rw [takeM_kids]; split
      · exact (h.nodup k).filter _
      · exact h.nodup k
    rw [moveM_kids hnp]
    split
    · refine nodup_insert _ _ _ (hnt p) ?_
      rw [takeM_kids]
      split
      · intro hm; exact ((wo_sub _ _ _).1 hm).2 rfl
      · rename_i hpp
        intro hm; exact hpp (h.kid_mem hp hm).2.2.1.symm
    · exact hnt k
  · intro k hk
    have k1 := (hsome k).1 hk
    by_cases hkb : k ∈ belowL 65 M n
    · have := ((heightL_le_iff d n (heightL d n (belowL 65 M n)) (belowL 65 M n) 0).1 (Nat.le_refl _)).2 k hkb
      have := (below_ge h.toWK hn hkb).2
      rw [din k hkb]; omega
    · rw [dout k hkb]; exact h.dle k k1
  · intro k hk; exact h.range k ((hsome k).1 hk)
  · obtain ⟨l, l1, l2, l3⟩ := h.fin
    exact ⟨l, l1, l2, fun k => by rw [hsome, l3]⟩

theorem mem_all {M : TM} {d : Int → Nat} {next sz : Nat} (h : WF M d next sz) {A B : List Int} (hc : rowsOf M d = RD d A ++ RD d B) : ∀ y, y ∈ A ∨ y ∈ B → (M y).isSome := by
  intro y hy
  have hc' := congrArg (List.map (·.1)) hc
  rw [List.map_append, rowsOf, RD_fst, RD_fst, RD_fst] at hc'
  exact (in_below h y).1 (by rw [hc']; exact List.mem_append.2 hy)
theorem move_rows (h : WF M d next sz) {a : Int} (hE : moveE M d n p a = 0) : WF (moveM M n p a) (moveD M d n p) next sz ∧ rowsOf (moveM M n p a) (moveD M d n p) = moveR (rowsOf M d) n p a.toNat ∧
    0 ≤ placeR (dropR (rowsOf M d) (at_ (rowsOf M d) n)) (at_ (dropR (rowsOf M d) (at_ (rowsOf M d) n)) p) a.toNat ∧
    placeR (dropR (rowsOf M d) (at_ (rowsOf M d) n)) (at_ (dropR (rowsOf M d) (at_ (rowsOf M d) n)) p) a.toNat ≤ (dropR (rowsOf M d) (at_ (rowsOf M d) n)).length := by
  unfold moveE at hE
  split at hE
  · cases hE
  rename_i hn0
  split at hE
  · cases hE
  rename_i h9
  split at hE
  · cases hE
  rename_i hpn
  split at hE
  · cases hE
  rename_i ha
  split at hE
  · cases hE
  rename_i hd
  have hn : (M n).isSome := by cases hm : M n with | none => exact absurd (Or.inl hm) h9 | some v => rfl
  have hp : (M p).isSome := by cases hm : M p with | none => exact absurd (Or.inr hm) h9 | some v => rfl
  have hWm := h.move hn hn0 hp hpn a (by omega)
  have hW := h.cut hn hn0
  obtain ⟨po, ps⟩ := par_out h.toWK hn hn0
  have hnp : n ≠ p := by rintro rfl; exact hpn below_self
  have hp1 : (cutM M n p).isSome := (cutM_some ps p).2 ⟨hp, hpn⟩
  obtain ⟨pre, post, hD⟩ := Dec.all h _ n rfl hn
  obtain ⟨pr1, po1, hD1⟩ := Dec.all hW _ p rfl hp1
  have hk1 := cut_kids h hn hn0 hp hpn
  have ha1 : a.toNat ≤ (kidsOf (cutM M n) p).length := by rw [hk1]; omega
  have hpl := place_cut hW hp1 hD1 ha1
  have hcr := cut_rows hW hp1 hD1 a.toNat
  rw [← drop_rows h hn hn0, hD1.at_ hW hp1]
  refine ⟨hWm, ?_, by rw [hD1.place hW.toWK hp1 ha1]; omega, ?_⟩
  · unfold moveR byR
    rw [← drop_rows h hn hn0, hD1.at_ hW hp1, hD1.dep_ hW hp1, hD.at_ h hn, hD.dep_ h hn, hD.part h hn, hpl, hcr, List.take_left' rfl, List.drop_left' rfl]
    have hL := put_list hW.toWK (n := n) hp1 hD1 (by omega) (a := a.toNat) (moveM M n p a) (fun y hy => by
      obtain ⟨y1, y2⟩ := (cutM_some ps y).1 hy
      have e : ∀ i, i ∉ belowL 65 M n → kidsOf (takeM M n) i = kidsOf (cutM M n) i := fun i hi => by rw [takeM_kids, cutM_kids hi]
      rw [moveM_kids hnp, e p hpn, e y y2])
    have dn : moveD M d n p n = d p + 1 := by unfold moveD; rw [if_pos below_self]; omega
    have hsub : belowL (64 - d p) (moveM M n p a) n = belowL 65 M n := by
      rw [below_enough hWm.toWK (64 - d p) 65 n ((moveM_some hn hp ps a n).2 hn) (by rw [dn]; omega) (by omega)]
      refine below_agree h.toWK 65 n hn (fun y hy => ?_)
      rw [moveM_kids hnp, if_neg (by rintro rfl; exact hpn hy), takeM_kids, if_neg (by rintro rfl; exact po hy)]
    rw [hsub] at hL
    rw [rowsOf, hL, RD_append, RD_append]
    have hin := mem_all hW hcr
    have dout : ∀ y, (cutM M n y).isSome → moveD M d n p y = d y := fun y hy => by unfold moveD; rw [if_neg ((cutM_some ps y).1 hy).2]
    rw [RD_congr (d := d) (fun y hy => dout y (hin y (Or.inl hy))), RD_congr (d := d) (fun y hy => dout y (hin y (Or.inr hy)))]
    congr 2
    unfold shiftR RD
    rw [List.map_map]
    refine List.map_congr_left (fun y hy => ?_)
    have := (below_ge h.toWK hn hy).2
    have dy : moveD M d n p y = d y + d p + 1 - d n := by unfold moveD; rw [if_pos hy]
    simp only [Function.comp_apply, dy, Prod.mk.injEq, true_and]
    omega
  · have h1 : (placeR (rowsOf (cutM M n) d) pr1.length a.toNat).toNat ≤ (rowsOf (cutM M n) d).length := by
      rw [hpl, hcr, List.length_append]; omega
    have := hD1.place hW.toWK hp1 ha1
    omega
end
end Go.Proofs.Ytfgphleophghnaa
