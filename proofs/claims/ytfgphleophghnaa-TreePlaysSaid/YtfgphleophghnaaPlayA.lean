/- Each act on a tree, and on its rows, with all that it may answer. -/
import Derived.Test.YtfgphleophghnaaRefI
import Derived.Test.YtfgphleophghnaaTreeR
set_option linter.unusedVariables false
set_option linter.unusedSimpArgs false
namespace Go.Proofs.Ytfgphleophghnaa
open Go.RowKit Go.MapKept

section
variable (M : TM) (d : Int → Nat) (next sz : Nat)
def dropE (n : Int) : Int := if n = 0 then 1 else if M n = none then 9 else 0
def dropM (n : Int) : TM := if dropE M n = 0 then cutM M n else M
def dropS (n : Int) : Nat := if dropE M n = 0 then sz - (belowL 65 M n).length else sz
def addM (p q : Int) : TM := if addE M d sz p q = 0 then putM M next p q.toNat else M
def addD (p q : Int) : Int → Nat := if addE M d sz p q = 0 then (fun i => if i = next then d p + 1 else d i) else d
def addS (p q : Int) : Nat := if addE M d sz p q = 0 then sz + 1 else sz
def addN (p q : Int) : Nat := if addE M d sz p q = 0 then next + 1 else next
def addK (p q : Int) : Int := if addE M d sz p q = 0 then next else 0
def movM (n p q : Int) : TM := if moveE M d n p q = 0 then moveM M n p q else M
def movD (n p q : Int) : Int → Nat := if moveE M d n p q = 0 then moveD M d n p else d
end

section
variable {M : TM} {d : Int → Nat} {next sz : Nat}
theorem dropE_zero {n : Int} (h : dropE M n = 0) : n ≠ 0 ∧ (M n).isSome = true := by
  unfold dropE at h
  split at h
  · cases h
  · rename_i h0
    split at h
    · cases h
    · rename_i h1
      exact ⟨h0, by cases hm : M n with | none => exact absurd hm h1 | some _ => rfl⟩
theorem dropE_not {n : Int} (h : dropE M n ≠ 0) : (n = 0 ∨ M n = none) ∧ dropE M n = if n = 0 then 1 else 9 := by
  unfold dropE at h ⊢
  by_cases h0 : n = 0
  · rw [if_pos h0, if_pos h0]; exact ⟨Or.inl h0, rfl⟩
  · rw [if_neg h0] at h ⊢
    by_cases h1 : M n = none
    · rw [if_pos h1, if_neg h0]; exact ⟨Or.inr h1, rfl⟩
    · rw [if_neg h1] at h; exact absurd rfl h
theorem drop_wf (h : WF M d next sz) (n : Int) : WF (dropM M n) d next (dropS M sz n) := by
  unfold dropM dropS
  by_cases hE : dropE M n = 0
  · rw [if_pos hE, if_pos hE]; exact h.cut (dropE_zero hE).2 (dropE_zero hE).1
  · rw [if_neg hE, if_neg hE]; exact h
theorem drop_all (n : Int) (w : World) (bt bm : Nat) (hW : WF M d next sz) (hT : TreeAt w bt bm M next sz) (hsz : sz ≤ 1024) :
    Calls Try.prog 10 #[.pointer (some ⟨bt, 0, none⟩), .int .i64 n] w fun e w' => e = .returned (.int .i64 (dropE M n)) ∧ Kept (fun b => b = bm ∨ b = bt) w w' ∧ TreeAt w' bt bm (dropM M n) next (dropS M sz n) := by
  unfold dropM dropS
  by_cases hE : dropE M n = 0
  · rw [if_pos hE, if_pos hE, hE]
    refine (drop_any n w bt bm M d next sz hW.toWK hT (dropE_zero hE).2 (dropE_zero hE).1 hsz).mono ?_
    rintro e w' ⟨rfl, hk, hT'⟩
    exact ⟨rfl, hk.mono (fun k _ hk => Or.inl hk), hT'⟩
  · rw [if_neg hE, if_neg hE, (dropE_not hE).2]
    refine (drop_no n w bt bm M next sz hT (dropE_not hE).1).mono ?_
    rintro e w' ⟨rfl, hb⟩
    exact ⟨rfl, Kept.below hb, hT.below hb⟩
theorem rdrop_all (a : Option Addr) (c : Nat) (nx n : Int) (hW : WF M d next sz) (hsz : sz ≤ 1024) (w : World) (hs : RowsAt w a sz c (rowsOf M d)) :
    Calls Try.prog 11 #[.agg #[.slice a sz c, .int .i64 nx], .int .i64 n] w fun e w' => ∃ a' c', e = .returned (.tuple #[.agg #[.slice a' (dropS M sz n) c', .int .i64 nx], .int .i64 (dropE M n)]) ∧ Below w.heap.size w w' ∧ RowsAt w' a' (dropS M sz n) c' (rowsOf (dropM M n) d) := by
  have hl := rowsOf_length (drop_wf hW n)
  unfold dropM dropS at *
  by_cases hE : dropE M n = 0
  · rw [if_pos hE, if_pos hE] at hl
    rw [if_pos hE, if_pos hE, hE]
    obtain ⟨h0, hn⟩ := dropE_zero hE
    obtain ⟨pre, post, hD⟩ := Dec.all hW _ n rfl hn
    have hidx := hD.idx hW.toWK hn
    have hlt := idx_le ((rowsOf M d).map (·.1)) n
    rw [List.length_map, rowsOf_length hW, hidx] at hlt
    have hpos : 0 < sz := by have := rowsOf_length hW; rw [hD.rows hW.toWK hn] at this; simp at this; omega
    obtain ⟨b, o, rfl, _, _⟩ := RowsAt.cellsAt hs hpos
    have hdr := drop_rows hW hn h0
    rw [hD.at_ hW hn] at hdr
    refine (rdrop_own b o sz c pre.length nx n (rowsOf M d) (by omega) (by omega) h0 hidx w hs).mono ?_
    rintro e w' ⟨a', c', rfl, hb, _, hr⟩
    rw [hdr] at hl ⊢
    rw [hl] at hr
    exact ⟨a', c', by rw [hl], hb, hr⟩
  · rw [if_neg hE, if_neg hE, (dropE_not hE).2]
    refine (rdrop_no a sz c nx n (rowsOf M d) (by omega) ((dropE_not hE).1.imp id (fun hm => by
      rcases idx_lo ((rowsOf M d).map (·.1)) n with h | h
      · exact h
      · have := (rows_idx hW n).2 hm; omega)) w hs).mono ?_
    rintro e w' ⟨rfl, hb⟩
    exact ⟨a, c, rfl, hb, Arr.below hs hb⟩

theorem addE_zero {p q : Int} (h : addE M d sz p q = 0) : (M p).isSome = true ∧ 0 ≤ q ∧ q.toNat ≤ (kidsOf M p).length ∧ sz < 1024 ∧ d p < 64 := by
  unfold addE at h
  split at h
  · cases h
  rename_i h1
  split at h
  · cases h
  split at h
  · cases h
  split at h
  · cases h
  exact ⟨by cases hm : M p with | none => exact absurd hm h1 | some _ => rfl, by omega, by omega, by omega, by omega⟩
theorem add_wf (h : WF M d next sz) (p q : Int) : WF (addM M d next sz p q) (addD M d next sz p q) (addN M d next sz p q) (addS M d sz p q) := by
  unfold addM addD addN addS
  by_cases hE : addE M d sz p q = 0
  · simp only [if_pos hE]
    obtain ⟨h1, h2, h3, h4, h5⟩ := addE_zero hE
    exact h.add h1 h5 q.toNat
  · simp only [if_neg hE]; exact h
theorem add_all (p q : Int) (w : World) (bt bm : Nat) (hW : WF M d next sz) (hT : TreeAt w bt bm M next sz) (hsz : sz ≤ 1024) (hn : next < 1000000) :
    Calls Try.prog 14 #[.pointer (some ⟨bt, 0, none⟩), .int .i64 p, .int .i64 q] w fun e w' => e = .returned (.tuple #[.int .i64 (addK M d next sz p q), .int .i64 (addE M d sz p q)]) ∧ Kept (fun b => b = bm ∨ b = bt) w w' ∧ TreeAt w' bt bm (addM M d next sz p q) (addN M d next sz p q) (addS M d sz p q) := by
  unfold addM addN addS addK
  by_cases hE : addE M d sz p q = 0
  · simp only [if_pos hE, hE]
    obtain ⟨h1, h2, h3, h4, h5⟩ := addE_zero hE
    obtain ⟨q', rfl⟩ := Int.eq_ofNat_of_zero_le h2
    exact add_any p q' w bt bm M d next sz hW hT h1 h3 h4 h5 hn
  · simp only [if_neg hE]
    refine (add_no p q w bt bm M d next sz hW.toWK hT hE hsz).mono ?_
    rintro e w' ⟨rfl, hb⟩
    exact ⟨rfl, Kept.below hb, hT.below hb⟩
theorem rows_pos {M : TM} {d : Int → Nat} {next sz : Nat} (h : WF M d next sz) : 0 < sz := by
  have := length_all h
  have h0 := (in_below h 0).2 h.root.2
  have := List.length_pos_of_mem h0
  omega
theorem radd_all (a : Option Addr) (c : Nat) (p q : Int) (hW : WF M d next sz) (hsz : sz ≤ 1024) (hn : next < 1000000) (w : World) (hs : RowsAt w a sz c (rowsOf M d)) :
    Calls Try.prog 15 #[.agg #[.slice a sz c, .int .i64 next], .int .i64 p, .int .i64 q] w fun e w' => ∃ a' c', e = .returned (.tuple #[.agg #[.slice a' (addS M d sz p q) c', .int .i64 (addN M d next sz p q)], .int .i64 (addK M d next sz p q), .int .i64 (addE M d sz p q)]) ∧ Below w.heap.size w w' ∧ RowsAt w' a' (addS M d sz p q) c' (rowsOf (addM M d next sz p q) (addD M d next sz p q)) := by
  have he := add_err hW p q
  unfold addM addN addS addK addD
  by_cases hE : addE M d sz p q = 0
  · simp only [hE, ↓reduceIte]
    obtain ⟨h1, h2, h3, h4, h5⟩ := addE_zero hE
    obtain ⟨q', rfl⟩ := Int.eq_ofNat_of_zero_le h2
    simp only [Int.toNat_natCast] at h3 ⊢
    obtain ⟨b, o, rfl, _, _⟩ := RowsAt.cellsAt hs (rows_pos hW)
    obtain ⟨e1, e2, e3⟩ := add_rows hW h1 h5 h3
    obtain ⟨pre, post, hD⟩ := Dec.all hW _ p rfl h1
    have hidx := hD.idx hW.toWK h1
    have hlt := idx_le ((rowsOf M d).map (·.1)) p
    have hpos := rows_pos hW
    rw [List.length_map, rowsOf_length hW, hidx] at hlt
    rw [hD.at_ hW h1] at e1 e2 e3
    rw [e1]
    exact radd_any b o sz c pre.length q' next p (rowsOf M d) h4 (by omega) hidx (by rw [hD.kidsLen hW h1]; exact h3) (by rw [hD.dep_ hW h1]; omega) (by rw [hD.dep_ hW h1]; omega) ⟨by omega, by omega⟩ ⟨e2, e3⟩ w hs
  · simp only [if_neg hE]
    rw [← he] at hE ⊢
    refine (radd_no a sz c next p q (rowsOf M d) (by omega) hE w hs).mono ?_
    rintro e w' ⟨rfl, hb⟩
    exact ⟨a, c, rfl, hb, Arr.below hs hb⟩

theorem moveE_zero {n p q : Int} (h : moveE M d n p q = 0) : n ≠ 0 ∧ (M n).isSome = true ∧ (M p).isSome = true ∧ p ∉ belowL 65 M n ∧ 0 ≤ q ∧ q.toNat ≤ (wo (kidsOf M p) n).length := by
  unfold moveE at h
  split at h
  · cases h
  rename_i h0
  split at h
  · cases h
  rename_i h9
  split at h
  · cases h
  rename_i h6
  split at h
  · cases h
  exact ⟨h0, by cases hm : M n with | none => exact absurd (Or.inl hm) h9 | some _ => rfl, by cases hm : M p with | none => exact absurd (Or.inr hm) h9 | some _ => rfl, h6, by omega, by omega⟩
theorem mov_wf (h : WF M d next sz) (n p q : Int) : WF (movM M d n p q) (movD M d n p q) next sz := by
  unfold movM movD
  by_cases hE : moveE M d n p q = 0
  · simp only [if_pos hE]; exact (move_rows h hE).1
  · simp only [if_neg hE]; exact h
theorem move_all (n p q : Int) (w : World) (bt bm : Nat) (hW : WF M d next sz) (hT : TreeAt w bt bm M next sz) (hsz : sz ≤ 1024) :
    Calls Try.prog 12 #[.pointer (some ⟨bt, 0, none⟩), .int .i64 n, .int .i64 p, .int .i64 q] w fun e w' => e = .returned (.int .i64 (moveE M d n p q)) ∧ Kept (fun b => b = bm ∨ b = bt) w w' ∧ TreeAt w' bt bm (movM M d n p q) next sz := by
  refine (move_any n p q w bt bm M d next sz hW.toWK hT hsz).mono ?_
  rintro e w' ⟨rfl, hk, hT'⟩
  exact ⟨rfl, hk.mono (fun k _ hk => Or.inl hk), hT'⟩
theorem rmove_all (a : Option Addr) (c : Nat) (nx n p q : Int) (hW : WF M d next sz) (hsz : sz ≤ 1024) (w : World) (hs : RowsAt w a sz c (rowsOf M d)) :
    Calls Try.prog 13 #[.agg #[.slice a sz c, .int .i64 nx], .int .i64 n, .int .i64 p, .int .i64 q] w fun e w' => ∃ a' c', e = .returned (.tuple #[.agg #[.slice a' sz c', .int .i64 nx], .int .i64 (moveE M d n p q)]) ∧ Below w.heap.size w w' ∧ RowsAt w' a' sz c' (rowsOf (movM M d n p q) (movD M d n p q)) := by
  have he := move_err hW n p q
  by_cases hno : n = 0 ∨ idx ((rowsOf M d).map (·.1)) n < 0 ∨ idx ((rowsOf M d).map (·.1)) p < 0 ∨ (idx ((rowsOf M d).map (·.1)) n ≤ idx ((rowsOf M d).map (·.1)) p ∧ idx ((rowsOf M d).map (·.1)) p < endR (rowsOf M d) (at_ (rowsOf M d) n))
  · have hE : moveE M d n p q ≠ 0 := by
      rw [← he]; unfold moveRE
      by_cases h0 : n = 0
      · rw [if_pos h0]; decide
      · rw [if_neg h0]
        by_cases h9 : idx ((rowsOf M d).map (·.1)) n < 0 ∨ idx ((rowsOf M d).map (·.1)) p < 0
        · rw [if_pos h9]; decide
        · rw [if_neg h9, if_pos (by
            rcases hno with h | h | h | h
            · exact absurd h h0
            · exact absurd (Or.inl h) h9
            · exact absurd (Or.inr h) h9
            · exact h)]; decide
    unfold movM movD
    simp only [if_neg hE]
    rw [← he]
    refine (rmove_no a sz c nx n p q (rowsOf M d) (by omega) hno w hs).mono ?_
    rintro e w' ⟨rfl, hb⟩
    exact ⟨a, c, rfl, hb, Arr.below hs hb⟩
  · have h0 : n ≠ 0 := fun h => hno (Or.inl h)
    have hn : (M n).isSome = true := by cases hm : M n with | none => exact absurd (Or.inr (Or.inl ((rows_idx hW n).2 hm))) hno | some _ => rfl
    have hp : (M p).isSome = true := by cases hm : M p with | none => exact absurd (Or.inr (Or.inr (Or.inl ((rows_idx hW p).2 hm)))) hno | some _ => rfl
    obtain ⟨pre, post, hD⟩ := Dec.all hW _ n rfl hn
    have hidx := hD.idx hW.toWK hn
    have hat := hD.at_ hW hn
    have h6 : ¬ (idx ((rowsOf M d).map (·.1)) n ≤ idx ((rowsOf M d).map (·.1)) p ∧ idx ((rowsOf M d).map (·.1)) p < endR (rowsOf M d) pre.length) := fun h => hno (Or.inr (Or.inr (Or.inr (by rw [hat]; exact h))))
    have hp0 : 0 ≤ idx ((rowsOf M d).map (·.1)) p := by
      have : ¬ idx ((rowsOf M d).map (·.1)) p < 0 := fun h => by rw [(rows_idx hW p).1 h] at hp; cases hp
      omega
    have hpn : p ∉ belowL 65 M n := by
      intro hm
      refine h6 ?_
      have hin := (in_below hW p).2 hp
      have hnd := nodup_below hW.toWK 65 0 hW.root.2
      rw [hidx, hD.end_ hW.toWK hn]
      rw [rowsOf, RD_fst]
      rw [hD.eq] at hnd hin ⊢
      have := (idx_between hnd hin).2 hm
      rw [below_cons hW.toWK hn, List.length_cons] at this
      rw [below_cons hW.toWK hn]
      exact ⟨this.1, by have := this.2; omega⟩
    have hW1 := hW.cut hn h0
    obtain ⟨po, ps⟩ := par_out hW.toWK hn h0
    have hp1 : (cutM M n p).isSome := (cutM_some ps p).2 ⟨hp, hpn⟩
    obtain ⟨pr1, po1, hD1⟩ := Dec.all hW1 _ p rfl hp1
    have hdr := drop_rows hW hn h0
    rw [hat] at hdr
    obtain ⟨b, o, rfl, _, _⟩ := RowsAt.cellsAt hs (rows_pos hW)
    have hk1 := cut_kids hW hn h0 hp hpn
    refine (rmove_any b o sz c nx n p q (rowsOf M d) hsz h0 pre.length hidx hp0 h6 (fun r hr => by
      obtain ⟨h1, h2⟩ := RD_mem hr
      have := hW.dle _ ((in_below hW _).1 h1)
      rw [h2]; omega) pr1.length (by rw [← hdr]; exact hD1.idx hW1.toWK hp1) (fun hq0 hq1 => by
      rw [← hdr] at hq1 ⊢
      rw [hD1.kidsLen hW1 hp1] at hq1
      have hq2 : q.toNat ≤ (kidsOf (cutM M n) p).length := by omega
      have e1 := hD1.place hW1.toWK hp1 hq2
      have e2 := place_cut hW1 hp1 hD1 hq2
      have e3 := congrArg List.length (cut_rows hW1 hp1 hD1 q.toNat)
      rw [List.length_append] at e3
      omega) w hs).mono ?_
    rintro e w' ⟨a', c', n', rfl, hb, hr⟩
    rw [he] at hr ⊢
    have hl : ∀ R, RowsAt w' a' n' c' R → R.length = sz → n' = sz := fun R h1 h2 => by rw [h1.len, h2]
    by_cases hE : moveE M d n p q = 0
    · rw [if_pos hE] at hr
      have hmr := move_rows hW hE
      rw [← hmr.2.1] at hr
      obtain rfl := hl _ hr (rowsOf_length hmr.1)
      refine ⟨a', c', rfl, hb, ?_⟩
      unfold movM movD; simp only [if_pos hE]; exact hr
    · rw [if_neg hE] at hr
      obtain rfl := hl _ hr (rowsOf_length hW)
      refine ⟨a', c', rfl, hb, ?_⟩
      unfold movM movD; simp only [if_neg hE]; exact hr
end
end Go.Proofs.Ytfgphleophghnaa
