/- The plain law that joins the tree with the document's rows, part 5: what is told of each row. No program in sight. -/
import Derived.Test.YtfgphleophghnaaTreeQ
set_option linter.unusedVariables false
set_option linter.unusedSimpArgs false
namespace Go.Proofs.Ytfgphleophghnaa

/-- What is told of a row's node is the tree's. -/
structure RowOk (M : TM) (d : Int → Nat) (R : RL) (i : Nat) (x : Int) : Prop where
  name : (R.getD i (0, 0)).1 = x
  here : (M x).isSome
  depth : dep R i = d x
  kids : (kidsR R i).map (fun j => (R.getD j.toNat (0, 0)).1) = kidsOf M x
  kin : ∀ j ∈ kidsR R i, 0 ≤ j ∧ j < R.length
  par : (x = 0 ∧ parR R i = -1) ∨ (x ≠ 0 ∧ ∃ j : Nat, parR R i = j ∧ j < i ∧ (R.getD j (0, 0)).1 = parOf M x)

theorem kpos_in (sub : Int → List Int) (h1 : ∀ c, 0 < (sub c).length) : ∀ (l : List Int) (b : Nat), ∀ j ∈ kpos sub b l, 0 ≤ j ∧ j < ((b + (l.flatMap sub).length : Nat) : Int)
  | [], _, _, h => by cases h
  | c :: l, b, j, h => by
    have := h1 c
    rw [List.flatMap_cons, List.length_append]
    rcases List.mem_cons.1 h with rfl | h
    · omega
    · have := kpos_in sub h1 l _ j h
      omega
theorem below_pos (M : TM) (c : Int) : 0 < (belowL 65 M c).length := List.length_pos_of_mem (below_self (M := M))
theorem row_ok {M : TM} {d : Int → Nat} {next sz : Nat} (h : WF M d next sz) {i : Nat} (hi : i < sz) : RowOk M d (rowsOf M d) i ((belowL 65 M 0).getD i 0) := by
  have hlen := length_all h
  have hrl := rowsOf_length h
  have hx : (belowL 65 M 0).getD i 0 ∈ belowL 65 M 0 := by
    simp only [List.getD, List.getElem?_eq_getElem (show i < (belowL 65 M 0).length by omega), Option.getD_some]; exact List.getElem_mem _
  have hs := (in_below h _).1 hx
  obtain ⟨pre, post, hD⟩ := Dec.all h _ _ rfl hs
  have hpre : ∀ pre post, Dec M d ((belowL 65 M 0).getD i 0) pre post → pre.length = i := by
    intro pre post hD
    have h1 := hD.idx h.toWK hs
    rw [rowsOf, RD_fst] at h1
    have h2 : idx (belowL 65 M 0) ((belowL 65 M 0).getD i 0) = i := by
      unfold idx; rw [if_pos hx]
      simp only [List.getD, List.getElem?_eq_getElem (show i < (belowL 65 M 0).length by omega), Option.getD_some]
      rw [(nodup_below h.toWK 65 0 h.root.2).idxOf_getElem i (by omega)]
    omega
  have hp := hpre _ _ hD
  generalize hxx : (belowL 65 M 0).getD i 0 = x at *
  refine ⟨?_, hs, ?_, ?_, ?_, ?_⟩
  · rw [← hp, hD.get h.toWK hs]
  · rw [← hp]; exact hD.dep_ h hs
  · rw [← hp]; exact hD.names h.toWK hs
  · intro j hj
    rw [← hp, hD.kids h.toWK hs] at hj
    have h1 := kpos_in (belowL 65 M) (below_pos M) (kidsOf M x) (pre.length + 1) j hj
    have h2 := hD.end_ h.toWK hs
    have h3 := (endR_bd (rowsOf M d) pre.length (by omega)).2
    omega
  · by_cases h0 : x = 0
    · refine Or.inl ⟨h0, ?_⟩
      subst h0
      have h1 := hpre _ _ (Dec.root h.toWK)
      rw [← h1, (Dec.root h.toWK).rows h.toWK hs]
      rfl
    · refine Or.inr ⟨h0, ?_⟩
      obtain ⟨pre', post', hD', j, hj, hlt, hn⟩ := Dec.parent h hs h0
      have h1 := hpre _ _ hD'
      rw [h1] at hj hlt
      exact ⟨j, hj, hlt, hn⟩
end Go.Proofs.Ytfgphleophghnaa
