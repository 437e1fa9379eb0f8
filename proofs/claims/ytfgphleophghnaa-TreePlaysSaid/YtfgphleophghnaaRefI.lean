/- Contracts of the document's tree: Move. -/
import Derived.Test.YtfgphleophghnaaRefH
import Derived.Test.YtfgphleophghnaaRefJ
set_option linter.unusedVariables false
set_option linter.unusedSimpArgs false
namespace Go.Proofs.Ytfgphleophghnaa
open Go.RowKit Go.MapKept

theorem dropR_sub {R : RL} {i : Nat} {r : Int × Int} (h : r ∈ dropR R i) : r ∈ R := by
  unfold dropR at h
  rcases List.mem_append.1 h with h | h
  · exact List.mem_of_mem_take h
  · exact List.mem_of_mem_drop h
theorem partR_sub {R : RL} {i : Nat} {r : Int × Int} (h : r ∈ partR R i) : r ∈ R := by
  unfold partR at h
  exact List.mem_of_mem_take (List.mem_of_mem_drop h)
theorem partR_len (R : RL) (i : Nat) (hi : i < R.length) : (partR R i).length = endR R i - i := by
  have := endR_bd R i hi
  unfold partR
  rw [List.length_drop, List.length_take]; omega
theorem partR_dep (R : RL) (i : Nat) (hi : i < R.length) : dep (partR R i) 0 = dep R i := by
  have := endR_bd R i hi
  unfold partR dep
  simp only [List.getD, List.getElem?_drop, List.getElem?_take, Nat.add_zero]
  rw [if_pos (by omega)]
theorem dep_mem {R : RL} {i : Nat} (hi : i < R.length) : R.getD i (0, 0) ∈ R := by
  simp only [List.getD, List.getElem?_eq_getElem hi, Option.getD_some]; exact List.getElem_mem _
theorem any_snoc (L : RL) (f : Int × Int → Bool) (j : Nat) (hj : j < L.length) : (L.take (j + 1)).any f = ((L.take j).any f || f (L.getD j (0, 0))) := by
  rw [List.take_add_one, List.any_append, List.getElem?_eq_getElem hj]
  simp [List.getD, List.getElem?_eq_getElem hj]

/-- The rows of the part that moves, the first of them sunk already. -/
structure PartAt (L : RL) (k : Int) (g j m : Nat) (cur : Array Value) (wr : World) : Prop where
  h : wr.heap[g]? = some (.cells cur 83 (0, 0))
  nm : ∀ i, i < m → cur[i * 2]? = some (.int .i64 (L.getD i (0, 0)).1)
  dp : ∀ i, i < m → cur[i * 2 + 1]? = some (.int .i64 (if i < j then dep L i + k else dep L i))
theorem PartAt.below {L : RL} {k : Int} {g j m : Nat} {cur : Array Value} {wr w2 : World} (h : PartAt L k g j m cur wr) (hb : Below wr.heap.size wr w2) : PartAt L k g j m cur w2 :=
  ⟨(hb.block g (Array.getElem?_eq_some_iff.1 h.h).1).trans h.h, h.nm, h.dp⟩
theorem PartAt.step {L : RL} {k : Int} {g j m : Nat} {cur : Array Value} {wr : World} (h : PartAt L k g j m cur wr) (hj : j < m) :
    PartAt L k g (j + 1) m (cur.setIfInBounds (j * 2 + 1) (.int .i64 (dep L j + k))) (wr.setCell ⟨g, j * 2 + 1, none⟩ (.int .i64 (dep L j + k))) := by
  have hlt : j * 2 + 1 < cur.size := (Array.getElem?_eq_some_iff.1 (h.dp j hj)).1
  refine ⟨?_, fun i hi => ?_, fun i hi => ?_⟩
  · simp [World.setCell, Array.getElem?_modify, h.h]
  · rw [Array.getElem?_setIfInBounds_ne (by omega)]; exact h.nm i hi
  · by_cases hij : i = j
    · subst hij
      rw [Array.getElem?_setIfInBounds_self_of_lt hlt, if_pos (by omega)]
    · rw [Array.getElem?_setIfInBounds_ne (by omega), h.dp i hi]
      by_cases hlt2 : i < j
      · rw [if_pos hlt2, if_pos (by omega)]
      · rw [if_neg hlt2, if_neg (by omega)]
theorem PartAt.rows {L : RL} {k : Int} {g m C : Nat} {cur : Array Value} {wr : World} (h : PartAt L k g m m cur wr) (hm : L.length = m) (hC : m ≤ C) : RowsAt wr (some ⟨g, 0, none⟩) m C (shiftR L k) := by
  refine ⟨by rw [rv_length]; unfold shiftR; rw [List.length_map, hm], hC, (by intro h; cases h), fun _ => ⟨g, 0, cur, (0, 0), rfl, h.h, fun i hi => ?_⟩⟩
  rw [Nat.zero_add]
  obtain ⟨j, hj | hj⟩ : ∃ j, i = j * 2 ∨ i = j * 2 + 1 := ⟨i / 2, by omega⟩
  · subst hj
    have hjm : j < m := by omega
    rw [h.nm j hjm, ((rv_get (shiftR L k) j (by unfold shiftR; rw [List.length_map]; omega)).1)]
    simp [shiftR, List.getD, List.getElem?_eq_getElem (show j < L.length by omega)]
  · subst hj
    have hjm : j < m := by omega
    rw [h.dp j hjm, if_pos hjm, ((rv_get (shiftR L k) j (by unfold shiftR; rw [List.length_map]; omega)).2)]
    simp [shiftR, dep, List.getD, List.getElem?_eq_getElem (show j < L.length by omega)]
theorem PartAt.start {L : RL} {k : Int} {g m C : Nat} {base : Nat} {wr : World} (h : wr.ownsRow base 83 2 (.slice (some ⟨g, 0, none⟩) m C) m (rv L)) (hm : L.length = m) (h0 : 0 < m) : ∃ cur, PartAt L k g 0 m cur wr := by
  rcases h.2 with ⟨h1, h2⟩ | ⟨g', cap, cur, hv, hg, hh, hc, _, hz, ht⟩
  · omega
  · simp at hv
    obtain ⟨rfl, rfl⟩ := hv
    have key : ∀ i, i < m * 2 → cur[i]? = (rv L)[i]? := fun i hi => by
      rw [← ht, List.getElem?_take, if_pos hi]; simp
    refine ⟨cur, hh, fun i hi => ?_, fun i hi => ?_⟩
    · rw [key _ (by omega), (rv_get L i (by omega)).1]
    · rw [key _ (by omega), (rv_get L i (by omega)).2, if_neg (by omega)]

/-- All that lies in memory while a node moves. -/
structure MoveSt (w : World) (a : Option Addr) (n c : Nat) (nx : Int) (L : RL) (k : Int) (g j m : Nat) (cur : Array Value) (bk : Nat) (a' : Option Addr) (c' : Nat) (D : RL) (wr : World) : Prop where
  at_ : MoveAt w a n c nx wr
  part : PartAt L k g j m cur wr
  box : wr.heap[bk]? = some (.cells #[.slice a' D.length c', .int .i64 nx] 28 (0, 0))
  rows : RowsAt wr a' D.length c' D
section
variable {w : World} {a : Option Addr} {n c : Nat} {nx : Int} {L : RL} {k : Int} {g j m : Nat} {cur : Array Value} {bk : Nat} {a' : Option Addr} {c' : Nat} {D : RL} {wr w2 : World}
theorem MoveSt.below (h : MoveSt w a n c nx L k g j m cur bk a' c' D wr) (hb : Below wr.heap.size wr w2) : MoveSt w a n c nx L k g j m cur bk a' c' D w2 :=
  ⟨h.at_.below hb, h.part.below hb, (hb.block _ (Array.getElem?_eq_some_iff.1 h.box).1).trans h.box, Arr.below h.rows hb⟩
theorem MoveSt.step (h : MoveSt w a n c nx L k g j m cur bk a' c' D wr) (hj : j < m) (hg : w.heap.size + 2 ≤ g) (hgb : g < bk) (ho : (Value.slice a' D.length c').ownBlock ≠ some g) :
    MoveSt w a n c nx L k g (j + 1) m (cur.setIfInBounds (j * 2 + 1) (.int .i64 (dep L j + k))) bk a' c' D (wr.setCell ⟨g, j * 2 + 1, none⟩ (.int .i64 (dep L j + k))) := by
  have hk := (Kept.refl (fun b => b = g) wr).setCell (p := ⟨g, j * 2 + 1, none⟩) (Or.inl rfl) (.int .i64 (dep L j + k))
  have hbl : ∀ b, b < wr.heap.size → b ≠ g → (wr.setCell ⟨g, j * 2 + 1, none⟩ (.int .i64 (dep L j + k))).heap[b]? = wr.heap[b]? := fun b hb hne => hk.block b hb hne
  refine ⟨⟨h.at_.bel.setCell (p := ⟨g, j * 2 + 1, none⟩) (by show w.heap.size ≤ g; omega) _, ?_, ?_⟩, h.part.step hj, ?_, ?_⟩
  · rw [hbl _ (Array.getElem?_eq_some_iff.1 h.at_.h0).1 (by omega)]; exact h.at_.h0
  · rw [hbl _ (Array.getElem?_eq_some_iff.1 h.at_.h1).1 (by omega)]; exact h.at_.h1
  · rw [hbl _ (Array.getElem?_eq_some_iff.1 h.box).1 (by omega)]; exact h.box
  · refine ⟨Arr.len h.rows, h.rows.cap, h.rows.nil0, fun h0 => ?_⟩
    obtain ⟨b, o, cs, fr, ha, hh, hc⟩ := h.rows.cells h0
    refine ⟨b, o, cs, fr, ha, ?_, hc⟩
    rw [hbl b (Array.getElem?_eq_some_iff.1 hh).1 (by rintro rfl; exact ho (by rw [ha]; rfl))]; exact hh
theorem MoveSt.part_size (h : MoveSt w a n c nx L k g j m cur bk a' c' D wr) : g < wr.heap.size := (Array.getElem?_eq_some_iff.1 h.part.h).1
theorem MoveSt.box_size (h : MoveSt w a n c nx L k g j m cur bk a' c' D wr) : bk < wr.heap.size := (Array.getElem?_eq_some_iff.1 h.box).1
/-- Two cells of a new row of the part. -/
theorem MoveSt.cell (h : MoveSt w a n c nx L k g j m cur bk a' c' D wr) {i : Nat} (hi : i < m) : wr.cell? ⟨g, i * 2 + 1, none⟩ = some (.int .i64 (if i < j then dep L i + k else dep L i)) ∧ wr.frozen? ⟨g, i * 2 + 1, none⟩ = false :=
  ⟨(cell_of h.part.h _).trans (h.part.dp i hi), frozen_of h.part.h _⟩
end

set_option maxRecDepth 20000 in
set_option maxHeartbeats 3200000 in
/-- Move, where the nodes are and the parent doesn't lie below. -/
theorem rmove_any (b o n c : Nat) (nx x p q : Int) (R : RL) (hn : n ≤ 1024) (hx : x ≠ 0) (i : Nat) (hat : idx (R.map (·.1)) x = i) (hp0 : 0 ≤ idx (R.map (·.1)) p) (h6 : ¬ (idx (R.map (·.1)) x ≤ idx (R.map (·.1)) p ∧ idx (R.map (·.1)) p < endR R i)) (hdep : ∀ r ∈ R, 0 ≤ r.2 ∧ r.2 ≤ 64)
    (P : Nat) (hP : idx ((dropR R i).map (·.1)) p = P) (hpl : 0 ≤ q → q ≤ (kidsR (dropR R i) P).length → 0 ≤ placeR (dropR R i) P q.toNat ∧ placeR (dropR R i) P q.toNat ≤ (dropR R i).length) (w : World) (hs : RowsAt w (some ⟨b, o, none⟩) n c R) :
    Calls Try.prog 13 #[.agg #[.slice (some ⟨b, o, none⟩) n c, .int .i64 nx], .int .i64 x, .int .i64 p, .int .i64 q] w fun e w' => ∃ A' C' n', e = .returned (.tuple #[.agg #[.slice A' n' C', .int .i64 nx], .int .i64 (moveRE R x p q)]) ∧ Below w.heap.size w w' ∧ RowsAt w' A' n' C' (if moveRE R x p q = 0 then moveR R x p q.toNat else R) := by
  obtain ⟨i0, hi0, hz0, hz1, hz2⟩ := info_parts infoRow
  apply cps; intro R' hR
  have hlR := hs.len
  have hi : i < R.length := by
    have := idx_le (R.map (·.1)) x
    rw [hat, List.length_map] at this
    omega
  have hEd := endR_bd R i hi
  have hati : at_ R x = i := by unfold at_; rw [hat]; simp
  have hatp : at_ (dropR R i) p = P := by unfold at_; rw [hP]; simp
  have hPD : P < (dropR R i).length := by
    have := idx_le ((dropR R i).map (·.1)) p
    rw [hP, List.length_map] at this
    omega
  have hDn : (dropR R i).length ≤ n := by unfold dropR; rw [List.length_append, List.length_take, List.length_drop]; omega
  have hE : moveRE R x p q = if q < 0 ∨ ((kidsR (dropR R i) P).length : Int) < q then 2 else if (partR R i).any (fun r => decide (64 < r.2 + (dep (dropR R i) P + 1 - dep R i))) = true then 7 else 0 := by
    unfold moveRE deepR byR
    rw [if_neg hx, if_neg (by rw [hat]; omega), hati, if_neg h6, hatp]
  have hM : moveR R x p q.toNat = (dropR R i).take (placeR (dropR R i) P q.toNat).toNat ++ shiftR (partR R i) (dep (dropR R i) P + 1 - dep R i) ++ (dropR R i).drop (placeR (dropR R i) P q.toNat).toNat := by
    unfold moveR byR
    rw [hati, hatp]
  rw [hE, hM] at hR
  have hx0 : (x == 0) = false := beq_eq_false_iff_ne.2 hx
  have HM0 := hid (MoveAt.start w (some ⟨b, o, none⟩) n c nx)
  have HS := hid hs
  have AX := hid (fun (w' : World) (h : Below w.heap.size w w') => at_any (some ⟨b, o, none⟩) n c nx x R (by omega) w' (hs.below h))
  have AP := hid (fun (w' : World) (h : Below w.heap.size w w') => at_any (some ⟨b, o, none⟩) n c nx p R (by omega) w' (hs.below h))
  rw [hat] at AX
  have EE := hid (fun (w' : World) (h : Below w.heap.size w w') => end_any (some ⟨b, o, none⟩) n c nx i R (by omega) (by omega) w' (hs.below h))
  have DD := hid (fun (w' : World) (h : Below w.heap.size w w') => rdrop_own b o n c i nx x R (by omega) (by omega) hx hat w' (hs.below h))
  have hcap := hs.cap
  rw [hat] at h6
  generalize idx (R.map (·.1)) p = J at *
  have hLl := partR_len R i hi
  have hL0 := partR_dep R i hi
  have hLd : ∀ k, k < (partR R i).length → 0 ≤ dep (partR R i) k ∧ dep (partR R i) k ≤ 64 := fun k hk => hdep _ (partR_sub (dep_mem hk))
  have hDd : 0 ≤ dep (dropR R i) P ∧ dep (dropR R i) P ≤ 64 := hdep _ (dropR_sub (dep_mem hPD))
  have hLdef : partR R i = (R.take (endR R i)).drop i := rfl
  replace hLdef := hid hLdef
  have hdi : 0 ≤ dep R i ∧ dep R i ≤ 64 := hdep _ (dep_mem hi)
  rw [← hL0] at hR hdi
  obtain ⟨K, hK⟩ : ∃ K, K = dep (dropR R i) P + 1 - dep (partR R i) 0 := ⟨_, rfl⟩
  rw [← hK] at hR
  clear hL0 hdep hE hM hati hatp hat
  generalize partR R i = L at *
  generalize endR R i = E at *
  replace hP := hid hP
  replace hK := hid hK
  generalize dropR R i = D at *
  replace hLl := hid hLl
  replace hlR := hid hlR
  replace hLd := hid hLd
  replace hpl := hid hpl
  go_enter Try.func13, Try.ntmps13
  go_upto_region 3 with fail
  obtain ⟨s0, s1, s2, s3⟩ := two_cells HM0.out.h0
  go_cut [10, 11] from 19 (fun v10 v11 wx => v10 = .int .i64 i ∧ v11 = .int .i64 J ∧ MoveAt w (some ⟨b, o, none⟩) n c nx wx)
  case first =>
    go_region_law (first
      | (go_simp; go_at_call_of 33 (Value.int .i64 x); refine (AX.out _ (by first | exact hP'.out.bel | exact HM0.out.bel.drew)).mono ?_; rintro e wX ⟨rfl, hbX⟩; have hX := hid (MoveAt.below (by first | exact hP'.out | exact HM0.out.drew) hbX); obtain ⟨sX0, sX1, _, _⟩ := two_cells hX.out.h0; clear hbX)
      | (go_simp; go_at_call_of 33 (Value.int .i64 p); refine (AP.out _ (by first | exact hX.out.bel | exact HM0.out.bel.drew)).mono ?_; rintro e wP ⟨rfl, hbP⟩; have hP' := hid (MoveAt.below (by first | exact hX.out | exact HM0.out.drew) hbP); obtain ⟨sP0, sP1, _, _⟩ := two_cells hP'.out.h0; clear hbP))
    all_goals (go_wp2_with fail; go_meet; exact ⟨rfl, rfl, by first | exact hP'.out | exact hX.out⟩)
  case rest =>
    obtain ⟨rfl, rfl, hc⟩ := hcut
    have HC := hid hc
    obtain ⟨c0, c1, c2, c3⟩ := two_cells hc.h0
    have hsz := hc.size
    have E1 := hid (EE.out wc hc.bel)
    clear hc s0 s1 s2 s3 HM0 AX AP EE
    have hJ1 : ¬ J < 0 := by omega
    have hi1 : ¬ (i : Int) < 0 := by omega
    go_wp2_with fail
    refine E1.out.mono ?_
    rintro e w2 ⟨rfl, hb2⟩
    have HD := hid (HC.out.below hb2)
    obtain ⟨c0, c1, c2, c3⟩ := two_cells HD.out.h0
    have hsz := HD.out.size
    clear hb2 E1 HC
    go_upto_region 7 with fail
    go_cut [45] from 38 (fun v wx => v = .bool false ∧ wx = w2)
    case first =>
      by_cases hJi : (i : Int) ≤ J
      · have hJE : ¬ J < E := fun h => h6 ⟨hJi, h⟩
        go_wp2_with fail
        go_meet
        exact ⟨rfl, rfl⟩
      · go_wp2_with fail
        go_meet
        exact ⟨rfl, rfl⟩
    case rest =>
      obtain ⟨rfl, rfl⟩ := hcut
      clear c0 c1 c2 c3 h6 hp0 hJ1 hi1
      have HDa := hid (HD.out.below ((Below.refl _ _).alloc (Nat.le_refl _) (.cells #[] 83)))
      have A1 : Arr (wc.alloc (.cells #[] 83)) 83 2 (some ⟨b, o + i * 2, none⟩) (E - i) (c - i) (rv L) := by
        have := Arr.cutHi (Arr.cutLo (Arr.below HS.out HDa.out.bel) (show E ≤ n by have := hlR.out; omega)) (show i ≤ E by omega)
        rw [rv_take, rv_drop, ← hLdef.out] at this
        exact this
      have hown0 := own_lit wc wc.heap.size 83 (Nat.le_refl _) #[] 0 2 rfl (by unfold maxLen; omega)
      obtain ⟨c0, c1, c2, c3⟩ := two_cells HD.out.h0
      have hlt0 : w.heap.size < wc.heap.size := by omega
      have hiE : (i : Int) ≤ E := by omega
      have hEc : (E : Int) ≤ c := by have := hlR.out; omega
      have hEcN : E ≤ c := by have := hlR.out; omega
      have hiEN : i ≤ E := by omega
      have hci : ¬ c - i = 0 := by have := hlR.out; omega
      replace A1 := hid A1
      replace hown0 := hid hown0
      replace hEd := hid hEd
      replace hi := hid hi
      go_wp2_with (at_builtin; refine wp_append_any _ rfl _ _ 26 rfl wc.heap.size 83 i0 (.agg #[.int .i64 0, .int .i64 0]) 2 16 Try.underlying26 hi0 hz0 hz1 hz2 rfl (by decide) _ _ _ rfl hown0.out _ (E - i) (c - i) _ rfl A1.out ?c1 ?c2 ?c3 ?c4 ?_)
      case c1 => exact rv_one _
      case c2 => have := hlR.out; have := hEd.out; unfold maxLen; omega
      case c3 => have := hlR.out; have := hEd.out; omega
      intro v3 w3 hown3 hg3 hloc3
      rcases hown3.2 with ⟨hv3, h03⟩ | ⟨g, cap3, cur3, hv3, hg, hh3, hc3, _, _, _⟩
      · exfalso; have := hEd.out; omega
      subst hv3
      have hm0 : 0 < E - i := by have := hEd.out; omega
      have hb3 : Below wc.heap.size wc w3 := ((Below.refl wc.heap.size wc).alloc (Nat.le_refl _) _).grown hg3 (by simp) (fun k hk => by simp [Value.ownBlock] at hk; omega)
      have HE := hid (HD.out.below hb3)
      clear hg3 hloc3 hb3 A1 hown0 HDa hlt0 hsz c0 c1 c2 c3
      generalize hm : E - i = m at *
      replace hm := hid hm
      obtain ⟨cur, HPt⟩ := PartAt.start (k := K) hown3 hLl.out hm0
      replace HPt := hid HPt
      have hgl : g < w3.heap.size := (Array.getElem?_eq_some_iff.1 hh3).1
      have hgw : w.heap.size + 2 ≤ g := Nat.le_trans HD.out.size hg
      have hmN : m ≤ 1024 := by have := hm.out; have := hEd.out; have := hlR.out; omega
      clear hown3 hh3 hg HD hi hiE hEc hEcN hiEN hci hEd hLdef
      obtain ⟨c0, c1, c2, c3⟩ := two_cells HE.out.h0
      have D1 := hid (DD.out w3 HE.out.bel)
      clear DD
      go_wp2_with fail
      refine D1.out.mono ?_
      rintro e w4 ⟨a', c', rfl, hb4, hown4, hrows4⟩
      have HF := hid (HE.out.below hb4)
      have HPu := hid (HPt.out.below hb4)
      have hgl4 : g < w4.heap.size := Nat.lt_of_lt_of_le hgl hb4.size
      have hba := (Below.refl w4.heap.size w4).alloc (Nat.le_refl _) (.cells #[.slice a' D.length c', .int .i64 nx] 28)
      have hbx := hid ((heap_alloc w4 (.cells #[.slice a' D.length c', .int .i64 nx] 28)).1)
      have HF5 := hid (HF.out.below hba)
      have HP5 := hid (HPu.out.below hba)
      have HR5 := hid (hrows4.below hba)
      have C2 := at_any a' D.length c' nx p D (by omega) (w4.alloc (.cells #[.slice a' D.length c', .int .i64 nx] 28)) HR5.out
      rw [hP.out] at C2
      replace C2 := hid C2
      clear hba hb4 c0 c1 c2 c3 D1
      go_wp2_with fail
      refine C2.out.mono ?_
      rintro e w5 ⟨rfl, hb5⟩
      have HSt := hid (show MoveSt w (some ⟨b, o, none⟩) n c nx L K g 0 m cur w4.heap.size a' c' D w5 from ⟨HF5.out.below hb5, HP5.out.below hb5, (hb5.block _ (by simp)).trans hbx.out, Arr.below HR5.out hb5⟩)
      have hao : (Value.slice a' D.length c').ownBlock ≠ some g := fun h => by have := hown4 g h; omega
      clear hb5 HF5 HP5 HR5 hbx hown4 hrows4 HF HPu HE HPt hgl
      generalize w4.heap.size = bk at *
      obtain ⟨c0, c1, c2, c3⟩ := two_cells HSt.out.box
      obtain ⟨d0, d1, d2, d3⟩ := two_cells HSt.out.at_.h0
      obtain ⟨e0, e1, e2, e3⟩ := two_cells HSt.out.at_.h1
      have K1 := hid (rkids_any a' D.length c' nx P D (by omega) hPD w5 HSt.out.rows)
      by_cases hq : q < 0
      · rw [if_pos (Or.inl hq), if_neg (show ¬ (2 : Int) = 0 by decide)] at hR
        have hq' : decide (q < 0) = true := by simpa using hq
        clear hpl K1
        go_wp2_with fail
        refine bodyPost_ret (v := .tuple #[.agg #[.slice (some ⟨b, o, none⟩) n c, .int .i64 nx], .int .i64 2]) (by simp [results, Try.results13, go_sem, World.cell?, World.setCell, Array.getElem?_modify, HSt.out.at_.h1]) rfl (hR.out _ _ ⟨_, _, _, rfl, (HSt.out.at_.bel.setCell (p := ⟨w.heap.size + 1, 0, none⟩) (by show w.heap.size ≤ w.heap.size + 1; omega) _).setCell (p := ⟨w.heap.size + 1, 1, none⟩) (by show w.heap.size ≤ w.heap.size + 1; omega) _, Arr.below HS.out ((HSt.out.at_.bel.setCell (p := ⟨w.heap.size + 1, 0, none⟩) (by show w.heap.size ≤ w.heap.size + 1; omega) _).setCell (p := ⟨w.heap.size + 1, 1, none⟩) (by show w.heap.size ≤ w.heap.size + 1; omega) _)⟩)
      · have hq' : decide (q < 0) = false := by simpa using hq
        go_wp2_with fail
        refine K1.out.mono ?_
        rintro e w6 ⟨hb6, A6, C6, rfl, _⟩
        have HSu := hid (HSt.out.below hb6)
        clear K1 hb6 HSt c0 c1 c2 c3 d0 d1 d2 d3 e0 e1 e2 e3
        obtain ⟨c0, c1, c2, c3⟩ := two_cells HSu.out.box
        obtain ⟨d0, d1, d2, d3⟩ := two_cells HSu.out.at_.h0
        obtain ⟨e0, e1, e2, e3⟩ := two_cells HSu.out.at_.h1
        by_cases hk : ((kidsR D P).length : Int) < q
        · rw [if_pos (Or.inr hk), if_neg (show ¬ (2 : Int) = 0 by decide)] at hR
          have hk' : decide (((kidsR D P).length : Int) < q) = true := by simpa using hk
          clear hpl
          go_wp2_with fail
          refine bodyPost_ret (v := .tuple #[.agg #[.slice (some ⟨b, o, none⟩) n c, .int .i64 nx], .int .i64 2]) (by simp [results, Try.results13, go_sem, World.cell?, World.setCell, Array.getElem?_modify, HSu.out.at_.h1]) rfl (hR.out _ _ ⟨_, _, _, rfl, (HSu.out.at_.bel.setCell (p := ⟨w.heap.size + 1, 0, none⟩) (by show w.heap.size ≤ w.heap.size + 1; omega) _).setCell (p := ⟨w.heap.size + 1, 1, none⟩) (by show w.heap.size ≤ w.heap.size + 1; omega) _, Arr.below HS.out ((HSu.out.at_.bel.setCell (p := ⟨w.heap.size + 1, 0, none⟩) (by show w.heap.size ≤ w.heap.size + 1; omega) _).setCell (p := ⟨w.heap.size + 1, 1, none⟩) (by show w.heap.size ≤ w.heap.size + 1; omega) _)⟩)
        · rw [if_neg (show ¬ (q < 0 ∨ ((kidsR D P).length : Int) < q) by omega)] at hR
          have hk' : decide (((kidsR D P).length : Int) < q) = false := by simpa using hk
          have hpl1 := hpl.out (by omega) (by omega)
          clear hpl
          obtain ⟨q', rfl⟩ := Int.eq_ofNat_of_zero_le (show 0 ≤ q by omega)
          simp only [Int.toNat_natCast] at hR hpl1
          have PP := hid (fun (w' : World) (h : RowsAt w' a' D.length c' D) => place_any a' D.length c' nx P q' D (by omega) hPD w' h)
          obtain ⟨pl, hplE⟩ : ∃ pl : Nat, placeR D P q' = pl := ⟨(placeR D P q').toNat, by omega⟩
          rw [hplE] at hR PP hpl1
          simp only [Int.toNat_natCast] at hR
          clear hplE
          have hrw := HSu.out.rows
          obtain ⟨b', o', rfl, hbl', hcc⟩ := RowsAt.cellsAt hrw (by omega)
          have kd := (hcc P hPD).2
          change w6.cell? _ = some (.int .i64 (dep D P)) at kd
          have ld := (HSu.out.cell (i := 0) hm0).1
          rw [if_neg (by omega)] at ld
          simp only [Nat.zero_mul, Nat.zero_add] at ld
          have hKo := hK.out
          clear hcc hrw
          generalize dep D P = dp at *
          generalize hld : dep L 0 = l0 at *
          replace hld := hid hld
          have hw1 : IntKind.i64.wrap (dp + 1) = dp + 1 := by unfold IntKind.wrap; simp [IntKind.bits, IntKind.signed]; omega
          have hw2 : IntKind.i64.wrap (dp + 1 - l0) = K := by rw [hKo]; unfold IntKind.wrap; simp [IntKind.bits, IntKind.signed]; omega
          have hKb : -64 ≤ K ∧ K ≤ 65 := by omega
          clear hKo
          have hPI : (P : Int) < D.length := by omega
          have hmI : (0 : Int) < m := by omega
          go_wp2_with fail
          go_quiet (fail)
          go_wp2_with fail
          have HSv := hid (HSu.out.below ((Below.refl _ _).drewN nq))
          clear HSu c0 c1 c2 c3 d0 d1 d2 d3 e0 e1 e2 e3 kd ld hw1 hw2 hbl' C2 hdi hDd
          go_loopw [17, 18] (fun dS jS wr => ∃ (j : Nat) (cur' : Array Value), j ≤ m ∧ jS = .int .i64 j ∧ dS = .bool ((L.take j).any (fun r => decide (64 < r.2 + K))) ∧ MoveSt w (some ⟨b, o, none⟩) n c nx L K g j m cur' bk (some ⟨b', o', none⟩) c' D wr) (fun _ jS _ => m - (intOf jS).toNat)
          case atStart => exact ⟨0, cur, Nat.zero_le _, rfl, rfl, HSv.out⟩
          case round =>
            obtain ⟨j, cur', hj, rfl, hdS, hSt⟩ := hrel
            generalize hB : (L.take j).any (fun r => decide (64 < r.2 + K)) = B at hdS
            subst hdS
            have HSt := hid hSt
            have hjI : (j : Int) < m ∨ ¬ (j : Int) < m := Classical.em _
            by_cases hlt : j < m
            · have hltI : (j : Int) < m := by omega
              obtain ⟨ld, lf⟩ := hSt.cell hlt
              rw [if_neg (by omega)] at ld
              have hst := hSt.step hlt hgw hgl4 hao
              have hsn := any_snoc L (fun r => decide (64 < r.2 + K)) j (by rw [hLl.out]; exact hlt)
              rw [hB] at hsn
              change _ = (B || decide (64 < dep L j + K)) at hsn
              have hd := hLd.out j (by rw [hLl.out]; exact hlt)
              have hw3 : IntKind.i64.wrap (dep L j + K) = dep L j + K := by unfold IntKind.wrap; simp [IntKind.bits, IntKind.signed]; omega
              generalize dep L j = dj at *
              replace hsn := hid hsn
              replace hst := hid hst
              clear hSt HSt HSv hB
              cases B
              · go_wp2_with fail
                go_roundw
                case rel => exact ⟨j + 1, _, by omega, by go_num, by rw [hsn.out]; rfl, hst.out⟩
                case measure => simp [intOf]; omega
              · go_wp2_with fail
                go_roundw
                case rel => exact ⟨j + 1, _, by omega, by go_num, by rw [hsn.out]; rfl, hst.out⟩
                case measure => simp [intOf]; omega
            · obtain rfl : j = m := by omega
              have hltI : ¬ (j : Int) < j := by omega
              have hBL : L.any (fun r => decide (64 < r.2 + K)) = B := by rw [← hB, List.take_of_length_le (by rw [hLl.out]; exact Nat.le_refl _)]
              rw [hBL] at hR
              clear hB hBL HSv hSt
              obtain ⟨c0, c1, c2, c3⟩ := two_cells HSt.out.box
              obtain ⟨d0, d1, d2, d3⟩ := two_cells HSt.out.at_.h0
              obtain ⟨e0, e1, e2, e3⟩ := two_cells HSt.out.at_.h1
              cases B
              · rw [if_neg (show ¬ (false = true) by decide), if_pos (show (0 : Int) = 0 from rfl)] at hR
                go_wp2_with fail
                go_region_law (first
                  | (go_simp; go_at_call 41; refine (PP.out _ (Arr.below HSt.out.rows (Below.refl _ _).drew)).mono ?_; rintro e w7 ⟨rfl, hb7⟩; have HSw := hid (HSt.out.below ((Below.refl _ _).drew.trans hb7)); obtain ⟨f0, f1, _, _⟩ := two_cells HSw.out.box; clear hb7)
                  | (go_simp; go_at_call 40; refine (with_any b' o' D.length c' pl nx D (shiftR L K) (some ⟨g, 0, none⟩) j cap3 (by omega) (by omega) (by omega) (by omega) _ HSw.out.rows (HSw.out.part.rows hLl.out hc3)).mono ?_; rintro e w8 ⟨a8, c8, rfl, hb8, hr8⟩; have HSx := hid (HSw.out.below hb8); obtain ⟨x0, x1, x2, x3⟩ := two_cells HSx.out.at_.h1; replace hr8 := hid hr8; clear hb8))
                all_goals (
                  clear c0 c1 c2 c3 d0 d1 d2 d3 e0 e1 e2 e3
                  go_wp2_with fail
                  refine bodyPost_ret (v := .tuple #[.agg #[.slice a8 (D.length + j) c8, .int .i64 nx], .int .i64 0]) (by simp [results, Try.results13, go_sem, World.cell?, World.setCell, Array.getElem?_modify, HSx.out.at_.h1]) rfl (hR.out _ _ ⟨_, _, _, rfl, (HSx.out.at_.bel.setCell (p := ⟨w.heap.size + 1, 0, none⟩) (by show w.heap.size ≤ w.heap.size + 1; omega) _).setCell (p := ⟨w.heap.size + 1, 1, none⟩) (by show w.heap.size ≤ w.heap.size + 1; omega) _, ?_⟩)
                  refine Arr.kept hr8.out (((Kept.refl (fun b => b = w.heap.size + 1) w8).setCell (p := ⟨w.heap.size + 1, 0, none⟩) (Or.inl rfl) _).setCell (p := ⟨w.heap.size + 1, 1, none⟩) (Or.inl rfl) _) (fun b cs fr hh hS => ?_)
                  subst hS
                  rw [HSx.out.at_.h1] at hh
                  cases hh)
              · rw [if_pos (show true = true from rfl), if_neg (show ¬ (7 : Int) = 0 by decide)] at hR
                go_wp2_with fail
                refine bodyPost_ret (v := .tuple #[.agg #[.slice (some ⟨b, o, none⟩) n c, .int .i64 nx], .int .i64 7]) (by simp [results, Try.results13, go_sem, World.cell?, World.setCell, Array.getElem?_modify, HSt.out.at_.h1]) rfl (hR.out _ _ ⟨_, _, _, rfl, (HSt.out.at_.bel.setCell (p := ⟨w.heap.size + 1, 0, none⟩) (by show w.heap.size ≤ w.heap.size + 1; omega) _).setCell (p := ⟨w.heap.size + 1, 1, none⟩) (by show w.heap.size ≤ w.heap.size + 1; omega) _, Arr.below HS.out ((HSt.out.at_.bel.setCell (p := ⟨w.heap.size + 1, 0, none⟩) (by show w.heap.size ≤ w.heap.size + 1; omega) _).setCell (p := ⟨w.heap.size + 1, 1, none⟩) (by show w.heap.size ≤ w.heap.size + 1; omega) _)⟩)
end Go.Proofs.Ytfgphleophghnaa
