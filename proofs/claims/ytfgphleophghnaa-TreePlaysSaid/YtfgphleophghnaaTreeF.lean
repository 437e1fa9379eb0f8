/- Contracts of tree.Drop, height, Move. -/
import Derived.Test.YtfgphleophghnaaTreeE
set_option linter.unusedVariables false
set_option linter.unusedSimpArgs false
namespace Go.Proofs.Ytfgphleophghnaa
open Go.RowKit Go.MapKept

theorem takeM_some {M : TM} {n : Int} (hp : (M (parOf M n)).isSome = true) (i : Int) : (takeM M n i).isSome = (M i).isSome := by
  unfold takeM; by_cases h : i = parOf M n
  · rw [if_pos h, h, hp]; rfl
  · rw [if_neg h]
theorem takeM_par {M : TM} {n : Int} (i : Int) : parOf (takeM M n) i = parOf M i := by
  unfold parOf takeM; by_cases h : i = parOf M n
  · rw [if_pos h, h]; rfl
  · rw [if_neg h]
theorem takeM_kids {M : TM} {n : Int} (i : Int) : kidsOf (takeM M n) i = if i = parOf M n then wo (kidsOf M i) n else kidsOf M i := by
  by_cases h : i = parOf M n
  · subst h; simp [kidsOf, takeM]
  · simp [kidsOf, takeM, h]
theorem wo_sub (l : List Int) (x : Int) : ∀ y, y ∈ wo l x ↔ y ∈ l ∧ y ≠ x := by intro y; simp [wo]
theorem WK.take {M : TM} {d : Int → Nat} {next sz : Nat} (h : WK M d next sz) {n : Int} (hn : (M n).isSome = true) (hn0 : n ≠ 0) : WK (takeM M n) d next sz := by
  have hp := (h.up n hn hn0).1
  have hs := takeM_some hp
  refine ⟨⟨by rw [takeM_par]; exact h.root.1, by rw [hs]; exact h.root.2⟩, h.d0, fun k hk h0 => ?_, fun k hk c hc => ?_, fun k => ?_, fun k hk => ?_, fun k hk => ?_, ?_⟩
  · rw [hs] at hk; rw [takeM_par, hs]; exact h.up k hk h0
  · rw [hs] at hk; rw [hs, takeM_par]
    rw [takeM_kids] at hc
    refine h.kidm k hk c ?_
    by_cases hkp : k = parOf M n
    · rw [if_pos hkp] at hc; exact ((wo_sub _ _ _).1 hc).1
    · rw [if_neg hkp] at hc; exact hc
  · rw [takeM_kids]
    by_cases hkp : k = parOf M n
    · rw [if_pos hkp]; exact (h.nodup k).sublist List.filter_sublist
    · rw [if_neg hkp]; exact h.nodup k
  · rw [hs] at hk; exact h.dle k hk
  · rw [hs] at hk; exact h.range k hk
  · obtain ⟨l, l1, l2, l3⟩ := h.fin
    exact ⟨l, l1, l2, fun k => by rw [hs]; exact l3 k⟩
/-- Below a node nothing has turned where its ancestors alone have. -/
theorem below_same {M M' : TM} {d : Int → Nat} {next sz : Nat} (h : WK M d next sz) (b : Nat) (hM : ∀ i, b ≤ d i → kidsOf M' i = kidsOf M i) : ∀ (f : Nat) (k : Int), (M k).isSome = true → b ≤ d k → belowL f M' k = belowL f M k
  | 0, _, _, _ => rfl
  | f + 1, k, hk, hb => by
    simp only [belowL]
    rw [hM k hb]
    congr 1
    refine flatMap_same _ fun c hc => ?_
    obtain ⟨c0, c1, c2, c3⟩ := h.kid_mem hk hc
    exact below_same h b hM f c c1 (by omega)
theorem below_take {M : TM} {d : Int → Nat} {next sz : Nat} (h : WK M d next sz) {n : Int} (hn : (M n).isSome = true) (hn0 : n ≠ 0) (f : Nat) : belowL f (takeM M n) n = belowL f M n := by
  have hp := (h.up n hn hn0).2
  exact below_same h (d n) (fun i hi => by rw [takeM_kids, if_neg]; rintro rfl; omega) f n hn (Nat.le_refl _)

/-- A node deleted. -/
theorem TreeAt.run_delete {w : World} {bt bm : Nat} {M : TM} {next sz : Nat} (h : TreeAt w bt bm M next sz) (k : Int) (ty : TypeId) :
    ∃ w', (Builtin.delete_ #[79, 3] ty #[.map (some bm), .int .i64 k]).run Try.prog w = .ok (.tuple #[]) w' ∧ TreeAt w' bt bm (fun i => if i = k then none else M i) next (if (M k).isSome then sz - 1 else sz) ∧ Kept (· = bm) w w' ∧ w'.heap.size = w.heap.size := by
  obtain ⟨V, hV, hN⟩ := h.map
  obtain ⟨w', h1, h2, h3, h4⟩ := hV.run_delete (P := Try.prog) (ty := ty) u_nodes u_int k
  have hk : ∀ (b : Nat) cs fr, w.heap[b]? = some (Obj.cells cs 3 fr) → w'.heap[b]? = some (Obj.cells cs 3 fr) := fun b cs fr hb => (h3.block b (Array.getElem?_eq_some_iff.1 hb).1 (hV.ne hb)).trans hb
  rw [(hN k).get] at h2
  have hc := (h3.block bt (Array.getElem?_eq_some_iff.1 h.cell).1 (hV.ne h.cell)).trans h.cell
  refine ⟨w', h1, ⟨hc, ⟨_, h2, ?_⟩⟩, h3, h4⟩
  intro i
  by_cases hik : i = k
  · simp only [if_pos hik]; trivial
  · simp only [if_neg hik]; exact (hN i).keep hk

/-- The nodes of a list deleted. -/
def delM (M : TM) (l : List Int) : TM := fun i => if i ∈ l then none else M i
theorem delM_nil (M : TM) : delM M [] = M := by funext i; simp [delM]
theorem delM_snoc (M : TM) (l : List Int) (y : Int) : (fun i => if i = y then none else delM M l i) = delM M (l ++ [y]) := by
  funext i
  unfold delM
  by_cases h : i = y
  · simp [h]
  · by_cases h2 : i ∈ l <;> simp [h, h2]

set_option maxRecDepth 20000 in
/-- Tree.Drop that succeeds. -/
theorem drop_any (n : Int) (w : World) (bt bm : Nat) (M : TM) (d : Int → Nat) (next sz : Nat) (hW : WK M d next sz) (hT : TreeAt w bt bm M next sz) (hn : (M n).isSome = true) (hn0 : n ≠ 0) (hsz : sz ≤ 1024) :
    Calls Try.prog 10 #[.pointer (some ⟨bt, 0, none⟩), .int .i64 n] w fun e w' => e = .returned (.int .i64 0) ∧ Kept (· = bm) w w' ∧ TreeAt w' bt bm (delM (takeM M n) (belowL 65 M n)) next (sz - (belowL 65 M n).length) := by
  have hp := (hW.up n hn hn0).1
  have hlk := length_kids hW (parOf M n)
  have hWt := hW.take hn hn0
  have hbt := below_take hW hn hn0 65
  have hlb := length_below hWt 65 n (by rw [takeM_some hp]; exact hn)
  have hnd := nodup_below hWt 65 n (by rw [takeM_some hp]; exact hn)
  have hmb := mem_below hWt 65 n
  have hn00 : (n == 0) = false := beq_eq_false_iff_ne.2 hn0
  apply cps; intro R hR
  have C1 := hid (has_any n w bt bm M next sz hT)
  have HT := hid hT
  clear hT
  rw [← hbt] at hR
  clear hbt
  go_enter Try.func10, Try.ntmps10
  go_wp2_with fail
  refine C1.out.mono ?_
  rintro e w1 ⟨rfl, hb⟩
  rw [hn]
  have hT1 := HT.out.below hb
  have C2 := hid (take_any n w1 bt bm M next sz hT1 hp (by omega))
  have hk1 := hid (Kept.below (S := (· = bm)) hb)
  clear C1 HT hT1
  go_wp2_with fail
  refine C2.out.mono ?_
  rintro e w2 ⟨rfl, hk2, hT2⟩
  have hk2 := hid (hk1.out.trans hk2)
  have hnt : (takeM M n n).isSome = true := by rw [takeM_some hp]; exact hn
  have C3 := hid (below_any bt bm (takeM M n) d next sz hWt hsz 65 n hnt (by omega) w2 hT2)
  have hT2 := hid hT2
  clear C2 hk1
  generalize belowL 65 (takeM M n) n = L at *
  generalize takeM M n = M1 at *
  go_wp2_with fail
  refine C3.out.mono ?_
  rintro e w3 ⟨hb3, A, C, rfl, hown⟩
  have hT3 := hid (hT2.out.below hb3)
  have hk3 := hid (hk2.out.trans (Kept.below hb3))
  have HO := hid (arr_of_own hown)
  have hlt3 := hid (hT2.out.lt)
  clear C3 hb3 hown hT2
  go_wp2_with fail
  go_loopw [6, 26] (fun k i wr => ∃ j : Nat, j ≤ L.length ∧ i = .int .i64 j ∧ Kept (· = bm) w wr ∧ Kept (· = bm) w3 wr ∧ TreeAt wr bt bm (delM M1 (L.take j)) next (sz - j)) (fun _ i _ => L.length - (intOf i).toNat)
  case atStart => exact ⟨0, Nat.zero_le _, rfl, hk3.out, Kept.refl _ _, by rw [List.take_zero, delM_nil]; exact hT3.out⟩
  case round =>
    obtain ⟨j, hj, rfl, hkw, hk3w, hTr⟩ := hrel
    have hkw := hid hkw
    obtain ⟨d0, d1⟩ := hTr.cells
    by_cases hlt : j < L.length
    · obtain ⟨b, o, rfl, hb2, hc⟩ := Ints.atI (l := L) (HO.out.kept hk3w (by rintro b cs fr hb rfl; obtain ⟨V, hV, _⟩ := hT3.out.map; exact hV.ne hb rfl)) (by omega)
      have c0 := hc j hlt
      have hy : L.getD j 0 ∉ L.take j ∧ (M1 (L.getD j 0)).isSome = true := by
        have e1 : L.getD j 0 = L[j] := by simp [List.getD, List.getElem?_eq_getElem hlt]
        rw [e1]
        refine ⟨fun hm => ?_, (hmb _ hnt (List.getElem_mem hlt)).1⟩
        obtain ⟨i, hi, e⟩ := List.getElem_of_mem hm
        simp only [List.length_take] at hi
        rw [List.getElem_take] at e
        have := (List.nodup_iff_pairwise_ne.1 hnd)
        rw [List.pairwise_iff_getElem] at this
        exact this i j (by omega) hlt (by omega) e
      have hsn : L.take (j + 1) = L.take j ++ [L.getD j 0] := by simp [List.getD, List.getElem?_eq_getElem hlt]
      generalize L.getD j 0 = y at *
      obtain ⟨w4, hdl, hT4, hk4, hz4⟩ := hTr.run_delete y 0
      rw [delM_snoc, ← hsn] at hT4
      have hsome : (delM M1 (L.take j) y).isSome = true := by unfold delM; rw [if_neg hy.1]; exact hy.2
      rw [if_pos hsome] at hT4
      have hT4 := hid hT4
      have hk5 := hid (hkw.out.trans hk4)
      have hk6 := hid (hk3w.trans hk4)
      clear hc hsn hk3w hTr hk4 hy hsome hmb hnd
      go_wp2_with fail
      go_roundw
      case rel => exact ⟨j + 1, by omega, by go_num, hk5.out, hk6.out, by rw [show sz - (j + 1) = sz - j - 1 by omega]; exact hT4.out⟩
      case measure => simp [intOf]; omega
    · have hjn : j = L.length := by omega
      have hTr : TreeAt wr bt bm (delM M1 L) next (sz - L.length) := by rw [hjn, List.take_length] at hTr; exact hTr
      have hTr := hid hTr
      have hltn : ¬ (j : Int) < (L.length : Nat) := by omega
      clear hk3w hmb hnd hjn
      go_wp2_with fail
      exact hR.out _ _ ⟨rfl, hkw.out, hTr.out⟩

set_option maxRecDepth 20000 in
/-- Tree.Drop that is refused. -/
theorem drop_no (n : Int) (w : World) (bt bm : Nat) (M : TM) (next sz : Nat) (hT : TreeAt w bt bm M next sz) (h : n = 0 ∨ M n = none) :
    Calls Try.prog 10 #[.pointer (some ⟨bt, 0, none⟩), .int .i64 n] w fun e w' => e = .returned (.int .i64 (if n = 0 then 1 else 9)) ∧ Below w.heap.size w w' := by
  apply cps; intro R hR
  have C1 := hid (has_any n w bt bm M next sz hT)
  clear hT
  by_cases hn : n = 0
  · subst hn
    clear C1
    go_enter Try.func10, Try.ntmps10
    go_wp2_with fail
    exact hR.out _ _ ⟨rfl, Below.refl _ _⟩
  · have hM : (M n).isSome = false := by rw [h.resolve_left hn]; rfl
    rw [hM] at C1
    rw [if_neg hn] at hR
    have hn00 : (n == 0) = false := beq_eq_false_iff_ne.2 hn
    go_enter Try.func10, Try.ntmps10
    go_wp2_with fail
    refine C1.out.mono ?_
    rintro e w1 ⟨rfl, hb⟩
    have hb := hid hb
    clear C1
    go_wp2_with fail
    exact hR.out _ _ ⟨rfl, hb.out⟩

/-- How many lie below a node, one below the other. -/
def heightL (d : Int → Nat) (n : Int) (l : List Int) : Nat := l.foldl (fun m k => max m (d k - d n)) 0
theorem heightL_snoc (d : Int → Nat) (n : Int) (l : List Int) (y : Int) : heightL d n (l ++ [y]) = max (heightL d n l) (d y - d n) := by simp [heightL]

set_option maxRecDepth 20000 in
/-- Tree.height. -/
theorem height_any (n : Int) (w : World) (bt bm : Nat) (M : TM) (d : Int → Nat) (next sz : Nat) (hW : WK M d next sz) (hT : TreeAt w bt bm M next sz) (hn : (M n).isSome = true) (hsz : sz ≤ 1024) :
    Calls Try.prog 37 #[.pointer (some ⟨bt, 0, none⟩), .int .i64 n] w fun e w' => e = .returned (.int .i64 (heightL d n (belowL 65 M n) : Nat)) ∧ Below w.heap.size w w' := by
  have hlb := length_below hW 65 n hn
  have hmb := mem_below hW 65 n
  have hdn := hW.dle n hn
  apply cps; intro R hR
  have C1 := hid (below_any bt bm M d next sz hW hsz 65 n hn (by omega) w hT)
  have HT := hid hT
  clear hT
  generalize belowL 65 M n = L at *
  go_enter Try.func37, Try.ntmps37
  go_wp2_with fail
  refine C1.out.mono ?_
  rintro e w1 ⟨hb1, A, C, rfl, hown⟩
  have HO := hid (arr_of_own hown)
  have hT1 := hid (HT.out.below hb1)
  have hb1 := hid hb1
  clear C1 hown HT
  go_wp2_with fail
  go_loopw [5, 7, 12] (fun o k i wr => ∃ j : Nat, j ≤ L.length ∧ i = .int .i64 j ∧ o = .int .i64 (heightL d n (L.take j) : Nat) ∧ heightL d n (L.take j) ≤ 64 ∧ Below w.heap.size w wr ∧ Below w1.heap.size w1 wr) (fun _ _ i _ => L.length - (intOf i).toNat)
  case atStart => exact ⟨0, Nat.zero_le _, rfl, rfl, Nat.zero_le _, hb1.out, Below.refl _ _⟩
  case round =>
    obtain ⟨j, hj, rfl, rfl, h64, hbw, hb1w⟩ := hrel
    have hbw := hid hbw
    by_cases hlt : j < L.length
    · obtain ⟨b, o, rfl, hb2, hc⟩ := Ints.atI (l := L) (HO.out.below hb1w) (by omega)
      have c0 := hc j hlt
      have e1 : L.getD j 0 = L[j] := by simp [List.getD, List.getElem?_eq_getElem hlt]
      have hy := hmb (L.getD j 0) hn (by rw [e1]; exact List.getElem_mem hlt)
      have hsn : L.take (j + 1) = L.take j ++ [L.getD j 0] := by simp [List.getD, List.getElem?_eq_getElem hlt]
      have hdy := hW.dle _ hy.1
      have hTr := hT1.out.below hb1w
      have hms := heightL_snoc d n (L.take j) (L.getD j 0)
      rw [← hsn] at hms
      generalize L.getD j 0 = y at *
      have D1 := hid (depth_any bt bm M d next sz hW _ y rfl hy.1 wr hTr)
      have D2 := hid (fun (w' : World) (hb : Below wr.heap.size wr w') => depth_any bt bm M d next sz hW _ n rfl hn w' (hTr.below hb))
      have hb1w := hid hb1w
      have hms := hid hms
      have hyle := hy.2.1
      have hg : ∀ q : Nat, heightL d n (L.take (j + 1)) = q → q = max (heightL d n (L.take j)) (d y - d n) := fun q hq => by rw [← hq]; exact hms.out
      have hg := hid hg
      generalize heightL d n (L.take j) = m at *
      generalize d y = dy at *
      generalize d n = dn at *
      clear hc hsn hTr hmb hy e1
      go_wp2_with fail
      refine D1.out.mono ?_
      rintro e w2 ⟨rfl, hb5⟩
      have D3 := hid (D2.out w2 hb5)
      have hbw2 := hid (hbw.out.then hb5 hbw.out.size)
      have hb1w2 := hid (hb1w.out.then hb5 hb1w.out.size)
      clear D1 D2 hb5
      go_wp2_with fail
      refine D3.out.mono ?_
      rintro e w4 ⟨rfl, hb6⟩
      have hbw3 := hid (hbw2.out.then hb6 hbw2.out.size)
      have hb1w3 := hid (hb1w2.out.then hb6 hb1w2.out.size)
      clear D3 hb6
      go_wp2_with fail
      go_roundw
      case rel => exact ⟨j + 1, by omega, by go_num, int_ext (by rw [hms.out]; omega), by rw [hms.out]; omega, hbw3.out, hb1w3.out⟩
      case measure => simp [intOf]; omega
    · have hjn : j = L.length := by omega
      have hltn : ¬ (j : Int) < (L.length : Nat) := by omega
      rw [hjn, List.take_length] at *
      clear hb1w hmb
      go_wp2_with fail
      exact hR.out _ _ ⟨rfl, hbw.out⟩

theorem foldl_max_le (g : Int → Nat) (b : Nat) : ∀ (l : List Int) (m : Nat), m ≤ b → (∀ y ∈ l, g y ≤ b) → l.foldl (fun m k => max m (g k)) m ≤ b
  | [], m, h, _ => h
  | y :: l, m, h, h2 => by
    rw [List.foldl_cons]
    refine foldl_max_le g b l _ ?_ (fun z hz => h2 z (by simp [hz]))
    have := h2 y (by simp); omega
theorem heightL_le (d : Int → Nat) (n : Int) (l : List Int) (h : ∀ y ∈ l, d y ≤ 64) : heightL d n l ≤ 64 := foldl_max_le (fun k => d k - d n) 64 l 0 (Nat.zero_le _) (fun y hy => by have := h y hy; show d y - d n ≤ 64; omega)
/-- What Move answers. -/
def moveE (M : TM) (d : Int → Nat) (n p a : Int) : Int :=
  if n = 0 then 1 else if M n = none ∨ M p = none then 9 else if p ∈ belowL 65 M n then 6 else if a < 0 ∨ (wo (kidsOf M p) n).length < a then 2 else if 64 < d p + 1 + heightL d n (belowL 65 M n) then 7 else 0
def moveM (M : TM) (n p a : Int) : TM := putM (takeM M n) n p a.toNat

set_option maxRecDepth 20000 in
/-- Tree.Move. -/
theorem move_any (n p a : Int) (w : World) (bt bm : Nat) (M : TM) (d : Int → Nat) (next sz : Nat) (hW : WK M d next sz) (hT : TreeAt w bt bm M next sz) (hsz : sz ≤ 1024) :
    Calls Try.prog 12 #[.pointer (some ⟨bt, 0, none⟩), .int .i64 n, .int .i64 p, .int .i64 a] w fun e w' => e = .returned (.int .i64 (moveE M d n p a)) ∧ Kept (· = bm) w w' ∧ TreeAt w' bt bm (if moveE M d n p a = 0 then moveM M n p a else M) next sz := by
  apply cps; intro R hR
  by_cases hn : n = 0
  · have hE : moveE M d n p a = 1 := by unfold moveE; rw [if_pos hn]
    rw [hE] at hR
    subst hn
    clear hE
    have HT := hid hT
    clear hT
    go_enter Try.func12, Try.ntmps12
    go_wp2_with fail
    exact hR.out _ _ ⟨rfl, Kept.refl _ _, HT.out⟩
  have hn00 : (n == 0) = false := beq_eq_false_iff_ne.2 hn
  have C1 := hid (has_any n w bt bm M next sz hT)
  have C2 := hid (fun (w' : World) (hb : Below w.heap.size w w') => has_any p w' bt bm M next sz (hT.below hb))
  have HT := hid hT
  clear hT
  by_cases hMn : (M n).isSome = true
  rotate_left
  · have hE : moveE M d n p a = 9 := by unfold moveE; rw [if_neg hn, if_pos (Or.inl (by simpa using hMn))]
    rw [hE] at hR
    rw [Bool.eq_false_iff.2 hMn] at C1
    clear hE C2
    go_enter Try.func12, Try.ntmps12
    go_wp2_with fail
    refine C1.out.mono ?_
    rintro e w1 ⟨rfl, hb⟩
    have hT1 := hid (HT.out.below hb)
    have hk := hid (Kept.below (S := (· = bm)) hb)
    clear C1 hb HT
    go_wp2_with fail
    exact hR.out _ _ ⟨rfl, hk.out, hT1.out⟩
  rw [hMn] at C1
  by_cases hMp : (M p).isSome = true
  rotate_left
  · have hE : moveE M d n p a = 9 := by unfold moveE; rw [if_neg hn, if_pos (Or.inr (by simpa using hMp))]
    rw [hE] at hR
    rw [Bool.eq_false_iff.2 hMp] at C2
    clear hE
    go_enter Try.func12, Try.ntmps12
    go_wp2_with fail
    refine C1.out.mono ?_
    rintro e w1 ⟨rfl, hb⟩
    have C3 := hid (C2.out w1 hb)
    have hb := hid hb
    clear C1 C2
    go_wp2_with fail
    refine C3.out.mono ?_
    rintro e w2 ⟨rfl, hb2⟩
    have hb3 := hid (hb.out.then hb2 hb.out.size)
    clear C3 hb2 hb
    go_wp2_with fail
    exact hR.out _ _ ⟨rfl, Kept.below hb3.out, HT.out.below hb3.out⟩
  rw [hMp] at C2
  have hdn := hW.dle n hMn
  have hdp := hW.dle p hMp
  have hlb := length_below hW 65 n hMn
  have hh64' := hid (heightL_le d n (belowL 65 M n) (fun y hy => hW.dle y (mem_below hW 65 n y hMn hy).1))
  have hnL : n ∈ belowL 65 M n := List.mem_cons_self
  have hnL := hid hnL
  have hlk := length_kids hW p
  have hE : moveE M d n p a = if p ∈ belowL 65 M n then 6 else if a < 0 ∨ (wo (kidsOf M p) n).length < a then 2 else if 64 < d p + 1 + heightL d n (belowL 65 M n) then 7 else 0 := by
    unfold moveE
    rw [if_neg hn, if_neg (by intro h; rcases h with h | h <;> simp [h] at hMn hMp)]
  go_enter Try.func12, Try.ntmps12
  go_wp2_with fail
  refine C1.out.mono ?_
  rintro e w1 ⟨rfl, hb⟩
  have C3 := hid (C2.out w1 hb)
  have hb := hid hb
  clear C1 C2
  go_wp2_with fail
  refine C3.out.mono ?_
  rintro e w2 ⟨rfl, hb2⟩
  have hb3 := hid (hb.out.then hb2 hb.out.size)
  clear C3 hb2 hb
  have C4 := hid (below_any bt bm M d next sz hW hsz 65 n hMn (by omega) w2 (HT.out.below hb3.out))
  have C7 := hid (fun (w' : World) (hb : Below w.heap.size w w') => height_any n w' bt bm M d next sz hW (HT.out.below hb) hMn hsz)
  have hE := hid hE
  generalize belowL 65 M n = L at *
  go_wp2_with fail
  refine C4.out.mono ?_
  rintro e w4 ⟨hb4, A, C, rfl, hown⟩
  have C5 := hid (contains_any A L.length C L p (by omega) w4 (arr_of_own hown))
  have hb5 := hid (hb3.out.then hb4 hb3.out.size)
  clear C4 hb4 hown hb3
  go_wp2_with fail
  refine C5.out.mono ?_
  rintro e w5 ⟨rfl, rfl⟩
  clear C5
  by_cases hin : p ∈ L
  · have hE1 := hE.out
    rw [if_pos hin] at hE1
    rw [hE1] at hR
    rw [decide_eq_true hin]
    clear hE hE1
    go_wp2_with fail
    exact hR.out _ _ ⟨rfl, Kept.below hb5.out, HT.out.below hb5.out⟩
  rw [decide_eq_false hin]
  have hE2 := hE.out
  rw [if_neg hin] at hE2
  have hE2 := hid hE2
  clear hE
  by_cases ha : a < 0
  · have hE1 := hE2.out
    rw [if_pos (Or.inl ha)] at hE1
    rw [hE1] at hR
    clear hE2 hE1
    go_wp2_with fail
    exact hR.out _ _ ⟨rfl, Kept.below hb5.out, HT.out.below hb5.out⟩
  have hT5 := HT.out.below hb5.out
  obtain ⟨d0, d1⟩ := hT5.cells
  obtain ⟨a1, m, c1, hi, _, hlk1⟩ := hT5.node p
  obtain ⟨_, hf1⟩ := node_fields (parOf M p) a1 m c1 w5
  have hm : m = (kidsOf M p).length := by have := hi.len; rw [iv_length] at this; omega
  subst hm
  have C6 := hid (without_any a1 _ c1 _ n (by omega) w5 hi)
  clear hT5 hi
  have hwl := wo_le (kidsOf M p) n
  have ha0 : decide (a < 0) = false := by simpa using ha
  have hKX : kidsOf (takeM M n) p = wo (kidsOf M p) n := by
    rw [takeM_kids]
    by_cases hpp : p = parOf M n
    · rw [if_pos hpp]
    · rw [if_neg hpp, wo_none]
      intro hm; exact hpp (hW.kidm p hMp n hm).2.2.symm
  have hKX := hid hKX
  generalize wo (kidsOf M p) n = X at *
  go_wp2_with fail
  refine C6.out.mono ?_
  rintro e w6 ⟨hb6, A6, C6', rfl, hown6⟩
  have hb7 := hid (hb5.out.then hb6 hb5.out.size)
  have hT7 := HT.out.below hb7.out
  have D1 := hid (depth_any bt bm M d next sz hW _ p rfl hMp w6 hT7)
  clear C6 hb6 hown6 hlk1 hf1 d0 d1 hb5 hb hT7
  by_cases hax : (X.length : Int) < a
  · have hE1 := hE2.out
    rw [if_pos (Or.inr hax)] at hE1
    rw [hE1] at hR
    have hax' : decide ((X.length : Int) < a) = true := by simpa using hax
    clear hE2 hE1
    go_wp2_with fail
    exact hR.out _ _ ⟨rfl, Kept.below hb7.out, HT.out.below hb7.out⟩
  have hax' : decide ((X.length : Int) < a) = false := by simpa using hax
  have hE3 := hE2.out
  rw [if_neg (by omega)] at hE3
  have hE3 := hid hE3
  clear hE2 hE
  go_wp2_with fail
  refine D1.out.mono ?_
  rintro e w8 ⟨rfl, hb8⟩
  have hb9 := hid (hb7.out.then hb8 hb7.out.size)
  have D2 := hid (C7.out w8 hb9.out)
  clear D1 hb8 hb7 C7
  generalize d p = dp at *
  go_wp2_with fail
  refine D2.out.mono ?_
  rintro e w10 ⟨rfl, hb10⟩
  have hb11 := hid (hb9.out.then hb10 hb9.out.size)
  have hh64 : heightL d n L ≤ 64 := hh64'.out
  generalize heightL d n L = hh at *
  clear D2 hb10 hb9
  by_cases hdeep : 64 < dp + 1 + hh
  · have hE1 := hE3.out
    rw [if_pos hdeep] at hE1
    rw [hE1] at hR
    have hdd : (64 : Int) < (dp : Int) + 1 + hh := by omega
    clear hE3 hE1
    go_wp2_with fail
    exact hR.out _ _ ⟨rfl, Kept.below hb11.out, HT.out.below hb11.out⟩
  have hdd : ¬ (64 : Int) < (dp : Int) + 1 + hh := by omega
  have hE4 := hE3.out
  rw [if_neg hdeep] at hE4
  rw [hE4] at hR
  have hT11 := HT.out.below hb11.out
  have hpp := (hW.up n hMn hn).1
  have hlpp := length_kids hW (parOf M n)
  have E1 := hid (take_any n w10 bt bm M next sz hT11 hpp (by omega))
  clear hE3 hE4 hT11
  go_wp2_with fail
  refine E1.out.mono ?_
  rintro e w12 ⟨rfl, hk12, hT12⟩
  obtain ⟨q, rfl⟩ : ∃ q : Nat, a = q := ⟨a.toNat, by omega⟩
  have hnp : n ≠ p := by rintro rfl; exact hin hnL.out
  have E2 := hid (put_any n p q w12 bt bm (takeM M n) next sz hT12 (by rw [takeM_some hpp]; exact hMp) hnp (by rw [hKX.out]; omega) (by rw [hKX.out]; omega))
  rw [takeM_some hpp, hMn] at E2
  have hk13 := hid ((Kept.below (S := (· = bm)) hb11.out).trans hk12)
  clear E1 hk12 hT12
  go_wp2_with fail
  refine E2.out.mono ?_
  rintro e w14 ⟨rfl, hk14, hT14⟩
  have hk15 := hid (hk13.out.trans hk14)
  have hT14 := hid hT14
  clear E2 hk13 hk14
  go_wp2_with fail
  exact hR.out _ _ ⟨rfl, hk15.out, hT14.out⟩

/-- What Add answers. -/
def addE (M : TM) (d : Int → Nat) (sz : Nat) (p a : Int) : Int :=
  if M p = none then 9 else if a < 0 ∨ (kidsOf M p).length < a then 2 else if 1024 ≤ sz then 8 else if 64 ≤ d p then 7 else 0

set_option maxRecDepth 20000 in
/-- Tree.Add that is refused. -/
theorem add_no (p a : Int) (w : World) (bt bm : Nat) (M : TM) (d : Int → Nat) (next sz : Nat) (hW : WK M d next sz) (hT : TreeAt w bt bm M next sz) (hE0 : addE M d sz p a ≠ 0) (hsz : sz ≤ 1024) :
    Calls Try.prog 14 #[.pointer (some ⟨bt, 0, none⟩), .int .i64 p, .int .i64 a] w fun e w' => e = .returned (.tuple #[.int .i64 0, .int .i64 (addE M d sz p a)]) ∧ Below w.heap.size w w' := by
  apply cps; intro R hR
  have C1 := hid (has_any p w bt bm M next sz hT)
  have HT := hid hT
  have hlk := length_kids hW p
  clear hT
  by_cases hMp : (M p).isSome = true
  rotate_left
  · have hE : addE M d sz p a = 9 := by unfold addE; rw [if_pos (by simpa using hMp)]
    rw [hE] at hR
    rw [Bool.eq_false_iff.2 hMp] at C1
    clear hE hE0
    go_enter Try.func14, Try.ntmps14
    go_wp2_with fail
    refine C1.out.mono ?_
    rintro e w1 ⟨rfl, hb⟩
    have hb := hid hb
    clear C1
    go_wp2_with fail
    exact hR.out _ _ ⟨rfl, hb.out⟩
  rw [hMp] at C1
  have hE : addE M d sz p a = if a < 0 ∨ (kidsOf M p).length < a then 2 else if 1024 ≤ sz then 8 else if 64 ≤ d p then 7 else 0 := by
    unfold addE; rw [if_neg (by intro h; simp [h] at hMp)]
  go_enter Try.func14, Try.ntmps14
  go_wp2_with fail
  refine (C1.out).mono ?_
  rintro e w1 ⟨rfl, hb⟩
  have hT1 := HT.out.below hb
  obtain ⟨c0, c1⟩ := hT1.cells
  obtain ⟨a1, m, c, hi, _, hlk1⟩ := hT1.node p
  obtain ⟨_, hf1⟩ := node_fields (parOf M p) a1 m c w1
  have hm : m = (kidsOf M p).length := by have := hi.len; rw [iv_length] at this; omega
  subst hm
  have hb := hid hb
  have C2 := hid (len_any w1 bt bm M next sz hT1)
  have C3 := hid (depth_any bt bm M d next sz hW _ p rfl hMp w1 hT1)
  clear C1 HT hi hT1
  by_cases ha : a < 0
  · rw [if_pos (Or.inl ha)] at hE
    rw [hE] at hR
    clear hE hE0 C2 C3
    go_wp2_with fail
    exact hR.out _ _ ⟨rfl, hb.out⟩
  have ha0 : decide (a < 0) = false := by simpa using ha
  by_cases hax : ((kidsOf M p).length : Int) < a
  · rw [if_pos (Or.inr hax)] at hE
    rw [hE] at hR
    have hax' : decide (((kidsOf M p).length : Int) < a) = true := by simpa using hax
    clear hE hE0 C2 C3
    go_wp2_with fail
    exact hR.out _ _ ⟨rfl, hb.out⟩
  have hax' : decide (((kidsOf M p).length : Int) < a) = false := by simpa using hax
  rw [if_neg (by omega)] at hE
  by_cases hc : 1024 ≤ sz
  · rw [if_pos hc] at hE
    rw [hE] at hR
    have hc' : (1024 : Int) ≤ sz := by omega
    clear hE hE0 C3
    go_wp2_with fail
    refine (C2.out).mono ?_
    rintro e w2 ⟨rfl, rfl⟩
    clear C2
    go_wp2_with fail
    exact hR.out _ _ ⟨rfl, hb.out⟩
  have hc' : ¬ (1024 : Int) ≤ sz := by omega
  rw [if_neg hc] at hE
  have hd : 64 ≤ d p := by
    apply Classical.byContradiction; intro h
    rw [if_neg h] at hE; exact hE0 hE
  rw [if_pos hd] at hE
  rw [hE] at hR
  have hd' : (64 : Int) ≤ d p := by omega
  clear hE hE0
  go_wp2_with fail
  refine (C2.out).mono ?_
  rintro e w2 ⟨rfl, rfl⟩
  clear C2
  go_wp2_with fail
  refine (C3.out).mono ?_
  rintro e w3 ⟨rfl, hb3⟩
  have hb3 := hid (hb.out.then hb3 hb.out.size)
  clear C3
  go_wp2_with fail
  exact hR.out _ _ ⟨rfl, hb3.out⟩
end Go.Proofs.Ytfgphleophghnaa
