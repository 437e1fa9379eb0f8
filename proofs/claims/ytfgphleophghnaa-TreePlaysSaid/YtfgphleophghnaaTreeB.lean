/- Contracts of tree.put, Add, Depth, below, Order. -/
import Derived.Test.YtfgphleophghnaaTree
set_option linter.unusedVariables false
set_option linter.unusedSimpArgs false
namespace Go.Proofs.Ytfgphleophghnaa
open Go.RowKit Go.MapKept

set_option maxRecDepth 20000 in
/-- Tree.Depth of a node: its depth, by descent upward. -/
theorem depth_any (bt bm : Nat) (M : TM) (d : Int → Nat) (next sz : Nat) (hW : WK M d next sz) : ∀ (k : Nat) (n : Int), d n = k → (M n).isSome = true → ∀ (w : World), TreeAt w bt bm M next sz →
    Calls Try.prog 27 #[.pointer (some ⟨bt, 0, none⟩), .int .i64 n] w fun e w' => e = .returned (.int .i64 (d n)) ∧ Below w.heap.size w w' := by
  intro k
  induction k with
  | zero =>
    intro n hd hM w hT
    have hn : n = 0 := by
      apply Classical.byContradiction; intro hn
      have := (hW.up n hM hn).2; omega
    subst hn
    rw [hd]
    apply cps; intro R hR
    have C := hid (parent_none 0 w bt bm M next sz hT (Or.inl rfl))
    clear hT
    go_enter Try.func27, Try.ntmps27
    go_wp2_with fail
    refine (C.out).mono ?_
    rintro e w1 ⟨rfl, hb⟩
    have hb := hid hb
    clear C
    go_wp2_with fail
    exact hR.out _ _ ⟨rfl, hb.out⟩
  | succ k ih =>
    intro n hd hM w hT
    have hn : n ≠ 0 := by rintro rfl; have := hW.d0; omega
    obtain ⟨hp, hdp⟩ := hW.up n hM hn
    have hle := hW.dle n hM
    apply cps; intro R hR
    have C := hid (parent_any n w bt bm M next sz hT hn hM)
    have D := fun (w1 : World) (hb : Below w.heap.size w w1) => ih (parOf M n) (by omega) hp w1 (hT.below hb)
    have D := hid D
    generalize d (parOf M n) = q at *
    rw [hdp] at hR hle
    clear hT ih hdp hp
    go_enter Try.func27, Try.ntmps27
    go_wp2_with fail
    refine (C.out).mono ?_
    rintro e w1 ⟨rfl, hb⟩
    have D1 := hid (D.out w1 hb)
    have hb := hid hb
    clear C D
    go_wp2_with fail
    refine (D1.out).mono ?_
    rintro e w2 ⟨rfl, hb2⟩
    have hb2 := hid (hb.out.then hb2 hb.out.size)
    clear D1 hb
    have e1 : (1 + (q : Int)) = ((q + 1 : Nat) : Int) := by omega
    go_wp2_with fail
    exact hR.out _ _ ⟨rfl, hb2.out⟩

set_option maxRecDepth 20000 in
/-- Tree.put of a new node. -/
theorem put_any (n p : Int) (at_ : Nat) (w : World) (bt bm : Nat) (M : TM) (next sz : Nat) (hT : TreeAt w bt bm M next sz) (hp : (M p).isSome = true) (hnp : n ≠ p) (hat : at_ ≤ (kidsOf M p).length) (hl : (kidsOf M p).length ≤ 1024) :
    Calls Try.prog 38 #[.pointer (some ⟨bt, 0, none⟩), .int .i64 n, .int .i64 p, .int .i64 at_] w fun e w' => e = .returned (.tuple #[]) ∧ Kept (· = bm) w w' ∧ TreeAt w' bt bm (putM M n p at_) next (if (M n).isSome then sz else sz + 1) := by
  apply cps; intro R hR
  obtain ⟨c0, c1⟩ := hT.cells
  obtain ⟨a, m, c, hi, hi0, hlk⟩ := hT.node p
  obtain ⟨hf0, hf1⟩ := node_fields (parOf M p) a m c w
  have hm : m = (kidsOf M p).length := by have := hi.len; rw [iv_length] at this; omega
  subst hm
  have hb0 := (Below.refl w.heap.size w).alloc (Nat.le_refl _) (.cells #[.int .i64 (parOf M p), .slice a (kidsOf M p).length c] 78)
  have C := hid (clone_any a _ c _ (by omega) _ (hi.below hb0))
  have hb0 := hid hb0
  have HT := hid hT
  have hT0 := hid hT.lt
  clear hT hi
  go_enter Try.func38, Try.ntmps38
  go_wp2_with fail
  refine C.out.mono ?_
  rintro e w1 ⟨hb1, A, C1, rfl, hown⟩
  have hz1 : w.heap.size < w1.heap.size := by have := hb1.size; simp at this; omega
  have hh1 : w1.heap[w.heap.size]? = some (.cells #[.int .i64 (parOf M p), .slice a (kidsOf M p).length c] 78) := (hb1.block _ (by simp)).trans (heap_alloc w _).1
  have hc8 : w1.cell? ⟨w.heap.size, 0, none⟩ = some (.int .i64 (parOf M p)) := by simp [World.cell?, hh1]
  have hc9 : w1.cell? ⟨w.heap.size, 1, none⟩ = some (.slice a (kidsOf M p).length c) := by simp [World.cell?, hh1]
  have hb1 : Hid (Below w.heap.size w w1) := hid (hb0.out.then hb1 hb0.out.size)
  have hown : w1.ownsRow (w.heap.size + 1) 3 1 (.slice A (kidsOf M p).length C1) (kidsOf M p).length (iv (kidsOf M p)) := by simpa using hown
  have hb2 := (Below.refl w1.heap.size w1).alloc (Nat.le_refl _) (.cells #[.int .i64 n] 3)
  have D := hid (insert_any A (kidsOf M p).length C1 at_ w1.heap.size 1 (w.heap.size + 1) (kidsOf M p) n (w1.alloc (.cells #[.int .i64 n] 3)) hat (by omega) (own_below hown hb2) (by simp; omega) (heap_alloc _ _).1 (by intro h; have := own_lt hown _ h; omega))
  have hb1' := hid (hb1.out.alloc (by omega) (.cells #[.int .i64 n] 3))
  clear C hb0 hb2 hlk hf0 hf1 hown hi0
  go_wp2_with fail
  refine D.out.mono ?_
  rintro e w2 ⟨hb3, A', C', rfl, hown'⟩
  have hh2 : w2.heap[w.heap.size]? = some (.cells #[.int .i64 (parOf M p), .slice a (kidsOf M p).length c] 78) := (hb3.block _ (by omega)).trans (((heap_alloc w1 _).2 _ hz1).trans hh1)
  have hz2 : w1.heap.size < w2.heap.size := by have := hb3.size; simp at this; omega
  have hb3 := hid (hb1'.out.trans (hb3.mono (by omega)))
  have hT2 := HT.out.below hb3.out
  obtain ⟨d0, d1⟩ := hT2.cells
  have hT2 := hid hT2
  have k8 : w2.cell? ⟨w.heap.size, 0, none⟩ = some (.int .i64 (parOf M p)) := by simp [World.cell?, hh2]
  have k9 : w2.cell? ⟨w.heap.size, 1, none⟩ = some (.slice a (kidsOf M p).length c) := by simp [World.cell?, hh2]
  have kf : w2.frozen? ⟨w.heap.size, 1, none⟩ = false := by simp [World.frozen?, hh2]
  clear D hc8 hc9 hb1 hb1' c0 c1 HT hown
  go_wp2_with fail
  have hb4 := hb3.out.setCell (p := ⟨w.heap.size, 1, none⟩) (Nat.le_refl _) (.slice A' ((kidsOf M p).length + 1) C')
  have hT3 : TreeAt (w2.setCell ⟨w.heap.size, 1, none⟩ (.slice A' ((kidsOf M p).length + 1) C')) bt bm M next sz := by
    have hS : bt ≠ w.heap.size ∧ bm ≠ w.heap.size := ⟨Nat.ne_of_lt hT0.out.1, Nat.ne_of_lt hT0.out.2.1⟩
    refine hT2.out.kept (S := fun b => b = w.heap.size) ((Kept.refl (fun b => b = w.heap.size) w2).setCell (p := ⟨w.heap.size, 1, none⟩) (Or.inl rfl) _) hS.1 hS.2 ?_
    rintro b cs fr hb rfl
    rw [hh2] at hb
    cases hb
  have hown3 : (w2.setCell ⟨w.heap.size, 1, none⟩ (.slice A' ((kidsOf M p).length + 1) C')).ownsRow (w.heap.size + 1) 3 1 (.slice A' ((kidsOf M p).length + 1) C') ((kidsOf M p).length + 1) (iv ((kidsOf M p).take at_ ++ n :: (kidsOf M p).drop at_)) :=
    own_setCell hown' (p := ⟨w.heap.size, 1, none⟩) (by intro h; have := own_ge hown' _ h; simp at this; omega) _
  have hh3 : (w2.setCell ⟨w.heap.size, 1, none⟩ (.slice A' ((kidsOf M p).length + 1) C')).heap[w.heap.size]? = some (.cells #[.int .i64 (parOf M p), .slice A' ((kidsOf M p).length + 1) C'] 78) := by
    simp [World.setCell, Array.getElem?_modify, hh2]
  generalize w2.setCell ⟨w.heap.size, 1, none⟩ (.slice A' ((kidsOf M p).length + 1) C') = W at *
  have hz3 : W.heap.size ≥ w.heap.size := hb4.size
  have hk3 := hid (Kept.below (S := (· = bm)) hb4)
  obtain ⟨d0', d1'⟩ := hT3.cells
  have k8 : W.cell? ⟨w.heap.size, 0, none⟩ = some (.int .i64 (parOf M p)) := by simp [World.cell?, hh3]
  have k9 : W.cell? ⟨w.heap.size, 1, none⟩ = some (.slice A' ((kidsOf M p).length + 1) C') := by simp [World.cell?, hh3]
  have hT3 := hid hT3
  have hown3 := hid hown3
  clear d0 d1 hown' hT2 hb3 hb4 hh2 kf hh1 hz1 hz2
  obtain ⟨W2, hu, hT4, hk4, hz4⟩ := hT3.out.drew.run_update p (parOf M p) ((kidsOf M p).take at_ ++ n :: (kidsOf M p).drop at_) A' ((kidsOf M p).length + 1) C' (arr_of_own hown3.out)
  go_still_tail 6, (by kernel_rfl)
  change wpList _ _ _ _ _ W.drew
  have hk5 := hid ((hk3.out.drew).trans hk4)
  obtain ⟨d0, d1⟩ := hT4.cells
  obtain ⟨a5, m5, c5, hi5, hi6, hlk⟩ := hT4.node n
  have hM5 : kidsOf (fun i => if i = p then some (parOf M p, (kidsOf M p).take at_ ++ n :: (kidsOf M p).drop at_) else M i) n = kidsOf M n := by simp [kidsOf, if_neg hnp]
  rw [hM5] at hi5
  generalize parOf (fun i => if i = p then some (parOf M p, (kidsOf M p).take at_ ++ n :: (kidsOf M p).drop at_) else M i) n = q5 at *
  have hT4 := hid hT4
  have hi5 := hid hi5
  have hz := z_node W2
  have hz6 : W2.heap.size ≥ w.heap.size := by simp at hz4; omega
  generalize W.drew = Wd at *
  clear hk3 hT3 hk4 hi6 hown3 hb0 hz4
  clear d0' d1' k8 k9
  clear hh3
  go_wp2_with fail
  have hT6 := hT4.out.alloc (.cells #[.int .i64 p, .slice a5 m5 c5] 78)
  have hh6 := (heap_alloc W2 (.cells #[.int .i64 p, .slice a5 m5 c5] 78)).1
  have hk6 := hid (hk5.out.alloc (.cells #[.int .i64 p, .slice a5 m5 c5] 78))
  have hi6 := hid (hi5.out.below ((Below.refl _ _).alloc (Nat.le_refl _) (.cells #[.int .i64 p, .slice a5 m5 c5] 78)))
  generalize W2.alloc (.cells #[.int .i64 p, .slice a5 m5 c5] 78) = W3 at *
  have k8 : W3.cell? ⟨W2.heap.size, 0, none⟩ = some (.int .i64 p) := by simp [World.cell?, hh6]
  have k9 : W3.cell? ⟨W2.heap.size, 1, none⟩ = some (.slice a5 m5 c5) := by simp [World.cell?, hh6]
  obtain ⟨e0, e1⟩ := hT6.cells
  obtain ⟨W4, hu4, hT7, hk7, hz7⟩ := hT6.drew.run_update n p (kidsOf M n) a5 m5 c5 (hi6.out.below (Below.refl _ _).drew)
  clear hk5 hi5 hlk hz hT4 hT6
  go_still_tail 6, (by kernel_rfl)
  change wpList _ _ _ _ _ W3.drew
  have hk8 := hid ((hk6.out.drew).trans hk7)
  have hsz : (if ((fun i => if i = p then some (parOf M p, (kidsOf M p).take at_ ++ n :: (kidsOf M p).drop at_) else M i) n).isSome = true then (if (M p).isSome = true then sz else sz + 1) else (if (M p).isSome = true then sz else sz + 1) + 1) = if (M n).isSome = true then sz else sz + 1 := by
    simp [if_neg hnp, hp]
  rw [hsz] at hT7
  have hT7 := hid hT7
  generalize W3.drew = W5 at *
  clear hk6 hk7 e0 e1 k8 k9 hh6
  go_wp2_with fail
  refine bodyPost_end (results_none rfl _ _ _) rfl (hR.out _ _ ⟨rfl, hk8.out, ?_⟩)
  exact hT7.out

set_option maxRecDepth 20000 in
/-- Tree.Add that succeeds. -/
theorem add_any (p : Int) (at_ : Nat) (w : World) (bt bm : Nat) (M : TM) (d : Int → Nat) (next sz : Nat) (hW : WF M d next sz) (hT : TreeAt w bt bm M next sz) (hp : (M p).isSome = true) (hat : at_ ≤ (kidsOf M p).length) (hl : sz < 1024) (hd : d p < 64) (hn : next < 1000000) :
    Calls Try.prog 14 #[.pointer (some ⟨bt, 0, none⟩), .int .i64 p, .int .i64 at_] w fun e w' => e = .returned (.tuple #[.int .i64 next, .int .i64 0]) ∧ Kept (fun b => b = bm ∨ b = bt) w w' ∧ TreeAt w' bt bm (putM M next p at_) (next + 1) (sz + 1) := by
  have hle := length_kids hW.toWK p
  have hf := hW.fresh
  have hpn : (next : Int) ≠ p := by rintro rfl; rw [hf] at hp; cases hp
  have hn0 : (M next).isSome = false := by rw [hf]; rfl
  apply cps; intro R hR
  have C1 := hid (has_any p w bt bm M next sz hT)
  have HT := hid hT
  clear hT
  go_enter Try.func14, Try.ntmps14
  go_wp2_with fail
  refine (C1.out).mono ?_
  rintro e w1 ⟨rfl, hb⟩
  rw [hp]
  have hT1 := HT.out.below hb
  obtain ⟨c0, c1⟩ := hT1.cells
  obtain ⟨a, m, c, hi, _, hlk⟩ := hT1.node p
  obtain ⟨_, hf1⟩ := node_fields (parOf M p) a m c w1
  have hm : m = (kidsOf M p).length := by have := hi.len; rw [iv_length] at this; omega
  subst hm
  have hb := hid hb
  have C2 := hid (len_any w1 bt bm M next sz hT1)
  have C3 := hid (depth_any bt bm M d next sz hW.toWK _ p rfl hp w1 hT1)
  have hT1 := hid hT1
  clear C1 HT hi
  have hl2 : ¬ ((kidsOf M p).length : Int) < at_ := by omega
  have hl3 : decide (((kidsOf M p).length : Int) < at_) = false := by simp; omega
  have hl4 : ¬ (1024 : Int) ≤ sz := by omega
  go_wp2_with fail
  refine (C2.out).mono ?_
  rintro e w2 ⟨rfl, rfl⟩
  clear C2
  go_wp2_with fail
  refine (C3.out).mono ?_
  rintro e w3 ⟨rfl, hb3⟩
  have hT3 := hT1.out.below hb3
  have hb3 := hid (hb.out.then hb3 hb.out.size)
  have hdp : ¬ (64 : Int) ≤ d p := by omega
  obtain ⟨d0, d1⟩ := hT3.cells
  have hcell := hT3.cell
  have hfr : w3.frozen? ⟨bt, 1, none⟩ = false := by simp [World.frozen?, hcell]
  have e1 : ((next + 1 : Nat) : Int) = (next : Int) + 1 := by omega
  have hT4 : TreeAt (w3.setCell ⟨bt, 1, none⟩ (.int .i64 ((next + 1 : Nat) : Int))) bt bm M (next + 1) sz := by
    obtain ⟨V, hV, hN⟩ := hT3.map
    have hk := (Kept.refl (fun b => b = bt) w3).setCell (p := ⟨bt, 1, none⟩) (Or.inl rfl) (.int .i64 ((next + 1 : Nat) : Int))
    have hne := hT3.lt.2.2
    refine ⟨by simp [World.setCell, Array.getElem?_modify, hcell], V, hV.kept hk (Ne.symm hne), fun k => (hN k).keep ?_⟩
    intro b cs fr hb'
    have hbt : b ≠ bt := by rintro rfl; rw [hcell] at hb'; cases hb'
    exact (hk.block b (Array.getElem?_eq_some_iff.1 hb').1 hbt).trans hb'
  have D := hid (put_any next p at_ _ bt bm M (next + 1) sz hT4 hp hpn hat (by omega))
  have hk4 := hid ((Kept.below (S := fun b => b = bm ∨ b = bt) hb3.out).setCell (p := ⟨bt, 1, none⟩) (Or.inl (Or.inr rfl)) (.int .i64 ((next + 1 : Nat) : Int)))
  have hT4 := hid hT4
  rw [hn0] at D
  rw [e1] at D hT4 hk4
  clear C3 hT1 hb hT3 hcell hlk hf1 c0 c1
  go_wp2_with fail
  refine (D.out).mono ?_
  rintro e w4 ⟨rfl, hk5, hT5⟩
  have hk6 := hid (hk4.out.trans (hk5.mono (fun k _ h => Or.inl h)))
  have hT5 := hid hT5
  clear D hT4 hk4 hk5 d0 d1 hfr
  go_wp2_with fail
  exact hR.out _ _ ⟨rfl, hk6.out, hT5.out⟩

theorem flat_take_le (f : Int → List Int) : ∀ (l : List Int) (i : Nat), ((l.take i).flatMap f).length ≤ (l.flatMap f).length
  | [], i => by simp
  | a :: l, 0 => by simp
  | a :: l, i + 1 => by simp only [List.take_succ_cons, List.flatMap_cons, List.length_append]; have := flat_take_le f l i; omega
theorem flat_take_snoc (f : Int → List Int) (l : List Int) (i : Nat) (hi : i < l.length) : (l.take (i + 1)).flatMap f = (l.take i).flatMap f ++ f (l.getD i 0) := by
  have : l.take (i + 1) = l.take i ++ [l.getD i 0] := by
    simp [List.getD, List.getElem?_eq_getElem hi]
  rw [this, List.flatMap_append]; simp

/-- What the look-up of a node gives, in every world with the same map. -/
theorem TreeAt.node_at {w : World} {bt bm : Nat} {M : TM} {next sz : Nat} (h : TreeAt w bt bm M next sz) (k : Int) : ∃ a m c, Ints w 3 a m c (kidsOf M k) ∧ ∀ w' : World, w'.heap[bm]? = w.heap[bm]? →
    (Instr.lookup 79 (.map (some bm)) (.int .i64 k) false).run Try.prog w' = .ok (.agg #[.int .i64 (parOf M k), .slice a m c]) w' := by
  obtain ⟨V, hV, hN⟩ := h.map
  have h2 := fun (w' : World) (hw : w'.heap[bm]? = w.heap[bm]?) => (hV.keep hw).run_lookup (P := Try.prog) u_nodes u_int (z_node w') k false
  have hk := hN k
  unfold parOf kidsOf
  revert h2 hk
  cases V k <;> cases M k
  · intro h2 _
    exact ⟨none, 0, 0, arr_of_own (own_nil _ 0 3 1), h2⟩
  · intro _ hk; exact hk.elim
  · intro _ hk; exact hk.elim
  · intro h2 hk
    obtain ⟨a, n, c, rfl, hi⟩ := hk
    exact ⟨a, n, c, hi, h2⟩

set_option maxRecDepth 20000 in
/-- Tree.below: the node and all that lies below it, in order. -/
theorem below_any (bt bm : Nat) (M : TM) (d : Int → Nat) (next sz : Nat) (hW : WK M d next sz) (hsz : sz ≤ 1024) : ∀ (f : Nat) (k : Int), (M k).isSome = true → 65 ≤ d k + f → ∀ (w : World), TreeAt w bt bm M next sz →
    Calls Try.prog 32 #[.pointer (some ⟨bt, 0, none⟩), .int .i64 k] w fun e w' => Below w.heap.size w w' ∧ ∃ A C, e = .returned (.slice A (belowL f M k).length C) ∧ w'.ownsRow w.heap.size 3 1 (.slice A (belowL f M k).length C) (belowL f M k).length (iv (belowL f M k)) := by
  intro f
  induction f with
  | zero => intro k hk hf; have := hW.dle k hk; omega
  | succ f ih =>
    intro k hk hf w hT
    obtain ⟨i0, hi, hz0, hz1, hz2⟩ := info_parts info3
    have hlen := length_below hW (f + 1) k hk
    have hle := length_kids hW k
    apply cps; intro R hR
    have hb0 := (Below.refl w.heap.size w).alloc (Nat.le_refl _) (.cells #[.int .i64 k] 3)
    have hT1 := hT.alloc (.cells #[.int .i64 k] 3)
    obtain ⟨c0, c1⟩ := hT1.cells
    obtain ⟨a, m, c, hin, hlk⟩ := hT.node_at k
    have hlk := hlk (w.alloc (.cells #[.int .i64 k] 3)) ((heap_alloc w _).2 bm hT.lt.2.1)
    obtain ⟨_, hf1⟩ := node_fields (parOf M k) a m c (w.alloc (.cells #[.int .i64 k] 3))
    have hm : m = (kidsOf M k).length := by have := hin.len; rw [iv_length] at this; omega
    subst hm
    have IH := hid (fun (j : Nat) (hj : j < (kidsOf M k).length) => ih ((kidsOf M k).getD j 0) (hW.kid_mem hk (c := (kidsOf M k).getD j 0) (by simp [List.getD, List.getElem?_eq_getElem hj])).2.1 (by have := (hW.kid_mem hk (c := (kidsOf M k).getD j 0) (by simp [List.getD, List.getElem?_eq_getElem hj])).2.2.2; omega))
    have HI := hid hin
    have HT := hid hT
    have hown0 := hid (own_lit w w.heap.size 3 (Nat.le_refl _) #[.int .i64 k] 1 1 rfl (by unfold maxLen; omega))
    have HB0 := hid hb0
    clear ih hin hT hT1 hb0
    go_enter Try.func32, Try.ntmps32
    go_wp2_with fail
    generalize w.alloc (.cells #[.int .i64 k] 3) = W at *
    clear c0 c1 hlk hf1
    go_loopw [5, 7, 18] (fun out x i wr => ∃ j A C L, j ≤ (kidsOf M k).length ∧ i = .int .i64 (j : Nat) ∧ L = k :: ((kidsOf M k).take j).flatMap (belowL f M) ∧ out = .slice A L.length C ∧ wr.ownsRow w.heap.size 3 1 out L.length (iv L) ∧ Below w.heap.size w wr) (fun _ _ i _ => (kidsOf M k).length - (intOf i).toNat)
    case atStart => exact ⟨0, _, _, [k], Nat.zero_le _, rfl, by simp, rfl, hown0.out, HB0.out⟩
    case round =>
      obtain ⟨j, A, C, L, hj, rfl, hL, rfl, hown, hbw⟩ := hrel
      by_cases hlt : j < (kidsOf M k).length
      · obtain ⟨b, o, ha, hbb, hc⟩ := HI.out.atI (by omega)
        subst ha
        have c0 := (hbw.cell (p := ⟨b, o + j, none⟩) hbb).trans (hc j hlt)
        have C0 := hid (IH.out j hlt wr (HT.out.below hbw))
        have hsnoc := flat_take_snoc (belowL f M) (kidsOf M k) j hlt
        have htot : L.length + (belowL f M ((kidsOf M k).getD j 0)).length ≤ 1024 := by
          have h1 := flat_take_le (belowL f M) (kidsOf M k) (j + 1)
          rw [hsnoc, List.length_append] at h1
          have h2 : (belowL (f + 1) M k).length = ((kidsOf M k).flatMap (belowL f M)).length + 1 := by simp [belowL]
          have h3 : L.length = ((List.take j (kidsOf M k)).flatMap (belowL f M)).length + 1 := by rw [hL]; simp
          omega
        have hLn : L ++ belowL f M ((kidsOf M k).getD j 0) = k :: ((kidsOf M k).take (j + 1)).flatMap (belowL f M) := by rw [hL, hsnoc]; simp
        generalize belowL f M ((kidsOf M k).getD j 0) = X at *
        generalize (kidsOf M k).getD j 0 = q at *
        have hown1 := hid hown
        have hbw1 := hid hbw
        have hLn1 := hid hLn
        clear hc hown hbw hL hsnoc hLn
        go_wp2_with fail
        refine C0.out.mono ?_
        rintro e w2 ⟨hb2, A2, C2, rfl, hown2⟩
        have hown3 := own_below hown1.out hb2
        have hb3 := hbw1.out.then hb2 hbw1.out.size
        have hr2 := arr_of_own hown2
        clear c0 C0
        go_wp2_with (at_builtin; refine wp_append_any _ rfl _ _ 73 rfl w.heap.size 3 i0 (.int .i64 0) 1 8 Try.underlying73 hi hz0 hz1 hz2 rfl (by decide) _ _ _ rfl hown3 _ _ _ (iv X) rfl hr2 (iv_one X) ?c2 ?c3 ?c4 ?_)
        case c2 => unfold maxLen; omega
        case c3 => omega
        case c4 => exact hb3.size
        intro v' w' hown4 hg hloc
        rw [← iv_append] at hown4
        have hb5 := hid (hb3.grown hg hb3.size (fun k hk => own_ge hown3 k hk))
        obtain ⟨A3, C3, rfl⟩ := own_shape hown4
        go_wp2_with fail
        go_roundw
        case rel => exact ⟨j + 1, A3, C3, L ++ X, by omega, by go_num, hLn1.out, by simp, by simpa using hown4, hb5.out⟩
        case measure => simp [intOf]; omega
      · obtain rfl : j = (kidsOf M k).length := by omega
        have hLL : L = belowL (f + 1) M k := by rw [hL, List.take_length]; rfl
        have hown := hid hown
        have hbw := hid hbw
        go_wp2_with fail
        subst hLL
        exact hR.out _ _ ⟨hbw.out, A, C, rfl, hown.out⟩

set_option maxRecDepth 20000 in
/-- Tree.Order. -/
theorem order_any (bt bm : Nat) (M : TM) (d : Int → Nat) (next sz : Nat) (hW : WF M d next sz) (hsz : sz ≤ 1024) (w : World) (hT : TreeAt w bt bm M next sz) :
    Calls Try.prog 42 #[.pointer (some ⟨bt, 0, none⟩)] w fun e w' => Below w.heap.size w w' ∧ ∃ A C, e = .returned (.slice A (belowL 65 M 0).length C) ∧ w'.ownsRow w.heap.size 3 1 (.slice A (belowL 65 M 0).length C) (belowL 65 M 0).length (iv (belowL 65 M 0)) := by
  have C := hid (below_any bt bm M d next sz hW.toWK hsz 65 0 hW.root.2 (by have := hW.d0; omega) w hT)
  clear hT
  apply cps; intro R hR
  go_enter Try.func42, Try.ntmps42
  go_wp2_with fail
  refine C.out.mono ?_
  rintro e w1 ⟨hb, A, C1, rfl, hown⟩
  have hb := hid hb
  have hown := hid hown
  clear C
  go_wp2_with fail
  exact hR.out _ _ ⟨hb.out, A, C1, rfl, hown.out⟩
end Go.Proofs.Ytfgphleophghnaa
