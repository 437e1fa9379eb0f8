/- Contracts of the tree package's functions that read and that add. -/
import Derived.Test.YtfgphleophghnaaTreeM
import Derived.Test.YtfgphleophghnaaIns
import Derived.StillTailTactics
set_option linter.unusedVariables false
set_option linter.unusedSimpArgs false
namespace Go.Proofs.Ytfgphleophghnaa
open Go.RowKit Go.MapKept

def NodeV (w : World) : Option Value → Option (Int × List Int) → Prop
  | none, none => True
  | some v, some (p, l) => ∃ a n c, v = .agg #[.int .i64 p, .slice a n c] ∧ Ints w 3 a n c l
  | _, _ => False
/-- The tree at block bt, its nodes in the map of block bm. -/
structure TreeAt (w : World) (bt bm : Nat) (M : TM) (next sz : Nat) : Prop where
  cell : w.heap[bt]? = some (.cells #[.map (some bm), .int .i64 next] 81 (0, 0))
  map : ∃ V, IMap w bm V sz ∧ ∀ k, NodeV w (V k) (M k)

theorem NodeV.keep {w w' : World} {v : Option Value} {m : Option (Int × List Int)} (h : NodeV w v m) (hk : ∀ (b : Nat) cs fr, w.heap[b]? = some (Obj.cells cs 3 fr) → w'.heap[b]? = some (Obj.cells cs 3 fr)) : NodeV w' v m := by
  match v, m, h with
  | none, none, _ => trivial
  | some v, some (p, l), ⟨a, n, c, e, hi⟩ => exact ⟨a, n, c, e, Arr.keep hi hk⟩
theorem NodeV.get {w : World} {v : Option Value} {m : Option (Int × List Int)} (h : NodeV w v m) : v.isSome = m.isSome := by
  match v, m, h with
  | none, none, _ => rfl
  | some v, some (p, l), _ => rfl
theorem TreeAt.kept {S : Nat → Prop} {w w' : World} {bt bm : Nat} {M : TM} {next sz : Nat} (h : TreeAt w bt bm M next sz) (hk : Kept S w w') (h1 : ¬ S bt) (h2 : ¬ S bm) (h3 : ∀ (b : Nat) cs fr, w.heap[b]? = some (Obj.cells cs 3 fr) → ¬ S b) : TreeAt w' bt bm M next sz := by
  obtain ⟨V, hV, hN⟩ := h.map
  exact ⟨(hk.block bt (Array.getElem?_eq_some_iff.1 h.cell).1 h1).trans h.cell, V, hV.kept hk h2, fun k => (hN k).keep fun b cs fr hb => (hk.block b (Array.getElem?_eq_some_iff.1 hb).1 (h3 b cs fr hb)).trans hb⟩
theorem TreeAt.below {w w' : World} {bt bm : Nat} {M : TM} {next sz : Nat} (h : TreeAt w bt bm M next sz) (hb : Below w.heap.size w w') : TreeAt w' bt bm M next sz :=
  h.kept (S := fun _ => False) (Kept.below hb) id id (fun _ _ _ _ => id)
theorem TreeAt.alloc {w : World} {bt bm : Nat} {M : TM} {next sz : Nat} (h : TreeAt w bt bm M next sz) (o : Obj) : TreeAt (w.alloc o) bt bm M next sz := h.below ((Below.refl _ _).alloc (Nat.le_refl _) o)
theorem TreeAt.drew {w : World} {bt bm : Nat} {M : TM} {next sz : Nat} (h : TreeAt w bt bm M next sz) : TreeAt w.drew bt bm M next sz := h.below (Below.refl _ _).drew
theorem TreeAt.lt {w : World} {bt bm : Nat} {M : TM} {next sz : Nat} (h : TreeAt w bt bm M next sz) : bt < w.heap.size ∧ bm < w.heap.size ∧ bt ≠ bm := by
  obtain ⟨V, hV, _⟩ := h.map
  exact ⟨(Array.getElem?_eq_some_iff.1 h.cell).1, hV.lt, hV.ne h.cell⟩
theorem TreeAt.cells {w : World} {bt bm : Nat} {M : TM} {next sz : Nat} (h : TreeAt w bt bm M next sz) : w.cell? ⟨bt, 0, none⟩ = some (.map (some bm)) ∧ w.cell? ⟨bt, 1, none⟩ = some (.int .i64 next) := by
  simp [World.cell?, h.cell]

theorem u_nodes : Try.prog.underlying 79 = some (.map 3 78) := by kernel_rfl
theorem u_int : Try.prog.underlying 3 = some (.int .i64) := by kernel_rfl
theorem z_node (w : World) : (zeroValue 78).run Try.prog w = .ok (.agg #[.int .i64 0, .slice none 0 0]) w := by kernel_rfl

theorem node_fields (p : Int) (a : Option Addr) (m c : Nat) (w : World) : (Instr.field 78 (.agg #[.int .i64 p, .slice a m c]) 0).run Try.prog w = .ok (.int .i64 p) w ∧ (Instr.field 78 (.agg #[.int .i64 p, .slice a m c]) 1).run Try.prog w = .ok (.slice a m c) w := ⟨by kernel_rfl, by kernel_rfl⟩
/-- What the look-up of a node gives. -/
theorem TreeAt.node {w : World} {bt bm : Nat} {M : TM} {next sz : Nat} (h : TreeAt w bt bm M next sz) (k : Int) : ∃ a m c, Ints w 3 a m c (kidsOf M k) ∧
    (Instr.lookup 79 (.map (some bm)) (.int .i64 k) true).run Try.prog w = .ok (.tuple #[.agg #[.int .i64 (parOf M k), .slice a m c], .bool (M k).isSome]) w ∧
    (Instr.lookup 79 (.map (some bm)) (.int .i64 k) false).run Try.prog w = .ok (.agg #[.int .i64 (parOf M k), .slice a m c]) w := by
  obtain ⟨V, hV, hN⟩ := h.map
  have h1 := hV.run_lookup (P := Try.prog) u_nodes u_int (z_node w) k true
  have h2 := hV.run_lookup (P := Try.prog) u_nodes u_int (z_node w) k false
  have hk := hN k
  unfold parOf kidsOf
  revert h1 h2 hk
  cases V k <;> cases M k
  · intro h1 h2 _
    exact ⟨none, 0, 0, arr_of_own (own_nil _ 0 3 1), h1, h2⟩
  · intro _ _ hk; exact hk.elim
  · intro _ _ hk; exact hk.elim
  · intro h1 h2 hk
    obtain ⟨a, n, c, rfl, hi⟩ := hk
    exact ⟨a, n, c, hi, h1, h2⟩

/-- A node stored. -/
theorem TreeAt.run_update {w : World} {bt bm : Nat} {M : TM} {next sz : Nat} (h : TreeAt w bt bm M next sz) (k q : Int) (l : List Int) (a : Option Addr) (n c : Nat) (hi : Ints w 3 a n c l) :
    ∃ w', (Instr.mapUpdate 79 (.map (some bm)) (.int .i64 k) (.agg #[.int .i64 q, .slice a n c])).run Try.prog w = .ok () w' ∧ TreeAt w' bt bm (fun i => if i = k then some (q, l) else M i) next (if (M k).isSome then sz else sz + 1) ∧ Kept (· = bm) w w' ∧ w'.heap.size = w.heap.size := by
  obtain ⟨V, hV, hN⟩ := h.map
  obtain ⟨w', h1, h2, h3, h4⟩ := hV.run_update (P := Try.prog) u_nodes u_int k (.agg #[.int .i64 q, .slice a n c])
  have hk : ∀ (b : Nat) cs fr, w.heap[b]? = some (Obj.cells cs 3 fr) → w'.heap[b]? = some (Obj.cells cs 3 fr) := fun b cs fr hb => (h3.block b (Array.getElem?_eq_some_iff.1 hb).1 (hV.ne hb)).trans hb
  rw [(hN k).get] at h2
  have hc := (h3.block bt (Array.getElem?_eq_some_iff.1 h.cell).1 (hV.ne h.cell)).trans h.cell
  refine ⟨w', h1, ⟨hc, ⟨_, h2, ?_⟩⟩, h3, h4⟩
  · intro i
    by_cases hik : i = k
    · simp only [if_pos hik]; exact ⟨a, n, c, rfl, Arr.keep hi hk⟩
    · simp only [if_neg hik]; exact (hN i).keep hk
set_option maxRecDepth 20000 in
/-- tree.New. -/
theorem new_any (w : World) : Calls Try.prog 7 #[] w fun e w' => ∃ bt bm, e = .returned (.pointer (some ⟨bt, 0, none⟩)) ∧ Below w.heap.size w w' ∧ w.heap.size ≤ bt ∧ w.heap.size ≤ bm ∧ TreeAt w' bt bm newM 1 1 := by
  apply cps; intro R hR
  have hmm := run_makeMap0 Try.prog
  have hI := hid (IMap.made w)
  have hB := hid ((Below.refl w.heap.size w).alloc (Nat.le_refl _) (.map #[] 0))
  go_enter Try.func7, Try.ntmps7
  go_wp2_with (refine wp_insert _ rfl _ _ _ 79 rfl 3 78 u_nodes u_int w.heap.size _ _ rfl hI.out 0 rfl _ rfl ?_)
  intro w' h1 h2 h3
  have h2 := hid h2
  have h1 := hid h1
  have h3' : w'.heap.size = w.heap.size + 1 := by simpa using h3
  clear h3 hI
  go_wp2_with fail
  have hb1 : Below w.heap.size w w' := hB.out.trans (h2.out.toBelow (fun k hk => by rw [hk]; exact Nat.le_refl _) (by simp))
  refine hR.out _ _ ⟨_, _, rfl, hb1.alloc (by omega) _, by omega, Nat.le_refl _, ?_⟩
  refine ⟨by rw [← h3']; exact (heap_alloc w' _).1, _, h1.out.alloc _, fun k => ?_⟩
  unfold newM
  by_cases hk : k = 0
  · simp only [if_pos hk]; exact ⟨none, 0, 0, rfl, arr_of_own (own_nil _ 0 3 1)⟩
  · simp only [if_neg hk]; trivial

set_option maxRecDepth 20000 in
/-- Tree.Has. -/
theorem has_any (n : Int) (w : World) (bt bm : Nat) (M : TM) (next sz : Nat) (hT : TreeAt w bt bm M next sz) :
    Calls Try.prog 30 #[.pointer (some ⟨bt, 0, none⟩), .int .i64 n] w fun e w' => e = .returned (.bool (M n).isSome) ∧ Below w.heap.size w w' := by
  apply cps; intro R hR
  obtain ⟨c0, c1⟩ := hT.cells
  obtain ⟨a, m, c, hi, hl, _⟩ := hT.node n
  have hi := hid hi
  have hz := z_node w
  clear hT
  go_enter Try.func30, Try.ntmps30
  go_wp2_with fail
  exact hR.out _ _ ⟨rfl, ((Below.refl _ _).alloc (Nat.le_refl _) _)⟩

set_option maxRecDepth 20000 in
/-- Tree.Parent. -/
theorem parent_any (n : Int) (w : World) (bt bm : Nat) (M : TM) (next sz : Nat) (hT : TreeAt w bt bm M next sz) (hn : n ≠ 0) (hM : (M n).isSome = true) :
    Calls Try.prog 24 #[.pointer (some ⟨bt, 0, none⟩), .int .i64 n] w fun e w' => e = .returned (.tuple #[.int .i64 (parOf M n), .bool true]) ∧ Below w.heap.size w w' := by
  apply cps; intro R hR
  have C := hid (has_any n w bt bm M next sz hT)
  have HT := hid hT
  have hn0 : (n == 0) = false := by simpa using hn
  clear hT
  go_enter Try.func24, Try.ntmps24
  go_wp2_with fail
  refine (C.out).mono ?_
  rintro e w1 ⟨rfl, hb⟩
  have hT1 := HT.out.below hb
  obtain ⟨c0, c1⟩ := hT1.cells
  obtain ⟨a, m, c, hi, _, hl⟩ := hT1.node n
  obtain ⟨hf0, hf1⟩ := node_fields (parOf M n) a m c w1
  have hi := hid hi
  have hb := hid hb
  clear hT1 C HT
  go_wp2_with fail
  exact hR.out _ _ ⟨rfl, hb.out⟩

set_option maxRecDepth 20000 in
/-- Tree.Parent of the root, or of no node. -/
theorem parent_none (n : Int) (w : World) (bt bm : Nat) (M : TM) (next sz : Nat) (hT : TreeAt w bt bm M next sz) (hM : n = 0 ∨ (M n).isSome = false) :
    Calls Try.prog 24 #[.pointer (some ⟨bt, 0, none⟩), .int .i64 n] w fun e w' => e = .returned (.tuple #[.int .i64 0, .bool false]) ∧ Below w.heap.size w w' := by
  apply cps; intro R hR
  have C := hid (has_any n w bt bm M next sz hT)
  clear hT
  by_cases hn : n = 0
  · subst hn
    clear C
    go_enter Try.func24, Try.ntmps24
    go_wp2_with fail
    exact hR.out _ _ ⟨rfl, Below.refl _ _⟩
  · have hn0 : (n == 0) = false := by simpa using hn
    have hM : (M n).isSome = false := hM.resolve_left hn
    go_enter Try.func24, Try.ntmps24
    go_wp2_with fail
    refine (C.out).mono ?_
    rintro e w1 ⟨rfl, hb⟩
    have hb := hid hb
    rw [hM]
    clear C
    go_wp2_with fail
    exact hR.out _ _ ⟨rfl, hb.out⟩

set_option maxRecDepth 20000 in
/-- Tree.Kids. -/
theorem kids_any (n : Int) (w : World) (bt bm : Nat) (M : TM) (next sz : Nat) (hT : TreeAt w bt bm M next sz) (hl : (kidsOf M n).length ≤ 1024) :
    Calls Try.prog 26 #[.pointer (some ⟨bt, 0, none⟩), .int .i64 n] w fun e w' => Below w.heap.size w w' ∧ ∃ A C, e = .returned (.slice A (kidsOf M n).length C) ∧ w'.ownsRow w.heap.size 3 1 (.slice A (kidsOf M n).length C) (kidsOf M n).length (iv (kidsOf M n)) := by
  apply cps; intro R hR
  have C := hid (has_any n w bt bm M next sz hT)
  have HT := hid hT
  clear hT
  cases hM : (M n).isSome with
  | false =>
    have hk : kidsOf M n = [] := kidsOf_none (by simpa using hM)
    go_enter Try.func26, Try.ntmps26
    go_wp2_with fail
    refine (C.out).mono ?_
    rintro e w1 ⟨rfl, hb⟩
    have hb := hid hb
    rw [hM]
    clear C HT
    go_wp2_with fail
    rw [hk] at hR
    exact hR.out _ _ ⟨hb.out, none, 0, rfl, own_nil _ _ _ _⟩
  | true =>
    go_enter Try.func26, Try.ntmps26
    go_wp2_with fail
    refine (C.out).mono ?_
    rintro e w1 ⟨rfl, hb⟩
    rw [hM]
    have hT1 := HT.out.below hb
    obtain ⟨c0, c1⟩ := hT1.cells
    obtain ⟨a, m, c, hi, _, hlk⟩ := hT1.node n
    obtain ⟨hf0, hf1⟩ := node_fields (parOf M n) a m c w1
    have hm : m = (kidsOf M n).length := by have := hi.len; rw [iv_length] at this; omega
    subst hm
    have D := hid (clone_any a _ c _ (by omega) w1 hi)
    have hb := hid hb
    clear hT1 C HT hi
    go_wp2_with fail
    refine D.out.mono ?_
    rintro e w2 ⟨hb2, A, C, rfl, hown⟩
    have hb3 := hid (hb.out.then hb2 hb.out.size)
    have hown := hid (own_mono hown hb.out.size)
    clear D hb2
    go_wp2_with fail
    exact hR.out _ _ ⟨hb3.out, A, C, rfl, hown.out⟩

set_option maxRecDepth 20000 in
/-- Tree.Len. -/
theorem len_any (w : World) (bt bm : Nat) (M : TM) (next sz : Nat) (hT : TreeAt w bt bm M next sz) :
    Calls Try.prog 28 #[.pointer (some ⟨bt, 0, none⟩)] w fun e w' => e = .returned (.int .i64 sz) ∧ w' = w := by
  apply cps; intro R hR
  obtain ⟨c0, c1⟩ := hT.cells
  obtain ⟨V, hV, _⟩ := hT.map
  have hlen := fun ty => hV.run_len (P := Try.prog) (ty := ty) u_nodes
  clear hT hV
  go_enter Try.func28, Try.ntmps28
  go_wp2_with fail
  exact hR.out _ _ ⟨rfl, rfl⟩
end Go.Proofs.Ytfgphleophghnaa
