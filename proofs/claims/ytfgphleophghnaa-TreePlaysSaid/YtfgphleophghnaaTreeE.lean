/- Contracts of slices.DeleteFunc with the closure of tree.without, of tree.without and of tree.take. -/
import Derived.Test.YtfgphleophghnaaTreeD
set_option linter.unusedVariables false
set_option linter.unusedSimpArgs false
namespace Go.Proofs.Ytfgphleophghnaa
open Go.RowKit Go.MapKept

def wo (l : List Int) (x : Int) : List Int := l.filter (fun k => decide (k ≠ x))
theorem wo_none {l : List Int} {x : Int} (h : x ∉ l) : wo l x = l := by
  unfold wo
  rw [List.filter_eq_self]
  intro a ha
  simp only [decide_eq_true_eq]
  rintro rfl; exact h ha
theorem wo_snoc (l : List Int) (x : Int) (j : Nat) (hj : j < l.length) : wo (l.take (j + 1)) x = if l.getD j 0 = x then wo (l.take j) x else wo (l.take j) x ++ [l.getD j 0] := by
  have : l.take (j + 1) = l.take j ++ [l.getD j 0] := by simp [List.getD, List.getElem?_eq_getElem hj]
  rw [this]
  unfold wo
  rw [List.filter_append]
  generalize l.getD j 0 = y
  by_cases h : y = x <;> simp [h]
theorem wo_le (l : List Int) (x : Int) : (wo l x).length ≤ l.length := List.length_filter_le _ _
theorem wo_lt {l : List Int} {x : Int} (h : x ∈ l) : (wo l x).length < l.length := by
  rcases Nat.lt_or_ge (wo l x).length l.length with h1 | h1
  · exact h1
  · have : wo l x = l := List.Sublist.eq_of_length_le List.filter_sublist h1
    rw [← this] at h
    simp [wo] at h
theorem wo_take_first {l : List Int} {x : Int} (hx : x ∈ l) : wo (l.take (l.idxOf x + 1)) x = l.take (l.idxOf x) := by
  have h1 := List.idxOf_lt_length_iff.2 hx
  have h2 : l[l.idxOf x] = x := List.getElem_idxOf h1
  rw [wo_snoc l x _ h1, if_pos (by simp [List.getD, List.getElem?_eq_getElem h1])]
  apply wo_none
  intro hm
  obtain ⟨i, hi, e⟩ := List.getElem_of_mem hm
  simp only [List.length_take] at hi
  have hlt : i < l.idxOf x := by omega
  have := List.not_of_lt_findIdx (p := (· == x)) (xs := l) (i := i) hlt
  simp only [List.getElem_take] at e
  simp [e] at this

theorem kept_setCells (g : Nat) : ∀ (vs : List Value) (o : Nat) (w : World), Kept (· = g) w (w.setCells g o vs) ∧ (w.setCells g o vs).heap.size = w.heap.size
  | [], o, w => ⟨Kept.refl _ _, rfl⟩
  | v :: r, o, w => by
    have h1 := kept_setCells g r (o + 1) (w.setCell ⟨g, o, none⟩ v)
    exact ⟨((Kept.refl (· = g) w).setCell (p := ⟨g, o, none⟩) (Or.inl rfl) v).trans h1.1, by
      show ((w.setCell ⟨g, o, none⟩ v).setCells g (o + 1) r).heap.size = _
      rw [h1.2]; simp [World.setCell]⟩
/-- clear of a part of a row. -/
theorem run_clear (w : World) (g o m C : Nat) (cur : Array Value) (h : w.heap[g]? = some (.cells cur 3 (0, 0))) (hm : o + m ≤ cur.size) (ty : TypeId) :
    ∃ w', (Builtin.clear_ #[73] ty #[.slice (some ⟨g, o, none⟩) m C]).run Try.prog w = .ok (.tuple #[]) w' ∧ (∃ cur', w'.heap[g]? = some (.cells cur' 3 (0, 0)) ∧ cur'.size = cur.size ∧ ∀ j, j < o → cur'[j]? = cur[j]?) ∧ Kept (· = g) w w' ∧ w'.heap.size = w.heap.size := by
  cases m with
  | zero => exact ⟨w, by kernel_rfl, ⟨cur, h, rfl, fun _ _ => rfl⟩, Kept.refl _ _, rfl⟩
  | succ m =>
    have hz : (zeroValue 3).run Try.prog w = .ok (.int .i64 0) w := by kernel_rfl
    have hu : Try.prog.underlying 73 = some (.slice 3) := Try.underlying73
    have hs := run_storeCells_cells (P := Try.prog) g o (Builtin.zeroCells (Value.int .i64 0).cells (m + 1)).toList 0 w (fun j hj => by
        simp only [Array.length_toList, zeroCells_size] at hj
        simp [World.cell?, h]; omega) (fun j hj => by simp [World.frozen?, h]) (fun v hv => by
        simp [Builtin.zeroCells, Value.cells] at hv
        obtain ⟨i, _, hv⟩ := hv
        rw [Nat.mod_one] at hv
        rw [← hv]; rfl)
    refine ⟨_, ?_, ⟨_, heap_setCells g (Builtin.zeroCells (Value.int .i64 0).cells (m + 1)).toList (o + 0) w cur 3 (0, 0) h, by rw [putAll_size], fun j hj => ?_⟩, (kept_setCells g _ _ w).1, (kept_setCells g _ _ w).2⟩
    · simp [Builtin.clear_, hu, Sem.run_bind, Result.andThen, hz, hs]
    · rw [putAll_get _ _ _ _ (by simp only [Array.length_toList, zeroCells_size]; omega), if_neg (by omega)]

set_option maxRecDepth 20000 in
/-- slices.DeleteFunc with the closure of tree.without. -/
theorem deleteFunc_any (A : Option Addr) (n C base b : Nat) (l : List Int) (x : Int) (hn : n ≤ 1000000) (w : World) (hown : w.ownsRow base 3 1 (.slice A n C) n (iv l)) (hb : w.heap[b]? = some (.cells #[.int .i64 x] 3 (0, 0))) (hne : (Value.slice A n C).ownBlock ≠ some b) :
    Calls Try.prog 51 #[.slice A n C, .func (.func 52) #[] #[.pointer (some ⟨b, 0, none⟩)]] w fun e w' => Below base w w' ∧ ∃ C', e = .returned (.slice A (wo l x).length C') ∧ w'.ownsRow base 3 1 (.slice A (wo l x).length C') (wo l x).length (iv (wo l x)) := by
  have hl : l.length = n := by have := hown.1; rw [iv_length] at this; omega
  have hcb : w.cell? ⟨b, 0, none⟩ = some (.int .i64 x) := by simp [World.cell?, hb]
  have hblt : b < w.heap.size := (Array.getElem?_eq_some_iff.1 hb).1
  apply cps; intro R hR
  have I := hid (indexFunc_any A n C b l x hn w (arr_of_own hown) hcb)
  by_cases hx : x ∈ l
  · have hi : idx l x = (l.idxOf x : Nat) := by unfold idx; rw [if_pos hx]
    have hilt := List.idxOf_lt_length_iff.2 hx
    have hfirst := wo_take_first hx
    have hwlt := hid (wo_lt hx)
    rw [hi] at I
    have e0 : (((l.idxOf x : Nat) : Int) == -1) = false := by rw [beq_eq_false_iff_ne]; omega
    rcases hown.2 with ⟨hv2, hn0⟩ | ⟨g, cap, cur, hv2, hg, hh, hc, hm, hz, ht⟩
    · exfalso; omega
    simp at hv2
    obtain ⟨rfl, rfl⟩ := hv2
    simp only [Nat.mul_one] at hz ht
    have hgb : b ≠ g := by rintro rfl; exact hne rfl
    have hgl : g < w.heap.size := (Array.getElem?_eq_some_iff.1 hh).1
    have hcur : ∀ j, j < n → cur[j]? = (iv l)[j]? := fun j hj => by rw [← ht, List.getElem?_take, if_pos hj]; simp
    have hI := hid (show wo (l.take (l.idxOf x + 1)) x = l.take (l.idxOf x) from hfirst)
    have hIl : l.idxOf x = (wo (l.take (l.idxOf x + 1)) x).length := by rw [hfirst, List.length_take]; omega
    generalize l.idxOf x = q at *
    have CC := hid (fun (k : Int) (w' : World) (h : w'.cell? ⟨b, 0, none⟩ = some (.int .i64 x)) => without1_any b x k w' h)
    have hen := entersW1
    have hcur := hid hcur
    have ht := hid ht
    have HI := hid hIl
    clear hown hfirst hIl hi hx
    go_enter Try.func51, Try.ntmps51
    go_wp2_with fail
    refine I.out.mono ?_
    rintro e w' ⟨rfl, rfl⟩
    go_wp2_with fail
    go_loopw [5, 6, 7] (fun iS jS v wr => ∃ (j : Nat) (cur' : Array Value) (X : List Int), q < j ∧ j ≤ n ∧ X = wo (l.take j) x ∧ jS = .int .i64 j ∧ iS = .int .i64 (X.length : Nat) ∧ wr.heap[g]? = some (.cells cur' 3 (0, 0)) ∧ cur'.size = C ∧ (∀ k, k < X.length → cur'[k]? = (iv X)[k]?) ∧ (∀ k, j ≤ k → k < n → cur'[k]? = (iv l)[k]?) ∧ Kept (· = g) w' wr) (fun _ jS _ _ => n - (intOf jS).toNat)
    case atStart =>
      refine ⟨q + 1, cur, _, by omega, by omega, rfl, by go_num, int_ext (by rw [← HI.out]), hh, hz, fun k hk => ?_, fun k _ hk => hcur.out k hk, Kept.refl _ _⟩
      rw [hI.out] at hk ⊢
      simp only [List.length_take] at hk
      rw [hcur.out k (by omega)]
      unfold iv
      rw [List.getElem?_map, List.getElem?_map, List.getElem?_take, if_pos (by omega)]
    case round =>
      obtain ⟨j, cur', X, hqj, hj, hX, rfl, rfl, hg', hz', hlo, hhi, hk⟩ := hrel
      have hXj : X.length ≤ j := by rw [hX]; have := wo_le (l.take j) x; simp at this; omega
      have HX := hid hX
      have Hlo := hid hlo
      have Hhi := hid hhi
      have cb := (hk.block b hblt hgb)
      have cb1 : wr.cell? ⟨b, 0, none⟩ = some (.int .i64 x) := by simp [World.cell?, cb, hb]
      have CD := hid (CC.out (l.getD j 0) wr cb1)
      have HK := hid hk
      by_cases hlt : j < n
      · have c0 : wr.cell? ⟨g, j, none⟩ = some (.int .i64 (l.getD j 0)) := by
          simp [World.cell?, hg', hhi j (Nat.le_refl _) hlt, iv_get l j (by omega)]
        have hsn := hid (wo_snoc l x j (by omega))
        have cI : ∃ u, wr.cell? ⟨g, X.length, none⟩ = some u := by
          simp [World.cell?, hg', Array.getElem?_eq_getElem (show X.length < cur'.size by omega)]
        obtain ⟨u, cI⟩ := cI
        have cF : wr.frozen? ⟨g, X.length, none⟩ = false := by simp [World.frozen?, hg']
        generalize l.getD j 0 = y at *
        have hXC : X.length < C := by omega
        clear hX hlo hhi hk cb
        by_cases hxy : y = x
        · subst hxy
          go_wp2_with fail
          refine CD.out.mono ?_
          rintro e w2 ⟨rfl, rfl⟩
          go_wp2_with fail
          go_roundw
          case rel =>
            have h1 := hsn.out
            rw [if_pos trivial, ← HX.out] at h1
            exact ⟨j + 1, cur', X, by omega, by omega, h1.symm, by go_num, rfl, hg', hz', Hlo.out, fun k h1 h2 => Hhi.out k (by omega) h2, HK.out⟩
          case measure => simp [intOf]; omega
        · go_wp2_with fail
          refine CD.out.mono ?_
          rintro e w2 ⟨rfl, rfl⟩
          rw [decide_eq_false hxy]
          go_wp2_with fail
          go_roundw
          case rel =>
            have h1 := hsn.out
            rw [if_neg hxy, ← HX.out] at h1
            refine ⟨j + 1, cur'.setIfInBounds X.length (.int .i64 y), X ++ [y], by omega, by omega, h1.symm, by go_num, int_ext (by simp), ?_, by simp [hz'], fun k hk => ?_, fun k h1 h2 => ?_, HK.out.setCell (Or.inl rfl) _⟩
            · simp [World.setCell, Array.getElem?_modify, hg']
            · simp only [List.length_append, List.length_cons, List.length_nil] at hk
              by_cases hkX : k = X.length
              · subst hkX
                rw [Array.getElem?_setIfInBounds_self_of_lt (by omega), iv_append, List.getElem?_append_right (by rw [iv_length]; omega), iv_length]
                simp [iv]
              · rw [Array.getElem?_setIfInBounds_ne (by omega), Hlo.out k (by omega), iv_append, List.getElem?_append_left (by rw [iv_length]; omega)]
            · rw [Array.getElem?_setIfInBounds_ne (by omega), Hhi.out k (by omega) h2]
          case measure => simp [intOf]; omega
      · obtain rfl : j = n := by omega
        have hXl := hid (show X = wo l x by rw [hX, ← hl, List.take_length])
        have hXj' : X.length < j := by have := hwlt.out; rw [← hXl.out, hl] at this; exact this
        obtain ⟨w3, hcl, hcur3, hk3, hsz3⟩ := run_clear wr g X.length (j - X.length) (C - X.length) cur' hg' (by omega) 0
        have hcur3 := hid hcur3
        have hk4 := hid (hk.trans hk3)
        clear hX hk cb hlo hhi hk3
        go_wp2_with fail
        rw [← hXl.out] at hR
        refine hR.out _ _ ⟨hk4.out.toBelow (fun k hk => by rw [hk]; exact hg) (by omega), C, rfl, ?_⟩
        obtain ⟨cur3, hh3, hz3, hlo3⟩ := hcur3.out
        exact own_of_block hh3 hg (by omega) hm (by omega) (by rw [iv_length]) (fun k hk => by rw [hlo3 k hk]; exact Hlo.out k hk)
  · have hi : idx l x = -1 := by unfold idx; rw [if_neg hx]
    rw [hi] at I
    have hw : wo l x = l := wo_none hx
    rw [hw, hl] at hR
    have hown := hid hown
    clear hi hw
    go_enter Try.func51, Try.ntmps51
    go_wp2_with fail
    refine I.out.mono ?_
    rintro e w' ⟨rfl, rfl⟩
    go_wp2_with fail
    exact hR.out _ _ ⟨Below.refl _ _, C, rfl, hown.out⟩

set_option maxRecDepth 20000 in
/-- tree.without. -/
theorem without_any (a : Option Addr) (n c : Nat) (l : List Int) (x : Int) (hn : n ≤ 1000000) (w : World) (hs : Ints w 3 a n c l) :
    Calls Try.prog 36 #[.slice a n c, .int .i64 x] w fun e w' => Below w.heap.size w w' ∧ ∃ A C, e = .returned (.slice A (wo l x).length C) ∧ w'.ownsRow w.heap.size 3 1 (.slice A (wo l x).length C) (wo l x).length (iv (wo l x)) := by
  have hmf : ∀ (fn : Fn) (first cap : Array Value) (w : World), (Instr.makeFunc fn first cap).run Try.prog w = .ok (.func fn first cap) w := fun _ _ _ _ => rfl
  have hb0 := (Below.refl w.heap.size w).alloc (Nat.le_refl _) (.cells #[.int .i64 x] 3)
  have C0 := hid (clone_any a n c l hn (w.alloc (.cells #[.int .i64 x] 3)) (hs.below hb0))
  have hb0 := hid hb0
  clear hs
  apply cps; intro R hR
  go_enter Try.func36, Try.ntmps36
  go_wp2_with fail
  refine C0.out.mono ?_
  rintro e w1 ⟨hb1, A, C1, rfl, hown⟩
  have hown1 : w1.ownsRow (w.heap.size + 1) 3 1 (.slice A n C1) n (iv l) := by simpa using hown
  have hh1 : w1.heap[w.heap.size]? = some (.cells #[.int .i64 x] 3 (0, 0)) := (hb1.block _ (by simp)).trans (heap_alloc w _).1
  have D := hid (deleteFunc_any A n C1 (w.heap.size + 1) w.heap.size l x hn w1 hown1 hh1 (by intro h; have := own_ge hown1 _ h; omega))
  have hb2 := hid (hb0.out.then hb1 hb0.out.size)
  clear hb1 hown hown1 hh1 C0
  go_wp2_with fail
  refine D.out.mono ?_
  rintro e w2 ⟨hb3, C2, rfl, hown2⟩
  have hb4 := hid (hb2.out.trans (hb3.mono (by omega)))
  have hown3 := hid (own_mono hown2 (Nat.le_succ w.heap.size))
  clear D hb3 hown2
  go_wp2_with fail
  exact hR.out _ _ ⟨hb4.out, A, C2, rfl, hown3.out⟩

/-- A node taken away from its parent's kids. -/
def takeM (M : TM) (n : Int) : TM := fun i => if i = parOf M n then some (parOf M (parOf M n), wo (kidsOf M (parOf M n)) n) else M i

set_option maxRecDepth 20000 in
/-- Tree.take. -/
theorem take_any (n : Int) (w : World) (bt bm : Nat) (M : TM) (next sz : Nat) (hT : TreeAt w bt bm M next sz) (hp : (M (parOf M n)).isSome = true) (hl : (kidsOf M (parOf M n)).length ≤ 1024) :
    Calls Try.prog 31 #[.pointer (some ⟨bt, 0, none⟩), .int .i64 n] w fun e w' => e = .returned (.tuple #[]) ∧ Kept (· = bm) w w' ∧ TreeAt w' bt bm (takeM M n) next sz := by
  apply cps; intro R hR
  obtain ⟨c0, c1⟩ := hT.cells
  obtain ⟨a1, m1, e1, hi1, _, hlk1⟩ := hT.node n
  obtain ⟨hf0, hf1⟩ := node_fields (parOf M n) a1 m1 e1 w
  have hMt : takeM M n = fun i => if i = parOf M n then some (parOf M (parOf M n), wo (kidsOf M (parOf M n)) n) else M i := rfl
  rw [hMt] at hR
  clear hMt hi1
  generalize parOf M n = p at *
  obtain ⟨a, m, c, hi, hi0, hlk⟩ := hT.node p
  have hm : m = (kidsOf M p).length := by have := hi.len; rw [iv_length] at this; omega
  subst hm
  have hb0 := (Below.refl w.heap.size w).alloc (Nat.le_refl _) (.cells #[.int .i64 (parOf M p), .slice a (kidsOf M p).length c] 78)
  have C := hid (without_any a _ c _ n (by omega) _ (hi.below hb0))
  have hb0 := hid hb0
  have HT := hid hT
  have hT0 := hid hT.lt
  clear hT hi
  go_enter Try.func31, Try.ntmps31
  go_wp2_with fail
  refine C.out.mono ?_
  rintro e w1 ⟨hb1, A, C1, rfl, hown⟩
  generalize (wo (kidsOf M p) n).length = q at *
  have hz1 : w.heap.size < w1.heap.size := by have := hb1.size; simp at this; omega
  have hh2 : w1.heap[w.heap.size]? = some (.cells #[.int .i64 (parOf M p), .slice a (kidsOf M p).length c] 78) := (hb1.block _ (by simp)).trans (heap_alloc w _).1
  have hown' : w1.ownsRow (w.heap.size + 1) 3 1 (.slice A q C1) q (iv (wo (kidsOf M p) n)) := by simpa using hown
  have hb3 := hid (hb0.out.then hb1 hb0.out.size)
  have hT2 := HT.out.below hb3.out
  have kf : w1.frozen? ⟨w.heap.size, 1, none⟩ = false := by simp [World.frozen?, hh2]
  have k9 : w1.cell? ⟨w.heap.size, 1, none⟩ = some (.slice a (kidsOf M p).length c) := by simp [World.cell?, hh2]
  clear C c0 c1 HT hown hlk hf0 hf1 hlk1 hi0 hb1
  go_wp2_with fail
  have hb4 := hb3.out.setCell (p := ⟨w.heap.size, 1, none⟩) (Nat.le_refl _) (.slice A q C1)
  have hT3 : TreeAt (w1.setCell ⟨w.heap.size, 1, none⟩ (.slice A q C1)) bt bm M next sz := by
    have hS : bt ≠ w.heap.size ∧ bm ≠ w.heap.size := ⟨Nat.ne_of_lt hT0.out.1, Nat.ne_of_lt hT0.out.2.1⟩
    refine hT2.kept (S := fun b => b = w.heap.size) ((Kept.refl (fun b => b = w.heap.size) w1).setCell (p := ⟨w.heap.size, 1, none⟩) (Or.inl rfl) _) hS.1 hS.2 ?_
    rintro b cs fr hb rfl
    rw [hh2] at hb
    cases hb
  have hown3 : (w1.setCell ⟨w.heap.size, 1, none⟩ (.slice A q C1)).ownsRow (w.heap.size + 1) 3 1 (.slice A q C1) q (iv (wo (kidsOf M p) n)) :=
    own_setCell hown' (p := ⟨w.heap.size, 1, none⟩) (by intro h; have := own_ge hown' _ h; simp at this; omega) _
  have hh3 : (w1.setCell ⟨w.heap.size, 1, none⟩ (.slice A q C1)).heap[w.heap.size]? = some (.cells #[.int .i64 (parOf M p), .slice A q C1] 78) := by
    simp [World.setCell, Array.getElem?_modify, hh2]
  generalize w1.setCell ⟨w.heap.size, 1, none⟩ (.slice A q C1) = W at *
  have hk3 := hid (Kept.below (S := (· = bm)) hb4)
  obtain ⟨d0', d1'⟩ := hT3.cells
  have k8 : W.cell? ⟨w.heap.size, 0, none⟩ = some (.int .i64 (parOf M p)) := by simp [World.cell?, hh3]
  have k9 : W.cell? ⟨w.heap.size, 1, none⟩ = some (.slice A q C1) := by simp [World.cell?, hh3]
  have hT3 := hid hT3
  have hown3 := hid hown3
  clear hown' hT2 hb3 hb4 hh2 kf hz1
  obtain ⟨W2, hu, hT4, hk4, hz4⟩ := hT3.out.drew.run_update p (parOf M p) (wo (kidsOf M p) n) A q C1 (arr_of_own hown3.out)
  go_still_tail 6, (by kernel_rfl)
  change wpList _ _ _ _ _ W.drew
  have hk5 := hid ((hk3.out.drew).trans hk4)
  rw [hp] at hT4
  have hT4 := hid hT4
  generalize W.drew = Wd at *
  clear hk3 hT3 hk4 hown3 hb0 hz4 d0' d1' k8 k9 hh3
  go_wp2_with fail
  exact bodyPost_end (results_none rfl _ _ _) rfl (hR.out _ _ ⟨rfl, hk5.out, hT4.out⟩)
end Go.Proofs.Ytfgphleophghnaa
