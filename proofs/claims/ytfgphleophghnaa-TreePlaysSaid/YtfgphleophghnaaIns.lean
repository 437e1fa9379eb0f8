/- Contracts of slices.Clone and slices.Insert at []int, in the words of ownsRow. -/
import Derived.Test.YtfgphleophghnaaMap
import Derived.Test.YtfgphleophghnaaShelfIns
set_option linter.unusedVariables false
set_option linter.unusedSimpArgs false
namespace Go.Proofs.Ytfgphleophghnaa
open Go.RowKit Go.MapKept

theorem info3 : (Try.prog.info? 3).map (fun i => (i.zero, i.size, i.bytes)) = some (some (.int .i64 0), 1, 8) := by kernel_rfl
theorem iv_one (l : List Int) : ∀ u ∈ iv l, u.oneCell' = true := ints_oneCell .i64 l

/-- slices.Clone. -/
theorem clone_any (a : Option Addr) (n c : Nat) (l : List Int) (hn : n ≤ 1000000) (w : World) (hs : Ints w 3 a n c l) :
    Calls Try.prog 29 #[.slice a n c] w fun e w' => Below w.heap.size w w' ∧ ∃ A C, e = .returned (.slice A n C) ∧ w'.ownsRow w.heap.size 3 1 (.slice A n C) n (iv l) := by
  obtain ⟨i0, hi, hz0, hz1, hz2⟩ := info_parts info3
  apply cps; intro R hR
  have H := hid hs
  by_cases hnil : a = none
  · obtain ⟨rfl, rfl⟩ := hs.nil0 hnil
    subst hnil
    have hl : l = [] := by have := hs.len; rw [iv_length] at this; exact List.eq_nil_of_length_eq_zero (by simpa using this)
    subst hl
    have q : ∀ w, (binOp .eql 73 (.slice none 0 0) (.slice none 0 0)).run Try.prog w = .ok (.bool true) w := fun _ => by kernel_rfl
    clear hs
    go_enter Try.func29, Try.ntmps29
    go_wp2_with fail
    exact hR.out _ _ ⟨Below.refl _ _, none, 0, rfl, own_nil _ _ _ _⟩
  · obtain ⟨ad, rfl⟩ := Option.ne_none_iff_exists'.1 hnil
    have q : ∀ (w : World) (n c : Nat) (a : Addr), (binOp .eql 73 (.slice (some a) n c) (.slice none 0 0)).run Try.prog w = .ok (.bool false) w := fun _ _ _ _ => by kernel_rfl
    clear hs hnil
    go_enter Try.func29, Try.ntmps29
    go_wp2_with (at_builtin; refine wp_append_any _ rfl _ _ 73 rfl w.heap.size 3 i0 (.int .i64 0) 1 8 Try.underlying73 hi hz0 hz1 hz2 rfl (by decide) _ _ _ rfl (own_lit w w.heap.size 3 (Nat.le_refl _) #[] 0 1 rfl (by unfold maxLen; omega)) _ n c (iv l) rfl ?c1 (iv_one l) ?c2 ?c3 ?c4 ?_)
    case c1 => exact H.out.below ((Below.refl _ _).alloc (Nat.le_refl _) _)
    case c2 => unfold maxLen; omega
    case c3 => omega
    case c4 => simp
    intro v' w' hown hg hloc
    have hown : w'.ownsRow w.heap.size 3 1 v' n (iv l) := by simpa using hown
    obtain ⟨A, C, rfl⟩ := own_shape hown
    have hb := hid (((Below.refl w.heap.size w).alloc (Nat.le_refl _) (.cells #[] 3)).grown hg (by simp) (fun k hk => by simp [Value.ownBlock] at hk; omega))
    clear hg hloc
    go_wp2_with fail
    exact hR.out _ _ ⟨hb.out, A, C, rfl, hown⟩

/-! ### cells written in a row -/
def putAll (cs : Array Value) : Nat → List Value → Array Value
  | _, [] => cs
  | o, v :: r => putAll (cs.setIfInBounds o v) (o + 1) r
theorem putAll_size : ∀ (vs : List Value) (o : Nat) (cs : Array Value), (putAll cs o vs).size = cs.size
  | [], _, _ => rfl
  | v :: r, o, cs => by rw [putAll, putAll_size r]; simp
theorem putAll_get : ∀ (vs : List Value) (o : Nat) (cs : Array Value) (j : Nat), o + vs.length ≤ cs.size → (putAll cs o vs)[j]? = if o ≤ j ∧ j < o + vs.length then vs[j - o]? else cs[j]?
  | [], o, cs, j, _ => by rw [putAll, if_neg (by simp)]
  | v :: r, o, cs, j, h => by
    simp only [List.length_cons] at h
    rw [putAll, putAll_get r (o + 1) _ j (by simp; omega)]
    by_cases h1 : o + 1 ≤ j ∧ j < o + 1 + r.length
    · rw [if_pos h1, if_pos (by simp; omega)]
      obtain ⟨k, rfl⟩ : ∃ k, j = o + (k + 1) := ⟨j - o - 1, by omega⟩
      rw [show o + (k + 1) - (o + 1) = k by omega, show o + (k + 1) - o = k + 1 by omega, List.getElem?_cons_succ]
    · rw [if_neg h1]
      by_cases h2 : j = o
      · subst h2
        rw [if_pos (by simp), Array.getElem?_setIfInBounds_self_of_lt (by omega)]
        simp
      · rw [if_neg (by simp; omega), Array.getElem?_setIfInBounds_ne (by omega)]
theorem heap_setCells (b : Nat) : ∀ (vs : List Value) (o : Nat) (w : World) (cs : Array Value) (E : TypeId) (fr : Nat × Nat), w.heap[b]? = some (.cells cs E fr) → (w.setCells b o vs).heap[b]? = some (.cells (putAll cs o vs) E fr)
  | [], _, _, _, _, _, h => h
  | v :: r, o, w, cs, E, fr, h => heap_setCells b r (o + 1) _ _ E fr (by simp [World.setCell, Array.getElem?_modify, h])
theorem below_setCells {B : Nat} {a : World} (b : Nat) (hb : B ≤ b) : ∀ (vs : List Value) (o : Nat) {w : World}, Below B a w → Below B a (w.setCells b o vs)
  | [], _, _, h => h
  | v :: r, o, w, h => below_setCells b hb r (o + 1) (h.setCell hb v)
theorem own_of_block {w : World} {base g n cap : Nat} {E : TypeId} {cur : Array Value} {xs : List Value} (hh : w.heap[g]? = some (.cells cur E (0, 0))) (hg : base ≤ g) (hn : n ≤ cap) (hm : cap ≤ maxLen) (hz : cur.size = cap) (hl : xs.length = n)
    (hx : ∀ i, i < n → cur[i]? = xs[i]?) : w.ownsRow base E 1 (.slice (some ⟨g, 0, none⟩) n cap) n xs := by
  refine ⟨by simpa using hl, Or.inr ⟨g, cap, cur, rfl, hg, hh, hn, hm, by simpa using hz, ?_⟩⟩
  apply List.ext_getElem?
  intro i
  rw [List.getElem?_take, Nat.mul_one]
  split
  · rename_i hi; rw [← hx i hi]; simp
  · rw [List.getElem?_eq_none (by omega)]
theorem grownCap_bd (w : World) (need old : Nat) (e : TypeId) (h : need ≤ 1000000) : need ≤ grownCap w need old e ∧ grownCap w need old e ≤ maxLen := by
  unfold grownCap
  simp only [Question.cut, maxLen]
  have := Nat.mod_lt (w.tape w.drawn (.appendCap need old e)) (show 0 < 2 ^ 63 - need by omega)
  omega
theorem zeroCells_size (n : Nat) : (Builtin.zeroCells (Value.int .i64 0).cells n).size = n := by simp [Builtin.zeroCells, Value.cells]
theorem iv_insert (l : List Int) (i : Nat) (x : Int) (hi : i ≤ l.length) (j : Nat) (hj : j < l.length + 1) :
    (iv (l.take i ++ x :: l.drop i))[j]? = if j < i then (iv l)[j]? else if j = i then some (.int .i64 x) else (iv l)[j - 1]? := by
  unfold iv
  simp only [List.getElem?_map]
  by_cases h : j < i
  · rw [if_pos h, List.getElem?_append_left (by simp; omega), List.getElem?_take, if_pos h]
  · rw [if_neg h, List.getElem?_append_right (by simp; omega)]
    simp only [List.length_take, show min i l.length = i by omega]
    by_cases h2 : j = i
    · subst h2; simp
    · rw [if_neg h2]
      obtain ⟨k, rfl⟩ : ∃ k, j = i + (k + 1) := ⟨j - i - 1, by omega⟩
      rw [show i + (k + 1) - i = k + 1 by omega, List.getElem?_cons_succ, List.getElem?_drop, show i + (k + 1) - 1 = i + k by omega]

set_option maxRecDepth 10000 in
/-- slices.Insert of one number into a slice that the call owns. -/
theorem insert_any (A : Option Addr) (n C i vb vc base : Nat) (l : List Int) (x : Int) (w : World) (hi : i ≤ n) (hn : n ≤ 100000) (hown : w.ownsRow base 3 1 (.slice A n C) n (iv l)) (hbase : base ≤ w.heap.size)
    (hv : w.heap[vb]? = some (.cells #[.int .i64 x] 3 (0, 0))) (hne : (Value.slice A n C).ownBlock ≠ some vb) :
    Calls Try.prog 53 #[.slice A n C, .int .i64 i, .slice (some ⟨vb, 0, none⟩) 1 vc] w fun e w' => Below base w w' ∧ ∃ A' C', e = .returned (.slice A' (n + 1) C') ∧ w'.ownsRow base 3 1 (.slice A' (n + 1) C') (n + 1) (iv (l.take i ++ x :: l.drop i)) := by
  have hl : l.length = n := by have := hown.1; rw [iv_length] at this; simpa using this
  have hvs : ∀ j v, [Value.int .i64 x][j]? = some v → w.cell? ⟨vb, 0 + j, none⟩ = some v := by
    intro j v hj
    match j, hj with
    | 0, hj => simpa [World.cell?, hv] using hj
  have h1v : ∀ v ∈ [Value.int .i64 x], v.oneCell' = true := ints_oneCell .i64 [x]
  have hlen : (iv (l.take i ++ x :: l.drop i)).length = n + 1 := by rw [iv_length]; simp; omega
  have gc := fun w' => grownCap_bd w' (n + 1) C 3 (by omega)
  by_cases hin : i = n
  · subst hin
    have hxs : iv (l.take i ++ x :: l.drop i) = iv l ++ [.int .i64 x] := by rw [← hl, List.take_length, List.drop_length, iv_append]; rfl
    by_cases hroom : i + 1 ≤ C
    · rcases hown.2 with ⟨hv2, hn0⟩ | ⟨g, cap, cur, hv2, hg, hh, hc, hm, hz, ht⟩
      · simp at hv2; omega
      · simp at hv2
        obtain ⟨rfl, rfl⟩ := hv2
        have hne' : g ≠ vb := by simpa [Value.ownBlock] using hne
        simp only [Nat.mul_one] at hz ht
        refine (Any2.slices_Insert_int_end_room Try.laysIns g 0 i C vb 0 1 vc [.int .i64 x] w (by decide) hroom (by unfold maxLen at hm; omega) rfl ?_ ?_ hvs h1v).mono ?_
        · intro j hj; simp [World.cell?, hh]; omega
        · intro j hj; simp [World.frozen?, hh]
        rintro e w' ⟨rfl, rfl⟩
        refine ⟨below_setCells g hg _ _ (Below.refl _ _), _, _, rfl, ?_⟩
        have hh2 := heap_setCells g [Value.int .i64 x] (0 + i) w cur 3 (0, 0) hh
        rw [hxs] at hlen ⊢
        refine own_of_block hh2 hg hroom hm (by rw [putAll_size]; exact hz) hlen (fun j hj => ?_)
        rw [putAll_get _ _ _ _ (by simp; omega)]
        simp only [List.length_cons, List.length_nil, Nat.zero_add]
        have hlv : (iv l).length = i := by rw [iv_length]; exact hl
        by_cases hji : j = i
        · subst hji
          rw [if_pos (by omega), List.getElem?_append_right (by omega), hlv]
        · rw [if_neg (by omega), List.getElem?_append_left (by omega), ← ht, List.getElem?_take, if_pos (by omega)]; simp
    · have ar := arr_of_own hown
      refine (Any2.slices_Insert_int_end_grow Try.laysIns A i C vb 0 1 vc (iv l) [.int .i64 x] w (by decide) ar.cap (by omega) (by omega) (by rw [iv_length]; exact hl) rfl (fun h => (ar.nil0 h).1) ?_ hvs h1v).mono ?_
      · intro a ha j v hj
        have hji : j < i := by have := (List.getElem?_eq_some_iff.1 hj).1; rw [iv_length] at this; omega
        obtain ⟨b, o, hab, hb, hcc⟩ := ar.at1 (by omega)
        rw [ha] at hab; cases hab
        rw [Addr.add_lit, hcc j hji]; exact hj
      rintro e w' ⟨rfl, rfl⟩
      have hb1 : Below base w (w.drew.alloc (.cells ((iv l ++ [Value.int .i64 x]).toArray ++ Builtin.zeroCells (Value.int .i64 0).cells (grownCap w (i + 1) C (Try.laysIns_ren.t 3) - (i + 1))) (Try.laysIns_ren.t 3))) := (Below.refl base w).drew.alloc hbase _
      refine ⟨hb1, _, _, rfl, ?_⟩
      rw [hxs] at hlen ⊢
      have gc' := gc w
      refine own_of_block (MapKept.heap_alloc w.drew _).1 hbase gc'.1 gc'.2 ?_ hlen (fun j hj => ?_)
      · have e1 : (iv l).length = i := by rw [iv_length]; exact hl
        simp only [Array.size_append, zeroCells_size, List.size_toArray, List.length_append, List.length_cons, List.length_nil, e1]
        have := gc'.1
        show i + (0 + 1) + (grownCap w (i + 1) C 3 - (i + 1)) = grownCap w (i + 1) C 3
        omega
      · rw [Array.getElem?_append_left (by simp only [List.size_toArray]; omega)]; simp
  · have hlt : i < n := by omega
    rcases hown.2 with ⟨hv2, hn0⟩ | ⟨g, cap, cur, hv2, hg, hh, hc, hm, hz, ht⟩
    · omega
    simp at hv2
    obtain ⟨rfl, rfl⟩ := hv2
    have hne' : g ≠ vb := by simpa [Value.ownBlock] using hne
    simp only [Nat.mul_one] at hz ht
    have hcur : ∀ j, j < n → cur[j]? = (iv l)[j]? := fun j hj => by rw [← ht, List.getElem?_take, if_pos hj]; simp
    have hcs : ∀ j v, (iv l)[j]? = some v → w.cell? ⟨g, 0 + j, none⟩ = some v := fun j v hj => by
      have hjn : j < n := by have := (List.getElem?_eq_some_iff.1 hj).1; rw [iv_length] at this; omega
      simp [World.cell?, hh, hcur j hjn, hj]
    have hlv : (iv l).length = n := by rw [iv_length]; exact hl
    have hins := fun (j : Nat) (hj : j < n + 1) => iv_insert l i x (by omega) j (by rw [hl]; exact hj)
    by_cases hroom : n + 1 ≤ C
    · refine (Any2.slices_Insert_int_shift Try.laysIns g 0 n C i vb 0 1 vc (iv l) [.int .i64 x] w hlt (by decide) hroom (by unfold maxLen at hm; omega) hne'.symm hlv rfl hcs ?_ ?_ hvs (iv_one l) h1v 3 3 1 cur.size ?_ ?_ ?_ ?_ ?_).mono ?_
      · intro j hj; simp [World.cell?, hh]; omega
      · intro j hj; simp [World.frozen?, hh]
      · simp [World.shape?, hv]
      · simp [World.shape?, hh]
      · omega
      · simp [World.frozen?, hv]
      · simp [World.frozen?, hv]
      rintro e w' ⟨rfl, rfl⟩
      refine ⟨below_setCells g hg _ _ (below_setCells g hg _ _ (Below.refl base w).drew), _, _, rfl, ?_⟩
      have hh1 := heap_setCells g ((iv l).drop i) (0 + (i + 1)) w.drew cur 3 (0, 0) hh
      have hh2 := heap_setCells g [Value.int .i64 x] (0 + i) _ _ 3 (0, 0) hh1
      refine own_of_block hh2 hg hroom hm (by rw [putAll_size, putAll_size]; exact hz) hlen (fun j hj => ?_)
      rw [putAll_get _ _ _ _ (by rw [putAll_size]; simp; omega), putAll_get _ _ _ _ (by simp; omega), hins j hj]
      simp only [List.length_cons, List.length_nil, Nat.zero_add, List.length_drop, hlv]
      by_cases h1 : j < i
      · rw [if_neg (by omega), if_neg (by omega), if_pos h1, hcur j (by omega)]
      · by_cases h2 : j = i
        · subst h2; rw [if_pos (by omega), if_neg h1, if_pos rfl]; simp
        · rw [if_neg (by omega), if_pos (by omega), if_neg h1, if_neg h2, List.getElem?_drop]
          congr 1; omega
    · refine (Any2.slices_Insert_int_grow Try.laysIns g 0 n C i vb 0 1 vc (iv l) [.int .i64 x] w hlt (by decide) hc (by omega) (by omega) hlv rfl hcs hvs (iv_one l) h1v).mono ?_
      rintro e w' ⟨rfl, rfl⟩
      have gc' := gc w
      have hb1 := ((Below.refl base w).alloc hbase (.cells (((iv l).take i).toArray ++ Builtin.zeroCells (Value.int .i64 0).cells (n + 1 - i) ++ Builtin.zeroCells (Value.int .i64 0).cells (grownCap w (n + 1) C (Try.laysIns_ren.t 3) - (n + 1))) (Try.laysIns_ren.t 3))).drew
      refine ⟨below_setCells _ hbase _ _ (below_setCells _ hbase _ _ hb1).drew, _, _, rfl, ?_⟩
      have hh0 := (MapKept.heap_alloc w (.cells (((iv l).take i).toArray ++ Builtin.zeroCells (Value.int .i64 0).cells (n + 1 - i) ++ Builtin.zeroCells (Value.int .i64 0).cells (grownCap w (n + 1) C (Try.laysIns_ren.t 3) - (n + 1))) (Try.laysIns_ren.t 3))).1
      have hh1 := heap_setCells w.heap.size [Value.int .i64 x] i (w.alloc _).drew _ (Try.laysIns_ren.t 3) (0, 0) hh0
      have hh2 := heap_setCells w.heap.size ((iv l).drop i) (i + 1) _ _ (Try.laysIns_ren.t 3) (0, 0) (show (((w.alloc _).drew.setCells w.heap.size i [Value.int .i64 x]).drew).heap[w.heap.size]? = _ from hh1)
      have hsz : (((iv l).take i).toArray ++ Builtin.zeroCells (Value.int .i64 0).cells (n + 1 - i) ++ Builtin.zeroCells (Value.int .i64 0).cells (grownCap w (n + 1) C (Try.laysIns_ren.t 3) - (n + 1))).size = grownCap w (n + 1) C 3 := by
        simp only [Array.size_append, zeroCells_size, List.size_toArray, List.length_take, hlv]
        have := gc'.1
        show min i n + (n + 1 - i) + (grownCap w (n + 1) C 3 - (n + 1)) = grownCap w (n + 1) C 3
        omega
      refine own_of_block hh2 hbase gc'.1 gc'.2 (by rw [putAll_size, putAll_size]; exact hsz) hlen (fun j hj => ?_)
      have g1 := gc'.1
      rw [putAll_get _ _ _ _ (by rw [putAll_size, hsz]; simp; omega), putAll_get _ _ _ _ (by rw [hsz]; simp; omega), hins j hj]
      simp only [List.length_cons, List.length_nil, Nat.zero_add, List.length_drop, hlv]
      by_cases h1 : j < i
      · rw [if_neg (by omega), if_neg (by omega), if_pos h1, Array.getElem?_append_left (by simp; omega), Array.getElem?_append_left (by simp; omega)]
        simp [List.getElem?_take, h1]
      · by_cases h2 : j = i
        · subst h2; rw [if_neg (by omega), if_pos (by omega), if_neg h1, if_pos rfl]; simp
        · rw [if_pos (by omega), if_neg h1, if_neg h2, List.getElem?_drop]
          congr 1; omega
end Go.Proofs.Ytfgphleophghnaa
