/- Contract of tree.Copy. -/
import Derived.Test.YtfgphleophghnaaTreeB
import Derived.Test.YtfgphleophghnaaRange
import Derived.Deep.RegionHeld3
set_option linter.unusedVariables false
set_option linter.unusedSimpArgs false
namespace Go.Proofs.Ytfgphleophghnaa
open Go.RowKit Go.MapKept

theorem IMap.keys {w : World} {b : Nat} {M : Int → Option Value} {sz : Nat} (h : IMap w b M sz) : ∃ l : List Int, l.Nodup ∧ l.length = sz ∧ ∀ k, k ∈ l ↔ (M k).isSome := by
  obtain ⟨es, clock, hb, k1, k2, k3, k4⟩ := h
  let g : MapEntry → Int := fun e => match e.key with | .int _ x => x | _ => 0
  have hg : ∀ e ∈ es.toList, e.key = .int .i64 (g e) := by
    intro e he
    have := k1 e he
    cases hkey : e.key with
    | int q x => rw [hkey] at this; simp [IsKey] at this; subst this; simp [g, hkey]
    | _ => rw [hkey] at this; simp [IsKey] at this
  refine ⟨es.toList.map g, ?_, by simp [k3], fun k => ?_⟩
  · have h3 := ((stamped_iff es clock).1 k2).2.2
    rw [List.nodup_iff_pairwise_ne, List.pairwise_map]
    refine h3.imp_of_mem ?_
    intro x y hx hy hne e
    exact hne (by rw [hg x hx, hg y hy, e])
  · rw [List.mem_map, Option.isSome_iff_exists]
    constructor
    · rintro ⟨e, he, rfl⟩
      obtain ⟨i, hi⟩ := Array.getElem?_of_mem (Array.mem_toList_iff.1 he)
      exact ⟨e.val, (k4 _ _).2 ⟨i, e, hi, hg e he, rfl⟩⟩
    · rintro ⟨v, hv⟩
      obtain ⟨i, e, hi, hk, _⟩ := (k4 k v).1 hv
      have he : e ∈ es.toList := Array.mem_toList_iff.2 (Array.mem_of_getElem? hi)
      refine ⟨e, he, ?_⟩
      have := hg e he
      rw [hk] at this; injection this with _ h2; exact h2.symm
theorem IMap.same_size {w w' : World} {b b' : Nat} {M M' : Int → Option Value} {sz sz' : Nat} (h : IMap w b M sz) (h' : IMap w' b' M' sz') (hd : ∀ k, (M k).isSome = (M' k).isSome) : sz = sz' := by
  obtain ⟨l, l1, l2, l3⟩ := h.keys
  obtain ⟨m, m1, m2, m3⟩ := h'.keys
  have a1 := nodup_sub_length l m l1 (fun x hx => (m3 x).2 (by rw [← hd]; exact (l3 x).1 hx))
  have a2 := nodup_sub_length m l m1 (fun x hx => (l3 x).2 (by rw [hd]; exact (m3 x).1 hx))
  omega

set_option maxRecDepth 20000 in
/-- Tree.Copy. -/
theorem copy_any (w : World) (bt bm : Nat) (M : TM) (next sz : Nat) (hT : TreeAt w bt bm M next sz) (hK : ∀ k, (kidsOf M k).length ≤ 100000) :
    Calls Try.prog 9 #[.pointer (some ⟨bt, 0, none⟩)] w fun e w' => ∃ bt' bm', e = .returned (.pointer (some ⟨bt', 0, none⟩)) ∧ Below w.heap.size w w' ∧ w.heap.size ≤ bt' ∧ w.heap.size ≤ bm' ∧ TreeAt w' bt' bm' M next sz := by
  apply cps; intro R hR
  have hmm := run_makeMap0 Try.prog
  have hT1 := hT.alloc (.map #[] 0)
  obtain ⟨c0, c1⟩ := hT1.cells
  have hlt := hT.lt
  obtain ⟨V, hV, hN⟩ := hT.map
  obtain ⟨w1, hr1, hI1, hb0, hz1⟩ := iter_start (P := Try.prog) (hV.alloc (.map #[] 0)) u_nodes
  have hM1 := (IMap.made w).below hb0
  have hb1 := hid (((Below.refl w.heap.size w).alloc (Nat.le_refl _) (.map #[] 0)).then hb0 (by simp))
  have HN := hid hN
  have HT := hid hT
  have HI1 := hid hI1
  have HM1 := hid hM1
  clear hT hT1 hV hN hI1 hM1 hb0
  go_enter Try.func9, Try.ntmps9
  go_wp2_with fail
  have hsz1 : (w.alloc (.map #[] 0)).heap.size = w.heap.size + 1 := by simp
  rw [hsz1] at HI1 hr1 hz1
  generalize w.alloc (.map #[] 0) = W1 at *
  clear c0 c1 hr1 hmm
  go_loopw [4, 5] (fun n x wr => ∃ left cnt V' sz', IIter wr (w.heap.size + 1) bm V sz left cnt ∧ IMap wr w.heap.size V' sz' ∧ (∀ k, NodeV wr (V' k) (if left k then none else M k)) ∧ Below w.heap.size w wr) (fun _ _ wr => wr.rangeLeft bm (w.heap.size + 1))
  case atStart => exact ⟨_, _, _, _, HI1.out, HM1.out, fun k => trivial, hb1.out⟩
  case round =>
    obtain ⟨left, cnt, V', sz', hI, hM, hV', hbw⟩ := hrel
    have hk0 := hI.lt
    rcases iter_step (P := Try.prog) hI 0 with ⟨h0, hl, hrun⟩ | ⟨k, v, w2, cnt', hk, hlk, hrun, hI2, hlt2, hk2, hz2, hen⟩
    · have hsame := hM.same_size hI.map (fun k => by
        have h1 := (hV' k).get; have h2 := (HN.out k).get
        rw [h1, h2]
        cases hMk : (M k).isSome with
        | false => cases left k <;> simp_all
        | true => rw [hl k (by rw [h2]; exact hMk)]; simpa using hMk)
      subst hsame
      obtain ⟨c0, c1⟩ := (HT.out.below hbw).cells
      have hsz := hbw.size
      have HM := hid hM
      have HV' := hid hV'
      have HBW := hid hbw
      have HL := hid hl
      clear hI hM hV' hbw hl hk0
      go_wp2_with fail
      have hI3 := HM.out.alloc (.cells #[.map (some w.heap.size), .int .i64 next] 81)
      refine hR.out _ _ ⟨_, _, rfl, HBW.out.alloc hsz _, hsz, Nat.le_refl _, (heap_alloc wr _).1, V', hI3, fun k => ?_⟩
      have hk1 := (HV'.out k).keep (w' := wr.alloc (.cells #[.map (some w.heap.size), .int .i64 next] 81)) (fun b cs fr hb => ((heap_alloc wr _).2 b (Array.getElem?_eq_some_iff.1 hb).1).trans hb)
      cases hMk : M k with
      | none => rw [hMk] at hk1; simpa using hk1
      | some q =>
        have : left k = false := HL.out k (by rw [(HN.out k).get, hMk]; rfl)
        rw [this, hMk] at hk1
        simpa using hk1
    · have hNk := HN.out k
      rw [hk] at hNk
      obtain ⟨p, l, a, n, c, hMk, rfl, hi⟩ : ∃ p l a n c, M k = some (p, l) ∧ v = .agg #[.int .i64 p, .slice a n c] ∧ Ints w 3 a n c l := by
        revert hNk
        cases hMk : M k with
        | none => intro h; exact h.elim
        | some m => obtain ⟨p, l⟩ := m; rintro ⟨a, n, c, e, hi⟩; exact ⟨p, l, a, n, c, rfl, e, hi⟩
      have hI0 := hI
      have hleq := hI.left_eq
      clear hNk hI
      go_wp2_with fail
      have hh4 := (heap_alloc w2 (.cells #[.int .i64 p, .slice a n c] 78)).1
      rw [hz2] at hh4
      have hbi : Below w.heap.size w w2 := hbw.trans (hk2.toBelow (fun k hk => by rw [hk]; omega) (by omega))
      have hb4 := hid (hbi.alloc (by omega) (.cells #[.int .i64 p, .slice a n c] 78))
      have hI4 := hid (hI2.keep (w' := w2.alloc (.cells #[.int .i64 p, .slice a n c] 78)) ((heap_alloc w2 _).2 _ hI2.lt.2.1) ((heap_alloc w2 _).2 _ hI2.lt.1))
      have hM4 := hid ((hM.kept hk2 (by simp)).alloc (.cells #[.int .i64 p, .slice a n c] 78))
      have hV4 : Hid (∀ k, NodeV (w2.alloc (.cells #[.int .i64 p, .slice a n c] 78)) (V' k) (if left k then none else M k)) := fun k => (hV' k).keep fun b cs fr hb => by
        have hbr : b ≠ w.heap.size + 1 := by
          rintro rfl
          obtain ⟨es, ck, seen, _, _, _, _, _, hrr, _⟩ := hI0
          rw [hrr] at hb; cases hb
        have hbl := (Array.getElem?_eq_some_iff.1 hb).1
        exact ((heap_alloc w2 _).2 b (by omega)).trans ((hk2.block b hbl hbr).trans hb)
      have hz4 : (w2.alloc (.cells #[.int .i64 p, .slice a n c] 78)).heap.size = wr.heap.size + 1 := by simp [hz2]
      generalize w2.alloc (.cells #[.int .i64 p, .slice a n c] 78) = W2 at *
      have k8 : W2.cell? ⟨wr.heap.size, 0, none⟩ = some (.int .i64 p) := by simp [World.cell?, hh4]
      have k9 : W2.cell? ⟨wr.heap.size, 1, none⟩ = some (.slice a n c) := by simp [World.cell?, hh4]
      clear hrun hen hk2 hI2 hM hV' hbi hI0
      have hn100 : n ≤ 100000 := by
        have h1 := hi.len; have h2 := hK k; rw [kidsOf_some hMk] at h2; rw [iv_length] at h1; omega
      have hi4 : Ints W2.drew 3 a n c l := hi.below (hb4.out.mono (Nat.le_refl _)).drew
      have CC := hid (clone_any a n c l (by omega) W2.drew hi4)
      clear hi4
      go_region_with (refine CC.out.mono ?_; rintro e w3 ⟨hb3, A, C1, rfl, hown⟩; have k8' := hb3.cell (p := ⟨wr.heap.size, 0, none⟩) (by simp [hz4]); have k9' := hb3.cell (p := ⟨wr.heap.size, 1, none⟩) (by simp [hz4]); obtain ⟨w4, hu, hM5, hk5, hz5⟩ := (hM4.out.drew.below hb3).run_update (P := Try.prog) u_nodes u_int k (.agg #[.int .i64 p, .slice A n C1]); have hk5 := hid hk5; have hM5 := hid hM5; have hb3 := hid hb3; have hown := hid hown)
      all_goals (
        have hblk : ∀ x, x < W2.heap.size → x ≠ w.heap.size → w4.heap[x]? = W2.heap[x]? := fun x hx hne => (hk5.out.block x (Nat.lt_of_lt_of_le hx hb3.out.size) hne).trans (hb3.out.block x hx)
        have hlt4 := hI4.out.lt
        have hz3 : W2.heap.size ≤ w3.heap.size := hb3.out.size
        go_roundw
        case rel =>
          (repeat apply Exists.intro)
          refine ⟨⟨_, _, _, _, hI4.out.keep (w' := w4) (hblk bm hlt4.2.1 (by omega)) (hblk _ hlt4.1 (by omega)), hM5.out, fun i => ?_, ?_⟩, rfl⟩
          rotate_left
          · exact (hb4.out.trans ((((Below.refl _ _).drew.trans hb3.out).mono (by show w.heap.size ≤ W2.heap.size; omega)).trans (hk5.out.toBelow (fun k hk => by rw [hk]; exact Nat.le_refl _) (by omega))))
          by_cases hik : i = k
          · subst hik
            simp only [if_true, beq_self_eq_true, Bool.not_true, Bool.and_false, Bool.false_eq_true, if_false]
            rw [hMk]
            refine ⟨A, n, C1, rfl, (arr_of_own hown.out).kept hk5.out ?_⟩
            rintro b cs fr hb rfl
            exact (hM4.out.drew.below hb3.out).ne hb rfl
          · have hb : (i == k) = false := beq_eq_false_iff_ne.2 hik
            simp only [if_neg hik, hb, Bool.not_false, Bool.and_true]
            refine (hV4.out i).keep fun b cs fr hbb => ?_
            exact (hblk b (Array.getElem?_eq_some_iff.1 hbb).1 (by rintro rfl; exact hM4.out.ne hbb rfl)).trans hbb
        case measure =>
          have h2 : w4.rangeLeft bm (w.heap.size + 1) = cnt' := (hI4.out.keep (w' := w4) (hblk bm hlt4.2.1 (by omega)) (hblk _ hlt4.1 (by omega))).left_eq
          omega)
end Go.Proofs.Ytfgphleophghnaa
