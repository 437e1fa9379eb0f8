/- Contracts of the functions of clapboardlaw10: lacks, of a tree and of its rows; speaks. -/
import Derived.Test.YtfgphleophghnaaLaw10B
set_option linter.unusedVariables false
set_option linter.unusedSimpArgs false
namespace Go.Proofs.Ytfgphleophghnaa
open Go.RowKit Go.MapKept

/-- Tree.Depth of no node. -/
theorem depth_none (n : Int) (bt bm : Nat) (M : TM) (next sz : Nat) (hM : M n = none) (w : World) (hT : TreeAt w bt bm M next sz) :
    Calls Try.prog 27 #[.pointer (some ⟨bt, 0, none⟩), .int .i64 n] w fun e w' => e = .returned (.int .i64 0) ∧ Below w.heap.size w w' := by
  apply cps; intro R hR
  have C := hid (parent_none n w bt bm M next sz hT (Or.inr (by rw [hM]; rfl)))
  clear hT
  go_enter Try.func27, Try.ntmps27
  go_wp2_with fail
  refine (C.out).mono ?_
  rintro e w1 ⟨rfl, hb⟩
  have hb := hid hb
  clear C
  go_wp2_with fail
  exact hR.out _ _ ⟨rfl, hb.out⟩
theorem beq_int (a b : Int) : (a == b) = decide (a = b) := by
  by_cases h : a = b
  · subst h; simp
  · rw [decide_eq_false h]; exact beq_eq_false_iff_ne.2 h

set_option maxRecDepth 20000 in
set_option maxHeartbeats 1600000 in
/-- lacks: a tree and its rows. -/
theorem lacks_true (a : Option Addr) (c : Nat) (bt bm : Nat) (M : TM) (d : Int → Nat) (next sz : Nat) (hW : WF M d next sz) (hsz : sz ≤ 1024) (hnx : next < 1000000) (w : World) (hT : TreeAt w bt bm M next sz) (hs : RowsAt w a sz c (rowsOf M d)) :
    Calls Try.prog 17 #[.pointer (some ⟨bt, 0, none⟩), .agg #[.slice a sz c, .int .i64 next]] w fun e w' => e = .returned (.bool true) ∧ Below w.heap.size w w' := by
  apply cps; intro R' hR
  have hO : (belowL 65 M 0).length = sz := length_all hW
  have RO := hid (fun (i : Nat) (hi : i < sz) => (row_ok hW hi).name)
  have hin := hid (fun (x : Int) => in_below hW x)
  have HT := hid hT
  have HB := hid (BoxAt.start w a sz c next)
  have HC := hid (fun (w' : World) (h : Below w.heap.size w w') (h0 : 0 < sz) => RowsAt.cellsAt (Arr.below hs h) h0)
  clear hs hT hW
  generalize rowsOf M d = R at *
  generalize belowL 65 M 0 = O at *
  have hO' := hid hO
  clear hO
  go_enter Try.func17, Try.ntmps17
  go_wp2_with fail
  go_loopw [5] (fun k wr => ∃ v : Nat, v ≤ next + 1 ∧ k = .int .i64 v ∧ BoxAt w a sz c next wr) (fun k _ => next + 1 - (intOf k).toNat)
  case atStart => exact ⟨0, Nat.zero_le _, rfl, HB.out⟩
  case round =>
    obtain ⟨v, hv, rfl, hb⟩ := hrel
    have HB1 := hid hb
    obtain ⟨c0, c1⟩ := hb.cells
    clear HB hb
    by_cases hlt : v ≤ next
    · have hltI : (v : Int) ≤ next := by omega
      go_wp2_with fail
      go_loopw [6, 7] (fun s k wr2 => ∃ j : Nat, j ≤ sz ∧ k = .int .i64 j ∧ s = .bool (decide ((v : Int) ∈ O.take j)) ∧ BoxAt w a sz c next wr2) (fun _ k _ => sz - (intOf k).toNat)
      case atStart => exact ⟨0, Nat.zero_le _, rfl, rfl, HB1.out⟩
      case round =>
        obtain ⟨j, hj, rfl, hS, hb⟩ := hrel
        have HB2 := hid hb
        clear c0 c1
        obtain ⟨c0, c1⟩ := hb.cells
        clear hb HB1
        generalize hB : decide ((v : Int) ∈ O.take j) = B at hS
        subst hS
        by_cases hjlt : j < sz
        · have hjI : (j : Int) < sz := by omega
          obtain ⟨b, o, rfl, hbl, hcc⟩ := HC.out wr HB2.out.bel (by omega)
          have r0 := (hcc j hjlt).1
          rw [RO.out j hjlt] at r0
          have hsn : decide ((v : Int) ∈ O.take (j + 1)) = (B || (O.getD j 0 == (v : Int))) := by
            have e1 : O.take (j + 1) = O.take j ++ [O.getD j 0] := by
              rw [List.take_add_one]; simp [List.getD, List.getElem?_eq_getElem (show j < O.length by have := hO'.out; omega)]
            rw [← hB, e1, beq_int, ← Bool.decide_or]
            refine decide_eq_decide.2 ?_
            rw [List.mem_append, List.mem_singleton]
            exact ⟨fun h => h.imp id Eq.symm, fun h => h.imp id Eq.symm⟩
          generalize O.getD j 0 = y at *
          replace hsn := hid hsn
          clear hcc hB
          cases B
          · go_wp2_with fail
            go_roundw
            case rel => exact ⟨j + 1, by omega, by go_num, by rw [hsn.out]; rfl, HB2.out⟩
            case measure => simp [intOf]; omega
          · go_wp2_with fail
            go_roundw
            case rel => exact ⟨j + 1, by omega, by go_num, by rw [hsn.out]; rfl, HB2.out⟩
            case measure => simp [intOf]; omega
        · obtain rfl : j = sz := by omega
          have hjI : ¬ (j : Int) < j := by omega
          have hBM : B = (M v).isSome := by
            rw [← hB, List.take_of_length_le (by have := hO'.out; omega)]
            rw [Bool.eq_iff_iff, decide_eq_true_iff]; exact hin.out v
          clear hB
          by_cases hM : M v = none
          · have hB0 : B = false := by rw [hBM, hM]; rfl
            subst hB0
            have C1 := hid (parent_none v wr bt bm M next j (HT.out.below HB2.out.bel) (Or.inr (by rw [hM]; rfl)))
            have C2 := fun (w' : World) (h : Below w.heap.size w w') => has_any v w' bt bm M next j (HT.out.below h)
            rw [hM] at C2
            have C3 := fun (w' : World) (h : Below w.heap.size w w') => kids_any v w' bt bm M next j (HT.out.below h) (by rw [kidsOf_none hM]; simp)
            rw [kidsOf_none hM] at C3
            have C4 := hid (fun (w' : World) (h : Below w.heap.size w w') => depth_none v bt bm M next j hM w' (HT.out.below h))
            replace C2 := hid C2
            replace C3 := hid C3
            clear hBM hM
            go_wp2_with fail
            refine C1.out.mono ?_
            rintro e w2 ⟨rfl, hb2⟩
            have HB3 := hid (HB2.out.below hb2)
            have C2' := hid (C2.out w2 HB3.out.bel)
            clear C1 C2 hb2 HB2 c0 c1
            go_wp2_with fail
            refine C2'.out.mono ?_
            rintro e w3 ⟨rfl, hb3⟩
            have HB4 := hid (HB3.out.below hb3)
            have C3' := hid (C3.out w3 HB4.out.bel)
            clear C2' C3 hb3 HB3
            go_wp2_with fail
            refine C3'.out.mono ?_
            rintro e w4 ⟨hb4, A4, C4', rfl, _⟩
            have HB5 := hid (HB4.out.below hb4)
            have C5 := hid (C4.out w4 HB5.out.bel)
            clear C3' C4 hb4 HB4
            go_wp2_with fail
            refine C5.out.mono ?_
            rintro e w5 ⟨rfl, hb5⟩
            have HB6 := hid (HB5.out.below hb5)
            clear C5 hb5 HB5
            go_wp2_with fail
            go_roundw
            case rel => exact ⟨v + 1, by omega, by go_num, HB6.out⟩
            case measure => simp [intOf]; omega
          · have hMs : (M v).isSome = true := by cases hm : M v with | none => exact absurd hm hM | some _ => rfl
            rw [hMs] at hBM
            subst hBM
            by_cases hv0 : (v : Int) = 0
            · have C1 := hid (parent_none v wr bt bm M next j (HT.out.below HB2.out.bel) (Or.inl hv0))
              clear hv0 hM hMs
              go_wp2_with fail
              refine C1.out.mono ?_
              rintro e w2 ⟨rfl, hb2⟩
              have HB3 := hid (HB2.out.below hb2)
              clear C1 hb2 HB2 c0 c1
              go_wp2_with fail
              go_roundw
              case rel => exact ⟨v + 1, by omega, by go_num, HB3.out⟩
              case measure => simp [intOf]; omega
            · have C1 := hid (parent_any v wr bt bm M next j (HT.out.below HB2.out.bel) hv0 hMs)
              clear hv0 hM hMs
              go_wp2_with fail
              refine C1.out.mono ?_
              rintro e w2 ⟨rfl, hb2⟩
              have HB3 := hid (HB2.out.below hb2)
              clear C1 hb2 HB2 c0 c1
              go_wp2_with fail
              go_roundw
              case rel => exact ⟨v + 1, by omega, by go_num, HB3.out⟩
              case measure => simp [intOf]; omega
    · obtain rfl : v = next + 1 := by omega
      have hltI : ¬ (((next + 1 : Nat) : Int) ≤ next) := by omega
      go_wp2_with fail
      exact hR.out _ _ ⟨rfl, HB1.out.bel⟩
end Go.Proofs.Ytfgphleophghnaa
