/- TreePlays: the walk: for every input the law returns true and writes nothing that was there. -/
import Derived.Test.YtfgphleophghnaaLaw10D
import Derived.Test.YtfgphleophghnaaPlayA
import Derived.Deep.CutBlock
set_option linter.unusedVariables false
set_option linter.unusedSimpArgs false
namespace Go.Proofs.Ytfgphleophghnaa
open Go.RowKit Go.MapKept

/-- The acts lie in memory. -/
def ActsAt (w : World) (a : Option Addr) (n : Nat) : Prop := ∀ i, i < n → ∃ (b o : Nat) (x1 x2 x3 x4 : Int), a = some ⟨b, o, none⟩ ∧ b < w.heap.size ∧ w.cell? ⟨b, o + i * 4, none⟩ = some (.int .i64 x1) ∧ w.cell? ⟨b, o + i * 4 + 1, none⟩ = some (.int .i64 x2) ∧ w.cell? ⟨b, o + i * 4 + 2, none⟩ = some (.int .i64 x3) ∧ w.cell? ⟨b, o + i * 4 + 3, none⟩ = some (.int .i64 x4)

/-- What the loop keeps. -/
structure Play (w : World) (bt bm bM : Nat) (M : TM) (d : Int → Nat) (next sz : Nat) (a : Option Addr) (c : Nat) (wx : World) : Prop where
  wf : WF M d next sz
  tree : TreeAt wx bt bm M next sz
  box : wx.heap[bM]? = some (.cells #[.slice a sz c, .int .i64 next] 28 (0, 0))
  rows : RowsAt wx a sz c (rowsOf M d)
  bel : Below w.heap.size w wx
  lo : w.heap.size ≤ bt ∧ w.heap.size ≤ bm ∧ w.heap.size ≤ bM ∧ bM ≠ bt ∧ bM ≠ bm
section
variable {w : World} {bt bm bM : Nat} {M : TM} {d : Int → Nat} {next sz : Nat} {a : Option Addr} {c : Nat} {wx w2 : World}
theorem Play.below (h : Play w bt bm bM M d next sz a c wx) (hb : Below wx.heap.size wx w2) : Play w bt bm bM M d next sz a c w2 :=
  ⟨h.wf, h.tree.below hb, (hb.block _ (Array.getElem?_eq_some_iff.1 h.box).1).trans h.box, Arr.below h.rows hb, h.bel.then hb h.bel.size, h.lo⟩
end

theorem TreeAt.other {w : World} {bt bm : Nat} {M : TM} {next sz : Nat} (h : TreeAt w bt bm M next sz) {b : Nat} {cs : Array Value} {E : TypeId} {fr : Nat × Nat} (hb : w.heap[b]? = some (.cells cs E fr)) (hE : E ≠ 81) : ¬ (b = bm ∨ b = bt) := by
  obtain ⟨V, hV, _⟩ := h.map
  rintro (rfl | rfl)
  · exact hV.ne hb rfl
  · rw [h.cell] at hb; cases hb; exact hE rfl

/-- What a round keeps: the tree and its rows, the copy and the rows as they were, the act. -/
structure Mid (w : World) (bt bm bM bw bv b8 b6 : Nat) (Mo : TM) (no so : Nat) (ao : Option Addr) (co : Nat) (Ro : RL) (Mt : TM) (nt st : Nat) (a : Option Addr) (c n : Nat) (nx : Int) (R : RL) (x1 x2 x3 x4 : Int) (wx : World) : Prop where
  tree : TreeAt wx bt bm Mt nt st
  box : wx.heap[bM]? = some (.cells #[.slice a n c, .int .i64 nx] 28 (0, 0))
  rows : RowsAt wx a n c R
  was : TreeAt wx bw bv Mo no so
  old : wx.heap[b8]? = some (.cells #[.slice ao so co, .int .i64 no] 28 (0, 0))
  orows : RowsAt wx ao so co Ro
  act : wx.heap[b6]? = some (.cells #[.int .i64 x1, .int .i64 x2, .int .i64 x3, .int .i64 x4] 31 (0, 0))
  bel : Below w.heap.size w wx
  lo : w.heap.size ≤ bt ∧ w.heap.size ≤ bm ∧ w.heap.size ≤ bM
  sep : bw ≠ bt ∧ bw ≠ bm ∧ bv ≠ bt ∧ bv ≠ bm ∧ b8 ≠ bM
section
variable {w : World} {bt bm bM bw bv b8 b6 : Nat} {Mo : TM} {no so : Nat} {ao : Option Addr} {co : Nat} {Ro : RL} {Mt : TM} {nt st : Nat} {a : Option Addr} {c n : Nat} {nx : Int} {R : RL} {x1 x2 x3 x4 : Int} {wx w2 : World}
theorem Mid.below (h : Mid w bt bm bM bw bv b8 b6 Mo no so ao co Ro Mt nt st a c n nx R x1 x2 x3 x4 wx) (hb : Below wx.heap.size wx w2) : Mid w bt bm bM bw bv b8 b6 Mo no so ao co Ro Mt nt st a c n nx R x1 x2 x3 x4 w2 :=
  have e : ∀ {b : Nat} {o : Obj}, wx.heap[b]? = some o → w2.heap[b]? = some o := fun hh => (hb.block _ (Array.getElem?_eq_some_iff.1 hh).1).trans hh
  ⟨h.tree.below hb, e h.box, Arr.below h.rows hb, h.was.below hb, e h.old, Arr.below h.orows hb, e h.act, h.bel.then hb h.bel.size, h.lo, h.sep⟩
theorem Mid.treeOp (h : Mid w bt bm bM bw bv b8 b6 Mo no so ao co Ro Mt nt st a c n nx R x1 x2 x3 x4 wx) (hk : Kept (fun b => b = bm ∨ b = bt) wx w2) {M' : TM} {n' s' : Nat} (hT : TreeAt w2 bt bm M' n' s') : Mid w bt bm bM bw bv b8 b6 Mo no so ao co Ro M' n' s' a c n nx R x1 x2 x3 x4 w2 :=
  have e : ∀ {b : Nat} {cs : Array Value} {E : TypeId} {fr : Nat × Nat}, wx.heap[b]? = some (.cells cs E fr) → E ≠ 81 → w2.heap[b]? = some (.cells cs E fr) := fun hh hE => (hk.block _ (Array.getElem?_eq_some_iff.1 hh).1 (h.tree.other hh hE)).trans hh
  ⟨hT, e h.box (by decide), Arr.keep h.rows (fun _ _ _ hh => e hh (by decide)), h.was.kept hk (by have := h.sep; omega) (by have := h.sep; omega) (fun b cs fr hh => h.tree.other hh (by decide)), e h.old (by decide), Arr.keep h.orows (fun _ _ _ hh => e hh (by decide)), e h.act (by decide), h.bel.trans (hk.toBelow (fun k hk => by have := h.lo; omega) h.bel.size), h.lo, h.sep⟩
theorem Mid.store (h : Mid w bt bm bM bw bv b8 b6 Mo no so ao co Ro Mt nt st a c n nx R x1 x2 x3 x4 wx) {a' : Option Addr} {c' n' : Nat} {nx' : Int} {R' : RL} (hr : RowsAt wx a' n' c' R') :
    Mid w bt bm bM bw bv b8 b6 Mo no so ao co Ro Mt nt st a' c' n' nx' R' x1 x2 x3 x4 ((wx.setCell ⟨bM, 0, none⟩ (.slice a' n' c')).setCell ⟨bM, 1, none⟩ (.int .i64 nx')) := by
  have hk := ((Kept.refl (fun b => b = bM) wx).setCell (p := ⟨bM, 0, none⟩) (Or.inl rfl) (.slice a' n' c')).setCell (p := ⟨bM, 1, none⟩) (Or.inl rfl) (.int .i64 nx')
  have hne : ∀ {b : Nat} {cs : Array Value} {E : TypeId} {fr : Nat × Nat}, wx.heap[b]? = some (.cells cs E fr) → E ≠ 28 → ¬ b = bM := fun hh hE hb => by subst hb; rw [h.box] at hh; cases hh; exact hE rfl
  have e : ∀ {b : Nat} {cs : Array Value} {E : TypeId} {fr : Nat × Nat}, wx.heap[b]? = some (.cells cs E fr) → ¬ b = bM → _ := fun {b cs E fr} hh hb => (hk.block b (Array.getElem?_eq_some_iff.1 hh).1 hb).trans hh
  have htm : ∀ {bt bm : Nat} {M : TM} {n s : Nat}, TreeAt wx bt bm M n s → TreeAt _ bt bm M n s := fun {bt bm M n s} hT => hT.kept hk (hne hT.cell (by decide)) (fun hb => hT.other h.box (by decide) (Or.inl hb.symm)) (fun b cs fr hh => hne hh (by decide))
  refine ⟨htm h.tree, ?_, Arr.keep hr (fun _ _ _ hh => e hh (hne hh (by decide))), htm h.was, e h.old h.sep.2.2.2.2, Arr.keep h.orows (fun _ _ _ hh => e hh (hne hh (by decide))), e h.act (hne h.act (by decide)), (h.bel.setCell (p := ⟨bM, 0, none⟩) (by show w.heap.size ≤ bM; exact h.lo.2.2) _).setCell (p := ⟨bM, 1, none⟩) (by show w.heap.size ≤ bM; exact h.lo.2.2) _, h.lo, h.sep⟩
  simp [World.setCell, Array.getElem?_modify, h.box]
end

theorem Mid.start {w : World} {bt bm bM bw bv b8 b6 : Nat} {M : TM} {d : Int → Nat} {next sz : Nat} {a : Option Addr} {c : Nat} {x1 x2 x3 x4 : Int} {w5 wz : World} (hP : Play w bt bm bM M d next sz a c w5) (hac : w5.heap[b6]? = some (.cells #[.int .i64 x1, .int .i64 x2, .int .i64 x3, .int .i64 x4] 31 (0, 0)))
    (hb : Below w5.heap.size w5 wz) (hT : TreeAt wz bw bv M next sz) (h8 : wz.heap[b8]? = some (.cells #[.slice a sz c, .int .i64 next] 28 (0, 0))) (hw : w5.heap.size ≤ bw) (hv : w5.heap.size ≤ bv) (h8n : w5.heap.size ≤ b8) :
    Mid w bt bm bM bw bv b8 b6 M next sz a c (rowsOf M d) M next sz a c sz next (rowsOf M d) x1 x2 x3 x4 wz := by
  have h := hP.below hb
  have l := hP.tree.lt
  have lM := (Array.getElem?_eq_some_iff.1 hP.box).1
  exact ⟨h.tree, h.box, h.rows, hT, h8, h.rows, (hb.block _ (Array.getElem?_eq_some_iff.1 hac).1).trans hac, h.bel, ⟨h.lo.1, h.lo.2.1, h.lo.2.2.1⟩, by omega, by omega, by omega, by omega, by omega⟩
theorem Mid.startB {w : World} {bt bm bM bw bv b8 b6 : Nat} {M : TM} {d : Int → Nat} {next sz : Nat} {a : Option Addr} {c : Nat} {x1 x2 x3 x4 : Int} {w5 wY : World} {u v : Value} (hP : Play w bt bm bM M d next sz a c w5) (hac : w5.heap[b6]? = some (.cells #[.int .i64 x1, .int .i64 x2, .int .i64 x3, .int .i64 x4] 31 (0, 0)))
    (hb : Below w5.heap.size w5 wY) (hT : TreeAt wY bw bv M next sz) (h8 : wY.heap[b8]? = some (.cells #[u, v] 28 (0, 0))) (hw : w5.heap.size ≤ bw) (hv : w5.heap.size ≤ bv) (h8n : w5.heap.size ≤ b8) :
    Mid w bt bm bM bw bv b8 b6 M next sz a c (rowsOf M d) M next sz a c sz next (rowsOf M d) x1 x2 x3 x4 ((wY.setCell ⟨b8, 0, none⟩ (.slice a sz c)).setCell ⟨b8, 1, none⟩ (.int .i64 next)) := by
  have hk := ((Kept.refl (fun b => b = b8) wY).setCell (p := ⟨b8, 0, none⟩) (Or.inl rfl) (.slice a sz c)).setCell (p := ⟨b8, 1, none⟩) (Or.inl rfl) (.int .i64 next)
  have hne : ∀ {b : Nat} {cs : Array Value} {E : TypeId} {fr : Nat × Nat}, wY.heap[b]? = some (.cells cs E fr) → E ≠ 28 → ¬ b = b8 := fun hh hE hb => by subst hb; rw [h8] at hh; cases hh; exact hE rfl
  refine Mid.start hP hac ((hb.setCell (p := ⟨b8, 0, none⟩) h8n _).setCell (p := ⟨b8, 1, none⟩) h8n _) (hT.kept hk (hne hT.cell (by decide)) (fun hb => hT.other h8 (by decide) (Or.inl hb.symm)) (fun b cs fr hh => hne hh (by decide))) ?_ hw hv h8n
  simp [World.setCell, Array.getElem?_modify, h8]

set_option maxRecDepth 20000 in
set_option maxHeartbeats 3200000 in
/-- TreePlays. -/
theorem treePlays_walk (a0 : Option Addr) (n c0 : Nat) (hn : n ≤ maxLen) (w : World) (hA : ActsAt w a0 n) :
    Calls Try.prog 3 #[.slice a0 n c0] w fun e w' => e = .returned (.bool true) ∧ Below w.heap.size w w' := by
  apply cps; intro R' hR
  have HA := hid hA
  clear hA
  have C0 := hid (speaks_true w)
  go_enter Try.func3, Try.ntmps3
  go_wp2_with fail
  refine C0.out.mono ?_
  rintro e w1 ⟨rfl, hb1⟩
  have C1 := hid (new_any w1)
  clear C0
  go_wp2_with fail
  refine C1.out.mono ?_
  rintro e w2 ⟨bt, bm, rfl, hb2, hbt, hbm, hT2⟩
  have hb3 := hb1.then hb2 hb1.size
  have C2 := hid (rnew_any w2)
  clear C1
  go_wp2_with fail
  refine C2.out.mono ?_
  rintro e w3 ⟨a, c, rfl, hb4, hrows⟩
  have hba := (Below.refl w3.heap.size w3).alloc (Nat.le_refl _) (.cells #[.slice a 1 c, .int .i64 1] 28)
  have hbx := (heap_alloc w3 (.cells #[.slice a 1 c, .int .i64 1] 28)).1
  have hP : Play w bt bm w3.heap.size newM (fun _ => 0) 1 1 a c (w3.alloc (.cells #[.slice a 1 c, .int .i64 1] 28)) :=
    ⟨WF.new, (hT2.below hb4).below hba, hbx, Arr.below hrows hba, (hb3.then hb4 hb3.size).then hba (hb3.then hb4 hb3.size).size, ⟨by have := hb1.size; omega, by have := hb1.size; omega, (hb3.then hb4 hb3.size).size, by have := hT2.lt; have := hb4.size; omega, by have := hT2.lt; have := hb4.size; omega⟩⟩
  replace hP := hid hP
  clear C2 hb4 hba hbx hrows hT2 hb2 hb1 hb3 hbt hbm
  go_wp2_with fail
  generalize w3.heap.size = bM at *
  generalize w3.alloc (.cells #[.slice a 1 c, .int .i64 1] 28) = w4 at *
  go_loopw [5] (fun k wr => ∃ (i : Nat) (M : TM) (d : Int → Nat) (next sz : Nat) (a : Option Addr) (c : Nat), i ≤ n ∧ i ≤ 40 ∧ sz ≤ i + 1 ∧ next ≤ i + 1 ∧ k = .int .i64 i ∧ Play w bt bm bM M d next sz a c wr) (fun k _ => n - (intOf k).toNat)
  case atStart => exact ⟨0, newM, _, 1, 1, a, c, Nat.zero_le _, by omega, by omega, by omega, rfl, hP.out⟩
  case round =>
    obtain ⟨i, M, d, next, sz, a, c, hi, hi40, hsz, hnx, rfl, hP1⟩ := hrel
    have HP := hid hP1
    clear hP hP1
    by_cases hlt : i < n ∧ i < 40
    · obtain ⟨h1, h2⟩ := hlt
      have h1I : (i : Int) < n := by omega
      have h2I : (i : Int) < 40 := by omega
      obtain ⟨ba, oa, x1, x2, x3, x4, rfl, hba, q1, q2, q3, q4⟩ := HA.out i h1
      have p1 := (HP.out.bel.cell (p := ⟨ba, oa + i * 4, none⟩) hba).trans q1
      have p2 := (HP.out.bel.cell (p := ⟨ba, oa + i * 4 + 1, none⟩) hba).trans q2
      have p3 := (HP.out.bel.cell (p := ⟨ba, oa + i * 4 + 2, none⟩) hba).trans q3
      have p4 := (HP.out.bel.cell (p := ⟨ba, oa + i * 4 + 3, none⟩) hba).trans q4
      clear q1 q2 q3 q4
      have hal := (Below.refl wr.heap.size wr).alloc (Nat.le_refl _) (.cells #[.int .i64 x1, .int .i64 x2, .int .i64 x3, .int .i64 x4] 31)
      have hac := hid ((heap_alloc wr (.cells #[.int .i64 x1, .int .i64 x2, .int .i64 x3, .int .i64 x4] 31)).1)
      have HP5 := hid (HP.out.below hal)
      clear hal
      go_wp2_with fail
      generalize wr.heap.size = b6 at *
      generalize wr.alloc (.cells #[.int .i64 x1, .int .i64 x2, .int .i64 x3, .int .i64 x4] 31) = w5 at *
      clear HP p1 p2 p3 p4
      have hK1 : ∀ k, (kidsOf M k).length ≤ 100000 := fun k => by have := length_kids HP5.out.wf.toWK k; omega
      have CC := hid (fun (w' : World) (h : TreeAt w' bt bm M next sz) => copy_any w' bt bm M next sz h hK1)
      obtain ⟨c0, c1, c2, c3⟩ := two_cells HP5.out.box
      have hMl := (Array.getElem?_eq_some_iff.1 HP5.out.box).1
      clear hK1
      go_cut [7, 8] from 43 to 136 (fun v7 v8 wx => ∃ bw bv b8, v7 = .pointer (some ⟨bw, 0, none⟩) ∧ v8 = .pointer (some ⟨b8, 0, none⟩) ∧ Mid w bt bm bM bw bv b8 b6 M next sz a c (rowsOf M d) M next sz a c sz next (rowsOf M d) x1 x2 x3 x4 wx)
      case first =>
        go_region_law (first
          | (go_simp; go_at_call 9; refine (CC.out _ (by first | exact HP5.out.tree.drew | exact (HP5.out.tree.alloc _).drew)).mono ?_; rintro e wY ⟨bw, bv, rfl, hbY, hw1, hv1, hTY⟩; have HbY : Hid (Below w5.heap.size w5 wY ∧ w5.heap.size ≤ bw ∧ w5.heap.size ≤ bv) := (by first | exact hid ⟨(Below.refl _ _).drew.trans hbY, hw1, hv1⟩ | exact hid ⟨((Below.refl w5.heap.size w5).alloc (Nat.le_refl _) _).drew.then hbY (by simp), by simp at hw1; omega, by simp at hv1; omega⟩); have HTY := hid hTY; have hcY0 := (HbY.out.1.cell (p := ⟨bM, 0, none⟩) hMl).trans c0; have hcY1 := (HbY.out.1.cell (p := ⟨bM, 1, none⟩) hMl).trans c1; have hMY : bM < wY.heap.size := Nat.lt_of_lt_of_le hMl HbY.out.1.size; try (have z8 := (hbY.block w5.heap.size (by simp)).trans (heap_alloc w5 (.cells #[.slice none 0 0, .int .i64 0] 28)).1; obtain ⟨z0, z1, z2, z3⟩ := two_cells z8; replace z8 := hid z8); clear hbY hw1 hv1 hTY))
        all_goals (
          go_wp2_with fail
          go_meet
          first
            | exact ⟨bw, bv, _, rfl, rfl, Mid.start HP5.out hac.out (HbY.out.1.alloc HbY.out.1.size _) (HTY.out.alloc _) (heap_alloc wY _).1 HbY.out.2.1 HbY.out.2.2 HbY.out.1.size⟩
            | exact ⟨bw, bv, _, rfl, rfl, Mid.startB HP5.out hac.out HbY.out.1 HTY.out z8.out HbY.out.2.1 HbY.out.2.2 (Nat.le_refl _)⟩)
      case rest =>
        obtain ⟨bw, bv, b8, rfl, rfl, hmid⟩ := hcut
        have HMid := hid hmid
        have HW := hid HP5.out.wf
        clear CC hmid c0 c1 c2 c3 HP5 hac hMl
        have a0' := cell_of HMid.out.act 0
        have a1' := cell_of HMid.out.act 1
        have a2' := cell_of HMid.out.act 2
        have a3' := cell_of HMid.out.act 3
        go_upto_block 2 with fail
        generalize (wrap64 (x1.tmod 4 + 4)).tmod 4 = kk at *
        go_cut [] from 46 to 136 (fun wx => ∃ (M' : TM) (d' : Int → Nat) (next' sz' : Nat) (a' : Option Addr) (c' : Nat), WF M' d' next' sz' ∧ sz' ≤ sz + 1 ∧ next' ≤ next + 1 ∧ Mid w bt bm bM bw bv b8 b6 M next sz a c (rowsOf M d) M' next' sz' a' c' sz' next' (rowsOf M' d') x1 x2 x3 x4 wx)
        case first =>
          by_cases hk2 : kk = 2
          · subst hk2
            have DA := hid (drop_all x2 wc bt bm HW.out HMid.out.tree (by omega))
            go_wp2_with fail
            refine DA.out.mono ?_
            rintro e w6 ⟨rfl, hk6, hT6⟩
            have HM6 := hid (HMid.out.treeOp hk6 hT6)
            clear DA hk6 hT6 a0' a1' a2' a3'
            have b1' := cell_of HM6.out.act 1
            have b2' := cell_of HM6.out.act 2
            have b3' := cell_of HM6.out.act 3
            obtain ⟨c0, c1, c2, c3⟩ := two_cells HM6.out.box
            have RA := hid (rdrop_all a c next x2 HW.out (by omega) w6 HM6.out.rows)
            go_wp2_with fail
            refine RA.out.mono ?_
            rintro e w7 ⟨a7, c7, rfl, hb7, hr7⟩
            have hba := (Below.refl w7.heap.size w7).alloc (Nat.le_refl _) (.cells #[.slice a7 (dropS M sz x2) c7, .int .i64 (next)] 28)
            have HM7 := hid ((HM6.out.below hb7).below hba)
            have hr8 := hid (Arr.below hr7 hba)
            clear RA hb7 hr7 hba c0 c1 c2 c3 b1' b2' b3'
            have hMl := (Array.getElem?_eq_some_iff.1 (HM6.out.box)).1
            obtain ⟨c0, c1, c2, c3⟩ := two_cells HM7.out.box
            go_wp2_with fail
            go_meet
            exact ⟨dropM M x2, d, next, dropS M sz x2, a7, c7, drop_wf HW.out x2, (by unfold dropS; split <;> omega), (by omega), HM7.out.store hr8.out⟩
          · have hk2' : (kk == 2) = false := beq_eq_false_iff_ne.2 hk2
            by_cases hk3 : kk = 3
            · subst hk3
              have DA := hid ((move_all x2 x3 x4 wc bt bm HW.out HMid.out.tree (by omega)))
              go_wp2_with fail
              refine DA.out.mono ?_
              rintro e w6 ⟨rfl, hk6, hT6⟩
              have HM6 := hid (HMid.out.treeOp hk6 hT6)
              clear DA hk6 hT6 a0' a1' a2' a3'
              have b1' := cell_of HM6.out.act 1
              have b2' := cell_of HM6.out.act 2
              have b3' := cell_of HM6.out.act 3
              obtain ⟨c0, c1, c2, c3⟩ := two_cells HM6.out.box
              have RA := hid (rmove_all a c next x2 x3 x4 HW.out (by omega) w6 HM6.out.rows)
              go_wp2_with fail
              refine RA.out.mono ?_
              rintro e w7 ⟨a7, c7, rfl, hb7, hr7⟩
              have hba := (Below.refl w7.heap.size w7).alloc (Nat.le_refl _) (.cells #[.slice a7 (sz) c7, .int .i64 (next)] 28)
              have HM7 := hid ((HM6.out.below hb7).below hba)
              have hr8 := hid (Arr.below hr7 hba)
              clear RA hb7 hr7 hba c0 c1 c2 c3 b1' b2' b3'
              have hMl := (Array.getElem?_eq_some_iff.1 (HM6.out.box)).1
              obtain ⟨c0, c1, c2, c3⟩ := two_cells HM7.out.box
              go_wp2_with fail
              go_meet
              exact ⟨movM M d x2 x3 x4, movD M d x2 x3 x4, next, sz, a7, c7, mov_wf HW.out x2 x3 x4, (by omega), (by omega), HM7.out.store hr8.out⟩
            · have hk3' : (kk == 3) = false := beq_eq_false_iff_ne.2 hk3
              have DA := hid (add_all x3 x4 wc bt bm HW.out HMid.out.tree (by omega) (by omega))
              go_wp2_with fail
              refine DA.out.mono ?_
              rintro e w6 ⟨rfl, hk6, hT6⟩
              have HM6 := hid (HMid.out.treeOp hk6 hT6)
              clear DA hk6 hT6 a0' a1' a2' a3'
              have b1' := cell_of HM6.out.act 1
              have b2' := cell_of HM6.out.act 2
              have b3' := cell_of HM6.out.act 3
              obtain ⟨c0, c1, c2, c3⟩ := two_cells HM6.out.box
              have RA := hid (radd_all a c x3 x4 HW.out (by omega) (by omega) w6 HM6.out.rows)
              go_wp2_with fail
              refine RA.out.mono ?_
              rintro e w7 ⟨a7, c7, rfl, hb7, hr7⟩
              have hba := (Below.refl w7.heap.size w7).alloc (Nat.le_refl _) (.cells #[.slice a7 (addS M d sz x3 x4) c7, .int .i64 (addN M d next sz x3 x4)] 28)
              have HM7 := hid ((HM6.out.below hb7).below hba)
              have hr8 := hid (Arr.below hr7 hba)
              clear RA hb7 hr7 hba c0 c1 c2 c3 b1' b2' b3'
              have hMl := (Array.getElem?_eq_some_iff.1 (HM6.out.box)).1
              obtain ⟨c0, c1, c2, c3⟩ := two_cells HM7.out.box
              go_wp2_with fail
              go_meet
              exact ⟨addM M d next sz x3 x4, addD M d next sz x3 x4, addN M d next sz x3 x4, addS M d sz x3 x4, a7, c7, add_wf HW.out x3 x4, (by unfold addS; split <;> omega), (by unfold addN; split <;> omega), HM7.out.store hr8.out⟩
        case rest =>
          obtain ⟨M', d', next', sz', a', c', hW', hsz', hnx', hmid'⟩ := hcut
          have HN := hid hmid'
          have HW' := hid hW'
          clear HMid a0' a1' a2' a3' hmid' hW'
          obtain ⟨c0, c1, c2, c3⟩ := two_cells HN.out.box
          have G1 := hid (agrees_true a' c' next' bt bm M' d' next' sz' HW'.out (by omega) wc HN.out.tree HN.out.rows)
          go_wp2_with fail
          refine G1.out.mono ?_
          rintro e w6 ⟨rfl, hb6⟩
          have HN6 := hid (HN.out.below hb6)
          clear G1 hb6 HN c0 c1 c2 c3
          obtain ⟨c0, c1, c2, c3⟩ := two_cells HN6.out.old
          have G2 := hid (agrees_true a c next bw bv M d next sz HW.out (by omega) w6 HN6.out.was HN6.out.orows)
          go_wp2_with fail
          refine G2.out.mono ?_
          rintro e w7 ⟨rfl, hb7⟩
          have HN7 := hid (HN6.out.below hb7)
          clear G2 hb7 HN6 c0 c1 c2 c3
          obtain ⟨c0, c1, c2, c3⟩ := two_cells HN7.out.box
          have G3 := hid (lacks_true a' c' bt bm M' d' next' sz' HW'.out (by omega) (by omega) w7 HN7.out.tree HN7.out.rows)
          go_wp2_with fail
          refine G3.out.mono ?_
          rintro e w8 ⟨rfl, hb8⟩
          have HN8 := hid (HN7.out.below hb8)
          clear G3 hb8 HN7 c0 c1 c2 c3
          go_wp2_with fail
          go_roundw
          case rel =>
            have h := HN8.out
            have ho := h.tree.other h.box (by decide)
            exact ⟨i + 1, M', d', next', sz', a', c', by omega, by omega, by omega, by omega, by go_num, HW'.out, h.tree, h.box, h.rows, h.bel, h.lo.1, h.lo.2.1, h.lo.2.2, fun hh => ho (Or.inr hh), fun hh => ho (Or.inl hh)⟩
          case measure => simp [intOf]; omega
    · have hW := HP.out.wf
      have hK1 : ∀ k, (kidsOf M k).length ≤ 100000 := fun k => by have := length_kids hW.toWK k; omega
      have C1 := hid (copy_any wr bt bm M next sz HP.out.tree hK1)
      have hor : (¬ (i : Int) < n) ∨ ((i : Int) < n ∧ ¬ (i : Int) < 40) := by omega
      clear hK1
      rcases hor with h1 | ⟨h1, h2⟩
      all_goals (
        go_wp2_with fail
        refine C1.out.mono ?_
        rintro e w5 ⟨bw, bv, rfl, hb5, hbw, hbv, hT5⟩
        have A1 := hid (add_all 0 0 w5 bw bv hW hT5 (by omega) (by omega))
        have HP5 := hid (HP.out.below hb5)
        clear C1
        go_wp2_with fail
        refine A1.out.mono ?_
        rintro e w6 ⟨rfl, hk6, _⟩
        have hb6 : Below wr.heap.size wr w6 := hb5.trans (hk6.toBelow (fun k hk => by omega) hb5.size)
        have HP6 := hid (HP.out.below hb6)
        clear A1 hk6 hb6 hb5 hT5 HP5
        obtain ⟨c0, c1, c2, c3⟩ := two_cells HP6.out.box
        have B1 := hid (radd_all a c 0 0 hW (by omega) (by omega) w6 HP6.out.rows)
        go_wp2_with fail
        refine B1.out.mono ?_
        rintro e w7 ⟨a7, c7, rfl, hb7, _⟩
        have hba := (Below.refl w7.heap.size w7).alloc (Nat.le_refl _) (.cells #[.slice a7 (addS M d sz 0 0) c7, .int .i64 (addN M d next sz 0 0)] 28)
        have HP7 := hid ((HP6.out.below hb7).below hba)
        clear B1 hb7 hba c0 c1 c2 c3
        have G1 := hid (agrees_true a c next bt bm M d next sz hW (by omega) _ HP7.out.tree HP7.out.rows)
        obtain ⟨c0, c1, c2, c3⟩ := two_cells HP7.out.box
        go_wp2_with fail
        refine G1.out.mono ?_
        rintro e w8 ⟨rfl, hb8⟩
        have HP8 := hid (HP7.out.below hb8)
        clear G1 hb8 HP7 c0 c1 c2 c3
        go_wp2_with fail
        exact hR.out _ _ ⟨rfl, HP8.out.bel⟩)
end Go.Proofs.Ytfgphleophghnaa
