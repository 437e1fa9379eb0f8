/- Contracts of the functions of clapboardlaw10: agrees, of a tree and of its rows. -/
import Derived.Test.YtfgphleophghnaaLaw10
import Derived.Test.YtfgphleophghnaaTreeR
import Derived.Deep.RegionLaw
import Derived.Deep.RegionHeld3
import Derived.StillTailTactics
set_option linter.unusedVariables false
set_option linter.unusedSimpArgs false
namespace Go.Proofs.Ytfgphleophghnaa
open Go.RowKit Go.MapKept

/-- Where the box of the document's tree lies. -/
structure BoxAt (w : World) (a : Option Addr) (n c : Nat) (nx : Int) (wx : World) : Prop where
  bel : Below w.heap.size w wx
  h0 : wx.heap[w.heap.size]? = some (.cells #[.slice a n c, .int .i64 nx] 28 (0, 0))
theorem BoxAt.size {w : World} {a : Option Addr} {n c : Nat} {nx : Int} {wx : World} (h : BoxAt w a n c nx wx) : w.heap.size + 1 ≤ wx.heap.size := (Array.getElem?_eq_some_iff.1 h.h0).1
theorem BoxAt.below {w : World} {a : Option Addr} {n c : Nat} {nx : Int} {w1 w2 : World} (h : BoxAt w a n c nx w1) (hb : Below w1.heap.size w1 w2) : BoxAt w a n c nx w2 :=
  ⟨h.bel.then hb h.bel.size, (hb.block _ (by have := h.size; omega)).trans h.h0⟩
theorem BoxAt.beyond {w : World} {a : Option Addr} {n c : Nat} {nx : Int} {w1 w2 : World} (h : BoxAt w a n c nx w1) (hb : Below (w.heap.size + 1) w1 w2) : BoxAt w a n c nx w2 :=
  ⟨h.bel.trans (hb.mono (Nat.le_succ _)), (hb.block _ (Nat.lt_succ_self _)).trans h.h0⟩
theorem BoxAt.drew {w : World} {a : Option Addr} {n c : Nat} {nx : Int} {w1 : World} (h : BoxAt w a n c nx w1) : BoxAt w a n c nx w1.drew := h.below (Below.refl _ _).drew
theorem BoxAt.start (w : World) (a : Option Addr) (n c : Nat) (nx : Int) : BoxAt w a n c nx (w.alloc (.cells #[.slice a n c, .int .i64 nx] 28)) :=
  ⟨(Below.refl w.heap.size w).alloc (Nat.le_refl _) _, (heap_alloc w _).1⟩
theorem BoxAt.cells {w : World} {a : Option Addr} {n c : Nat} {nx : Int} {w1 : World} (h : BoxAt w a n c nx w1) : w1.cell? ⟨w.heap.size, 0, none⟩ = some (.slice a n c) ∧ w1.cell? ⟨w.heap.size, 1, none⟩ = some (.int .i64 nx) := ⟨cell_of h.h0 0, cell_of h.h0 1⟩

/-- append at its run: s owned, x one int just laid. -/
theorem run_append_ints (w : World) (ty : TypeId) (base : Nat) (v : Value) (n : Nat) (l : List Int) (hown : w.ownsRow base 3 1 v n (iv l)) (b o m c : Nat) (l2 : List Int) (hr : Ints w 3 (some ⟨b, o, none⟩) m c l2) (h63 : n + m ≤ 1000000) (hbase : base ≤ w.heap.size) :
    ∃ A C w', (Builtin.append_ #[73, 73] ty #[v, .slice (some ⟨b, o, none⟩) m c]).run Try.prog w = .ok (.slice A (n + m) C) w' ∧ w'.ownsRow base 3 1 (.slice A (n + m) C) (n + m) (iv (l ++ l2)) ∧ w.grownBy w' v.ownBlock := by
  obtain ⟨i0, hi0, hz0, hz1, hz2⟩ := info_parts info3
  have hlen := Arr.len hr
  obtain ⟨v', w', h1, h2, h3, _⟩ := run_append_own_at (P := Try.prog) w base 73 ty 3 i0 (.int .i64 0) 1 8 Try.underlying73 hi0 hz0 hz1 hz2 rfl (by decide) v n (iv l) hown ⟨b, o, none⟩ m c (iv l2) hlen (fun j u hj => by
      have hlt : j < m * 1 := by rw [← hlen]; exact (List.getElem?_eq_some_iff.1 hj).1
      obtain ⟨b', o', cs, fr, ha, hh, hc⟩ := Arr.cells hr (by omega)
      cases ha
      rw [Addr.add_lit]
      simp [World.cell?, hh, hc j hlt, hj]) (iv_one l2) (by unfold maxLen; omega) (by omega) hbase
  rw [← iv_append] at h2
  obtain ⟨A, C, rfl⟩ := own_shape h2
  exact ⟨A, C, w', h1, h2, h3⟩
theorem step_append_ints {ops : Array Oper} {o : Oper} {a : Act} {w : World} {K : Act → World → Prop} {Q : Exit → Act → World → Prop} {E : Prop} (hgd : o.guard = none) (s x : Operand)
    (hop : o.op = .call { callee := .builtin .append, args := #[s, x], argTypes := #[73, 73] }) (base : Nat) (v : Value) (n : Nat) (l : List Int) (hs : a.eval s = v) (hown : w.ownsRow base 3 1 v n (iv l))
    (b off m c : Nat) (l2 : List Int) (hx : a.eval x = .slice (some ⟨b, off, none⟩) m c) (hr : Ints w 3 (some ⟨b, off, none⟩) m c l2) (h63 : n + m ≤ 1000000) (hbase : base ≤ w.heap.size)
    (h : ∀ A C w', w'.ownsRow base 3 1 (.slice A (n + m) C) (n + m) (iv (l ++ l2)) → w.grownBy w' v.ownBlock → K (a.put o.dst (.slice A (n + m) C)) w') :
    if Region.wanted o (yielded ops a.tmps) = true then Oper.wp Try.prog o a w K Q else E := by
  have hw : Region.wanted o (yielded ops a.tmps) = true := by simp [Region.wanted, hgd]
  rw [if_pos hw]
  obtain ⟨A, C, w', hrun, h1, h2⟩ := run_append_ints w o.type base v n l hown b off m c l2 hr h63 hbase
  unfold Oper.wp
  simp [execOp, hop, resolve, invoke, builtin, hs, hx, hrun, Result.andThen]
  exact h A C w' h1 h2

set_option maxRecDepth 20000 in
set_option maxHeartbeats 3200000 in
/-- agrees: a tree and its rows. -/
theorem agrees_true (a : Option Addr) (c : Nat) (nx : Int) (bt bm : Nat) (M : TM) (d : Int → Nat) (next sz : Nat) (hW : WF M d next sz) (hsz : sz ≤ 1024) (w : World) (hT : TreeAt w bt bm M next sz) (hs : RowsAt w a sz c (rowsOf M d)) :
    Calls Try.prog 16 #[.pointer (some ⟨bt, 0, none⟩), .agg #[.slice a sz c, .int .i64 nx]] w fun e w' => e = .returned (.bool true) ∧ Below w.heap.size w w' := by
  obtain ⟨i0, hi0, hz0, hz1, hz2⟩ := info_parts info3
  apply cps; intro R' hR
  have hO : (belowL 65 M 0).length = sz := length_all hW
  have hrl : (rowsOf M d).length = sz := rowsOf_length hW
  have RO := hid (fun (i : Nat) (hi : i < sz) => row_ok hW hi)
  have OC := hid (fun (w' : World) (h : Below w.heap.size w w') => order_any bt bm M d next sz hW hsz w' (hT.below h))
  rw [hO] at OC
  have RC := hid (fun (i : Nat) (hi : i < sz) (w' : World) (h : Below w.heap.size w w') => rkids_any a sz c nx i (rowsOf M d) (by omega) hi w' (hs.below h))
  have PC := hid (fun (i : Nat) (hi : i < sz) (w' : World) (h : Below w.heap.size w w') => rparent_any a sz c nx i (rowsOf M d) (by omega) hi w' (hs.below h))
  have LC := hid (fun (w' : World) (h : Below w.heap.size w w') => len_any w' bt bm M next sz (hT.below h))
  have SZ := hid hsz
  have HT := hid hT
  have HS := hid hs
  have HW := hid hW
  have HB := hid (BoxAt.start w a sz c nx)
  have HC := hid (fun (w' : World) (h : Below w.heap.size w w') (h0 : 0 < sz) => RowsAt.cellsAt (Arr.below hs h) h0)
  clear hs hT hW
  generalize rowsOf M d = R at *
  generalize belowL 65 M 0 = O at *
  have hO' := hid hO
  have hrl' := hid hrl
  clear hO hrl
  go_enter Try.func16, Try.ntmps16
  go_wp2_with fail
  go_loopw [5, 6] (fun out k wr => ∃ (j : Nat) (A : Option Addr) (C : Nat), j ≤ sz ∧ k = .int .i64 j ∧ out = .slice A j C ∧ wr.ownsRow (w.heap.size + 1) 3 1 out j (iv (O.take j)) ∧ BoxAt w a sz c nx wr) (fun _ k _ => sz - (intOf k).toNat)
  case atStart => exact ⟨0, none, 0, Nat.zero_le _, rfl, rfl, own_nil _ _ _ _, HB.out⟩
  case round =>
    obtain ⟨j, A, C, hj, rfl, rfl, hown, hb⟩ := hrel
    have HB1 := hid hb
    obtain ⟨c0, c1⟩ := hb.cells
    have hsz1 : w.heap.size < wr.heap.size := hb.size
    replace hown := hid hown
    clear hb
    by_cases hlt : j < sz
    · have hltI : (j : Int) < sz := by omega
      obtain ⟨b, o, rfl, hbl, hcc⟩ := HC.out wr HB1.out.bel (by omega)
      have r0 := (hcc j hlt).1
      rw [(RO.out j hlt).name] at r0
      have hsn : O.take (j + 1) = O.take j ++ [O.getD j 0] := by
        rw [List.take_add_one]; simp [List.getD, List.getElem?_eq_getElem (show j < O.length by have := hO'.out; omega)]
      clear hcc
      generalize O.getD j 0 = y at *
      have hba := (Below.refl wr.heap.size wr).alloc (Nat.le_refl _) (.cells #[.int .i64 y] 3)
      have hown3 := hid (own_below hown.out hba)
      have hr1 : Ints (wr.alloc (.cells #[.int .i64 y] 3)) 3 (some ⟨wr.heap.size, 0, none⟩) 1 1 [y] := arr_of_own (own_lit wr wr.heap.size 3 (Nat.le_refl _) #[.int .i64 y] 1 1 rfl (by unfold maxLen; omega))
      replace hr1 := hid hr1
      replace hba := hid hba
      replace hsn := hid hsn
      have hszN : sz ≤ 1024 := SZ.out
      go_wp2_with (at_builtin; refine wp_append_any _ rfl _ _ 73 rfl (w.heap.size + 1) 3 i0 (.int .i64 0) 1 8 Try.underlying73 hi0 hz0 hz1 hz2 rfl (by decide) _ _ _ rfl hown3.out _ 1 1 (iv [y]) rfl hr1.out (iv_one [y]) ?c2 ?c3 ?c4 ?_)
      case c2 => unfold maxLen; omega
      case c3 => omega
      case c4 => simp; omega
      intro v' w4 hown4 hg hloc
      rw [← iv_append, ← hsn.out] at hown4
      have hb4 : Below (w.heap.size + 1) wr w4 := (hba.out.mono (by omega)).grown hg (by simp; omega) (fun k hk => own_ge hown3.out k hk)
      have HB4 := hid (HB1.out.beyond hb4)
      obtain ⟨A4, C4, rfl⟩ := own_shape hown4
      replace hown4 := hid hown4
      clear hg hloc hown3 hr1 hb4 hba c0 c1 hown r0
      go_wp2_with fail
      go_roundw
      case rel => exact ⟨j + 1, A4, C4, by omega, by go_num, rfl, hown4.out, HB4.out⟩
      case measure => simp [intOf]; omega
    · obtain rfl : j = sz := by omega
      have hltI : ¬ (j : Int) < j := by omega
      have hszN : j ≤ 1024 := SZ.out
      rw [List.take_of_length_le (by have := hO'.out; omega)] at hown
      have OC1 := hid (OC.out wr HB1.out.bel)
      have I0 := hid (arr_of_own hown.out)
      clear hown OC
      go_wp2_with fail
      refine OC1.out.mono ?_
      rintro e w2 ⟨hb2, A2, C2, rfl, hown2⟩
      have HB2 := hid (HB1.out.below hb2)
      have I1 := hid (arr_of_own hown2)
      have I2 := hid (Arr.below I0.out hb2)
      have S1 := hid (same_true A2 A j C2 C O (by omega) w2 I1.out I2.out)
      clear OC1 hb2 hown2 I0 HB1 c0 c1
      go_wp2_with fail
      refine S1.out.mono ?_
      rintro e w3 ⟨rfl, hb3⟩
      have HB3 := hid (HB2.out.below hb3)
      have I3 := hid (Arr.below I2.out hb3)
      have L1 := hid (LC.out w3 HB3.out.bel)
      clear S1 hb3 I1 I2 HB2 LC
      go_wp2_with fail
      refine L1.out.mono ?_
      rintro e w3 ⟨rfl, rfl⟩
      have hjj : (j != j) = false := by simp
      go_wp2_with fail
      go_loopw [7] (fun k wr => ∃ i : Nat, i ≤ j ∧ k = .int .i64 i ∧ BoxAt w a j c nx wr ∧ Ints wr 3 A j C O) (fun k _ => j - (intOf k).toNat)
      case atStart => exact ⟨0, Nat.zero_le _, rfl, HB3.out, I3.out⟩
      case round =>
        obtain ⟨i, hi, rfl, hb, hI⟩ := hrel
        have HB4 := hid hb
        have I4 := hid hI
        clear HB3 I3 hb hI
        by_cases hlt : i < j
        · have hltI : (i : Int) < j := by omega
          obtain ⟨bo, oo, rfl, hbo, hoc⟩ := Ints.atI (l := O) I4.out (by omega)
          have y0 := hoc i hlt
          obtain ⟨c0, c1⟩ := HB4.out.cells
          have ro := RO.out i hlt
          clear RO hoc
          generalize hx : O.getD i 0 = x at *
          have K1 := RC.out i hlt wr HB4.out.bel
          have hKl : (kidsR R i).length = (kidsOf M x).length := by rw [← ro.kids, List.length_map]
          rw [hKl] at K1
          have hKb : (kidsOf M x).length ≤ 1024 := Nat.le_trans (length_kids HW.out.toWK x) SZ.out
          have KC := hid (fun (w' : World) (h : Below w.heap.size w w') => kids_any x w' bt bm M next j (HT.out.below h) hKb)
          have hN1 := ro.kids
          have hkin := ro.kin
          have RO' := hid ro
          generalize hN : kidsOf M x = N at *
          generalize hKK : kidsR R i = K at *
          replace hN := hid hN
          replace hKK := hid hKK
          replace hx := hid hx
          replace hN1 := hid hN1
          replace hKl := hid hKl
          replace hkin := hid hkin
          replace K1 := hid K1
          clear ro RC
          go_wp2_with fail
          refine K1.out.mono ?_
          rintro e w5 ⟨hb5, AK, CK, rfl, hownK⟩
          have HB5 := hid (HB4.out.below hb5)
          have IK := hid (arr_of_own hownK)
          have I5 := hid (Arr.below I4.out hb5)
          clear K1 hb5 hownK HB4 I4 y0 hbo c0 c1
          go_wp2_with fail
          go_loopw [9, 11] (fun out k wr => ∃ (q : Nat) (A9 : Option Addr) (C9 : Nat), q ≤ N.length ∧ k = .int .i64 q ∧ out = .slice A9 q C9 ∧ wr.ownsRow w5.heap.size 3 1 out q (iv (N.take q)) ∧ Below w5.heap.size w5 wr) (fun _ k _ => N.length - (intOf k).toNat)
          case atStart => exact ⟨0, none, 0, Nat.zero_le _, rfl, rfl, own_nil _ _ _ _, Below.refl _ _⟩
          case round =>
            obtain ⟨q, A9, C9, hq, rfl, rfl, hown9, hb6⟩ := hrel
            have HB6 := hid (HB5.out.below hb6)
            have IK6 := hid (Arr.below IK.out hb6)
            have I6 := hid (Arr.below I5.out hb6)
            replace hb6 := hid hb6
            replace hown9 := hid hown9
            obtain ⟨c0, c1⟩ := HB6.out.cells
            by_cases hqlt : q < N.length
            · have hqI : (q : Int) < N.length := by omega
              obtain ⟨bk, ok, rfl, hbk, hkc⟩ := Ints.atI (l := K) IK6.out (by omega)
              have k0 := hkc q hqlt
              have hqK : q < K.length := by rw [hKl.out]; exact hqlt
              have hkq := hkin.out (K.getD q 0) (by simp only [List.getD, List.getElem?_eq_getElem hqK, Option.getD_some]; exact List.getElem_mem _)
              have hNq : N.getD q 0 = (R.getD (K.getD q 0).toNat (0, 0)).1 := by
                rw [← hN1.out]; simp [List.getD, List.getElem?_eq_getElem hqK]
              rw [hrl'.out] at hkq
              generalize K.getD q 0 = pj at *
              obtain ⟨pn, rfl⟩ := Int.eq_ofNat_of_zero_le hkq.1
              simp only [Int.toNat_natCast] at hNq
              have hpI : (pn : Int) < j := hkq.2
              obtain ⟨b, o, hab, hbl, hcc⟩ := HC.out wr HB6.out.bel (by omega)
              subst hab
              have r0 := (hcc pn (by omega)).1
              rw [← hNq] at r0
              have hsn : N.take (q + 1) = N.take q ++ [N.getD q 0] := by
                rw [List.take_add_one]; simp [List.getD, List.getElem?_eq_getElem hqlt]
              clear hcc hkc hNq
              generalize N.getD q 0 = y at *
              have hba := (Below.refl wr.heap.size wr).alloc (Nat.le_refl _) (.cells #[.int .i64 y] 3)
              have hown3 := hid (own_below (own_below hown9.out hba) (Below.refl _ _).drew)
              have hr1 : Ints (wr.alloc (.cells #[.int .i64 y] 3)).drew 3 (some ⟨wr.heap.size, 0, none⟩) 1 1 [y] := Arr.below (arr_of_own (own_lit wr wr.heap.size 3 (Nat.le_refl _) #[.int .i64 y] 1 1 rfl (by unfold maxLen; omega))) (Below.refl _ _).drew
              replace hr1 := hid hr1
              replace hba := hid (hba.drew)
              replace hsn := hid hsn
              have hsz6 : w5.heap.size ≤ wr.heap.size := hb6.out.size
              go_wp2_with fail
              go_region_law (first
                | (refine step_append_ints rfl _ _ rfl w5.heap.size _ q (N.take q) rfl hown3.out wr.heap.size 0 1 1 [y] rfl hr1.out (by omega) (by simp; omega) ?_; intro A5 C5 w7 hown4 hg4))
              all_goals (
                have hb7 := hid (hb6.out.trans ((hba.out.mono hsz6).grown hg4 (by simp; omega) (fun k hk => own_ge hown3.out k hk)))
                rw [← hsn.out] at hown4
                replace hown4 := hid hown4
                clear hg4 hown3 hr1 hba c0 c1 k0 r0 hown9 hsn
                go_wp2_with fail
                go_roundw
                case rel => exact ⟨q + 1, A5, C5, by omega, by go_num, rfl, hown4.out, hb7.out⟩
                case measure => simp [intOf]; omega)
            · obtain rfl : q = N.length := by omega
              have hqI : ¬ (N.length : Int) < N.length := by omega
              rw [List.take_of_length_le (Nat.le_refl _)] at hown9
              have IN6 := hid (arr_of_own hown9.out)
              have hM := RO'.out.here
              obtain ⟨b, o, hab, hbl, _⟩ := HC.out wr HB6.out.bel (by omega)
              have HCi := fun (w' : World) (h : Below w.heap.size w w') => HC.out w' h (by omega)
              subst hab
              have RW := hid (fun (w' : World) (h : Below w.heap.size w w') => by
                obtain ⟨b2, o2, hab2, _, hcc⟩ := HCi w' h
                cases hab2
                have := (hcc i hlt).2
                change w'.cell? _ = some (.int .i64 (dep R i)) at this
                rw [RO'.out.depth] at this
                exact this)
              have DC := hid (fun (w' : World) (h : Below w.heap.size w w') => depth_any bt bm M d next j HW.out.toWK (d x) x rfl hM w' (HT.out.below h))
              have HC2 := fun (w' : World) (h : Below w.heap.size w w') => has_any x w' bt bm M next j (HT.out.below h)
              rw [hM] at HC2
              replace HC2 := hid HC2
              have hdd : ((d x : Int) != (d x : Int)) = false := by simp
              have PR := RO'.out.par
              have PCi := PC.out i hlt
              generalize d x = dx at *
              by_cases hx0 : x = 0
              · have hpar : parR R i = -1 := by
                  rcases PR with h | h
                  · exact h.2
                  · exact absurd hx0 h.1
                rw [hpar] at PCi
                have P1 := hid (parent_none x wr bt bm M next j (HT.out.below HB6.out.bel) (Or.inl hx0))
                clear PR hpar HCi PC hown9 IK6 HB5 I5 IK hb6 hM RO' hx0
                go_wp2_with fail
                refine P1.out.mono ?_
                rintro e w8 ⟨rfl, hb8⟩
                have HB8 := hid (HB6.out.below hb8)
                have I8 := hid (Arr.below I6.out hb8)
                have IN8 := hid (Arr.below IN6.out hb8)
                have P2 := hid (PCi w8 HB8.out.bel)
                clear PCi P1 hb8 I6 IN6 HB6 c0 c1
                obtain ⟨c0, c1⟩ := HB8.out.cells
                go_wp2_with fail
                refine P2.out.mono ?_
                rintro e w9 ⟨rfl, hb9⟩
                have HB9 := hid (HB8.out.below hb9)
                have I9 := hid (Arr.below I8.out hb9)
                have IN9 := hid (Arr.below IN8.out hb9)
                clear P2 hb9 I8 IN8 HB8 c0 c1
                obtain ⟨c0, c1⟩ := HB9.out.cells
                have r9 := RW.out w9 HB9.out.bel
                go_wp2_with fail
                refine wp_region_noPanic ?_
                refine wp_region_held_drew (S := (fun wr : World => wr.cell? ⟨w.heap.size, 0, none⟩ = some (.slice (some ⟨b, o, none⟩) j c) ∧ wr.cell? ⟨w.heap.size, 1, none⟩ = some (.int .i64 nx) ∧ wr.cell? ⟨b, o + i * 2 + 1, none⟩ = some (.int .i64 dx))) (by kernel_rfl) ⟨c0, c1, r9⟩ (fun hHeld => ?_)
                refine wpAnyH_take (i := 0) (oi := ?oi0) (v := ?v0) ?hi0 (by kernel_rfl) (by kernel_rfl) (by kernel_rfl) ?hq0 ?hy0 hHeld ?rest0
                case hi0 => (simp only [List.getElem?_toArray, List.getElem?_cons_succ, List.getElem?_cons_zero]; rfl)
                case hq0 => exact fun _ _ _ h => h
                case hy0 => (refine Or.inl ⟨by rfl, ?_⟩; intro w hSw; (try dsimp only at hSw); go_simp; all_goals with_reducible rfl)
                try simp only [Act.put, List.setIfInBounds_toArray, List.set_cons_zero, List.set_cons_succ]
                refine wpAnyH_take (i := 1) (oi := ?oi1) (v := ?v1) ?hi1 (by kernel_rfl) (by kernel_rfl) (by kernel_rfl) ?hq1 ?hy1 hHeld ?rest1
                case hi1 => (simp only [List.getElem?_toArray, List.getElem?_cons_succ, List.getElem?_cons_zero]; rfl)
                case hq1 => exact fun _ _ _ h => h
                case hy1 => (refine Or.inl ⟨by rfl, ?_⟩; intro w hSw; (try dsimp only at hSw); go_simp; all_goals with_reducible rfl)
                try simp only [Act.put, List.setIfInBounds_toArray, List.set_cons_zero, List.set_cons_succ]
                refine wpAnyH_take (i := 3) (oi := ?oi3) (v := ?v3) ?hi3 (by kernel_rfl) (by kernel_rfl) (by kernel_rfl) ?hq3 ?hy3 hHeld ?rest3
                case hi3 => (simp only [List.getElem?_toArray, List.getElem?_cons_succ, List.getElem?_cons_zero]; rfl)
                case hq3 => exact fun _ _ _ h => h
                case hy3 => (refine Or.inl ⟨by rfl, ?_⟩; intro w hSw; (try dsimp only at hSw); go_simp; all_goals with_reducible rfl)
                try simp only [Act.put, List.setIfInBounds_toArray, List.set_cons_zero, List.set_cons_succ]
                refine wpAnyH_ready (rs := [2]) (by kernel_rfl) (by simp) ?_
                refine AllReadyH.cons (o := ?oi2) ?hi2 (fun K hK => ?body2) AllReadyH.nil
                case hi2 => (simp only [List.getElem?_toArray, List.getElem?_cons_succ, List.getElem?_cons_zero]; rfl)
                go_simp
                refine (KC.out _ HB9.out.drew.bel).mono ?_
                rintro e wK ⟨hbK, AK2, CK2, rfl, hownK⟩
                have HBK := hid (HB9.out.drew.below hbK)
                have IK2 := hid (arr_of_own hownK)
                have INK := hid (Arr.below IN9.out ((Below.refl _ _).drew.trans hbK))
                have IOK := hid (Arr.below I9.out ((Below.refl _ _).drew.trans hbK))
                obtain ⟨cK0, cK1⟩ := HBK.out.cells
                have rK := RW.out wK HBK.out.bel
                clear hbK hownK
                go_wp2_with fail
                refine hK.out _ _ ⟨cK0, cK1, rK⟩ (fun hHeld => ?_)
                clear hK K
                try simp only [Act.put, List.setIfInBounds_toArray, List.set_cons_zero, List.set_cons_succ]
                refine wpAnyH_ready (rs := [4]) (by kernel_rfl) (by simp) ?_
                refine AllReadyH.cons (o := ?oi4) ?hi4 (fun K hK => ?body4) AllReadyH.nil
                case hi4 => (simp only [List.getElem?_toArray, List.getElem?_cons_succ, List.getElem?_cons_zero]; rfl)
                go_simp
                refine (same_true AK2 A9 N.length CK2 C9 N (by omega) _ IK2.out INK.out).mono ?_
                rintro e wS ⟨rfl, hbS⟩
                have HBS := hid (HBK.out.below hbS)
                have IOS := hid (Arr.below IOK.out hbS)
                obtain ⟨cS0, cS1⟩ := HBS.out.cells
                have rS := RW.out wS HBS.out.bel
                clear hbS
                go_wp2_with fail
                refine hK.out _ _ ⟨cS0, cS1, rS⟩ (fun hHeld => ?_)
                clear hK K
                try simp only [Act.put, List.setIfInBounds_toArray, List.set_cons_zero, List.set_cons_succ]
                refine wpAnyH_take (i := 5) (oi := ?oi5) (v := ?v5) ?hi5 (by kernel_rfl) (by kernel_rfl) (by kernel_rfl) ?hq5 ?hy5 hHeld ?rest5
                case hi5 => (simp only [List.getElem?_toArray, List.getElem?_cons_succ, List.getElem?_cons_zero]; rfl)
                case hq5 => exact fun _ _ _ h => h
                case hy5 => (refine Or.inl ⟨by rfl, ?_⟩; intro w hSw; (try dsimp only at hSw); go_simp; all_goals with_reducible rfl)
                try simp only [Act.put, List.setIfInBounds_toArray, List.set_cons_zero, List.set_cons_succ]
                refine wpAnyH_take (i := 6) (oi := ?oi6) (v := ?v6) ?hi6 (by kernel_rfl) (by kernel_rfl) (by kernel_rfl) ?hq6 ?hy6 hHeld ?rest6
                case hi6 => (simp only [List.getElem?_toArray, List.getElem?_cons_succ, List.getElem?_cons_zero]; rfl)
                case hq6 => exact fun _ _ _ h => h
                case hy6 => (refine Or.inl ⟨by rfl, ?_⟩; intro w hSw; (try dsimp only at hSw); go_simp; all_goals with_reducible rfl)
                try simp only [Act.put, List.setIfInBounds_toArray, List.set_cons_zero, List.set_cons_succ]
                refine wpAnyH_take (i := 7) (oi := ?oi7) (v := ?v7) ?hi7 (by kernel_rfl) (by kernel_rfl) (by kernel_rfl) ?hq7 ?hy7 hHeld ?rest7
                case hi7 => (simp only [List.getElem?_toArray, List.getElem?_cons_succ, List.getElem?_cons_zero]; rfl)
                case hq7 => exact fun _ _ _ h => h
                case hy7 => (refine Or.inl ⟨by rfl, ?_⟩; intro w hSw; (try dsimp only at hSw); go_simp; all_goals with_reducible rfl)
                try simp only [Act.put, List.setIfInBounds_toArray, List.set_cons_zero, List.set_cons_succ]
                refine wpAnyH_take (i := 8) (oi := ?oi8) (v := ?v8) ?hi8 (by kernel_rfl) (by kernel_rfl) (by kernel_rfl) ?hq8 ?hy8 hHeld ?rest8
                case hi8 => (simp only [List.getElem?_toArray, List.getElem?_cons_succ, List.getElem?_cons_zero]; rfl)
                case hq8 => exact fun _ _ _ h => h
                case hy8 => (refine Or.inl ⟨by rfl, ?_⟩; intro w hSw; (try dsimp only at hSw); go_simp; all_goals with_reducible rfl)
                try simp only [Act.put, List.setIfInBounds_toArray, List.set_cons_zero, List.set_cons_succ]
                refine wpAnyH_take (i := 10) (oi := ?oi10) (v := ?v10) ?hi10 (by kernel_rfl) (by kernel_rfl) (by kernel_rfl) ?hq10 ?hy10 hHeld ?rest10
                case hi10 => (simp only [List.getElem?_toArray, List.getElem?_cons_succ, List.getElem?_cons_zero]; rfl)
                case hq10 => exact fun _ _ _ h => h
                case hy10 => (refine Or.inl ⟨by rfl, ?_⟩; intro w hSw; (try dsimp only at hSw); go_simp; all_goals with_reducible rfl)
                try simp only [Act.put, List.setIfInBounds_toArray, List.set_cons_zero, List.set_cons_succ]
                refine wpAnyH_take (i := 11) (oi := ?oi11) (v := ?v11) ?hi11 (by kernel_rfl) (by kernel_rfl) (by kernel_rfl) ?hq11 ?hy11 hHeld ?rest11
                case hi11 => (simp only [List.getElem?_toArray, List.getElem?_cons_succ, List.getElem?_cons_zero]; rfl)
                case hq11 => exact fun _ _ _ h => h
                case hy11 => (refine Or.inl ⟨by rfl, ?_⟩; intro w hSw; (try dsimp only at hSw); go_simp; all_goals with_reducible rfl)
                try simp only [Act.put, List.setIfInBounds_toArray, List.set_cons_zero, List.set_cons_succ]
                refine wpAnyH_take (i := 12) (oi := ?oi12) (v := ?v12) ?hi12 (by kernel_rfl) (by kernel_rfl) (by kernel_rfl) ?hq12 ?hy12 hHeld ?rest12
                case hi12 => (simp only [List.getElem?_toArray, List.getElem?_cons_succ, List.getElem?_cons_zero]; rfl)
                case hq12 => exact fun _ _ _ h => h
                case hy12 => (refine Or.inl ⟨by rfl, ?_⟩; intro w hSw; (try dsimp only at hSw); go_simp; all_goals with_reducible rfl)
                try simp only [Act.put, List.setIfInBounds_toArray, List.set_cons_zero, List.set_cons_succ]
                refine wpAnyH_take (i := 13) (oi := ?oi13) (v := ?v13) ?hi13 (by kernel_rfl) (by kernel_rfl) (by kernel_rfl) ?hq13 ?hy13 hHeld ?rest13
                case hi13 => (simp only [List.getElem?_toArray, List.getElem?_cons_succ, List.getElem?_cons_zero]; rfl)
                case hq13 => exact fun _ _ _ h => h
                case hy13 => (refine Or.inl ⟨by rfl, ?_⟩; intro w hSw; (try dsimp only at hSw); go_simp; all_goals with_reducible rfl)
                try simp only [Act.put, List.setIfInBounds_toArray, List.set_cons_zero, List.set_cons_succ]
                refine wpAnyH_take (i := 14) (oi := ?oi14) (v := ?v14) ?hi14 (by kernel_rfl) (by kernel_rfl) (by kernel_rfl) ?hq14 ?hy14 hHeld ?rest14
                case hi14 => (simp only [List.getElem?_toArray, List.getElem?_cons_succ, List.getElem?_cons_zero]; rfl)
                case hq14 => exact fun _ _ _ h => h
                case hy14 => (refine Or.inl ⟨by rfl, ?_⟩; intro w hSw; (try dsimp only at hSw); go_simp; all_goals with_reducible rfl)
                try simp only [Act.put, List.setIfInBounds_toArray, List.set_cons_zero, List.set_cons_succ]
                refine wpAnyH_take (i := 15) (oi := ?oi15) (v := ?v15) ?hi15 (by kernel_rfl) (by kernel_rfl) (by kernel_rfl) ?hq15 ?hy15 hHeld ?rest15
                case hi15 => (simp only [List.getElem?_toArray, List.getElem?_cons_succ, List.getElem?_cons_zero]; rfl)
                case hq15 => exact fun _ _ _ h => h
                case hy15 => (refine Or.inl ⟨by rfl, ?_⟩; intro w hSw; (try dsimp only at hSw); go_simp; all_goals with_reducible rfl)
                try simp only [Act.put, List.setIfInBounds_toArray, List.set_cons_zero, List.set_cons_succ]
                refine wpAnyH_ready (rs := [9]) (by kernel_rfl) (by simp) ?_
                refine AllReadyH.cons (o := ?oi9) ?hi9 (fun K hK => ?body9) AllReadyH.nil
                case hi9 => (simp only [List.getElem?_toArray, List.getElem?_cons_succ, List.getElem?_cons_zero]; rfl)
                go_simp
                refine (DC.out _ HBS.out.bel).mono ?_
                rintro e wD ⟨rfl, hbD⟩
                have HBD := hid (HBS.out.below hbD)
                have IOD := hid (Arr.below IOS.out hbD)
                obtain ⟨cD0, cD1⟩ := HBD.out.cells
                have rD := RW.out wD HBD.out.bel
                clear hbD
                go_wp2_with fail
                refine hK.out _ _ ⟨cD0, cD1, rD⟩ (fun hHeld => ?_)
                clear hK K
                try simp only [Act.put, List.setIfInBounds_toArray, List.set_cons_zero, List.set_cons_succ]
                refine wpAnyH_take (i := 16) (oi := ?oi16) (v := ?v16) ?hi16 (by kernel_rfl) (by kernel_rfl) (by kernel_rfl) ?hq16 ?hy16 hHeld ?rest16
                case hi16 => (simp only [List.getElem?_toArray, List.getElem?_cons_succ, List.getElem?_cons_zero]; rfl)
                case hq16 => exact fun _ _ _ h => h
                case hy16 => (refine Or.inl ⟨by rfl, ?_⟩; intro w hSw; (try dsimp only at hSw); go_simp; all_goals with_reducible rfl)
                try simp only [Act.put, List.setIfInBounds_toArray, List.set_cons_zero, List.set_cons_succ]
                refine wpAnyH_take (i := 17) (oi := ?oi17) (v := ?v17) ?hi17 (by kernel_rfl) (by kernel_rfl) (by kernel_rfl) ?hq17 ?hy17 hHeld ?rest17
                case hi17 => (simp only [List.getElem?_toArray, List.getElem?_cons_succ, List.getElem?_cons_zero]; rfl)
                case hq17 => exact fun _ _ _ h => h
                case hy17 => (refine Or.inl ⟨by rfl, ?_⟩; intro w hSw; (try dsimp only at hSw); go_simp; all_goals with_reducible rfl)
                try simp only [Act.put, List.setIfInBounds_toArray, List.set_cons_zero, List.set_cons_succ]
                refine wpAnyH_take (i := 18) (oi := ?oi18) (v := ?v18) ?hi18 (by kernel_rfl) (by kernel_rfl) (by kernel_rfl) ?hq18 ?hy18 hHeld ?rest18
                case hi18 => (simp only [List.getElem?_toArray, List.getElem?_cons_succ, List.getElem?_cons_zero]; rfl)
                case hq18 => exact fun _ _ _ h => h
                case hy18 => (refine Or.inl ⟨by rfl, ?_⟩; intro w hSw; (try dsimp only at hSw); go_simp; all_goals with_reducible rfl)
                try simp only [Act.put, List.setIfInBounds_toArray, List.set_cons_zero, List.set_cons_succ]
                refine wpAnyH_take (i := 19) (oi := ?oi19) (v := ?v19) ?hi19 (by kernel_rfl) (by kernel_rfl) (by kernel_rfl) ?hq19 ?hy19 hHeld ?rest19
                case hi19 => (simp only [List.getElem?_toArray, List.getElem?_cons_succ, List.getElem?_cons_zero]; rfl)
                case hq19 => exact fun _ _ _ h => h
                case hy19 => (refine Or.inl ⟨by rfl, ?_⟩; intro w hSw; (try dsimp only at hSw); go_simp; all_goals with_reducible rfl)
                try simp only [Act.put, List.setIfInBounds_toArray, List.set_cons_zero, List.set_cons_succ]
                refine wpAnyH_take (i := 20) (oi := ?oi20) (v := ?v20) ?hi20 (by kernel_rfl) (by kernel_rfl) (by kernel_rfl) ?hq20 ?hy20 hHeld ?rest20
                case hi20 => (simp only [List.getElem?_toArray, List.getElem?_cons_succ, List.getElem?_cons_zero]; rfl)
                case hq20 => exact fun _ _ _ h => h
                case hy20 => (refine Or.inl ⟨by rfl, ?_⟩; intro w hSw; (try dsimp only at hSw); go_simp; all_goals with_reducible rfl)
                try simp only [Act.put, List.setIfInBounds_toArray, List.set_cons_zero, List.set_cons_succ]
                refine wpAnyH_ready (rs := [21]) (by kernel_rfl) (by simp) ?_
                refine AllReadyH.cons (o := ?oi21) ?hi21 (fun K hK => ?body21) AllReadyH.nil
                case hi21 => (simp only [List.getElem?_toArray, List.getElem?_cons_succ, List.getElem?_cons_zero]; rfl)
                go_simp
                refine (HC2.out _ HBD.out.bel).mono ?_
                rintro e wH ⟨rfl, hbH⟩
                have HBH := hid (HBD.out.below hbH)
                have IOH := hid (Arr.below IOD.out hbH)
                obtain ⟨cH0, cH1⟩ := HBH.out.cells
                have rH := RW.out wH HBH.out.bel
                clear hbH
                go_wp2_with fail
                refine hK.out _ _ ⟨cH0, cH1, rH⟩ (fun hHeld => ?_)
                clear hK K
                try simp only [Act.put, List.setIfInBounds_toArray, List.set_cons_zero, List.set_cons_succ]
                refine wpAnyH_take (i := 22) (oi := ?oi22) (v := ?v22) ?hi22 (by kernel_rfl) (by kernel_rfl) (by kernel_rfl) ?hq22 ?hy22 hHeld ?rest22
                case hi22 => (simp only [List.getElem?_toArray, List.getElem?_cons_succ, List.getElem?_cons_zero]; rfl)
                case hq22 => exact fun _ _ _ h => h
                case hy22 => (refine Or.inl ⟨by rfl, ?_⟩; intro w hSw; (try dsimp only at hSw); go_simp; all_goals with_reducible rfl)
                try simp only [Act.put, List.setIfInBounds_toArray, List.set_cons_zero, List.set_cons_succ]
                refine wpAnyH_take (i := 23) (oi := ?oi23) (v := ?v23) ?hi23 (by kernel_rfl) (by kernel_rfl) (by kernel_rfl) ?hq23 ?hy23 hHeld ?rest23
                case hi23 => (simp only [List.getElem?_toArray, List.getElem?_cons_succ, List.getElem?_cons_zero]; rfl)
                case hq23 => exact fun _ _ _ h => h
                case hy23 => (refine Or.inl ⟨by rfl, ?_⟩; intro w hSw; (try dsimp only at hSw); go_simp; all_goals with_reducible rfl)
                try simp only [Act.put, List.setIfInBounds_toArray, List.set_cons_zero, List.set_cons_succ]
                refine wpAnyH_take (i := 24) (oi := ?oi24) (v := ?v24) ?hi24 (by kernel_rfl) (by kernel_rfl) (by kernel_rfl) ?hq24 ?hy24 hHeld ?rest24
                case hi24 => (simp only [List.getElem?_toArray, List.getElem?_cons_succ, List.getElem?_cons_zero]; rfl)
                case hq24 => exact fun _ _ _ h => h
                case hy24 => (refine Or.inl ⟨by rfl, ?_⟩; intro w hSw; (try dsimp only at hSw); go_simp; all_goals with_reducible rfl)
                try simp only [Act.put, List.setIfInBounds_toArray, List.set_cons_zero, List.set_cons_succ]
                refine wpAnyH_take (i := 25) (oi := ?oi25) (v := ?v25) ?hi25 (by kernel_rfl) (by kernel_rfl) (by kernel_rfl) ?hq25 ?hy25 hHeld ?rest25
                case hi25 => (simp only [List.getElem?_toArray, List.getElem?_cons_succ, List.getElem?_cons_zero]; rfl)
                case hq25 => exact fun _ _ _ h => h
                case hy25 => (refine Or.inl ⟨by rfl, ?_⟩; intro w hSw; (try dsimp only at hSw); go_simp; all_goals with_reducible rfl)
                try simp only [Act.put, List.setIfInBounds_toArray, List.set_cons_zero, List.set_cons_succ]
                refine wpAnyH_take (i := 26) (oi := ?oi26) (v := ?v26) ?hi26 (by kernel_rfl) (by kernel_rfl) (by kernel_rfl) ?hq26 ?hy26 hHeld ?rest26
                case hi26 => (simp only [List.getElem?_toArray, List.getElem?_cons_succ, List.getElem?_cons_zero]; rfl)
                case hq26 => exact fun _ _ _ h => h
                case hy26 => (refine Or.inl ⟨by rfl, ?_⟩; intro w hSw; (try dsimp only at hSw); go_simp; all_goals with_reducible rfl)
                try simp only [Act.put, List.setIfInBounds_toArray, List.set_cons_zero, List.set_cons_succ]
                refine wpAnyH_take (i := 27) (oi := ?oi27) (v := ?v27) ?hi27 (by kernel_rfl) (by kernel_rfl) (by kernel_rfl) ?hq27 ?hy27 hHeld ?rest27
                case hi27 => (simp only [List.getElem?_toArray, List.getElem?_cons_succ, List.getElem?_cons_zero]; rfl)
                case hq27 => exact fun _ _ _ h => h
                case hy27 => (refine Or.inl ⟨by rfl, ?_⟩; intro w hSw; (try dsimp only at hSw); go_simp; all_goals with_reducible rfl)
                try simp only [Act.put, List.setIfInBounds_toArray, List.set_cons_zero, List.set_cons_succ]
                refine wpAnyH_take (i := 28) (oi := ?oi28) (v := ?v28) ?hi28 (by kernel_rfl) (by kernel_rfl) (by kernel_rfl) ?hq28 ?hy28 hHeld ?rest28
                case hi28 => (simp only [List.getElem?_toArray, List.getElem?_cons_succ, List.getElem?_cons_zero]; rfl)
                case hq28 => exact fun _ _ _ h => h
                case hy28 => (refine Or.inl ⟨by rfl, ?_⟩; intro w hSw; (try dsimp only at hSw); go_simp; all_goals with_reducible rfl)
                try simp only [Act.put, List.setIfInBounds_toArray, List.set_cons_zero, List.set_cons_succ]
                refine wpAnyH_take (i := 29) (oi := ?oi29) (v := ?v29) ?hi29 (by kernel_rfl) (by kernel_rfl) (by kernel_rfl) ?hq29 ?hy29 hHeld ?rest29
                case hi29 => (simp only [List.getElem?_toArray, List.getElem?_cons_succ, List.getElem?_cons_zero]; rfl)
                case hq29 => exact fun _ _ _ h => h
                case hy29 => (refine Or.inl ⟨by rfl, ?_⟩; intro w hSw; (try dsimp only at hSw); go_simp; all_goals with_reducible rfl)
                try simp only [Act.put, List.setIfInBounds_toArray, List.set_cons_zero, List.set_cons_succ]
                refine wpAnyH_take (i := 30) (oi := ?oi30) (v := ?v30) ?hi30 (by kernel_rfl) (by kernel_rfl) (by kernel_rfl) ?hq30 ?hy30 hHeld ?rest30
                case hi30 => (simp only [List.getElem?_toArray, List.getElem?_cons_succ, List.getElem?_cons_zero]; rfl)
                case hq30 => exact fun _ _ _ h => h
                case hy30 => (refine Or.inl ⟨by rfl, ?_⟩; intro w hSw; (try dsimp only at hSw); go_simp; all_goals with_reducible rfl)
                try simp only [Act.put, List.setIfInBounds_toArray, List.set_cons_zero, List.set_cons_succ]
                refine wpAnyH_take (i := 31) (oi := ?oi31) (v := ?v31) ?hi31 (by kernel_rfl) (by kernel_rfl) (by kernel_rfl) ?hq31 ?hy31 hHeld ?rest31
                case hi31 => (simp only [List.getElem?_toArray, List.getElem?_cons_succ, List.getElem?_cons_zero]; rfl)
                case hq31 => exact fun _ _ _ h => h
                case hy31 => (refine Or.inl ⟨by rfl, ?_⟩; intro w hSw; (try dsimp only at hSw); go_simp; all_goals with_reducible rfl)
                try simp only [Act.put, List.setIfInBounds_toArray, List.set_cons_zero, List.set_cons_succ]
                refine wpAnyH_take (i := 32) (oi := ?oi32) (v := ?v32) ?hi32 (by kernel_rfl) (by kernel_rfl) (by kernel_rfl) ?hq32 ?hy32 hHeld ?rest32
                case hi32 => (simp only [List.getElem?_toArray, List.getElem?_cons_succ, List.getElem?_cons_zero]; rfl)
                case hq32 => exact fun _ _ _ h => h
                case hy32 => (refine Or.inl ⟨by rfl, ?_⟩; intro w hSw; (try dsimp only at hSw); go_simp; all_goals with_reducible rfl)
                try simp only [Act.put, List.setIfInBounds_toArray, List.set_cons_zero, List.set_cons_succ]
                refine wpAnyH_take (i := 33) (oi := ?oi33) (v := ?v33) ?hi33 (by kernel_rfl) (by kernel_rfl) (by kernel_rfl) ?hq33 ?hy33 hHeld ?rest33
                case hi33 => (simp only [List.getElem?_toArray, List.getElem?_cons_succ, List.getElem?_cons_zero]; rfl)
                case hq33 => exact fun _ _ _ h => h
                case hy33 => (refine Or.inl ⟨by rfl, ?_⟩; intro w hSw; (try dsimp only at hSw); go_simp; all_goals with_reducible rfl)
                try simp only [Act.put, List.setIfInBounds_toArray, List.set_cons_zero, List.set_cons_succ]
                refine wpAnyH_take (i := 34) (oi := ?oi34) (v := undef) ?hi34 (by kernel_rfl) (by kernel_rfl) (by kernel_rfl) ?hq34 ?hy34 hHeld ?rest34
                case hi34 => (simp only [List.getElem?_toArray, List.getElem?_cons_succ, List.getElem?_cons_zero]; rfl)
                case hq34 => exact fun _ _ _ h => h
                case hy34 => exact Or.inr ⟨by rfl, rfl⟩
                try simp only [Act.put, List.setIfInBounds_toArray, List.set_cons_zero, List.set_cons_succ]
                refine wpAnyH_take (i := 35) (oi := ?oi35) (v := undef) ?hi35 (by kernel_rfl) (by kernel_rfl) (by kernel_rfl) ?hq35 ?hy35 hHeld ?rest35
                case hi35 => (simp only [List.getElem?_toArray, List.getElem?_cons_succ, List.getElem?_cons_zero]; rfl)
                case hq35 => exact fun _ _ _ h => h
                case hy35 => exact Or.inr ⟨by rfl, rfl⟩
                try simp only [Act.put, List.setIfInBounds_toArray, List.set_cons_zero, List.set_cons_succ]
                refine wpAnyH_take (i := 36) (oi := ?oi36) (v := undef) ?hi36 (by kernel_rfl) (by kernel_rfl) (by kernel_rfl) ?hq36 ?hy36 hHeld ?rest36
                case hi36 => (simp only [List.getElem?_toArray, List.getElem?_cons_succ, List.getElem?_cons_zero]; rfl)
                case hq36 => exact fun _ _ _ h => h
                case hy36 => exact Or.inr ⟨by rfl, rfl⟩
                try simp only [Act.put, List.setIfInBounds_toArray, List.set_cons_zero, List.set_cons_succ]
                refine wpAnyH_take (i := 37) (oi := ?oi37) (v := undef) ?hi37 (by kernel_rfl) (by kernel_rfl) (by kernel_rfl) ?hq37 ?hy37 hHeld ?rest37
                case hi37 => (simp only [List.getElem?_toArray, List.getElem?_cons_succ, List.getElem?_cons_zero]; rfl)
                case hq37 => exact fun _ _ _ h => h
                case hy37 => exact Or.inr ⟨by rfl, rfl⟩
                try simp only [Act.put, List.setIfInBounds_toArray, List.set_cons_zero, List.set_cons_succ]
                refine wpAnyH_take (i := 38) (oi := ?oi38) (v := undef) ?hi38 (by kernel_rfl) (by kernel_rfl) (by kernel_rfl) ?hq38 ?hy38 hHeld ?rest38
                case hi38 => (simp only [List.getElem?_toArray, List.getElem?_cons_succ, List.getElem?_cons_zero]; rfl)
                case hq38 => exact fun _ _ _ h => h
                case hy38 => exact Or.inr ⟨by rfl, rfl⟩
                try simp only [Act.put, List.setIfInBounds_toArray, List.set_cons_zero, List.set_cons_succ]
                refine wpAnyH_take (i := 39) (oi := ?oi39) (v := undef) ?hi39 (by kernel_rfl) (by kernel_rfl) (by kernel_rfl) ?hq39 ?hy39 hHeld ?rest39
                case hi39 => (simp only [List.getElem?_toArray, List.getElem?_cons_succ, List.getElem?_cons_zero]; rfl)
                case hq39 => exact fun _ _ _ h => h
                case hy39 => exact Or.inr ⟨by rfl, rfl⟩
                try simp only [Act.put, List.setIfInBounds_toArray, List.set_cons_zero, List.set_cons_succ]
                refine wpAnyH_take (i := 40) (oi := ?oi40) (v := undef) ?hi40 (by kernel_rfl) (by kernel_rfl) (by kernel_rfl) ?hq40 ?hy40 hHeld ?rest40
                case hi40 => (simp only [List.getElem?_toArray, List.getElem?_cons_succ, List.getElem?_cons_zero]; rfl)
                case hq40 => exact fun _ _ _ h => h
                case hy40 => exact Or.inr ⟨by rfl, rfl⟩
                try simp only [Act.put, List.setIfInBounds_toArray, List.set_cons_zero, List.set_cons_succ]
                refine wpAnyH_take (i := 41) (oi := ?oi41) (v := undef) ?hi41 (by kernel_rfl) (by kernel_rfl) (by kernel_rfl) ?hq41 ?hy41 hHeld ?rest41
                case hi41 => (simp only [List.getElem?_toArray, List.getElem?_cons_succ, List.getElem?_cons_zero]; rfl)
                case hq41 => exact fun _ _ _ h => h
                case hy41 => exact Or.inr ⟨by rfl, rfl⟩
                try simp only [Act.put, List.setIfInBounds_toArray, List.set_cons_zero, List.set_cons_succ]
                refine wpAnyH_take (i := 42) (oi := ?oi42) (v := ?v42) ?hi42 (by kernel_rfl) (by kernel_rfl) (by kernel_rfl) ?hq42 ?hy42 hHeld ?rest42
                case hi42 => (simp only [List.getElem?_toArray, List.getElem?_cons_succ, List.getElem?_cons_zero]; rfl)
                case hq42 => exact fun _ _ _ h => h
                case hy42 => (refine Or.inl ⟨by rfl, ?_⟩; intro w hSw; (try dsimp only at hSw); go_simp; all_goals with_reducible rfl)
                try simp only [Act.put, List.setIfInBounds_toArray, List.set_cons_zero, List.set_cons_succ]
                refine wpAnyH_take (i := 43) (oi := ?oi43) (v := ?v43) ?hi43 (by kernel_rfl) (by kernel_rfl) (by kernel_rfl) ?hq43 ?hy43 hHeld ?rest43
                case hi43 => (simp only [List.getElem?_toArray, List.getElem?_cons_succ, List.getElem?_cons_zero]; rfl)
                case hq43 => exact fun _ _ _ h => h
                case hy43 => (refine Or.inl ⟨by rfl, ?_⟩; intro w hSw; (try dsimp only at hSw); go_simp; all_goals with_reducible rfl)
                try simp only [Act.put, List.setIfInBounds_toArray, List.set_cons_zero, List.set_cons_succ]
                refine wpAnyH_take (i := 44) (oi := ?oi44) (v := ?v44) ?hi44 (by kernel_rfl) (by kernel_rfl) (by kernel_rfl) ?hq44 ?hy44 hHeld ?rest44
                case hi44 => (simp only [List.getElem?_toArray, List.getElem?_cons_succ, List.getElem?_cons_zero]; rfl)
                case hq44 => exact fun _ _ _ h => h
                case hy44 => (refine Or.inl ⟨by rfl, ?_⟩; intro w hSw; (try dsimp only at hSw); go_simp; all_goals with_reducible rfl)
                try simp only [Act.put, List.setIfInBounds_toArray, List.set_cons_zero, List.set_cons_succ]
                refine wpAnyH_take (i := 45) (oi := ?oi45) (v := ?v45) ?hi45 (by kernel_rfl) (by kernel_rfl) (by kernel_rfl) ?hq45 ?hy45 hHeld ?rest45
                case hi45 => (simp only [List.getElem?_toArray, List.getElem?_cons_succ, List.getElem?_cons_zero]; rfl)
                case hq45 => exact fun _ _ _ h => h
                case hy45 => (refine Or.inl ⟨by rfl, ?_⟩; intro w hSw; (try dsimp only at hSw); go_simp; all_goals with_reducible rfl)
                try simp only [Act.put, List.setIfInBounds_toArray, List.set_cons_zero, List.set_cons_succ]
                refine wpAnyH_take (i := 46) (oi := ?oi46) (v := ?v46) ?hi46 (by kernel_rfl) (by kernel_rfl) (by kernel_rfl) ?hq46 ?hy46 hHeld ?rest46
                case hi46 => (simp only [List.getElem?_toArray, List.getElem?_cons_succ, List.getElem?_cons_zero]; rfl)
                case hq46 => exact fun _ _ _ h => h
                case hy46 => (refine Or.inl ⟨by rfl, ?_⟩; intro w hSw; (try dsimp only at hSw); go_simp; all_goals with_reducible rfl)
                try simp only [Act.put, List.setIfInBounds_toArray, List.set_cons_zero, List.set_cons_succ]
                refine wpAnyH_take (i := 47) (oi := ?oi47) (v := ?v47) ?hi47 (by kernel_rfl) (by kernel_rfl) (by kernel_rfl) ?hq47 ?hy47 hHeld ?rest47
                case hi47 => (simp only [List.getElem?_toArray, List.getElem?_cons_succ, List.getElem?_cons_zero]; rfl)
                case hq47 => exact fun _ _ _ h => h
                case hy47 => (refine Or.inl ⟨by rfl, ?_⟩; intro w hSw; (try dsimp only at hSw); go_simp; all_goals with_reducible rfl)
                try simp only [Act.put, List.setIfInBounds_toArray, List.set_cons_zero, List.set_cons_succ]
                refine wpAnyH_take (i := 48) (oi := ?oi48) (v := ?v48) ?hi48 (by kernel_rfl) (by kernel_rfl) (by kernel_rfl) ?hq48 ?hy48 hHeld ?rest48
                case hi48 => (simp only [List.getElem?_toArray, List.getElem?_cons_succ, List.getElem?_cons_zero]; rfl)
                case hq48 => exact fun _ _ _ h => h
                case hy48 => (refine Or.inl ⟨by rfl, ?_⟩; intro w hSw; (try dsimp only at hSw); go_simp; all_goals with_reducible rfl)
                try simp only [Act.put, List.setIfInBounds_toArray, List.set_cons_zero, List.set_cons_succ]
                refine wpAnyH_take (i := 49) (oi := ?oi49) (v := ?v49) ?hi49 (by kernel_rfl) (by kernel_rfl) (by kernel_rfl) ?hq49 ?hy49 hHeld ?rest49
                case hi49 => (simp only [List.getElem?_toArray, List.getElem?_cons_succ, List.getElem?_cons_zero]; rfl)
                case hq49 => exact fun _ _ _ h => h
                case hy49 => (refine Or.inl ⟨by rfl, ?_⟩; intro w hSw; (try dsimp only at hSw); go_simp; all_goals with_reducible rfl)
                try simp only [Act.put, List.setIfInBounds_toArray, List.set_cons_zero, List.set_cons_succ]
                refine wpAnyH_take (i := 50) (oi := ?oi50) (v := ?v50) ?hi50 (by kernel_rfl) (by kernel_rfl) (by kernel_rfl) ?hq50 ?hy50 hHeld ?rest50
                case hi50 => (simp only [List.getElem?_toArray, List.getElem?_cons_succ, List.getElem?_cons_zero]; rfl)
                case hq50 => exact fun _ _ _ h => h
                case hy50 => (refine Or.inl ⟨by rfl, ?_⟩; intro w hSw; (try dsimp only at hSw); go_simp; all_goals with_reducible rfl)
                try simp only [Act.put, List.setIfInBounds_toArray, List.set_cons_zero, List.set_cons_succ]
                refine wpAnyH_take (i := 51) (oi := ?oi51) (v := ?v51) ?hi51 (by kernel_rfl) (by kernel_rfl) (by kernel_rfl) ?hq51 ?hy51 hHeld ?rest51
                case hi51 => (simp only [List.getElem?_toArray, List.getElem?_cons_succ, List.getElem?_cons_zero]; rfl)
                case hq51 => exact fun _ _ _ h => h
                case hy51 => (refine Or.inl ⟨by rfl, ?_⟩; intro w hSw; (try dsimp only at hSw); go_simp; all_goals with_reducible rfl)
                try simp only [Act.put, List.setIfInBounds_toArray, List.set_cons_zero, List.set_cons_succ]
                refine wpAnyH_done (by kernel_rfl) ?_ _
                refine NoPanic.normal ?_
                all_goals (
                  clear KC DC HC2 RW
                  go_wp2_with fail
                  go_roundw
                  case rel => exact ⟨i + 1, by omega, by go_num, HBH.out, IOH.out⟩
                  case measure => simp [intOf]; omega)
              · obtain ⟨pj, hpar, hpi, hpn⟩ : ∃ j : Nat, parR R i = j ∧ j < i ∧ (R.getD j (0, 0)).1 = parOf M x := by
                  rcases PR with h | h
                  · exact absurd h.1 hx0
                  · exact h.2
                rw [hpar] at PCi
                have P1 := hid (parent_any x wr bt bm M next j (HT.out.below HB6.out.bel) hx0 hM)
                have RP := hid (fun (w' : World) (h : Below w.heap.size w w') => by
                  obtain ⟨b2, o2, hab2, _, hcc⟩ := HCi w' h
                  cases hab2
                  have := (hcc pj (by omega)).1
                  rw [hpn] at this
                  exact this)
                have hpjI : (pj : Int) < j := by omega
                generalize parOf M x = pp at *
                have hpp : (pp != pp) = false := by simp
                clear PR hpar HCi PC hown9 IK6 HB5 I5 IK hb6 hM RO' hpn
                go_wp2_with fail
                refine P1.out.mono ?_
                rintro e w8 ⟨rfl, hb8⟩
                have HB8 := hid (HB6.out.below hb8)
                have I8 := hid (Arr.below I6.out hb8)
                have IN8 := hid (Arr.below IN6.out hb8)
                have P2 := hid (PCi w8 HB8.out.bel)
                clear PCi P1 hb8 I6 IN6 HB6 c0 c1
                obtain ⟨c0, c1⟩ := HB8.out.cells
                go_wp2_with fail
                refine P2.out.mono ?_
                rintro e w9 ⟨rfl, hb9⟩
                have HB9 := hid (HB8.out.below hb9)
                have I9 := hid (Arr.below I8.out hb9)
                have IN9 := hid (Arr.below IN8.out hb9)
                clear P2 hb9 I8 IN8 HB8 c0 c1
                obtain ⟨c0, c1⟩ := HB9.out.cells
                have r9 := RW.out w9 HB9.out.bel
                have p9 := RP.out w9 HB9.out.bel
                go_wp2_with fail
                refine wp_region_noPanic ?_
                refine wp_region_held_drew (S := (fun wr : World => wr.cell? ⟨w.heap.size, 0, none⟩ = some (.slice (some ⟨b, o, none⟩) j c) ∧ wr.cell? ⟨w.heap.size, 1, none⟩ = some (.int .i64 nx) ∧ wr.cell? ⟨b, o + i * 2 + 1, none⟩ = some (.int .i64 dx) ∧ wr.cell? ⟨b, o + pj * 2, none⟩ = some (.int .i64 pp))) (by kernel_rfl) ⟨c0, c1, r9, p9⟩ (fun hHeld => ?_)
                refine wpAnyH_take (i := 0) (oi := ?oi0p) (v := ?v0p) ?hi0p (by kernel_rfl) (by kernel_rfl) (by kernel_rfl) ?hq0p ?hy0p hHeld ?rest0p
                case hi0p => (simp only [List.getElem?_toArray, List.getElem?_cons_succ, List.getElem?_cons_zero]; rfl)
                case hq0p => exact fun _ _ _ h => h
                case hy0p => (refine Or.inl ⟨by rfl, ?_⟩; intro w hSw; (try dsimp only at hSw); go_simp; all_goals with_reducible rfl)
                try simp only [Act.put, List.setIfInBounds_toArray, List.set_cons_zero, List.set_cons_succ]
                refine wpAnyH_take (i := 1) (oi := ?oi1p) (v := ?v1p) ?hi1p (by kernel_rfl) (by kernel_rfl) (by kernel_rfl) ?hq1p ?hy1p hHeld ?rest1p
                case hi1p => (simp only [List.getElem?_toArray, List.getElem?_cons_succ, List.getElem?_cons_zero]; rfl)
                case hq1p => exact fun _ _ _ h => h
                case hy1p => (refine Or.inl ⟨by rfl, ?_⟩; intro w hSw; (try dsimp only at hSw); go_simp; all_goals with_reducible rfl)
                try simp only [Act.put, List.setIfInBounds_toArray, List.set_cons_zero, List.set_cons_succ]
                refine wpAnyH_take (i := 3) (oi := ?oi3p) (v := ?v3p) ?hi3p (by kernel_rfl) (by kernel_rfl) (by kernel_rfl) ?hq3p ?hy3p hHeld ?rest3p
                case hi3p => (simp only [List.getElem?_toArray, List.getElem?_cons_succ, List.getElem?_cons_zero]; rfl)
                case hq3p => exact fun _ _ _ h => h
                case hy3p => (refine Or.inl ⟨by rfl, ?_⟩; intro w hSw; (try dsimp only at hSw); go_simp; all_goals with_reducible rfl)
                try simp only [Act.put, List.setIfInBounds_toArray, List.set_cons_zero, List.set_cons_succ]
                refine wpAnyH_ready (rs := [2]) (by kernel_rfl) (by simp) ?_
                refine AllReadyH.cons (o := ?oi2p) ?hi2p (fun K hK => ?body2p) AllReadyH.nil
                case hi2p => (simp only [List.getElem?_toArray, List.getElem?_cons_succ, List.getElem?_cons_zero]; rfl)
                go_simp
                refine (KC.out _ HB9.out.drew.bel).mono ?_
                rintro e wK ⟨hbK, AK2, CK2, rfl, hownK⟩
                have HBK := hid (HB9.out.drew.below hbK)
                have IK2 := hid (arr_of_own hownK)
                have INK := hid (Arr.below IN9.out ((Below.refl _ _).drew.trans hbK))
                have IOK := hid (Arr.below I9.out ((Below.refl _ _).drew.trans hbK))
                obtain ⟨cK0, cK1⟩ := HBK.out.cells
                have rK := RW.out wK HBK.out.bel
                have pK := RP.out wK HBK.out.bel
                clear hbK hownK
                go_wp2_with fail
                refine hK.out _ _ ⟨cK0, cK1, rK, pK⟩ (fun hHeld => ?_)
                clear hK K
                try simp only [Act.put, List.setIfInBounds_toArray, List.set_cons_zero, List.set_cons_succ]
                refine wpAnyH_ready (rs := [4]) (by kernel_rfl) (by simp) ?_
                refine AllReadyH.cons (o := ?oi4p) ?hi4p (fun K hK => ?body4p) AllReadyH.nil
                case hi4p => (simp only [List.getElem?_toArray, List.getElem?_cons_succ, List.getElem?_cons_zero]; rfl)
                go_simp
                refine (same_true AK2 A9 N.length CK2 C9 N (by omega) _ IK2.out INK.out).mono ?_
                rintro e wS ⟨rfl, hbS⟩
                have HBS := hid (HBK.out.below hbS)
                have IOS := hid (Arr.below IOK.out hbS)
                obtain ⟨cS0, cS1⟩ := HBS.out.cells
                have rS := RW.out wS HBS.out.bel
                have pS := RP.out wS HBS.out.bel
                clear hbS
                go_wp2_with fail
                refine hK.out _ _ ⟨cS0, cS1, rS, pS⟩ (fun hHeld => ?_)
                clear hK K
                try simp only [Act.put, List.setIfInBounds_toArray, List.set_cons_zero, List.set_cons_succ]
                refine wpAnyH_take (i := 5) (oi := ?oi5p) (v := ?v5p) ?hi5p (by kernel_rfl) (by kernel_rfl) (by kernel_rfl) ?hq5p ?hy5p hHeld ?rest5p
                case hi5p => (simp only [List.getElem?_toArray, List.getElem?_cons_succ, List.getElem?_cons_zero]; rfl)
                case hq5p => exact fun _ _ _ h => h
                case hy5p => (refine Or.inl ⟨by rfl, ?_⟩; intro w hSw; (try dsimp only at hSw); go_simp; all_goals with_reducible rfl)
                try simp only [Act.put, List.setIfInBounds_toArray, List.set_cons_zero, List.set_cons_succ]
                refine wpAnyH_take (i := 6) (oi := ?oi6p) (v := ?v6p) ?hi6p (by kernel_rfl) (by kernel_rfl) (by kernel_rfl) ?hq6p ?hy6p hHeld ?rest6p
                case hi6p => (simp only [List.getElem?_toArray, List.getElem?_cons_succ, List.getElem?_cons_zero]; rfl)
                case hq6p => exact fun _ _ _ h => h
                case hy6p => (refine Or.inl ⟨by rfl, ?_⟩; intro w hSw; (try dsimp only at hSw); go_simp; all_goals with_reducible rfl)
                try simp only [Act.put, List.setIfInBounds_toArray, List.set_cons_zero, List.set_cons_succ]
                refine wpAnyH_take (i := 7) (oi := ?oi7p) (v := ?v7p) ?hi7p (by kernel_rfl) (by kernel_rfl) (by kernel_rfl) ?hq7p ?hy7p hHeld ?rest7p
                case hi7p => (simp only [List.getElem?_toArray, List.getElem?_cons_succ, List.getElem?_cons_zero]; rfl)
                case hq7p => exact fun _ _ _ h => h
                case hy7p => (refine Or.inl ⟨by rfl, ?_⟩; intro w hSw; (try dsimp only at hSw); go_simp; all_goals with_reducible rfl)
                try simp only [Act.put, List.setIfInBounds_toArray, List.set_cons_zero, List.set_cons_succ]
                refine wpAnyH_take (i := 8) (oi := ?oi8p) (v := ?v8p) ?hi8p (by kernel_rfl) (by kernel_rfl) (by kernel_rfl) ?hq8p ?hy8p hHeld ?rest8p
                case hi8p => (simp only [List.getElem?_toArray, List.getElem?_cons_succ, List.getElem?_cons_zero]; rfl)
                case hq8p => exact fun _ _ _ h => h
                case hy8p => (refine Or.inl ⟨by rfl, ?_⟩; intro w hSw; (try dsimp only at hSw); go_simp; all_goals with_reducible rfl)
                try simp only [Act.put, List.setIfInBounds_toArray, List.set_cons_zero, List.set_cons_succ]
                refine wpAnyH_take (i := 10) (oi := ?oi10p) (v := ?v10p) ?hi10p (by kernel_rfl) (by kernel_rfl) (by kernel_rfl) ?hq10p ?hy10p hHeld ?rest10p
                case hi10p => (simp only [List.getElem?_toArray, List.getElem?_cons_succ, List.getElem?_cons_zero]; rfl)
                case hq10p => exact fun _ _ _ h => h
                case hy10p => (refine Or.inl ⟨by rfl, ?_⟩; intro w hSw; (try dsimp only at hSw); go_simp; all_goals with_reducible rfl)
                try simp only [Act.put, List.setIfInBounds_toArray, List.set_cons_zero, List.set_cons_succ]
                refine wpAnyH_take (i := 11) (oi := ?oi11p) (v := ?v11p) ?hi11p (by kernel_rfl) (by kernel_rfl) (by kernel_rfl) ?hq11p ?hy11p hHeld ?rest11p
                case hi11p => (simp only [List.getElem?_toArray, List.getElem?_cons_succ, List.getElem?_cons_zero]; rfl)
                case hq11p => exact fun _ _ _ h => h
                case hy11p => (refine Or.inl ⟨by rfl, ?_⟩; intro w hSw; (try dsimp only at hSw); go_simp; all_goals with_reducible rfl)
                try simp only [Act.put, List.setIfInBounds_toArray, List.set_cons_zero, List.set_cons_succ]
                refine wpAnyH_take (i := 12) (oi := ?oi12p) (v := ?v12p) ?hi12p (by kernel_rfl) (by kernel_rfl) (by kernel_rfl) ?hq12p ?hy12p hHeld ?rest12p
                case hi12p => (simp only [List.getElem?_toArray, List.getElem?_cons_succ, List.getElem?_cons_zero]; rfl)
                case hq12p => exact fun _ _ _ h => h
                case hy12p => (refine Or.inl ⟨by rfl, ?_⟩; intro w hSw; (try dsimp only at hSw); go_simp; all_goals with_reducible rfl)
                try simp only [Act.put, List.setIfInBounds_toArray, List.set_cons_zero, List.set_cons_succ]
                refine wpAnyH_take (i := 13) (oi := ?oi13p) (v := ?v13p) ?hi13p (by kernel_rfl) (by kernel_rfl) (by kernel_rfl) ?hq13p ?hy13p hHeld ?rest13p
                case hi13p => (simp only [List.getElem?_toArray, List.getElem?_cons_succ, List.getElem?_cons_zero]; rfl)
                case hq13p => exact fun _ _ _ h => h
                case hy13p => (refine Or.inl ⟨by rfl, ?_⟩; intro w hSw; (try dsimp only at hSw); go_simp; all_goals with_reducible rfl)
                try simp only [Act.put, List.setIfInBounds_toArray, List.set_cons_zero, List.set_cons_succ]
                refine wpAnyH_take (i := 14) (oi := ?oi14p) (v := ?v14p) ?hi14p (by kernel_rfl) (by kernel_rfl) (by kernel_rfl) ?hq14p ?hy14p hHeld ?rest14p
                case hi14p => (simp only [List.getElem?_toArray, List.getElem?_cons_succ, List.getElem?_cons_zero]; rfl)
                case hq14p => exact fun _ _ _ h => h
                case hy14p => (refine Or.inl ⟨by rfl, ?_⟩; intro w hSw; (try dsimp only at hSw); go_simp; all_goals with_reducible rfl)
                try simp only [Act.put, List.setIfInBounds_toArray, List.set_cons_zero, List.set_cons_succ]
                refine wpAnyH_take (i := 15) (oi := ?oi15p) (v := ?v15p) ?hi15p (by kernel_rfl) (by kernel_rfl) (by kernel_rfl) ?hq15p ?hy15p hHeld ?rest15p
                case hi15p => (simp only [List.getElem?_toArray, List.getElem?_cons_succ, List.getElem?_cons_zero]; rfl)
                case hq15p => exact fun _ _ _ h => h
                case hy15p => (refine Or.inl ⟨by rfl, ?_⟩; intro w hSw; (try dsimp only at hSw); go_simp; all_goals with_reducible rfl)
                try simp only [Act.put, List.setIfInBounds_toArray, List.set_cons_zero, List.set_cons_succ]
                refine wpAnyH_ready (rs := [9]) (by kernel_rfl) (by simp) ?_
                refine AllReadyH.cons (o := ?oi9p) ?hi9p (fun K hK => ?body9p) AllReadyH.nil
                case hi9p => (simp only [List.getElem?_toArray, List.getElem?_cons_succ, List.getElem?_cons_zero]; rfl)
                go_simp
                refine (DC.out _ HBS.out.bel).mono ?_
                rintro e wD ⟨rfl, hbD⟩
                have HBD := hid (HBS.out.below hbD)
                have IOD := hid (Arr.below IOS.out hbD)
                obtain ⟨cD0, cD1⟩ := HBD.out.cells
                have rD := RW.out wD HBD.out.bel
                have pD := RP.out wD HBD.out.bel
                clear hbD
                go_wp2_with fail
                refine hK.out _ _ ⟨cD0, cD1, rD, pD⟩ (fun hHeld => ?_)
                clear hK K
                try simp only [Act.put, List.setIfInBounds_toArray, List.set_cons_zero, List.set_cons_succ]
                refine wpAnyH_take (i := 16) (oi := ?oi16p) (v := ?v16p) ?hi16p (by kernel_rfl) (by kernel_rfl) (by kernel_rfl) ?hq16p ?hy16p hHeld ?rest16p
                case hi16p => (simp only [List.getElem?_toArray, List.getElem?_cons_succ, List.getElem?_cons_zero]; rfl)
                case hq16p => exact fun _ _ _ h => h
                case hy16p => (refine Or.inl ⟨by rfl, ?_⟩; intro w hSw; (try dsimp only at hSw); go_simp; all_goals with_reducible rfl)
                try simp only [Act.put, List.setIfInBounds_toArray, List.set_cons_zero, List.set_cons_succ]
                refine wpAnyH_take (i := 17) (oi := ?oi17p) (v := ?v17p) ?hi17p (by kernel_rfl) (by kernel_rfl) (by kernel_rfl) ?hq17p ?hy17p hHeld ?rest17p
                case hi17p => (simp only [List.getElem?_toArray, List.getElem?_cons_succ, List.getElem?_cons_zero]; rfl)
                case hq17p => exact fun _ _ _ h => h
                case hy17p => (refine Or.inl ⟨by rfl, ?_⟩; intro w hSw; (try dsimp only at hSw); go_simp; all_goals with_reducible rfl)
                try simp only [Act.put, List.setIfInBounds_toArray, List.set_cons_zero, List.set_cons_succ]
                refine wpAnyH_take (i := 18) (oi := ?oi18p) (v := ?v18p) ?hi18p (by kernel_rfl) (by kernel_rfl) (by kernel_rfl) ?hq18p ?hy18p hHeld ?rest18p
                case hi18p => (simp only [List.getElem?_toArray, List.getElem?_cons_succ, List.getElem?_cons_zero]; rfl)
                case hq18p => exact fun _ _ _ h => h
                case hy18p => (refine Or.inl ⟨by rfl, ?_⟩; intro w hSw; (try dsimp only at hSw); go_simp; all_goals with_reducible rfl)
                try simp only [Act.put, List.setIfInBounds_toArray, List.set_cons_zero, List.set_cons_succ]
                refine wpAnyH_take (i := 19) (oi := ?oi19p) (v := ?v19p) ?hi19p (by kernel_rfl) (by kernel_rfl) (by kernel_rfl) ?hq19p ?hy19p hHeld ?rest19p
                case hi19p => (simp only [List.getElem?_toArray, List.getElem?_cons_succ, List.getElem?_cons_zero]; rfl)
                case hq19p => exact fun _ _ _ h => h
                case hy19p => (refine Or.inl ⟨by rfl, ?_⟩; intro w hSw; (try dsimp only at hSw); go_simp; all_goals with_reducible rfl)
                try simp only [Act.put, List.setIfInBounds_toArray, List.set_cons_zero, List.set_cons_succ]
                refine wpAnyH_take (i := 20) (oi := ?oi20p) (v := ?v20p) ?hi20p (by kernel_rfl) (by kernel_rfl) (by kernel_rfl) ?hq20p ?hy20p hHeld ?rest20p
                case hi20p => (simp only [List.getElem?_toArray, List.getElem?_cons_succ, List.getElem?_cons_zero]; rfl)
                case hq20p => exact fun _ _ _ h => h
                case hy20p => (refine Or.inl ⟨by rfl, ?_⟩; intro w hSw; (try dsimp only at hSw); go_simp; all_goals with_reducible rfl)
                try simp only [Act.put, List.setIfInBounds_toArray, List.set_cons_zero, List.set_cons_succ]
                refine wpAnyH_ready (rs := [21]) (by kernel_rfl) (by simp) ?_
                refine AllReadyH.cons (o := ?oi21p) ?hi21p (fun K hK => ?body21p) AllReadyH.nil
                case hi21p => (simp only [List.getElem?_toArray, List.getElem?_cons_succ, List.getElem?_cons_zero]; rfl)
                go_simp
                refine (HC2.out _ HBD.out.bel).mono ?_
                rintro e wH ⟨rfl, hbH⟩
                have HBH := hid (HBD.out.below hbH)
                have IOH := hid (Arr.below IOD.out hbH)
                obtain ⟨cH0, cH1⟩ := HBH.out.cells
                have rH := RW.out wH HBH.out.bel
                have pH := RP.out wH HBH.out.bel
                clear hbH
                go_wp2_with fail
                refine hK.out _ _ ⟨cH0, cH1, rH, pH⟩ (fun hHeld => ?_)
                clear hK K
                try simp only [Act.put, List.setIfInBounds_toArray, List.set_cons_zero, List.set_cons_succ]
                refine wpAnyH_take (i := 22) (oi := ?oi22p) (v := ?v22p) ?hi22p (by kernel_rfl) (by kernel_rfl) (by kernel_rfl) ?hq22p ?hy22p hHeld ?rest22p
                case hi22p => (simp only [List.getElem?_toArray, List.getElem?_cons_succ, List.getElem?_cons_zero]; rfl)
                case hq22p => exact fun _ _ _ h => h
                case hy22p => (refine Or.inl ⟨by rfl, ?_⟩; intro w hSw; (try dsimp only at hSw); go_simp; all_goals with_reducible rfl)
                try simp only [Act.put, List.setIfInBounds_toArray, List.set_cons_zero, List.set_cons_succ]
                refine wpAnyH_take (i := 23) (oi := ?oi23p) (v := ?v23p) ?hi23p (by kernel_rfl) (by kernel_rfl) (by kernel_rfl) ?hq23p ?hy23p hHeld ?rest23p
                case hi23p => (simp only [List.getElem?_toArray, List.getElem?_cons_succ, List.getElem?_cons_zero]; rfl)
                case hq23p => exact fun _ _ _ h => h
                case hy23p => (refine Or.inl ⟨by rfl, ?_⟩; intro w hSw; (try dsimp only at hSw); go_simp; all_goals with_reducible rfl)
                try simp only [Act.put, List.setIfInBounds_toArray, List.set_cons_zero, List.set_cons_succ]
                refine wpAnyH_take (i := 24) (oi := ?oi24p) (v := ?v24p) ?hi24p (by kernel_rfl) (by kernel_rfl) (by kernel_rfl) ?hq24p ?hy24p hHeld ?rest24p
                case hi24p => (simp only [List.getElem?_toArray, List.getElem?_cons_succ, List.getElem?_cons_zero]; rfl)
                case hq24p => exact fun _ _ _ h => h
                case hy24p => (refine Or.inl ⟨by rfl, ?_⟩; intro w hSw; (try dsimp only at hSw); go_simp; all_goals with_reducible rfl)
                try simp only [Act.put, List.setIfInBounds_toArray, List.set_cons_zero, List.set_cons_succ]
                refine wpAnyH_take (i := 25) (oi := ?oi25p) (v := ?v25p) ?hi25p (by kernel_rfl) (by kernel_rfl) (by kernel_rfl) ?hq25p ?hy25p hHeld ?rest25p
                case hi25p => (simp only [List.getElem?_toArray, List.getElem?_cons_succ, List.getElem?_cons_zero]; rfl)
                case hq25p => exact fun _ _ _ h => h
                case hy25p => (refine Or.inl ⟨by rfl, ?_⟩; intro w hSw; (try dsimp only at hSw); go_simp; all_goals with_reducible rfl)
                try simp only [Act.put, List.setIfInBounds_toArray, List.set_cons_zero, List.set_cons_succ]
                refine wpAnyH_take (i := 26) (oi := ?oi26p) (v := ?v26p) ?hi26p (by kernel_rfl) (by kernel_rfl) (by kernel_rfl) ?hq26p ?hy26p hHeld ?rest26p
                case hi26p => (simp only [List.getElem?_toArray, List.getElem?_cons_succ, List.getElem?_cons_zero]; rfl)
                case hq26p => exact fun _ _ _ h => h
                case hy26p => (refine Or.inl ⟨by rfl, ?_⟩; intro w hSw; (try dsimp only at hSw); go_simp; all_goals with_reducible rfl)
                try simp only [Act.put, List.setIfInBounds_toArray, List.set_cons_zero, List.set_cons_succ]
                refine wpAnyH_take (i := 27) (oi := ?oi27p) (v := ?v27p) ?hi27p (by kernel_rfl) (by kernel_rfl) (by kernel_rfl) ?hq27p ?hy27p hHeld ?rest27p
                case hi27p => (simp only [List.getElem?_toArray, List.getElem?_cons_succ, List.getElem?_cons_zero]; rfl)
                case hq27p => exact fun _ _ _ h => h
                case hy27p => (refine Or.inl ⟨by rfl, ?_⟩; intro w hSw; (try dsimp only at hSw); go_simp; all_goals with_reducible rfl)
                try simp only [Act.put, List.setIfInBounds_toArray, List.set_cons_zero, List.set_cons_succ]
                refine wpAnyH_take (i := 28) (oi := ?oi28p) (v := ?v28p) ?hi28p (by kernel_rfl) (by kernel_rfl) (by kernel_rfl) ?hq28p ?hy28p hHeld ?rest28p
                case hi28p => (simp only [List.getElem?_toArray, List.getElem?_cons_succ, List.getElem?_cons_zero]; rfl)
                case hq28p => exact fun _ _ _ h => h
                case hy28p => (refine Or.inl ⟨by rfl, ?_⟩; intro w hSw; (try dsimp only at hSw); go_simp; all_goals with_reducible rfl)
                try simp only [Act.put, List.setIfInBounds_toArray, List.set_cons_zero, List.set_cons_succ]
                refine wpAnyH_take (i := 29) (oi := ?oi29p) (v := ?v29p) ?hi29p (by kernel_rfl) (by kernel_rfl) (by kernel_rfl) ?hq29p ?hy29p hHeld ?rest29p
                case hi29p => (simp only [List.getElem?_toArray, List.getElem?_cons_succ, List.getElem?_cons_zero]; rfl)
                case hq29p => exact fun _ _ _ h => h
                case hy29p => (refine Or.inl ⟨by rfl, ?_⟩; intro w hSw; (try dsimp only at hSw); go_simp; all_goals with_reducible rfl)
                try simp only [Act.put, List.setIfInBounds_toArray, List.set_cons_zero, List.set_cons_succ]
                refine wpAnyH_take (i := 30) (oi := ?oi30p) (v := ?v30p) ?hi30p (by kernel_rfl) (by kernel_rfl) (by kernel_rfl) ?hq30p ?hy30p hHeld ?rest30p
                case hi30p => (simp only [List.getElem?_toArray, List.getElem?_cons_succ, List.getElem?_cons_zero]; rfl)
                case hq30p => exact fun _ _ _ h => h
                case hy30p => (refine Or.inl ⟨by rfl, ?_⟩; intro w hSw; (try dsimp only at hSw); go_simp; all_goals with_reducible rfl)
                try simp only [Act.put, List.setIfInBounds_toArray, List.set_cons_zero, List.set_cons_succ]
                refine wpAnyH_take (i := 31) (oi := ?oi31p) (v := ?v31p) ?hi31p (by kernel_rfl) (by kernel_rfl) (by kernel_rfl) ?hq31p ?hy31p hHeld ?rest31p
                case hi31p => (simp only [List.getElem?_toArray, List.getElem?_cons_succ, List.getElem?_cons_zero]; rfl)
                case hq31p => exact fun _ _ _ h => h
                case hy31p => (refine Or.inl ⟨by rfl, ?_⟩; intro w hSw; (try dsimp only at hSw); go_simp; all_goals with_reducible rfl)
                try simp only [Act.put, List.setIfInBounds_toArray, List.set_cons_zero, List.set_cons_succ]
                refine wpAnyH_take (i := 32) (oi := ?oi32p) (v := ?v32p) ?hi32p (by kernel_rfl) (by kernel_rfl) (by kernel_rfl) ?hq32p ?hy32p hHeld ?rest32p
                case hi32p => (simp only [List.getElem?_toArray, List.getElem?_cons_succ, List.getElem?_cons_zero]; rfl)
                case hq32p => exact fun _ _ _ h => h
                case hy32p => (refine Or.inl ⟨by rfl, ?_⟩; intro w hSw; (try dsimp only at hSw); go_simp; all_goals with_reducible rfl)
                try simp only [Act.put, List.setIfInBounds_toArray, List.set_cons_zero, List.set_cons_succ]
                refine wpAnyH_take (i := 33) (oi := ?oi33p) (v := ?v33p) ?hi33p (by kernel_rfl) (by kernel_rfl) (by kernel_rfl) ?hq33p ?hy33p hHeld ?rest33p
                case hi33p => (simp only [List.getElem?_toArray, List.getElem?_cons_succ, List.getElem?_cons_zero]; rfl)
                case hq33p => exact fun _ _ _ h => h
                case hy33p => (refine Or.inl ⟨by rfl, ?_⟩; intro w hSw; (try dsimp only at hSw); go_simp; all_goals with_reducible rfl)
                try simp only [Act.put, List.setIfInBounds_toArray, List.set_cons_zero, List.set_cons_succ]
                refine wpAnyH_take (i := 34) (oi := ?oi34p) (v := ?v34p) ?hi34p (by kernel_rfl) (by kernel_rfl) (by kernel_rfl) ?hq34p ?hy34p hHeld ?rest34p
                case hi34p => (simp only [List.getElem?_toArray, List.getElem?_cons_succ, List.getElem?_cons_zero]; rfl)
                case hq34p => exact fun _ _ _ h => h
                case hy34p => (refine Or.inl ⟨by rfl, ?_⟩; intro w hSw; (try dsimp only at hSw); go_simp; all_goals with_reducible rfl)
                try simp only [Act.put, List.setIfInBounds_toArray, List.set_cons_zero, List.set_cons_succ]
                refine wpAnyH_take (i := 35) (oi := ?oi35p) (v := ?v35p) ?hi35p (by kernel_rfl) (by kernel_rfl) (by kernel_rfl) ?hq35p ?hy35p hHeld ?rest35p
                case hi35p => (simp only [List.getElem?_toArray, List.getElem?_cons_succ, List.getElem?_cons_zero]; rfl)
                case hq35p => exact fun _ _ _ h => h
                case hy35p => (refine Or.inl ⟨by rfl, ?_⟩; intro w hSw; (try dsimp only at hSw); go_simp; all_goals with_reducible rfl)
                try simp only [Act.put, List.setIfInBounds_toArray, List.set_cons_zero, List.set_cons_succ]
                refine wpAnyH_take (i := 36) (oi := ?oi36p) (v := ?v36p) ?hi36p (by kernel_rfl) (by kernel_rfl) (by kernel_rfl) ?hq36p ?hy36p hHeld ?rest36p
                case hi36p => (simp only [List.getElem?_toArray, List.getElem?_cons_succ, List.getElem?_cons_zero]; rfl)
                case hq36p => exact fun _ _ _ h => h
                case hy36p => (refine Or.inl ⟨by rfl, ?_⟩; intro w hSw; (try dsimp only at hSw); go_simp; all_goals with_reducible rfl)
                try simp only [Act.put, List.setIfInBounds_toArray, List.set_cons_zero, List.set_cons_succ]
                refine wpAnyH_take (i := 37) (oi := ?oi37p) (v := ?v37p) ?hi37p (by kernel_rfl) (by kernel_rfl) (by kernel_rfl) ?hq37p ?hy37p hHeld ?rest37p
                case hi37p => (simp only [List.getElem?_toArray, List.getElem?_cons_succ, List.getElem?_cons_zero]; rfl)
                case hq37p => exact fun _ _ _ h => h
                case hy37p => (refine Or.inl ⟨by rfl, ?_⟩; intro w hSw; (try dsimp only at hSw); go_simp; all_goals with_reducible rfl)
                try simp only [Act.put, List.setIfInBounds_toArray, List.set_cons_zero, List.set_cons_succ]
                refine wpAnyH_take (i := 38) (oi := ?oi38p) (v := ?v38p) ?hi38p (by kernel_rfl) (by kernel_rfl) (by kernel_rfl) ?hq38p ?hy38p hHeld ?rest38p
                case hi38p => (simp only [List.getElem?_toArray, List.getElem?_cons_succ, List.getElem?_cons_zero]; rfl)
                case hq38p => exact fun _ _ _ h => h
                case hy38p => (refine Or.inl ⟨by rfl, ?_⟩; intro w hSw; (try dsimp only at hSw); go_simp; all_goals with_reducible rfl)
                try simp only [Act.put, List.setIfInBounds_toArray, List.set_cons_zero, List.set_cons_succ]
                refine wpAnyH_take (i := 39) (oi := ?oi39p) (v := ?v39p) ?hi39p (by kernel_rfl) (by kernel_rfl) (by kernel_rfl) ?hq39p ?hy39p hHeld ?rest39p
                case hi39p => (simp only [List.getElem?_toArray, List.getElem?_cons_succ, List.getElem?_cons_zero]; rfl)
                case hq39p => exact fun _ _ _ h => h
                case hy39p => (refine Or.inl ⟨by rfl, ?_⟩; intro w hSw; (try dsimp only at hSw); go_simp; all_goals with_reducible rfl)
                try simp only [Act.put, List.setIfInBounds_toArray, List.set_cons_zero, List.set_cons_succ]
                refine wpAnyH_take (i := 40) (oi := ?oi40p) (v := ?v40p) ?hi40p (by kernel_rfl) (by kernel_rfl) (by kernel_rfl) ?hq40p ?hy40p hHeld ?rest40p
                case hi40p => (simp only [List.getElem?_toArray, List.getElem?_cons_succ, List.getElem?_cons_zero]; rfl)
                case hq40p => exact fun _ _ _ h => h
                case hy40p => (refine Or.inl ⟨by rfl, ?_⟩; intro w hSw; (try dsimp only at hSw); go_simp; all_goals with_reducible rfl)
                try simp only [Act.put, List.setIfInBounds_toArray, List.set_cons_zero, List.set_cons_succ]
                refine wpAnyH_take (i := 41) (oi := ?oi41p) (v := ?v41p) ?hi41p (by kernel_rfl) (by kernel_rfl) (by kernel_rfl) ?hq41p ?hy41p hHeld ?rest41p
                case hi41p => (simp only [List.getElem?_toArray, List.getElem?_cons_succ, List.getElem?_cons_zero]; rfl)
                case hq41p => exact fun _ _ _ h => h
                case hy41p => (refine Or.inl ⟨by rfl, ?_⟩; intro w hSw; (try dsimp only at hSw); go_simp; all_goals with_reducible rfl)
                try simp only [Act.put, List.setIfInBounds_toArray, List.set_cons_zero, List.set_cons_succ]
                refine wpAnyH_take (i := 42) (oi := ?oi42p) (v := ?v42p) ?hi42p (by kernel_rfl) (by kernel_rfl) (by kernel_rfl) ?hq42p ?hy42p hHeld ?rest42p
                case hi42p => (simp only [List.getElem?_toArray, List.getElem?_cons_succ, List.getElem?_cons_zero]; rfl)
                case hq42p => exact fun _ _ _ h => h
                case hy42p => (refine Or.inl ⟨by rfl, ?_⟩; intro w hSw; (try dsimp only at hSw); go_simp; all_goals with_reducible rfl)
                try simp only [Act.put, List.setIfInBounds_toArray, List.set_cons_zero, List.set_cons_succ]
                refine wpAnyH_take (i := 43) (oi := ?oi43p) (v := ?v43p) ?hi43p (by kernel_rfl) (by kernel_rfl) (by kernel_rfl) ?hq43p ?hy43p hHeld ?rest43p
                case hi43p => (simp only [List.getElem?_toArray, List.getElem?_cons_succ, List.getElem?_cons_zero]; rfl)
                case hq43p => exact fun _ _ _ h => h
                case hy43p => (refine Or.inl ⟨by rfl, ?_⟩; intro w hSw; (try dsimp only at hSw); go_simp; all_goals with_reducible rfl)
                try simp only [Act.put, List.setIfInBounds_toArray, List.set_cons_zero, List.set_cons_succ]
                refine wpAnyH_take (i := 44) (oi := ?oi44p) (v := ?v44p) ?hi44p (by kernel_rfl) (by kernel_rfl) (by kernel_rfl) ?hq44p ?hy44p hHeld ?rest44p
                case hi44p => (simp only [List.getElem?_toArray, List.getElem?_cons_succ, List.getElem?_cons_zero]; rfl)
                case hq44p => exact fun _ _ _ h => h
                case hy44p => (refine Or.inl ⟨by rfl, ?_⟩; intro w hSw; (try dsimp only at hSw); go_simp; all_goals with_reducible rfl)
                try simp only [Act.put, List.setIfInBounds_toArray, List.set_cons_zero, List.set_cons_succ]
                refine wpAnyH_take (i := 45) (oi := ?oi45p) (v := ?v45p) ?hi45p (by kernel_rfl) (by kernel_rfl) (by kernel_rfl) ?hq45p ?hy45p hHeld ?rest45p
                case hi45p => (simp only [List.getElem?_toArray, List.getElem?_cons_succ, List.getElem?_cons_zero]; rfl)
                case hq45p => exact fun _ _ _ h => h
                case hy45p => (refine Or.inl ⟨by rfl, ?_⟩; intro w hSw; (try dsimp only at hSw); go_simp; all_goals with_reducible rfl)
                try simp only [Act.put, List.setIfInBounds_toArray, List.set_cons_zero, List.set_cons_succ]
                refine wpAnyH_take (i := 46) (oi := ?oi46p) (v := ?v46p) ?hi46p (by kernel_rfl) (by kernel_rfl) (by kernel_rfl) ?hq46p ?hy46p hHeld ?rest46p
                case hi46p => (simp only [List.getElem?_toArray, List.getElem?_cons_succ, List.getElem?_cons_zero]; rfl)
                case hq46p => exact fun _ _ _ h => h
                case hy46p => (refine Or.inl ⟨by rfl, ?_⟩; intro w hSw; (try dsimp only at hSw); go_simp; all_goals with_reducible rfl)
                try simp only [Act.put, List.setIfInBounds_toArray, List.set_cons_zero, List.set_cons_succ]
                refine wpAnyH_take (i := 47) (oi := ?oi47p) (v := ?v47p) ?hi47p (by kernel_rfl) (by kernel_rfl) (by kernel_rfl) ?hq47p ?hy47p hHeld ?rest47p
                case hi47p => (simp only [List.getElem?_toArray, List.getElem?_cons_succ, List.getElem?_cons_zero]; rfl)
                case hq47p => exact fun _ _ _ h => h
                case hy47p => (refine Or.inl ⟨by rfl, ?_⟩; intro w hSw; (try dsimp only at hSw); go_simp; all_goals with_reducible rfl)
                try simp only [Act.put, List.setIfInBounds_toArray, List.set_cons_zero, List.set_cons_succ]
                refine wpAnyH_take (i := 48) (oi := ?oi48p) (v := undef) ?hi48p (by kernel_rfl) (by kernel_rfl) (by kernel_rfl) ?hq48p ?hy48p hHeld ?rest48p
                case hi48p => (simp only [List.getElem?_toArray, List.getElem?_cons_succ, List.getElem?_cons_zero]; rfl)
                case hq48p => exact fun _ _ _ h => h
                case hy48p => exact Or.inr ⟨by rfl, rfl⟩
                try simp only [Act.put, List.setIfInBounds_toArray, List.set_cons_zero, List.set_cons_succ]
                refine wpAnyH_take (i := 49) (oi := ?oi49p) (v := undef) ?hi49p (by kernel_rfl) (by kernel_rfl) (by kernel_rfl) ?hq49p ?hy49p hHeld ?rest49p
                case hi49p => (simp only [List.getElem?_toArray, List.getElem?_cons_succ, List.getElem?_cons_zero]; rfl)
                case hq49p => exact fun _ _ _ h => h
                case hy49p => exact Or.inr ⟨by rfl, rfl⟩
                try simp only [Act.put, List.setIfInBounds_toArray, List.set_cons_zero, List.set_cons_succ]
                refine wpAnyH_take (i := 50) (oi := ?oi50p) (v := ?v50p) ?hi50p (by kernel_rfl) (by kernel_rfl) (by kernel_rfl) ?hq50p ?hy50p hHeld ?rest50p
                case hi50p => (simp only [List.getElem?_toArray, List.getElem?_cons_succ, List.getElem?_cons_zero]; rfl)
                case hq50p => exact fun _ _ _ h => h
                case hy50p => (refine Or.inl ⟨by rfl, ?_⟩; intro w hSw; (try dsimp only at hSw); go_simp; all_goals with_reducible rfl)
                try simp only [Act.put, List.setIfInBounds_toArray, List.set_cons_zero, List.set_cons_succ]
                refine wpAnyH_take (i := 51) (oi := ?oi51p) (v := ?v51p) ?hi51p (by kernel_rfl) (by kernel_rfl) (by kernel_rfl) ?hq51p ?hy51p hHeld ?rest51p
                case hi51p => (simp only [List.getElem?_toArray, List.getElem?_cons_succ, List.getElem?_cons_zero]; rfl)
                case hq51p => exact fun _ _ _ h => h
                case hy51p => (refine Or.inl ⟨by rfl, ?_⟩; intro w hSw; (try dsimp only at hSw); go_simp; all_goals with_reducible rfl)
                try simp only [Act.put, List.setIfInBounds_toArray, List.set_cons_zero, List.set_cons_succ]
                refine wpAnyH_done (by kernel_rfl) ?_ _
                refine NoPanic.normal ?_
                all_goals (
                  clear KC DC HC2 RW
                  go_wp2_with fail
                  go_roundw
                  case rel => exact ⟨i + 1, by omega, by go_num, HBH.out, IOH.out⟩
                  case measure => simp [intOf]; omega)
        · obtain rfl : i = j := by omega
          have hltI : ¬ (i : Int) < i := by omega
          go_wp2_with fail
          exact hR.out _ _ ⟨rfl, HB4.out.bel⟩
end Go.Proofs.Ytfgphleophghnaa
