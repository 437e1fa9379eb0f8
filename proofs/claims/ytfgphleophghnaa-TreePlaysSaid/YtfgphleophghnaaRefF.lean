/- Contract of the document's tree: Add that succeeds. -/
import Derived.Test.YtfgphleophghnaaRefE
import Derived.Deep.Cut
import Derived.Deep.DeepCutAuto
set_option linter.unusedVariables false
set_option linter.unusedSimpArgs false
namespace Go.Proofs.Ytfgphleophghnaa
open Go.RowKit Go.MapKept

/-- The rows with a new one. -/
def addR (R : RL) (p q : Nat) (nx : Int) : RL := R.take (placeR R p q).toNat ++ [(nx, dep R p + 1)] ++ R.drop (placeR R p q).toNat

theorem cell_of {w : World} {b : Nat} {cs : Array Value} {E : TypeId} (h : w.heap[b]? = some (.cells cs E (0, 0))) (i : Nat) : w.cell? ⟨b, i, none⟩ = cs[i]? := by simp [World.cell?, h]
theorem frozen_of {w : World} {b : Nat} {cs : Array Value} {E : TypeId} (h : w.heap[b]? = some (.cells cs E (0, 0))) (i : Nat) : w.frozen? ⟨b, i, none⟩ = false := by simp [World.frozen?, h]
theorem two_cells {w : World} {b : Nat} {u v : Value} {E : TypeId} (h : w.heap[b]? = some (.cells #[u, v] E (0, 0))) : w.cell? ⟨b, 0, none⟩ = some u ∧ w.cell? ⟨b, 1, none⟩ = some v ∧ w.frozen? ⟨b, 0, none⟩ = false ∧ w.frozen? ⟨b, 1, none⟩ = false :=
  ⟨cell_of h 0, cell_of h 1, frozen_of h 0, frozen_of h 1⟩
theorem add_with (b o n c k : Nat) (nx dp : Int) (R : RL) (hn : n < 1024) (hk : k ≤ n) (h0 : 0 < n) (w w2 w3 : World) (hs : RowsAt w (some ⟨b, o, none⟩) n c R) (hb3 : Below w.heap.size w w2) (hw3 : Below w2.heap.size w2 w3) :
    Calls Try.prog 40 #[.agg #[.slice (some ⟨b, o, none⟩) n c, .int .i64 nx], .int .i64 k, .slice (some ⟨w3.heap.size, 0, none⟩) 1 1] (w3.alloc (.cells #[.int .i64 nx, .int .i64 (dp + 1)] 83)) fun e w5 =>
      ∃ A5 C5, e = .returned (.agg #[.slice A5 (n + 1) C5, .int .i64 nx]) ∧ Below w.heap.size w w5 ∧ Below w2.heap.size w2 w5 ∧ RowsAt w5 A5 (n + 1) C5 (R.take k ++ [(nx, dp + 1)] ++ R.drop k) := by
  have hx2 := hw3.alloc hw3.size (.cells #[.int .i64 nx, .int .i64 (dp + 1)] 83)
  have hbw3 := hb3.then hx2 hb3.size
  have hnew : RowsAt (w3.alloc (.cells #[.int .i64 nx, .int .i64 (dp + 1)] 83)) (some ⟨w3.heap.size, 0, none⟩) 1 1 [(nx, dp + 1)] := arr_of_own (own_lit w3 w3.heap.size 83 (Nat.le_refl _) #[.int .i64 nx, .int .i64 (dp + 1)] 1 2 rfl (by unfold maxLen; omega))
  refine (with_any b o n c k nx R [(nx, dp + 1)] (some ⟨w3.heap.size, 0, none⟩) 1 1 (by omega) (by omega) hk h0 _ (Arr.below hs hbw3) hnew).mono ?_
  rintro e w5 ⟨A5, C5, rfl, hb6, hrows⟩
  exact ⟨A5, C5, rfl, hbw3.then hb6 hbw3.size, hx2.then hb6 hx2.size, hrows⟩

theorem add_with2 (b o n c k : Nat) (nx dp : Int) (R : RL) (hn : n < 1024) (hk : k ≤ n) (h0 : 0 < n) (w w2 w3 : World) (hs : RowsAt w (some ⟨b, o, none⟩) n c R) (hb3 : Below w.heap.size w w2) (hb4 : Below (w2.alloc (.cells #[.int .i64 nx, .int .i64 (dp + 1)] 83)).drew.heap.size (w2.alloc (.cells #[.int .i64 nx, .int .i64 (dp + 1)] 83)).drew w3) :
    Calls Try.prog 40 #[.agg #[.slice (some ⟨b, o, none⟩) n c, .int .i64 nx], .int .i64 k, .slice (some ⟨w2.heap.size, 0, none⟩) 1 1] w3 fun e w5 =>
      ∃ A5 C5, e = .returned (.agg #[.slice A5 (n + 1) C5, .int .i64 nx]) ∧ Below w.heap.size w w5 ∧ Below w2.heap.size w2 w5 ∧ RowsAt w5 A5 (n + 1) C5 (R.take k ++ [(nx, dp + 1)] ++ R.drop k) := by
  have hx1 := ((Below.refl w2.heap.size w2).alloc (Nat.le_refl _) (.cells #[.int .i64 nx, .int .i64 (dp + 1)] 83)).drew
  have hx2 := hx1.then hb4 hx1.size
  have hbw3 := hb3.then hx2 hb3.size
  have hnew : RowsAt (w2.alloc (.cells #[.int .i64 nx, .int .i64 (dp + 1)] 83)).drew (some ⟨w2.heap.size, 0, none⟩) 1 1 [(nx, dp + 1)] := Arr.below (arr_of_own (own_lit w2 w2.heap.size 83 (Nat.le_refl _) #[.int .i64 nx, .int .i64 (dp + 1)] 1 2 rfl (by unfold maxLen; omega))) (Below.refl _ _).drew
  refine (with_any b o n c k nx R [(nx, dp + 1)] (some ⟨w2.heap.size, 0, none⟩) 1 1 (by omega) (by omega) hk h0 _ (Arr.below hs hbw3) (Arr.below hnew hb4)).mono ?_
  rintro e w5 ⟨A5, C5, rfl, hb6, hrows⟩
  exact ⟨A5, C5, rfl, hbw3.then hb6 hbw3.size, hx2.then hb6 hx2.size, hrows⟩

/-- What the region that puts the row in leaves. -/
structure AddCut (w : World) (n : Nat) (nx : Int) (A5 : Option Addr) (C5 : Nat) (L : RL) (wx : World) : Prop where
  bel : Below w.heap.size w wx
  rows : RowsAt wx A5 (n + 1) C5 L
  h0 : wx.heap[w.heap.size]? = some (.cells #[.slice A5 (n + 1) C5, .int .i64 nx] 28 (0, 0))
  h1 : wx.heap[w.heap.size + 1]? = some (.cells #[.slice none 0 0, .int .i64 0] 28 (0, 0))
theorem AddCut.mk1 {w w5 : World} {n : Nat} {nx : Int} {A5 : Option Addr} {C5 : Nat} {L : RL} {v : Value} (hb : Below w.heap.size w w5) (hr : RowsAt w5 A5 (n + 1) C5 L) (h0 : w5.heap[w.heap.size]? = some (.cells #[v, .int .i64 nx] 28 (0, 0))) (h1 : w5.heap[w.heap.size + 1]? = some (.cells #[.slice none 0 0, .int .i64 0] 28 (0, 0))) :
    AddCut w n nx A5 C5 L ((w5.setCell ⟨w.heap.size, 0, none⟩ (.slice A5 (n + 1) C5)).setCell ⟨w.heap.size, 1, none⟩ (.int .i64 nx)) := by
  have k2 : Kept (fun b => b = w.heap.size) w5 ((w5.setCell ⟨w.heap.size, 0, none⟩ (.slice A5 (n + 1) C5)).setCell ⟨w.heap.size, 1, none⟩ (.int .i64 nx)) := ((Kept.refl (fun b => b = w.heap.size) w5).setCell (p := ⟨w.heap.size, 0, none⟩) (Or.inl rfl) _).setCell (p := ⟨w.heap.size, 1, none⟩) (Or.inl rfl) _
  refine ⟨(hb.setCell (p := ⟨w.heap.size, 0, none⟩) (Nat.le_refl _) _).setCell (p := ⟨w.heap.size, 1, none⟩) (Nat.le_refl _) _, Arr.kept hr k2 (fun b cs fr hh hS => ?_), ?_, ?_⟩
  · subst hS; rw [h0] at hh; cases hh
  · simp [World.setCell, Array.getElem?_modify, h0]
  · simp [World.setCell, Array.getElem?_modify, h1]

set_option maxRecDepth 20000 in
set_option maxHeartbeats 4000000 in
/-- Add that succeeds. -/
theorem radd_any (b o n c p q : Nat) (nx x : Int) (R : RL) (hn : n < 1024) (hp : p < n) (hat : idx (R.map (·.1)) x = p) (hq : q ≤ (kidsR R p).length) (hd : dep R p < 64) (hd0 : 0 ≤ dep R p) (hnx : 0 ≤ nx ∧ nx < 1000000) (hpl : 0 ≤ placeR R p q ∧ placeR R p q ≤ n) (w : World) (hs : RowsAt w (some ⟨b, o, none⟩) n c R) :
    Calls Try.prog 15 #[.agg #[.slice (some ⟨b, o, none⟩) n c, .int .i64 nx], .int .i64 x, .int .i64 q] w fun e w' => ∃ a' c', e = .returned (.tuple #[.agg #[.slice a' (n + 1) c', .int .i64 (nx + 1)], .int .i64 nx, .int .i64 0]) ∧ Below w.heap.size w w' ∧ RowsAt w' a' (n + 1) c' (addR R p q nx) := by
  apply cps; intro R' hR
  have hb1 := ((Below.refl w.heap.size w).alloc (Nat.le_refl _) (.cells #[.slice (some ⟨b, o, none⟩) n c, .int .i64 nx] 28)).alloc (by simp) (.cells #[.slice none 0 0, .int .i64 0] 28)
  have hh0 : ((w.alloc (.cells #[.slice (some ⟨b, o, none⟩) n c, .int .i64 nx] 28)).alloc (.cells #[.slice none 0 0, .int .i64 0] 28)).heap[w.heap.size]? = some (.cells #[.slice (some ⟨b, o, none⟩) n c, .int .i64 nx] 28 (0, 0)) :=
    ((heap_alloc (w.alloc (.cells #[.slice (some ⟨b, o, none⟩) n c, .int .i64 nx] 28)) _).2 _ (by simp)).trans (heap_alloc w _).1
  have hh1 : ((w.alloc (.cells #[.slice (some ⟨b, o, none⟩) n c, .int .i64 nx] 28)).alloc (.cells #[.slice none 0 0, .int .i64 0] 28)).heap[w.heap.size + 1]? = some (.cells #[.slice none 0 0, .int .i64 0] 28 (0, 0)) := by
    have := (heap_alloc (w.alloc (.cells #[.slice (some ⟨b, o, none⟩) n c, .int .i64 nx] 28)) (.cells #[.slice none 0 0, .int .i64 0] 28)).1
    simpa using this
  have C1 := at_any (some ⟨b, o, none⟩) n c nx x R (by omega) _ (hs.below hb1)
  rw [hat] at C1
  have hz0 := hid (show ((w.alloc (.cells #[.slice (some ⟨b, o, none⟩) n c, .int .i64 nx] 28)).alloc (.cells #[.slice none 0 0, .int .i64 0] 28)).heap.size = w.heap.size + 2 from by simp)
  have KK := hid (fun (w' : World) (h : Below w.heap.size w w') => rkids_any (some ⟨b, o, none⟩) n c nx p R (by omega) hp w' (hs.below h))
  have PP := hid (fun (w' : World) (h : Below w.heap.size w w') => place_any (some ⟨b, o, none⟩) n c nx p q R (by omega) hp w' (hs.below h))
  have HS := hid hs
  have hA : addR R p q nx = R.take (placeR R p q).toNat ++ [(nx, dep R p + 1)] ++ R.drop (placeR R p q).toNat := rfl
  rw [hA] at hR
  obtain ⟨k, hk⟩ : ∃ k : Nat, placeR R p q = k := ⟨(placeR R p q).toNat, by omega⟩
  rw [hk] at hR PP hpl
  simp only [Int.toNat_natCast] at hR
  clear hA hk hat hs
  generalize hKl : (kidsR R p).length = K at *
  clear hKl
  replace C1 := hid C1
  replace hb1 := hid hb1
  replace hh0 := hid hh0
  replace hh1 := hid hh1
  go_enter Try.func15, Try.ntmps15
  go_wp2_with fail
  refine C1.out.mono ?_
  rintro e w1 ⟨rfl, hbA⟩
  have hhA := (hbA.block w.heap.size (by have := hz0.out; omega)).trans hh0.out
  have hhB := (hbA.block (w.heap.size + 1) (by have := hz0.out; omega)).trans hh1.out
  have hb2 := hid (hb1.out.trans (hbA.mono (by have := hz0.out; omega)))
  have g0 : w1.cell? ⟨w.heap.size, 0, none⟩ = some (.slice (some ⟨b, o, none⟩) n c) := by simp [World.cell?, hhA]
  have g1 : w1.cell? ⟨w.heap.size, 1, none⟩ = some (.int .i64 nx) := by simp [World.cell?, hhA]
  have hsz1 : w.heap.size + 2 ≤ w1.heap.size := by have := hbA.size; rw [hz0.out] at this; exact this
  have K1 := hid (KK.out w1 hb2.out)
  replace hhA := hid hhA
  replace hhB := hid hhB
  clear C1 hbA hb1 hh0 hh1 hz0 KK
  have hq0 : decide ((q : Int) < 0) = false := by simp
  have hqK : ¬ (K : Int) < q := by omega
  have hqK' : decide ((K : Int) < q) = false := by simp; omega
  go_wp2_with fail
  refine K1.out.mono ?_
  rintro e w2 ⟨hbK, A, C, rfl, _⟩
  have hhA2 := (hbK.block w.heap.size (by omega)).trans hhA.out
  have hhB2 := (hbK.block (w.heap.size + 1) (by omega)).trans hhB.out
  have hb3 := hid (hb2.out.then hbK hb2.out.size)
  have hsz2 := Nat.le_trans hsz1 hbK.size
  have g0 : w2.cell? ⟨w.heap.size, 0, none⟩ = some (.slice (some ⟨b, o, none⟩) n c) := by simp [World.cell?, hhA2]
  have g1 : w2.cell? ⟨w.heap.size, 1, none⟩ = some (.int .i64 nx) := by simp [World.cell?, hhA2]
  obtain ⟨b', o', hab, hbl, hcc⟩ := RowsAt.cellsAt (Arr.below HS.out hb3.out) (by omega)
  cases hab
  have kd := (hcc p hp).2
  change w2.cell? _ = some (.int .i64 (dep R p)) at kd
  replace hhA2 := hid hhA2
  replace hhB2 := hid hhB2
  generalize dep R p = dp at *
  have hdI : ¬ (64 : Int) ≤ dp := by omega
  have hpI : (p : Int) < n := by omega
  have hnI : ¬ (1024 : Int) ≤ n := by omega
  clear K1 hbK hhA hhB hb2 hcc
  go_upto_region 11 with fail
  have hle : w.heap.size ≤ w2.heap.size := by omega
  have hlt0 : w.heap.size < w2.heap.size := by omega
  have hnd : IntKind.i64.wrap (dp + 1) = dp + 1 := by unfold IntKind.wrap; simp [IntKind.bits, IntKind.signed]; omega
  go_cut [] from 11 (fun wx => ∃ A5 C5, AddCut w n nx A5 C5 (R.take k ++ [(nx, dp + 1)] ++ R.drop k) wx)
  case first =>
    go_region_law (first
      | (go_simp; go_at_call 41; refine (PP.out _ (by first | exact hb3.out.drew | exact hb3.out.drew.alloc hle _)).mono ?_; rintro e w3 ⟨rfl, hb4⟩; have hw3 : Hid (Below w2.heap.size w2 w3) := (by first | exact (Below.refl _ _).drew.trans hb4 | exact ((Below.refl w2.heap.size w2).drew.alloc (Nat.le_refl _) _).then hb4 (by simp)); have g0' := (hw3.out.cell (p := ⟨w.heap.size, 0, none⟩) hlt0).trans g0; have g1' := (hw3.out.cell (p := ⟨w.heap.size, 1, none⟩) hlt0).trans g1; have kd' := (hw3.out.cell (p := ⟨b, o + p * 2 + 1, none⟩) hbl).trans kd; have hlt3 : w.heap.size < w3.heap.size := Nat.lt_of_lt_of_le hlt0 hw3.out.size; replace hb4 := hid hb4)
      | (go_simp; go_at_call 40; with_reducible (have hq2 := add_with2 b o n c k nx dp R hn (by omega) (by omega) w w2 w3 HS.out hb3.out hb4.out); refine hq2.mono ?_; clear hq2; rintro e w5 ⟨A5, C5, rfl, hb7, hx2, hrows⟩; have hhA5 := (hx2.block w.heap.size hlt0).trans hhA2.out; have hhB5 := (hx2.block (w.heap.size + 1) (by omega)).trans hhB2.out; obtain ⟨s0, s1, s2, s3⟩ := two_cells hhA5; replace hrows := hid hrows; replace hhA5 := hid hhA5; replace hhB5 := hid hhB5; replace hb7 := hid hb7; clear hx2)
      | (go_simp; go_at_call 40; refine (add_with b o n c k nx dp R hn (by omega) (by omega) w w2 w3 HS.out hb3.out hw3.out).mono ?_; rintro e w5 ⟨A5, C5, rfl, hb7, hx2, hrows⟩; have hhA5 := (hx2.block w.heap.size hlt0).trans hhA2.out; have hhB5 := (hx2.block (w.heap.size + 1) (by omega)).trans hhB2.out; obtain ⟨s0, s1, s2, s3⟩ := two_cells hhA5; replace hrows := hid hrows; replace hhA5 := hid hhA5; replace hhB5 := hid hhB5; replace hb7 := hid hb7; clear hx2))
    all_goals (go_wp2_with fail; go_meet; exact ⟨A5, C5, AddCut.mk1 hb7.out hrows.out hhA5.out hhB5.out⟩)
  case rest =>
    obtain ⟨A5, C5, hc⟩ := hcut
    have hw1 : IntKind.i64.wrap (nx + 1) = nx + 1 := by unfold IntKind.wrap; simp [IntKind.bits, IntKind.signed]; omega
    obtain ⟨s0, s1, s2, s3⟩ := two_cells hc.h0
    obtain ⟨r0, r1, r2, r3⟩ := two_cells hc.h1
    have k3 := ((((Kept.refl (fun b => b = w.heap.size ∨ b = w.heap.size + 1) wc).setCell (p := ⟨w.heap.size, 1, none⟩) (Or.inl (Or.inl rfl)) (.int .i64 (nx + 1))).setCell (p := ⟨w.heap.size + 1, 0, none⟩) (Or.inl (Or.inr rfl)) (.slice A5 (n + 1) C5)).setCell (p := ⟨w.heap.size + 1, 1, none⟩) (Or.inl (Or.inr rfl)) (.int .i64 (nx + 1)))
    have hrr := Arr.kept hc.rows k3 (fun b cs fr hh hS => by
      rcases hS with rfl | rfl
      · rw [hc.h0] at hh; cases hh
      · rw [hc.h1] at hh; cases hh)
    have hbb := hc.bel.trans (k3.toBelow (B := w.heap.size) (fun k hk => by omega) hc.bel.size)
    replace k3 := hid k3
    replace hrr := hid hrr
    replace hbb := hid hbb
    replace hc := hid hc
    clear hhA2 hhB2 g0 g1 kd HS PP hnd hb3
    go_wp2_with fail
    refine bodyPost_ret (v := .tuple #[.agg #[.slice A5 (n + 1) C5, .int .i64 (nx + 1)], .int .i64 nx, .int .i64 0]) (by simp [results, Try.results15, go_sem, World.cell?, World.setCell, Array.getElem?_modify, hc.out.h1]) rfl (hR.out _ _ ⟨A5, C5, rfl, hbb.out, hrr.out⟩)
end Go.Proofs.Ytfgphleophghnaa
