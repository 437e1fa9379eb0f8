/- Contracts of the functions of clapboardlaw10: speaks. -/
import Derived.Test.YtfgphleophghnaaLaw10C
set_option linter.unusedVariables false
set_option linter.unusedSimpArgs false
namespace Go.Proofs.Ytfgphleophghnaa
open Go.RowKit Go.MapKept

def M1 : TM := putM newM 1 0 0
def D1 : Int → Nat := fun i => if i = 1 then 0 + 1 else 0
def M2 : TM := putM M1 2 0 0
def D2 : Int → Nat := fun i => if i = 2 then D1 0 + 1 else D1 i
theorem W1 : WF M1 D1 2 2 := WF.add (d := fun _ => 0) WF.new (p := 0) (by simp [newM]) (by decide) 0
theorem W2 : WF M2 D2 3 3 := WF.add W1 (p := 0) (by simp [M1, putM]) (by simp [D1]) 0

set_option maxRecDepth 20000 in
set_option maxHeartbeats 800000 in
/-- speaks. -/
theorem speaks_true (w : World) : Calls Try.prog 6 #[] w fun e w' => e = .returned (.bool true) ∧ Below w.heap.size w w' := by
  apply cps; intro R' hR
  have C0 := hid (new_any w)
  go_enter Try.func6, Try.ntmps6
  go_wp2_with fail
  refine C0.out.mono ?_
  rintro e w1 ⟨bt, bm, rfl, hb1, hbt, hbm, hT1⟩
  have C1 := hid (add_any 0 0 w1 bt bm newM (fun _ => 0) 1 1 WF.new hT1 (by simp [newM]) (Nat.zero_le _) (by omega) (by decide) (by omega))
  clear C0
  go_wp2_with fail
  refine C1.out.mono ?_
  rintro e w2 ⟨rfl, hk2, hT2⟩
  change TreeAt w2 bt bm M1 2 2 at hT2
  have C2 := hid (add_any 0 0 w2 bt bm M1 D1 2 2 W1 hT2 (by simp [M1, putM]) (Nat.zero_le _) (by omega) (by simp [D1]) (by omega))
  have hb2 := hid (hb1.trans (hk2.toBelow (B := w.heap.size) (fun k hk => by omega) hb1.size))
  clear C1 hb1 hk2 hT1
  go_wp2_with fail
  refine C2.out.mono ?_
  rintro e w3 ⟨rfl, hk3, hT3⟩
  change TreeAt w3 bt bm M2 3 3 at hT3
  have C3 := parent_any 2 w3 bt bm M2 3 3 hT3 (by omega) (by simp [M2, putM])
  rw [show parOf M2 2 = 0 from by simp [parOf, M2, putM]] at C3
  have hb3 := hid (hb2.out.trans (hk3.toBelow (B := w.heap.size) (fun k hk => by omega) hb2.out.size))
  replace C3 := hid C3
  replace hT3 := hid hT3
  clear C2 hb2 hk3 hT2
  go_wp2_with fail
  refine C3.out.mono ?_
  rintro e w4 ⟨rfl, hb4⟩
  have hT4 := hid (hT3.out.below hb4)
  have hb5 := hid (hb3.out.then hb4 hb3.out.size)
  have hK : kidsOf M2 0 = [2, 1] := by simp [kidsOf, M2, M1, putM, newM]
  have C4 := kids_any 0 w4 bt bm M2 3 3 hT4.out (by rw [hK]; simp)
  rw [hK] at C4
  replace C4 := hid C4
  clear C3 hT3 hb3 hb4
  go_wp2_with fail
  refine C4.out.mono ?_
  rintro e w5 ⟨hb6, A, C, rfl, hown⟩
  have hba := (Below.refl w5.heap.size w5).alloc (Nat.le_refl _) (.cells #[.int .i64 2, .int .i64 1] 3)
  have I1 := (arr_of_own hown).below hba
  have I2 : Ints (w5.alloc (.cells #[.int .i64 2, .int .i64 1] 3)) 3 (some ⟨w5.heap.size, 0, none⟩) 2 2 [2, 1] := arr_of_own (own_lit w5 w5.heap.size 3 (Nat.le_refl _) #[.int .i64 2, .int .i64 1] 2 1 rfl (by unfold maxLen; omega))
  have C5 := hid (same_true A (some ⟨w5.heap.size, 0, none⟩) 2 C 2 [2, 1] (by omega) _ I1 I2)
  have hT6 := hid ((hT4.out.below hb6).below hba)
  have hb7 := hid ((hb5.out.then hb6 hb5.out.size).then hba (hb5.out.then hb6 hb5.out.size).size)
  clear C4 hb5 hT4 hb6 hba I1 I2 hown
  go_wp2_with fail
  refine C5.out.mono ?_
  rintro e w6 ⟨rfl, hb8⟩
  have hT7 := hid (hT6.out.below hb8)
  have hb9 := hid (hb7.out.then hb8 hb7.out.size)
  have C6 := depth_any bt bm M2 D2 3 3 W2.toWK 1 2 (by simp [D2, D1]) (by simp [M2, putM]) w6 hT7.out
  rw [show D2 2 = 1 from by simp [D2, D1]] at C6
  replace C6 := hid C6
  clear C5 hT6 hb7 hb8
  go_wp2_with fail
  refine C6.out.mono ?_
  rintro e w7 ⟨rfl, hb10⟩
  have hT8 := hid (hT7.out.below hb10)
  have hb11 := hid (hb9.out.then hb10 hb9.out.size)
  have C7 := hid (len_any w7 bt bm M2 3 3 hT8.out)
  clear C6 hT7 hb9 hb10
  go_wp2_with fail
  refine C7.out.mono ?_
  rintro e w8 ⟨rfl, rfl⟩
  clear C7 hT8
  go_wp2_with fail
  exact hR.out _ _ ⟨rfl, hb11.out⟩
end Go.Proofs.Ytfgphleophghnaa
