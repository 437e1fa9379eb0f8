/- TreePlays: for every input the law returns true and leaves its arguments as they were. No condition. -/
import Derived.Test.YtfgphleophghnaaPlays
import Derived.Test.YtfgphleophghnaaLift
import Derived.Deep.Slices
set_option linter.unusedVariables false
set_option linter.unusedSimpArgs false
namespace Go.Proofs.Ytfgphleophghnaa
open Go.ChangeShapes Go.WideShapes Go.ChangeAt Go.RowKit Go.Deep

theorem u_acts : Try.prog.underlying 22 = some (.slice 31) := by kernel_rfl
theorem u_act : (Try.prog.underlying 31).map (fun u => match u with | .struct fs => fs.map (fun f => (f.offset, f.type)) | _ => #[]) = some #[(0, 3), (1, 3), (2, 3), (3, 3)] := by kernel_rfl
theorem c_act : Try.prog.cellsOf 31 = 4 := by kernel_rfl
theorem c_int : Try.prog.cellsOf 3 = 1 := by kernel_rfl

theorem four_of : ∀ (cs : List Value), cs.length = 4 → ∃ v1 v2 v3 v4, cs = [v1, v2, v3, v4]
  | [v1, v2, v3, v4], _ => ⟨v1, v2, v3, v4, rfl⟩
/-- One act, opened. -/
theorem open_act {H : Type} {enc : TypeId × Value → H} {w : World} {base : Nat} {spare : Nat → Bool} {held : Bool} {fuel : Nat} {cs : List Value} {x : DataW H × List MemPlace} (h : DataW.trod enc Try.prog w base spare held fuel 31 cs = some x) (hl : cs.length = 4) :
    ∃ x1 x2 x3 x4 : Int, cs = [.int .i64 x1, .int .i64 x2, .int .i64 x3, .int .i64 x4] := by
  have hu := u_act
  cases hu2 : Try.prog.underlying 31 with
  | none => rw [hu2] at hu; cases hu
  | some u =>
    rw [hu2] at hu
    cases u with
    | struct fs =>
      simp only [Option.map_some, Option.some.injEq] at hu
      obtain ⟨xs, n, _, _, _, hxl, hf⟩ := DataW.trod_struct hu2 h
      have hsz : fs.size = 4 := by have := congrArg Array.size hu; simpa using this
      obtain ⟨v1, v2, v3, v4, rfl⟩ := four_of cs hl
      have each : ∀ (i : Nat) (hi : i < 4) (v : Value), [v1, v2, v3, v4][i]? = some v → ∃ z : Int, v = .int .i64 z := by
        intro i hi v hv
        have hfi : fs[i]? = some fs[i] := Array.getElem?_eq_getElem (by omega)
        have ho := congrArg (fun a => a[i]?) hu
        simp only [Array.getElem?_map, hfi, Option.map_some] at ho
        have ht : (fs[i].offset, fs[i].type) = (i, 3) := by
          rcases (show i = 0 ∨ i = 1 ∨ i = 2 ∨ i = 3 by omega) with rfl | rfl | rfl | rfl <;> simpa using ho
        simp only [Prod.mk.injEq] at ht
        have g := hf i _ hfi
        rw [ht.1, ht.2, c_int] at g
        have hx : xs[i]? = some xs[i] := List.getElem?_eq_getElem (by omega)
        rw [hx] at g
        have hd : ([v1, v2, v3, v4].drop i).take 1 = [v] := by
          rcases (show i = 0 ∨ i = 1 ∨ i = 2 ∨ i = 3 by omega) with rfl | rfl | rfl | rfl <;> simpa using hv
        rw [hd] at g
        obtain ⟨z, hz, _, _⟩ := DataW.trod_int u_int g
        exact ⟨z, by simpa using hz⟩
      obtain ⟨x1, rfl⟩ := each 0 (by omega) v1 rfl
      obtain ⟨x2, rfl⟩ := each 1 (by omega) v2 rfl
      obtain ⟨x3, rfl⟩ := each 2 (by omega) v3 rfl
      obtain ⟨x4, rfl⟩ := each 3 (by omega) v4 rfl
      exact ⟨x1, x2, x3, x4, rfl⟩
    | _ => simp at hu

theorem open_acts {H : Type} {enc : TypeId × Value → H} {W : World} {a : Option Addr} {len cap : Nat} {fuel : Nat} {x : DataW H × List MemPlace} (h : DataW.trod enc Try.prog W 0 (fun _ => true) true fuel 22 [.slice a len cap] = some x) : len ≤ maxLen ∧ ActsAt W a len := by
  rcases open_slice u_acts h with ⟨hc, _⟩ | ⟨ad, l, c, m, n, D, Pl, hc, _, hl, hm, hmm, _, hx⟩
  · simp only [List.cons.injEq, Value.slice.injEq] at hc
    obtain ⟨⟨rfl, rfl, rfl⟩, _⟩ := hc
    exact ⟨Nat.zero_le _, fun i hi => by omega⟩
  · simp only [List.cons.injEq, Value.slice.injEq] at hc
    obtain ⟨⟨rfl, rfl, rfl⟩, _⟩ := hc
    simp only [if_true] at hmm
    subst hmm
    refine ⟨by omega, fun i hi => ?_⟩
    have cell : ∀ i, i < len → ∃ x1 x2 x3 x4 : Int, W.cell? (ad.add (i * 4)) = some (.int .i64 x1) ∧ W.cell? ((ad.add (i * 4)).add 1) = some (.int .i64 x2) ∧ W.cell? ((ad.add (i * 4)).add 2) = some (.int .i64 x3) ∧ W.cell? ((ad.add (i * 4)).add 3) = some (.int .i64 x4) := by
      intro i hi
      obtain ⟨cs', h1, h2⟩ := hx i (by omega)
      rw [c_act] at h1
      obtain ⟨_, hlen, hcell⟩ := World.cells?_some h1
      obtain ⟨x1, x2, x3, x4, rfl⟩ := open_act h2 hlen
      have e0 := hcell 0 (by omega)
      rw [show (ad.add (i * 4)).add 0 = ad.add (i * 4) from by simp [Addr.add]] at e0
      exact ⟨x1, x2, x3, x4, e0, hcell 1 (by omega), hcell 2 (by omega), hcell 3 (by omega)⟩
    obtain ⟨b, o, sp⟩ := ad
    have hsp : sp = none := by
      obtain ⟨x1, _, _, _, e, _⟩ := cell 0 (by omega)
      rw [show (⟨b, o, sp⟩ : Addr).add (0 * 4) = ⟨b, o, sp⟩ from by simp [Addr.add]] at e
      cases sp with
      | none => rfl
      | some s => unfold World.cell? at e; split at e <;> simp at e
    subst hsp
    obtain ⟨x1, x2, x3, x4, e1, e2, e3, e4⟩ := cell i hi
    rw [Addr.add_lit] at e1 e2 e3 e4
    rw [Addr.add_lit] at e2 e3 e4
    refine ⟨b, o, x1, x2, x3, x4, rfl, ?_, e1, e2, e3, e4⟩
    unfold World.cell? at e1
    cases hh : W.heap[b]? with
    | none => rw [hh] at e1; cases e1
    | some _ => exact (Array.getElem?_eq_some_iff.1 hh).1

set_option maxRecDepth 100000 in
theorem treePlays_lifted (os : Os) (started : os.Started) (H : Type) (enc : TypeId × Value → H) :
    ReturnsInHanded {} Try.checked os 3 .any (Rows.treePlaysSpec.pre6 enc Try.prog Try.f3 [] false) (Rows.treePlaysSpec.post enc Try.prog Try.f3 false true false false) := by
  refine law_lift os started H enc (by kernel_rfl) Try.func3 rfl (by kernel_rfl) rfl (by kernel_rfl)
    (ChangeSpec.witness6 (enc := enc) (C := Try.checked) false ⟨#[], #[.slice none 0 0], []⟩ 8 (by kernel_rfl) (by kernel_rfl) (by kernel_rfl) (by kernel_rfl)) ?_
  intro W base args ds p hval hA hsz
  rw [show Try.f3.params = #[22] from by kernel_rfl] at hA hval
  obtain ⟨v0, d0, rfl, rfl, h0⟩ := trodAll_one hA
  obtain ⟨a, len, cap, rfl⟩ := okWide_slice u_acts (hval 0 22 v0 rfl rfl)
  obtain ⟨fuel, hf⟩ := h0
  obtain ⟨h1, h2⟩ := open_acts hf
  exact ⟨rfl, treePlays_walk a len cap h1 W h2⟩

theorem treePlays_holds : Rows.TreePlaysSaid :=
  OpenClaim.holds_of_wide 3 Try.f3 rfl rfl rfl rfl rfl rfl rfl ⟨rfl, rfl, rfl, rfl, rfl⟩ rfl rfl rfl rfl rfl (by kernel_rfl) Try.func3 (by kernel_rfl)
    (of_decide_eq_true (by kernel_rfl)) (by unfold Func.isWrapper; first | (rw [if_pos (by decide +kernel)]; kernel_rfl) | (rw [if_neg (by decide +kernel)]; exact ⟨rfl, rfl⟩))
    (fun os started H enc _ => treePlays_lifted os started H enc)
#print axioms treePlays_holds
end Go.Proofs.Ytfgphleophghnaa
