/- The contract of fixed.Try: the deferred closure's two contracts, and Try around a callee that returns or gives up. -/
import Derived.Test.YtbkkpbjlicgcfaaWideB
set_option linter.unusedVariables false
set_option linter.unusedSimpArgs false
namespace Go.Proofs.Ytbkkpbjlicgcfaa
open Go.RowKit
theorem enters {P : Program} {K : Nat} {fn : Func} (hf : P.funcs[K]? = some fn) (hn : (fn.name == "runtime.NumGoroutine") = false) (hb : fn.body.isNone = false) (args : Array Value) (w : World) :
    (callFunc K args).run P w = .ok (.enter K args) w := by
  simp only [callFunc, Bind.bind, program, Sem.bind, Sem.run, hf, hn, hb]; rfl
theorem catch_idle (p : Addr) (w : World) :
    CallsD Try.prog 66 #[.pointer (some p)] .returning w fun e u' w' => e = .returned (.tuple #[]) ∧ u' = .returning ∧ w = w' := by
  refine callsD_of_wpS Try.func66 rfl fun c₀ cs hu => ?_
  simp only [Try.ntmps66, List.size_toArray, List.length_cons, List.length_nil, Nat.reduceAdd, Nat.reduceSub, Array.replicate_succ,
     Array.replicate_zero, List.push_toArray, List.append_toArray, List.nil_append, List.cons_append]
  apply wpS_seq
  apply wpS_region
  simp [wpOpsS, go_sem, recoverD, hu, Exit.thenS]
  refine wpS_of_wp ?_
  have hee : ∀ w, (binOp .eql 20 .nilIface .nilIface).run Try.prog w = .ok (.bool true) w := fun _ => by kernel_rfl
  have h0 : c₀ = { c₀ with mode := .returning } := by cases c₀; simp at hu; subst hu; rfl
  have H0 := hid h0; clear h0
  clear hu
  go_wp2_with fail
  exact ⟨rfl, .returning, congrArg (· :: cs) H0.out, _, results_none rfl _ _ _, rfl, rfl, rfl⟩
theorem catch_gaveup (p : Addr) (x y : Int) (older : List PanicEntry) (w : World) (hc : w.cell? p = some (.int .i64 y)) (hz : w.frozen? p = false) :
    CallsD Try.prog 66 #[.pointer (some p)] (.panicking ({ v := .iface 151 (.int .i64 x), recovered := false } :: older)) w fun e u' w' =>
      e = .returned (.tuple #[]) ∧ u' = .panicking ({ v := .iface 151 (.int .i64 x), recovered := true } :: older) ∧ w' = w.setCell p (.int .i64 x) := by
  refine callsD_of_wpS Try.func66 rfl fun c₀ cs hu => ?_
  simp only [Try.ntmps66, List.size_toArray, List.length_cons, List.length_nil, Nat.reduceAdd, Nat.reduceSub, Array.replicate_succ,
     Array.replicate_zero, List.push_toArray, List.append_toArray, List.nil_append, List.cons_append]
  apply wpS_seq
  apply wpS_region
  simp [wpOpsS, go_sem, recoverD, hu, Exit.thenS]
  refine wpS_of_wp ?_
  have hee : ∀ x w, (binOp .eql 20 (.iface 151 (.int .i64 x)) .nilIface).run Try.prog w = .ok (.bool false) w := fun _ _ => by kernel_rfl
  have hta : ∀ x w, (Instr.typeAssert (.iface 151 (.int .i64 x)) 20 151 true).run Try.prog w = .ok (.tuple #[.int .i64 x, .bool true]) w := fun _ _ => by kernel_rfl
  clear hu
  go_wp2_with fail
  exact ⟨rfl, _, rfl, _, results_none rfl _ _ _, rfl, rfl, rfl⟩

theorem setCell_same {w : World} {a : Addr} {v : Value} (h : w.cell? a = some v) (hs : a.spot = none) : w.setCell a v = w := by
  unfold World.cell? at h
  unfold World.setCell
  split at h
  · rename_i c e f hb
    simp [hs] at h
    obtain ⟨heap, tape, drawn, os, output⟩ := w
    simp only at hb h ⊢
    congr 1
    apply Array.ext_getElem?
    intro i
    rw [Array.getElem?_modify]
    split
    · rename_i hi
      subst hi
      rw [hb]
      simp [hs]
      apply Array.ext_getElem?
      intro j
      rw [Array.getElem?_setIfInBounds]
      split
      · rename_i hj; subst hj
        split
        · exact h.symm
        · rename_i hlt
          rw [Array.getElem?_eq_none (by omega)] at h
          cases h
      · rfl
    · rfl
  · cases h

/-- What f leaves behind when it returns (0) or gives up with x: the error's cell is Try's own. -/
def TryEnd (b : Nat) (Q : Int → World → Prop) (e : Ending) (w' : World) : Prop :=
  w'.cell? ⟨b, 0, none⟩ = some (.int .i64 0) ∧ w'.frozen? ⟨b, 0, none⟩ = false ∧
  ((e = .returned (.tuple #[]) ∧ Q 0 w') ∨ ∃ x : Int, e = .panicked [{ v := .iface 151 (.int .i64 x), recovered := false }] ∧ Q x (w'.setCell ⟨b, 0, none⟩ (.int .i64 x)))

set_option maxRecDepth 10000 in
set_option maxHeartbeats 400000 in
theorem try_any (K : Nat) (caps : Array Value) (w : World) (Q : Int → World → Prop) (hK : ∀ (args : Array Value) (w : World), (callFunc K args).run Try.prog w = .ok (.enter K args) w)
    (h : Calls Try.prog K caps (w.alloc (.cells #[.int .i64 0] 24)) (TryEnd w.heap.size Q)) :
    Calls Try.prog 33 #[.func (.func K) #[] caps] w fun e w' => ∃ x : Int, e = .returned (.int .i64 x) ∧ Q x w' := by
  have H := hid h; clear h
  have hmf : ∀ (fn : Fn) (first cap : Array Value) (w : World), (Instr.makeFunc fn first cap).run Try.prog w = .ok (.func fn first cap) w := fun _ _ _ _ => rfl
  have hne : ∀ (K : Nat) (f caps : Array Value) (w : World), (binOp .eql 1 (.func (.func K) f caps) .nilFunc).run Try.prog w = .ok (.bool false) w := fun _ _ _ _ => by kernel_rfl
  apply cps; intro R hR
  go_enter_defers Try.func33, Try.ntmps33
  go_wp2_with fail
  refine H.out.mono ?_
  rintro e w1 ⟨hc, hz, ⟨rfl, hQ⟩ | ⟨x, rfl, hQ⟩⟩
  · have hs := setCell_same hc rfl
    go_wp2_with fail
    refine leaves_cons (f := 66) (args := #[.pointer (some ⟨w.heap.size, 0, none⟩)]) (by simp) (by simp [go_sem]) ?_
    refine (catch_idle ⟨w.heap.size, 0, none⟩ _).mono ?_
    rintro e u' w'' ⟨rfl, rfl, rfl⟩
    simp [Leaves, settle, results, Try.results33, go_sem, hc]
    exact hR.out _ _ ⟨0, rfl, hQ⟩
  · go_wp2_with fail
    refine leaves_cons (f := 66) (args := #[.pointer (some ⟨w.heap.size, 0, none⟩)]) (by simp) (by simp [go_sem]) ?_
    refine (catch_gaveup ⟨w.heap.size, 0, none⟩ x 0 [] _ hc hz).mono ?_
    rintro e u' w'' ⟨rfl, rfl, rfl⟩
    simp [Leaves, settle, results, Try.results33, go_sem, hc]
    exact hR.out _ _ ⟨x, rfl, hQ⟩

/-- fixed.Fail, asked to give up. -/
theorem fail_up (x : Int) (hx : x ≠ 0) (w : World) : Calls Try.prog 67 #[.int .i64 x] w fun e w' => e = .panicked [{ v := .iface 151 (.int .i64 x), recovered := false }] ∧ w = w' := by
  have k0 : (x != 0) = true := by simpa using hx
  apply cps; intro R hR
  go_enter Try.func67, Try.ntmps67
  go_wp2_with fail
  exact ⟨rfl, hR.out _ _ ⟨rfl, rfl⟩⟩
theorem fail_no (w : World) : Calls Try.prog 67 #[.int .i64 0] w fun e w' => e = .returned (.tuple #[]) ∧ w = w' := by
  apply cps; intro R hR
  go_enter Try.func67, Try.ntmps67
  go_wp2_with fail
  refine bodyPost_end (results_none rfl _ _ _) rfl (hR.out _ _ ⟨rfl, rfl⟩)
/-- fixed.Of. -/
theorem fof_in (n : Int) (h0 : -17592186044416 ≤ n) (h1 : n ≤ 17592186044416) (w : World) : Calls Try.prog 35 #[.int .i64 n] w fun e w' => e = .returned (.int .i64 n) ∧ w = w' := by
  apply cps; intro R hR
  go_enter Try.func35, Try.ntmps35
  go_wp2_with fail
  exact hR.out _ _ ⟨rfl, rfl⟩
theorem fof_out (n : Int) (h0 : n < -17592186044416 ∨ n > 17592186044416) (w : World) : Calls Try.prog 35 #[.int .i64 n] w fun e w' => e = .panicked [{ v := .iface 151 (.int .i64 2), recovered := false }] ∧ w = w' := by
  apply cps; intro R hR
  rcases h0 with h0 | h0
  · go_enter Try.func35, Try.ntmps35
    go_wp2_with fail
    refine (fail_up 2 (by decide) _).mono ?_
    rintro e w' ⟨rfl, rfl⟩
    go_wp2_with fail
    exact ⟨rfl, hR.out _ _ ⟨rfl, rfl⟩⟩
  · go_enter Try.func35, Try.ntmps35
    go_wp2_with fail
    refine (fail_up 2 (by decide) _).mono ?_
    rintro e w' ⟨rfl, rfl⟩
    go_wp2_with fail
    exact ⟨rfl, hR.out _ _ ⟨rfl, rfl⟩⟩

/-- What fixed.Part answers. -/
def PartEnd (q : Int) (w : World) (e : Ending) (w' : World) : Prop :=
  Below w.heap.size w w' ∧ ((-17592186044416 ≤ q ∧ q ≤ 17592186044416) → e = .returned (.int .i64 q)) ∧ (¬ (-17592186044416 ≤ q ∧ q ≤ 17592186044416) → e = .panicked [{ v := .iface 151 (.int .i64 2), recovered := false }])
/-- fixed.Part where the divisor is not nought. -/
theorem part_any (a b c : Int) (ha : I64 a) (hb : I64 b) (hc : I64 c) (c0 : c ≠ 0) (h93 : DivAt (a * b) c) (w : World) :
    Calls Try.prog 68 #[.int .i64 a, .int .i64 b, .int .i64 c] w (PartEnd ((a * b).fdiv c) w) := by
  have M1 := hid (muldiv_any a b c ha hb hc c0 h93)
  generalize (a * b).fdiv c = q at *
  clear h93
  have k0 : (c == 0) = false := by simpa using c0
  apply cps; intro R hR
  go_enter Try.func68, Try.ntmps68
  go_wp2_with fail
  refine (M1.out _).mono ?_
  rintro e w1 ⟨⟨y1, y2⟩, hb1⟩
  have hb2 := hid hb1; clear hb1
  by_cases cq : I64 q
  · obtain rfl := y1 cq
    clear y1 y2
    by_cases c1 : -17592186044416 ≤ q ∧ q ≤ 17592186044416
    · go_wp2_with fail
      refine (fof_in q c1.1 c1.2 _).mono ?_
      rintro e w' ⟨rfl, rfl⟩
      go_wp2_with fail
      exact hR.out _ _ ⟨hb2.out, fun _ => rfl, fun h => absurd c1 h⟩
    · go_wp2_with fail
      refine (fof_out q (by omega) _).mono ?_
      rintro e w' ⟨rfl, rfl⟩
      go_wp2_with fail
      exact ⟨rfl, hR.out _ _ ⟨hb2.out, fun h => absurd h c1, fun _ => rfl⟩⟩
  · obtain rfl := y2 cq
    clear y1 y2
    go_wp2_with fail
    refine (fail_up 2 (by decide) _).mono ?_
    rintro e w' ⟨rfl, rfl⟩
    go_wp2_with fail
    exact ⟨rfl, hR.out _ _ ⟨hb2.out, fun h => absurd ⟨by omega, by omega⟩ cq, fun _ => rfl⟩⟩
end Go.Proofs.Ytbkkpbjlicgcfaa
