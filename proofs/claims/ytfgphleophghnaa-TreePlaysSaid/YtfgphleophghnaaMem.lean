/- Words on memory that the walks of this seat use: what a call has left alone; a slice that is read; a map keyed by int. Plain lemmas over any program. -/
import Derived.Test.YtfgphleophghnaaRows
import Derived.WalkKit
import Derived.WalkLawsBesides
import Derived.Handy
import Derived.Deep.QuietTactic
import Derived.BigQuiet
import Derived.LoopTactic
import Derived.OwnWalk
import Derived.Maps.AppendAt
import Derived.Maps.OwnOps
import Derived.Maps.OwnSet
import Derived.MapKept
set_option linter.unusedVariables false
set_option linter.unusedSimpArgs false
namespace Go.Proofs.Ytfgphleophghnaa
open Go.RowKit Go.MapKept

/-! ### small words -/
theorem hid {p : Prop} (h : p) : Hid p := h
/-- A contract, its post behind one opaque name while the walk runs. -/
theorem cps {P : Program} {f : FuncId} {args : Array Value} {w : World} {Q : Ending → World → Prop} (h : ∀ R : Ending → World → Prop, Hid (∀ e w', Q e w' → R e w') → Calls P f args w R) : Calls P f args w Q := h Q (fun _ _ h => h)
theorem int_ext {k : IntKind} {a b : Int} (h : a = b) : Value.int k a = Value.int k b := by rw [h]
/-- The callee has a body: it is entered. -/
theorem enters {P : Program} {K : Nat} {fn : Func} (hf : P.funcs[K]? = some fn) (hn : (fn.name == "runtime.NumGoroutine") = false) (hb : fn.body.isNone = false) (args : Array Value) (w : World) :
    (callFunc K args).run P w = .ok (.enter K args) w := by
  simp only [callFunc, Bind.bind, program, Sem.bind, Sem.run, hf, hn, hb]; rfl

/-! ### what a call has left alone -/
/-- All blocks that were there stand, but those of S. -/
structure Kept (S : Nat → Prop) (w w' : World) : Prop where
  os : w'.os = w.os
  tape : w'.tape = w.tape
  output : w'.output = w.output
  size : w.heap.size ≤ w'.heap.size
  block : ∀ k, k < w.heap.size → ¬ S k → w'.heap[k]? = w.heap[k]?
theorem Kept.refl (S : Nat → Prop) (w : World) : Kept S w w := ⟨rfl, rfl, rfl, Nat.le_refl _, fun _ _ _ => rfl⟩
theorem Kept.trans {S : Nat → Prop} {a b c : World} (h : Kept S a b) (k : Kept S b c) : Kept S a c :=
  ⟨k.os.trans h.os, k.tape.trans h.tape, k.output.trans h.output, Nat.le_trans h.size k.size, fun i hi hS => (k.block i (Nat.lt_of_lt_of_le hi h.size) hS).trans (h.block i hi hS)⟩
theorem Kept.mono {S S' : Nat → Prop} {w w' : World} (h : Kept S w w') (hs : ∀ k, k < w.heap.size → S k → S' k) : Kept S' w w' := ⟨h.os, h.tape, h.output, h.size, fun k hk hS => h.block k hk (fun x => hS (hs k hk x))⟩
theorem Kept.below {S : Nat → Prop} {w w' : World} (h : Below w.heap.size w w') : Kept S w w' := ⟨h.os, h.tape, h.output, h.size, fun k hk _ => h.block k hk⟩
/-- Writes to blocks from B on alone. -/
theorem Kept.toBelow {S : Nat → Prop} {B : Nat} {w w' : World} (h : Kept S w w') (hS : ∀ k, S k → B ≤ k) (hB : B ≤ w.heap.size) : Below B w w' :=
  ⟨h.os, h.tape, h.output, h.size, fun k hk => h.block k (by omega) (fun x => by have := hS k x; omega)⟩
theorem Kept.drew {S : Nat → Prop} {a w : World} (h : Kept S a w) : Kept S a w.drew := ⟨h.os, h.tape, h.output, h.size, h.block⟩
theorem Kept.drewN {S : Nat → Prop} {a w : World} (h : Kept S a w) (n : Nat) : Kept S a (w.drewN n) := ⟨h.os, h.tape, h.output, h.size, h.block⟩
theorem Kept.alloc {S : Nat → Prop} {a w : World} (h : Kept S a w) (o : Obj) : Kept S a (w.alloc o) :=
  h.trans (Kept.below ((Below.refl _ _).alloc (Nat.le_refl _) o))
theorem Kept.setCell {S : Nat → Prop} {a w : World} (h : Kept S a w) {p : Addr} (hp : S p.block ∨ a.heap.size ≤ p.block) (u : Value) : Kept S a (w.setCell p u) :=
  ⟨h.os, h.tape, h.output, by simpa [World.setCell] using h.size, fun k hk hS => by
    have : k ≠ p.block := fun e => by subst e; rcases hp with hp | hp <;> first | exact hS hp | omega
    rw [Below.heap_setCell _ _ _ _ this]; exact h.block k hk hS⟩
theorem Kept.grown {S : Nat → Prop} {a w w' : World} {row : Option Nat} (h : Kept S a w) (hg : w.grownBy w' row) (hr : ∀ k, row = some k → S k ∨ a.heap.size ≤ k) : Kept S a w' :=
  ⟨hg.os.trans h.os, hg.tape.trans h.tape, hg.output.trans h.output, Nat.le_trans h.size hg.size, fun k hk hS => by
    have hne : some k ≠ row := fun e => by rcases hr k e.symm with h1 | h1 <;> first | exact hS h1 | omega
    rw [hg.block k (Nat.lt_of_lt_of_le hk h.size) hne]; exact h.block k hk hS⟩
theorem _root_.Go.RowKit.Below.drewN {B : Nat} {a w : World} (h : Below B a w) (n : Nat) : Below B a (w.drewN n) := ⟨h.os, h.tape, h.output, h.size, h.block⟩
theorem _root_.Go.RowKit.Below.then {B : Nat} {w w1 w2 : World} (h : Below B w w1) (k : Below w1.heap.size w1 w2) (hB : B ≤ w1.heap.size) : Below B w w2 := h.trans (k.mono hB)
theorem grown_none {w w1 : World} (h : Below w.heap.size w w1) : w.grownBy w1 none := ⟨h.os, h.tape, h.output, h.size, fun i hi _ => h.block i hi⟩

/-! ### a slice that is read -/
/-- The slice a n c (elements of type E, sz cells each) reads as the cells xs. -/
structure Arr (w : World) (E : TypeId) (sz : Nat) (a : Option Addr) (n c : Nat) (xs : List Value) : Prop where
  len : xs.length = n * sz
  cap : n ≤ c
  nil0 : a = .none → n = 0 ∧ c = 0
  cells : 0 < n → ∃ b o cs fr, a = some ⟨b, o, .none⟩ ∧ w.heap[b]? = some (Obj.cells cs E fr) ∧ ∀ i, i < n * sz → cs[o + i]? = xs[i]?
theorem Arr.keep {w w' : World} {E : TypeId} {sz : Nat} {a : Option Addr} {n c : Nat} {xs : List Value} (h : Arr w E sz a n c xs) (hk : ∀ (b : Nat) cs fr, w.heap[b]? = some (Obj.cells cs E fr) → w'.heap[b]? = some (Obj.cells cs E fr)) : Arr w' E sz a n c xs :=
  ⟨h.len, h.cap, h.nil0, fun h0 => by
    obtain ⟨b, o, cs, fr, ha, hh, hc⟩ := h.cells h0
    exact ⟨b, o, cs, fr, ha, hk b cs fr hh, hc⟩⟩
theorem Arr.below {w w' : World} {E : TypeId} {sz : Nat} {a : Option Addr} {n c : Nat} {xs : List Value} (h : Arr w E sz a n c xs) (hb : Below w.heap.size w w') : Arr w' E sz a n c xs :=
  h.keep fun b cs fr hh => (hb.block b (Array.getElem?_eq_some_iff.1 hh).1).trans hh
/-- It stands while blocks of S alone are written, none of which holds elements of its type. -/
theorem Arr.kept {S : Nat → Prop} {w w' : World} {E : TypeId} {sz : Nat} {a : Option Addr} {n c : Nat} {xs : List Value} (h : Arr w E sz a n c xs) (hk : Kept S w w') (hS : ∀ (b : Nat) cs fr, w.heap[b]? = some (Obj.cells cs E fr) → ¬ S b) : Arr w' E sz a n c xs :=
  h.keep fun b cs fr hh => (hk.block b (Array.getElem?_eq_some_iff.1 hh).1 (hS b cs fr hh)).trans hh
/-- The cell of an element of one cell. -/
theorem Arr.at1 {w : World} {E : TypeId} {a : Option Addr} {n c : Nat} {xs : List Value} (h : Arr w E 1 a n c xs) (h0 : 0 < n) : ∃ b o, a = some ⟨b, o, .none⟩ ∧ b < w.heap.size ∧ ∀ i, i < n → w.cell? ⟨b, o + i, .none⟩ = xs[i]? := by
  obtain ⟨b, o, cs, fr, ha, hh, hc⟩ := h.cells h0
  refine ⟨b, o, ha, (Array.getElem?_eq_some_iff.1 hh).1, fun i hi => ?_⟩
  simp [World.cell?, hh, hc i (by omega)]
/-- Ints in memory. -/
def iv (l : List Int) : List Value := l.map (Value.int .i64)
theorem iv_length (l : List Int) : (iv l).length = l.length := by simp [iv]
theorem iv_get (l : List Int) (i : Nat) (h : i < l.length) : (iv l)[i]? = some (.int .i64 (l.getD i 0)) := by
  simp [iv, List.getD, List.getElem?_eq_getElem h]
theorem iv_append (l m : List Int) : iv (l ++ m) = iv l ++ iv m := by simp [iv]
abbrev Ints (w : World) (E : TypeId) (a : Option Addr) (n c : Nat) (l : List Int) : Prop := Arr w E 1 a n c (iv l)
theorem Ints.atI {w : World} {E : TypeId} {a : Option Addr} {n c : Nat} {l : List Int} (h : Ints w E a n c l) (h0 : 0 < n) : ∃ b o, a = some ⟨b, o, .none⟩ ∧ b < w.heap.size ∧ ∀ i, i < n → w.cell? ⟨b, o + i, .none⟩ = some (.int .i64 (l.getD i 0)) := by
  obtain ⟨b, o, ha, hb, hc⟩ := Arr.at1 h h0
  refine ⟨b, o, ha, hb, fun i hi => ?_⟩
  have hl := h.len
  rw [iv_length] at hl
  rw [hc i hi, iv_get l i (by omega)]

/-! ### what the call owns -/
theorem own_below {w w1 : World} {base : Nat} {e : TypeId} {size : Nat} {v : Value} {n : Nat} {xs : List Value} (h : w.ownsRow base e size v n xs) (hb : Below w.heap.size w w1) : w1.ownsRow base e size v n xs :=
  h.kept (grown_none hb) (by cases hv : v.ownBlock <;> simp)
theorem own_ge {w : World} {base : Nat} {e : TypeId} {size : Nat} {v : Value} {n : Nat} {xs : List Value} (h : w.ownsRow base e size v n xs) : ∀ k, v.ownBlock = some k → base ≤ k := by
  intro k hk
  rcases h.2 with ⟨rfl, _⟩ | ⟨g, cap, cur, rfl, hb, _⟩
  · cases hk
  · simp [Value.ownBlock] at hk; omega
theorem own_lt {w : World} {base : Nat} {e : TypeId} {size : Nat} {v : Value} {n : Nat} {xs : List Value} (h : w.ownsRow base e size v n xs) : ∀ k, v.ownBlock = some k → k < w.heap.size := by
  intro k hk
  rcases h.2 with ⟨rfl, _⟩ | ⟨g, cap, cur, rfl, hb, hh, _⟩
  · cases hk
  · simp [Value.ownBlock] at hk; subst hk; exact (Array.getElem?_eq_some_iff.1 hh).1
theorem own_mono {w : World} {base base' : Nat} {e : TypeId} {size : Nat} {v : Value} {n : Nat} {xs : List Value} (h : w.ownsRow base e size v n xs) (hb : base' ≤ base) : w.ownsRow base' e size v n xs := by
  refine ⟨h.1, ?_⟩
  rcases h.2 with h2 | ⟨g, cap, cur, hv, hg, r⟩
  · exact Or.inl h2
  · exact Or.inr ⟨g, cap, cur, hv, by omega, r⟩
theorem own_shape {w : World} {base : Nat} {e : TypeId} {size : Nat} {v : Value} {n : Nat} {xs : List Value} (h : w.ownsRow base e size v n xs) : ∃ A C, v = .slice A n C := by
  rcases h.2 with ⟨rfl, rfl⟩ | ⟨g, cap, cur, rfl, _⟩
  · exact ⟨_, _, rfl⟩
  · exact ⟨_, _, rfl⟩
theorem own_nil (w : World) (base : Nat) (e : TypeId) (size : Nat) : w.ownsRow base e size (.slice .none 0 0) 0 [] := ⟨by simp, Or.inl ⟨rfl, rfl⟩⟩
/-- A slice literal's row. -/
theorem own_lit (w : World) (base : Nat) (e : TypeId) (hb : base ≤ w.heap.size) (cs : Array Value) (n size : Nat) (hn : cs.size = n * size) (hm : n ≤ maxLen) : (w.alloc (.cells cs e)).ownsRow base e size (.slice (some ⟨w.heap.size, 0, .none⟩) n n) n cs.toList :=
  ⟨by simpa using hn, Or.inr ⟨w.heap.size, n, cs, rfl, hb, (MapKept.heap_alloc w _).1, Nat.le_refl _, hm, hn, by rw [← hn, ← Array.length_toList, List.take_length]⟩⟩
theorem arr_of_own {w : World} {base : Nat} {A : Option Addr} {n C : Nat} {xs : List Value} {e : TypeId} {size : Nat} (h : w.ownsRow base e size (.slice A n C) n xs) : Arr w e size A n C xs := by
  rcases h.2 with ⟨hv, hn⟩ | ⟨g, cap, cur, hv, hg, hh, hc, _, hz, ht⟩
  · simp at hv
    obtain ⟨rfl, rfl, rfl⟩ := hv
    exact ⟨h.1, Nat.le_refl _, fun _ => ⟨rfl, rfl⟩, fun h => by omega⟩
  · simp at hv
    obtain ⟨rfl, rfl⟩ := hv
    refine ⟨h.1, hc, (fun h => by cases h), fun h0 => ⟨g, 0, cur, (0, 0), rfl, hh, fun i hi => ?_⟩⟩
    rw [← ht, List.getElem?_take, if_pos hi]; simp
/-- What is owned and what is read in another block: one stands while the other is written. -/
theorem own_setCell {w : World} {base : Nat} {e : TypeId} {size : Nat} {v : Value} {n : Nat} {xs : List Value} (h : w.ownsRow base e size v n xs) {p : Addr} (hp : v.ownBlock ≠ some p.block) (u : Value) : (w.setCell p u).ownsRow base e size v n xs :=
  ownsRow_setCell_other h hp u

/-- 'append(s, x...)': s owned, x read anywhere (nil too). -/
theorem wp_append_any {P : Program} (w : World) {ops : Array Oper} {rest : List Oper} {o : Oper} {a : Act} {Q : Exit → Act → World → Prop} (hgd : o.guard = none) (s x : Operand) (t : TypeId)
    (ho : o.op = .call { callee := .builtin .append, args := #[s, x], argTypes := #[t, t] })
    (base : Nat) (e : TypeId) (i : TypeInfo) (z : Value) (size bytes : Nat) (ht : P.underlying t = some (.slice e)) (hi : P.info? e = some i) (hz : i.zero = some z)
    (hsize : i.size = size) (hby : i.bytes = bytes) (hzs : z.cells.size = size) (hsz : 0 < size)
    (v : Value) (n : Nat) (xs : List Value) (hs : a.eval s = v) (hown : w.ownsRow base e size v n xs)
    (ao : Option Addr) (m c : Nat) (news : List Value) (hx : a.eval x = .slice ao m c) (hr : Arr w e size ao m c news) (h1 : ∀ u ∈ news, u.oneCell' = true)
    (h63 : n + m ≤ maxLen) (hbytes : (n + m) * bytes ≤ 140737488355328) (hbase : base ≤ w.heap.size)
    (h : ∀ v' w', w'.ownsRow base e size v' (n + m) (xs ++ news) → w.grownBy w' v.ownBlock → (v'.ownBlock = v.ownBlock ∨ v'.ownBlock = some w.heap.size) → wpList P ops Q rest (a.put o.dst v') w') :
    wpList P ops Q (o :: rest) a w := by
  by_cases hm : 0 < m
  · obtain ⟨b, off, cs, fr, rfl, hh, hc⟩ := hr.cells hm
    refine wpList_append_own_at w hgd s x t ho base e i z size bytes ht hi hz hsize hby hzs hsz v n xs hs hown ⟨b, off, .none⟩ m c news hx hr.len ?_ h1 h63 hbytes hbase (fun v' w' h2 h3 _ h5 => h v' w' h2 h3 h5)
    intro j u hj
    have hlt : j < m * size := by rw [← hr.len]; exact (List.getElem?_eq_some_iff.1 hj).1
    rw [Addr.add_lit]
    simp [World.cell?, hh, hc j hlt, hj]
  · obtain rfl : m = 0 := by omega
    have hnews : news = [] := List.eq_nil_of_length_eq_zero (by simpa using hr.len)
    subst hnews
    cases ao with
    | none =>
      have hc0 := (hr.nil0 rfl).2
      subst hc0
      refine wpList_plain hgd fun K hK => ?_
      have hrun := run_append_owned_none (P := P) w base t o.type e i size ht hi _ n xs hown
      unfold Oper.wp
      simp [execOp, ho, resolve, invoke, builtin, hs, hx, hrun, Result.andThen]
      exact hK _ _ (by have := h v w (by simpa using hown) ⟨rfl, rfl, rfl, Nat.le_refl _, fun _ _ _ => rfl⟩ (Or.inl rfl); simpa using this)
    | some ad =>
      exact wpList_append_own_at w hgd s x t ho base e i z size bytes ht hi hz hsize hby hzs hsz v n xs hs hown ad 0 c [] hx (by simp) (by simp) (by simp) h63 hbytes hbase (fun v' w' h2 h3 _ h5 => h v' w' h2 h3 h5)
end Go.Proofs.Ytfgphleophghnaa
