/- A map keyed by int, as a function from numbers to values: look-up, store, delete, len at the operation. Plain lemmas over any program. -/
import Derived.Test.YtfgphleophghnaaMem
import Derived.WideLaws
set_option linter.unusedVariables false
set_option linter.unusedSimpArgs false
namespace Go.Proofs.Ytfgphleophghnaa
open Go.RowKit Go.MapKept

/-- Block b is a map of sz entries that holds M. -/
def IMap (w : World) (b : Nat) (M : Int → Option Value) (sz : Nat) : Prop :=
  ∃ es clock, w.heap[b]? = some (.map es clock) ∧ (∀ e ∈ es.toList, IsKey (.int .i64) e.key) ∧ Stamped es clock ∧ es.size = sz ∧
    ∀ k v, M k = some v ↔ ∃ (i : Nat) (e : MapEntry), es[i]? = some e ∧ e.key = .int .i64 k ∧ e.val = v

theorem IMap.lt {w : World} {b : Nat} {M : Int → Option Value} {sz : Nat} (h : IMap w b M sz) : b < w.heap.size := by
  obtain ⟨es, clock, hb, _⟩ := h
  exact (Array.getElem?_eq_some_iff.1 hb).1
theorem IMap.keep {w w' : World} {b : Nat} {M : Int → Option Value} {sz : Nat} (h : IMap w b M sz) (hk : w'.heap[b]? = w.heap[b]?) : IMap w' b M sz := by
  obtain ⟨es, clock, hb, r⟩ := h
  exact ⟨es, clock, hk.trans hb, r⟩
theorem IMap.below {w w' : World} {b : Nat} {M : Int → Option Value} {sz : Nat} (h : IMap w b M sz) (hb : Below w.heap.size w w') : IMap w' b M sz := h.keep (hb.block b h.lt)
theorem IMap.kept {S : Nat → Prop} {w w' : World} {b : Nat} {M : Int → Option Value} {sz : Nat} (h : IMap w b M sz) (hk : Kept S w w') (hS : ¬ S b) : IMap w' b M sz := h.keep (hk.block b h.lt hS)
theorem IMap.alloc {w : World} {b : Nat} {M : Int → Option Value} {sz : Nat} (h : IMap w b M sz) (o : Obj) : IMap (w.alloc o) b M sz := h.below ((Below.refl _ _).alloc (Nat.le_refl _) o)
theorem IMap.drew {w : World} {b : Nat} {M : Int → Option Value} {sz : Nat} (h : IMap w b M sz) : IMap w.drew b M sz := h
theorem IMap.drewN {w : World} {b : Nat} {M : Int → Option Value} {sz : Nat} (h : IMap w b M sz) (n : Nat) : IMap (w.drewN n) b M sz := h
theorem IMap.made (w : World) : IMap (w.alloc (.map #[] 0)) w.heap.size (fun _ => none) 0 :=
  ⟨#[], 0, (MapKept.heap_alloc w _).1, by simp, stamped_empty 0, rfl, by simp⟩
/-- No block of a map is a row of cells. -/
theorem IMap.ne {w : World} {b g : Nat} {M : Int → Option Value} {sz : Nat} (h : IMap w b M sz) {cs : Array Value} {E : TypeId} {fr : Nat × Nat} (hg : w.heap[g]? = some (.cells cs E fr)) : g ≠ b := by
  rintro rfl
  obtain ⟨es, clock, hb, _⟩ := h
  rw [hb] at hg
  cases hg

theorem key_unique {es : Array MapEntry} {clock : Nat} (h : Stamped es clock) {i j : Nat} {e f : MapEntry} (hi : es[i]? = some e) (hj : es[j]? = some f) (hk : e.key = f.key) : i = j := by
  obtain ⟨_, _, h3⟩ := h
  rw [List.nodup_iff_pairwise_ne] at h3
  have hi' : es.toList[i]? = some e := by simpa using hi
  have hj' : es.toList[j]? = some f := by simpa using hj
  obtain ⟨li, ei⟩ := List.getElem?_eq_some_iff.1 hi'
  obtain ⟨lj, ej⟩ := List.getElem?_eq_some_iff.1 hj'
  rcases Nat.lt_trichotomy i j with h | h | h
  · have := List.pairwise_iff_getElem.1 h3 i j (by simpa using li) (by simpa using lj) h
    simp only [List.getElem_map, ei, ej] at this
    exact absurd hk this
  · exact h
  · have := List.pairwise_iff_getElem.1 h3 j i (by simpa using lj) (by simpa using li) h
    simp only [List.getElem_map, ei, ej] at this
    exact absurd hk.symm this

section
variable {P : Program} {w : World} {b : Nat} {M : Int → Option Value} {sz : Nat}

/-- What the search for a key finds. -/
theorem IMap.find (h : IMap w b M sz) {kt : TypeId} (hk : P.underlying kt = some (.int .i64)) (k : Int) :
    ∃ es clock, w.heap[b]? = some (.map es clock) ∧ (∀ e ∈ es.toList, IsKey (.int .i64) e.key) ∧ Stamped es clock ∧ es.size = sz ∧
      (∀ k v, M k = some v ↔ ∃ (i : Nat) (e : MapEntry), es[i]? = some e ∧ e.key = .int .i64 k ∧ e.val = v) ∧
      ((M k = none ∧ (Instr.findKey kt (.int .i64 k) es.toList).run P w = .ok none w ∧ ∀ x ∈ es.toList, x.key ≠ .int .i64 k) ∨
       ∃ j e, M k = some e.val ∧ (Instr.findKey kt (.int .i64 k) es.toList).run P w = .ok (some (j, e.val)) w ∧ es[j]? = some e ∧ e.key = .int .i64 k) := by
  obtain ⟨es, clock, hb, hkeys, hst, hsz, hM⟩ := h
  refine ⟨es, clock, hb, hkeys, hst, hsz, hM, ?_⟩
  have hkk : IsKey (.int .i64) (.int .i64 k) := rfl
  rcases findNow_spec hkk es.toList 0 hkeys with ⟨h1, h2⟩ | ⟨j, e, h1, h2, h3⟩
  · refine Or.inl ⟨?_, run_findKey hk h1, h2⟩
    cases hm : M k with
    | none => rfl
    | some v =>
      obtain ⟨i, e, hi, hke, _⟩ := (hM k v).1 hm
      exact absurd hke (h2 e (Array.mem_toList_iff.2 (Array.mem_of_getElem? hi)))
  · refine Or.inr ⟨j, e, ?_, run_findKey hk (by simpa using h1), by simpa using h2, h3⟩
    exact (hM k e.val).2 ⟨j, e, by simpa using h2, h3, rfl⟩

theorem IMap.run_lookup (h : IMap w b M sz) {t kt E : TypeId} (ht : P.underlying t = some (.map kt E)) (hk : P.underlying kt = some (.int .i64)) {z : Value} (hz : (zeroValue E).run P w = .ok z w) (k : Int) (ok : Bool) :
    (Instr.lookup t (.map (some b)) (.int .i64 k) ok).run P w = .ok (if ok then .tuple #[(M k).getD z, .bool (M k).isSome] else (M k).getD z) w := by
  obtain ⟨es, clock, hb, hkeys, hst, hsz, hM, hf⟩ := h.find (P := P) hk k
  have hc := run_checkKey (P := P) (w := w) (k := .int .i64 k) hk rfl es.isEmpty 9999
  unfold Instr.lookup
  rcases hf with ⟨h1, h2, _⟩ | ⟨j, e, h1, h2, _, _⟩
  · simp only [Sem.run_bind, run_underlying ht, Result.andThen, MapKept.run_getObj_map (P := P) hb, Sem.run_pure, hc, h2, hz, h1]
    cases ok <;> rfl
  · simp only [Sem.run_bind, run_underlying ht, Result.andThen, MapKept.run_getObj_map (P := P) hb, Sem.run_pure, hc, h2, h1]
    cases ok <;> rfl

theorem IMap.run_update (h : IMap w b M sz) {t kt E : TypeId} (ht : P.underlying t = some (.map kt E)) (hk : P.underlying kt = some (.int .i64)) (k : Int) (v : Value) :
    ∃ w', (Instr.mapUpdate t (.map (some b)) (.int .i64 k) v).run P w = .ok () w' ∧ IMap w' b (fun i => if i = k then some v else M i) (if (M k).isSome then sz else sz + 1) ∧ Kept (· = b) w w' ∧ w'.heap.size = w.heap.size := by
  obtain ⟨es, clock, hb, hkeys, hst, hsz, hM, hf⟩ := h.find (P := P) hk k
  have hlt := (Array.getElem?_eq_some_iff.1 hb).1
  have hc := run_checkKey (P := P) (w := w) (k := .int .i64 k) hk rfl false 9999
  have hkept : ∀ o : Obj, Kept (· = b) w { w with heap := w.heap.setIfInBounds b o } := fun o => ⟨rfl, rfl, rfl, by simp, fun i hi hne => by simp [Ne.symm hne]⟩
  rcases hf with ⟨h1, h2, hno⟩ | ⟨j, e, h1, h2, hj, hke⟩
  · have hrun : (Instr.mapUpdate t (.map (some b)) (.int .i64 k) v).run P w = .ok () { w with heap := w.heap.setIfInBounds b (.map (es.push { key := .int .i64 k, val := v, born := clock }) (clock + 1)) } := by
      unfold Instr.mapUpdate
      simp only [Sem.run_bind, run_underlying ht, Result.andThen, MapKept.run_getObj_map (P := P) hb, hc, h2, MapKept.run_setObj_map (P := P) _ hb]
    refine ⟨_, hrun, ⟨_, _, (heap_set hb).1, ?_, stamped_push hst hno, ?_, ?_⟩, hkept _, by simp⟩
    · intro x hx
      simp only [Array.toList_push, List.mem_append, List.mem_singleton] at hx
      rcases hx with hx | rfl
      · exact hkeys x hx
      · rfl
    · simp [h1, hsz]
    · intro i u
      by_cases hik : i = k
      · subst hik
        simp only [if_true]
        constructor
        · intro hu
          cases hu
          exact ⟨es.size, _, Array.getElem?_push_size, rfl, rfl⟩
        · rintro ⟨i', e', hi', hk', hv'⟩
          rw [Array.getElem?_push] at hi'
          split at hi'
          · cases hi'; exact congrArg some hv'
          · exact absurd hk' (hno e' (Array.mem_toList_iff.2 (Array.mem_of_getElem? hi')))
      · simp only [if_neg hik]
        rw [hM i u]
        constructor
        · rintro ⟨i', e', hi', hk', hv'⟩
          refine ⟨i', e', ?_, hk', hv'⟩
          have := (Array.getElem?_eq_some_iff.1 hi').1
          rw [Array.getElem?_push, if_neg (by omega)]; exact hi'
        · rintro ⟨i', e', hi', hk', hv'⟩
          rw [Array.getElem?_push] at hi'
          split at hi'
          · cases hi'; simp at hk'; exact absurd hk'.symm hik
          · exact ⟨i', e', hi', hk', hv'⟩
  · have hks : (Instr.keyThatStays (((es[j]?).map (·.key)).getD (.int .i64 k)) (.int .i64 k)).run P w = .ok (.int .i64 k) w := by
      rw [hj]; simp only [Option.map_some, Option.getD_some, hke]
      exact run_keyThatStays (k := .int .i64 k) (d := .int .i64) rfl
    have hrun : (Instr.mapUpdate t (.map (some b)) (.int .i64 k) v).run P w = .ok () { w with heap := w.heap.setIfInBounds b (.map (es.modify j fun e => { e with key := .int .i64 k, val := v }) clock) } := by
      unfold Instr.mapUpdate
      simp only [Sem.run_bind, run_underlying ht, Result.andThen, MapKept.run_getObj_map (P := P) hb, hc, h2, hks, MapKept.run_setObj_map (P := P) _ hb]
    refine ⟨_, hrun, ⟨_, _, (heap_set hb).1, ?_, ?_, ?_, ?_⟩, hkept _, by simp⟩
    · exact isKey_modify hkeys j _ (fun e' he' => by rw [hj] at he'; cases he'; exact hke.symm)
    · exact stamped_modify hst j _ (fun _ _ => rfl) (fun e' _ he' => by rw [hj] at he'; cases he'; exact hke.symm)
    · simp [h1, hsz]
    · intro i u
      by_cases hik : i = k
      · subst hik
        simp only [if_true]
        constructor
        · intro hu
          cases hu
          exact ⟨j, _, by rw [Array.getElem?_modify, if_pos rfl, hj]; rfl, rfl, rfl⟩
        · rintro ⟨i', e', hi', hk', hv'⟩
          rw [Array.getElem?_modify] at hi'
          split at hi'
          · rename_i hji; subst hji; rw [hj] at hi'; simp at hi'; rw [← hv', ← hi']
          · rename_i hji
            exact absurd (key_unique hst hj hi' (by rw [hke, hk'])) hji
      · simp only [if_neg hik]
        rw [hM i u]
        constructor
        · rintro ⟨i', e', hi', hk', hv'⟩
          refine ⟨i', e', ?_, hk', hv'⟩
          have hne : ¬ j = i' := by rintro rfl; rw [hj] at hi'; cases hi'; rw [hke] at hk'; simp at hk'; exact hik hk'.symm
          rw [Array.getElem?_modify, if_neg hne]; exact hi'
        · rintro ⟨i', e', hi', hk', hv'⟩
          rw [Array.getElem?_modify] at hi'
          split at hi'
          · rename_i hji; subst hji; rw [hj] at hi'; simp at hi'; rw [← hi'] at hk'; simp at hk'; exact absurd hk'.symm hik
          · exact ⟨i', e', hi', hk', hv'⟩

theorem IMap.run_delete (h : IMap w b M sz) {t kt E ty : TypeId} (ht : P.underlying t = some (.map kt E)) (hk : P.underlying kt = some (.int .i64)) (k : Int) :
    ∃ w', (Builtin.delete_ #[t, kt] ty #[.map (some b), .int .i64 k]).run P w = .ok (.tuple #[]) w' ∧ IMap w' b (fun i => if i = k then none else M i) (if (M k).isSome then sz - 1 else sz) ∧ Kept (· = b) w w' ∧ w'.heap.size = w.heap.size := by
  obtain ⟨es, clock, hb, hkeys, hst, hsz, hM, hf⟩ := h.find (P := P) hk k
  have hlt := (Array.getElem?_eq_some_iff.1 hb).1
  have hc := run_checkKey (P := P) (w := w) (k := .int .i64 k) hk rfl es.isEmpty 9999
  have hkept : ∀ o : Obj, Kept (· = b) w { w with heap := w.heap.setIfInBounds b o } := fun o => ⟨rfl, rfl, rfl, by simp, fun i hi hne => by simp [Ne.symm hne]⟩
  rcases hf with ⟨h1, h2, hno⟩ | ⟨j, e, h1, h2, hj, hke⟩
  · have hrun : (Builtin.delete_ #[t, kt] ty #[.map (some b), .int .i64 k]).run P w = .ok (.tuple #[]) { w with heap := w.heap.setIfInBounds b (.map es clock) } := by
      unfold Builtin.delete_
      simp [Sem.run_bind, run_underlying ht, Result.andThen, MapKept.run_getObj_map (P := P) hb, hc, h2, MapKept.run_setObj_map (P := P) _ hb]
    refine ⟨_, hrun, ⟨_, _, (heap_set hb).1, hkeys, hst, ?_, ?_⟩, hkept _, by simp⟩
    · simp [h1, hsz]
    · intro i u
      by_cases hik : i = k
      · subst hik; simp only [if_true]
        constructor
        · intro h; cases h
        · rintro ⟨i', e', hi', hk', hv'⟩
          exact absurd hk' (hno e' (Array.mem_toList_iff.2 (Array.mem_of_getElem? hi')))
      · simp only [if_neg hik]; exact hM i u
  · have hjlt := (Array.getElem?_eq_some_iff.1 hj).1
    have her : es.eraseIdxIfInBounds j = es.eraseIdx j hjlt := by unfold Array.eraseIdxIfInBounds; rw [dif_pos hjlt]
    have hrun : (Builtin.delete_ #[t, kt] ty #[.map (some b), .int .i64 k]).run P w = .ok (.tuple #[]) { w with heap := w.heap.setIfInBounds b (.map (es.eraseIdxIfInBounds j) clock) } := by
      unfold Builtin.delete_
      simp [Sem.run_bind, run_underlying ht, Result.andThen, MapKept.run_getObj_map (P := P) hb, hc, h2, MapKept.run_setObj_map (P := P) _ hb]
    refine ⟨_, hrun, ⟨_, _, (heap_set hb).1, ?_, stamped_erase hst j, ?_, ?_⟩, hkept _, by simp⟩
    · intro x hx
      rw [her, Array.toList_eraseIdx] at hx
      exact hkeys x (List.mem_of_mem_eraseIdx hx)
    · rw [her]; simp [h1, ← hsz]
    · intro i u
      rw [her]
      by_cases hik : i = k
      · subst hik; simp only [if_true]
        constructor
        · intro h; cases h
        · rintro ⟨i', e', hi', hk', hv'⟩
          rw [Array.getElem?_eraseIdx] at hi'
          split at hi'
          · have := key_unique hst hj hi' (by rw [hke, hk']); omega
          · have := key_unique hst hj hi' (by rw [hke, hk']); omega
      · simp only [if_neg hik]
        rw [hM i u]
        constructor
        · rintro ⟨i', e', hi', hk', hv'⟩
          have hne : j ≠ i' := by rintro rfl; rw [hj] at hi'; cases hi'; rw [hke] at hk'; simp at hk'; exact hik hk'.symm
          rcases Nat.lt_or_gt_of_ne hne with h | h
          · refine ⟨i' - 1, e', ?_, hk', hv'⟩
            rw [Array.getElem?_eraseIdx, if_neg (by omega), show i' - 1 + 1 = i' by omega]; exact hi'
          · refine ⟨i', e', ?_, hk', hv'⟩
            rw [Array.getElem?_eraseIdx, if_pos (by omega)]; exact hi'
        · rintro ⟨i', e', hi', hk', hv'⟩
          rw [Array.getElem?_eraseIdx] at hi'
          split at hi'
          · exact ⟨i', e', hi', hk', hv'⟩
          · exact ⟨_, e', hi', hk', hv'⟩

theorem IMap.run_len (h : IMap w b M sz) {t kt E ty : TypeId} (ht : P.underlying t = some (.map kt E)) : (Builtin.len_ #[t] ty #[.map (some b)]).run P w = .ok (.int .i64 sz) w := by
  obtain ⟨es, clock, hb, _, _, hsz, _⟩ := h
  rw [← hsz]
  simp [Builtin.len_, Sem.run_bind, run_underlying ht, Result.andThen, MapKept.run_getObj_map (P := P) hb, goInt]
end

section
variable {P : Program} (w : World) {ops : Array Oper} {rest : List Oper} {o : Oper} {a : Act} {Q : Exit → Act → World → Prop}
/-- 'm[k]', 'v, ok := m[k]' at the operation. -/
theorem wp_lookup (hg : o.guard = none) (m x : Operand) (t : TypeId) (ok : Bool) (hop : o.op = Op.lookup t m x ok)
    (kt E : TypeId) (ht : P.underlying t = some (.map kt E)) (hk : P.underlying kt = some (.int .i64)) (z : Value) (hz : (zeroValue E).run P w = .ok z w)
    (b : Nat) (M : Int → Option Value) (sz : Nat) (hm : a.eval m = .map (some b)) (hM : IMap w b M sz) (k : Int) (hx : a.eval x = .int .i64 k) (r : Option Value) (hr : M k = r)
    (hK : wpList P ops Q rest (a.put o.dst (if ok then .tuple #[r.getD z, .bool r.isSome] else r.getD z)) w) : wpList P ops Q (o :: rest) a w := by
  refine wpList_plain hg fun K' hK' => ?_
  have hrun := hM.run_lookup (P := P) ht hk hz k ok
  rw [hr] at hrun
  unfold Oper.wp
  simp [execOp, hop, hm, hx, hrun, Result.andThen]
  exact hK' _ _ hK
/-- 'm[k] = v' at the operation. -/
theorem wp_update (hg : o.guard = none) (m x v : Operand) (t : TypeId) (hop : o.op = Op.mapUpdate t m x v)
    (kt E : TypeId) (ht : P.underlying t = some (.map kt E)) (hk : P.underlying kt = some (.int .i64))
    (b : Nat) (M : Int → Option Value) (sz : Nat) (hm : a.eval m = .map (some b)) (hM : IMap w b M sz) (k : Int) (hx : a.eval x = .int .i64 k) (val : Value) (hv : a.eval v = val)
    (hK : ∀ w', IMap w' b (fun i => if i = k then some val else M i) (if (M k).isSome then sz else sz + 1) → Kept (· = b) w w' → w'.heap.size = w.heap.size → wpList P ops Q rest (a.put o.dst undef) w') : wpList P ops Q (o :: rest) a w := by
  refine wpList_plain hg fun K' hK' => ?_
  obtain ⟨w', hrun, r1, r2, r3⟩ := hM.run_update (P := P) ht hk k val
  unfold Oper.wp
  simp [execOp, hop, hm, hx, hv, hrun, Result.andThen]
  exact hK' _ _ (hK w' r1 r2 r3)
/-- A literal's entry 'k: v' at the operation. -/
theorem wp_insert (hg : o.guard = none) (m x v : Operand) (t : TypeId) (hop : o.op = Op.insert t m x v)
    (kt E : TypeId) (ht : P.underlying t = some (.map kt E)) (hk : P.underlying kt = some (.int .i64))
    (b : Nat) (M : Int → Option Value) (sz : Nat) (hm : a.eval m = .map (some b)) (hM : IMap w b M sz) (k : Int) (hx : a.eval x = .int .i64 k) (val : Value) (hv : a.eval v = val)
    (hK : ∀ w', IMap w' b (fun i => if i = k then some val else M i) (if (M k).isSome then sz else sz + 1) → Kept (· = b) w w' → w'.heap.size = w.heap.size → wpList P ops Q rest (a.put o.dst undef) w') : wpList P ops Q (o :: rest) a w := by
  refine wpList_plain hg fun K' hK' => ?_
  obtain ⟨w', hrun, r1, r2, r3⟩ := hM.run_update (P := P) ht hk k val
  unfold Oper.wp
  simp [execOp, hop, hm, hx, hv, hrun, Result.andThen]
  exact hK' _ _ (hK w' r1 r2 r3)
/-- 'delete(m, k)' at the operation. -/
theorem wp_delete (hg : o.guard = none) (m x : Operand) (t kt : TypeId) (hop : o.op = Op.call { callee := Callee.builtin Builtin.delete, args := #[m, x], argTypes := #[t, kt] })
    (E : TypeId) (ht : P.underlying t = some (.map kt E)) (hk : P.underlying kt = some (.int .i64))
    (b : Nat) (M : Int → Option Value) (sz : Nat) (hm : a.eval m = .map (some b)) (hM : IMap w b M sz) (k : Int) (hx : a.eval x = .int .i64 k)
    (hK : ∀ w', IMap w' b (fun i => if i = k then none else M i) (if (M k).isSome then sz - 1 else sz) → Kept (· = b) w w' → w'.heap.size = w.heap.size → wpList P ops Q rest (a.put o.dst (.tuple #[])) w') : wpList P ops Q (o :: rest) a w := by
  refine wpList_plain hg fun K' hK' => ?_
  obtain ⟨w', hrun, r1, r2, r3⟩ := hM.run_delete (P := P) (ty := o.type) ht hk k
  unfold Oper.wp
  simp [execOp, hop, resolve, invoke, builtin, hm, hx, hrun, Result.andThen]
  exact hK' _ _ (hK w' r1 r2 r3)
/-- 'map[..]..{}' at the operation. -/
theorem run_makeMap0 (P : Program) (t : TypeId) (w : World) : (Instr.makeMap t none).run P w = .ok (.map (some w.heap.size)) (w.alloc (.map #[] 0)) := by simp [Instr.makeMap]
end
end Go.Proofs.Ytfgphleophghnaa
