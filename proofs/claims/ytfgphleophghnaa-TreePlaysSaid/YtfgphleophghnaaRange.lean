/- 'for k, v := range m' over a map keyed by int that does not change meanwhile. Plain lemmas over any program. -/
import Derived.Test.YtfgphleophghnaaMap
import Derived.Maps.RangeWalk
set_option linter.unusedVariables false
set_option linter.unusedSimpArgs false
namespace Go.Proofs.Ytfgphleophghnaa
open Go.RowKit Go.MapKept
open Go.ChangeMaps (setBlock)

/-- Block r is a loop over the map of block b; left: the keys that are still to come, cnt of them. -/
def IIter (w : World) (r b : Nat) (M : Int → Option Value) (sz : Nat) (left : Int → Bool) (cnt : Nat) : Prop :=
  ∃ es clock seen, w.heap[b]? = some (.map es clock) ∧ (∀ e ∈ es.toList, IsKey (.int .i64) e.key) ∧ Stamped es clock ∧ es.size = sz ∧
    (∀ k v, M k = some v ↔ ∃ (i : Nat) (e : MapEntry), es[i]? = some e ∧ e.key = .int .i64 k ∧ e.val = v) ∧
    w.heap[r]? = some (.mapIter (some b) clock seen clock) ∧ (leftOf es seen).size = cnt ∧ ∀ x ∈ es.toList, ∀ k, x.key = .int .i64 k → left k = !seen.contains x.born

theorem IIter.left_eq {w : World} {r b : Nat} {M : Int → Option Value} {sz : Nat} {left : Int → Bool} {cnt : Nat} (h : IIter w r b M sz left cnt) : w.rangeLeft b r = cnt := by
  obtain ⟨es, clock, seen, hb, _, _, _, _, hr, hc, _⟩ := h
  simp only [World.rangeLeft, hb, hr]; exact hc
theorem IIter.lt {w : World} {r b : Nat} {M : Int → Option Value} {sz : Nat} {left : Int → Bool} {cnt : Nat} (h : IIter w r b M sz left cnt) : r < w.heap.size ∧ b < w.heap.size ∧ r ≠ b := by
  obtain ⟨es, clock, seen, hb, _, _, _, _, hr, hc, _⟩ := h
  refine ⟨(Array.getElem?_eq_some_iff.1 hr).1, (Array.getElem?_eq_some_iff.1 hb).1, ?_⟩
  rintro rfl; rw [hb] at hr; cases hr
theorem IIter.keep {w w' : World} {r b : Nat} {M : Int → Option Value} {sz : Nat} {left : Int → Bool} {cnt : Nat} (h : IIter w r b M sz left cnt) (h1 : w'.heap[b]? = w.heap[b]?) (h2 : w'.heap[r]? = w.heap[r]?) : IIter w' r b M sz left cnt := by
  obtain ⟨es, clock, seen, hb, k1, k2, k3, k4, hr, rest⟩ := h
  exact ⟨es, clock, seen, h1.trans hb, k1, k2, k3, k4, h2.trans hr, rest⟩
theorem IIter.map {w : World} {r b : Nat} {M : Int → Option Value} {sz : Nat} {left : Int → Bool} {cnt : Nat} (h : IIter w r b M sz left cnt) : IMap w b M sz := by
  obtain ⟨es, clock, seen, hb, k1, k2, k3, k4, _⟩ := h
  exact ⟨es, clock, hb, k1, k2, k3, k4⟩

theorem iter_start {P : Program} {w : World} {b : Nat} {M : Int → Option Value} {sz : Nat} (h : IMap w b M sz) {t kt E : TypeId} (ht : P.underlying t = some (.map kt E)) :
    ∃ w', (Instr.range t (.map (some b))).run P w = .ok (.pointer (some ⟨w.heap.size, 0, none⟩)) w' ∧ IIter w' w.heap.size b M sz (fun _ => true) sz ∧ Below w.heap.size w w' ∧ w'.heap.size = w.heap.size + 1 := by
  have hlt := h.lt
  obtain ⟨es, clock, hb, k1, k2, k3, k4⟩ := h
  refine ⟨_, run_range_map w t kt E b es clock ht hb, ⟨es, clock, #[], ((MapKept.heap_alloc w _).2 b hlt).trans hb, k1, k2, k3, k4, (MapKept.heap_alloc w _).1, ?_, ?_⟩, (Below.refl _ _).alloc (Nat.le_refl _) _, by simp⟩
  · simp [leftOf, ← k3]
  · simp

theorem iter_step {P : Program} {w : World} {r b : Nat} {M : Int → Option Value} {sz : Nat} {left : Int → Bool} {cnt : Nat} (h : IIter w r b M sz left cnt) (ty : TypeId) :
    (cnt = 0 ∧ (∀ k, (M k).isSome → left k = false) ∧ (Instr.next (.pointer (some ⟨r, 0, none⟩)) false ty).run P w = .ok (.tuple #[.bool false]) w) ∨
    ∃ k v w' cnt', M k = some v ∧ left k = true ∧ (Instr.next (.pointer (some ⟨r, 0, none⟩)) false ty).run P w = .ok (.tuple #[.bool true, .int .i64 k, v]) w' ∧ IIter w' r b M sz (fun z => left z && !(z == k)) cnt' ∧ cnt' < cnt ∧
      Kept (· = r) w w' ∧ w'.heap.size = w.heap.size ∧ (Instr.entry (.pointer (some ⟨r, 0, none⟩))).run P w' = .ok (.tuple #[.int .i64 k, v]) w' := by
  have hne := h.lt.2.2
  obtain ⟨es, clock, seen, hb, k1, k2, k3, k4, hr, rfl, hl⟩ := h
  have hst := (stamped_iff es clock).1 k2
  rcases run_next_at (P := P) w ty r b clock clock seen es clock hr hb k2.1 (Nat.le_refl _) with ⟨h0, hrun⟩ | ⟨e, he, w1, hal, hrun⟩
  · refine Or.inl ⟨h0, fun k hk => ?_, hrun⟩
    obtain ⟨v, hv⟩ := Option.isSome_iff_exists.1 hk
    obtain ⟨i, x, hx, hxk, _⟩ := (k4 k v).1 hv
    have hm : x ∈ es.toList := Array.mem_toList_iff.2 (Array.mem_of_getElem? hx)
    rw [hl x hm k hxk, all_seen es seen h0 x hm]; rfl
  · obtain ⟨hem, hes⟩ := Go.mem_left he
    obtain ⟨k, hk⟩ : ∃ k, e.key = .int .i64 k := by
      have := k1 e hem
      cases hkey : e.key with
      | int q x => rw [hkey] at this; simp [IsKey] at this; subst this; exact ⟨x, rfl⟩
      | _ => rw [hkey] at this; simp [IsKey] at this
    obtain ⟨i, hi⟩ := Array.getElem?_of_mem (Array.mem_toList_iff.1 hem)
    have hr1 : w1.heap[r]? = some (.mapIter (some b) clock seen clock) := by rcases hal with rfl | rfl <;> exact hr
    have hb1 : w1.heap[b]? = some (.map es clock) := by rcases hal with rfl | rfl <;> exact hb
    have hset := heap_set (o' := .mapIter (some b) clock (seen.push e.born) clock) hr1
    have hb' : (setBlock w1 r (.mapIter (some b) clock (seen.push e.born) clock)).heap[b]? = some (.map es clock) := (hset.2 b (fun e1 => hne e1.symm)).trans hb1
    refine Or.inr ⟨k, e.val, _, _, (k4 k e.val).2 ⟨i, e, hi, hk, rfl⟩, by rw [hl e hem k hk, hes]; rfl, by rw [← hk]; exact hrun, ⟨es, clock, seen.push e.born, hb', k1, k2, k3, k4, hset.1, rfl, fun x hx k' hk' => ?_⟩, left_shrinks es seen e he, ?_, ?_,
      by rw [← hk]; exact run_entry_at _ r b clock seen es clock e hset.1 hb' hem hst.2.1⟩
    · show (left k' && !(k' == k)) = _
      rw [hl x hx k' hk', contains_push]
      have : (k' == k) = (x.born == e.born) := by
        by_cases hbe : x.born = e.born
        · obtain rfl := born_inj hst.2.1 hx hem hbe
          rw [hk] at hk'; injection hk' with _ h2; subst h2; simp
        · have hkk : k' ≠ k := by
            rintro rfl
            exact hbe (by rw [entry_eq_of_key hst.2.2 hx hem (by rw [hk, hk'])])
          rw [beq_eq_false_iff_ne.2 hbe, beq_eq_false_iff_ne.2 hkk]
      rw [this]
      cases seen.contains x.born <;> cases (x.born == e.born) <;> rfl
    · rcases hal with rfl | rfl <;> exact ⟨rfl, rfl, rfl, by simp [setBlock], fun i _ hi => hset.2 i hi⟩
    · rcases hal with rfl | rfl <;> simp [setBlock]
end Go.Proofs.Ytfgphleophghnaa
