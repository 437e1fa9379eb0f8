/- Contracts of package wide (Of, turned, Int, size, Mul) over this seat's program, and small words for the walks. -/
import Derived.Test.YtbkkpbjlicgcfaaRows
import Derived.Test.YtbkkpbjlicgcfaaShelf
import Derived.WalkKit
import Derived.WalkLawsBesides
import Derived.Handy
import Derived.Deep.QuietTactic
import Derived.BigQuiet
import Derived.Laws.Externs
set_option linter.unusedVariables false
set_option linter.unusedSimpArgs false
namespace Go.Proofs.Ytbkkpbjlicgcfaa
open Go.RowKit
theorem hid {p : Prop} (h : p) : Hid p := h
theorem bcell {W w1 : World} (hb : Below W.heap.size W w1) : (∀ b o, b < W.heap.size → w1.cell? ⟨b, o, none⟩ = W.cell? ⟨b, o, none⟩) ∧ (∀ b o, b < W.heap.size → w1.frozen? ⟨b, o, none⟩ = W.frozen? ⟨b, o, none⟩) :=
  ⟨fun b o h => hb.cell (p := ⟨b, o, none⟩) h, fun b o h => hb.frozen (p := ⟨b, o, none⟩) h⟩

theorem cps {P : Program} {f : FuncId} {args : Array Value} {w : World} {Q : Ending → World → Prop} (h : ∀ R : Ending → World → Prop, Hid (∀ e w', Q e w' → R e w') → Calls P f args w R) : Calls P f args w Q := h Q (fun _ _ h => h)
/-- A word of 64 bits; an int. -/
def I64 (x : Int) : Prop := -9223372036854775808 ≤ x ∧ x ≤ 9223372036854775807
def U64 (x : Int) : Prop := 0 ≤ x ∧ x < 18446744073709551616
/-- A wide number's value in memory. -/
def wideV (x : Int) : Value := .agg #[.int .i64 (x / 18446744073709551616), .int .u64 (x % 18446744073709551616)]

theorem add64 (x y c : Int) (hx : 0 ≤ x) (hy : 0 ≤ y) (hc0 : 0 ≤ c) (hc : c ≤ 1) (w : World) : (callFunc 94 #[.int .u64 x, .int .u64 y, .int .u64 c]).run Try.prog w =
    .ok (.value (.tuple #[.int .u64 ((x + y + c) % 18446744073709551616), .int .u64 ((x + y + c) / 18446744073709551616)])) w := by
  rw [run_callFunc_extern Try.func94 (by kernel_rfl) (by kernel_rfl) (by kernel_rfl) (e := add64Entry) (by kernel_rfl), run_add64 x y c (by omega) (by omega) (by omega) (by omega)]
  simp only [Result.andThen]

theorem int_ext {k : IntKind} {a b : Int} (h : a = b) : Value.int k a = Value.int k b := by rw [h]

theorem of_any (n : Int) (hn : I64 n) (w : World) :
    Calls Try.prog 92 #[.int .i64 n] w fun e w' => e = .returned (wideV n) ∧ Below w.heap.size w w' := by
  obtain ⟨h1, h2⟩ := hn
  by_cases h : n < 0
  · have e1 : n / 9223372036854775808 = -1 := by omega
    go_enter Try.func92, Try.ntmps92
    go_wp2
    refine bodyPost_ret (v := .agg #[.int .i64 (-1), .int .u64 (IntKind.u64.wrap n)]) (by simp [results, Try.results92, go_sem]) rfl ⟨?_, (Below.refl _ _).alloc (Nat.le_refl _) _⟩
    have e2 : n / 18446744073709551616 = -1 := by omega
    simp only [wideV, e2, IntKind.wrap_u64]
  · go_enter Try.func92, Try.ntmps92
    go_wp2
    refine bodyPost_ret (v := .agg #[.int .i64 (n / 9223372036854775808), .int .u64 n]) (by simp [results, Try.results92, go_sem]) rfl ⟨?_, (Below.refl _ _).alloc (Nat.le_refl _) _⟩
    have e2 : n / 18446744073709551616 = n / 9223372036854775808 := by omega
    have e3 : n % 18446744073709551616 = n := by omega
    simp only [wideV, e2, e3]


theorem int_raw (h l : Int) (hl : U64 l) (hh : I64 h) (w : World) :
    Calls Try.prog 87 #[.agg #[.int .i64 h, .int .u64 l]] w fun e w' => (∀ x, x = h * 18446744073709551616 + l → (I64 x → e = .returned (.tuple #[.int .i64 x, .bool true])) ∧ (¬ I64 x → e = .returned (.tuple #[.int .i64 0, .bool false]))) ∧ Below w.heap.size w w' := by
  obtain ⟨h1, h2⟩ := hl
  obtain ⟨h3, h4⟩ := hh
  apply cps; intro R hR
  by_cases c : l < 9223372036854775808
  · by_cases c0 : h = 0
    · subst c0
      go_enter Try.func87, Try.ntmps87
      go_wp2
      refine hR.out _ _ ⟨fun x hx => ⟨fun _ => ?_, fun hn => ?_⟩, (Below.refl _ _).alloc (Nat.le_refl _) _⟩
      · simp at hx; subst hx; rfl
      · unfold I64 at hn; omega
    · have d1 : (l / 9223372036854775808 != h) = true := by rw [bne_iff_ne]; omega
      go_enter Try.func87, Try.ntmps87
      go_wp2
      refine hR.out _ _ ⟨fun x hx => ⟨fun hn => ?_, fun _ => rfl⟩, (Below.refl _ _).alloc (Nat.le_refl _) _⟩
      unfold I64 at hn; omega
  · have e1 : wrap64 l = l - 18446744073709551616 := by unfold wrap64; omega
    by_cases c0 : h = -1
    · subst c0
      have d1 : (wrap64 l / 9223372036854775808 != -1) = false := by rw [e1, bne_eq_false_iff_eq]; omega
      have E1 := hid e1; clear e1
      go_enter Try.func87, Try.ntmps87
      go_wp2
      refine hR.out _ _ ⟨fun x hx => ⟨fun _ => ?_, fun hn => ?_⟩, (Below.refl _ _).alloc (Nat.le_refl _) _⟩
      · have e2 : wrap64 l = x := by rw [E1.out]; omega
        rw [← e2]
      · unfold I64 at hn; omega
    · have d1 : (wrap64 l / 9223372036854775808 != h) = true := by rw [e1, bne_iff_ne]; omega
      have E1 := hid e1; clear e1
      go_enter Try.func87, Try.ntmps87
      go_wp2
      refine hR.out _ _ ⟨fun x hx => ⟨fun hn => ?_, fun _ => rfl⟩, (Below.refl _ _).alloc (Nat.le_refl _) _⟩
      unfold I64 at hn; omega
theorem not_u64 (l : Int) (h0 : 0 ≤ l) (h1 : l < 18446744073709551616) : bits .xor .u64 IntKind.u64.max l = 18446744073709551615 - l := by
  have hm : IntKind.u64.max = ((18446744073709551615 : Nat) : Int) := rfl
  obtain ⟨n, rfl⟩ := Int.eq_ofNat_of_zero_le h0
  rw [hm, u64_xor_nat _ _ (by omega) (by omega)]
  have : (18446744073709551615 : Nat) ^^^ n = 18446744073709551615 - n := by
    have e : (18446744073709551615 : Nat) = 2 ^ 64 - 1 := by decide
    apply Nat.eq_of_testBit_eq
    intro i
    have hn : n < 2 ^ 64 := by omega
    rw [show (18446744073709551615 : Nat) - n = 2 ^ 64 - (n + 1) by omega, Nat.testBit_two_pow_sub_succ hn, Nat.testBit_xor, e, Nat.testBit_two_pow_sub_one]
    by_cases hi : i < 64
    · simp [hi]
    · have : n.testBit i = false := Nat.testBit_lt_two_pow (Nat.lt_of_lt_of_le hn (Nat.pow_le_pow_right (by omega) (by omega)))
      simp [hi, this]
  rw [this]; omega

set_option maxRecDepth 10000 in
set_option maxHeartbeats 400000 in
theorem turned_raw (h l : Int) (hl : U64 l) (hh : -9223372036854775807 ≤ h ∧ h ≤ 9223372036854775807) (w : World) :
    Calls Try.prog 95 #[.agg #[.int .i64 h, .int .u64 l]] w fun e w' => e = .returned (wideV (-(h * 18446744073709551616 + l))) ∧ Below w.heap.size w w' := by
  obtain ⟨h1, h2⟩ := hl
  obtain ⟨h3, h4⟩ := hh
  apply cps; intro R hR
  have N1 := not_u64 l h1 h2
  obtain ⟨u, hu0, hu1, hu2, hu⟩ : ∃ u : Int, IntKind.u64.wrap h = u ∧ 0 ≤ u ∧ u < 18446744073709551616 ∧ (u = h ∨ u = h + 18446744073709551616) := by
    refine ⟨_, rfl, ?_⟩; rw [IntKind.wrap_u64]; omega
  have N2 := not_u64 u hu1 hu2
  by_cases c : l = 0
  · subst c
    have A1 := fun w => add64 18446744073709551615 0 1 (by omega) (by omega) (by omega) (by omega) w
    have A2 := fun w => add64 (18446744073709551615 - u) 0 1 (by omega) (by omega) (by omega) (by omega) w
    obtain ⟨s, hs⟩ : ∃ s : Int, s = -h := ⟨_, rfl⟩
    have k1 : (18446744073709551615 + 0 + 1 : Int) % 18446744073709551616 = 0 := by decide
    have k2 : (18446744073709551615 + 0 + 1 : Int) / 18446744073709551616 = 1 := by decide
    have k3 : wrap64 ((18446744073709551615 - u + 0 + 1) % 18446744073709551616) = s := by unfold wrap64; omega
    obtain ⟨y, hy⟩ : ∃ y : Int, y = (18446744073709551615 - u + 0 + 1) % 18446744073709551616 := ⟨_, rfl⟩
    rw [k1, k2] at A1
    rw [← hy] at A2 k3
    have hy0 : 0 ≤ y := by omega
    have HY := hid hy; have HS := hid hs; have HU := hid hu; clear hy hs k1 k2 hu
    simp only [Int.sub_zero] at N1
    go_enter Try.func95, Try.ntmps95
    go_wp2_with (first | simp only [A1] | simp only [A2])
    refine bodyPost_ret (v := .agg #[.int .i64 s, .int .u64 0]) (by simp [results, Try.results95, go_sem]) rfl (hR.out _ _ ⟨?_, ((Below.refl _ _).alloc (Nat.le_refl _) _).alloc (by simp) _⟩)
    have e1 := HS.out
    simp only [wideV]
    refine congrArg Ending.returned (congrArg Value.agg ?_)
    refine congrArg List.toArray ?_
    refine List.cons_eq_cons.2 ⟨int_ext (by omega), List.cons_eq_cons.2 ⟨int_ext (by omega), rfl⟩⟩
  · have A1 := fun w => add64 (18446744073709551615 - l) 0 1 (by omega) (by omega) (by omega) (by omega) w
    have A2 := fun w => add64 (18446744073709551615 - u) 0 0 (by omega) (by omega) (by omega) (by omega) w
    obtain ⟨s, hs⟩ : ∃ s : Int, s = -1 - h := ⟨_, rfl⟩
    obtain ⟨z, hz⟩ : ∃ z : Int, z = 18446744073709551616 - l := ⟨_, rfl⟩
    have k1 : (18446744073709551615 - l + 0 + 1 : Int) % 18446744073709551616 = z := by omega
    have k2 : (18446744073709551615 - l + 0 + 1 : Int) / 18446744073709551616 = 0 := by omega
    have k3 : wrap64 ((18446744073709551615 - u + 0 + 0) % 18446744073709551616) = s := by unfold wrap64; omega
    obtain ⟨y, hy⟩ : ∃ y : Int, y = (18446744073709551615 - u + 0 + 0) % 18446744073709551616 := ⟨_, rfl⟩
    rw [k1, k2] at A1
    rw [← hy] at A2 k3
    have hy0 : 0 ≤ y := by omega
    have HY := hid hy; have HS := hid hs; have HU := hid hu; have HZ := hid hz; clear hy hs k1 k2 hu hz
    go_enter Try.func95, Try.ntmps95
    go_wp2_with (first | simp only [A1] | simp only [A2])
    refine bodyPost_ret (v := .agg #[.int .i64 s, .int .u64 z]) (by simp [results, Try.results95, go_sem]) rfl (hR.out _ _ ⟨?_, ((Below.refl _ _).alloc (Nat.le_refl _) _).alloc (by simp) _⟩)
    have e1 := HS.out
    have e2 := HZ.out
    simp only [wideV]
    refine congrArg Ending.returned (congrArg Value.agg (congrArg List.toArray ?_))
    exact List.cons_eq_cons.2 ⟨int_ext (by omega), List.cons_eq_cons.2 ⟨int_ext (by omega), rfl⟩⟩

theorem _root_.Go.RowKit.Below.drewN {B : Nat} {a w : World} (h : Below B a w) (n : Nat) : Below B a (w.drewN n) := ⟨h.os, h.tape, h.output, h.size, h.block⟩
theorem _root_.Go.RowKit.Below.then {B : Nat} {w w1 w2 : World} (h : Below B w w1) (k : Below w1.heap.size w1 w2) (hB : B ≤ w1.heap.size) : Below B w w2 := h.trans (k.mono hB)
/-- The size of a wide number: its words without a sign. -/
theorem size_raw (h l : Int) (hl : U64 l) (hh : -9223372036854775807 ≤ h ∧ h ≤ 9223372036854775807) (w : World) :
    Calls Try.prog 91 #[.agg #[.int .i64 h, .int .u64 l]] w fun e w' => (∃ a b : Int, e = .returned (.tuple #[.int .u64 a, .int .u64 b]) ∧ U64 a ∧ U64 b ∧ a * 18446744073709551616 + b = (h * 18446744073709551616 + l).natAbs) ∧ Below w.heap.size w w' := by
  obtain ⟨h1, h2⟩ := hl
  obtain ⟨h3, h4⟩ := hh
  apply cps; intro R hR
  by_cases c : h < 0
  · obtain ⟨x, hx⟩ : ∃ x : Int, x = -(h * 18446744073709551616 + l) := ⟨_, rfl⟩
    obtain ⟨x1, hx1⟩ : ∃ x1 : Int, x1 = x / 18446744073709551616 := ⟨_, rfl⟩
    obtain ⟨x0, hx0⟩ : ∃ x0 : Int, x0 = x % 18446744073709551616 := ⟨_, rfl⟩
    have b0 : 0 ≤ x1 := by omega
    have b1 : x1 ≤ 9223372036854775807 := by omega
    have k1 : IntKind.u64.wrap x1 = x1 := by rw [IntKind.wrap_u64]; omega
    have HX := hid hx; have HX1 := hid hx1; have HX0 := hid hx0; clear hx hx1 hx0
    go_enter Try.func91, Try.ntmps91
    go_wp2_with fail
    refine (turned_raw h l ⟨h1, h2⟩ ⟨h3, h4⟩ _).mono ?_
    have ew : wideV (-(h * 18446744073709551616 + l)) = .agg #[.int .i64 x1, .int .u64 x0] := by simp only [wideV, HX1.out, HX0.out, HX.out]
    rw [ew]; clear ew
    rintro e w1 ⟨rfl, hb⟩
    obtain ⟨hc, hf⟩ := bcell hb
    have hz : w.heap.size + 1 ≤ w1.heap.size := by have := hb.size; simp at this; omega
    have Hb := hid hb; clear hb
    have c0 := hc w.heap.size 0 (by simp)
    have c1 := hc w.heap.size 1 (by simp)
    have f0 := hf w.heap.size 0 (by simp)
    have f1 := hf w.heap.size 1 (by simp)
    simp [go_sem] at c0 c1 f0 f1
    clear hc hf
    go_wp2_with fail
    go_quiet (fail)
    go_wp2
    refine hR.out _ _ ⟨⟨x1, x0, rfl, ⟨by omega, by omega⟩, ?_⟩, ?_⟩
    · have e0 := HX0.out; have e1 := HX1.out; have e2 := HX.out; exact ⟨⟨by omega, by omega⟩, by omega⟩
    · exact Below.drewN (((((Below.refl _ _).alloc (Nat.le_refl _) _).then Hb.out (by simp)).setCell (by simp) _).setCell (by simp) _) _
  · have k1 : IntKind.u64.wrap h = h := by rw [IntKind.wrap_u64]; omega
    go_enter Try.func91, Try.ntmps91
    go_wp2_with fail
    go_quiet (fail)
    go_wp2
    exact hR.out _ _ ⟨⟨h, l, rfl, ⟨by omega, by omega⟩, ⟨by omega, by omega⟩, by omega⟩, Below.drewN ((Below.refl _ _).alloc (Nat.le_refl _) _) _⟩

theorem mul_nat (a b : Int) (ha : I64 a) (hb : I64 b) (x y : Nat) (hx : (x : Int) = a ∨ (x : Int) = a + 18446744073709551616) (hxn : 0 ≤ a ↔ (x : Int) = a) (hy : (y : Int) = b ∨ (y : Int) = b + 18446744073709551616) (hyn : 0 ≤ b ↔ (y : Int) = b) :
    ((x * y % 18446744073709551616 : Nat) : Int) = a * b % 18446744073709551616 ∧
    (∃ k : Int, ((x * y / 18446744073709551616 : Nat) : Int) = a * b / 18446744073709551616 + (if a < 0 then (y : Int) else 0) + (if b < 0 then (x : Int) else 0) + 18446744073709551616 * k) := by
  obtain ⟨a1, a2⟩ := ha
  obtain ⟨b1, b2⟩ := hb
  have hp : ((x * y : Nat) : Int) = (x : Int) * (y : Int) := by simp
  rw [Int.natCast_emod, Int.natCast_ediv, hp]
  rcases hx with hx | hx <;> rcases hy with hy | hy
  · rw [if_neg (by omega), if_neg (by omega), hx, hy]
    exact ⟨by simp, 0, by simp⟩
  · rw [if_neg (by omega), if_pos (by omega), hy]
    have e : (x : Int) * (b + 18446744073709551616) = a * b + a * 18446744073709551616 := by rw [hx, Int.mul_add]
    rw [e, hx]
    exact ⟨by simp, 0, by simp; omega⟩
  · rw [if_pos (by omega), if_neg (by omega), hx]
    have e : (a + 18446744073709551616) * (y : Int) = a * b + b * 18446744073709551616 := by rw [hy, Int.add_mul, Int.mul_comm 18446744073709551616]
    rw [e, hy]
    exact ⟨by simp, 0, by simp; omega⟩
  · rw [if_pos (by omega), if_pos (by omega)]
    have e : (x : Int) * (y : Int) = a * b + (b + 18446744073709551616 + a) * 18446744073709551616 := by
      rw [hx, hy, Int.add_mul, Int.mul_add, Int.mul_add, Int.add_mul, Int.add_mul]; omega
    rw [e, hx, hy]
    exact ⟨by simp, -1, by simp; omega⟩

theorem mul_bound (a b : Int) (ha : I64 a) (hb : I64 b) : -85070591730234615865843651857942052864 ≤ a * b ∧ a * b ≤ 85070591730234615865843651857942052864 := by
  obtain ⟨a1, a2⟩ := ha
  obtain ⟨b1, b2⟩ := hb
  have h : (a * b).natAbs ≤ 9223372036854775808 * 9223372036854775808 := by
    rw [Int.natAbs_mul]; exact Nat.mul_le_mul (by omega) (by omega)
  omega

set_option maxHeartbeats 400000 in
theorem mul_any (a b : Int) (ha : I64 a) (hb : I64 b) (w : World) :
    Calls Try.prog 85 #[.int .i64 a, .int .i64 b] w fun e w' => e = .returned (wideV (a * b)) ∧ Below w.heap.size w w' := by
  obtain ⟨x, hx, hxe, hxn, hxw⟩ : ∃ x : Nat, x < 18446744073709551616 ∧ ((x : Int) = a ∨ (x : Int) = a + 18446744073709551616) ∧ (0 ≤ a ↔ (x : Int) = a) ∧ IntKind.u64.wrap a = (x : Int) := by
    obtain ⟨a1, a2⟩ := ha
    refine ⟨(IntKind.u64.wrap a).toNat, ?_⟩; rw [IntKind.wrap_u64]; omega
  obtain ⟨y, hy, hye, hyn, hyw⟩ : ∃ y : Nat, y < 18446744073709551616 ∧ ((y : Int) = b ∨ (y : Int) = b + 18446744073709551616) ∧ (0 ≤ b ↔ (y : Int) = b) ∧ IntKind.u64.wrap b = (y : Int) := by
    obtain ⟨b1, b2⟩ := hb
    refine ⟨(IntKind.u64.wrap b).toNat, ?_⟩; rw [IntKind.wrap_u64]; omega
  obtain ⟨m1, k, m2⟩ := mul_nat a b ha hb x y hxe hxn hye hyn
  have mb := mul_bound a b ha hb
  obtain ⟨p, hp⟩ : ∃ p : Int, p = a * b := ⟨_, rfl⟩
  rw [← hp] at m1 m2 mb ⊢
  obtain ⟨H, hH⟩ : ∃ H : Int, H = ((x * y / 18446744073709551616 : Nat) : Int) := ⟨_, rfl⟩
  obtain ⟨L, hL⟩ : ∃ L : Int, L = ((x * y % 18446744073709551616 : Nat) : Int) := ⟨_, rfl⟩
  have hb0 := Try.bits_Mul64 x y hx hy
  rw [← hH, ← hL] at hb0
  rw [← hH] at m2
  rw [← hL] at m1
  have H0 : 0 ≤ H := by omega
  have H1 : H < 18446744073709551616 := by rw [hH]; have : x * y < 18446744073709551616 * 18446744073709551616 := Nat.mul_lt_mul'' hx hy; omega
  have hb1 := hid hb0; clear hb0
  clear hH hL hp
  obtain ⟨a1, a2⟩ := ha
  obtain ⟨b1, b2⟩ := hb
  apply cps; intro R hR
  have hm1 := hid m1; have hm2 := hid m2; have hxe1 := hid hxe; have hye1 := hid hye; have hxn1 := hid hxn; have hyn1 := hid hyn
  clear m1 m2 hxe hye hxn hyn
  by_cases ca : a < 0 <;> by_cases cb : b < 0
  all_goals
    go_enter Try.func85, Try.ntmps85
    go_wp2_with fail
    refine (hb1.out _).mono ?_
    rintro e w1 ⟨rfl, rfl⟩
    go_wp2_with fail
    go_returns
    refine hR.out _ _ ⟨?_, (Below.refl _ _).alloc (Nat.le_refl _) _⟩
    have m1 := hm1.out; have m2 := hm2.out; have hxe := hxe1.out; have hye := hye1.out; have hxn := hxn1.out; have hyn := hyn1.out
    clear hb1 hR
    simp only [wideV]
    refine congrArg Ending.returned (congrArg Value.agg (congrArg List.toArray ?_))
    refine List.cons_eq_cons.2 ⟨int_ext ?_, List.cons_eq_cons.2 ⟨int_ext (by omega), rfl⟩⟩
    try simp only [IntKind.wrap_u64]
    unfold wrap64
    (try split at m2) <;> (try split at m2) <;> omega

end Go.Proofs.Ytbkkpbjlicgcfaa
