/- Contracts of wide.Div and wide.MulDiv over this seat's program, given what bits.Div64 answers. -/
import Derived.Test.YtbkkpbjlicgcfaaWideA
set_option linter.unusedVariables false
set_option linter.unusedSimpArgs false
namespace Go.Proofs.Ytbkkpbjlicgcfaa
open Go.RowKit
/-- bits.Div64 where the high word is nought. -/
theorem div64_low (lo y : Int) (hl : U64 lo) (hy : 0 < y ∧ y < 18446744073709551616) (w : World) :
    Calls Try.prog 93 #[.int .u64 0, .int .u64 lo, .int .u64 y] w fun e w' => e = .returned (.tuple #[.int .u64 (lo / y), .int .u64 (lo % y)]) ∧ Below w.heap.size w w' := by
  obtain ⟨l1, l2⟩ := hl
  obtain ⟨y1, y2⟩ := hy
  apply cps; intro R hR
  have k0 : (y == 0) = false := by simp; omega
  have k1 : ¬ y ≤ 0 := by omega
  have k2 : ¬ y = 0 := by omega
  go_enter Try.func93, Try.ntmps93
  go_wp2_with fail
  go_quiet (fail)
  go_wp2
  exact hR.out _ _ ⟨rfl, (Below.refl _ _).drewN _⟩

/-- Division rounded down, out of the sizes. -/
theorem fd_pos (x d q m : Int) (hd : 0 < d) (h : x = q * d + m) (h0 : 0 ≤ m) (h1 : m < d) : x.fdiv d = q ∧ x.fmod d = m := by
  have hu := (Int.ediv_emod_unique (a := x) (b := d) (r := m) (q := q) hd).2 ⟨by rw [h, Int.mul_comm]; omega, h0, h1⟩
  rw [Int.fdiv_eq_ediv_of_nonneg _ (by omega), Int.fmod_eq_emod_of_nonneg _ (by omega)]
  exact hu
theorem fd_neg (x d q m : Int) (hd : d < 0) (h : x = q * d + m) (h0 : m ≤ 0) (h1 : d < m) : x.fdiv d = q ∧ x.fmod d = m := by
  have h2 := fd_pos (-x) (-d) q (-m) (by omega) (by rw [h, Int.mul_neg]; omega) (by omega) (by omega)
  have e1 : x.fdiv d = q := by rw [← h2.1, Int.neg_fdiv_neg]
  refine ⟨e1, ?_⟩
  rw [Int.fmod_def, e1, h, Int.mul_comm d q]; omega
theorem size_split (a b D X : Int) (h : a * 18446744073709551616 + b = X) :
    X = (a / D * 18446744073709551616 + (a % D * 18446744073709551616 + b) / D) * D + (a % D * 18446744073709551616 + b) % D := by
  have e1 := Int.mul_ediv_add_emod a D
  have e2 := Int.mul_ediv_add_emod (a % D * 18446744073709551616 + b) D
  rw [Int.add_mul]
  have e3 : a / D * 18446744073709551616 * D = D * (a / D) * 18446744073709551616 := by
    rw [Int.mul_comm D, Int.mul_assoc, Int.mul_assoc, Int.mul_comm D]
  rw [e3, Int.mul_comm ((a % D * 18446744073709551616 + b) / D) D]
  omega
theorem wideV_of (q h l : Int) (hq : q = h * 18446744073709551616 + l) (h0 : 0 ≤ l) (h1 : l < 18446744073709551616) : wideV q = .agg #[.int .i64 h, .int .u64 l] := by
  simp only [wideV]
  refine congrArg Value.agg (congrArg List.toArray ?_)
  exact List.cons_eq_cons.2 ⟨int_ext (by omega), List.cons_eq_cons.2 ⟨int_ext (by omega), rfl⟩⟩

/-- What a call of bits.Div64 must answer. -/
def DivAt (x d : Int) : Prop := ∀ a b D : Int, a * 18446744073709551616 + b = x.natAbs → U64 a → U64 b → D = d.natAbs → ∀ w, Calls Try.prog 93 #[.int .u64 (a % D), .int .u64 b, .int .u64 D] w fun e w' =>
  e = .returned (.tuple #[.int .u64 ((a % D * 18446744073709551616 + b) / D), .int .u64 ((a % D * 18446744073709551616 + b) % D)]) ∧ Below w.heap.size w w'

set_option maxRecDepth 10000 in
set_option maxHeartbeats 1600000 in
theorem div_any (x d : Int) (hx : -85070591730234615865843651857942052864 ≤ x ∧ x ≤ 85070591730234615865843651857942052864) (hd : I64 d) (hd0 : d ≠ 0) (h93 : DivAt x d) (w : World) :
    Calls Try.prog 86 #[wideV x, .int .i64 d] w fun e w' => e = .returned (.tuple #[wideV (x.fdiv d), .int .i64 (x.fmod d), .bool true]) ∧ Below w.heap.size w w' := by
  obtain ⟨x1, x2⟩ := hx
  obtain ⟨d1, d2⟩ := hd
  apply cps; intro R hR
  have H93 := hid h93; clear h93
  obtain ⟨h, hh⟩ : ∃ h : Int, h = x / 18446744073709551616 := ⟨_, rfl⟩
  obtain ⟨l, hl⟩ : ∃ l : Int, l = x % 18446744073709551616 := ⟨_, rfl⟩
  have bl : U64 l := ⟨by omega, by omega⟩
  have bh : -9223372036854775807 ≤ h ∧ h ≤ 9223372036854775807 := ⟨by omega, by omega⟩
  have S1 := size_raw h l bl bh
  have S2 := of_any d ⟨d1, d2⟩
  have k0 : (d == 0) = false := by simpa using hd0
  have hwx : wideV x = .agg #[.int .i64 h, .int .u64 l] := by rw [hh, hl]; rfl
  rw [hwx]
  clear hwx
  have HH := hid hh; have HL := hid hl; clear hh hl
  have s1 := hid S1; have s2 := hid S2; clear S1 S2
  obtain ⟨bl1, bl2⟩ := bl
  obtain ⟨bh1, bh2⟩ := bh
  go_enter Try.func86, Try.ntmps86
  go_wp2_with fail
  refine (s1.out _).mono ?_
  rintro e w1 ⟨⟨a, b, rfl, ⟨a0, a1⟩, ⟨b0, b1⟩, hab⟩, hb1⟩
  have hz1 : w.heap.size + 2 ≤ w1.heap.size := by have := hb1.size; simp at this; omega
  have HAB := hid hab; clear hab
  have HB1 := hid hb1; clear hb1
  go_wp2_with fail
  refine (s2.out _).mono ?_
  rintro e w2 ⟨rfl, hb2⟩
  have hz2 : w.heap.size + 2 ≤ w2.heap.size := by have := hb2.size; omega
  have HB2 := hid hb2; clear hb2
  go_wp2_with fail
  refine (size_raw (d / 18446744073709551616) (d % 18446744073709551616) ⟨by omega, by omega⟩ ⟨by omega, by omega⟩ _).mono ?_
  rintro e w3 ⟨⟨a', D, rfl, ⟨a0', a1'⟩, ⟨D0, D1⟩, hD⟩, hb3⟩
  have hz3 : w.heap.size + 2 ≤ w3.heap.size := by have := hb3.size; omega
  have HB3 := hid hb3; clear hb3
  have hDa : D = d.natAbs := by omega
  have HDA := hid hDa
  have D2 : 0 < D := by omega
  have D3 : ¬ D = 0 := by omega
  have D4 : D ≤ 9223372036854775808 := by omega
  have HA' := hid (show a' = 0 by omega)
  clear hD hDa
  have C93 := H93.out a b D (by have := HAB.out; have := HH.out; have := HL.out; omega) ⟨a0, a1⟩ ⟨b0, b1⟩ HDA.out
  obtain ⟨ar, har⟩ : ∃ ar : Int, a % D = ar := ⟨_, rfl⟩
  obtain ⟨qh, hqh⟩ : ∃ qh : Int, a / D = qh := ⟨_, rfl⟩
  obtain ⟨n, hn⟩ : ∃ n : Int, ar * 18446744073709551616 + b = n := ⟨_, rfl⟩
  obtain ⟨ql, hql⟩ : ∃ ql : Int, n / D = ql := ⟨_, rfl⟩
  obtain ⟨r, hr⟩ : ∃ r : Int, n % D = r := ⟨_, rfl⟩
  rw [har, hn, hql, hr] at C93
  have c93 := hid C93; clear C93
  have p0 : 0 ≤ ar := by rw [← har]; exact Int.emod_nonneg _ D3
  have p1 : ar < D := by rw [← har]; exact Int.emod_lt_of_pos _ D2
  have q0 : 0 ≤ qh := by rw [← hqh]; exact Int.ediv_nonneg a0 D0
  have q1 : qh ≤ 4611686018427387904 := by
    have : qh ≤ a := by rw [← hqh]; exact Int.ediv_le_self _ a0
    have := HAB.out; have := HH.out; have := HL.out; omega
  have n0 : 0 ≤ n := by omega
  have l0 : 0 ≤ ql := by rw [← hql]; exact Int.ediv_nonneg n0 D0
  have l1 : ql < 18446744073709551616 := by rw [← hql]; exact Int.ediv_lt_of_lt_mul D2 (by rw [Int.mul_comm]; omega)
  have r0 : 0 ≤ r := by rw [← hr]; exact Int.emod_nonneg _ D3
  have r1 : r < D := by rw [← hr]; exact Int.emod_lt_of_pos _ D2
  have HN := hid hn; have HQL := hid hql; have HR := hid hr; clear hn hql hr
  go_wp2_with fail
  refine (c93.out _).mono ?_
  rintro e w4 ⟨rfl, hb4⟩
  have hz4 : w.heap.size + 2 ≤ w4.heap.size := by have := hb4.size; omega
  have hb : Below (w.heap.size + 2) ((w.alloc (.cells #[.int .i64 h, .int .u64 l] 168)).alloc (.cells #[.int .i64 0, .int .u64 0] 168)) w4 :=
    ((((HB1.out.mono (by simp)).then HB2.out (by omega)).then HB3.out (by omega)).then hb4 (by omega))
  have c0 := hb.cell (p := ⟨w.heap.size, 0, none⟩) (by simp)
  have c1 := hb.cell (p := ⟨w.heap.size, 1, none⟩) (by simp)
  have c2 := hb.cell (p := ⟨w.heap.size + 1, 0, none⟩) (by simp)
  have c3 := hb.cell (p := ⟨w.heap.size + 1, 1, none⟩) (by simp)
  have f2 := hb.frozen (p := ⟨w.heap.size + 1, 0, none⟩) (by simp)
  have f3 := hb.frozen (p := ⟨w.heap.size + 1, 1, none⟩) (by simp)
  simp [go_sem, World.cell?_alloc_past] at c0 c1 c2 c3 f2 f3
  have Hb := hid hb; clear hb hb4
  have hbw : Below w.heap.size w w4 := (((Below.refl _ _).alloc (Nat.le_refl _) _).alloc (by simp) _).trans (Hb.out.mono (by omega))
  have HBW := hid hbw; clear hbw
  have g0 : w.heap.size < w4.heap.size := by omega
  have g1 : w.heap.size + 1 < w4.heap.size := by omega
  clear hz1 hz2 hz3 hz4 HB1 HB2 HB3 s1 s2 H93 c93
  have hX : ((x.natAbs : Nat) : Int) = (qh * 18446744073709551616 + ql) * D + r := by
    have e := size_split a b D x.natAbs (by have := HAB.out; have := HH.out; have := HL.out; omega)
    rw [hqh, har, HN.out, HQL.out, HR.out] at e
    exact e
  have HX := hid hX; clear hX
  have d5 : (decide (qh < 0)) = false := by simp; omega
  by_cases ch : h < 0 <;> by_cases cd : d < 0
  · -- both below nought
    go_wp2_with fail
    refine bodyPost_ret (v := .tuple #[.agg #[.int .i64 qh, .int .u64 ql], .int .i64 (-r), .bool true]) (by simp [results, Try.results86, go_sem, g1, c2, c3]) rfl (hR.out _ _ ⟨?_, ((HBW.out.setCell (by simp) _).setCell (by simp) _).alloc (by simp; omega) _⟩)
    obtain ⟨e1, e2⟩ := fd_neg x d (qh * 18446744073709551616 + ql) (-r) cd (by have h1 := HX.out; have h2 := HDA.out; have h3 := HH.out; have e : D = -d := (by omega); rw [e, Int.mul_neg] at h1; omega) (by omega) (by have := HDA.out; omega)
    rw [e1, e2, wideV_of _ qh ql rfl l0 l1]
  · by_cases cr : 0 < r
    · obtain ⟨l', hl'⟩ : ∃ l' : Int, (ql + 1 + 0) % 18446744073709551616 = l' := ⟨_, rfl⟩
      obtain ⟨k', hk'⟩ : ∃ k' : Int, (ql + 1 + 0) / 18446744073709551616 = k' := ⟨_, rfl⟩
      have A1 := fun w => add64 ql 1 0 l0 (by omega) (by omega) (by omega) w
      simp only [hl', hk'] at A1
      have l2 : 0 ≤ l' := by omega
      have l3 : l' < 18446744073709551616 := by omega
      have k2 : 0 ≤ k' := by omega
      have k3 : k' ≤ 1 := by omega
      have HL' := hid hl'; have HK' := hid hk'; clear hl' hk'
      go_wp2_with (first | simp only [A1])
      refine (turned_raw (qh + k') (l') ⟨by omega, by omega⟩ ⟨by omega, by omega⟩ _).mono ?_
      rintro e w5 ⟨rfl, hb5⟩
      have hz5 : w4.heap.size < w5.heap.size := by have := hb5.size; simp at this; omega
      have g2 : w.heap.size < w5.heap.size := by omega
      have g3 : w.heap.size + 1 < w5.heap.size := by omega
      have b2 := hb5.cell (p := ⟨w.heap.size + 1, 0, none⟩) (by simp; omega)
      have b3 := hb5.cell (p := ⟨w.heap.size + 1, 1, none⟩) (by simp; omega)
      have b4 := hb5.cell (p := ⟨w4.heap.size, 0, none⟩) (by simp)
      have b5 := hb5.cell (p := ⟨w4.heap.size, 1, none⟩) (by simp)
      have e2 := hb5.frozen (p := ⟨w.heap.size + 1, 0, none⟩) (by simp; omega)
      have e3 := hb5.frozen (p := ⟨w.heap.size + 1, 1, none⟩) (by simp; omega)
      have e4 := hb5.frozen (p := ⟨w4.heap.size, 0, none⟩) (by simp)
      have e5 := hb5.frozen (p := ⟨w4.heap.size, 1, none⟩) (by simp)
      simp [go_sem, World.cell?_alloc_past, g0, g1, c2, c3, f2, f3] at b2 b3 b4 b5 e2 e3 e4 e5
      have HB5 := hid ((HBW.out.alloc (by omega) _).then hb5 (by simp; omega)); clear hb5
      rw [wideV]
      generalize ht : -((qh + k') * 18446744073709551616 + l') = T
      obtain ⟨t1, ht1⟩ : ∃ t1 : Int, T / 18446744073709551616 = t1 := ⟨_, rfl⟩
      obtain ⟨t0, ht0⟩ : ∃ t0 : Int, T % 18446744073709551616 = t0 := ⟨_, rfl⟩
      rw [ht1, ht0]
      have HT := hid ht; have HT1 := hid ht1; have HT0 := hid ht0; clear ht ht1 ht0
      clear c0 c1 c2 c3 f2 f3
      go_wp2_with fail
      refine bodyPost_ret (v := .tuple #[.agg #[.int .i64 t1, .int .u64 t0], .int .i64 (D - r), .bool true]) (by simp [results, Try.results86, go_sem, g2, g3, b2, b3]) rfl (hR.out _ _ ⟨?_, ?_⟩)
      · obtain ⟨u1, u2⟩ := fd_pos x d T (D - r) (by omega) (by have h1 := HX.out; have h2 := HDA.out; have h3 := HH.out; have h4 := HL'.out; have h5 := HK'.out; have h6 := HT.out; have e : D = d := (by omega); have e7 : T = -(qh * 18446744073709551616 + ql) - 1 := (by omega); rw [e] at h1; rw [e7, Int.sub_mul, Int.neg_mul]; omega) (by omega) (by have := HDA.out; omega)
        rw [u1, u2]
        have a1 := HT1.out; have a0 := HT0.out
        rw [wideV_of T t1 t0 (by omega) (by omega) (by omega)]
      · exact (((HB5.out.setCell (by dsimp only; omega) _).setCell (by dsimp only; omega) _).setCell (by dsimp only; omega) _).setCell (by dsimp only; omega) _
    · obtain rfl : r = 0 := by omega
      go_wp2_with fail
      refine (turned_raw (qh) (ql) ⟨by omega, by omega⟩ ⟨by omega, by omega⟩ _).mono ?_
      rintro e w5 ⟨rfl, hb5⟩
      have hz5 : w4.heap.size < w5.heap.size := by have := hb5.size; simp at this; omega
      have g2 : w.heap.size < w5.heap.size := by omega
      have g3 : w.heap.size + 1 < w5.heap.size := by omega
      have b2 := hb5.cell (p := ⟨w.heap.size + 1, 0, none⟩) (by simp; omega)
      have b3 := hb5.cell (p := ⟨w.heap.size + 1, 1, none⟩) (by simp; omega)
      have b4 := hb5.cell (p := ⟨w4.heap.size, 0, none⟩) (by simp)
      have b5 := hb5.cell (p := ⟨w4.heap.size, 1, none⟩) (by simp)
      have e2 := hb5.frozen (p := ⟨w.heap.size + 1, 0, none⟩) (by simp; omega)
      have e3 := hb5.frozen (p := ⟨w.heap.size + 1, 1, none⟩) (by simp; omega)
      have e4 := hb5.frozen (p := ⟨w4.heap.size, 0, none⟩) (by simp)
      have e5 := hb5.frozen (p := ⟨w4.heap.size, 1, none⟩) (by simp)
      simp [go_sem, World.cell?_alloc_past, g0, g1, c2, c3, f2, f3] at b2 b3 b4 b5 e2 e3 e4 e5
      have HB5 := hid ((HBW.out.alloc (by omega) _).then hb5 (by simp; omega)); clear hb5
      rw [wideV]
      generalize ht : -((qh) * 18446744073709551616 + ql) = T
      obtain ⟨t1, ht1⟩ : ∃ t1 : Int, T / 18446744073709551616 = t1 := ⟨_, rfl⟩
      obtain ⟨t0, ht0⟩ : ∃ t0 : Int, T % 18446744073709551616 = t0 := ⟨_, rfl⟩
      rw [ht1, ht0]
      have HT := hid ht; have HT1 := hid ht1; have HT0 := hid ht0; clear ht ht1 ht0
      clear c0 c1 c2 c3 f2 f3
      go_wp2_with fail
      refine bodyPost_ret (v := .tuple #[.agg #[.int .i64 t1, .int .u64 t0], .int .i64 (0), .bool true]) (by simp [results, Try.results86, go_sem, g2, g3, b2, b3]) rfl (hR.out _ _ ⟨?_, ?_⟩)
      · obtain ⟨u1, u2⟩ := fd_pos x d T 0 (by omega) (by have h1 := HX.out; have h2 := HDA.out; have h3 := HH.out; have h6 := HT.out; have e : D = d := (by omega); rw [e] at h1; rw [← h6, Int.neg_mul]; omega) (by omega) (by omega)
        rw [u1, u2]
        have a1 := HT1.out; have a0 := HT0.out
        rw [wideV_of T t1 t0 (by omega) (by omega) (by omega)]
      · exact (((HB5.out.setCell (by dsimp only; omega) _).setCell (by dsimp only; omega) _).setCell (by dsimp only; omega) _).setCell (by dsimp only; omega) _
  · by_cases cr : 0 < r
    · obtain ⟨l', hl'⟩ : ∃ l' : Int, (ql + 1 + 0) % 18446744073709551616 = l' := ⟨_, rfl⟩
      obtain ⟨k', hk'⟩ : ∃ k' : Int, (ql + 1 + 0) / 18446744073709551616 = k' := ⟨_, rfl⟩
      have A1 := fun w => add64 ql 1 0 l0 (by omega) (by omega) (by omega) w
      simp only [hl', hk'] at A1
      have l2 : 0 ≤ l' := by omega
      have l3 : l' < 18446744073709551616 := by omega
      have k2 : 0 ≤ k' := by omega
      have k3 : k' ≤ 1 := by omega
      have HL' := hid hl'; have HK' := hid hk'; clear hl' hk'
      go_wp2_with (first | simp only [A1])
      refine (turned_raw (qh + k') (l') ⟨by omega, by omega⟩ ⟨by omega, by omega⟩ _).mono ?_
      rintro e w5 ⟨rfl, hb5⟩
      have hz5 : w4.heap.size < w5.heap.size := by have := hb5.size; simp at this; omega
      have g2 : w.heap.size < w5.heap.size := by omega
      have g3 : w.heap.size + 1 < w5.heap.size := by omega
      have b2 := hb5.cell (p := ⟨w.heap.size + 1, 0, none⟩) (by simp; omega)
      have b3 := hb5.cell (p := ⟨w.heap.size + 1, 1, none⟩) (by simp; omega)
      have b4 := hb5.cell (p := ⟨w4.heap.size, 0, none⟩) (by simp)
      have b5 := hb5.cell (p := ⟨w4.heap.size, 1, none⟩) (by simp)
      have e2 := hb5.frozen (p := ⟨w.heap.size + 1, 0, none⟩) (by simp; omega)
      have e3 := hb5.frozen (p := ⟨w.heap.size + 1, 1, none⟩) (by simp; omega)
      have e4 := hb5.frozen (p := ⟨w4.heap.size, 0, none⟩) (by simp)
      have e5 := hb5.frozen (p := ⟨w4.heap.size, 1, none⟩) (by simp)
      simp [go_sem, World.cell?_alloc_past, g0, g1, c2, c3, f2, f3] at b2 b3 b4 b5 e2 e3 e4 e5
      have HB5 := hid ((HBW.out.alloc (by omega) _).then hb5 (by simp; omega)); clear hb5
      rw [wideV]
      generalize ht : -((qh + k') * 18446744073709551616 + l') = T
      obtain ⟨t1, ht1⟩ : ∃ t1 : Int, T / 18446744073709551616 = t1 := ⟨_, rfl⟩
      obtain ⟨t0, ht0⟩ : ∃ t0 : Int, T % 18446744073709551616 = t0 := ⟨_, rfl⟩
      rw [ht1, ht0]
      have HT := hid ht; have HT1 := hid ht1; have HT0 := hid ht0; clear ht ht1 ht0
      clear c0 c1 c2 c3 f2 f3
      go_wp2_with fail
      refine bodyPost_ret (v := .tuple #[.agg #[.int .i64 t1, .int .u64 t0], .int .i64 (-(D - r)), .bool true]) (by simp [results, Try.results86, go_sem, g2, g3, b2, b3]) rfl (hR.out _ _ ⟨?_, ?_⟩)
      · obtain ⟨u1, u2⟩ := fd_neg x d T (-(D - r)) (by omega) (by have h1 := HX.out; have h2 := HDA.out; have h3 := HH.out; have h4 := HL'.out; have h5 := HK'.out; have h6 := HT.out; have e : D = -d := (by omega); have e7 : T = -(qh * 18446744073709551616 + ql) - 1 := (by omega); rw [e, Int.mul_neg] at h1; rw [e7, Int.sub_mul, Int.neg_mul]; omega) (by omega) (by have := HDA.out; omega)
        rw [u1, u2]
        have a1 := HT1.out; have a0 := HT0.out
        rw [wideV_of T t1 t0 (by omega) (by omega) (by omega)]
      · exact (((HB5.out.setCell (by dsimp only; omega) _).setCell (by dsimp only; omega) _).setCell (by dsimp only; omega) _).setCell (by dsimp only; omega) _
    · obtain rfl : r = 0 := by omega
      go_wp2_with fail
      refine (turned_raw (qh) (ql) ⟨by omega, by omega⟩ ⟨by omega, by omega⟩ _).mono ?_
      rintro e w5 ⟨rfl, hb5⟩
      have hz5 : w4.heap.size < w5.heap.size := by have := hb5.size; simp at this; omega
      have g2 : w.heap.size < w5.heap.size := by omega
      have g3 : w.heap.size + 1 < w5.heap.size := by omega
      have b2 := hb5.cell (p := ⟨w.heap.size + 1, 0, none⟩) (by simp; omega)
      have b3 := hb5.cell (p := ⟨w.heap.size + 1, 1, none⟩) (by simp; omega)
      have b4 := hb5.cell (p := ⟨w4.heap.size, 0, none⟩) (by simp)
      have b5 := hb5.cell (p := ⟨w4.heap.size, 1, none⟩) (by simp)
      have e2 := hb5.frozen (p := ⟨w.heap.size + 1, 0, none⟩) (by simp; omega)
      have e3 := hb5.frozen (p := ⟨w.heap.size + 1, 1, none⟩) (by simp; omega)
      have e4 := hb5.frozen (p := ⟨w4.heap.size, 0, none⟩) (by simp)
      have e5 := hb5.frozen (p := ⟨w4.heap.size, 1, none⟩) (by simp)
      simp [go_sem, World.cell?_alloc_past, g0, g1, c2, c3, f2, f3] at b2 b3 b4 b5 e2 e3 e4 e5
      have HB5 := hid ((HBW.out.alloc (by omega) _).then hb5 (by simp; omega)); clear hb5
      rw [wideV]
      generalize ht : -((qh) * 18446744073709551616 + ql) = T
      obtain ⟨t1, ht1⟩ : ∃ t1 : Int, T / 18446744073709551616 = t1 := ⟨_, rfl⟩
      obtain ⟨t0, ht0⟩ : ∃ t0 : Int, T % 18446744073709551616 = t0 := ⟨_, rfl⟩
      rw [ht1, ht0]
      have HT := hid ht; have HT1 := hid ht1; have HT0 := hid ht0; clear ht ht1 ht0
      clear c0 c1 c2 c3 f2 f3
      go_wp2_with fail
      refine bodyPost_ret (v := .tuple #[.agg #[.int .i64 t1, .int .u64 t0], .int .i64 (0), .bool true]) (by simp [results, Try.results86, go_sem, g2, g3, b2, b3]) rfl (hR.out _ _ ⟨?_, ?_⟩)
      · obtain ⟨u1, u2⟩ := fd_neg x d T 0 (by omega) (by have h1 := HX.out; have h2 := HDA.out; have h3 := HH.out; have h6 := HT.out; have e : D = -d := (by omega); rw [e, Int.mul_neg] at h1; rw [← h6, Int.neg_mul]; omega) (by omega) (by omega)
        rw [u1, u2]
        have a1 := HT1.out; have a0 := HT0.out
        rw [wideV_of T t1 t0 (by omega) (by omega) (by omega)]
      · exact (((HB5.out.setCell (by dsimp only; omega) _).setCell (by dsimp only; omega) _).setCell (by dsimp only; omega) _).setCell (by dsimp only; omega) _
  · -- neither
    go_wp2_with fail
    refine bodyPost_ret (v := .tuple #[.agg #[.int .i64 qh, .int .u64 ql], .int .i64 (r), .bool true]) (by simp [results, Try.results86, go_sem, g1, c2, c3]) rfl (hR.out _ _ ⟨?_, ((HBW.out.setCell (by simp) _).setCell (by simp) _).alloc (by simp; omega) _⟩)
    obtain ⟨e1, e2⟩ := fd_pos x d (qh * 18446744073709551616 + ql) r (by omega) (by have h1 := HX.out; have h2 := HDA.out; have h3 := HH.out; have e : D = d := (by omega); rw [e] at h1; omega) (by omega) (by have := HDA.out; omega)
    rw [e1, e2, wideV_of _ qh ql rfl l0 l1]

/-- wide.MulDiv where the divisor is not nought. -/
theorem muldiv_any (a b c : Int) (ha : I64 a) (hb : I64 b) (hc : I64 c) (c0 : c ≠ 0) (h93 : DivAt (a * b) c) (w : World) :
    Calls Try.prog 79 #[.int .i64 a, .int .i64 b, .int .i64 c] w fun e w' =>
      ((I64 ((a * b).fdiv c) → e = .returned (.tuple #[.int .i64 ((a * b).fdiv c), .bool true])) ∧ (¬ I64 ((a * b).fdiv c) → e = .returned (.tuple #[.int .i64 0, .bool false]))) ∧ Below w.heap.size w w' := by
  have mb := mul_bound a b ha hb
  have M1 := hid (mul_any a b ha hb)
  have D1 := hid (div_any (a * b) c mb hc c0 h93)
  generalize ep : a * b = p at *
  clear ep
  have hq : p.fdiv c = p.fdiv c := rfl
  generalize eq : p.fdiv c = q at *
  have hqb : -170141183460469231731687303715884105728 < q ∧ q < 170141183460469231731687303715884105728 := by
    have h1 := Int.natAbs_fdiv_le_natAbs p c
    omega
  obtain ⟨q1, hq1⟩ : ∃ q1 : Int, q / 18446744073709551616 = q1 := ⟨_, rfl⟩
  obtain ⟨q0, hq0⟩ : ∃ q0 : Int, q % 18446744073709551616 = q0 := ⟨_, rfl⟩
  have I1 := hid (int_raw q1 q0 ⟨by omega, by omega⟩ ⟨by omega, by omega⟩)
  have eqq : q = q1 * 18446744073709551616 + q0 := by omega
  have EQ := hid eqq
  have WQ := wideV_of q q1 q0 eqq (by omega) (by omega)
  rw [WQ] at D1
  clear hq eq hq1 hq0 eqq WQ h93 hqb
  apply cps; intro R hR
  go_enter Try.func79, Try.ntmps79
  go_wp2_with fail
  refine (M1.out _).mono ?_
  rintro e w1 ⟨rfl, hb1⟩
  go_wp2_with fail
  refine (D1.out _).mono ?_
  rintro e w2 ⟨rfl, hb2⟩
  have hbw := hid (hb1.then hb2 hb1.size)
  clear hb1 hb2
  go_wp2_with fail
  refine (I1.out _).mono ?_
  rintro e w3 ⟨he, hb3⟩
  have hbw3 := hid ((hbw.out.alloc hbw.out.size _).then hb3 (by have := hbw.out.size; simp; omega))
  clear hb3
  obtain ⟨y1, y2⟩ := he q EQ.out
  by_cases cq : I64 q
  · obtain rfl := y1 cq
    clear y1 y2 he
    go_wp2_with fail
    exact hR.out _ _ ⟨⟨fun _ => rfl, fun h => absurd cq h⟩, hbw3.out⟩
  · obtain rfl := y2 cq
    clear y1 y2 he
    go_wp2_with fail
    exact hR.out _ _ ⟨⟨fun h => absurd h cq, fun _ => rfl⟩, hbw3.out⟩
end Go.Proofs.Ytbkkpbjlicgcfaa
