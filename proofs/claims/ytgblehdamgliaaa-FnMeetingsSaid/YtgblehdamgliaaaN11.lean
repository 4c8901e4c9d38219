/-
  The facts of the law FnMeetings at all drawn particles, and the law.
-/
import Derived.Test.YtgblehdamgliaaaN10
import Derived.Test.YtgblehdamgliaaaW18
set_option linter.unusedVariables false
set_option linter.unusedSimpArgs false
namespace Go.Proofs.Ytgblehdamgliaaa
open FT

set_option maxHeartbeats 4000000 in
/-- Numbers of a pair that meets, and what comes of it. -/
theorem meet_facts {sx sy ch ms tx ty cq mq tw re im re' im' : Nat} {A1 A2 C1 C2 m n x y x' y' z h : Rat} (a1 : V32 sx A1) (a2 : V32 sy A2) (c1 : V32 tx C1) (c2 : V32 ty C2) (hm : V32 ms m) (hn : V32 mq n)
    (l1 : Le A1 1) (l2 : Le A2 1) (l3 : Le C1 1) (l4 : Le C2 1) (m0 : 1 / 4 ≤ m) (m1 : m ≤ 2) (n0 : 1 / 4 ≤ n) (n1 : n ≤ 2) (hph : Phas tw re im x y) (hph' : Phas 1056964608 re' im' x' y') (hx' : A x' (-1) (1 / 1000000)) (hy' : A y' 0 (1 / 1000000))
    (htw : V32 tw z) (hh : V32 1056964608 h)
    (hE : (A1 - C1 = 0 ∧ A2 - C2 = 0) ∨ ∃ E : Rat, 1 / 8 ≤ E ∧ E ≤ 2 ∧ Le (A1 - C1) E ∧ Le (A2 - C2) E ∧ E * E ≤ (A1 - C1) * (A1 - C1) + (A2 - C2) * (A2 - C2)) : MeetFacts sx sy ch ms tx ty cq mq tw := by
  obtain ⟨nu, mu, hs⟩ := share_of m0 m1 n0 n1
  obtain ⟨P1, hP1, i1, j1⟩ := mean_of hs A1 C1
  obtain ⟨P2, hP2, i2, j2⟩ := mean_of hs A2 C2
  have b1 : (1 : Rat) / 10 ^ 8 ≤ 1 := by decide +kernel
  have b2 : (1 : Rat) ≤ 5 := by decide +kernel
  obtain ⟨p1, p2, w1, w2, w3, w4, q1, q2, u1, u2, v1, v2, hM, vp1, vp2, vo1, vo2, vt1, vt2, hV⟩ := meet_num a1 a2 c1 c2 hm hn l1 l2 l3 l4 b1 b2 m0 m1 n0 n1 hph hP1 hP2 hs.hnu hs.hmu
  obtain ⟨p1', p2', e1, e2, f1, f2, q1', q2', g1, g2, h1, h2, hM', vp1', vp2', ve1, ve2, vf1, vf2, hV'⟩ := meet_num a1 a2 c1 c2 hm hn l1 l2 l3 l4 b1 b2 m0 m1 n0 n1 hph' hP1 hP2 hs.hnu hs.hmu
  have hpp : p1' = p1 ∧ p2' = p2 := by
    have k1 := hM.pair
    have k2 := hM'.pair
    rw [k1] at k2
    simp only [Option.some.injEq, Prod.mk.injEq] at k2
    exact ⟨k2.1.symm, k2.2.symm⟩
  obtain ⟨rfl, rfl⟩ := hpp
  have D1l : Le (A1 - C1) 2 := ⟨by grind, by grind⟩
  have D2l : Le (A2 - C2) 2 := ⟨by grind, by grind⟩
  obtain ⟨D1, hD1⟩ : ∃ D, D = A1 - C1 := ⟨_, rfl⟩
  obtain ⟨D2, hD2⟩ : ∃ D, D = A2 - C2 := ⟨_, rfl⟩
  rw [← hD1] at i1 j1 D1l
  rw [← hD2] at i2 j2 D2l
  have nu0 := hs.nu0
  have mu0 := hs.mu0
  have one := hs.one
  have lnu : Le nu 1 := ⟨by grind, by grind⟩
  have lmu : Le mu 1 := ⟨by grind, by grind⟩
  have ND1 := mulLe lnu D1l
  have ND2 := mulLe lnu D2l
  have MD1 := mulLe lmu D1l
  have MD2 := mulLe lmu D2l
  have lP1 : Le P1 1 := by
    have z1 := Rat.mul_le_mul_of_nonneg_left l1.1 mu0
    have z2 := Rat.mul_le_mul_of_nonneg_left l1.2 mu0
    have z3 := Rat.mul_le_mul_of_nonneg_left l3.1 nu0
    have z4 := Rat.mul_le_mul_of_nonneg_left l3.2 nu0
    have : P1 = mu * A1 + nu * C1 := by
      have : mu * A1 + nu * C1 = (nu + mu) * P1 + (mu * nu - nu * mu) * D1 := by rw [i1, j1]; grind
      rw [this, one]; grind
    rw [this]
    constructor <;> grind
  have lP2 : Le P2 1 := by
    have z1 := Rat.mul_le_mul_of_nonneg_left l2.1 mu0
    have z2 := Rat.mul_le_mul_of_nonneg_left l2.2 mu0
    have z3 := Rat.mul_le_mul_of_nonneg_left l4.1 nu0
    have z4 := Rat.mul_le_mul_of_nonneg_left l4.2 nu0
    have : P2 = mu * A2 + nu * C2 := by
      have : mu * A2 + nu * C2 = (nu + mu) * P2 + (mu * nu - nu * mu) * D2 := by rw [i2, j2]; grind
      rw [this, one]; grind
    rw [this]
    constructor <;> grind
  -- half a turn
  have half : ∀ {k E1 E2 : Rat}, 0 ≤ k → Le E1 k → Le E2 k → A (E1 * x' - E2 * y') (-E1) (2 * k / 1000000) ∧ A (E1 * y' + E2 * x') (-E2) (2 * k / 1000000) := by
    intro k E1 E2 hk k1 k2
    have z1 := mulLe k1 hx'
    have z2 := mulLe k2 hx'
    have z3 := mulLe k1 hy'
    have z4 := mulLe k2 hy'
    exact ⟨⟨by grind, by grind⟩, ⟨by grind, by grind⟩⟩
  obtain ⟨r1, r2⟩ := half (k := 2) (by decide +kernel) D1l D2l
  rw [hD1, hD2] at r1 r2
  obtain ⟨R1', hR1'⟩ : ∃ R, R = (A1 - C1) * x' - (A2 - C2) * y' := ⟨_, rfl⟩
  obtain ⟨R2', hR2'⟩ : ∃ R, R = (A1 - C1) * y' + (A2 - C2) * x' := ⟨_, rfl⟩
  rw [← hR1'] at r1 hV'
  rw [← hR2'] at r2 hV'
  rw [← hD1] at r1
  rw [← hD2] at r2
  have y1 := mulLe lnu r1
  have y2 := mulLe lnu r2
  have y3 := mulLe lmu r1
  have y4 := mulLe lmu r2
  have he1 : A g1 (P1 - nu * D1) (17 / 1000000) := by have := hV'.o1; constructor <;> grind
  have he2 : A g2 (P2 - nu * D2) (17 / 1000000) := by have := hV'.o2; constructor <;> grind
  have hf1 : A h1 (P1 + mu * D1) (17 / 1000000) := by have := hV'.t1; constructor <;> grind
  have hf2 : A h2 (P2 + mu * D2) (17 / 1000000) := by have := hV'.t2; constructor <;> grind
  clear y1 y2 y3 y4 r1 r2 hV'
  have le1 : Le g1 (31 / 10) := ⟨by grind, by grind⟩
  have le2 : Le g2 (31 / 10) := ⟨by grind, by grind⟩
  have lf1 : Le h1 (31 / 10) := ⟨by grind, by grind⟩
  have lf2 : Le h2 (31 / 10) := ⟨by grind, by grind⟩
  obtain ⟨Q1, hQ1, i3, j3⟩ := mean_of hs g1 h1
  obtain ⟨Q2, hQ2, i4, j4⟩ := mean_of hs g2 h2
  obtain ⟨o1, o2, s1, s2, t1, t2, qq1, qq2, S1, S2, T1, T2, hM2, vq1, vq2, vg1, vg2, vh1, vh2, hV2⟩ := meet_num ve1 ve2 vf1 vf2 hm hn le1 le2 lf1 lf2 (B := 31 / 10) (by decide +kernel) (by decide +kernel) m0 m1 n0 n1 hph' hQ1 hQ2 hs.hnu hs.hmu
  obtain ⟨r1, r2⟩ := half (k := 62 / 10) (E1 := g1 - h1) (E2 := g2 - h2) (by decide +kernel) ⟨by grind, by grind⟩ ⟨by grind, by grind⟩
  have z1 := bump_back hs he1 hf1 hQ1 r1 hV2.o1 hV2.t1
  have z2 := bump_back hs he2 hf2 hQ2 r2 hV2.o2 hV2.t2
  have z3 := mean_back hs he1 hf1 hQ1
  have z4 := mean_back hs he2 hf2 hQ2
  have gA1 : A S1 A1 (110 / 1000000) := by have := z1.1; constructor <;> grind
  have gA2 : A S2 A2 (110 / 1000000) := by have := z2.1; constructor <;> grind
  have hC1 : A T1 C1 (110 / 1000000) := by have := z1.2; constructor <;> grind
  have hC2 : A T2 C2 (110 / 1000000) := by have := z2.2; constructor <;> grind
  have pq1 : A q1 qq1 (40 / 1000000) := by have := hV.p1; have := hV2.p1; constructor <;> grind
  have pq2 : A q2 qq2 (40 / 1000000) := by have := hV.p2; have := hV2.p2; constructor <;> grind
  clear z1 z2 z3 z4 r1 r2 hV2 i3 i4 j3 j4 hQ1 hQ2 he1 he2 hf1 hf2 le1 le2 lf1 lf2 half
  -- the first meeting
  have lx := phas_le hph
  have hone := hph.one
  obtain ⟨R1, hR1⟩ : ∃ R, R = (A1 - C1) * x - (A2 - C2) * y := ⟨_, rfl⟩
  obtain ⟨R2, hR2⟩ : ∃ R, R = (A1 - C1) * y + (A2 - C2) * x := ⟨_, rfl⟩
  rw [← hR1, ← hR2] at hV
  rw [← hD1, ← hD2] at hR1 hR2
  have lR : Le R1 (29 / 10) ∧ Le R2 (29 / 10) := by
    have hR : R1 * R1 + R2 * R2 = (D1 * D1 + D2 * D2) * (x * x + y * y) := by rw [hR1, hR2]; grind
    have q1' := mulLe D1l D1l
    have q2' := mulLe D2l D2l
    have s1' := sq_nonneg D1
    have s2' := sq_nonneg D2
    have hN := mulLe (x := D1 * D1 + D2 * D2) (a := 8) ⟨by grind, by grind⟩ hone
    have t1' := sq_nonneg R1
    have t2' := sq_nonneg R2
    refine ⟨⟨?_, le_of_sq (by decide +kernel) (by grind)⟩, ⟨?_, le_of_sq (by decide +kernel) (by grind)⟩⟩
    · have : -R1 ≤ 29 / 10 := le_of_sq (by decide +kernel) (by grind)
      grind
    · have : -R2 ≤ 29 / 10 := le_of_sq (by decide +kernel) (by grind)
      grind
  have NR1 := mulLe lnu lR.1
  have NR2 := mulLe lnu lR.2
  have MR1 := mulLe lmu lR.1
  have MR2 := mulLe lmu lR.2
  have ho1 := hV.o1
  have ho2 := hV.o2
  have ht1 := hV.t1
  have ht2 := hV.t2
  have lc1 : Le u1 4 := ⟨by grind, by grind⟩
  have lc2 : Le u2 4 := ⟨by grind, by grind⟩
  have ld1 : Le v1 4 := ⟨by grind, by grind⟩
  have ld2 : Le v2 4 := ⟨by grind, by grind⟩
  obtain ⟨mb1, mb2, B1, B2, hmo1, vb1, vb2, eb1, eb2⟩ := mom_num a1 a2 c1 c2 hm hn ⟨by grind, by grind⟩ ⟨by grind, by grind⟩ ⟨by grind, by grind⟩ ⟨by grind, by grind⟩ m0 m1 n0 n1
  obtain ⟨ma1, ma2, M1, M2, hmo2, va1, va2, ea1, ea2⟩ := mom_num vo1 vo2 vt1 vt2 hm hn lc1 lc2 ld1 ld2 m0 m1 n0 n1
  obtain ⟨en1, E1, hen1, ven1, een1, len1⟩ := ener_num a1 a2 c1 c2 hm hn ⟨by grind, by grind⟩ ⟨by grind, by grind⟩ ⟨by grind, by grind⟩ ⟨by grind, by grind⟩ m0 m1 n0 n1
  obtain ⟨en2, E2, hen2, ven2, een2, len2⟩ := ener_num vo1 vo2 vt1 vt2 hm hn lc1 lc2 ld1 ld2 m0 m1 n0 n1
  obtain ⟨mi, mi1, mi2, mi3⟩ := milli_val
  -- momentum
  have lm2 : Le m 2 := ⟨by grind, by grind⟩
  have ln2 : Le n 2 := ⟨by grind, by grind⟩
  have km1 := mulLe lm2 ho1
  have km2 := mulLe lm2 ho2
  have kn1 := mulLe ln2 ht1
  have kn2 := mulLe ln2 ht2
  have kap := hs.kap
  have mom1 : A B1 M1 (80 / 1000000) := by
    have k : m * (P1 + nu * R1) + n * (P1 - mu * R1) = m * A1 + n * C1 := by
      have k1 : m * nu * R1 = n * mu * R1 := by rw [kap]
      grind
    constructor <;> grind
  have mom2 : A B2 M2 (80 / 1000000) := by
    have k : m * (P2 + nu * R2) + n * (P2 - mu * R2) = m * A2 + n * C2 := by
      have k1 : m * nu * R2 = n * mu * R2 := by rw [kap]
      grind
    constructor <;> grind
  clear km1 km2 kn1 kn2 eb1 eb2 ea1 ea2
  obtain ⟨r1, V1, x1, x2, x3⟩ := apart_num vb1 vb2 va1 va2 mom1 mom2 ⟨by decide +kernel, by decide +kernel⟩ ⟨by decide +kernel, by decide +kernel⟩
  -- energy
  have hen : A E1 E2 (700 / 1000000) := by
    have law := energy_law hs A1 A2 C1 C2 R1 R2 i1 i2 j1 j2 hR1 hR2
    have q1' := mulLe D1l D1l
    have q2' := mulLe D2l D2l
    have s1' := sq_nonneg D1
    have s2' := sq_nonneg D2
    have t1' := mulLe (x := D1 * D1 + D2 * D2) (a := 8) ⟨by grind, by grind⟩ hone
    have t2' := mulLe (mulLe ln2 lmu) t1'
    have sq1 := mulA ho1 ho1 (a := 39 / 10) (b := 39 / 10) ⟨by grind, by grind⟩ ⟨by grind, by grind⟩
    have sq2 := mulA ho2 ho2 (a := 39 / 10) (b := 39 / 10) ⟨by grind, by grind⟩ ⟨by grind, by grind⟩
    have sq3 := mulA ht1 ht1 (a := 39 / 10) (b := 39 / 10) ⟨by grind, by grind⟩ ⟨by grind, by grind⟩
    have sq4 := mulA ht2 ht2 (a := 39 / 10) (b := 39 / 10) ⟨by grind, by grind⟩ ⟨by grind, by grind⟩
    obtain ⟨X1, hX1⟩ : ∃ X, X = (P1 + nu * R1) * (P1 + nu * R1) + (P2 + nu * R2) * (P2 + nu * R2) := ⟨_, rfl⟩
    obtain ⟨X2, hX2⟩ : ∃ X, X = (P1 - mu * R1) * (P1 - mu * R1) + (P2 - mu * R2) * (P2 - mu * R2) := ⟨_, rfl⟩
    rw [← hX1, ← hX2] at law
    have k1 : A (u1 * u1 + u2 * u2) X1 (2 * (2 * (39 / 10 * (1 / 80000)) + 1 / 80000 * (1 / 80000))) := by rw [hX1]; constructor <;> grind
    have k2 : A (v1 * v1 + v2 * v2) X2 (2 * (2 * (39 / 10 * (1 / 80000)) + 1 / 80000 * (1 / 80000))) := by rw [hX2]; constructor <;> grind
    have k3 := mulLe lm2 k1
    have k4 := mulLe ln2 k2
    clear sq1 sq2 sq3 sq4 hX1 hX2 k1 k2 ho1 ho2 ht1 ht2 q1' q2' s1' s2' t1'
    constructor <;> grind
  obtain ⟨w1x, x4, x5⟩ := widen ven1
  obtain ⟨w2x, x6, x7⟩ := widen ven2
  obtain ⟨r2, V2, x8, x9, x10⟩ := gap_num x5 x7 hen ⟨by decide +kernel, by decide +kernel⟩
  -- lengths
  have hdx : A (u1 - v1) R1 (1 / 39000) := by
    have : (nu + mu) * R1 = R1 := by rw [one, Rat.one_mul]
    constructor <;> grind
  have hdy : A (u2 - v2) R2 (1 / 39000) := by
    have : (nu + mu) * R2 = R2 := by rw [one, Rat.one_mul]
    constructor <;> grind
  have hlen : ∃ r3 r4 L L', apartB sx sy tx ty = some r3 ∧ V64 r3 L ∧ apartB w1 w2 w3 w4 = some r4 ∧ V64 r4 L' ∧ Le (L - L') (1 / 2000) := by
    rw [← hD1, ← hD2] at hE
    rcases hE with ⟨k1, k2⟩ | ⟨E, k1, k2, k3, k4, k5⟩
    · obtain ⟨r3, L, t1', t2', t3', t4', _⟩ := apart_both (e := 1 / 100000) a1 a2 c1 c2 (by rw [← hD1, k1]; decide +kernel) (by rw [← hD2, k2]; decide +kernel) ⟨by decide +kernel, by decide +kernel⟩ ⟨by decide +kernel, by decide +kernel⟩
      have zR1 : R1 = 0 := by rw [hR1, k1, k2]; grind
      have zR2 : R2 = 0 := by rw [hR2, k1, k2]; grind
      obtain ⟨r4, L', t5', t6', t7', t8', _⟩ := apart_both (e := 1 / 10000) vo1 vo2 vt1 vt2 ⟨by grind, by grind⟩ ⟨by grind, by grind⟩ ⟨by decide +kernel, by decide +kernel⟩ ⟨by decide +kernel, by decide +kernel⟩
      exact ⟨r3, r4, L, L', t1', t2', t5', t6', ⟨by grind, by grind⟩⟩
    · obtain ⟨r3, L, t1', t2', t3', t4', t9⟩ := apart_both (e := E) a1 a2 c1 c2 (by rw [← hD1]; exact k3) (by rw [← hD2]; exact k4) ⟨by grind, by grind⟩ ⟨by grind, by grind⟩
      rw [← hD1, ← hD2] at t9
      have hRl : Le R1 (145 / 100 * E) ∧ Le R2 (145 / 100 * E) := by
        have hR : R1 * R1 + R2 * R2 = (D1 * D1 + D2 * D2) * (x * x + y * y) := by rw [hR1, hR2]; grind
        have q1' := mulLe k3 k3
        have q2' := mulLe k4 k4
        have s1' := sq_nonneg D1
        have s2' := sq_nonneg D2
        have hN := mulLe (x := D1 * D1 + D2 * D2) (a := 2 * (E * E)) ⟨by grind, by grind⟩ hone
        have t1' := sq_nonneg R1
        have t2' := sq_nonneg R2
        have hEE := sq_nonneg E
        refine ⟨⟨?_, le_of_sq (by grind) (by grind)⟩, ⟨?_, le_of_sq (by grind) (by grind)⟩⟩
        · have : -R1 ≤ 145 / 100 * E := le_of_sq (by grind) (by grind)
          grind
        · have : -R2 ≤ 145 / 100 * E := le_of_sq (by grind) (by grind)
          grind
      obtain ⟨r4, L', t5', t6', t7', t8', t10⟩ := apart_both (e := 3 / 2 * E) vo1 vo2 vt1 vt2 ⟨by grind, by grind⟩ ⟨by grind, by grind⟩ ⟨by grind, by grind⟩ ⟨by grind, by grind⟩
      exact ⟨r3, r4, L, L', t1', t2', t5', t6', length_law k1 k2 k3 k4 k5 hone hR1 hR2 hdx hdy t3' t7' t9 t10⟩
  obtain ⟨r3, r4, L, L', x11, x12, x13, x14, x15⟩ := hlen
  obtain ⟨r5, V5, x16, x17, x18⟩ := gap_num x12 x14 x15 ⟨by decide +kernel, by decide +kernel⟩
  obtain ⟨r6, V6, x19, x20, x21⟩ := apart_num vg1 vg2 a1 a2 gA1 gA2 ⟨by decide +kernel, by decide +kernel⟩ ⟨by decide +kernel, by decide +kernel⟩
  obtain ⟨r7, V7, x22, x23, x24⟩ := apart_num vh1 vh2 c1 c2 hC1 hC2 ⟨by decide +kernel, by decide +kernel⟩ ⟨by decide +kernel, by decide +kernel⟩
  obtain ⟨r8, V8, x25, x26, x27⟩ := apart_num vp1 vp2 vq1 vq2 pq1 pq2 ⟨by decide +kernel, by decide +kernel⟩ ⟨by decide +kernel, by decide +kernel⟩
  exact ⟨⟨_, htw⟩, ⟨_, hh⟩, re, im, x, y, re', im', x', y', _, _, _, _, _, _, _, _, _, _, _, _, _, _, _, _, hph, hph', hM, hM', hM2, _, _, _, _, _, _, hmo1, hmo2, hen1, hen2,
    _, _, _, _, _, _, _, _, _, _, x1, isLt x2 mi1 (by grind), x4, x6, x8, isLt x9 mi1 (by grind), x11, x13, x16, isLt x17 mi1 (by grind), x19, isLt x20 mi1 (by grind), x22, isLt x23 mi1 (by grind), x25, isLt x26 mi1 (by grind)⟩

theorem meet_every {x y s t c m : Int} (hd : PD x y s t c m) {x' y' s' t' c' m' : Int} (hd' : PD x' y' s' t' c' m') (n : Int) (h0 : -8 ≤ n) (h1 : n ≤ 8) :
    MeetFacts (d8 s) (d8 t) (d2 c) (d4 m) (d8 s') (d8 t') (d2 c') (d4 m') (d8 n) := by
  obtain ⟨_, _, hs, ht, _, hm⟩ := pd_vals hd
  obtain ⟨_, _, hs', ht', _, hm'⟩ := pd_vals hd'
  obtain ⟨re, im, X, Y, ph, _⟩ := phas_num n h0 h1
  obtain ⟨re', im', X', Y', ph', hz⟩ := phas_num 4 (by decide) (by decide)
  have hd4 : d8 4 = 1056964608 := by decide +kernel
  rw [hd4] at ph'
  obtain ⟨z1, z2⟩ := hz rfl
  have mass : ∀ k : Int, 1 ≤ k → k ≤ 8 → 1 / 4 ≤ (k : Rat) / 4 ∧ (k : Rat) / 4 ≤ 2 := by
    intro k k0 k1
    have a1 := cast_le k0
    have a2 := cast_le k1
    have e1 : ((1 : Int) : Rat) = 1 := rfl
    have e2 : ((8 : Int) : Rat) = 8 := rfl
    rw [e1] at a1
    rw [e2] at a2
    constructor <;> grind
  obtain ⟨m0, m1⟩ := mass m hd.m0 hd.m1
  obtain ⟨n0, n1⟩ := mass m' hd'.m0 hd'.m1
  have hdif : ∀ p q : Int, (p : Rat) / 8 - (q : Rat) / 8 = ((p - q : Int) : Rat) / 8 := by
    intro p q
    rw [Rat.intCast_sub]
    grind
  have s0 := hd.s0
  have s1 := hd.s1
  have t0 := hd.t0
  have t1 := hd.t1
  have s0' := hd'.s0
  have s1' := hd'.s1
  have t0' := hd'.t0
  have t1' := hd'.t1
  refine meet_facts hs ht hs' ht' hm hm' (unit_of s0 s1) (unit_of t0 t1) (unit_of s0' s1') (unit_of t0' t1') m0 m1 n0 n1 ph ph' z1 z2 (d8_ok n (by omega) (by omega)).2 (by rw [← hd4]; exact (d8_ok 4 (by omega) (by omega)).2) ?_
  by_cases hz : s - s' = 0 ∧ t - t' = 0
  · left
    rw [hdif, hdif, hz.1, hz.2]
    decide +kernel
  · right
    rw [hdif, hdif]
    exact diff_B (by omega) (by omega) (by omega) (by omega) hz

theorem meetings_walk {a b : Option Addr} {n m c d : Nat} {w : World} (ha : Bytes w a n) (ha' : ∀ x off i, a = some ⟨x, off, i⟩ → 0 < n → i = none ∧ x < w.heap.size) (hs : n = 0 ∨ a.isSome = true)
    (hb : Bytes w b m) (hb' : ∀ x off i, b = some ⟨x, off, i⟩ → 0 < m → i = none ∧ x < w.heap.size) (hs' : m = 0 ∨ b.isSome = true) :
    Calls Try.prog 5 #[.slice a n c, .slice b m d] w fun e w' => e = .returned (.bool true) ∧ Go.RowKit.Below w.heap.size w w' := by
  by_cases h : n ≤ 48 ∧ m ≤ 48
  · exact meetings_go h.1 h.2 ha ha' hs hb hb' hs' (fun _ _ _ _ _ _ hd => pd_pw hd) (fun _ _ _ _ _ _ hd _ _ _ _ _ _ hd' n1 => meet_every hd hd' n1)
  · exact meetings_long (by omega)

end Go.Proofs.Ytgblehdamgliaaa
