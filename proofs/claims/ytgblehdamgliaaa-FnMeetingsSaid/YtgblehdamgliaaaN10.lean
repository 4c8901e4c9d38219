/-
  All facts on the words of the law FnMeetings.
-/
import Derived.Test.YtgblehdamgliaaaN9
set_option linter.unusedVariables false
set_option linter.unusedSimpArgs false
namespace Go.Proofs.Ytgblehdamgliaaa
open FT

theorem mul_cancel {x k : Rat} (h : x * k = 0) (hk : 0 < k) : x = 0 := by
  rcases Rat.mul_eq_zero.1 h with h1 | h1
  · exact h1
  · exact absurd h1 (Rat.ne_of_gt hk)

/-- The shares of two masses. -/
structure Share (m n nu mu : Rat) : Prop where
  m0 : 1 / 4 ≤ m
  m1 : m ≤ 2
  n0 : 1 / 4 ≤ n
  n1 : n ≤ 2
  hnu : nu * (m + n) = n
  hmu : mu * (m + n) = m
  one : nu + mu = 1
  kap : m * nu = n * mu
  nu0 : 0 ≤ nu
  mu0 : 0 ≤ mu

theorem share_of {m n : Rat} (m0 : 1 / 4 ≤ m) (m1 : m ≤ 2) (n0 : 1 / 4 ≤ n) (n1 : n ≤ 2) : ∃ nu mu, Share m n nu mu := by
  have hp : 0 < m + n := by grind
  have hne : m + n ≠ 0 := Rat.ne_of_gt hp
  have h1 : n / (m + n) * (m + n) = n := Rat.div_mul_cancel hne
  have h2 : m / (m + n) * (m + n) = m := Rat.div_mul_cancel hne
  generalize n / (m + n) = nu at h1
  generalize m / (m + n) = mu at h2
  refine ⟨nu, mu, m0, m1, n0, n1, h1, h2, ?_, ?_, ?_, ?_⟩
  · have := mul_cancel (x := nu + mu - 1) (k := m + n) (by grind) hp
    grind
  · have := mul_cancel (x := m * nu - n * mu) (k := m + n) (by
      have : (m * nu - n * mu) * (m + n) = m * (nu * (m + n)) - n * (mu * (m + n)) := by grind
      rw [this, h1, h2]; grind) hp
    grind
  · exact Rat.le_of_mul_le_mul_right (c := m + n) (by grind) hp
  · exact Rat.le_of_mul_le_mul_right (c := m + n) (by grind) hp

/-- The mean of two numbers, and how far they are from it. -/
theorem mean_of {m n nu mu : Rat} (h : Share m n nu mu) (A C : Rat) : ∃ P, P * (m + n) = m * A + n * C ∧ A = P + nu * (A - C) ∧ C = P - mu * (A - C) := by
  have hp : 0 < m + n := by have := h.m0; have := h.n0; grind
  have hP : (m * A + n * C) / (m + n) * (m + n) = m * A + n * C := Rat.div_mul_cancel (Rat.ne_of_gt hp)
  generalize (m * A + n * C) / (m + n) = P at hP
  refine ⟨P, hP, ?_, ?_⟩
  · have := mul_cancel (x := A - P - nu * (A - C)) (k := m + n) (by
      have : (A - P - nu * (A - C)) * (m + n) = A * (m + n) - P * (m + n) - nu * (m + n) * (A - C) := by grind
      rw [this, hP, h.hnu]; grind) hp
    grind
  · have := mul_cancel (x := C - P + mu * (A - C)) (k := m + n) (by
      have : (C - P + mu * (A - C)) * (m + n) = C * (m + n) - P * (m + n) + mu * (m + n) * (A - C) := by grind
      rw [this, hP, h.hmu]; grind) hp
    grind

/-- A mean of two numbers that are thrown back nearly. -/
theorem mean_back {m n nu mu P D e f P2 d : Rat} (h : Share m n nu mu) (he : A e (P - nu * D) d) (hf : A f (P + mu * D) d) (hP2 : P2 * (m + n) = m * e + n * f) : A P2 P d := by
  have m0 := h.m0
  have n0 := h.n0
  have hp : 0 < m + n := by grind
  have k1 := mulLe (x := m) (a := m) ⟨by grind, by grind⟩ he
  have k2 := mulLe (x := n) (a := n) ⟨by grind, by grind⟩ hf
  have hk := h.kap
  have key : (P2 - P) * (m + n) = m * (e - (P - nu * D)) + n * (f - (P + mu * D)) := by
    have h1 : (P2 - P) * (m + n) = P2 * (m + n) - P * (m + n) := by grind
    have h2 : m * nu * D = n * mu * D := by rw [hk]
    rw [h1, hP2]
    grind
  constructor
  · exact Rat.le_of_mul_le_mul_right (c := m + n) (by grind) hp
  · exact Rat.le_of_mul_le_mul_right (c := m + n) (by grind) hp

/-- Thrown back twice. -/
theorem bump_back {m n nu mu P D e f P2 R g h' d d3 d4 : Rat} (h : Share m n nu mu) (he : A e (P - nu * D) d) (hf : A f (P + mu * D) d) (hP2 : P2 * (m + n) = m * e + n * f)
    (hR : A R (-(e - f)) d4) (hg : A g (P2 + nu * R) d3) (hh : A h' (P2 - mu * R) d3) : A g (P + nu * D) (3 * d + d3 + d4) ∧ A h' (P - mu * D) (3 * d + d3 + d4) := by
  have hm := mean_back h he hf hP2
  have h1 := h.one
  have n0 := h.nu0
  have u0 := h.mu0
  have hRD : A R D (2 * d + d4) := by
    have : nu * D + mu * D = D := by
      have : (nu + mu) * D = D := by rw [h1, Rat.one_mul]
      grind
    constructor <;> grind
  have k1 := mulLe (x := nu) (a := 1) ⟨by grind, by grind⟩ hRD
  have k2 := mulLe (x := mu) (a := 1) ⟨by grind, by grind⟩ hRD
  constructor
  · constructor <;> grind
  · constructor <;> grind

section
variable {s1 s2 ms t1 t2 mq : Nat} {S1 S2 m T1 T2 n : Rat}

theorem mom_num (h1 : V32 s1 S1) (h2 : V32 s2 S2) (h3 : V32 t1 T1) (h4 : V32 t2 T2) (hm : V32 ms m) (hn : V32 mq n) (l1 : Le S1 4) (l2 : Le S2 4) (l3 : Le T1 4) (l4 : Le T2 4) (m0 : 1 / 4 ≤ m) (m1 : m ≤ 2) (n0 : 1 / 4 ≤ n) (n1 : n ≤ 2) :
    ∃ r i u v, Mom s1 s2 ms t1 t2 mq r i ∧ V32 r u ∧ V32 i v ∧ A u (m * S1 + n * T1) (1 / 100000) ∧ A v (m * S2 + n * T2) (1 / 100000) := by
  have lm : Le m 2 := ⟨by grind, by grind⟩
  have ln : Le n 2 := ⟨by grind, by grind⟩
  have k1 := mulLe l1 lm
  have k2 := mulLe l2 lm
  have k3 := mulLe l3 ln
  have k4 := mulLe l4 ln
  obtain ⟨r1, v1, e1, w1, b1, _⟩ := mul32 (M := 8) h1 hm ⟨by grind, by grind⟩ ⟨by decide +kernel, by decide +kernel⟩
  obtain ⟨r2, v2, e2, w2, b2, _⟩ := mul32 (M := 8) h2 hm ⟨by grind, by grind⟩ ⟨by decide +kernel, by decide +kernel⟩
  obtain ⟨r3, v3, e3, w3, b3, _⟩ := mul32 (M := 8) h3 hn ⟨by grind, by grind⟩ ⟨by decide +kernel, by decide +kernel⟩
  obtain ⟨r4, v4, e4, w4, b4, _⟩ := mul32 (M := 8) h4 hn ⟨by grind, by grind⟩ ⟨by decide +kernel, by decide +kernel⟩
  obtain ⟨r5, v5, e5, w5, b5, _⟩ := add32 (M := 9) zero32 w1 ⟨by grind, by grind⟩ ⟨by decide +kernel, by decide +kernel⟩
  obtain ⟨r6, v6, e6, w6, b6, _⟩ := add32 (M := 9) zero32 w2 ⟨by grind, by grind⟩ ⟨by decide +kernel, by decide +kernel⟩
  obtain ⟨r7, v7, e7, w7, b7, _⟩ := add32 (M := 18) w5 w3 ⟨by grind, by grind⟩ ⟨by decide +kernel, by decide +kernel⟩
  obtain ⟨r8, v8, e8, w8, b8, _⟩ := add32 (M := 18) w6 w4 ⟨by grind, by grind⟩ ⟨by decide +kernel, by decide +kernel⟩
  refine ⟨r7, r8, v7, v8, ⟨r1, r2, r5, r6, r3, r4, ?_, ?_, ?_, ?_⟩, w7, w8, ⟨by grind, by grind⟩, ⟨by grind, by grind⟩⟩
  · unfold scaleC; simp only [e1, e2, Option.bind_eq_bind, Option.bind_some, Option.pure_def]
  · unfold plusC; simp only [e5, e6, Option.bind_eq_bind, Option.bind_some, Option.pure_def]
  · unfold scaleC; simp only [e3, e4, Option.bind_eq_bind, Option.bind_some, Option.pure_def]
  · unfold plusC; simp only [e7, e8, Option.bind_eq_bind, Option.bind_some, Option.pure_def]

theorem half64 : V64 4602678819172646912 (1 / 2) := V64_of (by decide +kernel)

theorem ener_num (h1 : V32 s1 S1) (h2 : V32 s2 S2) (h3 : V32 t1 T1) (h4 : V32 t2 T2) (hm : V32 ms m) (hn : V32 mq n) (l1 : Le S1 4) (l2 : Le S2 4) (l3 : Le T1 4) (l4 : Le T2 4) (m0 : 1 / 4 ≤ m) (m1 : m ≤ 2) (n0 : 1 / 4 ≤ n) (n1 : n ≤ 2) :
    ∃ r u, Ener s1 s2 ms t1 t2 mq r ∧ V32 r u ∧ A u (1 / 2 * (m * (S1 * S1 + S2 * S2)) + 1 / 2 * (n * (T1 * T1 + T2 * T2))) (1 / 100000) ∧ Le u 100 := by
  have a1 := mulLe l1 l1
  have a2 := mulLe l2 l2
  have a3 := mulLe l3 l3
  have a4 := mulLe l4 l4
  have lm : Le m 2 := ⟨by grind, by grind⟩
  have ln : Le n 2 := ⟨by grind, by grind⟩
  obtain ⟨x1, e1, w1⟩ := widen hm
  obtain ⟨x2, v2, e2, w2, b2, _⟩ := mul64 (M := 1) half64 w1 ⟨by grind, by grind⟩ ⟨by decide +kernel, by decide +kernel⟩
  obtain ⟨x3, v3, e3, w3, p3, b3⟩ := powB_num (M := 4) h1 h2 l1 l2 ⟨by decide +kernel, by decide +kernel⟩
  have lv2 : Le v2 2 := ⟨by grind, by grind⟩
  have lv3 : Le v3 33 := ⟨by grind, by grind⟩
  have k1 := mulA b2 b3 (a := 1) (b := 32) ⟨by grind, by grind⟩ ⟨by grind, by grind⟩
  have c1 := mulLe lv2 lv3
  obtain ⟨x4, v4, e4, w4, b4, _⟩ := mul64 (M := 66) w2 w3 ⟨by grind, by grind⟩ ⟨by decide +kernel, by decide +kernel⟩
  obtain ⟨x5, v5, e5, w5, b5, _⟩ := add64 (M := 67) zero64 w4 ⟨by grind, by grind⟩ ⟨by decide +kernel, by decide +kernel⟩
  obtain ⟨y1, f1, z1⟩ := widen hn
  obtain ⟨y2, u2, f2, z2, d2, _⟩ := mul64 (M := 1) half64 z1 ⟨by grind, by grind⟩ ⟨by decide +kernel, by decide +kernel⟩
  obtain ⟨y3, u3, f3, z3, q3, d3⟩ := powB_num (M := 4) h3 h4 l3 l4 ⟨by decide +kernel, by decide +kernel⟩
  have lu2 : Le u2 2 := ⟨by grind, by grind⟩
  have lu3 : Le u3 33 := ⟨by grind, by grind⟩
  have k2 := mulA d2 d3 (a := 1) (b := 32) ⟨by grind, by grind⟩ ⟨by grind, by grind⟩
  have c2 := mulLe lu2 lu3
  obtain ⟨y4, u4, f4, z4, d4, _⟩ := mul64 (M := 66) z2 z3 ⟨by grind, by grind⟩ ⟨by decide +kernel, by decide +kernel⟩
  have s1' := sq_nonneg S1
  have s2' := sq_nonneg S2
  have s3' := sq_nonneg T1
  have s4' := sq_nonneg T2
  have g1 := mulLe (x := m) (a := 2) (y := S1 * S1 + S2 * S2) (b := 32) lm ⟨by grind, by grind⟩
  have g2 := mulLe (x := n) (a := 2) (y := T1 * T1 + T2 * T2) (b := 32) ln ⟨by grind, by grind⟩
  obtain ⟨E1, hE1⟩ : ∃ E, E = 1 / 2 * m * (S1 * S1 + S2 * S2) := ⟨_, rfl⟩
  obtain ⟨E2, hE2⟩ : ∃ E, E = 1 / 2 * n * (T1 * T1 + T2 * T2) := ⟨_, rfl⟩
  rw [← hE1] at k1
  rw [← hE2] at k2
  have g3 : Le E1 32 := by rw [hE1]; constructor <;> grind
  have g4 : Le E2 32 := by rw [hE2]; constructor <;> grind
  have t : 1 / 2 * (m * (S1 * S1 + S2 * S2)) + 1 / 2 * (n * (T1 * T1 + T2 * T2)) = E1 + E2 := by rw [hE1, hE2]; grind
  rw [t]
  clear t hE1 hE2 g1 g2 s1' s2' s3' s4' a1 a2 a3 a4 c1 c2
  obtain ⟨o, ov, e6, w6, b6, _⟩ := add64 (M := 68) w5 z4 ⟨by grind, by grind⟩ ⟨by decide +kernel, by decide +kernel⟩
  obtain ⟨r, rv, e7, w7, b7, _⟩ := cut32 (M := 69) w6 ⟨by grind, by grind⟩ ⟨by decide +kernel, by decide +kernel⟩
  exact ⟨r, rv, ⟨_, _, _, _, _, _, _, _, _, _, e1, e2, e3, e4, e5, f1, f2, f3, f4, e6, e7⟩, w7, ⟨by grind, by grind⟩, ⟨by grind, by grind⟩⟩
end

/-- The energy stays: the plain law. -/
theorem energy_law {m n nu mu P1 P2 D1 D2 x y : Rat} (h : Share m n nu mu) (A1 A2 C1 C2 R1 R2 : Rat) (a1 : A1 = P1 + nu * D1) (a2 : A2 = P2 + nu * D2) (c1 : C1 = P1 - mu * D1) (c2 : C2 = P2 - mu * D2)
    (r1 : R1 = D1 * x - D2 * y) (r2 : R2 = D1 * y + D2 * x) :
    (m * ((P1 + nu * R1) * (P1 + nu * R1) + (P2 + nu * R2) * (P2 + nu * R2)) + n * ((P1 - mu * R1) * (P1 - mu * R1) + (P2 - mu * R2) * (P2 - mu * R2))) - (m * (A1 * A1 + A2 * A2) + n * (C1 * C1 + C2 * C2)) =
      (n * mu) * ((D1 * D1 + D2 * D2) * (x * x + y * y - 1)) := by
  have hk := h.kap
  have h1 := h.one
  subst a1 a2 c1 c2
  have hR : R1 * R1 + R2 * R2 = (D1 * D1 + D2 * D2) * (x * x + y * y) := by rw [r1, r2]; grind
  have hm : m * nu * nu = n * mu * nu := by rw [hk]
  have hs : m * nu * nu + n * mu * mu = n * mu := by
    rw [hm]
    have : n * mu * nu + n * mu * mu = n * mu * (nu + mu) := by grind
    rw [this, h1, Rat.mul_one]
  have e1 : ∀ X Y : Rat, m * ((P1 + nu * X) * (P1 + nu * X) + (P2 + nu * Y) * (P2 + nu * Y)) + n * ((P1 - mu * X) * (P1 - mu * X) + (P2 - mu * Y) * (P2 - mu * Y)) = (m + n) * (P1 * P1 + P2 * P2) + (m * nu * nu + n * mu * mu) * (X * X + Y * Y) + 2 * (m * nu - n * mu) * (P1 * X + P2 * Y) := by
    intro X Y
    grind
  rw [e1, e1, hs, hR, hk]
  grind

/-- How great a difference of two drawn speeds is. -/
theorem diff_abs {n : Int} (h : n ≠ 0) (h0 : -16 ≤ n) (h1 : n ≤ 16) : 1 / 8 ≤ ((n : Rat) / 8).abs ∧ ((n : Rat) / 8).abs ≤ 2 := by
  have a1 := cast_le h0
  have a2 := cast_le h1
  have e1 : ((1 : Int) : Rat) = 1 := rfl
  have e2 : ((-1 : Int) : Rat) = -1 := rfl
  have e3 : ((16 : Int) : Rat) = 16 := rfl
  have e4 : ((-16 : Int) : Rat) = -16 := rfl
  rw [e4] at a1
  rw [e3] at a2
  rcases Int.lt_or_gt_of_ne h with h | h
  · have h2 := cast_le (show n ≤ -1 by omega)
    rw [e2] at h2
    rw [Rat.abs_of_nonpos (by grind)]
    constructor <;> grind
  · have h2 := cast_le (show 1 ≤ n by omega)
    rw [e1] at h2
    rw [Rat.abs_of_nonneg (by grind)]
    constructor <;> grind

theorem diff_B {u v : Int} (hu0 : -16 ≤ u) (hu1 : u ≤ 16) (hv0 : -16 ≤ v) (hv1 : v ≤ 16) (h0 : ¬ (u = 0 ∧ v = 0)) :
    ∃ B : Rat, 1 / 8 ≤ B ∧ B ≤ 2 ∧ Le ((u : Rat) / 8) B ∧ Le ((v : Rat) / 8) B ∧ B * B ≤ (u : Rat) / 8 * ((u : Rat) / 8) + (v : Rat) / 8 * ((v : Rat) / 8) := by
  have a1 := abs_sq ((u : Rat) / 8)
  have a2 := abs_sq ((v : Rat) / 8)
  have b1 := abs_le_self ((u : Rat) / 8)
  have b2 := abs_le_self ((v : Rat) / 8)
  have n1' : 0 ≤ ((u : Rat) / 8).abs := Rat.abs_nonneg
  have n2' : 0 ≤ ((v : Rat) / 8).abs := Rat.abs_nonneg
  have z8 : ((0 : Int) : Rat) / 8 = 0 := by decide +kernel
  have z0 : (0 : Rat).abs = 0 := by decide +kernel
  have m1 : ((u : Rat) / 8).abs ≤ 2 := by
    by_cases h : u = 0
    · subst h; rw [z8, z0]; decide +kernel
    · exact (diff_abs h hu0 hu1).2
  have m2 : ((v : Rat) / 8).abs ≤ 2 := by
    by_cases h : v = 0
    · subst h; rw [z8, z0]; decide +kernel
    · exact (diff_abs h hv0 hv1).2
  have hbig : 1 / 8 ≤ ((u : Rat) / 8).abs ∨ 1 / 8 ≤ ((v : Rat) / 8).abs := by
    by_cases hs0 : u = 0
    · right
      exact (diff_abs (fun h => h0 ⟨hs0, h⟩) hv0 hv1).1
    · left
      exact (diff_abs hs0 hu0 hu1).1
  have q1 := sq_nonneg ((u : Rat) / 8)
  have q2 := sq_nonneg ((v : Rat) / 8)
  generalize ((u : Rat) / 8).abs = p at *
  generalize ((v : Rat) / 8).abs = r at *
  rcases Rat.le_total (a := p) (b := r) with h | h
  · exact ⟨r, by grind, m2, ⟨by grind, by grind⟩, b2, by grind⟩
  · exact ⟨p, by grind, m1, b1, ⟨by grind, by grind⟩, by grind⟩

/-- The length of the difference stays: the plain reckoning. -/
theorem length_law {L L' D1 D2 R1 R2 dx dy x y E : Rat} (hE0 : 1 / 8 ≤ E) (hE1 : E ≤ 2) (l1 : Le D1 E) (l2 : Le D2 E) (hE : E * E ≤ D1 * D1 + D2 * D2) (hxy : A (x * x + y * y) 1 (1 / 1000000))
    (r1 : R1 = D1 * x - D2 * y) (r2 : R2 = D1 * y + D2 * x) (hx : A dx R1 (1 / 39000)) (hy : A dy R2 (1 / 39000)) (h0 : 0 ≤ L) (h0' : 0 ≤ L') (hL : A (L * L) (D1 * D1 + D2 * D2) (E * E / 100000))
    (hL' : A (L' * L') (dx * dx + dy * dy) ((3 / 2 * E) * (3 / 2 * E) / 100000)) : Le (L - L') (1 / 2000) := by
  have q1 := mulLe l1 l1
  have q2 := mulLe l2 l2
  have s1 := sq_nonneg D1
  have s2 := sq_nonneg D2
  have hD : D1 * D1 + D2 * D2 ≤ 2 * (E * E) := by grind
  have hR : R1 * R1 + R2 * R2 = (D1 * D1 + D2 * D2) * (x * x + y * y) := by rw [r1, r2]; grind
  have hN := mulLe (x := D1 * D1 + D2 * D2) (a := 2 * (E * E)) ⟨by grind, by grind⟩ hxy
  have hRR : A (R1 * R1 + R2 * R2) (D1 * D1 + D2 * D2) (2 * (E * E) * (1 / 1000000)) := by
    rw [hR]
    constructor <;> grind
  have t1 := sq_nonneg R1
  have t2 := sq_nonneg R2
  have hEE : 0 ≤ E * E := sq_nonneg E
  have lR1 : Le R1 (3 / 2 * E) := by
    constructor
    · have : -R1 ≤ 3 / 2 * E := le_of_sq (by grind) (by grind)
      grind
    · exact le_of_sq (by grind) (by grind)
  have lR2 : Le R2 (3 / 2 * E) := by
    constructor
    · have : -R2 ≤ 3 / 2 * E := le_of_sq (by grind) (by grind)
      grind
    · exact le_of_sq (by grind) (by grind)
  have o1 := mulA hx hx lR1 lR1
  have o2 := mulA hy hy lR2 lR2
  have hLE : 99 / 100 * E ≤ L := le_of_sq h0 (by grind)
  clear lR1 lR2 t1 t2 hR hN q1 q2 s1 s2 hx hy hxy r1 r2
  have hEq : E * E ≤ 2 * E := by
    have := Rat.mul_le_mul_of_nonneg_left hE1 (show 0 ≤ E by grind)
    grind
  have hd : Le (L * L - L' * L') (1 / 2000 * (99 / 100 * E)) := by
    constructor <;> grind
  refine le_of_part (p := L + L') (p0 := 99 / 100 * E) ?_ (by grind) (by grind) (by decide +kernel)
  have : (L - L') * (L + L') = L * L - L' * L' := by grind
  rw [this]
  exact hd

end Go.Proofs.Ytgblehdamgliaaa
