/-
  The words of a meeting as numbers with errors.
-/
import Derived.Test.YtgblehdamgliaaaN7
import Derived.Test.YtgblehdamgliaaaW17
set_option linter.unusedVariables false
set_option linter.unusedSimpArgs false
namespace Go.Proofs.Ytgblehdamgliaaa
open FT

/-- The pair's speed. -/
theorem between_num {a b c d ms mq : Nat} {A1 A2 C1 C2 m n B : Rat} (h1 : V32 a A1) (h2 : V32 b A2) (h3 : V32 c C1) (h4 : V32 d C2) (hm : V32 ms m) (hn : V32 mq n) (l1 : Le A1 B) (l2 : Le A2 B) (l3 : Le C1 B) (l4 : Le C2 B)
    (hB0 : 1 / 10 ^ 8 ≤ B) (hB1 : B ≤ 5) (m0 : 1 / 4 ≤ m) (m1 : m ≤ 2) (n0 : 1 / 4 ≤ n) (n1 : n ≤ 2) {P1 P2 : Rat} (hP1 : P1 * (m + n) = m * A1 + n * C1) (hP2 : P2 * (m + n) = m * A2 + n * C2) :
    ∃ r i p q, betweenB a b c d ms mq = some (r, i) ∧ V32 r p ∧ V32 i q ∧ A p P1 (B / 250000) ∧ A q P2 (B / 250000) := by
  have lm : Le m 2 := ⟨by grind, by grind⟩
  have ln : Le n 2 := ⟨by grind, by grind⟩
  have k1 := mulLe l1 lm
  have k2 := mulLe l2 lm
  have k3 := mulLe l3 ln
  have k4 := mulLe l4 ln
  obtain ⟨r1, v1, e1, w1, b1, _⟩ := mul32 (M := 2 * B) h1 hm ⟨by grind, by grind⟩ ⟨by grind, by grind⟩
  obtain ⟨r2, v2, e2, w2, b2, _⟩ := mul32 (M := 2 * B) h2 hm ⟨by grind, by grind⟩ ⟨by grind, by grind⟩
  obtain ⟨r3, v3, e3, w3, b3, _⟩ := mul32 (M := 2 * B) h3 hn ⟨by grind, by grind⟩ ⟨by grind, by grind⟩
  obtain ⟨r4, v4, e4, w4, b4, _⟩ := mul32 (M := 2 * B) h4 hn ⟨by grind, by grind⟩ ⟨by grind, by grind⟩
  obtain ⟨r5, v5, e5, w5, b5, _⟩ := add32 (M := 5 * B) w1 w3 ⟨by grind, by grind⟩ ⟨by grind, by grind⟩
  obtain ⟨r6, v6, e6, w6, b6, _⟩ := add32 (M := 5 * B) w2 w4 ⟨by grind, by grind⟩ ⟨by grind, by grind⟩
  obtain ⟨t, T, e7, w7, b7, _⟩ := add32 (M := 4) hm hn ⟨by grind, by grind⟩ ⟨by decide +kernel, by decide +kernel⟩
  have hT : 499 / 1000 ≤ T := by grind
  -- the sums are small beside the masses
  have j1 : Le (m * A1 + n * C1) (B * (m + n)) := by
    have z1 := mulLe (x := m) (y := A1) (a := m) (b := B) ⟨by grind, by grind⟩ l1
    have z2 := mulLe (x := n) (y := C1) (a := n) (b := B) ⟨by grind, by grind⟩ l3
    constructor <;> grind
  have j2 : Le (m * A2 + n * C2) (B * (m + n)) := by
    have z1 := mulLe (x := m) (y := A2) (a := m) (b := B) ⟨by grind, by grind⟩ l2
    have z2 := mulLe (x := n) (y := C2) (a := n) (b := B) ⟨by grind, by grind⟩ l4
    constructor <;> grind
  have hBT : A (B * T) (B * (m + n)) (B / 1000000) := by
    have := mulLe (x := B) (a := B) ⟨by grind, by grind⟩ b7
    constructor <;> grind
  have hB5 : 49 / 100 * B ≤ B * T := by
    have := Rat.mul_le_mul_of_nonneg_left hT (show 0 ≤ B by grind)
    grind
  obtain ⟨re, im, p, q, X, Y, e8, w8, w9, x1, x2, b8, b9⟩ := quo_real (R := B) w5 w6 w7 (Rat.abs_of_nonneg (by grind)) (by grind) (by grind) (by grind) (by grind) ⟨by grind, by grind⟩ ⟨by grind, by grind⟩
  have lX : Le X (11 / 10 * B) := div_le (V := T) (W := T) (by rw [x1]; constructor <;> grind) (Rat.abs_of_nonneg (by grind)) (by grind)
  have lY : Le Y (11 / 10 * B) := div_le (V := T) (W := T) (by rw [x2]; constructor <;> grind) (Rat.abs_of_nonneg (by grind)) (by grind)
  have d1 : Le (X - P1) (35 / 10 ^ 7 * B) := by
    have z := mulLe lX b7
    have h := le_of_mul' (d := X - P1) (p := m + n) (e := 17 / 10 ^ 7 * B) (p0 := 1 / 2) (by
      have : (X - P1) * (m + n) = X * T - X * (T - (m + n)) - P1 * (m + n) := by grind
      rw [this, x1, hP1]
      constructor <;> grind) (by grind) (by decide +kernel)
    constructor <;> grind
  have d2 : Le (Y - P2) (35 / 10 ^ 7 * B) := by
    have z := mulLe lY b7
    have h := le_of_mul' (d := Y - P2) (p := m + n) (e := 17 / 10 ^ 7 * B) (p0 := 1 / 2) (by
      have : (Y - P2) * (m + n) = Y * T - Y * (T - (m + n)) - P2 * (m + n) := by grind
      rw [this, x2, hP2]
      constructor <;> grind) (by grind) (by decide +kernel)
    constructor <;> grind
  refine ⟨re, im, p, q, ?_, w8, w9, ⟨by grind, by grind⟩, ⟨by grind, by grind⟩⟩
  unfold betweenB scaleC plusC
  simp only [e1, e2, e3, e4, e5, e6, e7, e8, Option.bind_eq_bind, Option.bind_some, Option.pure_def]

/-- What a meeting's words stand for. -/
structure MeetV (B P1 P2 nu mu R1 R2 p1 p2 o1 o2 t1 t2 : Rat) : Prop where
  p1 : A p1 P1 (B / 250000)
  p2 : A p2 P2 (B / 250000)
  o1 : A o1 (P1 + nu * R1) (B / 80000)
  o2 : A o2 (P2 + nu * R2) (B / 80000)
  t1 : A t1 (P1 - mu * R1) (B / 80000)
  t2 : A t2 (P2 - mu * R2) (B / 80000)

theorem phas_le {tw re im : Nat} {x y : Rat} (h : Phas tw re im x y) : Le x (1001 / 1000) ∧ Le y (1001 / 1000) := by
  have h1 := h.one
  have sx := sq_nonneg x
  have sy := sq_nonneg y
  constructor
  · constructor
    · have : -x ≤ 1001 / 1000 := le_of_sq (by decide +kernel) (by grind)
      grind
    · exact le_of_sq (by decide +kernel) (by grind)
  · constructor
    · have : -y ≤ 1001 / 1000 := le_of_sq (by decide +kernel) (by grind)
      grind
    · exact le_of_sq (by decide +kernel) (by grind)

theorem share_num {mq t : Nat} {n m T nu : Rat} (hn : V32 mq n) (ht : V32 t T) (hT : A T (m + n) (1 / 2000000)) (m0 : 1 / 4 ≤ m) (m1 : m ≤ 2) (n0 : 1 / 4 ≤ n) (n1 : n ≤ 2) (hnu : nu * (m + n) = n) :
    ∃ r v, fb .quo .f32 mq t = some r ∧ V32 r v ∧ A v nu (14 / 10 ^ 7) ∧ 0 ≤ nu ∧ nu ≤ 1 := by
  have hT0 : 499 / 1000 ≤ T := by grind
  have hTn : T ≠ 0 := by grind
  have h0 : 0 ≤ nu ∧ nu ≤ 1 := by
    constructor
    · exact Rat.le_of_mul_le_mul_right (c := m + n) (by grind) (by grind)
    · exact Rat.le_of_mul_le_mul_right (c := m + n) (by grind) (by grind)
  obtain ⟨q, hq⟩ : ∃ q, q = n / T := ⟨_, rfl⟩
  have hqT : q * T = n := by rw [hq, Rat.div_mul_cancel hTn]
  have hd : Le (q - nu) (102 / 10 ^ 8) := by
    have z := mulLe (x := nu) (a := 1) ⟨by grind, by grind⟩ hT
    have h := le_of_mul' (d := q - nu) (p := T) (e := 1 / 2000000) (p0 := 499 / 1000) (by
      have : (q - nu) * T = q * T - nu * (m + n) - nu * (T - (m + n)) := by grind
      rw [this, hqT, hnu]
      constructor <;> grind) hT0 (by decide +kernel)
    constructor <;> grind
  obtain ⟨r, v, e1, w1, b1⟩ := quo32 (M := 101 / 100) hn ht hTn (by rw [← hq]; constructor <;> grind) ⟨by decide +kernel, by decide +kernel⟩
  rw [← hq] at b1
  exact ⟨r, v, e1, w1, ⟨by grind, by grind⟩, h0.1, h0.2⟩

theorem meet_num {a b c d ms mq tw re im : Nat} {A1 A2 C1 C2 m n B x y : Rat} (h1 : V32 a A1) (h2 : V32 b A2) (h3 : V32 c C1) (h4 : V32 d C2) (hm : V32 ms m) (hn : V32 mq n) (l1 : Le A1 B) (l2 : Le A2 B) (l3 : Le C1 B) (l4 : Le C2 B)
    (hB0 : 1 / 10 ^ 8 ≤ B) (hB1 : B ≤ 5) (m0 : 1 / 4 ≤ m) (m1 : m ≤ 2) (n0 : 1 / 4 ≤ n) (n1 : n ≤ 2) (hph : Phas tw re im x y) {P1 P2 nu mu : Rat} (hP1 : P1 * (m + n) = m * A1 + n * C1) (hP2 : P2 * (m + n) = m * A2 + n * C2) (hnu : nu * (m + n) = n) (hmu : mu * (m + n) = m) :
    ∃ pr pi o1 o2 t1 t2 p1 p2 u1 u2 w1 w2, Meet a b ms c d mq re im pr pi o1 o2 t1 t2 ∧ V32 pr p1 ∧ V32 pi p2 ∧ V32 o1 u1 ∧ V32 o2 u2 ∧ V32 t1 w1 ∧ V32 t2 w2 ∧
      MeetV B P1 P2 nu mu ((A1 - C1) * x - (A2 - C2) * y) ((A1 - C1) * y + (A2 - C2) * x) p1 p2 u1 u2 w1 w2 := by
  obtain ⟨pr, pi, p1, p2, e0, y1, y2, z1, z2⟩ := between_num h1 h2 h3 h4 hm hn l1 l2 l3 l4 hB0 hB1 m0 m1 n0 n1 hP1 hP2
  obtain ⟨lx, ly⟩ := phas_le hph
  have lP1 : Le P1 B := by
    have k1 := mulLe (x := m) (y := A1) (a := m) (b := B) ⟨by grind, by grind⟩ l1
    have k2 := mulLe (x := n) (y := C1) (a := n) (b := B) ⟨by grind, by grind⟩ l3
    constructor
    · exact Rat.le_of_mul_le_mul_right (c := m + n) (by grind) (by grind)
    · exact Rat.le_of_mul_le_mul_right (c := m + n) (by grind) (by grind)
  have lP2 : Le P2 B := by
    have k1 := mulLe (x := m) (y := A2) (a := m) (b := B) ⟨by grind, by grind⟩ l2
    have k2 := mulLe (x := n) (y := C2) (a := n) (b := B) ⟨by grind, by grind⟩ l4
    constructor
    · exact Rat.le_of_mul_le_mul_right (c := m + n) (by grind) (by grind)
    · exact Rat.le_of_mul_le_mul_right (c := m + n) (by grind) (by grind)
  have D1 : Le (A1 - C1) (2 * B) := ⟨by grind, by grind⟩
  have D2 : Le (A2 - C2) (2 * B) := ⟨by grind, by grind⟩
  obtain ⟨r1, v1, e1, w1, b1, _⟩ := sub32 (M := 2 * B) h1 h3 D1 ⟨by grind, by grind⟩
  obtain ⟨r2, v2, e2, w2, b2, _⟩ := sub32 (M := 2 * B) h2 h4 D2 ⟨by grind, by grind⟩
  obtain ⟨r3, r4, v3, v4, e3, w3, w4, b3, b4⟩ := mulC_num (M := 201 / 100 * B) (N := 1001 / 1000) w1 w2 hph.vx hph.vy ⟨by grind, by grind⟩ ⟨by grind, by grind⟩ lx ly ⟨by grind, by grind⟩ ⟨by decide +kernel, by decide +kernel⟩
  have k1 := mulLe b1 lx
  have k2 := mulLe b2 ly
  have k3 := mulLe b1 ly
  have k4 := mulLe b2 lx
  have g1 := mulLe D1 lx
  have g2 := mulLe D2 ly
  have g3 := mulLe D1 ly
  have g4 := mulLe D2 lx
  obtain ⟨R1, hR1⟩ : ∃ R1, R1 = (A1 - C1) * x - (A2 - C2) * y := ⟨_, rfl⟩
  obtain ⟨R2, hR2⟩ : ∃ R2, R2 = (A1 - C1) * y + (A2 - C2) * x := ⟨_, rfl⟩
  rw [← hR1, ← hR2]
  have c1 : A v3 R1 (16 / 10 ^ 7 * B) := ⟨by grind, by grind⟩
  have c2 : A v4 R2 (16 / 10 ^ 7 * B) := ⟨by grind, by grind⟩
  have lR1 : Le R1 (401 / 100 * B) := ⟨by grind, by grind⟩
  have lR2 : Le R2 (401 / 100 * B) := ⟨by grind, by grind⟩
  clear k1 k2 k3 k4 g1 g2 g3 g4 b1 b2 b3 b4 hR1 hR2
  obtain ⟨t, T, e4, w5, b5, _⟩ := add32 (M := 4) hm hn ⟨by grind, by grind⟩ ⟨by decide +kernel, by decide +kernel⟩
  have b5' : A T (m + n) (1 / 2000000) := ⟨by grind, by grind⟩
  have b5'' : A T (n + m) (1 / 2000000) := ⟨by grind, by grind⟩
  obtain ⟨r5, v5, e5, w6, b6, u0, u1⟩ := share_num hn w5 b5' m0 m1 n0 n1 hnu
  obtain ⟨r6, v6, e6, w7, b7, u2, u3⟩ := share_num hm w5 b5'' n0 n1 m0 m1 (nu := mu) (by rw [← hmu]; grind)
  have lnu : Le nu 1 := ⟨by grind, by grind⟩
  have lmu : Le mu 1 := ⟨by grind, by grind⟩
  have q1 := mulA c1 b6 lR1 lnu
  have q2 := mulA c2 b6 lR2 lnu
  have q3 := mulA c1 b7 lR1 lmu
  have q4 := mulA c2 b7 lR2 lmu
  have s1 := mulLe lR1 lnu
  have s2 := mulLe lR2 lnu
  have s3 := mulLe lR1 lmu
  have s4 := mulLe lR2 lmu
  obtain ⟨x1, j1, f1, i1, a1, _⟩ := mul32 (M := 402 / 100 * B) w3 w6 ⟨by grind, by grind⟩ ⟨by grind, by grind⟩
  obtain ⟨x2, j2, f2, i2, a2, _⟩ := mul32 (M := 402 / 100 * B) w4 w6 ⟨by grind, by grind⟩ ⟨by grind, by grind⟩
  obtain ⟨x3, j3, f3, i3, a3, _⟩ := mul32 (M := 402 / 100 * B) w3 w7 ⟨by grind, by grind⟩ ⟨by grind, by grind⟩
  obtain ⟨x4, j4, f4, i4, a4, _⟩ := mul32 (M := 402 / 100 * B) w4 w7 ⟨by grind, by grind⟩ ⟨by grind, by grind⟩
  obtain ⟨x5, j5, f5, i5, a5, _⟩ := add32 (M := 51 / 10 * B) y1 i1 ⟨by grind, by grind⟩ ⟨by grind, by grind⟩
  obtain ⟨x6, j6, f6, i6, a6, _⟩ := add32 (M := 51 / 10 * B) y2 i2 ⟨by grind, by grind⟩ ⟨by grind, by grind⟩
  obtain ⟨x7, j7, f7, i7, a7, _⟩ := sub32 (M := 51 / 10 * B) y1 i3 ⟨by grind, by grind⟩ ⟨by grind, by grind⟩
  obtain ⟨x8, j8, f8, i8, a8, _⟩ := sub32 (M := 51 / 10 * B) y2 i4 ⟨by grind, by grind⟩ ⟨by grind, by grind⟩
  refine ⟨pr, pi, x5, x6, x7, x8, p1, p2, j5, j6, j7, j8, ⟨e0, ⟨r1, r2, r3, r4, t, r5, r6, x1, x2, x3, x4, ?_, e3, e4, e5, e6, ?_, ?_, ?_, ?_⟩, ⟨_, _, y1, y2⟩, ⟨_, _, i5, i6⟩, ⟨_, _, i7, i8⟩⟩, y1, y2, i5, i6, i7, i8, ⟨z1, z2, ⟨by grind, by grind⟩, ⟨by grind, by grind⟩, ⟨by grind, by grind⟩, ⟨by grind, by grind⟩⟩⟩
  · unfold lessC
    simp only [e1, e2, Option.bind_eq_bind, Option.bind_some, Option.pure_def]
  · unfold scaleC
    simp only [f1, f2, Option.bind_eq_bind, Option.bind_some, Option.pure_def]
  · unfold scaleC
    simp only [f3, f4, Option.bind_eq_bind, Option.bind_some, Option.pure_def]
  · unfold plusC
    simp only [f5, f6, Option.bind_eq_bind, Option.bind_some, Option.pure_def]
  · unfold lessC
    simp only [f7, f8, Option.bind_eq_bind, Option.bind_some, Option.pure_def]

end Go.Proofs.Ytgblehdamgliaaa
