/-
  What the law's measures of words give as numbers with errors.
-/
import Derived.Test.YtgblehdamgliaaaW8
import Derived.Test.YtgblehdamgliaaaAng
set_option linter.unusedVariables false
set_option linter.unusedSimpArgs false
namespace Go.Proofs.Ytgblehdamgliaaa
open FT

/-- 1.0 and 0.001 as 64-bit words. -/
def one64 : Nat := 4607182418800017408
def milli : Nat := 4562254508917369340
/-- Not greater; less. -/
def NotGt (x y : Nat) : Prop := (FloatKind.f64.format.order x y == some .gt) = false
def IsLt (x y : Nat) : Prop := (FloatKind.f64.format.order x y == some .lt) = true

/-- milli * (1 + the length of a complex number). -/
def boundB (a b : Nat) : Option Nat := do
  let l ← longC a b
  let l ← cv64 l
  let s ← fb .add .f64 one64 l
  fb .mul .f64 milli s

/-- How far the length of one number is from 1, and from that of another one. -/
def longGap1 (a b : Nat) : Option Nat := do
  let l ← longC a b
  let l ← cv64 l
  gapB l one64
def longGap (a b c d : Nat) : Option Nat := do
  let l ← longC a b
  let l ← cv64 l
  let k ← longC c d
  let k ← cv64 k
  gapB l k

theorem one64_val : V64 one64 1 := V64_of (by decide +kernel)
theorem one32_val : V32 1065353216 1 := V32_of (by decide +kernel)
theorem milli_val : ∃ q, V64 milli q ∧ 999 / 1000000 ≤ q ∧ q ≤ 1001 / 1000000 := ⟨_, V64_some (by decide +kernel), by decide +kernel, by decide +kernel⟩

theorem notGt {x y : Nat} {a b : Rat} (hx : V64 x a) (hy : V64 y b) (h : a ≤ b) : NotGt x y := by
  have h1 := order_eq hx hy
  unfold NotGt
  have h2 : FloatKind.f64.format.order x y = Ieee.double.order x y := rfl
  rw [h2, h1]
  by_cases h3 : a < b
  · rw [if_pos h3]; rfl
  · rw [if_neg h3, if_pos (Rat.le_antisymm h (Rat.not_lt.1 h3))]; rfl
theorem isLt {x y : Nat} {a b : Rat} (hx : V64 x a) (hy : V64 y b) (h : a < b) : IsLt x y := by
  have h1 := order_eq hx hy
  unfold IsLt
  have h2 : FloatKind.f64.format.order x y = Ieee.double.order x y := rfl
  rw [h2, h1, if_pos h]
  rfl

section
variable {x y z t : Nat} {a b c d M N : Rat}

theorem gap_num (hx : V64 x a) (hy : V64 y b) {e : Rat} (h : Le (a - b) e) (hf : Fine e) : ∃ g v, gapB x y = some g ∧ V64 g v ∧ v ≤ (1 + 1 / 1000) * e := by
  have h' : Le (b - a) e := by
    obtain ⟨h1, h2⟩ := h
    constructor <;> grind
  have hl := hf.lo
  obtain ⟨r1, v1, e1, w1, b1, _⟩ := sub64 hx hy h hf
  obtain ⟨r2, v2, e2, w2, b2, _⟩ := sub64 hy hx h' hf
  have c1 : v1 ≤ (1 + 1 / 1000) * e := by grind
  have c2 : v2 ≤ (1 + 1 / 1000) * e := by grind
  unfold gapB
  simp only [e1, e2, Option.bind_eq_bind, Option.bind_some]
  unfold maxB
  rw [order_eq w1 w2]
  by_cases h3 : v1 < v2
  · rw [if_pos h3]
    exact ⟨_, _, rfl, w2, c2⟩
  · rw [if_neg h3]
    by_cases h4 : v1 = v2
    · rw [if_pos h4]
      by_cases h5 : (Ieee.double.read r1).neg = true
      · simp only [h5, if_true]
        exact ⟨_, _, rfl, w2, c2⟩
      · simp only [h5]
        exact ⟨_, _, rfl, w1, c1⟩
    · rw [if_neg h4]
      exact ⟨_, _, rfl, w1, c1⟩

theorem apart_num (hx : V32 x a) (hy : V32 y b) (hz : V32 z c) (ht : V32 t d) {e : Rat} (h1 : Le (a - c) e) (h2 : Le (b - d) e) (hM : Mid e) (hM' : Mid (2 * e)) :
    ∃ g v, apartB x y z t = some g ∧ V64 g v ∧ v ≤ 8 / 5 * e := by
  have hl := hM.lo
  have hh := hM.hi
  obtain ⟨r1, v1, e1, w1, b1, _⟩ := sub32 hx hz h1 ⟨by grind, by grind⟩
  obtain ⟨r2, v2, e2, w2, b2, _⟩ := sub32 hy ht h2 ⟨by grind, by grind⟩
  obtain ⟨l, L, k1, k2, k3, k4, k5⟩ := longC_num (M := (1 + 1 / 1000) * e) w1 w2 ⟨by grind, by grind⟩ ⟨by grind, by grind⟩ ⟨by grind, by have := hM'.hi; grind⟩
  obtain ⟨g, j1, j2⟩ := widen k2
  refine ⟨g, L, ?_, j2, by grind⟩
  unfold apartB lessC
  simp only [e1, e2, k1, j1, Option.bind_eq_bind, Option.bind_some, Option.pure_def]

theorem bound_num (hx : V32 x a) (hy : V32 y b) (ha : Le a M) (hb : Le b M) (hM : Mid M) (hM6 : M ≤ 1000000) :
    ∃ r v L, boundB x y = some r ∧ V64 r v ∧ 0 ≤ L ∧ A (L * L) (a * a + b * b) (M * M / 400000) ∧ 9 / 10000 * (1 + L) < v := by
  obtain ⟨l, L, k1, k2, k3, k4, k5⟩ := longC_num hx hy ha hb hM
  obtain ⟨g, j1, j2⟩ := widen k2
  have hl := hM.lo
  have hh := hM.hi
  obtain ⟨q, q1, q2, q3⟩ := milli_val
  obtain ⟨r1, v1, e1, w1, b1, _⟩ := add64 (M := 1 + 3 / 2 * M) one64_val j2 ⟨by grind, by grind⟩ ⟨by grind, by grind⟩
  have hq : Le (q * v1) (1 + 3 / 2 * M) := by
    have := mulLe (x := q) (y := v1) (a := 1 / 100) (b := 2 * (1 + 3 / 2 * M)) ⟨by grind, by grind⟩ ⟨by grind, by grind⟩
    obtain ⟨a1, a2⟩ := this
    constructor <;> grind
  have hp1 : 0 ≤ v1 := by grind
  have hq2 : 999 / 1000000 * v1 ≤ q * v1 := Rat.mul_le_mul_of_nonneg_right q2 hp1
  have hq3 : q * v1 ≤ 1001 / 1000000 * v1 := Rat.mul_le_mul_of_nonneg_right q3 hp1
  obtain ⟨r2, v2, e2, w2, b2, _⟩ := mul64 (M := 1 + 3 / 2 * M) q1 w1 hq ⟨by grind, by grind⟩
  refine ⟨r2, v2, L, ?_, w2, k3, k5, ?_⟩
  · unfold boundB
    simp only [k1, j1, e1, e2, Option.bind_eq_bind, Option.bind_some]
  · grind

theorem sq_nonneg (a : Rat) : 0 ≤ a * a := by
  rcases Rat.le_total (a := 0) (b := a) with h | h
  · exact Rat.mul_nonneg h h
  · have := Rat.mul_nonneg (show 0 ≤ -a by grind) (show 0 ≤ -a by grind)
    grind

/-- A divided small difference. -/
theorem le_of_mul {d p e : Rat} (h : Le (d * p) e) (hp : 1 / 2 ≤ p) : Le d (2 * e) := by
  obtain ⟨h1, h2⟩ := h
  rcases Rat.le_total (a := 0) (b := d) with h3 | h3
  · have := Rat.mul_le_mul_of_nonneg_left hp h3
    constructor <;> grind
  · have := Rat.mul_le_mul_of_nonneg_left hp (show 0 ≤ -d by grind)
    constructor <;> grind

/-- The turn of a number t: the cosine and the sine of an angle, nearly. -/
theorem turn_num {T : Nat} {t : Rat} (hT : V32 T t) (ht : Le t 5) :
    ∃ re im u v C S, quoC 1065353216 (neg32 T) 1065353216 T = some (re, im) ∧ V32 re u ∧ V32 im v ∧ A u C (3 / 10000000) ∧ A v S (3 / 10000000) ∧ C * (1 + t * t) = 1 - t * t ∧ S * (1 + t * t) = -(2 * t) ∧ C * C + S * S = 1 ∧ Le C 1 ∧ Le S 1 := by
  have hn := neg32_val hT
  have ht' : Le (-t) 5 := by
    obtain ⟨h1, h2⟩ := ht
    constructor <;> grind
  have m5 : Mid 5 := ⟨by decide +kernel, by decide +kernel⟩
  obtain ⟨pr, pi, u, v, e1, w1, w2, b1, b2⟩ := prod_num (M := 5) (N := 5) one32_val hn one32_val hn ⟨by decide +kernel, by decide +kernel⟩ ht' ⟨by decide +kernel, by decide +kernel⟩ ht' m5 m5
  obtain ⟨q, w, e2, w3, p0, b3⟩ := powB_num (M := 5) one32_val hT ⟨by decide +kernel, by decide +kernel⟩ ht m5
  have hsq := sq_nonneg t
  have hK : 1 + t * t ≠ 0 := by grind
  obtain ⟨C, hC⟩ : ∃ C, C = (1 - t * t) / (1 + t * t) := ⟨_, rfl⟩
  obtain ⟨S, hS⟩ : ∃ S, S = -(2 * t) / (1 + t * t) := ⟨_, rfl⟩
  have hC1 : C * (1 + t * t) = 1 - t * t := by rw [hC, Rat.div_mul_cancel hK]
  have hS1 : S * (1 + t * t) = -(2 * t) := by rw [hS, Rat.div_mul_cancel hK]
  have hCS : C * C + S * S = 1 := by
    have h1 : (C * C + S * S - 1) * ((1 + t * t) * (1 + t * t)) = 0 := by
      have : (C * C + S * S - 1) * ((1 + t * t) * (1 + t * t)) = (C * (1 + t * t)) * (C * (1 + t * t)) + (S * (1 + t * t)) * (S * (1 + t * t)) - (1 + t * t) * (1 + t * t) := by grind
      rw [this, hC1, hS1]
      grind
    rcases Rat.mul_eq_zero.1 h1 with h2 | h2
    · grind
    · rcases Rat.mul_eq_zero.1 h2 with h3 | h3 <;> exact absurd h3 hK
  have hCl : Le C 1 := by
    have := sq_nonneg S
    constructor
    · have : -C ≤ 1 := le_of_sq (by grind) (by grind)
      grind
    · exact le_of_sq (by grind) (by grind)
  have hSl : Le S 1 := by
    have := sq_nonneg C
    constructor
    · have : -S ≤ 1 := le_of_sq (by grind) (by grind)
      grind
    · exact le_of_sq (by grind) (by grind)
  clear hC hS
  have hw : 1 / 2 ≤ w := by grind
  have hwne : w ≠ 0 := by grind
  -- the exact quotients are near C and S
  have c1 : Le (u / w - C) (2 * (1 / 10 ^ 12)) := by
    refine le_of_mul (p := w) ?_ hw
    have h1 : (u / w - C) * w = u - C * w := by rw [show (u / w - C) * w = u / w * w - C * w from by grind, Rat.div_mul_cancel hwne]
    rw [h1]
    have h2 := mulLe hCl b3
    constructor <;> grind
  have c2 : Le (v / w - S) (2 * (1 / 10 ^ 12)) := by
    refine le_of_mul (p := w) ?_ hw
    have h1 : (v / w - S) * w = v - S * w := by rw [show (v / w - S) * w = v / w * w - S * w from by grind, Rat.div_mul_cancel hwne]
    rw [h1]
    have h2 := mulLe hSl b3
    constructor <;> grind
  obtain ⟨r1, v1, e3, w4, b4⟩ := quo64 (M := 1 + 1 / 1000) w1 w3 hwne ⟨by grind, by grind⟩ ⟨by grind, by grind⟩
  obtain ⟨r2, v2, e4, w5, b5⟩ := quo64 (M := 1 + 1 / 1000) w2 w3 hwne ⟨by grind, by grind⟩ ⟨by grind, by grind⟩
  obtain ⟨r3, v3, e5, w6, b6, _⟩ := cut32 (M := 1 + 1 / 500) w4 ⟨by grind, by grind⟩ ⟨by grind, by grind⟩
  obtain ⟨r4, v4, e6, w7, b7, _⟩ := cut32 (M := 1 + 1 / 500) w5 ⟨by grind, by grind⟩ ⟨by grind, by grind⟩
  refine ⟨r3, r4, v3, v4, C, S, ?_, w6, w7, ⟨by grind, by grind⟩, ⟨by grind, by grind⟩, hC1, hS1, hCS, hCl, hSl⟩
  unfold quoC
  simp only [e1, e2, e3, e4, e5, e6, Option.bind_eq_bind, Option.bind_some, Option.pure_def]
end

end Go.Proofs.Ytgblehdamgliaaa
