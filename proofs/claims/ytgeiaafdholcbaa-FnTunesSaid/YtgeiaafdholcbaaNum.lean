/-
  Numbers with errors: what each float operation gives, as a rational number and a bound of its error. Plain Lean: no program.
-/
import Derived.Test.YtgeiaafdholcbaaGo
set_option linter.unusedVariables false
set_option linter.unusedSimpArgs false
namespace Go.Proofs.Ytgeiaafdholcbaa
open FT

/-- At most M in absolute value; at most e away. -/
abbrev Le (x M : Rat) : Prop := -M ≤ x ∧ x ≤ M
abbrev A (v X e : Rat) : Prop := Le (v - X) e

theorem mulLe {x y a b : Rat} (hx : Le x a) (hy : Le y b) : Le (x * y) (a * b) := by
  obtain ⟨h1, h2⟩ := hx
  obtain ⟨h3, h4⟩ := hy
  have p1 : 0 ≤ (a - x) * (b + y) := Rat.mul_nonneg (by grind) (by grind)
  have p2 : 0 ≤ (a + x) * (b - y) := Rat.mul_nonneg (by grind) (by grind)
  have p3 : 0 ≤ (a - x) * (b - y) := Rat.mul_nonneg (by grind) (by grind)
  have p4 : 0 ≤ (a + x) * (b + y) := Rat.mul_nonneg (by grind) (by grind)
  constructor <;> grind

theorem mulA {x y X Y e f a b : Rat} (hx : A x X e) (hy : A y Y f) (hX : Le X a) (hY : Le Y b) : A (x * y) (X * Y) (a * f + b * e + e * f) := by
  have p1 := mulLe hX hy
  have p2 := mulLe hY hx
  have p3 := mulLe hx hy
  obtain ⟨a1, a2⟩ := p1
  obtain ⟨b1, b2⟩ := p2
  obtain ⟨c1, c2⟩ := p3
  constructor <;> grind

theorem le_of_abs {x M : Rat} (h : x.abs ≤ M) : Le x M := abs_le.1 h
theorem abs_of_le {x M : Rat} (h : Le x M) : x.abs ≤ M := abs_le.2 h

theorem unit32 : unit Ieee.single = 1 / 16777216 := by decide +kernel
theorem unit64 : unit Ieee.double = 1 / 9007199254740992 := by decide +kernel
theorem tiny32 : tiny Ieee.single ≤ 1 / 10 ^ 40 := by decide +kernel
theorem tiny64 : tiny Ieee.double ≤ 1 / 10 ^ 60 := by decide +kernel
theorem big32 : (10 : Rat) ^ 30 < pw 127 := by decide +kernel
theorem big64 : (10 : Rat) ^ 32 < pw 1023 := by decide +kernel

/-- A bound that the errors are reckoned by. -/
structure Fine (M : Rat) : Prop where
  lo : 1 / 10 ^ 25 ≤ M
  hi : M ≤ 10 ^ 27

theorem Fine.hi' {M : Rat} (h : Fine M) : M ≤ 10 ^ 29 := by
  have := h.hi
  grind

theorem rnd32 {x M : Rat} {w : Nat} (h : Rnd Ieee.single x w) (hM : Le x M) (hl : 1 / 10 ^ 25 ≤ M) (hi : M ≤ 10 ^ 29) : ∃ v, V32 w v ∧ A v x (M / 8388608) ∧ (0 ≤ x → 0 ≤ v) := by
  have h1 := abs_of_le hM
  obtain ⟨v, hv, he⟩ := h.val ok_single (by
    have h2 := big32
    rw [top32]
    grind)
  refine ⟨v, hv, ?_, fun h0 => h.nonneg ok_single h0 hv⟩
  rw [unit32] at he
  have ht := tiny32
  have hle := le_of_abs he
  obtain ⟨a1, a2⟩ := hle
  constructor <;> grind

theorem rnd64 {x M : Rat} {w : Nat} (h : Rnd Ieee.double x w) (hM : Le x M) (hl : 1 / 10 ^ 25 ≤ M) (hi : M ≤ 10 ^ 29) : ∃ v, V64 w v ∧ A v x (M / 4503599627370496) ∧ (0 ≤ x → 0 ≤ v) := by
  have h1 := abs_of_le hM
  obtain ⟨v, hv, he⟩ := h.val ok_double (by
    have h2 := big64
    rw [top64]
    grind)
  refine ⟨v, hv, ?_, fun h0 => h.nonneg ok_double h0 hv⟩
  rw [unit64] at he
  have ht := tiny64
  have hle := le_of_abs he
  obtain ⟨a1, a2⟩ := hle
  constructor <;> grind

section
variable {x y : Nat} {a b M : Rat}
theorem add32 (hx : V32 x a) (hy : V32 y b) (hM : Le (a + b) M) (hf : Fine M) : ∃ r v, fb .add .f32 x y = some r ∧ V32 r v ∧ A v (a + b) (M / 8388608) ∧ (0 ≤ a + b → 0 ≤ v) := by
  obtain ⟨r, h1, h2⟩ := add_rnd hx hy
  obtain ⟨v, h3, h4⟩ := rnd32 h2 hM hf.lo hf.hi'
  exact ⟨r, v, h1, h3, h4⟩
theorem sub32 (hx : V32 x a) (hy : V32 y b) (hM : Le (a - b) M) (hf : Fine M) : ∃ r v, fb .sub .f32 x y = some r ∧ V32 r v ∧ A v (a - b) (M / 8388608) ∧ (0 ≤ a - b → 0 ≤ v) := by
  obtain ⟨r, h1, h2⟩ := sub_rnd hx hy
  obtain ⟨v, h3, h4⟩ := rnd32 h2 hM hf.lo hf.hi'
  exact ⟨r, v, h1, h3, h4⟩
theorem mul32 (hx : V32 x a) (hy : V32 y b) (hM : Le (a * b) M) (hf : Fine M) : ∃ r v, fb .mul .f32 x y = some r ∧ V32 r v ∧ A v (a * b) (M / 8388608) ∧ (0 ≤ a * b → 0 ≤ v) := by
  obtain ⟨r, h1, h2⟩ := mul_rnd hx hy
  obtain ⟨v, h3, h4⟩ := rnd32 h2 hM hf.lo hf.hi'
  exact ⟨r, v, h1, h3, h4⟩
theorem add64 (hx : V64 x a) (hy : V64 y b) (hM : Le (a + b) M) (hf : Fine M) : ∃ r v, fb .add .f64 x y = some r ∧ V64 r v ∧ A v (a + b) (M / 4503599627370496) ∧ (0 ≤ a + b → 0 ≤ v) := by
  obtain ⟨r, h1, h2⟩ := add_rnd hx hy
  obtain ⟨v, h3, h4⟩ := rnd64 h2 hM hf.lo hf.hi'
  exact ⟨r, v, h1, h3, h4⟩
theorem sub64 (hx : V64 x a) (hy : V64 y b) (hM : Le (a - b) M) (hf : Fine M) : ∃ r v, fb .sub .f64 x y = some r ∧ V64 r v ∧ A v (a - b) (M / 4503599627370496) ∧ (0 ≤ a - b → 0 ≤ v) := by
  obtain ⟨r, h1, h2⟩ := sub_rnd hx hy
  obtain ⟨v, h3, h4⟩ := rnd64 h2 hM hf.lo hf.hi'
  exact ⟨r, v, h1, h3, h4⟩
theorem mul64 (hx : V64 x a) (hy : V64 y b) (hM : Le (a * b) M) (hf : Fine M) : ∃ r v, fb .mul .f64 x y = some r ∧ V64 r v ∧ A v (a * b) (M / 4503599627370496) ∧ (0 ≤ a * b → 0 ≤ v) := by
  obtain ⟨r, h1, h2⟩ := mul_rnd hx hy
  obtain ⟨v, h3, h4⟩ := rnd64 h2 hM hf.lo hf.hi'
  exact ⟨r, v, h1, h3, h4⟩

theorem quo_fine {a b d u M : Rat} (h : (d - a / b).abs ≤ (a / b).abs * u) (hM : Le (a / b) M) (hu0 : 0 ≤ u) (hu1 : u ≤ 1 / 16777216) : A d (a / b) (M * u) ∧ Le d (M + M / 16777216) := by
  have h1 := abs_of_le hM
  have h2 := Rat.mul_le_mul_of_nonneg_right h1 hu0
  have h3 : Le (d - a / b) (M * u) := le_of_abs (Rat.le_trans h h2)
  have hM0 : 0 ≤ M := by obtain ⟨a1, a2⟩ := hM; grind
  have h4 := Rat.mul_le_mul_of_nonneg_left hu1 hM0
  refine ⟨h3, ?_⟩
  obtain ⟨a1, a2⟩ := hM
  obtain ⟨b1, b2⟩ := h3
  constructor <;> grind

theorem quo32 (hx : V32 x a) (hy : V32 y b) (hb : b ≠ 0) (hM : Le (a / b) M) (hf : Fine M) : ∃ r v, fb .quo .f32 x y = some r ∧ V32 r v ∧ A v (a / b) (M / 4194304) := by
  obtain ⟨r, d, h1, h2, h3⟩ := div_rnd hx hy hb
  obtain ⟨h4, h5⟩ := quo_fine h3 hM (by rw [unit32]; decide +kernel) (by rw [unit32]; decide +kernel)
  rw [unit32] at h4
  have hl := hf.lo
  have hh := hf.hi
  obtain ⟨v, h6, h7, _⟩ := rnd32 (M := M + M / 16777216) h2 h5 (by grind) (by grind)
  refine ⟨r, v, h1, h6, ?_⟩
  obtain ⟨a1, a2⟩ := h4
  obtain ⟨b1, b2⟩ := h7
  constructor <;> grind

theorem quo64 (hx : V64 x a) (hy : V64 y b) (hb : b ≠ 0) (hM : Le (a / b) M) (hf : Fine M) : ∃ r v, fb .quo .f64 x y = some r ∧ V64 r v ∧ A v (a / b) (M / 2251799813685248) := by
  obtain ⟨r, d, h1, h2, h3⟩ := div_rnd hx hy hb
  obtain ⟨h4, h5⟩ := quo_fine h3 hM (by rw [unit64]; decide +kernel) (by rw [unit64]; decide +kernel)
  rw [unit64] at h4
  have hl := hf.lo
  have hh := hf.hi
  obtain ⟨v, h6, h7, _⟩ := rnd64 (M := M + M / 16777216) h2 h5 (by grind) (by grind)
  refine ⟨r, v, h1, h6, ?_⟩
  obtain ⟨a1, a2⟩ := h4
  obtain ⟨b1, b2⟩ := h7
  constructor <;> grind

theorem cut32 (hx : V64 x a) (hM : Le a M) (hf : Fine M) : ∃ r v, cv32 x = some r ∧ V32 r v ∧ A v a (M / 8388608) ∧ (0 ≤ a → 0 ≤ v) := by
  have h1 := abs_of_le hM
  have h2 := big32
  have hh := hf.hi
  obtain ⟨r, h3, h4⟩ := narrow hx (by grind)
  obtain ⟨v, h5, h6⟩ := rnd32 h4 hM hf.lo hf.hi'
  exact ⟨r, v, h3, h5, h6⟩

/-- Squares tell which of two numbers is the greater one. -/
theorem le_of_sq {x y : Rat} (hy : 0 ≤ y) (h : x * x ≤ y * y) : x ≤ y := by
  rcases Rat.le_total (a := x) (b := y) with h1 | h1
  · exact h1
  · rcases Rat.le_iff_lt_or_eq.1 h1 with h2 | h2
    · have h3 : y * y ≤ y * x := Rat.mul_le_mul_of_nonneg_left h1 hy
      have h4 : y * x < x * x := by
        have := Rat.mul_lt_mul_of_pos_right h2 (show 0 < x by grind)
        grind
      grind
    · rw [h2]; exact Rat.le_refl

/-- A square root of a number of at most D * D. -/
theorem sqrt64 {D : Rat} (hx : V64 x a) (h0 : 0 ≤ a) (hD : a ≤ D * D) (hf : Fine D) : ∃ r v, sq64 x = some r ∧ V64 r v ∧ 0 ≤ v ∧ v ≤ 2 * D ∧ A (v * v) a (D * D / 10 ^ 14) := by
  obtain ⟨r, d, h1, h2, hd0, h3⟩ := sqrt_rnd hx h0
  have hl := hf.lo
  have hh := hf.hi
  have hD0 : 0 ≤ D := by grind
  rw [unit64] at h3
  have h4 := le_of_abs h3
  obtain ⟨a1, a2⟩ := h4
  have hdd : d ≤ (1 + 1 / 1000) * D := by
    refine le_of_sq (by grind) ?_
    have hDD : 0 ≤ D * D := Rat.mul_nonneg hD0 hD0
    grind
  obtain ⟨v, h5, h6, h7⟩ := rnd64 (M := 2 * D) h2 ⟨by grind, by grind⟩ (by grind) (by grind)
  obtain ⟨b1, b2⟩ := h6
  have hmul := mulA (x := v) (y := v) (X := d) (Y := d) (e := 2 * D / 4503599627370496) (f := 2 * D / 4503599627370496) (a := 2 * D) (b := 2 * D) ⟨b1, b2⟩ ⟨b1, b2⟩ ⟨by grind, by grind⟩ ⟨by grind, by grind⟩
  obtain ⟨c1, c2⟩ := hmul
  have hDD : 0 ≤ D * D := Rat.mul_nonneg hD0 hD0
  refine ⟨r, v, h1, h5, h7 hd0, by grind, ?_⟩
  constructor <;> grind

theorem exact32 (hx : V32 x a) (hM : Le a M) (hf : Fine M) {w : Nat} (h : Rnd Ieee.single a w) : V32 w a := by
  have h1 := abs_of_le hM
  have h2 := big32
  have hh := hf.hi
  obtain ⟨s, m, e, h1', rfl⟩ := hx
  obtain ⟨hm, he1, he2⟩ := read_single h1'
  refine h.exact ok_single (by rw [top32]; grind) (if s then -(m : Int) else m) e ?_ (by show (-149 : Int) ≤ e; omega) ?_
  · have : (2 : Nat) ^ (Ieee.single.fractionBits + 1) = 2 ^ 24 := rfl
    rw [this]
    split <;> omega
  · unfold dval sgn
    cases s <;> simp only [Bool.false_eq_true, if_false, if_true, Rat.intCast_neg, Rat.intCast_natCast] <;> grind

/-- A product with the opposite number. -/
theorem mul32_neg (hx : V32 x a) (hy : V32 y b) {r : Nat} (h : fb .mul .f32 x y = some r) :
    fb .mul .f32 (neg32 x) y = some (neg32 r) ∧ fb .mul .f32 x (neg32 y) = some (neg32 r) :=
  ⟨mul_neg_left hx hy h, mul_neg_right hx hy h⟩

end
end Go.Proofs.Ytgeiaafdholcbaa
