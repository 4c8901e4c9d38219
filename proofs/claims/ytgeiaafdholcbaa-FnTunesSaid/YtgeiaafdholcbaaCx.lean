/-
  Complex numbers of 32-bit words: the functions of the words that the program's small functions come to, and what they give as rational numbers with errors. Plain Lean: no program.
-/
import Derived.Test.YtgeiaafdholcbaaNum
set_option linter.unusedVariables false
set_option linter.unusedSimpArgs false
namespace Go.Proofs.Ytgeiaafdholcbaa
open FT

def prodB (a b c d : Nat) : Option (Nat × Nat) := do
  let ac ← fb .mul .f64 a c
  let bd ← fb .mul .f64 b d
  let re ← fb .sub .f64 ac bd
  let ad ← fb .mul .f64 a d
  let bc ← fb .mul .f64 b c
  let im ← fb .add .f64 ad bc
  return (re, im)
def prod (a b c d : Nat) : Option (Nat × Nat) := do
  let a ← cv64 a
  let b ← cv64 b
  let c ← cv64 c
  let d ← cv64 d
  prodB a b c d
def powB (a b : Nat) : Option Nat := do
  let a ← cv64 a
  let b ← cv64 b
  let aa ← fb .mul .f64 a a
  let bb ← fb .mul .f64 b b
  fb .add .f64 aa bb
def mulC (a b c d : Nat) : Option (Nat × Nat) := do
  let p ← prod a b c d
  let re ← cv32 p.1
  let im ← cv32 p.2
  return (re, im)
def quoC (a b c d : Nat) : Option (Nat × Nat) := do
  let p ← prod a b c (neg32 d)
  let by_ ← powB c d
  let x ← fb .quo .f64 p.1 by_
  let re ← cv32 x
  let y ← fb .quo .f64 p.2 by_
  let im ← cv32 y
  return (re, im)
def plusC (a b c d : Nat) : Option (Nat × Nat) := do
  let re ← fb .add .f32 a c
  let im ← fb .add .f32 b d
  return (re, im)
def lessC (a b c d : Nat) : Option (Nat × Nat) := do
  let re ← fb .sub .f32 a c
  let im ← fb .sub .f32 b d
  return (re, im)
def scaleC (a b y : Nat) : Option (Nat × Nat) := do
  let re ← fb .mul .f32 a y
  let im ← fb .mul .f32 b y
  return (re, im)
def longC (a b : Nat) : Option Nat := do
  let p ← powB a b
  let r ← sq64 p
  cv32 r

/-- A bound of numbers whose products are bounds still. -/
structure Mid (M : Rat) : Prop where
  lo : 1 / 10 ^ 12 ≤ M
  hi : M ≤ 10 ^ 12

theorem Mid.pos {M : Rat} (h : Mid M) : 0 < M := by
  have := h.lo
  grind

theorem Mid.mul {M N : Rat} (h : Mid M) (k : Mid N) : 1 / 10 ^ 24 ≤ M * N ∧ M * N ≤ 10 ^ 24 ∧ 0 ≤ M * N := by
  obtain ⟨h1, h2⟩ := h
  obtain ⟨k1, k2⟩ := k
  have p1 : (1 / 10 ^ 12) * (1 / 10 ^ 12) ≤ M * N := by
    have a1 := Rat.mul_le_mul_of_nonneg_left k1 (show 0 ≤ M by grind)
    have a2 := Rat.mul_le_mul_of_nonneg_right h1 (show (0 : Rat) ≤ 1 / 10 ^ 12 by grind)
    grind
  have p2 : M * N ≤ 10 ^ 12 * 10 ^ 12 := by
    have a1 := Rat.mul_le_mul_of_nonneg_left k2 (show 0 ≤ M by grind)
    have a2 := Rat.mul_le_mul_of_nonneg_right h2 (show (0 : Rat) ≤ 10 ^ 12 by grind)
    grind
  refine ⟨by grind, by grind, by grind⟩

section
variable {x y z t : Nat} {a b c d M N : Rat}

theorem powB_num (hx : V32 x a) (hy : V32 y b) (ha : Le a M) (hb : Le b M) (hM : Mid M) : ∃ p v, powB x y = some p ∧ V64 p v ∧ 0 ≤ v ∧ A v (a * a + b * b) (M * M / 10 ^ 14) := by
  obtain ⟨x', h1, h2⟩ := widen hx
  obtain ⟨y', h3, h4⟩ := widen hy
  obtain ⟨m1, m2, m3⟩ := hM.mul hM
  have f1 : Fine (M * M) := ⟨by grind, by grind⟩
  obtain ⟨r1, v1, e1, w1, b1, n1⟩ := mul64 h2 h2 (mulLe ha ha) f1
  obtain ⟨r2, v2, e2, w2, b2, n2⟩ := mul64 h4 h4 (mulLe hb hb) f1
  have q1 := mulLe ha ha
  have q2 := mulLe hb hb
  have s1 : 0 ≤ a * a := by
    rcases Rat.le_total (a := 0) (b := a) with h | h
    · exact Rat.mul_nonneg h h
    · have := Rat.mul_nonneg (show 0 ≤ -a by grind) (show 0 ≤ -a by grind)
      grind
  have s2 : 0 ≤ b * b := by
    rcases Rat.le_total (a := 0) (b := b) with h | h
    · exact Rat.mul_nonneg h h
    · have := Rat.mul_nonneg (show 0 ≤ -b by grind) (show 0 ≤ -b by grind)
      grind
  obtain ⟨r3, v3, e3, w3, b3, n3⟩ := add64 (M := 3 * (M * M)) w1 w2 ⟨by grind, by grind⟩ ⟨by grind, by grind⟩
  refine ⟨r3, v3, ?_, w3, n3 (Rat.add_nonneg (n1 s1) (n2 s2)), ?_⟩
  · unfold powB
    simp only [h1, h3, e1, e2, e3, Option.bind_eq_bind, Option.bind_some]
  · constructor <;> grind

theorem prod_num (hx : V32 x a) (hy : V32 y b) (hz : V32 z c) (ht : V32 t d) (ha : Le a M) (hb : Le b M) (hc : Le c N) (hd : Le d N) (hM : Mid M) (hN : Mid N) :
    ∃ r i u v, prod x y z t = some (r, i) ∧ V64 r u ∧ V64 i v ∧ A u (a * c - b * d) (M * N / 10 ^ 14) ∧ A v (a * d + b * c) (M * N / 10 ^ 14) := by
  obtain ⟨x', h1, h2⟩ := widen hx
  obtain ⟨y', h3, h4⟩ := widen hy
  obtain ⟨z', h5, h6⟩ := widen hz
  obtain ⟨t', h7, h8⟩ := widen ht
  obtain ⟨m1, m2, m3⟩ := hM.mul hN
  have f1 : Fine (M * N) := ⟨by grind, by grind⟩
  obtain ⟨r1, v1, e1, w1, b1, _⟩ := mul64 h2 h6 (mulLe ha hc) f1
  obtain ⟨r2, v2, e2, w2, b2, _⟩ := mul64 h4 h8 (mulLe hb hd) f1
  obtain ⟨r3, v3, e3, w3, b3, _⟩ := mul64 h2 h8 (mulLe ha hd) f1
  obtain ⟨r4, v4, e4, w4, b4, _⟩ := mul64 h4 h6 (mulLe hb hc) f1
  have q1 := mulLe ha hc
  have q2 := mulLe hb hd
  have q3 := mulLe ha hd
  have q4 := mulLe hb hc
  obtain ⟨r5, v5, e5, w5, b5, _⟩ := sub64 (M := 3 * (M * N)) w1 w2 ⟨by grind, by grind⟩ ⟨by grind, by grind⟩
  obtain ⟨r6, v6, e6, w6, b6, _⟩ := add64 (M := 3 * (M * N)) w3 w4 ⟨by grind, by grind⟩ ⟨by grind, by grind⟩
  refine ⟨r5, r6, v5, v6, ?_, w5, w6, ?_, ?_⟩
  · unfold prod prodB
    simp only [h1, h3, h5, h7, e1, e2, e3, e4, e5, e6, Option.bind_eq_bind, Option.bind_some, Option.pure_def]
  · constructor <;> grind
  · constructor <;> grind

theorem mulC_num (hx : V32 x a) (hy : V32 y b) (hz : V32 z c) (ht : V32 t d) (ha : Le a M) (hb : Le b M) (hc : Le c N) (hd : Le d N) (hM : Mid M) (hN : Mid N) :
    ∃ r i u v, mulC x y z t = some (r, i) ∧ V32 r u ∧ V32 i v ∧ A u (a * c - b * d) (M * N / 2000000) ∧ A v (a * d + b * c) (M * N / 2000000) := by
  obtain ⟨r, i, u, v, h1, h2, h3, h4, h5⟩ := prod_num hx hy hz ht ha hb hc hd hM hN
  obtain ⟨m1, m2, m3⟩ := hM.mul hN
  have q1 := mulLe ha hc
  have q2 := mulLe hb hd
  have q3 := mulLe ha hd
  have q4 := mulLe hb hc
  obtain ⟨r5, v5, e5, w5, b5, _⟩ := cut32 (M := 3 * (M * N)) h2 ⟨by grind, by grind⟩ ⟨by grind, by grind⟩
  obtain ⟨r6, v6, e6, w6, b6, _⟩ := cut32 (M := 3 * (M * N)) h3 ⟨by grind, by grind⟩ ⟨by grind, by grind⟩
  refine ⟨r5, r6, v5, v6, ?_, w5, w6, ?_, ?_⟩
  · unfold mulC
    simp only [h1, e5, e6, Option.bind_eq_bind, Option.bind_some, Option.pure_def]
  · constructor <;> grind
  · constructor <;> grind

theorem longC_num (hx : V32 x a) (hy : V32 y b) (ha : Le a M) (hb : Le b M) (hM : Mid M) : ∃ l L, longC x y = some l ∧ V32 l L ∧ 0 ≤ L ∧ L ≤ 3 / 2 * M ∧ A (L * L) (a * a + b * b) (M * M / 400000) := by
  obtain ⟨p, v, h1, h2, h3, h4⟩ := powB_num hx hy ha hb hM
  obtain ⟨m1, m2, m3⟩ := hM.mul hM
  have q1 := mulLe ha ha
  have q2 := mulLe hb hb
  have hl := hM.lo
  have hh := hM.hi
  obtain ⟨r, s, e1, w1, s0, s1, s2⟩ := sqrt64 (D := 3 / 2 * M) h2 h3 (by grind) ⟨by grind, by grind⟩
  obtain ⟨r5, v5, e5, w5, b5, n5⟩ := cut32 (M := 3 * M) w1 ⟨by grind, by grind⟩ ⟨by grind, by grind⟩
  have k := mulA (x := v5) (y := v5) (X := s) (Y := s) b5 b5 (a := 3 * M) (b := 3 * M) ⟨by grind, by grind⟩ ⟨by grind, by grind⟩
  have hp : 0 ≤ s * s := Rat.mul_nonneg s0 s0
  have hs : s * s ≤ (2 + 1 / 100) * (M * M) := by grind
  have hsM : s ≤ (149 / 100) * M := by
    refine le_of_sq (by grind) ?_
    grind
  refine ⟨r5, v5, ?_, w5, n5 s0, by grind, ?_⟩
  · unfold longC
    simp only [h1, e1, e5, Option.bind_eq_bind, Option.bind_some]
  · constructor <;> grind
end

end Go.Proofs.Ytgeiaafdholcbaa
