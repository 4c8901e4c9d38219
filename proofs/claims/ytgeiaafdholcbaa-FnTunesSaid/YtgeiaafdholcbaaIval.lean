/-
  Intervals: what words of 64 bits come to, between integers over a fixed scale (2^40), and a reckoning with such intervals that the kernel can run. Plain Lean: no program.
-/
import Derived.Test.YtgeiaafdholcbaaAng
set_option linter.unusedVariables false
set_option linter.unusedSimpArgs false
namespace Go.Proofs.Ytgeiaafdholcbaa
open FT

abbrev I := Int × Int
/-- The word is a number between these, over the scale. -/
def In (w : Nat) (i : I) : Prop := ∃ v, V64 w v ∧ (i.1 : Rat) ≤ v * 1099511627776 ∧ v * 1099511627776 ≤ (i.2 : Rat)
/-- The same of a rational number. -/
def Bet (v : Rat) (i : I) : Prop := (i.1 : Rat) ≤ v * 1099511627776 ∧ v * 1099511627776 ≤ (i.2 : Rat)

def okI (x : I) : Bool := decide (-17592186044416 ≤ x.1) && decide (x.2 ≤ 17592186044416)
def iadd (x y : I) : Option I := if okI (x.1 + y.1 - 1, x.2 + y.2 + 1) then some (x.1 + y.1 - 1, x.2 + y.2 + 1) else none
def isub (x y : I) : Option I := if okI (x.1 - y.2 - 1, x.2 - y.1 + 1) then some (x.1 - y.2 - 1, x.2 - y.1 + 1) else none
def lo4 (a b c d : Int) : Int := min (min a b) (min c d)
def hi4 (a b c d : Int) : Int := max (max a b) (max c d)
def imulR (x y : I) : I := (lo4 (x.1 * y.1) (x.1 * y.2) (x.2 * y.1) (x.2 * y.2) / 1099511627776 - 1, hi4 (x.1 * y.1) (x.1 * y.2) (x.2 * y.1) (x.2 * y.2) / 1099511627776 + 2)
def imul (x y : I) : Option I := if okI (imulR x y) then some (imulR x y) else none
def iquoR (x y : I) : I := (min (x.1 * 1099511627776 / y.1) (x.1 * 1099511627776 / y.2) - 1, max (x.2 * 1099511627776 / y.1) (x.2 * 1099511627776 / y.2) + 2)
def iquo (x y : I) : Option I := if decide (0 < y.1) && decide (y.1 ≤ y.2) && okI (iquoR x y) then some (iquoR x y) else none
/-- Some steps towards a square root. -/
def rootN (n : Nat) : Nat → Nat → Nat
  | 0, r => r
  | k + 1, r => rootN n k ((r + n / r) / 2)
def rootOf (n : Nat) : Nat := rootN n 7 (2 ^ (n.log2 / 2 + 1))
def slackN (r : Nat) : Int := Int.ofNat (min (1099511627776 / (r + 1)) 1048576 + 5)
def isqrtR (x : I) : I :=
  (Int.ofNat (rootOf (x.1 * 1099511627776).toNat) - slackN (rootOf (x.1 * 1099511627776).toNat), Int.ofNat (rootOf (x.2 * 1099511627776).toNat) + slackN (rootOf (x.2 * 1099511627776).toNat))
/-- A square root's bounds are tried, whatever they come of. -/
def isqrtOk (x r : I) : Bool := decide (x.2 ≤ 4398046511104) && (decide (r.1 ≤ 0) || decide (r.1 * r.1 + 1099511627776 ≤ x.1 * 1099511627776)) && decide (0 ≤ r.2) && decide (x.2 * 1099511627776 + 1099511627776 ≤ r.2 * r.2)

theorem ok_le {x : I} (h : okI x = true) : ((-17592186044416 : Int) : Rat) ≤ (x.1 : Rat) ∧ (x.2 : Rat) ≤ ((17592186044416 : Int) : Rat) := by
  unfold okI at h
  simp only [Bool.and_eq_true, decide_eq_true_eq] at h
  exact ⟨Rat.intCast_le_intCast.2 h.1, Rat.intCast_le_intCast.2 h.2⟩

theorem c16 : ((17592186044416 : Int) : Rat) = 17592186044416 := rfl
theorem c16' : ((-17592186044416 : Int) : Rat) = -17592186044416 := rfl
theorem cS : ((1099511627776 : Int) : Rat) = 1099511627776 := rfl
theorem c1 : ((1 : Int) : Rat) = 1 := rfl
theorem c2 : ((2 : Int) : Rat) = 2 := rfl

/-- A result with a small error lies in the interval. -/
theorem In_of {w : Nat} {v x : Rat} {i : I} (hv : V64 w v) (h : A v x (32 / 4503599627370496)) (h1 : (i.1 : Rat) + 1 ≤ x * 1099511627776) (h2 : x * 1099511627776 + 1 ≤ (i.2 : Rat)) : In w i := by
  obtain ⟨a1, a2⟩ := h
  exact ⟨v, hv, by grind, by grind⟩

section
variable {x y : Nat} {a b c : I}

theorem In.add (hx : In x a) (hy : In y b) (h : iadd a b = some c) : ∃ r, fb .add .f64 x y = some r ∧ In r c := by
  unfold iadd at h
  split at h
  · rename_i hk
    obtain ⟨k1, k2⟩ := ok_le hk
    simp only [Option.some.injEq] at h
    subst h
    obtain ⟨v, hv, v1, v2⟩ := hx
    obtain ⟨u, hu, u1, u2⟩ := hy
    simp only [Rat.intCast_add, Rat.intCast_sub, c16, c16', c1] at k1 k2
    obtain ⟨r, z, e, w, hb, _⟩ := add64 (M := 32) hv hu ⟨by grind, by grind⟩ ⟨by decide +kernel, by decide +kernel⟩
    refine ⟨r, e, In_of w hb ?_ ?_⟩
    · simp only [Rat.intCast_add, Rat.intCast_sub, c1]; grind
    · simp only [Rat.intCast_add, Rat.intCast_sub, c1]; grind
  · cases h

theorem In.sub (hx : In x a) (hy : In y b) (h : isub a b = some c) : ∃ r, fb .sub .f64 x y = some r ∧ In r c := by
  unfold isub at h
  split at h
  · rename_i hk
    obtain ⟨k1, k2⟩ := ok_le hk
    simp only [Option.some.injEq] at h
    subst h
    obtain ⟨v, hv, v1, v2⟩ := hx
    obtain ⟨u, hu, u1, u2⟩ := hy
    simp only [Rat.intCast_add, Rat.intCast_sub, c16, c16', c1] at k1 k2
    obtain ⟨r, z, e, w, hb, _⟩ := sub64 (M := 32) hv hu ⟨by grind, by grind⟩ ⟨by decide +kernel, by decide +kernel⟩
    refine ⟨r, e, In_of w hb ?_ ?_⟩
    · simp only [Rat.intCast_add, Rat.intCast_sub, c1]; grind
    · simp only [Rat.intCast_add, Rat.intCast_sub, c1]; grind
  · cases h

theorem mul_mono_l {L x y a b : Rat} (h1 : a ≤ x) (h2 : x ≤ b) (ha : L ≤ a * y) (hb : L ≤ b * y) : L ≤ x * y := by
  rcases Rat.le_total (a := 0) (b := y) with h | h
  · have := Rat.mul_le_mul_of_nonneg_right h1 h
    grind
  · have := Rat.mul_le_mul_of_nonneg_right h2 (show 0 ≤ -y by grind)
    grind
theorem mul_corners {L x y a b c d : Rat} (h1 : a ≤ x) (h2 : x ≤ b) (h3 : c ≤ y) (h4 : y ≤ d) (k1 : L ≤ a * c) (k2 : L ≤ a * d) (k3 : L ≤ b * c) (k4 : L ≤ b * d) : L ≤ x * y := by
  refine mul_mono_l h1 h2 ?_ ?_
  · rw [Rat.mul_comm]
    exact mul_mono_l h3 h4 (by rw [Rat.mul_comm]; exact k1) (by rw [Rat.mul_comm]; exact k2)
  · rw [Rat.mul_comm]
    exact mul_mono_l h3 h4 (by rw [Rat.mul_comm]; exact k3) (by rw [Rat.mul_comm]; exact k4)
theorem mul_corners' {L x y a b c d : Rat} (h1 : a ≤ x) (h2 : x ≤ b) (h3 : c ≤ y) (h4 : y ≤ d) (k1 : a * c ≤ L) (k2 : a * d ≤ L) (k3 : b * c ≤ L) (k4 : b * d ≤ L) : x * y ≤ L := by
  have := mul_corners (L := -L) (x := -x) (a := -b) (b := -a) (by grind) (by grind) h3 h4 (by grind) (by grind) (by grind) (by grind)
  grind

theorem div_floor (m : Int) {n : Int} (hn : 0 < n) : m / n * n ≤ m ∧ m < (m / n + 1) * n := ⟨Int.ediv_mul_le m (Int.ne_of_gt hn), Int.lt_ediv_add_one_mul_self m hn⟩

theorem lo4_le (a b c d : Int) : lo4 a b c d ≤ a ∧ lo4 a b c d ≤ b ∧ lo4 a b c d ≤ c ∧ lo4 a b c d ≤ d := by
  unfold lo4; omega
theorem le_hi4 (a b c d : Int) : a ≤ hi4 a b c d ∧ b ≤ hi4 a b c d ∧ c ≤ hi4 a b c d ∧ d ≤ hi4 a b c d := by
  unfold hi4; omega

theorem cast_mul (a b : Int) : ((a * b : Int) : Rat) = (a : Rat) * (b : Rat) := Rat.intCast_mul a b
theorem icast {a b : Int} (h : a ≤ b) : (a : Rat) ≤ (b : Rat) := Rat.intCast_le_intCast.2 h

theorem In.mul (hx : In x a) (hy : In y b) (h : imul a b = some c) : ∃ r, fb .mul .f64 x y = some r ∧ In r c := by
  unfold imul at h
  split at h
  · rename_i hk
    obtain ⟨k1, k2⟩ := ok_le hk
    simp only [Option.some.injEq] at h
    subst h
    obtain ⟨v, hv, v1, v2⟩ := hx
    obtain ⟨u, hu, u1, u2⟩ := hy
    obtain ⟨l1, l2, l3, l4⟩ := lo4_le (a.1 * b.1) (a.1 * b.2) (a.2 * b.1) (a.2 * b.2)
    obtain ⟨m1, m2, m3, m4⟩ := le_hi4 (a.1 * b.1) (a.1 * b.2) (a.2 * b.1) (a.2 * b.2)
    unfold imulR at k1 k2 ⊢
    simp only at k1 k2 ⊢
    generalize lo4 (a.1 * b.1) (a.1 * b.2) (a.2 * b.1) (a.2 * b.2) = L at *
    generalize hi4 (a.1 * b.1) (a.1 * b.2) (a.2 * b.1) (a.2 * b.2) = H at *
    have dl := icast (div_floor L (n := 1099511627776) (by decide)).1
    have dh := icast (Int.le_of_lt (div_floor H (n := 1099511627776) (by decide)).2)
    generalize L / 1099511627776 = l at *
    generalize H / 1099511627776 = g at *
    have p := mul_corners v1 v2 u1 u2 (by rw [← cast_mul]; exact icast l1) (by rw [← cast_mul]; exact icast l2) (by rw [← cast_mul]; exact icast l3) (by rw [← cast_mul]; exact icast l4)
    have q := mul_corners' v1 v2 u1 u2 (by rw [← cast_mul]; exact icast m1) (by rw [← cast_mul]; exact icast m2) (by rw [← cast_mul]; exact icast m3) (by rw [← cast_mul]; exact icast m4)
    simp only [Rat.intCast_add, Rat.intCast_sub, Rat.intCast_mul, c16, c16', c1, c2, cS] at k1 k2 dl dh ⊢
    have e1 : v * 1099511627776 * (u * 1099511627776) = v * u * 1099511627776 * 1099511627776 := by grind
    rw [e1] at p q
    obtain ⟨r, z, e, w, hb, _⟩ := mul64 (M := 32) hv hu ⟨by grind, by grind⟩ ⟨by decide +kernel, by decide +kernel⟩
    refine ⟨r, e, In_of w hb ?_ ?_⟩
    · simp only [Rat.intCast_add, Rat.intCast_sub, c1, c2]; grind
    · simp only [Rat.intCast_add, Rat.intCast_sub, c1, c2]; grind
  · cases h

theorem le_of_mul_pos {a b k : Rat} (hk : 0 < k) (h : a * k ≤ b * k) : a ≤ b := Rat.le_of_mul_le_mul_right h hk

theorem In.quo (hx : In x a) (hy : In y b) (h : iquo a b = some c) : ∃ r, fb .quo .f64 x y = some r ∧ In r c := by
  unfold iquo at h
  split at h
  · rename_i hk
    simp only [Bool.and_eq_true, decide_eq_true_eq] at hk
    obtain ⟨⟨hb1, hb12⟩, hk⟩ := hk
    obtain ⟨k1, k2⟩ := ok_le hk
    simp only [Option.some.injEq] at h
    subst h
    obtain ⟨v, hv, v1, v2⟩ := hx
    obtain ⟨u, hu, u1, u2⟩ := hy
    unfold iquoR at k1 k2 ⊢
    simp only at k1 k2 ⊢
    have hb2 : 0 < b.2 := by omega
    have f1 := (div_floor (a.1 * 1099511627776) hb1).1
    have f2 := (div_floor (a.1 * 1099511627776) hb2).1
    have f3 := (div_floor (a.2 * 1099511627776) hb1).2
    have f4 := (div_floor (a.2 * 1099511627776) hb2).2
    obtain ⟨L, hL⟩ : ∃ L, L = min (a.1 * 1099511627776 / b.1) (a.1 * 1099511627776 / b.2) := ⟨_, rfl⟩
    obtain ⟨H, hH⟩ : ∃ H, H = max (a.2 * 1099511627776 / b.1) (a.2 * 1099511627776 / b.2) := ⟨_, rfl⟩
    rw [← hL] at k1 ⊢
    rw [← hH] at k2 ⊢
    have g1 : L * b.1 ≤ a.1 * 1099511627776 := Int.le_trans (Int.mul_le_mul_of_nonneg_right (by omega) (Int.le_of_lt hb1)) f1
    have g2 : L * b.2 ≤ a.1 * 1099511627776 := Int.le_trans (Int.mul_le_mul_of_nonneg_right (by omega) (Int.le_of_lt hb2)) f2
    have g3 : a.2 * 1099511627776 ≤ (H + 1) * b.1 := Int.le_trans (Int.le_of_lt f3) (Int.mul_le_mul_of_nonneg_right (by omega) (Int.le_of_lt hb1))
    have g4 : a.2 * 1099511627776 ≤ (H + 1) * b.2 := Int.le_trans (Int.le_of_lt f4) (Int.mul_le_mul_of_nonneg_right (by omega) (Int.le_of_lt hb2))
    have G1 := icast g1
    have G2 := icast g2
    have G3 := icast g3
    have G4 := icast g4
    simp only [Rat.intCast_add, Rat.intCast_sub, Rat.intCast_mul, c16, c16', c1, c2, cS] at k1 k2 G1 G2 G3 G4 ⊢
    have hb0 : (0 : Rat) < (b.1 : Rat) := by
      have := Rat.intCast_lt_intCast.2 hb1
      exact this
    have hu0 : 0 < u := by
      have h0 : (0 : Rat) < u * 1099511627776 := by grind
      grind
    have hune : u ≠ 0 := Rat.ne_of_gt hu0
    obtain ⟨q, hq⟩ : ∃ q, q = v / u := ⟨_, rfl⟩
    have hqu : q * u = v := by rw [hq, Rat.div_mul_cancel hune]
    have U0 : 0 < u * 1099511627776 := by grind
    -- L <= q * scale <= H + 1
    have q1 : (L : Rat) ≤ q * 1099511627776 := by
      refine le_of_mul_pos U0 ?_
      have := mul_mono_l (L := -(v * 1099511627776 * 1099511627776)) (y := -(L : Rat)) u1 u2 (by grind) (by grind)
      have e1 : q * 1099511627776 * (u * 1099511627776) = q * u * 1099511627776 * 1099511627776 := by grind
      rw [e1, hqu]
      grind
    have q2 : q * 1099511627776 ≤ (H : Rat) + 1 := by
      refine le_of_mul_pos U0 ?_
      have := mul_mono_l (L := v * 1099511627776 * 1099511627776) (y := (H : Rat) + 1) u1 u2 (by grind) (by grind)
      have e1 : q * 1099511627776 * (u * 1099511627776) = q * u * 1099511627776 * 1099511627776 := by grind
      rw [e1, hqu]
      grind
    obtain ⟨r, z, e, w, hb⟩ := quo64 (M := 16) hv hu hune (by rw [← hq]; constructor <;> grind) ⟨by decide +kernel, by decide +kernel⟩
    rw [← hq] at hb
    refine ⟨r, e, In_of w (x := q) ⟨by grind, by grind⟩ ?_ ?_⟩
    · simp only [Rat.intCast_add, Rat.intCast_sub, c1, c2]; grind
    · simp only [Rat.intCast_add, Rat.intCast_sub, c1, c2]; grind
  · cases h

theorem In.sqrt (hx : In x a) (h0 : ∀ v, V64 x v → 0 ≤ v) (h : isqrtOk a c = true) : ∃ r, sq64 x = some r ∧ In r c ∧ ∀ v, V64 r v → 0 ≤ v := by
  unfold isqrtOk at h
  simp only [Bool.and_eq_true, Bool.or_eq_true, decide_eq_true_eq] at h
  obtain ⟨⟨⟨k1, k2⟩, k3⟩, k4⟩ := h
  obtain ⟨v, hv, v1, v2⟩ := hx
  have K1 := icast k1
  have K3 := icast k3
  have K4 := icast k4
  have e4 : ((4398046511104 : Int) : Rat) = 4398046511104 := rfl
  have e0 : ((0 : Int) : Rat) = 0 := rfl
  simp only [Rat.intCast_add, Rat.intCast_mul, cS, e4, e0] at K1 K3 K4
  have hv0 := h0 v hv
  obtain ⟨r, z, e, w, z0, z1, z2⟩ := sqrt64 (D := 2) hv hv0 (by grind) ⟨by decide +kernel, by decide +kernel⟩
  obtain ⟨z3, z4⟩ := z2
  have zz : (z * 1099511627776) * (z * 1099511627776) = z * z * 1099511627776 * 1099511627776 := by grind
  refine ⟨r, e, ⟨z, w, ?_, ?_⟩, fun v' hv' => by rw [hv'.unique w]; exact z0⟩
  · rcases k2 with k2 | k2
    · have K2 := icast k2
      rw [e0] at K2
      have : 0 ≤ z * 1099511627776 := Rat.mul_nonneg z0 (by decide +kernel)
      grind
    · have K2 := icast k2
      simp only [Rat.intCast_add, Rat.intCast_mul, cS] at K2
      refine le_of_sq (Rat.mul_nonneg z0 (by decide +kernel)) ?_
      rw [zz]
      grind
  · refine le_of_sq K3 ?_
    rw [zz]
    grind

end

/-- A word that is a constant. -/
def constOk (w : Nat) (i : I) : Bool := match val64 w with
  | some v => decide ((i.1 : Rat) ≤ v * 1099511627776 ∧ v * 1099511627776 ≤ (i.2 : Rat))
  | none => false
theorem In_const {w : Nat} {i : I} (h : constOk w i = true) : In w i := by
  unfold constOk at h
  split at h
  · rename_i v hv
    simp only [decide_eq_true_eq] at h
    exact ⟨v, V64_of hv, h.1, h.2⟩
  · cases h

theorem In.neg {x : Nat} {a : I} (h : In x a) : In (neg64 x) (-a.2, -a.1) := by
  obtain ⟨v, hv, h1, h2⟩ := h
  refine ⟨-v, neg64_val hv, ?_, ?_⟩
  · simp only [Rat.intCast_neg]; grind
  · simp only [Rat.intCast_neg]; grind

theorem ofInt64 (n : Int) (h : n.natAbs ≤ 2 ^ 24) : V64 (floatOfInt .f64 n) n := by
  have hr : Rnd Ieee.double (n : Rat) (floatOfInt .f64 n) := int_rnd Ieee.double n
  refine hr.exact ok_double ?_ n 0 (by have : (2 : Nat) ^ 24 ≤ 2 ^ (Ieee.double.fractionBits + 1) := by decide
                                       omega) (by decide) (by rw [pw_zero, Rat.mul_one])
  rw [top64]
  have h1 : (n : Rat).abs ≤ pw (24 : Nat) := by
    rw [intCast_abs, pw_nat]
    exact Rat.natCast_le_natCast.2 h
  have h2 := pw_lt (a := ((24 : Nat) : Int)) (b := 1023) (by omega)
  grind
theorem In_int (n : Int) (h : n.natAbs ≤ 2 ^ 24) : In (floatOfInt .f64 n) (n * 1099511627776, n * 1099511627776) := by
  refine ⟨n, ofInt64 n h, ?_, ?_⟩
  · simp only [Rat.intCast_mul, cS]; exact Rat.le_refl
  · simp only [Rat.intCast_mul, cS]; exact Rat.le_refl

/-- Which of two words is the greater one. -/
theorem In.lt {x y : Nat} {a b : I} (hx : In x a) (hy : In y b) : ((FloatKind.f64.format.order x y == some .lt) = true → a.1 < b.2) ∧ ((FloatKind.f64.format.order x y == some .lt) = false → b.1 ≤ a.2) := by
  obtain ⟨v, hv, v1, v2⟩ := hx
  obtain ⟨u, hu, u1, u2⟩ := hy
  have e : FloatKind.f64.format.order x y = _ := order_eq hv hu
  rw [e]
  by_cases h : v < u
  · rw [if_pos h]
    refine ⟨fun _ => ?_, fun h => by cases h⟩
    have : (a.1 : Rat) < (b.2 : Rat) := by grind
    exact Rat.intCast_lt_intCast.1 this
  · rw [if_neg h]
    refine ⟨fun h' => ?_, fun _ => ?_⟩
    · split at h' <;> cases h'
    · have : (b.1 : Rat) ≤ (a.2 : Rat) := by grind
      exact Rat.intCast_le_intCast.1 this
theorem In.gt {x y : Nat} {a b : I} (hx : In x a) (hy : In y b) : ((FloatKind.f64.format.order x y == some .gt) = true → b.1 < a.2) ∧ ((FloatKind.f64.format.order x y == some .gt) = false → a.1 ≤ b.2) := by
  obtain ⟨v, hv, v1, v2⟩ := hx
  obtain ⟨u, hu, u1, u2⟩ := hy
  have e : FloatKind.f64.format.order x y = _ := order_eq hv hu
  rw [e]
  by_cases h : u < v
  · have h1 : ¬ v < u := by grind
    have h2 : ¬ v = u := by grind
    rw [if_neg h1, if_neg h2]
    refine ⟨fun _ => ?_, fun h => by cases h⟩
    have : (b.1 : Rat) < (a.2 : Rat) := by grind
    exact Rat.intCast_lt_intCast.1 this
  · refine ⟨fun h' => ?_, fun _ => ?_⟩
    · split at h'
      · cases h'
      · split at h'
        · cases h'
        · grind
    · have : (a.1 : Rat) ≤ (b.2 : Rat) := by grind
      exact Rat.intCast_le_intCast.1 this
theorem In.ge {x y : Nat} {a b : I} (hx : In x a) (hy : In y b) : ((FloatKind.f64.format.order x y == some .gt || FloatKind.f64.format.order x y == some .eq) = true → b.1 ≤ a.2) ∧ ((FloatKind.f64.format.order x y == some .gt || FloatKind.f64.format.order x y == some .eq) = false → a.1 < b.2) := by
  obtain ⟨v, hv, v1, v2⟩ := hx
  obtain ⟨u, hu, u1, u2⟩ := hy
  have e : FloatKind.f64.format.order x y = _ := order_eq hv hu
  rw [e]
  by_cases h : v < u
  · rw [if_pos h]
    refine ⟨(fun h => by cases h), fun _ => ?_⟩
    have : (a.1 : Rat) < (b.2 : Rat) := by grind
    exact Rat.intCast_lt_intCast.1 this
  · rw [if_neg h]
    refine ⟨fun _ => ?_, fun h' => ?_⟩
    · have : (b.1 : Rat) ≤ (a.2 : Rat) := by grind
      exact Rat.intCast_le_intCast.1 this
    · split at h' <;> cases h'

end Go.Proofs.Ytgeiaafdholcbaa
