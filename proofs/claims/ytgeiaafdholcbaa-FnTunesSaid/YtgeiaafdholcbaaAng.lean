/-
  The angle of a point in turns: the function of the words that the program's AngleTurns comes to, and that it comes to a finite number. Plain Lean: no program.
-/
import Derived.Test.YtgeiaafdholcbaaCx
import Derived.Laws.BitsAllLaws
set_option linter.unusedVariables false
set_option linter.unusedSimpArgs false
namespace Go.Proofs.Ytgeiaafdholcbaa
open FT

def abs64 (x : Nat) : Nat := x % 9223372036854775808

theorem cv64_lt {x r : Nat} (h : cv64 x = some r) : r < 18446744073709551616 := by
  unfold cv64 floatToFloatBits at h
  rw [if_neg (by decide)] at h
  have hlt : ∀ d, FloatKind.f64.encode d < 18446744073709551616 := fun d => Ieee.double.write_lt d
  split at h
  · cases h
  · simp only [Option.some.injEq] at h; rw [← h]; exact hlt _
  · split at h
    · cases h
    · simp only [Option.some.injEq] at h; rw [← h]; exact hlt _

theorem abs64_val {x : Nat} {a : Rat} (h : V64 x a) : V64 (abs64 x) a.abs := by
  obtain ⟨s, m, e, h1, rfl⟩ := h
  have hw : Ieee.double.signWeight = 9223372036854775808 := rfl
  refine ⟨false, m, e, ?_, ?_⟩
  · unfold Ieee.Format.read at h1 ⊢
    simp only [hw] at h1 ⊢
    have e1 : abs64 x % 9223372036854775808 = x % 9223372036854775808 := Nat.mod_mod _ _
    have e2 : (abs64 x / 9223372036854775808 % 2 == 1) = false := by
      have : abs64 x / 9223372036854775808 = 0 := Nat.div_eq_of_lt (Nat.mod_lt _ (by decide))
      rw [this]; rfl
    rw [e1, e2]
    split at h1
    · rename_i hb
      rw [if_pos hb]
      cases h1; rfl
    · rename_i hb
      rw [if_neg hb]
      split at h1
      · rename_i hi
        rw [if_pos hi]
        cases h1; rfl
      · split at h1 <;> cases h1
  · rw [abs_dval]
    unfold dval sgn
    simp only [Bool.false_eq_true, if_false, Rat.one_mul]

def stepT (t : Nat) : Option Nat := do
  let tt ← fb .mul .f64 t t
  let s ← fb .add .f64 4607182418800017408 tt
  let r ← sq64 s
  let d ← fb .add .f64 4607182418800017408 r
  fb .quo .f64 t d
/-- t behind so many rounds. -/
def iterT (t : Nat) : Nat → Option Nat
  | 0 => some t
  | j + 1 => do
    let t ← iterT t j
    stepT t
/-- p behind so many rounds. -/
def polyB (u : Nat) : Nat → Option Nat
  | 0 => some 0
  | j + 1 => do
    let p ← polyB u j
    let q ← fb .quo .f64 4607182418800017408 (floatOfInt .f64 (15 - 2 * (j : Int)))
    let up ← fb .mul .f64 u p
    fb .sub .f64 q up

def bigB (a b : Nat) : Bool := FloatKind.f64.format.order a b == some .gt
def negB (x : Nat) : Bool := FloatKind.f32.format.order x 0 == some .lt

def pickT (a b t0 : Nat) : Option Nat := if bigB a b then fb .quo .f64 b a else some t0
def turnQ (a b an : Nat) : Option Nat := if bigB a b then fb .sub .f64 4598175219545276416 an else some an
def turnX (x an : Nat) : Option Nat := if negB x then fb .sub .f64 4602678819172646912 an else some an
def turnY (y an : Nat) : Nat := if negB y then neg64 an else an
def angA (a b : Nat) : Option Nat := do
  let t0 ← fb .quo .f64 a b
  let t ← pickT a b t0
  let t ← iterT t 3
  let u ← fb .mul .f64 t t
  let p ← polyB u 8
  let tp ← fb .mul .f64 t p
  let e ← fb .mul .f64 4620693217682128896 tp
  let an ← fb .quo .f64 e 4618760256179416344
  turnQ a b an
def angleB (y x : Nat) : Option Nat := do
  let y64 ← cv64 y
  let x64 ← cv64 x
  let an ← angA (abs64 y64) (abs64 x64)
  let an ← turnX x an
  cv32 (turnY y an)

def val64 (w : Nat) : Option Rat := match Ieee.double.read w with
  | .number s m e => some (dval s m e)
  | _ => none
theorem V64_of {w : Nat} {v : Rat} (h : val64 w = some v) : V64 w v := by
  unfold val64 at h
  split at h
  · rename_i s m e he
    simp only [Option.some.injEq] at h
    exact ⟨s, m, e, he, h.symm⟩
  · cases h
theorem V64_some {w : Nat} (h : (val64 w).isSome = true) : V64 w ((val64 w).getD 0) := by
  apply V64_of
  revert h
  cases val64 w <;> simp
theorem one64_v : V64 4607182418800017408 1 := V64_of (by decide +kernel)

theorem stepT_num {t : Nat} {a c : Rat} (ht : V64 t a) (h : Le a c) (hc : Fine c) (hc2 : c ≤ 2) : ∃ r v, stepT t = some r ∧ V64 r v ∧ Le v ((1 + 1 / 100) * c) := by
  have hl := hc.lo
  have hq := mulLe h h
  have hcc : c * c ≤ 4 := by
    have := Rat.mul_le_mul_of_nonneg_left hc2 (show 0 ≤ c by grind)
    have := Rat.mul_le_mul_of_nonneg_right hc2 (show (0 : Rat) ≤ 2 by grind)
    grind
  have hs0 : 0 ≤ a * a := by
    rcases Rat.le_total (a := 0) (b := a) with h | h
    · exact Rat.mul_nonneg h h
    · have := Rat.mul_nonneg (show 0 ≤ -a by grind) (show 0 ≤ -a by grind)
      grind
  obtain ⟨r1, v1, e1, w1, b1, n1⟩ := mul64 (M := 4) ht ht ⟨by grind, by grind⟩ ⟨by decide +kernel, by decide +kernel⟩
  have n1' := n1 hs0
  obtain ⟨r2, v2, e2, w2, b2, n2⟩ := add64 (M := 6) one64_v w1 ⟨by grind, by grind⟩ ⟨by decide +kernel, by decide +kernel⟩
  have n2' := n2 (by grind)
  obtain ⟨r3, v3, e3, w3, s0, s1, _⟩ := sqrt64 (D := 3) w2 n2' (by grind) ⟨by decide +kernel, by decide +kernel⟩
  obtain ⟨r4, v4, e4, w4, b4, _⟩ := add64 (M := 8) one64_v w3 ⟨by grind, by grind⟩ ⟨by decide +kernel, by decide +kernel⟩
  have hd : 999 / 1000 ≤ v4 := by grind
  have hne : v4 ≠ 0 := by grind
  have hquo : Le (a / v4) ((1 + 1 / 500) * c) := by
    have h1 : a / v4 * v4 = a := Rat.div_mul_cancel hne
    rcases Rat.le_total (a := 0) (b := a / v4) with h2 | h2
    · have := Rat.mul_le_mul_of_nonneg_left hd h2
      constructor <;> grind
    · have := Rat.mul_le_mul_of_nonneg_left hd (show 0 ≤ -(a / v4) by grind)
      constructor <;> grind
  obtain ⟨r5, v5, e5, w5, b5⟩ := quo64 ht w4 hne hquo ⟨by grind, by grind⟩
  refine ⟨r5, v5, ?_, w5, ⟨by grind, by grind⟩⟩
  unfold stepT
  simp only [e1, e2, e3, e4, e5, Option.bind_eq_bind, Option.bind_some]

theorem iterT_num {t : Nat} {a : Rat} (ht : V64 t a) (h : Le a (3 / 2)) : ∃ r v, iterT t 3 = some r ∧ V64 r v ∧ Le v 2 := by
  obtain ⟨r1, v1, e1, w1, l1⟩ := stepT_num ht h ⟨by decide +kernel, by decide +kernel⟩ (by decide +kernel)
  obtain ⟨r2, v2, e2, w2, l2⟩ := stepT_num (c := 8 / 5) w1 ⟨by grind, by grind⟩ ⟨by decide +kernel, by decide +kernel⟩ (by decide +kernel)
  obtain ⟨r3, v3, e3, w3, l3⟩ := stepT_num (c := 17 / 10) w2 ⟨by grind, by grind⟩ ⟨by decide +kernel, by decide +kernel⟩ (by decide +kernel)
  refine ⟨r3, v3, ?_, w3, ⟨by grind, by grind⟩⟩
  simp only [iterT, e1, e2, e3, Option.bind_eq_bind, Option.bind_some]

/-- 1 / k for odd k from 15 down. -/
theorem inv_tab : (List.range 8).all (fun j => match fb .quo .f64 4607182418800017408 (floatOfInt .f64 (15 - 2 * (j : Int))) with
    | some r => (match val64 r with | some v => decide (0 ≤ v ∧ v ≤ 1) | none => false) | none => false) = true := by decide +kernel

theorem inv_num (j : Nat) (hj : j < 8) : ∃ r v, fb .quo .f64 4607182418800017408 (floatOfInt .f64 (15 - 2 * (j : Int))) = some r ∧ V64 r v ∧ Le v 1 := by
  have h := inv_tab
  rw [List.all_eq_true] at h
  have h1 := h j (List.mem_range.2 hj)
  cases hq : fb .quo .f64 4607182418800017408 (floatOfInt .f64 (15 - 2 * (j : Int))) with
  | none => rw [hq] at h1; simp at h1
  | some r =>
    rw [hq] at h1
    simp only at h1
    cases hv : val64 r with
    | none => rw [hv] at h1; simp at h1
    | some v =>
      rw [hv] at h1
      simp only [decide_eq_true_eq] at h1
      exact ⟨r, v, rfl, V64_of hv, ⟨by grind, by grind⟩⟩

theorem polyB_num {u : Nat} {a : Rat} (hu : V64 u a) (h : Le a 5) : ∀ j, j ≤ 8 → ∃ r v, polyB u j = some r ∧ V64 r v ∧ Le v ((8 : Rat) ^ j) := by
  intro j
  induction j with
  | zero => intro _; exact ⟨0, 0, rfl, V64_of (by decide +kernel), ⟨by decide +kernel, by decide +kernel⟩⟩
  | succ j ih =>
    intro hj
    obtain ⟨p, v, e1, w1, l1⟩ := ih (by omega)
    obtain ⟨q, w, e2, w2, l2⟩ := inv_num j (by omega)
    have hP : 1 ≤ (8 : Rat) ^ j ∧ (8 : Rat) ^ j ≤ 16777216 := by
      have h1 : (1 : Nat) ≤ 8 ^ j := Nat.one_le_pow _ _ (by decide)
      have h2 : (8 : Nat) ^ j ≤ 8 ^ 8 := Nat.pow_le_pow_right (by decide) (by omega)
      have e : (8 : Rat) ^ j = ((8 ^ j : Nat) : Rat) := by rw [Rat.natCast_pow]; rfl
      rw [e]
      exact ⟨by exact_mod_cast h1, by exact_mod_cast h2⟩
    rw [Rat.pow_succ]
    generalize (8 : Rat) ^ j = P at *
    have l3 := mulLe h l1
    obtain ⟨r1, v1, e3, w3, b3, _⟩ := mul64 (M := 5 * P) hu w1 l3 ⟨by grind, by grind⟩
    obtain ⟨r2, v2, e4, w4, b4, _⟩ := sub64 (M := 7 * P) w2 w3 ⟨by grind, by grind⟩ ⟨by grind, by grind⟩
    refine ⟨r2, v2, ?_, w4, ⟨by grind, by grind⟩⟩
    simp only [polyB, e1, e2, e3, e4, Option.bind_eq_bind, Option.bind_some]

theorem quo_some {x y : Nat} {a b : Rat} (hx : V64 x a) (hy : V64 y b) (h : ¬ (a = 0 ∧ b = 0)) : ∃ r, fb .quo .f64 x y = some r := by
  obtain ⟨s, m, i, h1, rfl⟩ := hx
  obtain ⟨t, n, j, h2, rfl⟩ := hy
  by_cases hn : n = 0
  · have hm : m ≠ 0 := by
      intro hm
      subst hm hn
      exact h ⟨dval_zero _ _, dval_zero _ _⟩
    have : Ieee.double.div x y = some (Ieee.double.write (.infinity (s ^^ t))) := by
      unfold Ieee.Format.div
      rw [h1, h2]
      simp only [Ieee.Datum.quotient, if_pos hn, if_neg hm]
      rfl
    exact ⟨_, this⟩
  · have hb : dval t n j ≠ 0 := by
      intro h0
      have h3 := abs_dval t n j
      rw [h0, Rat.abs_zero] at h3
      have h4 : 0 < (n : Rat) * pw j := Rat.mul_pos (Rat.natCast_pos.2 (Nat.pos_of_ne_zero hn)) (pw_pos j)
      rw [← h3] at h4
      exact Rat.lt_irrefl h4
    obtain ⟨r, d, h3, _, _⟩ := div_rnd (x := x) (y := y) ⟨s, m, i, h1, rfl⟩ ⟨t, n, j, h2, rfl⟩ hb
    exact ⟨r, h3⟩

theorem ratio_le {a b : Rat} (ha : 0 ≤ a) (hb : 0 < b) (h : a ≤ b) : Le (a / b) 1 := by
  have hne : b ≠ 0 := Rat.ne_of_gt hb
  have h1 : a / b * b = a := Rat.div_mul_cancel hne
  constructor
  · have : 0 ≤ a / b := by rw [Rat.div_def]; exact Rat.mul_nonneg ha (Rat.le_of_lt (Rat.inv_pos.2 hb))
    grind
  · exact Rat.le_of_mul_le_mul_right (c := b) (by rw [h1]; grind) hb

theorem angA_num {x y : Nat} {a b : Rat} (hx : V64 x a) (hy : V64 y b) (ha : 0 ≤ a) (hb : 0 ≤ b) (h : ¬ (a = 0 ∧ b = 0)) : ∃ r v, angA x y = some r ∧ V64 r v ∧ Le v (10 ^ 9) := by
  obtain ⟨t0, h0⟩ := quo_some hx hy h
  have ho : FloatKind.f64.format.order x y = some (if a < b then .lt else if a = b then .eq else .gt) := order_eq hx hy
  have ht : ∃ t v, pickT x y t0 = some t ∧ V64 t v ∧ Le v (3 / 2) := by
    unfold pickT
    rcases Rat.le_total (a := a) (b := b) with hab | hab
    · have hbp : 0 < b := by
        rcases Rat.le_iff_lt_or_eq.1 hb with h1 | h1
        · exact h1
        · exfalso; exact h ⟨by grind, h1.symm⟩
      obtain ⟨r, v, e1, w1, b1⟩ := quo64 (M := 1) hx hy (Rat.ne_of_gt hbp) (ratio_le ha hbp hab) ⟨by decide +kernel, by decide +kernel⟩
      rw [h0] at e1
      simp only [Option.some.injEq] at e1
      subst e1
      have l := ratio_le ha hbp hab
      refine ⟨t0, v, ?_, w1, ⟨by grind, by grind⟩⟩
      have hbig : bigB x y = false := by
        unfold bigB
        rw [ho]
        by_cases h1 : a < b
        · rw [if_pos h1]; rfl
        · rw [if_neg h1, if_pos (Rat.le_antisymm hab (Rat.not_lt.1 h1))]; rfl
      rw [hbig]; rfl
    · by_cases hba : a = b
      · subst hba
        have hbp : 0 < a := by
          rcases Rat.le_iff_lt_or_eq.1 hb with h1 | h1
          · exact h1
          · exfalso; exact h ⟨h1.symm, h1.symm⟩
        obtain ⟨r, v, e1, w1, b1⟩ := quo64 (M := 1) hx hy (Rat.ne_of_gt hbp) (ratio_le ha hbp hab) ⟨by decide +kernel, by decide +kernel⟩
        rw [h0] at e1
        simp only [Option.some.injEq] at e1
        subst e1
        have l := ratio_le ha hbp hab
        refine ⟨t0, v, ?_, w1, ⟨by grind, by grind⟩⟩
        have hbig : bigB x y = false := by
          unfold bigB
          rw [ho, if_neg Rat.lt_irrefl, if_pos rfl]; rfl
        rw [hbig]; rfl
      · have hlt : b < a := Rat.lt_of_le_of_ne hab (fun h => hba h.symm)
        have hap : 0 < a := by grind
        obtain ⟨r, v, e1, w1, b1⟩ := quo64 (M := 1) hy hx (Rat.ne_of_gt hap) (ratio_le hb hap hab) ⟨by decide +kernel, by decide +kernel⟩
        have l := ratio_le hb hap hab
        refine ⟨r, v, ?_, w1, ⟨by grind, by grind⟩⟩
        have hbig : bigB x y = true := by
          unfold bigB
          rw [ho, if_neg (Rat.not_lt.2 (Rat.le_of_lt hlt)), if_neg hba]; rfl
        rw [hbig]; exact e1
  obtain ⟨t, v, e1, w1, l1⟩ := ht
  obtain ⟨t3, v3, e2, w2, l2⟩ := iterT_num w1 l1
  have k1 := mulLe l2 l2
  obtain ⟨u, vu, e3, w3, b3, _⟩ := mul64 (M := 4) w2 w2 ⟨by grind, by grind⟩ ⟨by decide +kernel, by decide +kernel⟩
  obtain ⟨p, vp, e4, w4, l4⟩ := polyB_num w3 (show Le vu 5 from ⟨by grind, by grind⟩) 8 (Nat.le_refl _)
  have e8 : (8 : Rat) ^ 8 = 16777216 := by decide +kernel
  rw [e8] at l4
  have k2 := mulLe l2 l4
  obtain ⟨tp, v5, e5, w5, b5, _⟩ := mul64 (M := 40000000) w2 w4 ⟨by grind, by grind⟩ ⟨by decide +kernel, by decide +kernel⟩
  have c8 : V64 4620693217682128896 8 := V64_of (by decide +kernel)
  obtain ⟨e, v6, e6, w6, b6, _⟩ := mul64 (M := 400000000) c8 w5 ⟨by grind, by grind⟩ ⟨by decide +kernel, by decide +kernel⟩
  have c2 : ∃ q, V64 4618760256179416344 q ∧ 6 ≤ q ∧ q ≤ 7 := ⟨_, V64_some (by decide +kernel), by decide +kernel, by decide +kernel⟩
  obtain ⟨q, q1, q2, q3⟩ := c2
  have hq : q ≠ 0 := by grind
  have hdiv : Le (v6 / q) 500000000 := by
    have h1 : v6 / q * q = v6 := Rat.div_mul_cancel hq
    rcases Rat.le_total (a := 0) (b := v6 / q) with h2 | h2
    · have := Rat.mul_le_mul_of_nonneg_left q2 h2
      constructor <;> grind
    · have := Rat.mul_le_mul_of_nonneg_left q2 (show 0 ≤ -(v6 / q) by grind)
      constructor <;> grind
  obtain ⟨an, v7, e7, w7, b7⟩ := quo64 w6 q1 hq hdiv ⟨by decide +kernel, by decide +kernel⟩
  have cq : V64 4598175219545276416 (1 / 4) := V64_of (by decide +kernel)
  obtain ⟨an', v8, e8', w8, b8, _⟩ := sub64 (M := 600000000) cq w7 ⟨by grind, by grind⟩ ⟨by decide +kernel, by decide +kernel⟩
  unfold angA
  simp only [h0, e1, e2, e3, e4, e5, e6, e7, Option.bind_eq_bind, Option.bind_some]
  unfold turnQ
  by_cases hb' : bigB x y = true
  · rw [if_pos hb']
    exact ⟨an', v8, e8', w8, ⟨by grind, by grind⟩⟩
  · rw [if_neg hb']
    exact ⟨an, v7, rfl, w7, ⟨by grind, by grind⟩⟩

/-- The angle of a point that is not the origin is a finite number. -/
theorem angleB_num {y x : Nat} {a b : Rat} (hy : V32 y a) (hx : V32 x b) (h : ¬ (a = 0 ∧ b = 0)) : ∃ r v, angleB y x = some r ∧ V32 r v := by
  obtain ⟨y', h1, h2⟩ := widen hy
  obtain ⟨x', h3, h4⟩ := widen hx
  have h5 := abs64_val h2
  have h6 := abs64_val h4
  obtain ⟨an, v, e1, w1, l1⟩ := angA_num h5 h6 Rat.abs_nonneg Rat.abs_nonneg (by rw [Rat.abs_eq_zero_iff, Rat.abs_eq_zero_iff]; exact h)
  have ch : V64 4602678819172646912 (1 / 2) := V64_of (by decide +kernel)
  have h7 : ∃ r v, turnX x an = some r ∧ V64 r v ∧ Le v (2 * 10 ^ 9) := by
    unfold turnX
    by_cases hn : negB x = true
    · rw [if_pos hn]
      obtain ⟨r, v', e2, w2, b2, _⟩ := sub64 (M := 1 + 10 ^ 9) ch w1 ⟨by grind, by grind⟩ ⟨by decide +kernel, by decide +kernel⟩
      exact ⟨r, v', e2, w2, ⟨by grind, by grind⟩⟩
    · rw [if_neg hn]
      exact ⟨an, v, rfl, w1, ⟨by grind, by grind⟩⟩
  obtain ⟨r, v', e2, w2, l2⟩ := h7
  have h8 : ∃ v'', V64 (turnY y r) v'' ∧ Le v'' (2 * 10 ^ 9) := by
    unfold turnY
    by_cases hn : negB y = true
    · rw [if_pos hn]
      exact ⟨_, neg64_val w2, ⟨by grind, by grind⟩⟩
    · rw [if_neg hn]
      exact ⟨_, w2, l2⟩
  obtain ⟨v'', w3, l3⟩ := h8
  obtain ⟨z, vz, e3, w4, _, _⟩ := cut32 w3 l3 ⟨by decide +kernel, by decide +kernel⟩
  refine ⟨z, vz, ?_, w4⟩
  unfold angleB
  simp only [h1, h3, e1, e2, e3, Option.bind_eq_bind, Option.bind_some]

end Go.Proofs.Ytgeiaafdholcbaa
