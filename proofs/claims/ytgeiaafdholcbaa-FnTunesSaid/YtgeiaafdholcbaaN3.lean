/-
  What the words of a tune come to, at every trace.
-/
import Derived.Test.YtgeiaafdholcbaaN2
set_option linter.unusedVariables false
set_option linter.unusedSimpArgs false
namespace Go.Proofs.Ytgeiaafdholcbaa
open FT

theorem pw_num (k : Nat) : pw (k : Int) = (2 : Rat) ^ k := by
  rw [pw_nat, Rat.natCast_pow]
  rfl

/-- A word of 32 bits that is hardly greater than a power of two is not greater. -/
theorem le_pow32 {w : Nat} {v : Rat} {k : Int} (h : V32 w v) (hv : v < pw k + pw (k - 23)) : v ≤ pw k := by
  obtain ⟨s, m, e, h1, rfl⟩ := h
  obtain ⟨hm, he1, he2⟩ := read_single h1
  cases s with
  | true =>
    have h0 : 0 ≤ (m : Rat) * pw e := Rat.mul_nonneg Rat.natCast_nonneg (Rat.le_of_lt (pw_pos e))
    have hp := pw_pos k
    unfold dval sgn
    simp only [if_true]
    grind
  | false =>
    unfold dval sgn at hv ⊢
    simp only [Bool.false_eq_true, if_false, Rat.one_mul] at hv ⊢
    rcases Int.lt_or_le e (k - 23) with he | he
    · have h2 : (m : Rat) ≤ pw (24 : Nat) := by rw [pw_nat]; exact_mod_cast (Nat.le_of_lt hm)
      have h3 := Rat.mul_le_mul_of_nonneg_right h2 (Rat.le_of_lt (pw_pos e))
      rw [← pw_add] at h3
      have h4 := pw_le (a := ((24 : Nat) : Int) + e) (b := k) (by omega)
      grind
    · have e1 := pw_toNat he
      have e2 := pw_toNat (a := k) (b := k - 23) (by omega)
      have e3 : (k - (k - 23)).toNat = 23 := by omega
      rw [e3] at e2
      rw [e1, e2] at hv
      rw [e1, e2]
      have hp := pw_pos (k - 23)
      have h5 : (m : Rat) * (((2 ^ (e - (k - 23)).toNat : Nat) : Rat) * pw (k - 23)) = ((m * 2 ^ (e - (k - 23)).toNat : Nat) : Rat) * pw (k - 23) := by
        rw [Rat.natCast_mul]; grind
      rw [h5] at hv ⊢
      have h6 : ((2 ^ 23 : Nat) : Rat) * pw (k - 23) + pw (k - 23) = ((2 ^ 23 + 1 : Nat) : Rat) * pw (k - 23) := by
        rw [Rat.natCast_add]
        have : ((1 : Nat) : Rat) = 1 := rfl
        rw [this]; grind
      rw [h6] at hv
      have h7 : ((m * 2 ^ (e - (k - 23)).toNat : Nat) : Rat) < ((2 ^ 23 + 1 : Nat) : Rat) := Rat.lt_of_mul_lt_mul_right hv (Rat.le_of_lt hp)
      have h8 : m * 2 ^ (e - (k - 23)).toNat < 2 ^ 23 + 1 := by exact_mod_cast h7
      exact Rat.mul_le_mul_of_nonneg_right (by exact_mod_cast Nat.le_of_lt_succ h8) (Rat.le_of_lt hp)

theorem le_one32 {w : Nat} {v : Rat} (h : V32 w v) (hv : v < 1 + 1 / 8388608) : v ≤ 1 := by
  have := le_pow32 (k := 0) h (by
    have e1 : pw 0 = 1 := pw_zero
    have e2 : pw (0 - 23) = 1 / 8388608 := by decide +kernel
    rw [e1, e2]; exact hv)
  rwa [pw_zero] at this
theorem le_half32 {w : Nat} {v : Rat} (h : V32 w v) (hv : v < 1 / 2 + 1 / 16777216) : v ≤ 1 / 2 := by
  have e1 : pw (-1) = 1 / 2 := by decide +kernel
  have := le_pow32 (k := -1) h (by
    have e2 : pw (-1 - 23) = 1 / 16777216 := by decide +kernel
    rw [e1, e2]; exact hv)
  rwa [e1] at this

theorem cut_half {x : Nat} {a : Rat} (hx : V64 x a) (h : Le a (1 / 2 + 1 / 134217728)) : ∃ r v, cv32 x = some r ∧ V32 r v ∧ A v a (1 / 8388608) ∧ Le v (1 / 2) := by
  have hb := big32
  have h1 := abs_of_le h
  obtain ⟨r, h3, h4⟩ := narrow hx (by grind)
  obtain ⟨v, h5, h6⟩ := h4.val ok_single (by rw [top32]; grind)
  rw [unit32] at h6
  have ht := tiny32
  obtain ⟨a1, a2⟩ := le_of_abs h6
  obtain ⟨b1, b2⟩ := h
  refine ⟨r, v, h3, h5, ⟨by grind, by grind⟩, ?_, le_half32 h5 (by grind)⟩
  have := le_half32 (neg32_val h5) (by grind)
  grind

theorem minus_half : V32 3204448256 (-1 / 2) := V32_of (by decide +kernel)
theorem plus_half : V32 1056964608 (1 / 2) := V32_of (by decide +kernel)
theorem quarter32 : V32 1048576000 (1 / 4) := V32_of (by decide +kernel)
theorem two64 : V64 4611686018427387904 2 := V64_of (by decide +kernel)
theorem two32 : V32 1073741824 2 := V32_of (by decide +kernel)
theorem cent_val : ∃ q, V64 4576918229304087675 q ∧ 999 / 100000 ≤ q := ⟨_, V64_some (by decide +kernel), by decide +kernel⟩
theorem far_val : V64 4841369599423283200 4503599627370496 := V64_of (by decide +kernel)
theorem far_val' : V64 14064741636278059008 (-4503599627370496) := V64_of (by decide +kernel)

theorem toInt_zero {t : Nat} {v : Rat} (h : V64 t v) (h1 : -1 < v) (h2 : v < 1) : floatToIntVal .f64 t .i64 = some 0 := by
  obtain ⟨s, m, e, hr, rfl⟩ := h
  have habs : (m : Rat) * pw e < 1 := by
    have hp : 0 ≤ (m : Rat) * pw e := Rat.mul_nonneg Rat.natCast_nonneg (Rat.le_of_lt (pw_pos e))
    unfold dval sgn at h1 h2
    cases s
    · simp only [Bool.false_eq_true, if_false, Rat.one_mul] at h2; exact h2
    · simp only [if_true] at h1; grind
  have hcut : Ieee.Toward.zero.cut s (m <<< e.toNat) (-e).toNat = 0 := by
    rcases Int.lt_or_le e 0 with he | he
    · have e1 : e.toNat = 0 := by omega
      rw [e1, Nat.shiftLeft_zero]
      have e2 := pw_toNat (a := 0) (b := e) (by omega)
      rw [pw_zero] at e2
      have hm : m < 2 ^ (-e).toNat := by
        have hp := pw_pos e
        have h3 : (m : Rat) * pw e < ((2 ^ (0 - e).toNat : Nat) : Rat) * pw e := by rw [← e2]; exact habs
        have h4 := Rat.lt_of_mul_lt_mul_right h3 (Rat.le_of_lt hp)
        have h5 : m < 2 ^ (0 - e).toNat := by exact_mod_cast h4
        have e3 : (0 - e).toNat = (-e).toNat := by omega
        rwa [e3] at h5
      unfold Ieee.Toward.cut
      simp only [Nat.one_shiftLeft]
      by_cases hd : (-e).toNat ≤ m.log2 + 2
      · rw [Nat.min_eq_left hd, Nat.div_eq_of_lt hm]
        simp
      · rw [Nat.min_eq_right (by omega)]
        have hlog : m < 2 ^ (m.log2 + 1) := Nat.lt_log2_self
        rw [Nat.div_eq_of_lt (Nat.lt_of_lt_of_le hlog (Nat.pow_le_pow_right (by decide) (by omega)))]
        simp
    · have hm : m = 0 := by
        have h3 := pw_le (a := 0) (b := e) he
        rw [pw_zero] at h3
        rcases Nat.eq_zero_or_pos m with h0 | h0
        · exact h0
        · have h4 : (1 : Rat) ≤ (m : Rat) := by exact_mod_cast h0
          have h5 := Rat.mul_le_mul_of_nonneg_right h4 (Rat.le_of_lt (pw_pos e))
          grind
      subst hm
      have e1 : (-e).toNat = 0 := by omega
      rw [e1, Nat.zero_shiftLeft]
      rfl
  unfold floatToIntVal
  have hd : FloatKind.f64.decode t = .number s m e := hr
  rw [hd]
  have hi : (Ieee.Datum.number s m e).toInt .zero = some 0 := by
    unfold Ieee.Datum.toInt Ieee.Datum.integral
    simp only [hcut]
    unfold Ieee.signed
    cases s <;> simp
  rw [hi]
  rfl

theorem turn1 {t : Nat} {v : Rat} (h : V64 t v) (h1 : -1 < v) (h2 : v < 1) : Turn1 t := by
  refine ⟨⟨v, h⟩, ?_, ?_, toInt_zero h h1 h2⟩
  · have e : FloatKind.f64.format.order t 4841369599423283200 = _ := order_eq h far_val
    rw [e, if_pos (by grind)]
    rfl
  · have e : FloatKind.f64.format.order t 14064741636278059008 = _ := order_eq h far_val'
    rw [e, if_neg (by grind), if_neg (by grind)]
    rfl

theorem ok_iff {i : I} (h : okI i = true) {v : Rat} (hv : Bet v i) : Le v 16 := by
  obtain ⟨k1, k2⟩ := ok_le h
  obtain ⟨v1, v2⟩ := hv
  rw [c16'] at k1
  rw [c16] at k2
  constructor <;> grind

theorem c22 : ((4194304 : Int) : Rat) = 4194304 := rfl
theorem c38 : ((274877906944 : Int) : Rat) = 274877906944 := rfl
theorem c33 : ((10885165114 : Int) : Rat) = 10885165114 := rfl

set_option maxHeartbeats 1000000 in
theorem fin_of {T t : Nat} {θ τ : Rat} {hI wI : I} (hT : V32 T θ) (hθ : Le θ (1 / 2)) (hw : Bet θ wI) (ht : V32 t τ) (hτ : Le τ 2) (hh : Bet (τ / 2) hI) (hc : finChk hI wI = true) :
    ∃ q q' c c' t' h g, fb .add .f32 T 1048576000 = some q ∧ cv64 q = some q' ∧ Turn1 q' ∧ sineT q = some c ∧ cv64 c = some c' ∧ cv64 t = some t' ∧ fb .quo .f64 t' 4611686018427387904 = some h ∧ gap10 c' h = some g ∧
      (FloatKind.f32.format.order T 3204448256 == some .gt || FloatKind.f32.format.order T 3204448256 == some .eq) = true ∧
      (FloatKind.f32.format.order T 1056964608 == some .lt || FloatKind.f32.format.order T 1056964608 == some .eq) = true ∧ (FloatKind.f64.format.order g 4576918229304087675 == some .lt) = true := by
  unfold finChk at hc
  simp only [Bool.and_eq_true, decide_eq_true_eq] at hc
  obtain ⟨⟨k1, k2⟩, k3⟩ := hc
  obtain ⟨w1, w2⟩ := hw
  obtain ⟨θ1, θ2⟩ := hθ
  obtain ⟨q, Q, e1, x1, b1, _⟩ := add32 (M := 1) hT quarter32 ⟨by grind, by grind⟩ ⟨by decide +kernel, by decide +kernel⟩
  obtain ⟨q', e2, x2⟩ := widen x1
  have K1 := Rat.intCast_lt_intCast.2 k1
  have K2 := Rat.intCast_lt_intCast.2 k2
  have eS : ((-1099511627776 : Int) : Rat) = -1099511627776 := rfl
  simp only [Rat.intCast_add, Rat.intCast_sub, c22, c38, cS, eS] at K1 K2
  obtain ⟨b1a, b1b⟩ := b1
  have hIn : In q' (wI.1 + 274877906944 - 4194304, wI.2 + 274877906944 + 4194304) := by
    refine ⟨Q, x2, ?_, ?_⟩
    · simp only [Rat.intCast_add, Rat.intCast_sub, c22, c38]; grind
    · simp only [Rat.intCast_add, Rat.intCast_sub, c22, c38]; grind
  have hturn : Turn1 q' := turn1 x2 (by grind) (by grind)
  obtain ⟨s, i, e3, ⟨σ, xs, s1, s2⟩, hP⟩ := sin_In hIn k3
  unfold lastChk at hP
  simp only [Bool.and_eq_true, decide_eq_true_eq] at hP
  obtain ⟨⟨p1, p2⟩, p3⟩ := hP
  have P2 := icast p2
  have P3 := icast p3
  simp only [Rat.intCast_add, Rat.intCast_sub, c22, c33] at P2 P3
  obtain ⟨c, C, e4, x4, b4, _⟩ := cut32 (M := 16) xs (ok_iff p1 ⟨s1, s2⟩) ⟨by decide +kernel, by decide +kernel⟩
  obtain ⟨c', e5, x5⟩ := widen x4
  obtain ⟨t', e6, x6⟩ := widen ht
  obtain ⟨h, H, e7, x7, b7⟩ := quo64 (M := 2) x6 two64 (by decide +kernel) (by obtain ⟨t1, t2⟩ := hτ; constructor <;> grind) ⟨by decide +kernel, by decide +kernel⟩
  obtain ⟨h1, h2⟩ := hh
  obtain ⟨b4a, b4b⟩ := b4
  obtain ⟨b7a, b7b⟩ := b7
  obtain ⟨ce, ce1, ce2⟩ := cent_val
  have hdiff : Le (C - H) (991 / 100000) := by constructor <;> grind
  have hg : ∃ g G, gap10 c' h = some g ∧ V64 g G ∧ G < 999 / 100000 := by
    unfold gap10
    split
    · obtain ⟨g, G, e8, x8, b8, _⟩ := sub64 (M := 1) x7 x5 (by constructor <;> grind) ⟨by decide +kernel, by decide +kernel⟩
      exact ⟨g, G, e8, x8, by grind⟩
    · obtain ⟨g, G, e8, x8, b8, _⟩ := sub64 (M := 1) x5 x7 (by constructor <;> grind) ⟨by decide +kernel, by decide +kernel⟩
      exact ⟨g, G, e8, x8, by grind⟩
  obtain ⟨g, G, e8, x8, b8⟩ := hg
  refine ⟨q, q', c, c', t', h, g, e1, e2, hturn, ?_, e5, e6, e7, e8, ?_, ?_, ?_⟩
  · unfold sineT
    simp only [e2, e3, e4, Option.bind_eq_bind, Option.bind_some]
  · have e : FloatKind.f32.format.order T 3204448256 = _ := order_eq hT minus_half
    rw [e, if_neg (by grind)]
    split <;> rfl
  · have e : FloatKind.f32.format.order T 1056964608 = _ := order_eq hT plus_half
    rw [e]
    by_cases hlt : θ < 1 / 2
    · rw [if_pos hlt]; rfl
    · rw [if_neg hlt, if_pos (by grind)]; rfl
  · have e : FloatKind.f64.format.order g 4576918229304087675 = _ := order_eq x8 ce1
    rw [e, if_pos (by grind)]
    rfl

theorem neg_val32 {x : Nat} {v : Rat} (h : V32 x v) : negB x = decide (v < 0) := by
  unfold negB
  have e : FloatKind.f32.format.order x 0 = _ := order_eq h zero32
  rw [e]
  by_cases hv : v < 0
  · rw [if_pos hv, decide_eq_true hv]; rfl
  · rw [if_neg hv, decide_eq_false hv]
    split <;> rfl

theorem c13 : ((8192 : Int) : Rat) = 8192 := rfl
theorem c13' : ((-8192 : Int) : Rat) = -8192 := rfl
theorem cH : ((549755822080 : Int) : Rat) = 549755822080 := rfl
theorem c20 : ((1048576 : Int) : Rat) = 1048576 := rfl

/-- The last steps of an angle. -/
theorem an_of {a : Nat} {hI n : I} (h : In a n) (hc : anChk hI n = true) : ∃ an α, cv32 a = some an ∧ V32 an α ∧ Le α (1 / 2) ∧ (∃ wI, Bet α wI ∧ finChk hI wI = true) ∧ ∃ wI, Bet (-α) wI ∧ finChk hI wI = true := by
  unfold anChk at hc
  simp only [Bool.and_eq_true, decide_eq_true_eq] at hc
  obtain ⟨⟨⟨k1, k2⟩, k3⟩, k4⟩ := hc
  obtain ⟨v, hv, v1, v2⟩ := h
  have K1 := icast k1
  have K2 := icast k2
  rw [c13'] at K1
  rw [cH] at K2
  obtain ⟨r, α, e1, x1, b1, l1⟩ := cut_half hv ⟨by grind, by grind⟩
  obtain ⟨b1a, b1b⟩ := b1
  refine ⟨r, α, e1, x1, l1, ⟨_, ⟨?_, ?_⟩, k3⟩, ⟨_, ⟨?_, ?_⟩, k4⟩⟩
  all_goals
    simp only [Rat.intCast_add, Rat.intCast_sub, Rat.intCast_neg, c22]
    grind

theorem abs_le_self' (x : Rat) : Le x x.abs := le_of_abs Rat.le_refl
theorem one32_v : V32 1065353216 1 := V32_of (by decide +kernel)

theorem lt_two32 {w : Nat} {v : Rat} (h : V32 w v) (hv : v < 2) : v ≤ 2 - 1 / 8388608 := by
  obtain ⟨s, m, e, h1, rfl⟩ := h
  obtain ⟨hm, he1, he2⟩ := read_single h1
  cases s with
  | true =>
    have h0 : 0 ≤ (m : Rat) * pw e := Rat.mul_nonneg Rat.natCast_nonneg (Rat.le_of_lt (pw_pos e))
    unfold dval sgn
    simp only [if_true]
    grind
  | false =>
    unfold dval sgn at hv ⊢
    simp only [Bool.false_eq_true, if_false, Rat.one_mul] at hv ⊢
    have e23 : pw (-23) = 1 / 8388608 := by decide +kernel
    rcases Int.lt_or_le e (-23) with he | he
    · have h2 : (m : Rat) ≤ pw (24 : Nat) := by rw [pw_nat]; exact_mod_cast (Nat.le_of_lt hm)
      have h3 := Rat.mul_le_mul_of_nonneg_right h2 (Rat.le_of_lt (pw_pos e))
      rw [← pw_add] at h3
      have h4 := pw_le (a := ((24 : Nat) : Int) + e) (b := 0) (by omega)
      rw [pw_zero] at h4
      grind
    · have e1 := pw_toNat he
      rw [e23] at e1
      rw [e1] at hv ⊢
      have h5 : (m : Rat) * (((2 ^ (e - -23).toNat : Nat) : Rat) * (1 / 8388608)) = ((m * 2 ^ (e - -23).toNat : Nat) : Rat) * (1 / 8388608) := by
        rw [Rat.natCast_mul]; grind
      rw [h5] at hv ⊢
      have h7 : ((m * 2 ^ (e - -23).toNat : Nat) : Rat) < ((16777216 : Nat) : Rat) := by
        have : ((16777216 : Nat) : Rat) = 16777216 := rfl
        rw [this]
        grind
      have h8 : m * 2 ^ (e - -23).toNat < 16777216 := by exact_mod_cast h7
      have h9 : ((m * 2 ^ (e - -23).toNat : Nat) : Rat) ≤ ((16777215 : Nat) : Rat) := by exact_mod_cast Nat.le_of_lt_succ h8
      have : ((16777215 : Nat) : Rat) = 16777215 := rfl
      rw [this] at h9
      grind

/-- Half of a number between -2 and 2. -/
theorem half_of {t : Nat} {τ : Rat} (ht : V32 t τ) (h1 : -2 < τ) (h2 : τ < 2) : ∃ c γ, fb .quo .f32 t 1073741824 = some c ∧ V32 c γ ∧ A γ (τ / 2) (1 / 4194304) ∧ Le γ 1 := by
  have g1 := lt_two32 ht h2
  have g2 := lt_two32 (neg32_val ht) (by grind)
  obtain ⟨r, d, e1, hr, hd⟩ := div_rnd ht two32 (by decide +kernel)
  have hb := big32
  rw [unit32] at hd
  have hab : (τ / 2).abs ≤ 1 - 1 / 16777216 := abs_of_le ⟨by grind, by grind⟩
  have hm := Rat.mul_le_mul_of_nonneg_right hab (show (0 : Rat) ≤ 1 / 16777216 by decide +kernel)
  obtain ⟨d1, d2⟩ := le_of_abs (Rat.le_trans hd hm)
  have hda : d.abs ≤ 1 := abs_of_le ⟨by grind, by grind⟩
  obtain ⟨γ, x1, hv⟩ := hr.val ok_single (by rw [top32]; grind)
  rw [unit32] at hv
  have ht' := tiny32
  have hda' : d.abs ≤ 1 - 1 / 281474976710656 := abs_of_le ⟨by grind, by grind⟩
  obtain ⟨v1, v2⟩ := le_of_abs hv
  refine ⟨r, γ, e1, x1, ⟨by grind, by grind⟩, ?_, le_one32 x1 (by grind)⟩
  have := le_one32 (neg32_val x1) (by grind)
  grind

set_option maxHeartbeats 4000000 in
theorem tune_num {t : Nat} {τ : Rat} (ht : V32 t τ) (h1 : -2 < τ) (h2 : τ < 2) :
    ∃ c cc d r an x y, fb .quo .f32 t 1073741824 = some c ∧ fb .mul .f32 c c = some cc ∧ fb .sub .f32 1065353216 cc = some d ∧ rootB d = some r ∧ angleB r c = some an ∧ V32 r x ∧ V32 c y ∧ ¬ (x = 0 ∧ y = 0) ∧
      ∃ α hI, V32 an α ∧ Le α (1 / 2) ∧ Bet (τ / 2) hI ∧ (∃ wI, Bet α wI ∧ finChk hI wI = true) ∧ ∃ wI, Bet (-α) wI ∧ finChk hI wI = true := by
  obtain ⟨c, γ, e1, x1, ⟨b1a, b1b⟩, lg⟩ := half_of ht h1 h2
  have hsq := mulLe lg lg
  obtain ⟨cc, ν, e2, x2, ⟨b2a, b2b⟩, n2⟩ := mul32 (M := 1) x1 x1 ⟨by grind, by grind⟩ ⟨by decide +kernel, by decide +kernel⟩
  have sq0 : 0 ≤ γ * γ := mul_self_nonneg.sq_nonneg' γ
  have ν0 := n2 sq0
  have ν1 : ν ≤ 1 := by
    obtain ⟨r', h1', h2'⟩ := mul_rnd x1 x1
    have h1'' : fb .mul .f32 c c = some r' := h1'
    rw [e2] at h1''
    obtain rfl := Option.some.inj h1''
    have ha : (γ * γ).abs ≤ 1 := abs_of_le ⟨by grind, by grind⟩
    have hb := big32
    obtain ⟨v, hv, hv'⟩ := h2'.val ok_single (by rw [top32]; grind)
    obtain rfl := hv.unique x2
    rw [unit32] at hv'
    have ht' := tiny32
    obtain ⟨v1, v2⟩ := le_of_abs hv'
    exact le_one32 hv (by grind)
  obtain ⟨d, δ, e3, x3, ⟨b3a, b3b⟩, n3⟩ := sub32 (M := 1) one32_v x2 ⟨by grind, by grind⟩ ⟨by decide +kernel, by decide +kernel⟩
  have δ0 := n3 (by grind)
  obtain ⟨d', e4, x4⟩ := widen x3
  have hγa := abs_of_le lg
  have hγ0 : 0 ≤ γ.abs := Rat.abs_nonneg
  obtain ⟨C, D, hC0, hC, hD, htab⟩ := cell_of (γ.abs * 1099511627776) (by grind) (by grind)
  unfold tuneChk at htab
  simp only [Bool.and_eq_true] at htab
  obtain ⟨⟨t1, t2⟩, t3⟩ := htab
  have hCr := icast hC0
  have z0 : ((0 : Int) : Rat) = 0 := rfl
  rw [z0] at hCr
  have hgg : γ.abs * γ.abs = γ * γ := by
    rcases Rat.le_total (a := 0) (b := γ) with h | h
    · rw [Rat.abs_of_nonneg h]
    · rw [Rat.abs_of_nonpos h]; grind
  have Sg : 0 ≤ γ.abs * 1099511627776 := by grind
  have hDD : (γ.abs * 1099511627776) * (γ.abs * 1099511627776) ≤ (D : Rat) * (D : Rat) := by
    have := Rat.mul_le_mul_of_nonneg_left hD Sg
    have := Rat.mul_le_mul_of_nonneg_right hD (show (0 : Rat) ≤ D by grind)
    grind
  have hCC : (C : Rat) * (C : Rat) ≤ (γ.abs * 1099511627776) * (γ.abs * 1099511627776) := by
    have := Rat.mul_le_mul_of_nonneg_left hC hCr
    have := Rat.mul_le_mul_of_nonneg_right hC Sg
    grind
  have e9 : (γ.abs * 1099511627776) * (γ.abs * 1099511627776) = γ * γ * 1099511627776 * 1099511627776 := by rw [← hgg]; grind
  rw [e9] at hDD hCC
  have dD := icast (Int.le_of_lt (div_floor (D * D) (n := 1099511627776) (by decide)).2)
  have dC := icast (div_floor (C * C) (n := 1099511627776) (by decide)).1
  simp only [Rat.intCast_mul, Rat.intCast_add, cS, c1] at dD dC
  have hInd : In d' (dI (C, D)) := by
    refine ⟨δ, x4, ?_, ?_⟩
    · unfold dI
      simp only
      rcases Int.le_total 0 (1099511627776 - D * D / 1099511627776 - 4194304) with h | h
      · rw [Int.max_eq_right h]
        simp only [Rat.intCast_sub, cS, c22]
        grind
      · rw [Int.max_eq_left h, z0]
        exact Rat.mul_nonneg δ0 (by decide +kernel)
    · unfold dI
      simp only [Rat.intCast_add, Rat.intCast_sub, cS, c22]
      grind
  have hd0 : ∀ v, V64 d' v → 0 ≤ v := fun v hv => by rw [hv.unique x4]; exact δ0
  obtain ⟨s, e5, ⟨ς, x5, s1, s2⟩, hs0⟩ := hInd.sqrt hd0 t1
  obtain ⟨r, σ, e6, x6, ⟨b6a, b6b⟩, n6⟩ := cut32 (M := 16) x5 (ok_iff t2 ⟨s1, s2⟩) ⟨by decide +kernel, by decide +kernel⟩
  have ς0 := hs0 ς x5
  have σ0 := n6 ς0
  have hroot : rootB d = some r := by
    unfold rootB
    simp only [e4, e5, e6, Option.bind_eq_bind, Option.bind_some]
  have hBσ : Bet σ (sI (isqrtR (dI (C, D)))) := by
    unfold sI
    refine ⟨?_, ?_⟩
    · simp only
      rcases Int.le_total 0 ((isqrtR (dI (C, D))).1 - 4194304) with h | h
      · rw [Int.max_eq_right h]
        simp only [Rat.intCast_sub, c22]
        grind
      · rw [Int.max_eq_left h, z0]
        exact Rat.mul_nonneg σ0 (by decide +kernel)
    · simp only [Rat.intCast_add, c22]
      grind
  -- not both are nought
  have hne : ¬ (σ = 0 ∧ γ = 0) := by
    rintro ⟨rfl, rfl⟩
    have hIn2 : In d' (1099511627776 - 4194304, 1099511627776 + 4194304) := by
      refine ⟨δ, x4, ?_, ?_⟩
      · simp only [Rat.intCast_sub, cS, c22]; grind
      · simp only [Rat.intCast_add, cS, c22]; grind
    obtain ⟨s', e5', ⟨ς', x5', s1', s2'⟩, _⟩ := hIn2.sqrt (c := (549755813888, 2199023255552)) hd0 (by decide +kernel)
    rw [e5] at e5'
    obtain rfl := Option.some.inj e5'
    obtain rfl := x5.unique x5'
    have e10 : ((549755813888 : Int) : Rat) = 549755813888 := rfl
    rw [e10] at s1'
    grind
  obtain ⟨y64, e7, x7⟩ := widen x6
  obtain ⟨x64, e8, x8⟩ := widen x1
  have xa := abs64_val x7
  rw [Rat.abs_of_nonneg σ0] at xa
  have xb := abs64_val x8
  have hInA : In (abs64 y64) (sI (isqrtR (dI (C, D)))) := ⟨σ, xa, hBσ.1, hBσ.2⟩
  have hInB : In (abs64 x64) (C, D) := ⟨γ.abs, xb, hC, hD⟩
  have hq := quo_some xa xb (by
    rintro ⟨h, h'⟩
    refine hne ⟨h, ?_⟩
    have := abs_le_self' γ
    rw [h'] at this
    obtain ⟨k1, k2⟩ := this
    grind)
  obtain ⟨an0, i, e9', x9, hP⟩ := ang_In hInA hInB hq t3
  simp only [Bool.and_eq_true] at hP
  obtain ⟨p1, p2⟩ := hP
  obtain ⟨i', p3, p4⟩ := someP_some p2
  obtain ⟨an0', e10, x10⟩ := half_In.sub x9 p3
  have hnx := neg_val32 x1
  have hny : negB r = false := by rw [neg_val32 x6]; exact decide_eq_false (by grind)
  have fin : ∀ {an1 : Nat} {j hI : I}, turnX c an0 = some an1 → In an1 j → anChk hI j = true → Bet (τ / 2) hI →
      ∃ c cc d r an x y, fb .quo .f32 t 1073741824 = some c ∧ fb .mul .f32 c c = some cc ∧ fb .sub .f32 1065353216 cc = some d ∧ rootB d = some r ∧ angleB r c = some an ∧ V32 r x ∧ V32 c y ∧ ¬ (x = 0 ∧ y = 0) ∧
      ∃ α hI, V32 an α ∧ Le α (1 / 2) ∧ Bet (τ / 2) hI ∧ (∃ wI, Bet α wI ∧ finChk hI wI = true) ∧ ∃ wI, Bet (-α) wI ∧ finChk hI wI = true := by
    intro an1 j hI ha hj hc hb
    obtain ⟨an, α, f1, f2, f3, f4, f5⟩ := an_of hj hc
    refine ⟨c, cc, d, r, an, σ, γ, e1, e2, e3, hroot, ?_, x6, x1, hne, α, hI, f2, f3, hb, f4, f5⟩
    unfold angleB turnY
    simp only [e7, e8, e9', ha, hny, f1, Option.bind_eq_bind, Option.bind_some, Bool.false_eq_true, if_false]
  by_cases hg : γ < 0
  · rw [decide_eq_true hg] at hnx
    refine fin (by unfold turnX; rw [hnx]; exact e10) x10 p4 ⟨?_, ?_⟩
    · rw [Rat.abs_of_nonpos (Rat.le_of_lt hg)] at hC hD
      simp only [Rat.intCast_sub, Rat.intCast_neg, c20]
      grind
    · rw [Rat.abs_of_nonpos (Rat.le_of_lt hg)] at hC hD
      simp only [Rat.intCast_add, Rat.intCast_neg, c20]
      grind
  · rw [decide_eq_false hg] at hnx
    have hg0 : 0 ≤ γ := by grind
    refine fin (by unfold turnX; rw [hnx]; rfl) x9 p1 ⟨?_, ?_⟩
    · rw [Rat.abs_of_nonneg hg0] at hC hD
      simp only [Rat.intCast_sub, c20]
      grind
    · rw [Rat.abs_of_nonneg hg0] at hC hD
      simp only [Rat.intCast_add, c20]
      grind

end Go.Proofs.Ytgeiaafdholcbaa
