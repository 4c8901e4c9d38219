/-
  The facts on the words of the law FnPushes: for every drawn particle, magnet, tick and field.
-/
import Derived.Test.YtgblehdamgliaaaN2
import Derived.Test.YtgblehdamgliaaaW9
set_option linter.unusedVariables false
set_option linter.unusedSimpArgs false
namespace Go.Proofs.Ytgblehdamgliaaa
open FT

theorem le_of_mul' {d p e p0 : Rat} (h : Le (d * p) e) (hp : p0 ≤ p) (h0 : 0 < p0) : Le d (e / p0) := by
  obtain ⟨h1, h2⟩ := h
  have hne : p0 ≠ 0 := Rat.ne_of_gt h0
  have he : e / p0 * p0 = e := Rat.div_mul_cancel hne
  rcases Rat.le_total (a := 0) (b := d) with h3 | h3
  · have h4 := Rat.mul_le_mul_of_nonneg_left hp h3
    have h5 : d ≤ e / p0 := Rat.le_of_mul_le_mul_right (c := p0) (by rw [he]; grind) h0
    constructor <;> grind
  · have h4 := Rat.mul_le_mul_of_nonneg_left hp (show 0 ≤ -d by grind)
    have h5 : -d ≤ e / p0 := Rat.le_of_mul_le_mul_right (c := p0) (by rw [he]; grind) h0
    constructor <;> grind

theorem cast_le {a b : Int} (h : a ≤ b) : (a : Rat) ≤ (b : Rat) := Rat.intCast_le_intCast.2 h

/-- What a drawn particle's words stand for. -/
theorem pd_vals {x y s t c m : Int} (h : PD x y s t c m) : V32 (d8 x) ((x : Rat) / 8) ∧ V32 (d8 y) ((y : Rat) / 8) ∧ V32 (d8 s) ((s : Rat) / 8) ∧ V32 (d8 t) ((t : Rat) / 8) ∧ V32 (d2 c) ((c : Rat) / 2) ∧ V32 (d4 m) ((m : Rat) / 4) := by
  obtain ⟨h1, h2, h3, h4, h5, h6, h7, h8, h9, h10, h11, h12⟩ := h
  exact ⟨(d8_ok x (by omega) (by omega)).2, (d8_ok y (by omega) (by omega)).2, (d8_ok s (by omega) (by omega)).2, (d8_ok t (by omega) (by omega)).2, (d2_ok c (by omega) (by omega)).2, (d4_ok m (by omega) (by omega)).2⟩

theorem pd_pw {x y s t c m : Int} (h : PD x y s t c m) : PW (d8 x) (d8 y) (d8 s) (d8 t) (d2 c) (d4 m) := by
  obtain ⟨h1, h2, h3, h4, h5, h6⟩ := pd_vals h
  have hm := cast_le h.m0
  refine ⟨⟨_, h1⟩, ⟨_, h2⟩, ⟨_, h3⟩, ⟨_, h4⟩, ⟨_, h5⟩, ⟨_, h6, ?_⟩⟩
  have h1' : ((1 : Int) : Rat) = 1 := rfl
  rw [h1'] at hm
  grind

theorem eighth {n lo hi : Int} (h0 : lo ≤ n) (h1 : n ≤ hi) : (lo : Rat) / 8 ≤ (n : Rat) / 8 ∧ (n : Rat) / 8 ≤ (hi : Rat) / 8 := by
  have a1 := cast_le h0
  have a2 := cast_le h1
  constructor <;> grind

theorem unit_of {n : Int} (h0 : -8 ≤ n) (h1 : n ≤ 8) : Le ((n : Rat) / 8) 1 := by
  have h := eighth h0 h1
  have e1 : ((-8 : Int) : Rat) = -8 := rfl
  have e2 : ((8 : Int) : Rat) = 8 := rfl
  rw [e1, e2] at h
  constructor <;> grind

theorem pd_motion {x y s t c m : Int} (h : PD x y s t c m) {mg tk : Nat} {g r : Rat} (h3 : V32 mg g) (hg : Le g 1) (h4 : V32 tk r) (hs : Le r 1) : Motion (d2 c) (d4 m) mg tk g := by
  obtain ⟨_, _, _, _, h5, h6⟩ := pd_vals h
  have a1 := cast_le h.c0
  have a2 := cast_le h.c1
  have a3 := cast_le h.m0
  have e1 : ((-4 : Int) : Rat) = -4 := rfl
  have e2 : ((4 : Int) : Rat) = 4 := rfl
  have e3 : ((1 : Int) : Rat) = 1 := rfl
  rw [e1] at a1
  rw [e2] at a2
  rw [e3] at a3
  have hb : (m : Rat) / 4 ≠ 0 := by grind
  refine motion h5 h6 hb ?_ h3 hg h4 hs
  have h7 : (c : Rat) / 2 / ((m : Rat) / 4) * ((m : Rat) / 4) = (c : Rat) / 2 := Rat.div_mul_cancel hb
  have h8 := le_of_mul' (d := (c : Rat) / 2 / ((m : Rat) / 4)) (p := (m : Rat) / 4) (e := 2) (p0 := 1 / 4) (by rw [h7]; constructor <;> grind) (by grind) (by decide +kernel)
  constructor <;> grind

/-- The length of a difference of two lengths. -/
theorem long_near {L K e : Rat} (hL : 0 ≤ L) (hK : 1 / 10 ≤ K) (h : A (L * L) (K * K) e) : Le (L - K) (10 * e) := by
  have h1 := le_of_mul' (d := L - K) (p := L + K) (e := e) (p0 := 1 / 10) (by
    have : (L - K) * (L + K) = L * L - K * K := by grind
    rw [this]; exact h) (by grind) (by decide +kernel)
  constructor <;> grind

theorem turn_facts {ch ms mg tk : Nat} {g : Rat} (hm : Motion ch ms mg tk g) :
    ∃ tr ti u v, turnB ch ms mg tk = some (tr, ti) ∧ V32 tr u ∧ V32 ti v ∧ (∃ g, longGap1 tr ti = some g ∧ NotGt g milli) ∧
    ∃ br bi u' v', turnB ch ms (neg32 mg) tk = some (br, bi) ∧ V32 br u' ∧ V32 bi v' ∧
    ∃ pr pi a, mulC tr ti br bi = some (pr, pi) ∧ apartB pr pi 1065353216 0 = some a ∧ NotGt a milli := by
  obtain ⟨pl, P, h, H, mu, m, tw, t, _, _, _, _, _, _, _, _, _, e1, w1, l1, _, e2⟩ := hm.out
  obtain ⟨tr, ti, u, v, C, S, f1, w2, w3, b1, b2, c1, c2, c3, lC, lS⟩ := turn_num w1 l1
  obtain ⟨br, bi, u', v', C', S', f2, w4, w5, b3, b4, c4, c5, c6, lC', lS'⟩ := turn_num (neg32_val w1) (show Le (-t) 5 from ⟨by grind, by grind⟩)
  have hsq := sq_nonneg t
  have hK : 1 + t * t ≠ 0 := by grind
  have hC : C' = C := by
    have h1 : (C' - C) * (1 + t * t) = 0 := by grind
    rcases Rat.mul_eq_zero.1 h1 with h2 | h2
    · grind
    · exact absurd h2 hK
  have hS : S' = -S := by
    have h1 : (S' + S) * (1 + t * t) = 0 := by grind
    rcases Rat.mul_eq_zero.1 h1 with h2 | h2
    · grind
    · exact absurd h2 hK
  subst hC hS
  obtain ⟨q, q1, q2, q3⟩ := milli_val
  refine ⟨tr, ti, u, v, ?_, w2, w3, ?_, br, bi, u', v', ?_, w4, w5, ?_⟩
  · unfold turnB
    simp only [e1, f1, Option.bind_eq_bind, Option.bind_some]
  · obtain ⟨l, L, k1, k2, k3, k4, k5⟩ := longC_num (M := 1 + 1 / 1000) w2 w3 ⟨by grind, by grind⟩ ⟨by grind, by grind⟩ ⟨by decide +kernel, by decide +kernel⟩
    obtain ⟨l', j1, j2⟩ := widen k2
    have p1 := mulA b1 b1 lC' lC'
    have p2 := mulA b2 b2 (X := S) (Y := S) lS lS
    have hn := long_near (K := 1) (e := 1 / 100000) k3 (by decide +kernel) ⟨by grind, by grind⟩
    obtain ⟨gg, vv, g1, g2, g3⟩ := gap_num (e := 1 / 10000) j2 one64_val ⟨by grind, by grind⟩ ⟨by decide +kernel, by decide +kernel⟩
    refine ⟨gg, ?_, notGt g2 q1 (by grind)⟩
    unfold longGap1
    simp only [k1, j1, g1, Option.bind_eq_bind, Option.bind_some]
  · unfold turnB
    simp only [e2, f2, Option.bind_eq_bind, Option.bind_some]
  · obtain ⟨pr, pi, z1, z2, e3, w6, w7, b5, b6⟩ := mulC_num (M := 1 + 1 / 1000) (N := 1 + 1 / 1000) w2 w3 w4 w5 ⟨by grind, by grind⟩ ⟨by grind, by grind⟩ ⟨by grind, by grind⟩ ⟨by grind, by grind⟩ ⟨by decide +kernel, by decide +kernel⟩ ⟨by decide +kernel, by decide +kernel⟩
    have p1 := mulA b1 b3 lC' lC'
    have p2 := mulA b2 b4 lS (show Le (-S) 1 from ⟨by grind, by grind⟩)
    have p3 := mulA b1 b4 lC' (show Le (-S) 1 from ⟨by grind, by grind⟩)
    have p4 := mulA b2 b3 lS lC'
    obtain ⟨a, va, g1, g2, g3⟩ := apart_num (e := 1 / 100000) w6 w7 one32_val zero32 ⟨by grind, by grind⟩ ⟨by grind, by grind⟩ ⟨by decide +kernel, by decide +kernel⟩ ⟨by decide +kernel, by decide +kernel⟩
    exact ⟨pr, pi, a, e3, g1, notGt g2 q1 (by grind)⟩


/-- The kick's words. -/
theorem kick_num {ch ms mg tk fr fi : Nat} {g F1 F2 K : Rat} (hm : Motion ch ms mg tk g) (h1 : V32 fr F1) (h2 : V32 fi F2) (hK : ∀ m : Rat, Le m 5 → Le (F1 * m) K ∧ Le (F2 * m) K) (hf : Fine K) :
    ∃ pl P h H mu m tw t kr ki k1 k2, pullB ch ms = some pl ∧ V32 pl P ∧ fb .quo .f32 tk 1073741824 = some h ∧ V32 h H ∧ fb .mul .f32 pl h = some mu ∧ V32 mu m ∧ Le m 5 ∧
      turnT ch ms mg tk = some tw ∧ V32 tw t ∧ Le t 5 ∧ A t (m * g) (1 / 200000) ∧
      kickB ch ms fr fi tk = some (kr, ki) ∧ V32 kr k1 ∧ V32 ki k2 ∧ A k1 (F1 * m) (K / 8388608) ∧ A k2 (F2 * m) (K / 8388608) := by
  obtain ⟨pl, P, h, H, mu, m, tw, t, e1, w1, _, e2, w2, _, e3, w3, l1, e4, w4, l2, b1, _⟩ := hm.out
  obtain ⟨k1, k2⟩ := hK m l1
  obtain ⟨r1, v1, e5, w5, b5, _⟩ := mul32 h1 w3 k1 hf
  obtain ⟨r2, v2, e6, w6, b6, _⟩ := mul32 h2 w3 k2 hf
  refine ⟨pl, P, h, H, mu, m, tw, t, r1, r2, v1, v2, e1, w1, e2, w2, e3, w3, l1, e4, w4, l2, b1, ?_, w5, w6, b5, b6⟩
  unfold kickB scaleC
  simp only [e1, e2, e3, e5, e6, Option.bind_eq_bind, Option.bind_some, Option.pure_def]

theorem turnB_of {ch ms mg tk tw re im : Nat} (h1 : turnT ch ms mg tk = some tw) (h2 : quoC 1065353216 (neg32 tw) 1065353216 tw = some (re, im)) : turnB ch ms mg tk = some (re, im) := by
  unfold turnB
  simp only [h1, h2, Option.bind_eq_bind, Option.bind_some]

theorem int_sq (s : Int) : 0 ≤ s * s := by
  rcases Int.le_total 0 s with h | h
  · exact Int.mul_nonneg h h
  · exact Int.mul_nonneg_of_nonpos_of_nonpos h h

/-- Without a field: the length of the speed stays. -/
theorem push_facts {x y s t c m : Int} (hd : PD x y s t c m) {mg tk : Nat} {g : Rat} (hm : Motion (d2 c) (d4 m) mg tk g) :
    ∃ vr vi u v gg, pushB (d8 s) (d8 t) (d2 c) (d4 m) 0 0 mg tk = some (vr, vi) ∧ V32 vr u ∧ V32 vi v ∧ longGap vr vi (d8 s) (d8 t) = some gg ∧ NotGt gg milli := by
  obtain ⟨_, _, hs, ht, _, _⟩ := pd_vals hd
  obtain ⟨pl, P, h, H, mu, mm, tw, tt, kr, ki, k1, k2, _, _, _, _, _, _, _, e1, w1, l1, _, e2, w2, w3, b1, b2⟩ := kick_num (K := 1 / 10 ^ 24) hm zero32 zero32 (fun m _ => by rw [Rat.zero_mul]; exact ⟨by decide +kernel, by decide +kernel⟩) ⟨by decide +kernel, by decide +kernel⟩
  rw [Rat.zero_mul] at b1 b2
  obtain ⟨tr, ti, u, v, C, S, f1, w4, w5, b3, b4, _, _, c3, lC, lS⟩ := turn_num w1 l1
  have f1' := turnB_of e1 f1
  obtain ⟨q, q1, q2, q3⟩ := milli_val
  by_cases h0 : s = 0 ∧ t = 0
  · obtain ⟨rfl, rfl⟩ := h0
    have z8 : ((0 : Int) : Rat) / 8 = 0 := by decide +kernel
    rw [z8] at hs ht
    obtain ⟨re, im, p, r, e3, w6, w7, b5, b6⟩ := push_num (B := 1 / 10 ^ 10) (K := 1 / 10 ^ 12) e2 w2 w3 ⟨by grind, by grind⟩ ⟨by grind, by grind⟩ f1' w4 w5 b3 b4 lC lS hs ht ⟨by decide +kernel, by decide +kernel⟩ ⟨by decide +kernel, by decide +kernel⟩ (by decide +kernel) (by decide +kernel) (by decide +kernel) (by decide +kernel)
    have m1 := mulLe (x := 0 + k1) (a := 1 / 10 ^ 12) ⟨by grind, by grind⟩ lC
    have m2 := mulLe (x := 0 + k2) (a := 1 / 10 ^ 12) ⟨by grind, by grind⟩ lS
    have m3 := mulLe (x := 0 + k1) (a := 1 / 10 ^ 12) ⟨by grind, by grind⟩ lS
    have m4 := mulLe (x := 0 + k2) (a := 1 / 10 ^ 12) ⟨by grind, by grind⟩ lC
    obtain ⟨l, L, j1, j2, j3, j4, _⟩ := longC_num (M := 1 / 10 ^ 9) w6 w7 ⟨by grind, by grind⟩ ⟨by grind, by grind⟩ ⟨by decide +kernel, by decide +kernel⟩
    obtain ⟨l', J1, J2⟩ := widen j2
    obtain ⟨k, K, i1, i2, i3, i4, _⟩ := longC_num (M := 1 / 10 ^ 9) hs ht ⟨by decide +kernel, by decide +kernel⟩ ⟨by decide +kernel, by decide +kernel⟩ ⟨by decide +kernel, by decide +kernel⟩
    obtain ⟨k', I1, I2⟩ := widen i2
    obtain ⟨gg, vv, g1, g2, g3⟩ := gap_num (e := 1 / 10 ^ 8) J2 I2 ⟨by grind, by grind⟩ ⟨by decide +kernel, by decide +kernel⟩
    refine ⟨re, im, p, r, gg, e3, w6, w7, ?_, notGt g2 q1 (by grind)⟩
    unfold longGap
    simp only [j1, J1, i1, I1, g1, Option.bind_eq_bind, Option.bind_some]
  · have ls := unit_of hd.s0 hd.s1
    have lt := unit_of hd.t0 hd.t1
    -- the speed is not small
    have hbig : 1 / 64 ≤ (s : Rat) / 8 * ((s : Rat) / 8) + (t : Rat) / 8 * ((t : Rat) / 8) := by
      have hi : (1 : Int) ≤ s * s + t * t := by
        have a1 : 0 ≤ s * s := int_sq s
        have a2 : 0 ≤ t * t := int_sq t
        by_cases hs0 : s = 0
        · have ht0 : t ≠ 0 := fun h => h0 ⟨hs0, h⟩
          have : 0 < t * t := by
            rcases Int.lt_or_gt_of_ne ht0 with h | h
            · exact Int.mul_pos_of_neg_of_neg h h
            · exact Int.mul_pos h h
          omega
        · have : 0 < s * s := by
            rcases Int.lt_or_gt_of_ne hs0 with h | h
            · exact Int.mul_pos_of_neg_of_neg h h
            · exact Int.mul_pos h h
          omega
      have hr := cast_le hi
      rw [Rat.intCast_add, Rat.intCast_mul, Rat.intCast_mul] at hr
      have e1 : ((1 : Int) : Rat) = 1 := rfl
      rw [e1] at hr
      grind
    obtain ⟨a, ha⟩ : ∃ a : Rat, a = (s : Rat) / 8 := ⟨_, rfl⟩
    obtain ⟨b, hb⟩ : ∃ b : Rat, b = (t : Rat) / 8 := ⟨_, rfl⟩
    rw [← ha] at hs ls hbig
    rw [← hb] at ht lt hbig
    obtain ⟨re, im, p, r, e3, w6, w7, b5, b6⟩ := push_num (B := 1) (K := 1 / 10 ^ 12) e2 w2 w3 ⟨by grind, by grind⟩ ⟨by grind, by grind⟩ f1' w4 w5 b3 b4 lC lS hs ht ls lt (by decide +kernel) (by decide +kernel) (by decide +kernel) (by decide +kernel)
    have m1 := mulLe (x := k1) (a := 1 / 10 ^ 12) ⟨by grind, by grind⟩ lC
    have m2 := mulLe (x := k2) (a := 1 / 10 ^ 12) ⟨by grind, by grind⟩ lS
    have m3 := mulLe (x := k1) (a := 1 / 10 ^ 12) ⟨by grind, by grind⟩ lS
    have m4 := mulLe (x := k2) (a := 1 / 10 ^ 12) ⟨by grind, by grind⟩ lC
    have n1 := mulLe ls lC
    have n2 := mulLe lt lS
    have n3 := mulLe ls lS
    have n4 := mulLe lt lC
    have d1 : A p (a * C - b * S) (1 / 200000) := ⟨by grind, by grind⟩
    have d2' : A r (a * S + b * C) (1 / 200000) := ⟨by grind, by grind⟩
    have lX : Le (a * C - b * S) 2 := ⟨by grind, by grind⟩
    have lY : Le (a * S + b * C) 2 := ⟨by grind, by grind⟩
    obtain ⟨l, L, j1, j2, j3, j4, j5⟩ := longC_num (M := 2 + 1 / 1000) w6 w7 ⟨by grind, by grind⟩ ⟨by grind, by grind⟩ ⟨by decide +kernel, by decide +kernel⟩
    obtain ⟨l', J1, J2⟩ := widen j2
    obtain ⟨k, K, i1, i2, i3, i4, i5⟩ := longC_num (M := 1) hs ht ls lt ⟨by decide +kernel, by decide +kernel⟩
    obtain ⟨k', I1, I2⟩ := widen i2
    have hKK : 1 / 10 ≤ K := by
      refine le_of_sq i3 ?_
      grind
    have o1 := mulA d1 d1 lX lX
    have o2 := mulA d2' d2' lY lY
    have hrot : (a * C - b * S) * (a * C - b * S) + (a * S + b * C) * (a * S + b * C) = a * a + b * b := by
      have : (a * C - b * S) * (a * C - b * S) + (a * S + b * C) * (a * S + b * C) = (a * a + b * b) * (C * C + S * S) := by grind
      rw [this, c3, Rat.mul_one]
    have hn := long_near (e := 6 / 100000) j3 hKK ⟨by grind, by grind⟩
    obtain ⟨gg, vv, g1, g2, g3⟩ := gap_num (e := 6 / 10000) J2 I2 ⟨by grind, by grind⟩ ⟨by decide +kernel, by decide +kernel⟩
    refine ⟨re, im, p, r, gg, e3, w6, w7, ?_, notGt g2 q1 (by grind)⟩
    unfold longGap
    simp only [j1, J1, i1, I1, g1, Option.bind_eq_bind, Option.bind_some]


theorem order32 {x : Nat} {v : Rat} (h : V32 x v) : FloatKind.f32.format.order x 0 = some (if v < 0 then .lt else if v = 0 then .eq else .gt) := order_eq h zero32

/-- The speed at which field and magnet push nothing. -/
theorem cross_num {fr fi mg : Nat} {F1 F2 g : Rat} (h1 : V32 fr F1) (h2 : V32 fi F2) (h3 : V32 mg g) (hF1 : Le F1 32) (hF2 : Le F2 32) (hg : Le g 1) (hg8 : 1 / 64 ≤ g * g) :
    ∃ cr ci u v X Y, quoC fr fi 0 mg = some (cr, ci) ∧ V32 cr u ∧ V32 ci v ∧ X * g = F2 ∧ Y * g = -F1 ∧ Le X 256 ∧ Le Y 256 ∧ A u X ((1 + X.abs + Y.abs) / 4000000) ∧ A v Y ((1 + X.abs + Y.abs) / 4000000) := by
  have hn := neg32_val h3
  have hgn : Le (-g) 1 := ⟨by grind, by grind⟩
  have hne : g ≠ 0 := by
    intro h
    rw [h, Rat.zero_mul] at hg8
    exact absurd hg8 (by decide +kernel)
  obtain ⟨pr, pi, u, v, e1, w1, w2, b1, b2⟩ := prod_num (M := 32) (N := 1) h1 h2 zero32 hn hF1 hF2 ⟨by decide +kernel, by decide +kernel⟩ hgn ⟨by decide +kernel, by decide +kernel⟩ ⟨by decide +kernel, by decide +kernel⟩
  obtain ⟨q, w, e2, w3, p0, b3⟩ := powB_num (M := 1) zero32 h3 ⟨by decide +kernel, by decide +kernel⟩ hg ⟨by decide +kernel, by decide +kernel⟩
  obtain ⟨X, hX⟩ : ∃ X, X = F2 / g := ⟨_, rfl⟩
  obtain ⟨Y, hY⟩ : ∃ Y, Y = -F1 / g := ⟨_, rfl⟩
  have hXg : X * g = F2 := by rw [hX, Rat.div_mul_cancel hne]
  have hYg : Y * g = -F1 := by rw [hY, Rat.div_mul_cancel hne]
  clear hX hY
  have hgabs : 1 / 8 ≤ g.abs := by
    refine le_of_sq Rat.abs_nonneg ?_
    have : g.abs * g.abs = g * g := by
      rcases Rat.le_total (a := 0) (b := g) with h | h
      · rw [Rat.abs_of_nonneg h]
      · rw [Rat.abs_of_nonpos h]; grind
    rw [this]; grind
  have hbd : ∀ Z F : Rat, Z * g = F → Le F 32 → Le Z 256 := by
    intro Z F hZ hF
    have h5 := le_of_mul' (d := Z) (p := g.abs) (e := 32) (p0 := 1 / 8) (by
      rcases Rat.le_total (a := 0) (b := g) with h | h
      · rw [Rat.abs_of_nonneg h, hZ]; exact hF
      · rw [Rat.abs_of_nonpos h]; constructor <;> grind) hgabs (by decide +kernel)
    constructor <;> grind
  have lX := hbd X F2 hXg hF2
  have lY := hbd Y (-F1) hYg ⟨by grind, by grind⟩
  clear hbd
  have hX2 : X * (g * g) = F2 * g := by rw [← hXg]; grind
  have hY2 : Y * (g * g) = -(F1 * g) := by rw [← Rat.mul_assoc, hYg]; grind
  have hw : 1 / 100 ≤ w := by grind
  have hwne : w ≠ 0 := by grind
  have c1 : Le (u / w - X) (1 / 10 ^ 9) := by
    have h5 := le_of_mul' (d := u / w - X) (p := w) (e := 1 / 10 ^ 11) (p0 := 1 / 100) (by
      rw [show (u / w - X) * w = u / w * w - X * w from by grind, Rat.div_mul_cancel hwne]
      have k1 := mulLe lX b3
      constructor <;> grind) hw (by decide +kernel)
    constructor <;> grind
  have c2 : Le (v / w - Y) (1 / 10 ^ 9) := by
    have h5 := le_of_mul' (d := v / w - Y) (p := w) (e := 1 / 10 ^ 11) (p0 := 1 / 100) (by
      rw [show (v / w - Y) * w = v / w * w - Y * w from by grind, Rat.div_mul_cancel hwne]
      have k1 := mulLe lY b3
      constructor <;> grind) hw (by decide +kernel)
    constructor <;> grind
  have aX := abs_le_self X
  have aY := abs_le_self Y
  have nX : 0 ≤ X.abs := Rat.abs_nonneg
  have nY : 0 ≤ Y.abs := Rat.abs_nonneg
  have uX : X.abs ≤ 256 := abs_of_le lX
  have uY : Y.abs ≤ 256 := abs_of_le lY
  obtain ⟨AX, hAX⟩ : ∃ A, A = X.abs := ⟨_, rfl⟩
  obtain ⟨AY, hAY⟩ : ∃ A, A = Y.abs := ⟨_, rfl⟩
  rw [← hAX] at aX nX uX
  rw [← hAY] at aY nY uY
  obtain ⟨r1, v1, e3, w4, b4⟩ := quo64 (M := 1 + AX + AY) w1 w3 hwne ⟨by grind, by grind⟩ ⟨by grind, by grind⟩
  obtain ⟨r2, v2, e4, w5, b5⟩ := quo64 (M := 1 + AX + AY) w2 w3 hwne ⟨by grind, by grind⟩ ⟨by grind, by grind⟩
  obtain ⟨r3, v3, e5, w6, b6, _⟩ := cut32 (M := 1 + AX + AY) w4 ⟨by grind, by grind⟩ ⟨by grind, by grind⟩
  obtain ⟨r4, v4, e6, w7, b7, _⟩ := cut32 (M := 1 + AX + AY) w5 ⟨by grind, by grind⟩ ⟨by grind, by grind⟩
  refine ⟨r3, r4, v3, v4, X, Y, ?_, w6, w7, hXg, hYg, lX, lY, by rw [← hAX, ← hAY]; exact ⟨by grind, by grind⟩, by rw [← hAX, ← hAY]; exact ⟨by grind, by grind⟩⟩
  unfold quoC
  simp only [e1, e2, e3, e4, e5, e6, Option.bind_eq_bind, Option.bind_some, Option.pure_def]

theorem abs_sq (X : Rat) : X.abs * X.abs = X * X := by
  rcases Rat.le_total (a := 0) (b := X) with h | h
  · rw [Rat.abs_of_nonneg h]
  · rw [Rat.abs_of_nonpos h]; grind

/-- The length of a number is not small beside its parts. -/
theorem long_low {L u v X Y : Rat} (hL : 0 ≤ L) (hu : A u X ((1 + X.abs + Y.abs) / 4000000)) (hv : A v Y ((1 + X.abs + Y.abs) / 4000000))
    (h : A (L * L) (u * u + v * v) (4 * ((1 + X.abs + Y.abs) * (1 + X.abs + Y.abs)) / 400000)) : (1 + X.abs + Y.abs) / 2 ≤ 1 + L := by
  have sX := abs_sq X
  have sY := abs_sq Y
  have aX := abs_le_self X
  have aY := abs_le_self Y
  have nX : 0 ≤ X.abs := Rat.abs_nonneg
  have nY : 0 ≤ Y.abs := Rat.abs_nonneg
  generalize X.abs = P at *
  generalize Y.abs = Q at *
  rcases Rat.le_total (a := P + Q) (b := 1) with h1 | h1
  · grind
  · have k1 := mulA hu hu (a := P) (b := P) aX aX
    have k2 := mulA hv hv (a := Q) (b := Q) aY aY
    have hD := sq_nonneg (P - Q)
    have hPQ : 0 ≤ P * Q := Rat.mul_nonneg nX nY
    have h2 : P + Q ≤ (P + Q) * (P + Q) := by
      have := Rat.mul_le_mul_of_nonneg_left h1 (show 0 ≤ P + Q by grind)
      grind
    have h3 : (P + Q) / 2 ≤ L := by
      refine le_of_sq hL ?_
      grind
    grind

end Go.Proofs.Ytgblehdamgliaaa
