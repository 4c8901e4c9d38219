/-
  All facts on the words of the law FnPushes.
-/
import Derived.Test.YtgblehdamgliaaaN3
set_option linter.unusedVariables false
set_option linter.unusedSimpArgs false
namespace Go.Proofs.Ytgblehdamgliaaa
open FT

theorem turn_id {C S t : Rat} (h1 : C * (1 + t * t) = 1 - t * t) (h2 : S * (1 + t * t) = -(2 * t)) : C - t * S = 1 ∧ t * C + S + t = 0 := by
  have hsq := sq_nonneg t
  have hK : 1 + t * t ≠ 0 := by grind
  constructor
  · have h : (C - t * S - 1) * (1 + t * t) = 0 := by
      have : (C - t * S - 1) * (1 + t * t) = C * (1 + t * t) - t * (S * (1 + t * t)) - (1 + t * t) := by grind
      rw [this, h1, h2]; grind
    rcases Rat.mul_eq_zero.1 h with h3 | h3
    · grind
    · exact absurd h3 hK
  · have h : (t * C + S + t) * (1 + t * t) = 0 := by
      have : (t * C + S + t) * (1 + t * t) = t * (C * (1 + t * t)) + S * (1 + t * t) + t * (1 + t * t) := by grind
      rw [this, h1, h2]; grind
    rcases Rat.mul_eq_zero.1 h with h3 | h3
    · exact h3
    · exact absurd h3 hK

theorem cross_facts {ch ms mg tk fr fi : Nat} {F1 F2 g : Rat} (hm : Motion ch ms mg tk g) (h1 : V32 fr F1) (h2 : V32 fi F2) (h3 : V32 mg g) (hF1 : Le F1 32) (hF2 : Le F2 32) (hg : Le g 1) (hg8 : 1 / 64 ≤ g * g) :
    ∃ cr ci u v wr wi u' v' a b, ((FloatKind.f32.format.order mg 0 != some .eq) = true) ∧ quoC fr fi 0 mg = some (cr, ci) ∧ V32 cr u ∧ V32 ci v ∧
      pushB cr ci ch ms fr fi mg tk = some (wr, wi) ∧ V32 wr u' ∧ V32 wi v' ∧ apartB wr wi cr ci = some a ∧ boundB cr ci = some b ∧ NotGt a b := by
  have hne : g ≠ 0 := by
    intro h
    rw [h, Rat.zero_mul] at hg8
    exact absurd hg8 (by decide +kernel)
  have hord : (FloatKind.f32.format.order mg 0 != some .eq) = true := by
    rw [order32 h3, if_neg hne]
    split <;> rfl
  obtain ⟨cr, ci, u, v, X, Y, e1, w1, w2, hX, hY, lX, lY, b1, b2⟩ := cross_num h1 h2 h3 hF1 hF2 hg hg8
  have aX := abs_le_self X
  have aY := abs_le_self Y
  have nX : 0 ≤ X.abs := Rat.abs_nonneg
  have nY : 0 ≤ Y.abs := Rat.abs_nonneg
  have uX : X.abs ≤ 256 := abs_of_le lX
  have uY : Y.abs ≤ 256 := abs_of_le lY
  have low : ∀ L : Rat, 0 ≤ L → A (L * L) (u * u + v * v) (4 * ((1 + X.abs + Y.abs) * (1 + X.abs + Y.abs)) / 400000) → (1 + X.abs + Y.abs) / 2 ≤ 1 + L := fun L h0 h => long_low h0 b1 b2 h
  have lXB : Le X (1 + X.abs + Y.abs) := ⟨by grind, by grind⟩
  have lYB : Le Y (1 + X.abs + Y.abs) := ⟨by grind, by grind⟩
  have hB1 : 1 ≤ 1 + X.abs + Y.abs := by grind
  have hB2 : 1 + X.abs + Y.abs ≤ 513 := by grind
  generalize 1 + X.abs + Y.abs = B at *
  clear aX aY nX nY uX uY
  have hk1 : ∀ m : Rat, Le m 5 → Le (F1 * m) (5 * B) ∧ Le (F2 * m) (5 * B) := by
    intro m hm5
    have k1 := mulLe lYB hg
    have k2 := mulLe lXB hg
    rw [hY] at k1
    rw [hX] at k2
    have k3 := mulLe (x := F1) (a := B) ⟨by grind, by grind⟩ hm5
    have k4 := mulLe (x := F2) (a := B) ⟨by grind, by grind⟩ hm5
    exact ⟨⟨by grind, by grind⟩, ⟨by grind, by grind⟩⟩
  obtain ⟨pl, P, h, H, mu, m, tw, t, kr, ki, k1, k2, _, _, _, _, _, _, lm, e2, w3, lt, bt, e3, w4, w5, bk1, bk2⟩ := kick_num hm h1 h2 hk1 ⟨by grind, by grind⟩
  obtain ⟨f1, f2⟩ := hk1 m lm
  obtain ⟨tr, ti, tu, tv, C, S, e4, w6, w7, bu, bv, hC, hS, _, lC, lS⟩ := turn_num w3 lt
  obtain ⟨i1, i2⟩ := turn_id hC hS
  obtain ⟨wr, wi, p, q, e5, w8, w9, bp, bq⟩ := push_num (B := (1 + 1 / 1000) * B) (K := (5 + 1 / 100) * B) e3 w4 w5 ⟨by grind, by grind⟩ ⟨by grind, by grind⟩ (turnB_of e2 e4) w6 w7 bu bv lC lS w1 w2 ⟨by grind, by grind⟩ ⟨by grind, by grind⟩ (by grind) (by grind) (by grind) (by grind)
  -- the kicks are those of the speed
  have d1 : Le (k1 + t * Y) (B / 100000) := by
    have z := mulLe bt lYB
    have : F1 * m = -(m * g * Y) := by
      have : m * g * Y = m * (Y * g) := by grind
      rw [this, hY]; grind
    constructor <;> grind
  have d2 : Le (k2 - t * X) (B / 100000) := by
    have z := mulLe bt lXB
    have : F2 * m = m * g * X := by
      have : m * g * X = m * (X * g) := by grind
      rw [this, hX]; grind
    constructor <;> grind
  have m1 := mulLe b1 lC
  have m2 := mulLe b2 lS
  have m3 := mulLe b1 lS
  have m4 := mulLe b2 lC
  have n1 := mulLe d1 lC
  have n2 := mulLe d2 lS
  have n3 := mulLe d1 lS
  have n4 := mulLe d2 lC
  have hp : A p u (B / 10000) := by
    have key : (u + k1) * C - (v + k2) * S + k1 - u = X * (C - t * S - 1) - Y * (t * C + S + t) + ((u - X) * C + (k1 + t * Y) * C - (v - Y) * S - (k2 - t * X) * S + (k1 + t * Y) - (u - X)) := by grind
    rw [i1, i2] at key
    constructor <;> grind
  have hq : A q v (B / 10000) := by
    have key : (u + k1) * S + (v + k2) * C + k2 - v = X * (t * C + S + t) + Y * (C - t * S - 1) + ((u - X) * S + (k1 + t * Y) * S + (v - Y) * C + (k2 - t * X) * C + (k2 - t * X) - (v - Y)) := by grind
    rw [i1, i2] at key
    constructor <;> grind
  obtain ⟨a, va, g1, g2, g3⟩ := apart_num w8 w9 w1 w2 hp hq ⟨by grind, by grind⟩ ⟨by grind, by grind⟩
  obtain ⟨b, vb, L, j1, j2, j3, j4, j5⟩ := bound_num (M := 2 * B) w1 w2 ⟨by grind, by grind⟩ ⟨by grind, by grind⟩ ⟨by grind, by grind⟩ (by grind)
  have hlow := low L j3 (by constructor <;> grind)
  exact ⟨cr, ci, u, v, wr, wi, p, q, a, b, hord, e1, w1, w2, e5, w8, w9, g1, j1, notGt g2 j2 (by grind)⟩

theorem last_facts {x y s t c m : Int} (hd : PD x y s t c m) {tk fr fi : Nat} {F1 F2 : Rat} (hm : Motion (d2 c) (d4 m) 0 tk 0) (h1 : V32 fr F1) (h2 : V32 fi F2) (hF1 : Le F1 32) (hF2 : Le F2 32) :
    ∃ kr ki u v qr qi u' v' pl z e1 e2 e3 e4 a b, kickB (d2 c) (d4 m) fr fi tk = some (kr, ki) ∧ V32 kr u ∧ V32 ki v ∧
    pushB (d8 s) (d8 t) (d2 c) (d4 m) fr fi 0 tk = some (qr, qi) ∧ V32 qr u' ∧ V32 qi v' ∧ pullB (d2 c) (d4 m) = some pl ∧ V32 pl z ∧
    plusC (d8 s) (d8 t) kr ki = some (e1, e2) ∧ plusC e1 e2 kr ki = some (e3, e4) ∧ apartB qr qi e3 e4 = some a ∧ boundB kr ki = some b ∧ IsLt a b ∧ (FloatKind.f32.format.order pl pl == some .eq) = true := by
  obtain ⟨_, _, hs, ht, _, _⟩ := pd_vals hd
  have ls := unit_of hd.s0 hd.s1
  have lt := unit_of hd.t0 hd.t1
  obtain ⟨pl, P, h, H, mu, mm, tw, tt, kr, ki, k1, k2, e1, w1, _, _, _, _, lm, e2, w3, ltt, bt, e3, w4, w5, bk1, bk2⟩ := kick_num (K := 160) hm h1 h2 (fun m hm5 => ⟨by have := mulLe hF1 hm5; constructor <;> grind, by have := mulLe hF2 hm5; constructor <;> grind⟩) ⟨by decide +kernel, by decide +kernel⟩
  have f1 := mulLe hF1 lm
  have f2 := mulLe hF2 lm
  have u1 : Le k1 200 := ⟨by grind, by grind⟩
  have u2 : Le k2 200 := ⟨by grind, by grind⟩
  rw [Rat.mul_zero] at bt
  obtain ⟨tr, ti, tu, tv, C, S, e4, w6, w7, bu, bv, hC, hS, _, lC, lS⟩ := turn_num w3 ltt
  obtain ⟨i1, i2⟩ := turn_id hC hS
  have hord : (FloatKind.f32.format.order pl pl == some .eq) = true := by
    have h : FloatKind.f32.format.order pl pl = _ := order_eq w1 w1
    rw [h, if_neg Rat.lt_irrefl, if_pos rfl]; rfl
  generalize (s : Rat) / 8 = a at *
  generalize (t : Rat) / 8 = b at *
  have low : ∀ L : Rat, 0 ≤ L → A (L * L) (k1 * k1 + k2 * k2) (4 * ((1 + k1.abs + k2.abs) * (1 + k1.abs + k2.abs)) / 400000) → (1 + k1.abs + k2.abs) / 2 ≤ 1 + L := by
    intro L h0 h
    have n1 : 0 ≤ k1.abs := Rat.abs_nonneg
    have n2 : 0 ≤ k2.abs := Rat.abs_nonneg
    exact long_low h0 ⟨by grind, by grind⟩ ⟨by grind, by grind⟩ h
  have aX := abs_le_self k1
  have aY := abs_le_self k2
  have nX : 0 ≤ k1.abs := Rat.abs_nonneg
  have nY : 0 ≤ k2.abs := Rat.abs_nonneg
  have uX : k1.abs ≤ 200 := abs_of_le u1
  have uY : k2.abs ≤ 200 := abs_of_le u2
  obtain ⟨K, hK⟩ : ∃ K, K = k1.abs + k2.abs := ⟨_, rfl⟩
  have hG : 1 + k1.abs + k2.abs = 1 + K := by grind
  rw [hG] at low
  have lk1 : Le k1 K := ⟨by grind, by grind⟩
  have lk2 : Le k2 K := ⟨by grind, by grind⟩
  have hK0 : 0 ≤ K := by grind
  have hK1 : K ≤ 400 := by grind
  clear hK hG aX aY nX nY uX uY
  obtain ⟨qr, qi, p, q, e5, w8, w9, bp, bq⟩ := push_num (B := 1) (K := K) e3 w4 w5 lk1 lk2 (turnB_of e2 e4) w6 w7 bu bv lC lS hs ht ls lt hK0 (by decide +kernel) (by grind) (by grind)
  have lG1 : Le (a + k1) (1 + K) := ⟨by grind, by grind⟩
  have lG2 : Le (b + k2) (1 + K) := ⟨by grind, by grind⟩
  have lS5 : Le S (1 / 50000) := by
    have := mulLe bt lC
    constructor <;> grind
  have lC5 : Le (C - 1) (1 / 50000) := by
    have := mulLe bt lS
    constructor <;> grind
  have m1 := mulLe lG1 lC5
  have m2 := mulLe lG2 lS5
  have m3 := mulLe lG1 lS5
  have m4 := mulLe lG2 lC5
  obtain ⟨s1, z1, e6, w10, b1, _⟩ := add32 (M := 1 + K) hs w4 lG1 ⟨by grind, by grind⟩
  obtain ⟨s2, z2, e7, w11, b2, _⟩ := add32 (M := 1 + K) ht w5 lG2 ⟨by grind, by grind⟩
  obtain ⟨s3, z3, e8, w12, b3, _⟩ := add32 (M := 3 * (1 + K)) w10 w4 ⟨by grind, by grind⟩ ⟨by grind, by grind⟩
  obtain ⟨s4, z4, e9, w13, b4, _⟩ := add32 (M := 3 * (1 + K)) w11 w5 ⟨by grind, by grind⟩ ⟨by grind, by grind⟩
  have hp : A p z3 ((1 + K) / 10000) := ⟨by grind, by grind⟩
  have hq : A q z4 ((1 + K) / 10000) := ⟨by grind, by grind⟩
  obtain ⟨aa, va, g1, g2, g3⟩ := apart_num w8 w9 w12 w13 hp hq ⟨by grind, by grind⟩ ⟨by grind, by grind⟩
  obtain ⟨bb, vb, L, j1, j2, j3, j4, j5⟩ := bound_num (M := 2 * (1 + K)) w4 w5 ⟨by grind, by grind⟩ ⟨by grind, by grind⟩ ⟨by grind, by grind⟩ (by grind)
  have hlow := low L j3 (by constructor <;> grind)
  refine ⟨kr, ki, k1, k2, qr, qi, p, q, pl, P, s1, s2, s3, s4, aa, bb, e3, w4, w5, e5, w8, w9, e1, w1, ?_, ?_, g1, j1, isLt g2 j2 (by grind), hord⟩
  · unfold plusC
    simp only [e6, e7, Option.bind_eq_bind, Option.bind_some, Option.pure_def]
  · unfold plusC
    simp only [e8, e9, Option.bind_eq_bind, Option.bind_some, Option.pure_def]


theorem rnd_zero64 {w : Nat} (h : Rnd Ieee.double 0 w) : V64 w 0 :=
  h.exact ok_double (by rw [Rat.abs_zero]; exact pw_pos _) 0 0 (by decide) (by decide) (by rw [Rat.intCast_zero, Rat.zero_mul])
theorem mul_zero64 {x y : Nat} {a b : Rat} (hx : V64 x a) (hy : V64 y b) (h : a * b = 0) : ∃ r, fb .mul .f64 x y = some r ∧ V64 r 0 := by
  obtain ⟨r, h1, h2⟩ := mul_rnd hx hy
  rw [h] at h2
  exact ⟨r, h1, rnd_zero64 h2⟩
theorem add_zero64 {x y : Nat} (hx : V64 x 0) (hy : V64 y 0) : ∃ r, fb .add .f64 x y = some r ∧ V64 r 0 := by
  obtain ⟨r, h1, h2⟩ := add_rnd hx hy
  rw [Rat.add_zero] at h2
  exact ⟨r, h1, rnd_zero64 h2⟩
theorem sub_zero64 {x y : Nat} (hx : V64 x 0) (hy : V64 y 0) : ∃ r, fb .sub .f64 x y = some r ∧ V64 r 0 := by
  obtain ⟨r, h1, h2⟩ := sub_rnd hx hy
  rw [Rat.sub_self] at h2
  exact ⟨r, h1, rnd_zero64 h2⟩
theorem quo_zero64 {x y : Nat} (hx : V64 x 0) (hy : V64 y 0) : fb .quo .f64 x y = none := by
  have hz : ∀ (s : Bool) (m : Nat) (e : Int), 0 = dval s m e → m = 0 := by
    intro s m e h
    have h1 := abs_dval s m e
    rw [← h, Rat.abs_zero] at h1
    rcases Nat.eq_zero_or_pos m with h2 | h2
    · exact h2
    · exfalso
      have h3 : 0 < (m : Rat) * pw e := Rat.mul_pos (Rat.natCast_pos.2 h2) (pw_pos e)
      rw [← h1] at h3
      exact Rat.lt_irrefl h3
  obtain ⟨s, m, i, h1, h2⟩ := hx
  obtain ⟨t, n, j, h3, h4⟩ := hy
  obtain rfl := hz _ _ _ h2
  obtain rfl := hz _ _ _ h4
  show Ieee.double.div x y = none
  unfold Ieee.Format.div
  rw [h1, h3]
  rfl

theorem zero_facts {fr fi mg : Nat} {F1 F2 : Rat} (h1 : V32 fr F1) (h2 : V32 fi F2) (h3 : V32 mg 0) :
    ∃ x y p, ((FloatKind.f32.format.order mg 0 != some .eq) = false) ∧ prod fr fi 0 (neg32 mg) = some (x, y) ∧ powB 0 mg = some p ∧ fb .quo .f64 x p = none ∧ fb .quo .f64 y p = none := by
  have hn := neg32_val h3
  obtain ⟨a, a1, a2⟩ := widen h1
  obtain ⟨b, b1, b2⟩ := widen h2
  obtain ⟨z, z1, z2⟩ := widen zero32
  obtain ⟨n, n1, n2⟩ := widen hn
  obtain ⟨g, g1, g2⟩ := widen h3
  obtain ⟨r1, e1, w1⟩ := mul_zero64 a2 z2 (Rat.mul_zero _)
  obtain ⟨r2, e2, w2⟩ := mul_zero64 b2 n2 (by grind)
  obtain ⟨r3, e3, w3⟩ := mul_zero64 a2 n2 (by grind)
  obtain ⟨r4, e4, w4⟩ := mul_zero64 b2 z2 (Rat.mul_zero _)
  obtain ⟨r5, e5, w5⟩ := sub_zero64 w1 w2
  obtain ⟨r6, e6, w6⟩ := add_zero64 w3 w4
  obtain ⟨r7, e7, w7⟩ := mul_zero64 z2 z2 (Rat.mul_zero _)
  obtain ⟨r8, e8, w8⟩ := mul_zero64 g2 g2 (Rat.mul_zero _)
  obtain ⟨r9, e9, w9⟩ := add_zero64 w7 w8
  refine ⟨r5, r6, r9, ?_, ?_, ?_, quo_zero64 w5 w9, quo_zero64 w6 w9⟩
  · rw [order32 h3, if_neg Rat.lt_irrefl, if_pos rfl]; rfl
  · unfold prod prodB
    simp only [a1, b1, z1, n1, e1, e2, e3, e4, e5, e6, Option.bind_eq_bind, Option.bind_some, Option.pure_def]
  · unfold powB
    simp only [z1, g1, e7, e8, e9, Option.bind_eq_bind, Option.bind_some]

theorem push_all {x y s t c m : Int} (hd : PD x y s t c m) (n1 n2 f1 f2 : Int) (h1 : -8 ≤ n1) (h2 : n1 ≤ 8) (h3 : -8 ≤ n2) (h4 : n2 ≤ 8) (h5 : -64 ≤ f1) (h6 : f1 < 256) (h7 : -64 ≤ f2) (h8 : f2 < 256) :
    PushFacts (d8 s) (d8 t) (d2 c) (d4 m) (d8 n1) (d8 n2) (d8 f1) (d8 f2) := by
  have v1 := (d8_ok n1 (by omega) (by omega)).2
  have v2 := (d8_ok n2 (by omega) (by omega)).2
  have v3 := (d8_ok f1 (by omega) (by omega)).2
  have v4 := (d8_ok f2 (by omega) (by omega)).2
  have lg := unit_of h1 h2
  have ls := unit_of h3 h4
  have fld : ∀ f : Int, -64 ≤ f → f < 256 → Le ((f : Rat) / 8) 32 := by
    intro f ha hb
    have h := eighth ha (show f ≤ 256 by omega)
    have e1 : ((-64 : Int) : Rat) = -64 := rfl
    have e2 : ((256 : Int) : Rat) = 256 := rfl
    rw [e1, e2] at h
    constructor <;> grind
  have l1 := fld f1 h5 h6
  have l2 := fld f2 h7 h8
  have hm := pd_motion hd v1 lg v2 ls
  have hm0 := pd_motion hd zero32 ⟨by decide +kernel, by decide +kernel⟩ v2 ls
  refine ⟨⟨_, v1⟩, ⟨_, v2⟩, ⟨_, v3⟩, ⟨_, v4⟩, turn_facts hm, push_facts hd hm, ?_, last_facts hd hm0 v3 v4 l1 l2⟩
  by_cases h0 : n1 = 0
  · right
    subst h0
    have z8 : ((0 : Int) : Rat) / 8 = 0 := by decide +kernel
    rw [z8] at v1
    exact zero_facts v3 v4 v1
  · left
    refine cross_facts hm v3 v4 v1 l1 l2 lg ?_
    have hi : (1 : Int) ≤ n1 * n1 := by
      have : 0 < n1 * n1 := by
        rcases Int.lt_or_gt_of_ne h0 with h | h
        · exact Int.mul_pos_of_neg_of_neg h h
        · exact Int.mul_pos h h
      omega
    have hr := cast_le hi
    rw [Rat.intCast_mul] at hr
    have e1 : ((1 : Int) : Rat) = 1 := rfl
    rw [e1] at hr
    grind


theorem pushes_walk {a b : Option Addr} {n m c d : Nat} {w : World} (ha : Bytes w a n) (ha' : ∀ x off i, a = some ⟨x, off, i⟩ → 0 < n → i = none ∧ x < w.heap.size) (hs : n = 0 ∨ a.isSome = true)
    (hb : Bytes w b m) (hb' : ∀ x off i, b = some ⟨x, off, i⟩ → 0 < m → i = none ∧ x < w.heap.size) (hs' : m = 0 ∨ b.isSome = true) :
    Calls Try.prog 3 #[.slice a n c, .slice b m d] w fun e w' => e = .returned (.bool true) ∧ Go.RowKit.Below w.heap.size w w' := by
  by_cases h : n ≤ 48 ∧ m ≤ 48
  · exact pushes_go h.1 h.2 ha ha' hs hb hb' hs' (fun _ _ _ _ _ _ hd => pd_pw hd) (fun _ _ _ _ _ _ hd n1 n2 f1 f2 => push_all hd n1 n2 f1 f2)
  · exact pushes_long (by omega)

end Go.Proofs.Ytgblehdamgliaaa
