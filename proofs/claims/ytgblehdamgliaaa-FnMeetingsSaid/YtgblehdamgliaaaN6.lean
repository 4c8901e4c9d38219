/-
  The words of an orbit: its radius, its centre, its turns.
-/
import Derived.Test.YtgblehdamgliaaaN5
set_option linter.unusedVariables false
set_option linter.unusedSimpArgs false
namespace Go.Proofs.Ytgblehdamgliaaa
open FT

theorem rnd_zero32 {w : Nat} (h : Rnd Ieee.single 0 w) : V32 w 0 :=
  h.exact ok_single (by rw [Rat.abs_zero]; exact pw_pos _) 0 0 (by decide) (by decide) (by rw [Rat.intCast_zero, Rat.zero_mul])
theorem mul_zero32 {x y : Nat} {a b : Rat} (hx : V32 x a) (hy : V32 y b) (h : a * b = 0) : ∃ r, fb .mul .f32 x y = some r ∧ V32 r 0 := by
  obtain ⟨r, h1, h2⟩ := mul_rnd hx hy
  rw [h] at h2
  exact ⟨r, h1, rnd_zero32 h2⟩
theorem quo_zero32 {x y : Nat} {b : Rat} (hx : V32 x 0) (hy : V32 y b) (hb : b ≠ 0) : ∃ r, fb .quo .f32 x y = some r ∧ V32 r 0 := by
  obtain ⟨r, d, h1, h2, h3⟩ := div_rnd hx hy hb
  have h4 : (0 : Rat) / b = 0 := by rw [Rat.div_def, Rat.zero_mul]
  rw [h4, Rat.abs_zero, Rat.zero_mul] at h3
  have h5 := le_of_abs h3
  have hd : d = 0 := by grind
  subst hd
  exact ⟨r, h1, rnd_zero32 h2⟩

theorem inf_nofin (b : Bool) : NoFin (Ieee.single.write (.infinity b)) := by
  right
  cases b
  · exact ⟨9218868437227405312, by decide +kernel, by decide +kernel⟩
  · exact ⟨18442240474082181120, by decide +kernel, by decide +kernel⟩

theorem quo_by_zero {x y : Nat} {a : Rat} (hx : V32 x a) (hy : V32 y 0) : fb .quo .f32 x y = none ∨ ∃ r, fb .quo .f32 x y = some r ∧ NoFin r := by
  have hz : ∀ (s : Bool) (m : Nat) (e : Int), 0 = dval s m e → m = 0 := by
    intro s m e h
    have h1 := abs_dval s m e
    rw [← h, Rat.abs_zero] at h1
    rcases Nat.eq_zero_or_pos m with h2 | h2
    · exact h2
    · exfalso
      have h3 : 0 < (m : Rat) * pw e := Rat.mul_pos (Rat.natCast_pos.2 h2) (pw_pos e)
      rw [← h1] at h3
      exact Rat.lt_irrefl h3
  obtain ⟨s, m, i, h1, rfl⟩ := hx
  obtain ⟨t, n, j, h3, h4⟩ := hy
  obtain rfl := hz _ _ _ h4
  by_cases hm : m = 0
  · left
    subst hm
    show Ieee.single.div x y = none
    unfold Ieee.Format.div
    rw [h1, h3]
    rfl
  · right
    refine ⟨Ieee.single.write (.infinity (s ^^ t)), ?_, inf_nofin _⟩
    show Ieee.single.div x y = some (Ieee.single.write (.infinity (s ^^ t)))
    unfold Ieee.Format.div
    rw [h1, h3]
    simp only [Ieee.Datum.quotient, if_neg hm]
    rfl

/-- The words of an orbit's turns. -/
theorem turns_facts {ch ms mg tk : Nat} {g : Rat} (hm : Motion ch ms mg tk g) :
    ∃ re im u v r z, turnB ch ms mg tk = some (re, im) ∧ V32 re u ∧ V32 im v ∧ ¬ (v = 0 ∧ u = 0) ∧ angleB im re = some r ∧ V32 r z := by
  obtain ⟨pl, P, h, H, mu, m, tw, t, _, _, _, _, _, _, _, _, _, e1, w1, l1, _, e2⟩ := hm.out
  obtain ⟨tr, ti, u, v, C, S, f1, w2, w3, b1, b2, c1, c2, c3, lC, lS⟩ := turn_num w1 l1
  have hne : ¬ (v = 0 ∧ u = 0) := by
    rintro ⟨rfl, rfl⟩
    have p1 := mulLe (x := C) (y := C) (a := 1 / 1000) (b := 1 / 1000) ⟨by grind, by grind⟩ ⟨by grind, by grind⟩
    have p2 := mulLe (x := S) (y := S) (a := 1 / 1000) (b := 1 / 1000) ⟨by grind, by grind⟩ ⟨by grind, by grind⟩
    grind
  obtain ⟨r, z, e3, w4⟩ := angleB_num w3 w2 hne
  exact ⟨tr, ti, u, v, r, z, turnB_of e1 f1, w2, w3, hne, e3, w4⟩

theorem times_i {sx sy : Nat} {a b B : Rat} (hs : V32 sx a) (ht : V32 sy b) (la : Le a B) (lb : Le b B) (hB : Mid B) :
    ∃ r i u v, mulC 0 1065353216 sx sy = some (r, i) ∧ V32 r u ∧ V32 i v ∧ A u (-b) (B / 2000000) ∧ A v a (B / 2000000) := by
  obtain ⟨r, i, u, v, e1, w1, w2, b1, b2⟩ := mulC_num (M := 1) (N := B) zero32 one32_val hs ht ⟨by decide +kernel, by decide +kernel⟩ ⟨by decide +kernel, by decide +kernel⟩ la lb ⟨by decide +kernel, by decide +kernel⟩ hB
  exact ⟨r, i, u, v, e1, w1, w2, ⟨by grind, by grind⟩, ⟨by grind, by grind⟩⟩

/-- Where nothing turns, there is no radius and no centre. -/
theorem none_facts {sx sy ch ms mg pl wc : Nat} {a b B P : Rat} (hs : V32 sx a) (ht : V32 sy b) (la : Le a B) (lb : Le b B) (hB : Mid B) (hpl : pullB ch ms = some pl) (hw : fb .mul .f32 pl mg = some wc) (hw0 : V32 wc 0) :
    ∃ wh l r1 i1 u v p, whirlB ch ms mg = some wh ∧ longC sx sy = some l ∧ (fb .quo .f32 l wh = none ∨ ∃ r, fb .quo .f32 l wh = some r ∧ NoFin r) ∧
      mulC 0 1065353216 sx sy = some (r1, i1) ∧ prod r1 i1 wc (neg32 0) = some (u, v) ∧ powB wc 0 = some p ∧ fb .quo .f64 u p = none ∧ fb .quo .f64 v p = none := by
  obtain ⟨l, L, k1, k2, _, _, _⟩ := longC_num hs ht la lb hB
  obtain ⟨r1, i1, u, v, e1, w1, w2, _, _⟩ := times_i hs ht la lb hB
  obtain ⟨x, f1, f2⟩ := widen hw0
  have f3 := abs64_val f2
  rw [Rat.abs_zero] at f3
  obtain ⟨wh, f4, f5⟩ := narrow f3 (by rw [Rat.abs_zero]; exact pw_pos _)
  have f6 := rnd_zero32 f5
  have hn : V32 (neg32 0) 0 := by simpa using neg32_val zero32
  obtain ⟨u', u1, u2⟩ := widen w1
  obtain ⟨v', v1, v2⟩ := widen w2
  obtain ⟨n', n1, n2⟩ := widen hn
  obtain ⟨z', z1, z2⟩ := widen zero32
  obtain ⟨r2, e2, y2⟩ := mul_zero64 u2 f2 (Rat.mul_zero _)
  obtain ⟨r3, e3, y3⟩ := mul_zero64 v2 n2 (Rat.mul_zero _)
  obtain ⟨r4, e4, y4⟩ := mul_zero64 u2 n2 (Rat.mul_zero _)
  obtain ⟨r5, e5, y5⟩ := mul_zero64 v2 f2 (Rat.mul_zero _)
  obtain ⟨r6, e6, y6⟩ := sub_zero64 y2 y3
  obtain ⟨r7, e7, y7⟩ := add_zero64 y4 y5
  obtain ⟨r8, e8, y8⟩ := mul_zero64 f2 f2 (Rat.mul_zero _)
  obtain ⟨r9, e9, y9⟩ := mul_zero64 z2 z2 (Rat.mul_zero _)
  obtain ⟨r10, e10, y10⟩ := add_zero64 y8 y9
  refine ⟨wh, l, r1, i1, r6, r7, r10, ?_, k1, quo_by_zero k2 f6, e1, ?_, ?_, quo_zero64 y6 y10, quo_zero64 y7 y10⟩
  · unfold whirlB
    simp only [hpl, hw, f1, f4, Option.bind_eq_bind, Option.bind_some]
  · unfold prod prodB
    simp only [u1, v1, f1, n1, e2, e3, e4, e5, e6, e7, Option.bind_eq_bind, Option.bind_some, Option.pure_def]
  · unfold powB
    simp only [f1, z1, e8, e9, e10, Option.bind_eq_bind, Option.bind_some]

theorem div_le {x W V R : Rat} (h : Le (x * W) (R * V)) (hV : W.abs = V) (hV0 : 0 < V) : Le x R := by
  obtain ⟨h1, h2⟩ := h
  rcases Rat.le_total (a := 0) (b := W) with h | h
  · rw [Rat.abs_of_nonneg h] at hV
    subst hV
    constructor
    · exact Rat.le_of_mul_le_mul_right (c := W) (by grind) hV0
    · exact Rat.le_of_mul_le_mul_right (c := W) (by grind) hV0
  · rw [Rat.abs_of_nonpos h] at hV
    subst hV
    constructor
    · exact Rat.le_of_mul_le_mul_right (c := -W) (by grind) hV0
    · exact Rat.le_of_mul_le_mul_right (c := -W) (by grind) hV0

/-- A quotient by a real number. -/
theorem quo_real {x y w : Nat} {u v W V R : Rat} (hx : V32 x u) (hy : V32 y v) (hw : V32 w W) (hV : W.abs = V) (hV0 : 3 / 100 ≤ V) (hV1 : V ≤ 9) (hR0 : 1 / 10 ^ 10 ≤ R) (hR1 : R ≤ 40) (lu : Le u (11 / 10 * (R * V))) (lv : Le v (11 / 10 * (R * V))) :
    ∃ r i p q X Y, quoC x y w 0 = some (r, i) ∧ V32 r p ∧ V32 i q ∧ X * W = u ∧ Y * W = v ∧ A p X (R / 4000000) ∧ A q Y (R / 4000000) := by
  have hVp : 0 < V := by grind
  have hWne : W ≠ 0 := by
    intro h
    rw [h, Rat.abs_zero] at hV
    grind
  have lW : Le W 9 := le_of_abs (by rw [hV]; exact hV1)
  have hRV0 : 3 / 100 * R ≤ R * V := by
    have := Rat.mul_le_mul_of_nonneg_left hV0 (show 0 ≤ R by grind)
    grind
  have hRV1 : R * V ≤ 9 * R := by
    have := Rat.mul_le_mul_of_nonneg_left hV1 (show 0 ≤ R by grind)
    grind
  have hn : V32 (neg32 0) 0 := by simpa using neg32_val zero32
  obtain ⟨pr, pi, z1, z2, e1, w1, w2, b1, b2⟩ := prod_num (M := 10 * R) (N := 9) hx hy hw hn ⟨by grind, by grind⟩ ⟨by grind, by grind⟩ lW ⟨by decide +kernel, by decide +kernel⟩ ⟨by grind, by grind⟩ ⟨by decide +kernel, by decide +kernel⟩
  obtain ⟨q, P, e2, w3, p0, b3⟩ := powB_num (M := 9) hw zero32 lW ⟨by decide +kernel, by decide +kernel⟩ ⟨by decide +kernel, by decide +kernel⟩
  obtain ⟨X, hX⟩ : ∃ X, X = u / W := ⟨_, rfl⟩
  obtain ⟨Y, hY⟩ : ∃ Y, Y = v / W := ⟨_, rfl⟩
  have hXW : X * W = u := by rw [hX, Rat.div_mul_cancel hWne]
  have hYW : Y * W = v := by rw [hY, Rat.div_mul_cancel hWne]
  clear hX hY
  have lX : Le X (11 / 10 * R) := div_le (V := V) (W := W) (by rw [hXW]; constructor <;> grind) hV hVp
  have lY : Le Y (11 / 10 * R) := div_le (V := V) (W := W) (by rw [hYW]; constructor <;> grind) hV hVp
  have hWW : W * W = V * V := by
    rw [← hV, abs_sq]
  have hVV : 9 / 10000 ≤ V * V := by
    have k1 := Rat.mul_le_mul_of_nonneg_left hV0 (show 0 ≤ V by grind)
    grind
  have hP : 8 / 10000 ≤ P := by grind
  have hPne : P ≠ 0 := by grind
  have hP0 : (0 : Rat) < 8 / 10000 := by decide +kernel
  have hPW : A P (W * W) (81 / 10 ^ 14) := ⟨by grind, by grind⟩
  have near : ∀ z o O : Rat, O * W = o → Le O (11 / 10 * R) → A z (o * W) (90 * R / 10 ^ 14) → Le (z / P - O) (R / 10 ^ 8) := by
    intro z o O h1 h2 h3
    have h4 := mulLe h2 hPW
    have h5 : z / P * P = z := Rat.div_mul_cancel hPne
    have h6 := le_of_mul' (d := z / P - O) (p := P) (e := 200 * R / 10 ^ 14) (p0 := 8 / 10000) (by
      have : (z / P - O) * P = z / P * P - O * P := by grind
      rw [this, h5]
      have : O * (W * W) = o * W := by rw [← h1]; grind
      constructor <;> grind) hP hP0
    constructor <;> grind
  have d1 := near z1 u X hXW lX ⟨by grind, by grind⟩
  have d2 := near z2 v Y hYW lY ⟨by grind, by grind⟩
  clear near hPW hWW hVV b1 b2 b3
  obtain ⟨r1, v1, e3, w4, b4⟩ := quo64 (M := 12 / 10 * R) w1 w3 hPne ⟨by grind, by grind⟩ ⟨by grind, by grind⟩
  obtain ⟨r2, v2, e4, w5, b5⟩ := quo64 (M := 12 / 10 * R) w2 w3 hPne ⟨by grind, by grind⟩ ⟨by grind, by grind⟩
  obtain ⟨r3, v3, e5, w6, b6, _⟩ := cut32 (M := 13 / 10 * R) w4 ⟨by grind, by grind⟩ ⟨by grind, by grind⟩
  obtain ⟨r4, v4, e6, w7, b7, _⟩ := cut32 (M := 13 / 10 * R) w5 ⟨by grind, by grind⟩ ⟨by grind, by grind⟩
  refine ⟨r3, r4, v3, v4, X, Y, ?_, w6, w7, hXW, hYW, ⟨by grind, by grind⟩, ⟨by grind, by grind⟩⟩
  unfold quoC
  simp only [e1, e2, e3, e4, e5, e6, Option.bind_eq_bind, Option.bind_some, Option.pure_def]

/-- The radius' word, and the turning's. -/
theorem whirl_num {ch ms mg pl wc : Nat} {W : Rat} (hpl : pullB ch ms = some pl) (hw : fb .mul .f32 pl mg = some wc) (hW : V32 wc W) (hl : Le W 9) : ∃ wh, whirlB ch ms mg = some wh ∧ V32 wh W.abs := by
  obtain ⟨x, f1, f2⟩ := widen hW
  have f3 := abs64_val f2
  have hl' := abs_of_le hl
  have h0 : 0 ≤ W.abs := Rat.abs_nonneg
  obtain ⟨wh, f4, f5⟩ := narrow f3 (by
    have := big32
    rw [Rat.abs_of_nonneg h0]
    grind)
  have hy : ∃ y, V32 y W.abs := by
    rcases Rat.le_total (a := 0) (b := W) with h | h
    · exact ⟨wc, by rw [Rat.abs_of_nonneg h]; exact hW⟩
    · exact ⟨neg32 wc, by rw [Rat.abs_of_nonpos h]; exact neg32_val hW⟩
  obtain ⟨y, hy⟩ := hy
  refine ⟨wh, ?_, exact32 (M := 9) hy ⟨by grind, by grind⟩ ⟨by decide +kernel, by decide +kernel⟩ f5⟩
  unfold whirlB
  simp only [hpl, hw, f1, f4, Option.bind_eq_bind, Option.bind_some]

/-- Radius and distance of the centre: the plain reckoning. -/
theorem round_law {L z L0 rho B R V W N a b X Y dx dy : Rat} (hL : 0 ≤ L) (hL0 : 0 ≤ L0) (hV : W.abs = V) (hVp : 0 < V) (hR : R * V = B) (hR0 : 1 / 100 ≤ R) (hN : N = a * a + b * b) (hBN : B * B ≤ N) (hrho : rho * V = L0)
    (hX : X * W = -b) (hY : Y * W = a) (lX : Le X R) (lY : Le Y R) (hrl : Le rho (3 / 2 * R)) (hz : A z rho (R / 1000000))
    (hLL : A (L * L) (dx * dx + dy * dy) (4 * (R * R) / 100000)) (h0 : A (L0 * L0) N (B * B / 400000))
    (hx : A dx X (R / 500000 + 1 / 500000)) (hy : A dy Y (R / 500000 + 1 / 500000)) : Le (L - z) ((R + 1) / 10000) ∧ 98 / 100 * R ≤ z := by
  have hRp : 0 < R := by grind
  have hBp : 0 < B := by rw [← hR]; exact Rat.mul_pos hRp hVp
  have hVV : 0 < V * V := Rat.mul_pos hVp hVp
  have hWW : W * W = V * V := by rw [← hV, abs_sq]
  have hBB : B * B = R * R * (V * V) := by rw [← hR]; grind
  have hs : Le (X * X + Y * Y - rho * rho) (R * R / 400000) := by
    have h1 := le_of_mul' (d := X * X + Y * Y - rho * rho) (p := V * V) (p0 := V * V) (e := B * B / 400000) (by
      have k1 : (X * X + Y * Y - rho * rho) * (V * V) = (X * W) * (X * W) + (Y * W) * (Y * W) - (rho * V) * (rho * V) := by
        have : (X * X + Y * Y) * (V * V) = (X * W) * (X * W) + (Y * W) * (Y * W) := by rw [← hWW]; grind
        grind
      rw [k1, hX, hY, hrho]
      constructor <;> grind) Rat.le_refl hVV
    have h2 : B * B / 400000 / (V * V) = R * R / 400000 := by
      rw [hBB]
      have : R * R * (V * V) / 400000 / (V * V) * (V * V) = R * R / 400000 * (V * V) := by
        rw [Rat.div_mul_cancel (Rat.ne_of_gt hVV)]; grind
      have h3 : (R * R * (V * V) / 400000 / (V * V) - R * R / 400000) * (V * V) = 0 := by grind
      rcases Rat.mul_eq_zero.1 h3 with h4 | h4
      · grind
      · exact absurd h4 (Rat.ne_of_gt hVV)
    rw [h2] at h1
    exact h1
  have hL09 : 99 / 100 * B ≤ L0 := by
    refine le_of_sq hL0 ?_
    have : 0 < B * B := Rat.mul_pos hBp hBp
    grind
  have hrho9 : 99 / 100 * R ≤ rho := by
    refine Rat.le_of_mul_le_mul_right (c := V) ?_ hVp
    grind
  have hz9 : 98 / 100 * R ≤ z := by grind
  refine ⟨?_, hz9⟩
  have o1 := mulA hx hx lX lX
  have o2 := mulA hy hy lY lY
  have o3 := mulA hz hz hrl hrl
  have hRR : 1 / 100 * R ≤ R * R := Rat.mul_le_mul_of_nonneg_right hR0 (by grind)
  refine le_of_part (p := L + z) (p0 := 98 / 100 * R) ?_ (by grind) (by grind) (by grind)
  have hd : (L - z) * (L + z) = L * L - z * z := by grind
  rw [hd]
  clear hd h0 hL09 hrho9 hBB hWW hVV hBN hN hR hX hY hrho hV
  constructor <;> grind

theorem radB_num {r : Nat} {z : Rat} (hr : V64 r z) (h0 : -(1 / 1000) ≤ z) (h1 : z ≤ 100) : ∃ b v, radB r = some b ∧ V64 b v ∧ 99 / 100000 * (1 + z) ≤ v := by
  obtain ⟨q, q1, q2, q3⟩ := milli_val
  obtain ⟨r1, v1, e1, w1, b1, _⟩ := add64 (M := 101) one64_val hr ⟨by grind, by grind⟩ ⟨by decide +kernel, by decide +kernel⟩
  have hq := mulLe (x := q) (y := v1) (a := 1 / 100) (b := 102) ⟨by grind, by grind⟩ ⟨by grind, by grind⟩
  have hq2 : 999 / 1000000 * v1 ≤ q * v1 := Rat.mul_le_mul_of_nonneg_right q2 (by grind)
  obtain ⟨r2, v2, e2, w2, b2, _⟩ := mul64 (M := 102 / 100) q1 w1 ⟨by grind, by grind⟩ ⟨by decide +kernel, by decide +kernel⟩
  refine ⟨r2, v2, ?_, w2, by grind⟩
  unfold radB
  simp only [e1, e2, Option.bind_eq_bind, Option.bind_some]

theorem round_facts {ax ay sx sy ch ms mg pl wc : Nat} {X0 Y0 a b B W V : Rat} (hx : V32 ax X0) (hy : V32 ay Y0) (hs : V32 sx a) (ht : V32 sy b) (lx : Le X0 8) (ly : Le Y0 8) (la : Le a B) (lb : Le b B)
    (hB0 : 1 / 10 ^ 8 ≤ B) (hB1 : B ≤ 1) (hcase : (1 / 8 ≤ B ∧ B * B ≤ a * a + b * b) ∨ B ≤ 1 / 10 ^ 8)
    (hpl : pullB ch ms = some pl) (hw : fb .mul .f32 pl mg = some wc) (hW : V32 wc W) (hV : W.abs = V) (hV0 : 3 / 100 ≤ V) (hV1 : V ≤ 9) :
    ∃ wh l r z r1 i1 r2 i2 r3 i3 z1 z2 a' r' g b', whirlB ch ms mg = some wh ∧ longC sx sy = some l ∧ fb .quo .f32 l wh = some r ∧ V32 r z ∧
      mulC 0 1065353216 sx sy = some (r1, i1) ∧ quoC r1 i1 wc 0 = some (r2, i2) ∧ lessC ax ay r2 i2 = some (r3, i3) ∧ V32 r3 z1 ∧ V32 i3 z2 ∧
      apartB ax ay r3 i3 = some a' ∧ cv64 r = some r' ∧ gapB a' r' = some g ∧ radB r' = some b' ∧ NotGt g b' := by
  have lW : Le W 9 := le_of_abs (by rw [hV]; exact hV1)
  have hVp : 0 < V := by grind
  have hVne : V ≠ 0 := Rat.ne_of_gt hVp
  obtain ⟨wh, e1, w1⟩ := whirl_num hpl hw hW lW
  rw [hV] at w1
  have mB : Mid B := ⟨by grind, by grind⟩
  obtain ⟨l, L0, e2, w2, l0, l1, l2⟩ := longC_num hs ht la lb mB
  obtain ⟨R, hRd⟩ : ∃ R, R = B / V := ⟨_, rfl⟩
  have hR : R * V = B := by rw [hRd, Rat.div_mul_cancel hVne]
  clear hRd
  have hR1 : R ≤ 40 := by
    refine Rat.le_of_mul_le_mul_right (c := V) ?_ hVp
    grind
  have hR0' : 1 / 9 * B ≤ R := by
    refine Rat.le_of_mul_le_mul_right (c := V) ?_ hVp
    have := Rat.mul_le_mul_of_nonneg_left hV1 (show 0 ≤ B by grind)
    grind
  have hR0 : 1 / 10 ^ 10 ≤ R := by grind
  obtain ⟨rho, hrd⟩ : ∃ rho, rho = L0 / V := ⟨_, rfl⟩
  have hrho : rho * V = L0 := by rw [hrd, Rat.div_mul_cancel hVne]
  have hrl : Le rho (3 / 2 * R) := by
    constructor
    · exact Rat.le_of_mul_le_mul_right (c := V) (by grind) hVp
    · exact Rat.le_of_mul_le_mul_right (c := V) (by grind) hVp
  rw [hrd] at hrl
  obtain ⟨r, z, e3, w3, b3⟩ := quo32 w2 w1 hVne hrl ⟨by grind, by grind⟩
  rw [← hrd] at hrl b3
  clear hrd
  obtain ⟨r1, i1, u, v, e4, w4, w5, b4, b5⟩ := times_i hs ht la lb mB
  obtain ⟨r2, i2, p, q, Xq, Yq, e5, w6, w7, hXq, hYq, b6, b7⟩ := quo_real (R := R) w4 w5 hW hV hV0 hV1 hR0 hR1 (by rw [hR]; constructor <;> grind) (by rw [hR]; constructor <;> grind)
  have hWne : W ≠ 0 := by
    intro h
    rw [h, Rat.abs_zero] at hV
    grind
  obtain ⟨X, hX'⟩ : ∃ X, X = -b / W := ⟨_, rfl⟩
  obtain ⟨Y, hY'⟩ : ∃ Y, Y = a / W := ⟨_, rfl⟩
  have hX : X * W = -b := by rw [hX', Rat.div_mul_cancel hWne]
  have hY : Y * W = a := by rw [hY', Rat.div_mul_cancel hWne]
  clear hX' hY'
  have lX : Le X R := div_le (by rw [hX, hR]; constructor <;> grind) hV hVp
  have lY : Le Y R := div_le (by rw [hY, hR]; constructor <;> grind) hV hVp
  have dX : Le (Xq - X) (R / 2000000) := div_le (V := V) (W := W) (by
    have : (Xq - X) * W = Xq * W - X * W := by grind
    rw [this, hXq, hX]
    have : R / 2000000 * V = B / 2000000 := by rw [← hR]; grind
    rw [this]
    exact b4) hV hVp
  have dY : Le (Yq - Y) (R / 2000000) := div_le (V := V) (W := W) (by
    have : (Yq - Y) * W = Yq * W - Y * W := by grind
    rw [this, hYq, hY]
    have : R / 2000000 * V = B / 2000000 := by rw [← hR]; grind
    rw [this]
    exact b5) hV hVp
  clear hXq hYq b4 b5
  obtain ⟨r3, z1, e6, w8, b8, _⟩ := sub32 (M := 8 + 2 * R) hx w6 ⟨by grind, by grind⟩ ⟨by grind, by grind⟩
  obtain ⟨i3, z2, e7, w9, b9, _⟩ := sub32 (M := 8 + 2 * R) hy w7 ⟨by grind, by grind⟩ ⟨by grind, by grind⟩
  have kx : A (X0 - z1) X (R / 500000 + 1 / 500000) := ⟨by grind, by grind⟩
  have ky : A (Y0 - z2) Y (R / 500000 + 1 / 500000) := ⟨by grind, by grind⟩
  have hless : lessC ax ay r2 i2 = some (r3, i3) := by
    unfold lessC
    simp only [e6, e7, Option.bind_eq_bind, Option.bind_some, Option.pure_def]
  obtain ⟨r', f1, f2⟩ := widen w3
  have hfin : ∃ a' L, apartB ax ay r3 i3 = some a' ∧ V64 a' L ∧ Le (L - z) ((R + 1) / 10000) ∧ 98 / 100 * R - 1 / 100 ≤ z ∧ -(1 / 1000) ≤ z ∧ z ≤ 100 := by
    rcases hcase with ⟨c1, c2⟩ | c1
    · have hR2 : 1 / 100 ≤ R := by grind
      obtain ⟨a', L, g1, g2, g3, g4, g5⟩ := apart_both (e := 2 * R) hx hy w8 w9 ⟨by grind, by grind⟩ ⟨by grind, by grind⟩ ⟨by grind, by grind⟩ ⟨by grind, by grind⟩
      obtain ⟨k1, k2⟩ := round_law (R := R) (L := L) (z := z) (L0 := L0) g3 l0 hV hVp hR hR2 rfl c2 hrho hX hY lX lY hrl ⟨by grind, by grind⟩ ⟨by grind, by grind⟩ l2 kx ky
      exact ⟨a', L, g1, g2, k1, by grind, by grind, by grind⟩
    · have hR2 : R ≤ 1 / 10 ^ 6 := by
        refine Rat.le_of_mul_le_mul_right (c := V) ?_ hVp
        grind
      obtain ⟨a', L, g1, g2, g3, g4, g5⟩ := apart_both (e := 1 / 100000) hx hy w8 w9 ⟨by grind, by grind⟩ ⟨by grind, by grind⟩ ⟨by decide +kernel, by decide +kernel⟩ ⟨by decide +kernel, by decide +kernel⟩
      exact ⟨a', L, g1, g2, ⟨by grind, by grind⟩, by grind, by grind, by grind⟩
  obtain ⟨a', L, g1, g2, g3, g4, g5, g6⟩ := hfin
  obtain ⟨gg, vv, m1, m2, m3⟩ := gap_num g2 f2 g3 ⟨by grind, by grind⟩
  obtain ⟨b', vb, n1, n2, n3⟩ := radB_num f2 g5 g6
  exact ⟨wh, l, r, z, r1, i1, r2, i2, r3, i3, z1, z2, a', r', gg, b', e1, e2, e3, w3, e4, e5, hless, w8, w9, g1, f1, m1, n1, notGt m2 n2 (by grind)⟩

end Go.Proofs.Ytgblehdamgliaaa
