/-
  The words of an orbit: its steps are of one length, nearly.
-/
import Derived.Test.YtgblehdamgliaaaN4
import Derived.Test.YtgblehdamgliaaaW13
set_option linter.unusedVariables false
set_option linter.unusedSimpArgs false
namespace Go.Proofs.Ytgblehdamgliaaa
open FT

/-- A turned speed: its length stays, nearly. -/
theorem rot_num {a b C S p q B : Rat} (hCS : C * C + S * S = 1) (hC : Le C 1) (hS : Le S 1) (ha : Le a (3 / 2 * B)) (hb : Le b (3 / 2 * B)) (hB : 0 < B)
    (hp : A p (a * C - b * S) (7 / 1000000 * B)) (hq : A q (a * S + b * C) (7 / 1000000 * B)) : A (p * p + q * q) (a * a + b * b) (9 / 100000 * (B * B)) := by
  have n1 := mulLe ha hC
  have n2 := mulLe hb hS
  have n3 := mulLe ha hS
  have n4 := mulLe hb hC
  have lX : Le (a * C - b * S) (3 * B) := ⟨by grind, by grind⟩
  have lY : Le (a * S + b * C) (3 * B) := ⟨by grind, by grind⟩
  have o1 := mulA hp hp lX lX
  have o2 := mulA hq hq lY lY
  have hrot : (a * C - b * S) * (a * C - b * S) + (a * S + b * C) * (a * S + b * C) = a * a + b * b := by
    have : (a * C - b * S) * (a * C - b * S) + (a * S + b * C) * (a * S + b * C) = (a * a + b * b) * (C * C + S * S) := by grind
    rw [this, hCS, Rat.mul_one]
  have hBB : 0 < B * B := Rat.mul_pos hB hB
  constructor <;> grind

/-- The next words of an orbit. -/
def nextO (ch ms mg tk : Nat) (s : Nat × Nat × Nat × Nat) : Nat × Nat × Nat × Nat :=
  let u := (pushB s.2.2.1 s.2.2.2 ch ms 0 0 mg tk).getD (0, 0)
  let d := (scaleC u.1 u.2 tk).getD (0, 0)
  let p := (plusC s.1 s.2.1 d.1 d.2).getD (0, 0)
  (p.1, p.2, u.1, u.2)
def orbO (ch ms mg tk : Nat) (s : Nat × Nat × Nat × Nat) : Nat → Nat × Nat × Nat × Nat
  | 0 => s
  | k + 1 => nextO ch ms mg tk (orbO ch ms mg tk s k)

/-- What holds of the words behind k steps. -/
structure OrbI (B N : Rat) (s : Nat × Nat × Nat × Nat) (k : Nat) (X Y a b : Rat) : Prop where
  x : V32 s.1 X
  y : V32 s.2.1 Y
  u : V32 s.2.2.1 a
  v : V32 s.2.2.2 b
  lx : Le X (8 + 2 * (k : Rat))
  ly : Le Y (8 + 2 * (k : Rat))
  la : Le a (3 / 2 * B)
  lb : Le b (3 / 2 * B)
  n : A (a * a + b * b) N ((k : Rat) * (9 / 100000 * (B * B)))

/-- One step. -/
structure OrbS (B T N t : Rat) (ch ms mg tk : Nat) (s s' : Nat × Nat × Nat × Nat) (X Y X' Y' a' b' : Rat) : Prop where
  push : pushB s.2.2.1 s.2.2.2 ch ms 0 0 mg tk = some (s'.2.2.1, s'.2.2.2)
  step : ∃ p q, scaleC s'.2.2.1 s'.2.2.2 tk = some (p, q) ∧ plusC s.1 s.2.1 p q = some (s'.1, s'.2.1)
  dx : A (X' - X) (a' * t) (1 / 400000 + B * T / 4000000)
  dy : A (Y' - Y) (b' * t) (1 / 400000 + B * T / 4000000)

theorem orb_step {ch ms mg tk : Nat} {g t B T N : Rat} (hm : Motion ch ms mg tk g) (ht : V32 tk t) (hT : Le t T) (hT0 : 1 / 10 ^ 8 ≤ T) (hT1 : T ≤ 1) (hB0 : 1 / 10 ^ 8 ≤ B) (hB1 : B ≤ 1) (hN : N ≤ 2 * (B * B))
    {s : Nat × Nat × Nat × Nat} {k : Nat} (hk : k < 6) {X Y a b : Rat} (h : OrbI B N s k X Y a b) :
    ∃ X' Y' a' b', OrbI B N (nextO ch ms mg tk s) (k + 1) X' Y' a' b' ∧ OrbS B T N t ch ms mg tk s (nextO ch ms mg tk s) X Y X' Y' a' b' := by
  obtain ⟨pl, P, hh, H, mu, mm, tw, tt, kr, ki, k1, k2, _, _, _, _, _, _, _, e1, w1, l1, _, e2, w2, w3, b1, b2⟩ := kick_num (K := 1 / 10 ^ 24) hm zero32 zero32 (fun m _ => by rw [Rat.zero_mul]; exact ⟨by decide +kernel, by decide +kernel⟩) ⟨by decide +kernel, by decide +kernel⟩
  rw [Rat.zero_mul] at b1 b2
  obtain ⟨tr, ti, u, v, C, S, f1, w4, w5, b3, b4, _, _, c3, lC, lS⟩ := turn_num w1 l1
  have f1' := turnB_of e1 f1
  clear hm l1
  have hk6 : (k : Rat) ≤ 5 := by
    have : ((k : Nat) : Rat) ≤ ((5 : Nat) : Rat) := Rat.natCast_le_natCast.2 (by omega)
    exact this
  have hk0 : (0 : Rat) ≤ (k : Rat) := Rat.natCast_nonneg
  have hkS : ((k + 1 : Nat) : Rat) = (k : Rat) + 1 := Rat.natCast_add _ _
  have hBp : 0 < B := by grind
  have hBB : 0 < B * B := Rat.mul_pos hBp hBp
  have hTp : 0 < T := by grind
  obtain ⟨re, im, p, r, e3, w6, w7, b5, b6⟩ := push_num (B := 3 / 2 * B) (K := 1 / 10 ^ 20) e2 w2 w3 ⟨by grind, by grind⟩ ⟨by grind, by grind⟩ f1' w4 w5 b3 b4 lC lS h.u h.v h.la h.lb (by decide +kernel) (by grind) (by grind) (by grind)
  have m1 := mulLe (x := k1) (a := 1 / 10 ^ 20) ⟨by grind, by grind⟩ lC
  have m2 := mulLe (x := k2) (a := 1 / 10 ^ 20) ⟨by grind, by grind⟩ lS
  have m3 := mulLe (x := k1) (a := 1 / 10 ^ 20) ⟨by grind, by grind⟩ lS
  have m4 := mulLe (x := k2) (a := 1 / 10 ^ 20) ⟨by grind, by grind⟩ lC
  have d1 : A p (a * C - b * S) (7 / 1000000 * B) := ⟨by grind, by grind⟩
  have d2 : A r (a * S + b * C) (7 / 1000000 * B) := ⟨by grind, by grind⟩
  have hrot := rot_num c3 lC lS h.la h.lb hBp d1 d2
  clear b5 b6 m1 m2 m3 m4 d1 d2 b1 b2 b3 b4
  have hn := h.n
  have hkB : (k : Rat) * (9 / 100000 * (B * B)) ≤ 5 * (9 / 100000 * (B * B)) := Rat.mul_le_mul_of_nonneg_right hk6 (by grind)
  have hn' : A (p * p + r * r) N (((k + 1 : Nat) : Rat) * (9 / 100000 * (B * B))) := by
    rw [hkS]
    constructor <;> grind
  have hup : p * p + r * r ≤ (3 / 2 * B) * (3 / 2 * B) := by grind
  have sp := sq_nonneg p
  have sr := sq_nonneg r
  have lp : Le p (3 / 2 * B) := by
    constructor
    · have : -p ≤ 3 / 2 * B := le_of_sq (by grind) (by grind)
      grind
    · exact le_of_sq (by grind) (by grind)
  have lr : Le r (3 / 2 * B) := by
    constructor
    · have : -r ≤ 3 / 2 * B := le_of_sq (by grind) (by grind)
      grind
    · exact le_of_sq (by grind) (by grind)
  clear hup sp sr hrot hn hN hkB
  have q1 := mulLe lp hT
  have q2 := mulLe lr hT
  have hQ1 : B * T ≤ 1 := by
    have := Rat.mul_le_mul_of_nonneg_left hT1 (show 0 ≤ B by grind)
    grind
  have hQ0 : 1 / 10 ^ 16 ≤ B * T := by
    have := Rat.mul_le_mul_of_nonneg_left hT0 (show 0 ≤ B by grind)
    grind
  obtain ⟨x1, v1, g1, i1, j1, _⟩ := mul32 (M := 3 / 2 * (B * T)) w6 ht ⟨by grind, by grind⟩ ⟨by grind, by grind⟩
  obtain ⟨x2, v2, g2, i2, j2, _⟩ := mul32 (M := 3 / 2 * (B * T)) w7 ht ⟨by grind, by grind⟩ ⟨by grind, by grind⟩
  have lx := h.lx
  have ly := h.ly
  obtain ⟨x3, v3, g3, i3, j3, _⟩ := add32 (M := 20) h.x i1 ⟨by grind, by grind⟩ ⟨by decide +kernel, by decide +kernel⟩
  obtain ⟨x4, v4, g4, i4, j4, _⟩ := add32 (M := 20) h.y i2 ⟨by grind, by grind⟩ ⟨by decide +kernel, by decide +kernel⟩
  have hs : scaleC re im tk = some (x1, x2) := by
    unfold scaleC
    simp only [g1, g2, Option.bind_eq_bind, Option.bind_some, Option.pure_def]
  have hp : plusC s.1 s.2.1 x1 x2 = some (x3, x4) := by
    unfold plusC
    simp only [g3, g4, Option.bind_eq_bind, Option.bind_some, Option.pure_def]
  have hnx : nextO ch ms mg tk s = (x3, x4, re, im) := by
    unfold nextO
    simp only [e3, hs, hp, Option.getD_some]
  rw [hnx]
  refine ⟨v3, v4, p, r, ⟨i3, i4, w6, w7, ?_, ?_, lp, lr, hn'⟩, ⟨e3, ⟨x1, x2, hs, hp⟩, ?_, ?_⟩⟩
  · rw [hkS]; constructor <;> grind
  · rw [hkS]; constructor <;> grind
  · constructor <;> grind
  · constructor <;> grind

theorem orb_all {ch ms mg tk : Nat} {g t B T N : Rat} (hm : Motion ch ms mg tk g) (ht : V32 tk t) (hT : Le t T) (hT0 : 1 / 10 ^ 8 ≤ T) (hT1 : T ≤ 1) (hB0 : 1 / 10 ^ 8 ≤ B) (hB1 : B ≤ 1) (hN : N ≤ 2 * (B * B))
    {s : Nat × Nat × Nat × Nat} {X Y a b : Rat} (h : OrbI B N s 0 X Y a b) : ∀ k, k ≤ 6 → ∃ X Y a b, OrbI B N (orbO ch ms mg tk s k) k X Y a b := by
  intro k
  induction k with
  | zero => intro _; exact ⟨X, Y, a, b, h⟩
  | succ k ih =>
    intro hk
    obtain ⟨X, Y, a, b, hi⟩ := ih (by omega)
    obtain ⟨X', Y', a', b', h1, _⟩ := orb_step hm ht hT hT0 hT1 hB0 hB1 hN (show k < 6 by omega) hi
    exact ⟨X', Y', a', b', h1⟩

theorem abs_max {x : Nat} {a : Rat} (hx : V64 x a) : ∃ m, maxB x (neg64 x) = some m ∧ V64 m a.abs := by
  have hn := neg64_val hx
  unfold maxB
  rw [order_eq hx hn]
  by_cases h3 : a < -a
  · rw [if_pos h3]
    refine ⟨_, rfl, ?_⟩
    rw [Rat.abs_of_nonpos (by grind)]
    exact hn
  · rw [if_neg h3]
    by_cases h4 : a = -a
    · rw [if_pos h4]
      have h0 : a = 0 := by grind
      subst h0
      rw [Rat.abs_zero]
      have hn' : V64 (neg64 x) 0 := by simpa using hn
      by_cases h5 : (Ieee.double.read x).neg = true
      · simp only [h5, if_true]
        exact ⟨_, rfl, hn'⟩
      · simp only [h5]
        exact ⟨_, rfl, hx⟩
    · rw [if_neg h4]
      refine ⟨_, rfl, ?_⟩
      rw [Rat.abs_of_nonneg (by grind)]
      exact hx

/-- The length of a step's way. -/
theorem way_num {sx sy tk : Nat} {a b t B T : Rat} (hs : V32 sx a) (hs' : V32 sy b) (ht : V32 tk t) (ha : Le a B) (hb : Le b B) (hT : Le t T) (hB : Mid B) (hB1 : B ≤ 1) (hT0 : 1 / 10 ^ 8 ≤ T) (hT1 : T ≤ 1) (hB0 : 1 / 10 ^ 8 ≤ B) :
    ∃ long w L, wayB sx sy tk = some long ∧ V64 long w ∧ 0 ≤ L ∧ L ≤ 3 / 2 * B ∧ A (L * L) (a * a + b * b) (B * B / 400000) ∧ A w (L * t.abs) (1 / 10 ^ 12) := by
  obtain ⟨l, L, k1, k2, k3, k4, k5⟩ := longC_num hs hs' ha hb hB
  obtain ⟨l', j1, j2⟩ := widen k2
  obtain ⟨t', i1, i2⟩ := widen ht
  obtain ⟨m, m1, m2⟩ := abs_max i2
  have ta := abs_of_le hT
  have t0 : 0 ≤ t.abs := Rat.abs_nonneg
  have hp := mulLe (x := L) (y := t.abs) (a := 3 / 2) (b := 1) ⟨by grind, by grind⟩ ⟨by grind, by grind⟩
  obtain ⟨r, v, e1, w1, b1, _⟩ := mul64 (M := 3 / 2) j2 m2 ⟨by grind, by grind⟩ ⟨by decide +kernel, by decide +kernel⟩
  refine ⟨r, v, L, ?_, w1, k3, k4, k5, ⟨by grind, by grind⟩⟩
  unfold wayB
  simp only [k1, j1, i1, m1, e1, Option.bind_eq_bind, Option.bind_some]

/-- A difference of two lengths, told by their squares. -/
theorem le_of_part {d p p0 e : Rat} (h : Le (d * p) (e * p0)) (hp : p0 ≤ p) (h0 : 0 < p0) (he : 0 ≤ e) : Le d e := by
  obtain ⟨h1, h2⟩ := h
  have h3 := Rat.mul_le_mul_of_nonneg_left hp he
  have hpp : 0 < p := by grind
  constructor
  · refine Rat.le_of_mul_le_mul_right (c := p) ?_ hpp
    grind
  · refine Rat.le_of_mul_le_mul_right (c := p) ?_ hpp
    grind

theorem apart_both {x y z t : Nat} {a b c d e : Rat} (hx : V32 x a) (hy : V32 y b) (hz : V32 z c) (ht : V32 t d) (h1 : Le (a - c) e) (h2 : Le (b - d) e) (hM : Mid e) (hM' : Mid (2 * e)) :
    ∃ r L, apartB x y z t = some r ∧ V64 r L ∧ 0 ≤ L ∧ L ≤ 8 / 5 * e ∧ A (L * L) ((a - c) * (a - c) + (b - d) * (b - d)) (e * e / 100000) := by
  have hl := hM.lo
  have hh := hM.hi
  obtain ⟨r1, v1, e1, w1, b1, _⟩ := sub32 hx hz h1 ⟨by grind, by grind⟩
  obtain ⟨r2, v2, e2, w2, b2, _⟩ := sub32 hy ht h2 ⟨by grind, by grind⟩
  obtain ⟨l, L, k1, k2, k3, k4, k5⟩ := longC_num (M := (1 + 1 / 1000) * e) w1 w2 ⟨by grind, by grind⟩ ⟨by grind, by grind⟩ ⟨by grind, by have := hM'.hi; grind⟩
  obtain ⟨g, j1, j2⟩ := widen k2
  have o1 := mulA b1 b1 h1 h1
  have o2 := mulA b2 b2 h2 h2
  have he : 0 ≤ e * e := sq_nonneg e
  refine ⟨g, L, ?_, j2, k3, by grind, ?_⟩
  · unfold apartB lessC
    simp only [e1, e2, k1, j1, Option.bind_eq_bind, Option.bind_some, Option.pure_def]
  · clear k1 k2 j1 j2 e1 e2 w1 w2 hx hy hz ht
    constructor <;> grind

/-- The steps' lengths: the plain reckoning. -/
theorem step_law {L L0 t B T Q N a b dx dy : Rat} (hL0 : 0 ≤ L) (hL00 : 0 ≤ L0) (hT : t.abs = T) (hTp : 0 < T) (hQ : B * T = Q) (hQ0 : 1 / 64 ≤ Q) (hQ1 : Q ≤ 1) (hB : 0 < B) (hN : B * B ≤ N)
    (hL : A (L * L) (dx * dx + dy * dy) (64 / 25 * (Q * Q) / 100000)) (h0 : A (L0 * L0) N (B * B / 400000))
    (hx : A dx (a * t) (1 / 400000 + Q / 4000000)) (hy : A dy (b * t) (1 / 400000 + Q / 4000000)) (la : Le (a * t) (3 / 2 * Q)) (lb : Le (b * t) (3 / 2 * Q))
    (hn : A (a * a + b * b) N (6 * (9 / 100000 * (B * B)))) : Le (L - L0 * t.abs) (7 / 10000) := by
  have hTT : T * T = t * t := by
    rw [← hT]
    rcases Rat.le_total (a := 0) (b := t) with h | h
    · rw [Rat.abs_of_nonneg h]
    · rw [Rat.abs_of_nonpos h]; grind
  have sT : Le (t * t) (T * T) := by
    have := sq_nonneg t
    constructor <;> grind
  have hQQ : Q * Q = B * B * (T * T) := by rw [← hQ]; grind
  have p1 := mulLe sT hn
  have p2 := mulLe sT h0
  have o1 := mulA hx hx la la
  have o2 := mulA hy hy lb lb
  have hK : (L0 * T) * (L0 * T) = t * t * (L0 * L0) := by
    have : (L0 * T) * (L0 * T) = T * T * (L0 * L0) := by grind
    rw [this, hTT]
  have hab : (a * t) * (a * t) + (b * t) * (b * t) = t * t * (a * a + b * b) := by grind
  have hL09 : 99 / 100 * B ≤ L0 := by
    refine le_of_sq hL00 ?_
    have : 0 < B * B := Rat.mul_pos hB hB
    grind
  have hKK : 99 / 100 * Q ≤ L0 * T := by
    have := Rat.mul_le_mul_of_nonneg_right hL09 (show 0 ≤ T by grind)
    grind
  have hQQ1 : Q * Q ≤ Q := by
    have := Rat.mul_le_mul_of_nonneg_left hQ1 (show 0 ≤ Q by grind)
    grind
  rw [hT]
  refine le_of_part (p := L + L0 * T) (p0 := 99 / 100 * Q) ?_ (by grind) (by grind) (by decide +kernel)
  have hd : (L - L0 * T) * (L + L0 * T) = L * L - (L0 * T) * (L0 * T) := by grind
  rw [hd, hK]
  clear hd hK hT hTT sT hQ hL09 hKK
  constructor <;> grind

theorem orb_words {ax ay sx sy ch ms mg tk : Nat} {g t B T X0 Y0 a b : Rat} (hm : Motion ch ms mg tk g) (ht : V32 tk t) (hT : Le t T) (hT0 : 1 / 10 ^ 8 ≤ T) (hT1 : T ≤ 1) (hB0 : 1 / 10 ^ 8 ≤ B) (hB1 : B ≤ 1) (hN : a * a + b * b ≤ 2 * (B * B))
    (hx : V32 ax X0) (hy : V32 ay Y0) (hs : V32 sx a) (hs' : V32 sy b) (lx : Le X0 8) (ly : Le Y0 8) (la : Le a B) (lb : Le b B)
    (hcase : (T = t.abs ∧ 1 / 64 ≤ B * T ∧ B * B ≤ a * a + b * b) ∨ B * T ≤ 1 / 10 ^ 7) :
    ∃ X Y U V long, Orb ax ay sx sy ch ms mg tk X Y U V ∧ wayB sx sy tk = some long ∧
      ∀ k, k < 6 → ∃ a g, apartB (X (k + 1)) (Y (k + 1)) (X k) (Y k) = some a ∧ gapB a long = some g ∧ NotGt g milli := by
  obtain ⟨long, w, L0, e1, w1, l0, l1, l2, l3⟩ := way_num hs hs' ht la lb hT ⟨by grind, by grind⟩ hB1 hT0 hT1 hB0
  obtain ⟨q, q1, q2, q3⟩ := milli_val
  have z0 : ((0 : Nat) : Rat) = 0 := rfl
  have hI : OrbI B (a * a + b * b) (ax, ay, sx, sy) 0 X0 Y0 a b := by
    refine ⟨hx, hy, hs, hs', ?_, ?_, ⟨by grind, by grind⟩, ⟨by grind, by grind⟩, ?_⟩
    · rw [z0]; constructor <;> grind
    · rw [z0]; constructor <;> grind
    · rw [z0]; constructor <;> grind
  have hall := orb_all hm ht hT hT0 hT1 hB0 hB1 hN hI
  have hstep : ∀ k, k < 6 → ∃ X Y X' Y' a' b', OrbI B (a * a + b * b) (orbO ch ms mg tk (ax, ay, sx, sy) k) k X Y a' b' ∨ True := fun _ _ => ⟨0, 0, 0, 0, 0, 0, Or.inr trivial⟩
  clear hstep
  refine ⟨fun k => (orbO ch ms mg tk (ax, ay, sx, sy) k).1, fun k => (orbO ch ms mg tk (ax, ay, sx, sy) k).2.1, fun k => (orbO ch ms mg tk (ax, ay, sx, sy) k).2.2.1, fun k => (orbO ch ms mg tk (ax, ay, sx, sy) k).2.2.2, long, ⟨rfl, rfl, rfl, rfl, ?_, ?_, ?_⟩, e1, ?_⟩
  · intro k hk
    obtain ⟨X, Y, a1, b1, hi⟩ := hall k (by omega)
    obtain ⟨X', Y', a', b', _, h2⟩ := orb_step hm ht hT hT0 hT1 hB0 hB1 hN hk hi
    exact h2.push
  · intro k hk
    obtain ⟨X, Y, a1, b1, hi⟩ := hall k (by omega)
    obtain ⟨X', Y', a', b', _, h2⟩ := orb_step hm ht hT hT0 hT1 hB0 hB1 hN hk hi
    exact h2.step
  · intro k hk
    obtain ⟨X, Y, a1, b1, hi⟩ := hall k hk
    exact ⟨⟨_, hi.x⟩, ⟨_, hi.y⟩, ⟨_, hi.u⟩, ⟨_, hi.v⟩⟩
  · intro k hk
    obtain ⟨X, Y, a1, b1, hi⟩ := hall k (by omega)
    obtain ⟨X', Y', a', b', h1, h2⟩ := orb_step hm ht hT hT0 hT1 hB0 hB1 hN hk hi
    have dx := h2.dx
    have dy := h2.dy
    have p1 := mulLe h1.la hT
    have p2 := mulLe h1.lb hT
    have hn := h1.n
    have hk6 : ((k + 1 : Nat) : Rat) ≤ 6 := by
      have : ((k + 1 : Nat) : Rat) ≤ ((6 : Nat) : Rat) := Rat.natCast_le_natCast.2 (by omega)
      exact this
    have hBp : 0 < B := by grind
    have hBB : 0 < B * B := Rat.mul_pos hBp hBp
    have hkB : ((k + 1 : Nat) : Rat) * (9 / 100000 * (B * B)) ≤ 6 * (9 / 100000 * (B * B)) := Rat.mul_le_mul_of_nonneg_right hk6 (by grind)
    have hQ1 : B * T ≤ 1 := by
      have := Rat.mul_le_mul_of_nonneg_left hT1 (show 0 ≤ B by grind)
      grind
    have hx' := h1.x
    have hy' := h1.y
    have hx0 := hi.x
    have hy0 := hi.y
    clear h1 h2 hi hall hI hm hx hy hs hs'
    have hfin : ∃ r L, apartB (nextO ch ms mg tk (orbO ch ms mg tk (ax, ay, sx, sy) k)).1 (nextO ch ms mg tk (orbO ch ms mg tk (ax, ay, sx, sy) k)).2.1 (orbO ch ms mg tk (ax, ay, sx, sy) k).1 (orbO ch ms mg tk (ax, ay, sx, sy) k).2.1 = some r ∧ V64 r L ∧ Le (L - w) (8 / 10000) := by
      rcases hcase with ⟨rfl, c2, c3⟩ | c1
      · obtain ⟨r, L, f1, f2, f3, f4, f5⟩ := apart_both (e := 8 / 5 * (B * t.abs)) hx' hy' hx0 hy0 ⟨by grind, by grind⟩ ⟨by grind, by grind⟩ ⟨by grind, by grind⟩ ⟨by grind, by grind⟩
        have hl := step_law (Q := B * t.abs) f3 l0 rfl (by grind) rfl c2 hQ1 hBp c3 (by constructor <;> grind) l2 dx dy ⟨by grind, by grind⟩ ⟨by grind, by grind⟩ ⟨by grind, by grind⟩
        exact ⟨r, L, f1, f2, ⟨by grind, by grind⟩⟩
      · obtain ⟨r, L, f1, f2, f3, f4, f5⟩ := apart_both (e := 1 / 300000) hx' hy' hx0 hy0 ⟨by grind, by grind⟩ ⟨by grind, by grind⟩ ⟨by decide +kernel, by decide +kernel⟩ ⟨by decide +kernel, by decide +kernel⟩
        have ta := abs_of_le hT
        have t0 : 0 ≤ t.abs := Rat.abs_nonneg
        have hp := mulLe (x := L0) (y := t.abs) (a := 3 / 2 * B) (b := T) ⟨by grind, by grind⟩ ⟨by grind, by grind⟩
        exact ⟨r, L, f1, f2, ⟨by grind, by grind⟩⟩
    obtain ⟨r, L, f1, f2, f3⟩ := hfin
    obtain ⟨gg, vv, g1, g2, g3⟩ := gap_num f2 w1 f3 ⟨by decide +kernel, by decide +kernel⟩
    exact ⟨r, gg, f1, g1, notGt g2 q1 (by grind)⟩

theorem eighth_abs {n : Int} (h : n ≠ 0) (h0 : -8 ≤ n) (h1 : n ≤ 8) : 1 / 8 ≤ ((n : Rat) / 8).abs ∧ ((n : Rat) / 8).abs ≤ 1 := by
  refine ⟨?_, abs_of_le (unit_of h0 h1)⟩
  have e1 : ((1 : Int) : Rat) = 1 := rfl
  have e2 : ((-1 : Int) : Rat) = -1 := rfl
  rcases Int.lt_or_gt_of_ne h with h | h
  · have h2 := cast_le (show n ≤ -1 by omega)
    rw [e2] at h2
    rw [Rat.abs_of_nonpos (by grind)]
    grind
  · have h2 := cast_le (show 1 ≤ n by omega)
    rw [e1] at h2
    rw [Rat.abs_of_nonneg (by grind)]
    grind

theorem orb_facts {x y s t c m : Int} (hd : PD x y s t c m) {n1 n2 : Int} (h1 : -8 ≤ n1) (h2 : n1 ≤ 8) (h3 : -8 ≤ n2) (h4 : n2 ≤ 8) :
    ∃ X Y U V long, Orb (d8 x) (d8 y) (d8 s) (d8 t) (d2 c) (d4 m) (d8 n1) (d8 n2) X Y U V ∧ wayB (d8 s) (d8 t) (d8 n2) = some long ∧
      ∀ k, k < 6 → ∃ a g, apartB (X (k + 1)) (Y (k + 1)) (X k) (Y k) = some a ∧ gapB a long = some g ∧ NotGt g milli := by
  have v1 := (d8_ok n1 (by omega) (by omega)).2
  have v2 := (d8_ok n2 (by omega) (by omega)).2
  have hm := pd_motion hd v1 (unit_of h1 h2) v2 (unit_of h3 h4)
  obtain ⟨px, py, hs, ht, _, _⟩ := pd_vals hd
  have ls := unit_of hd.s0 hd.s1
  have lt := unit_of hd.t0 hd.t1
  have l2 := unit_of h3 h4
  have place : ∀ n : Int, 0 ≤ n → n < 64 → Le ((n : Rat) / 8) 8 := by
    intro n ha hb
    have h := eighth ha (show n ≤ 64 by omega)
    have e1 : ((0 : Int) : Rat) = 0 := rfl
    have e2 : ((64 : Int) : Rat) = 64 := rfl
    rw [e1, e2] at h
    constructor <;> grind
  have lx := place x hd.x0 hd.x1
  have ly := place y hd.y0 hd.y1
  have ssq : ∀ u : Rat, Le u 1 → u * u ≤ 1 := by
    intro u hu
    have := mulLe hu hu
    grind
  have s1 := ssq _ ls
  have s2 := ssq _ lt
  have q1 := sq_nonneg ((s : Rat) / 8)
  have q2 := sq_nonneg ((t : Rat) / 8)
  by_cases hn : n2 = 0
  · subst hn
    have z8 : ((0 : Int) : Rat) / 8 = 0 := by decide +kernel
    rw [z8] at v2
    exact orb_words (B := 1) (T := 1 / 10 ^ 8) hm v2 ⟨by decide +kernel, by decide +kernel⟩ (by decide +kernel) (by decide +kernel) (by decide +kernel) (by decide +kernel) (by grind) px py hs ht lx ly ls lt (Or.inr (by decide +kernel))
  · by_cases h0 : s = 0 ∧ t = 0
    · obtain ⟨rfl, rfl⟩ := h0
      have z8 : ((0 : Int) : Rat) / 8 = 0 := by decide +kernel
      rw [z8] at hs ht
      exact orb_words (B := 1 / 10 ^ 8) (T := 1) hm v2 l2 (by decide +kernel) (by decide +kernel) (by decide +kernel) (by decide +kernel) (by decide +kernel) px py hs ht lx ly ⟨by decide +kernel, by decide +kernel⟩ ⟨by decide +kernel, by decide +kernel⟩ (Or.inr (by decide +kernel))
    · obtain ⟨t1, t2⟩ := eighth_abs hn h3 h4
      have hB : ∃ B : Rat, 1 / 8 ≤ B ∧ B ≤ 1 ∧ Le ((s : Rat) / 8) B ∧ Le ((t : Rat) / 8) B ∧ B * B ≤ (s : Rat) / 8 * ((s : Rat) / 8) + (t : Rat) / 8 * ((t : Rat) / 8) ∧ (s : Rat) / 8 * ((s : Rat) / 8) + (t : Rat) / 8 * ((t : Rat) / 8) ≤ 2 * (B * B) := by
        have a1 := abs_sq ((s : Rat) / 8)
        have a2 := abs_sq ((t : Rat) / 8)
        have b1 := abs_le_self ((s : Rat) / 8)
        have b2 := abs_le_self ((t : Rat) / 8)
        have n1' : 0 ≤ ((s : Rat) / 8).abs := Rat.abs_nonneg
        have n2' : 0 ≤ ((t : Rat) / 8).abs := Rat.abs_nonneg
        have m1 : ((s : Rat) / 8).abs ≤ 1 := abs_of_le ls
        have m2 : ((t : Rat) / 8).abs ≤ 1 := abs_of_le lt
        have hbig : 1 / 8 ≤ ((s : Rat) / 8).abs ∨ 1 / 8 ≤ ((t : Rat) / 8).abs := by
          by_cases hs0 : s = 0
          · right
            exact (eighth_abs (fun h => h0 ⟨hs0, h⟩) hd.t0 hd.t1).1
          · left
            exact (eighth_abs hs0 hd.s0 hd.s1).1
        generalize ((s : Rat) / 8).abs = p at *
        generalize ((t : Rat) / 8).abs = r at *
        rcases Rat.le_total (a := p) (b := r) with h | h
        · have k1 := Rat.mul_le_mul_of_nonneg_left h n1'
          have k2 := Rat.mul_le_mul_of_nonneg_right h n2'
          exact ⟨r, by grind, m2, ⟨by grind, by grind⟩, b2, by grind, by grind⟩
        · have k1 := Rat.mul_le_mul_of_nonneg_left h n2'
          have k2 := Rat.mul_le_mul_of_nonneg_right h n1'
          exact ⟨p, by grind, m1, b1, ⟨by grind, by grind⟩, by grind, by grind⟩
      obtain ⟨B, B0, B1, c1, c2, c3, c4⟩ := hB
      refine orb_words (B := B) (T := ((n2 : Rat) / 8).abs) hm v2 (abs_le_self _) (by grind) t2 (by grind) B1 c4 px py hs ht lx ly c1 c2 (Or.inl ⟨rfl, ?_, c3⟩)
      have := Rat.mul_le_mul_of_nonneg_left t1 (show 0 ≤ B by grind)
      have := Rat.mul_le_mul_of_nonneg_right B0 (show (0 : Rat) ≤ 1 / 8 by grind)
      grind

end Go.Proofs.Ytgblehdamgliaaa
