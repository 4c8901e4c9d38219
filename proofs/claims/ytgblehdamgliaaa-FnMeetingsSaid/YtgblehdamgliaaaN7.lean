/-
  All facts on the words of the law FnOrbits.
-/
import Derived.Test.YtgblehdamgliaaaN6
set_option linter.unusedVariables false
set_option linter.unusedSimpArgs false
namespace Go.Proofs.Ytgblehdamgliaaa
open FT

theorem half_abs {c : Int} (h : c ≠ 0) (h0 : -4 ≤ c) (h1 : c ≤ 4) : 1 / 2 ≤ ((c : Rat) / 2).abs ∧ ((c : Rat) / 2).abs ≤ 2 := by
  have e1 : ((1 : Int) : Rat) = 1 := rfl
  have e2 : ((-1 : Int) : Rat) = -1 := rfl
  have e3 : ((4 : Int) : Rat) = 4 := rfl
  have e4 : ((-4 : Int) : Rat) = -4 := rfl
  have h2 := cast_le h0
  have h3 := cast_le h1
  rw [e4] at h2
  rw [e3] at h3
  rcases Int.lt_or_gt_of_ne h with h | h
  · have h2 := cast_le (show c ≤ -1 by omega)
    rw [e2] at h2
    rw [Rat.abs_of_nonpos (by grind)]
    constructor <;> grind
  · have h2 := cast_le (show 1 ≤ c by omega)
    rw [e1] at h2
    rw [Rat.abs_of_nonneg (by grind)]
    constructor <;> grind

theorem pd_pull {x y s t c m : Int} (h : PD x y s t c m) : ∃ pl P, pullB (d2 c) (d4 m) = some pl ∧ V32 pl P ∧ Le P (8 + 1 / 1000) ∧ (c = 0 → P = 0) ∧ (c ≠ 0 → 249 / 1000 ≤ P.abs) := by
  obtain ⟨_, _, _, _, h5, h6⟩ := pd_vals h
  have a1 := cast_le h.c0
  have a2 := cast_le h.c1
  have a3 := cast_le h.m0
  have a4 := cast_le h.m1
  have e1 : ((-4 : Int) : Rat) = -4 := rfl
  have e2 : ((4 : Int) : Rat) = 4 := rfl
  have e3 : ((1 : Int) : Rat) = 1 := rfl
  have e4 : ((8 : Int) : Rat) = 8 := rfl
  rw [e1] at a1
  rw [e2] at a2
  rw [e3] at a3
  rw [e4] at a4
  have hb : (m : Rat) / 4 ≠ 0 := by grind
  by_cases hc : c = 0
  · subst hc
    have z2 : ((0 : Int) : Rat) / 2 = 0 := by decide +kernel
    rw [z2] at h5
    obtain ⟨pl, e, w⟩ := quo_zero32 h5 h6 hb
    exact ⟨pl, 0, e, w, ⟨by decide +kernel, by decide +kernel⟩, fun _ => rfl, fun h => absurd rfl h⟩
  · obtain ⟨rho, hr⟩ : ∃ rho, rho = (c : Rat) / 2 / ((m : Rat) / 4) := ⟨_, rfl⟩
    have h7 : rho * ((m : Rat) / 4) = (c : Rat) / 2 := by rw [hr, Rat.div_mul_cancel hb]
    have h8 := le_of_mul' (d := rho) (p := (m : Rat) / 4) (e := 2) (p0 := 1 / 4) (by rw [h7]; constructor <;> grind) (by grind) (by decide +kernel)
    obtain ⟨pl, P, f1, w1, b1⟩ := quo32 (M := 8) h5 h6 hb (by rw [← hr]; constructor <;> grind) ⟨by decide +kernel, by decide +kernel⟩
    rw [← hr] at b1
    refine ⟨pl, P, f1, w1, ⟨by grind, by grind⟩, fun h => absurd h hc, fun _ => ?_⟩
    obtain ⟨k1, _⟩ := half_abs hc h.c0 h.c1
    have hrho : 1 / 4 ≤ rho.abs := by
      rcases Rat.le_total (a := 0) (b := rho) with h | h
      · rw [Rat.abs_of_nonneg h]
        have hq := Rat.mul_le_mul_of_nonneg_left (show (m : Rat) / 4 ≤ 2 by grind) h
        have hn : 0 ≤ (c : Rat) / 2 := by rw [← h7]; exact Rat.mul_nonneg h (by grind)
        rw [Rat.abs_of_nonneg hn] at k1
        grind
      · rw [Rat.abs_of_nonpos h]
        have hq := Rat.mul_le_mul_of_nonneg_left (show (m : Rat) / 4 ≤ 2 by grind) (show 0 ≤ -rho by grind)
        have hn : 0 ≤ -rho * ((m : Rat) / 4) := Rat.mul_nonneg (by grind) (by grind)
        rw [Rat.abs_of_nonpos (by grind)] at k1
        grind
    have ha := abs_le_self P
    rcases Rat.le_total (a := 0) (b := rho) with h | h
    · rw [Rat.abs_of_nonneg h] at hrho
      grind
    · rw [Rat.abs_of_nonpos h] at hrho
      grind

theorem abs_mul' (a b : Rat) : (a * b).abs = a.abs * b.abs := by
  rcases Rat.le_total (a := 0) (b := a) with h | h
  · rcases Rat.le_total (a := 0) (b := b) with k | k
    · rw [Rat.abs_of_nonneg h, Rat.abs_of_nonneg k, Rat.abs_of_nonneg (Rat.mul_nonneg h k)]
    · have := Rat.mul_nonneg h (show 0 ≤ -b by grind)
      rw [Rat.abs_of_nonneg h, Rat.abs_of_nonpos k, Rat.abs_of_nonpos (by grind)]; grind
  · rcases Rat.le_total (a := 0) (b := b) with k | k
    · have := Rat.mul_nonneg (show 0 ≤ -a by grind) k
      rw [Rat.abs_of_nonpos h, Rat.abs_of_nonneg k, Rat.abs_of_nonpos (by grind)]; grind
    · have := Rat.mul_nonneg (show 0 ≤ -a by grind) (show 0 ≤ -b by grind)
      rw [Rat.abs_of_nonpos h, Rat.abs_of_nonpos k, Rat.abs_of_nonneg (by grind)]; grind

theorem speed_B {x y s t c m : Int} (hd : PD x y s t c m) (h0 : ¬ (s = 0 ∧ t = 0)) :
    ∃ B : Rat, 1 / 8 ≤ B ∧ B ≤ 1 ∧ Le ((s : Rat) / 8) B ∧ Le ((t : Rat) / 8) B ∧ B * B ≤ (s : Rat) / 8 * ((s : Rat) / 8) + (t : Rat) / 8 * ((t : Rat) / 8) := by
  have a1 := abs_sq ((s : Rat) / 8)
  have a2 := abs_sq ((t : Rat) / 8)
  have b1 := abs_le_self ((s : Rat) / 8)
  have b2 := abs_le_self ((t : Rat) / 8)
  have n1' : 0 ≤ ((s : Rat) / 8).abs := Rat.abs_nonneg
  have n2' : 0 ≤ ((t : Rat) / 8).abs := Rat.abs_nonneg
  have m1 : ((s : Rat) / 8).abs ≤ 1 := abs_of_le (unit_of hd.s0 hd.s1)
  have m2 : ((t : Rat) / 8).abs ≤ 1 := abs_of_le (unit_of hd.t0 hd.t1)
  have hbig : 1 / 8 ≤ ((s : Rat) / 8).abs ∨ 1 / 8 ≤ ((t : Rat) / 8).abs := by
    by_cases hs0 : s = 0
    · right
      exact (eighth_abs (fun h => h0 ⟨hs0, h⟩) hd.t0 hd.t1).1
    · left
      exact (eighth_abs hs0 hd.s0 hd.s1).1
  have q1 := sq_nonneg ((s : Rat) / 8)
  have q2 := sq_nonneg ((t : Rat) / 8)
  generalize ((s : Rat) / 8).abs = p at *
  generalize ((t : Rat) / 8).abs = r at *
  rcases Rat.le_total (a := p) (b := r) with h | h
  · exact ⟨r, by grind, m2, ⟨by grind, by grind⟩, b2, by grind⟩
  · exact ⟨p, by grind, m1, b1, ⟨by grind, by grind⟩, by grind⟩

theorem orb_every {x y s t c m : Int} (hd : PD x y s t c m) (n1 n2 : Int) (h1 : -8 ≤ n1) (h2 : n1 ≤ 8) (h3 : -8 ≤ n2) (h4 : n2 ≤ 8) :
    OrbFacts (d8 x) (d8 y) (d8 s) (d8 t) (d2 c) (d4 m) (d8 n1) (d8 n2) := by
  have v1 := (d8_ok n1 (by omega) (by omega)).2
  have v2 := (d8_ok n2 (by omega) (by omega)).2
  have hm := pd_motion hd v1 (unit_of h1 h2) v2 (unit_of h3 h4)
  obtain ⟨px, py, hs, ht, hc, _⟩ := pd_vals hd
  have ls := unit_of hd.s0 hd.s1
  have lt := unit_of hd.t0 hd.t1
  have lg := unit_of h1 h2
  have place : ∀ n : Int, 0 ≤ n → n < 64 → Le ((n : Rat) / 8) 8 := by
    intro n ha hb
    have h := eighth ha (show n ≤ 64 by omega)
    have e1 : ((0 : Int) : Rat) = 0 := rfl
    have e2 : ((64 : Int) : Rat) = 64 := rfl
    rw [e1, e2] at h
    constructor <;> grind
  have lx := place x hd.x0 hd.x1
  have ly := place y hd.y0 hd.y1
  obtain ⟨pl, P, e1, w1, lP, p0, p1⟩ := pd_pull hd
  refine ⟨⟨_, v1⟩, ⟨_, v2⟩, orb_facts hd h1 h2 h3 h4, ⟨pl, P, e1, w1⟩, ?_, turns_facts hm⟩
  have lc : Le ((c : Rat) / 2) 2 := by
    have a1 := cast_le hd.c0
    have a2 := cast_le hd.c1
    have e1 : ((-4 : Int) : Rat) = -4 := rfl
    have e2 : ((4 : Int) : Rat) = 4 := rfl
    rw [e1] at a1
    rw [e2] at a2
    constructor <;> grind
  by_cases h0 : n1 = 0 ∨ c = 0
  · right
    have hP : P * ((n1 : Rat) / 8) = 0 := by
      rcases h0 with rfl | rfl
      · have z8 : ((0 : Int) : Rat) / 8 = 0 := by decide +kernel
        rw [z8, Rat.mul_zero]
      · rw [p0 rfl, Rat.zero_mul]
    have hS : (n1 : Rat) / 8 * ((c : Rat) / 2) = 0 := by
      rcases h0 with rfl | rfl
      · have z8 : ((0 : Int) : Rat) / 8 = 0 := by decide +kernel
        rw [z8, Rat.zero_mul]
      · have z2 : ((0 : Int) : Rat) / 2 = 0 := by decide +kernel
        rw [z2, Rat.mul_zero]
    obtain ⟨wc, e2, w2⟩ := mul_zero32 w1 v1 hP
    obtain ⟨sp, e3, w3⟩ := mul_zero32 v1 hc hS
    obtain ⟨wh, l, r1, i1, u, v, p, f1, f2, f3, f4, f5, f6, f7, f8⟩ := none_facts (B := 1) (P := 0) hs ht ls lt ⟨by decide +kernel, by decide +kernel⟩ e1 e2 w2
    refine ⟨pl, wh, l, sp, wc, r1, i1, u, v, p, e1, f1, f2, f3, e3, ?_, e2, f4, f5, f6, f7, f8⟩
    rw [order32 w3, if_neg Rat.lt_irrefl, if_pos rfl]
  · left
    have hn : n1 ≠ 0 := fun h => h0 (Or.inl h)
    have hc0 : c ≠ 0 := fun h => h0 (Or.inr h)
    obtain ⟨g1, g2⟩ := eighth_abs hn h1 h2
    obtain ⟨c1, c2⟩ := half_abs hc0 hd.c0 hd.c1
    have hp := p1 hc0
    have k1 := mulLe lP lg
    obtain ⟨wc, W, e2, w2, b2, _⟩ := mul32 (M := 9) w1 v1 ⟨by grind, by grind⟩ ⟨by decide +kernel, by decide +kernel⟩
    have k2 := mulLe lg lc
    obtain ⟨sp, S, e3, w3, b3, _⟩ := mul32 (M := 2) v1 hc ⟨by grind, by grind⟩ ⟨by decide +kernel, by decide +kernel⟩
    have a1 := abs_mul' P ((n1 : Rat) / 8)
    have a2 := abs_mul' ((n1 : Rat) / 8) ((c : Rat) / 2)
    have hW0 : 249 / 8000 ≤ (P * ((n1 : Rat) / 8)).abs := by
      rw [a1]
      have := Rat.mul_le_mul_of_nonneg_left g1 (show 0 ≤ P.abs from Rat.abs_nonneg)
      grind
    have hS0 : 1 / 16 ≤ ((n1 : Rat) / 8 * ((c : Rat) / 2)).abs := by
      rw [a2]
      have := Rat.mul_le_mul_of_nonneg_left c1 (show 0 ≤ ((n1 : Rat) / 8).abs from Rat.abs_nonneg)
      grind
    have hW : 3 / 100 ≤ W.abs ∧ W.abs ≤ 9 := by
      have z1 := abs_le_self W
      have z2 : W.abs ≤ 9 := abs_of_le ⟨by grind, by grind⟩
      refine ⟨?_, z2⟩
      rcases Rat.le_total (a := 0) (b := P * ((n1 : Rat) / 8)) with h | h
      · rw [Rat.abs_of_nonneg h] at hW0
        grind
      · rw [Rat.abs_of_nonpos h] at hW0
        grind
    have hSne : S ≠ 0 := by
      intro h
      subst h
      rcases Rat.le_total (a := 0) (b := (n1 : Rat) / 8 * ((c : Rat) / 2)) with h | h
      · rw [Rat.abs_of_nonneg h] at hS0
        grind
      · rw [Rat.abs_of_nonpos h] at hS0
        grind
    have hord : FloatKind.f32.format.order sp 0 = some .lt ∨ FloatKind.f32.format.order sp 0 = some .gt := by
      rw [order32 w3, if_neg hSne]
      by_cases h : S < 0
      · left; rw [if_pos h]
      · right; rw [if_neg h]
    have hgood : ∃ wh l r z r1 i1 r2 i2 r3 i3 z1 z2 a' r' g b', whirlB (d2 c) (d4 m) (d8 n1) = some wh ∧ longC (d8 s) (d8 t) = some l ∧ fb .quo .f32 l wh = some r ∧ V32 r z ∧
        mulC 0 1065353216 (d8 s) (d8 t) = some (r1, i1) ∧ quoC r1 i1 wc 0 = some (r2, i2) ∧ lessC (d8 x) (d8 y) r2 i2 = some (r3, i3) ∧ V32 r3 z1 ∧ V32 i3 z2 ∧
        apartB (d8 x) (d8 y) r3 i3 = some a' ∧ cv64 r = some r' ∧ gapB a' r' = some g ∧ radB r' = some b' ∧ NotGt g b' := by
      by_cases hz : s = 0 ∧ t = 0
      · obtain ⟨rfl, rfl⟩ := hz
        have z8 : ((0 : Int) : Rat) / 8 = 0 := by decide +kernel
        rw [z8] at hs ht
        exact round_facts (B := 1 / 10 ^ 8) px py hs ht lx ly ⟨by decide +kernel, by decide +kernel⟩ ⟨by decide +kernel, by decide +kernel⟩ (by decide +kernel) (by decide +kernel) (Or.inr Rat.le_refl) e1 e2 w2 rfl hW.1 hW.2
      · obtain ⟨B, B0, B1, l1, l2, l3⟩ := speed_B hd hz
        exact round_facts (B := B) px py hs ht lx ly l1 l2 (by grind) B1 (Or.inl ⟨B0, l3⟩) e1 e2 w2 rfl hW.1 hW.2
    obtain ⟨wh, l, r, z, r1, i1, r2, i2, r3, i3, z1, z2, a', r', g, b', f1, f2, f3, f4, f5, f6, f7, f8, f9, f10, f11, f12, f13, f14⟩ := hgood
    exact ⟨pl, wh, l, r, z, sp, wc, r1, i1, r2, i2, r3, i3, z1, z2, a', r', g, b', e1, f1, f2, f3, f4, e3, hord, e2, f5, f6, f7, f8, f9, f10, f11, f12, f13, f14⟩

theorem orbits_walk {a b : Option Addr} {n m c d : Nat} {w : World} (ha : Bytes w a n) (ha' : ∀ x off i, a = some ⟨x, off, i⟩ → 0 < n → i = none ∧ x < w.heap.size) (hs : n = 0 ∨ a.isSome = true)
    (hb : Bytes w b m) (hb' : ∀ x off i, b = some ⟨x, off, i⟩ → 0 < m → i = none ∧ x < w.heap.size) (hs' : m = 0 ∨ b.isSome = true) :
    Calls Try.prog 4 #[.slice a n c, .slice b m d] w fun e w' => e = .returned (.bool true) ∧ Go.RowKit.Below w.heap.size w w' := by
  by_cases h : n ≤ 48 ∧ m ≤ 48
  · exact orbits_go h.1 h.2 ha ha' hs hb hb' hs' (fun _ _ _ _ _ _ hd => pd_pw hd) (fun _ _ _ _ _ _ hd n1 n2 => orb_every hd n1 n2)
  · exact orbits_long (by omega)

end Go.Proofs.Ytgblehdamgliaaa
