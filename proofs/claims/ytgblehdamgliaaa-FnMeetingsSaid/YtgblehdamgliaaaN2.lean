/-
  The pushers' words as numbers with errors.
-/
import Derived.Test.YtgblehdamgliaaaN1
set_option linter.unusedVariables false
set_option linter.unusedSimpArgs false
namespace Go.Proofs.Ytgblehdamgliaaa
open FT

theorem abs_le_self (x : Rat) : Le x x.abs := le_of_abs Rat.le_refl

/-- What charge, mass, magnet and tick come to. -/
structure Motion (ch ms mg tk : Nat) (g : Rat) : Prop where
  out : ∃ pl P h H mu m tw t, pullB ch ms = some pl ∧ V32 pl P ∧ Le P (8 + 1 / 1000) ∧ fb .quo .f32 tk 1073741824 = some h ∧ V32 h H ∧ Le H (1 / 2 + 1 / 1000) ∧
    fb .mul .f32 pl h = some mu ∧ V32 mu m ∧ Le m 5 ∧ turnT ch ms mg tk = some tw ∧ V32 tw t ∧ Le t 5 ∧ A t (m * g) (1 / 200000) ∧ turnT ch ms (neg32 mg) tk = some (neg32 tw)

theorem two_val : V32 1073741824 2 := V32_of (by decide +kernel)

theorem motion {ch ms mg tk : Nat} {a b g s : Rat} (h1 : V32 ch a) (h2 : V32 ms b) (hb : b ≠ 0) (hab : Le (a / b) 8) (h3 : V32 mg g) (hg : Le g 1) (h4 : V32 tk s) (hs : Le s 1) : Motion ch ms mg tk g := by
  obtain ⟨pl, P, e1, w1, b1⟩ := quo32 (M := 8) h1 h2 hb hab ⟨by decide +kernel, by decide +kernel⟩
  have lP : Le P (8 + 1 / 1000) := ⟨by grind, by grind⟩
  have hs2 : Le (s / 2) (1 / 2) := ⟨by grind, by grind⟩
  obtain ⟨h, H, e2, w2, b2⟩ := quo32 (M := 1 / 2) h4 two_val (by decide +kernel) hs2 ⟨by decide +kernel, by decide +kernel⟩
  have lH : Le H (1 / 2 + 1 / 1000) := ⟨by grind, by grind⟩
  have l1 := mulLe lP lH
  obtain ⟨mu, m, e3, w3, b3, _⟩ := mul32 (M := 9 / 2) w1 w2 ⟨by grind, by grind⟩ ⟨by decide +kernel, by decide +kernel⟩
  have l2 := mulLe lP hg
  obtain ⟨x, X, e4, w4, b4, _⟩ := mul32 (M := 9) w1 h3 ⟨by grind, by grind⟩ ⟨by decide +kernel, by decide +kernel⟩
  have lX : Le X (8 + 1 / 100) := ⟨by grind, by grind⟩
  have l3 := mulLe lX lH
  obtain ⟨tw, t, e5, w5, b5, _⟩ := mul32 (M := 9 / 2) w4 w2 ⟨by grind, by grind⟩ ⟨by decide +kernel, by decide +kernel⟩
  have k1 := mulLe b4 lH
  have k2 := mulLe b3 hg
  have n1 := (mul32_neg w1 h3 e4).2
  have n2 := (mul32_neg w4 w2 e5).1
  have e1' : fb .quo .f32 ch ms = some pl := e1
  refine ⟨pl, P, h, H, mu, m, tw, t, e1, w1, lP, e2, w2, lH, e3, w3, ⟨by grind, by grind⟩, ?_, w5, ⟨by grind, by grind⟩, ⟨by grind, by grind⟩, ?_⟩
  · unfold turnT pullB
    simp only [e1', e2, e4, e5, Option.bind_eq_bind, Option.bind_some]
  · unfold turnT pullB
    simp only [e1', e2, n1, n2, Option.bind_eq_bind, Option.bind_some]

/-- The push, out of the kick and the turn. -/
theorem push_num {sx sy ch ms fr fi mg tk kr ki tr ti : Nat} {a b k1 k2 u v C S B K : Rat} (hk : kickB ch ms fr fi tk = some (kr, ki)) (h1 : V32 kr k1) (h2 : V32 ki k2) (hk1 : Le k1 K) (hk2 : Le k2 K)
    (ht : turnB ch ms mg tk = some (tr, ti)) (h3 : V32 tr u) (h4 : V32 ti v) (hu : A u C (3 / 10000000)) (hv : A v S (3 / 10000000)) (hC : Le C 1) (hS : Le S 1)
    (h5 : V32 sx a) (h6 : V32 sy b) (ha : Le a B) (hb : Le b B) (hK0 : 0 ≤ K) (hB0 : 0 ≤ B) (hl : 1 / 10 ^ 11 ≤ B + K) (hh : B + K ≤ 10 ^ 6) :
    ∃ re im p q, pushB sx sy ch ms fr fi mg tk = some (re, im) ∧ V32 re p ∧ V32 im q ∧ A p ((a + k1) * C - (b + k2) * S + k1) ((B + K) / 250000) ∧ A q ((a + k1) * S + (b + k2) * C + k2) ((B + K) / 250000) := by
  obtain ⟨G, hG⟩ : ∃ G, G = B + K := ⟨_, rfl⟩
  rw [← hG] at hl hh ⊢
  have lG1 : Le (a + k1) G := ⟨by grind, by grind⟩
  have lG2 : Le (b + k2) G := ⟨by grind, by grind⟩
  have fG : Fine G := ⟨by grind, by grind⟩
  obtain ⟨s1, p1, e1, w1, b1, _⟩ := add32 h5 h1 lG1 fG
  obtain ⟨s2, p2, e2, w2, b2, _⟩ := add32 h6 h2 lG2 fG
  obtain ⟨m1, m2, q1, q2, e3, w3, w4, b3, b4⟩ := mulC_num (M := (1 + 1 / 1000) * G) (N := 1 + 1 / 1000) w1 w2 h3 h4 ⟨by grind, by grind⟩ ⟨by grind, by grind⟩ ⟨by grind, by grind⟩ ⟨by grind, by grind⟩ ⟨by grind, by grind⟩ ⟨by decide +kernel, by decide +kernel⟩
  have c1 := mulA b1 hu lG1 hC
  have c2 := mulA b2 hv lG2 hS
  have c3 := mulA b1 hv lG1 hS
  have c4 := mulA b2 hu lG2 hC
  have l1 := mulLe lG1 hC
  have l2 := mulLe lG2 hS
  have l3 := mulLe lG1 hS
  have l4 := mulLe lG2 hC
  obtain ⟨r1, z1, e5, w5, b5, _⟩ := add32 (M := 4 * G) w3 h1 ⟨by grind, by grind⟩ ⟨by grind, by grind⟩
  obtain ⟨r2, z2, e6, w6, b6, _⟩ := add32 (M := 4 * G) w4 h2 ⟨by grind, by grind⟩ ⟨by grind, by grind⟩
  refine ⟨r1, r2, z1, z2, ?_, w5, w6, ⟨by grind, by grind⟩, ⟨by grind, by grind⟩⟩
  unfold pushB plusC
  simp only [hk, ht, e1, e2, e3, e5, e6, Option.bind_eq_bind, Option.bind_some, Option.pure_def]

end Go.Proofs.Ytgblehdamgliaaa
