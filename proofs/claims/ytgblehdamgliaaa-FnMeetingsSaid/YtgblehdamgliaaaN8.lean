/-
  The phasors of eighths of turns.
-/
import Derived.Test.YtgblehdamgliaaaW15
import Derived.Test.YtgblehdamgliaaaN3
set_option linter.unusedVariables false
set_option linter.unusedSimpArgs false
namespace Go.Proofs.Ytgblehdamgliaaa
open FT

def moreOk (f q : Nat) : Bool := (List.range q).all fun k => match quart f k with
  | some x => (match fb .sub .f64 x 4598175219545276416 with | some y => ge64 x 4598175219545276416 | none => false)
  | none => false

def spinC (t q : Nat) : Option (Nat × Nat) := do
  let f ← fractionB t
  let g ← quart f q
  let a ← fb .sub .f64 4598175219545276416 g
  let c ← sineB a
  let s ← sineB g
  let p ← spun q c s
  let re ← cv32 p.1
  let im ← cv32 p.2
  if (val64 t).isSome && !ge64 (abs64 t) 4841369599423283200 && moreOk f q && !ge64 g 4598175219545276416 && decide (q ≤ 3) && decide (t < 18446744073709551616) then some (re, im) else none

theorem spin_of {t q re im : Nat} (h : spinC t q = some (re, im)) : t < 18446744073709551616 ∧ ∃ v f g c s c' s' a, Spin t re im v f q g c s c' s' a := by
  simp only [spinC, Option.bind_eq_bind, Option.bind_eq_some_iff] at h
  obtain ⟨f, h1, g, h2, a, h3, c, h4, s, h5, ⟨c', s'⟩, h6, re', h7, im', h8, h9⟩ := h
  split at h9
  · rename_i hc
    simp only [Option.some.injEq, Prod.mk.injEq] at h9
    obtain ⟨rfl, rfl⟩ := h9
    simp only [Bool.and_eq_true, Bool.not_eq_true', decide_eq_true_eq] at hc
    obtain ⟨⟨⟨⟨⟨k1, k2⟩, k3⟩, k4⟩, k5⟩, k6⟩ := hc
    refine ⟨k6, _, f, g, c, s, c', s', a, ⟨V64_some k1, k2, h1, ?_, h2, k4, k5, h3, h4, h5, h6, h7, h8⟩⟩
    intro k hk
    have hm := List.all_eq_true.1 k3 k (List.mem_range.2 hk)
    cases hx : quart f k with
    | none => rw [hx] at hm; cases hm
    | some x =>
      rw [hx] at hm
      simp only at hm
      cases hy : fb .sub .f64 x 4598175219545276416 with
      | none => rw [hy] at hm; cases hm
      | some y =>
        rw [hy] at hm
        refine ⟨x, y, rfl, ?_, hy, hm⟩
        simp only [quart, hx, Option.bind_eq_bind, Option.bind_some]
        exact hy
  · cases h9

def quarterOf (n : Nat) : Nat := (n % 8) / 2
def spinGood (n : Nat) : Bool :=
  match cv64 (d8 ((n : Int) - 8)) with
  | none => false
  | some t => match spinC t (quarterOf n) with
    | none => false
    | some (re, im) => match val32 re, val32 im with
      | some x, some y => decide (x ≤ 2 ∧ -2 ≤ x ∧ y ≤ 2 ∧ -2 ≤ y ∧ x * x + y * y - 1 ≤ 1 / 1000000 ∧ -(1 / 1000000) ≤ x * x + y * y - 1) && (n != 12 || decide (x + 1 ≤ 1 / 1000000 ∧ -(1 / 1000000) ≤ x + 1 ∧ y ≤ 1 / 1000000 ∧ -(1 / 1000000) ≤ y))
      | _, _ => false

theorem spin_tab : (List.range 17).all spinGood = true := by decide +kernel

/-- The phasor of n eighths. -/
structure Phas (tw re im : Nat) (x y : Rat) : Prop where
  walk : ∃ t, cv64 tw = some t ∧ ∀ w, Calls Try.prog 54 #[.float .f64 t] w fun e w' => e = .returned (.complex .f32 re im) ∧ w = w'
  vx : V32 re x
  vy : V32 im y
  lx : Le x 2
  ly : Le y 2
  one : A (x * x + y * y) 1 (1 / 1000000)

theorem phas_num (n : Int) (h0 : -8 ≤ n) (h1 : n ≤ 8) : ∃ re im x y, Phas (d8 n) re im x y ∧ (n = 4 → A x (-1) (1 / 1000000) ∧ A y 0 (1 / 1000000)) := by
  obtain ⟨m, rfl⟩ : ∃ m : Nat, n = (m : Int) - 8 := ⟨(n + 8).toNat, by omega⟩
  have hm := List.all_eq_true.1 spin_tab m (List.mem_range.2 (by omega))
  unfold spinGood at hm
  split at hm
  · cases hm
  · rename_i t ht
    split at hm
    · cases hm
    · rename_i re im hs
      split at hm
      · rename_i x y hx hy
        simp only [Bool.and_eq_true, decide_eq_true_eq, Bool.or_eq_true, bne_iff_ne, ne_eq] at hm
        obtain ⟨⟨a1, a2, a3, a4, a5, a6⟩, h7⟩ := hm
        obtain ⟨k1, v, f, g, c, s, c', s', a, k2⟩ := spin_of hs
        refine ⟨re, im, x, y, ⟨⟨t, ht, fun w => Phasor_walk k2 k1 w⟩, V32_of hx, V32_of hy, ⟨a2, a1⟩, ⟨a4, a3⟩, ⟨a6, a5⟩⟩, fun h4 => ?_⟩
        have hm12 : m = 12 := by omega
        rcases h7 with h7 | ⟨b1, b2, b3, b4⟩
        · exact absurd hm12 h7
        · exact ⟨⟨by grind, by grind⟩, ⟨by grind, by grind⟩⟩
      · cases hm

end Go.Proofs.Ytgblehdamgliaaa
