/-
  The walk of phasors.
-/
import Derived.Test.YtgblehdamgliaaaW14
set_option linter.unusedVariables false
set_option linter.unusedSimpArgs false
namespace Go.Proofs.Ytgblehdamgliaaa
open Go.RowKit FT

/-- A fraction, less some quarters. -/
def quart (f : Nat) : Nat → Option Nat
  | 0 => some f
  | k + 1 => do
    let x ← quart f k
    fb .sub .f64 x 4598175219545276416
def spun (q c s : Nat) : Option (Nat × Nat) :=
  match q with
  | 0 => some (c, s)
  | 1 => (fb .sub .f64 0 s).map fun x => (x, c)
  | 2 => (fb .sub .f64 0 c).bind fun x => (fb .sub .f64 0 s).map fun y => (x, y)
  | _ => (fb .sub .f64 0 c).map fun y => (s, y)

structure Spin (t re im : Nat) (v : Rat) (f q g c s c' s' a : Nat) : Prop where
  ht : V64 t v
  far : ge64 (abs64 t) 4841369599423283200 = false
  hf : fractionB t = some f
  more : ∀ k, k < q → ∃ x y, quart f k = some x ∧ quart f (k + 1) = some y ∧ fb .sub .f64 x 4598175219545276416 = some y ∧ ge64 x 4598175219545276416 = true
  hg : quart f q = some g
  last : ge64 g 4598175219545276416 = false
  q3 : q ≤ 3
  ha : fb .sub .f64 4598175219545276416 g = some a
  hc : sineB a = some c
  hs : sineB g = some s
  hspun : spun q c s = some (c', s')
  hre : cv32 c' = some re
  him : cv32 s' = some im

set_option maxRecDepth 100000 in
set_option maxHeartbeats 2000000 in
theorem Phasor_walk {t re im : Nat} {v : Rat} {f q g c s c' s' a : Nat} (h : Spin t re im v f q g c s c' s' a) (ht : t < 18446744073709551616) (w : World) :
    Calls Try.prog 54 #[.float .f64 t] w fun e w' => e = .returned (.complex .f32 re im) ∧ w = w' := by
  have p1 := fun w => isFinite_walk h.ht w
  have p2 := fun w => Abs_walk ht w
  have p3 := fun w => fraction_walk h.hf w
  have p4 := fun w => sine_walk h.hc w
  have p5 := fun w => sine_walk h.hs w
  have o1 := wq64 h.ha
  have o2 := w32 h.hre
  have o3 := w32 h.him
  have hfar : (FloatKind.f64.format.order (abs64 t) 4841369599423283200 == some .gt || FloatKind.f64.format.order (abs64 t) 4841369599423283200 == some .eq) = false := h.far
  have H := Lib.hid h
  clear h ht
  go_enter Try.func54, Try.ntmps54
  go_wp2_with fail
  refine (p1 _).mono ?_; rintro e w' ⟨rfl, rfl⟩
  go_wp2_with fail
  refine (p2 _).mono ?_; rintro e w' ⟨rfl, rfl⟩
  go_wp2_with fail
  refine (p3 _).mono ?_; rintro e w' ⟨rfl, rfl⟩
  go_wp2_with fail
  go_loop [4, 5] (fun v i => ∃ k : Nat, k ≤ q ∧ i = .int .i64 k ∧ ∃ x, v = .float .f64 x ∧ quart f k = some x) (fun _ i => q - (intOf i).toNat)
  case atStart => exact ⟨0, by omega, rfl, _, rfl, rfl⟩
  case round =>
    obtain ⟨k, hk, rfl, x, rfl, hx⟩ := hrel
    have hq3 := H.out.q3
    rcases Nat.lt_or_ge k q with hlt | hge
    · obtain ⟨x', y, hx', hy, hxy, hge'⟩ := H.out.more k hlt
      have hxx : x = x' := by rw [hx] at hx'; exact Option.some.inj hx'
      subst hxx
      have o5 := wq64 hxy
      have o6 : (FloatKind.f64.format.order x 4598175219545276416 == some .gt || FloatKind.f64.format.order x 4598175219545276416 == some .eq) = true := hge'
      clear hxy hge' hx'
      go_wp2
      go_round
      case rel => exact ⟨k + 1, by omega, by simp, _, rfl, hy⟩
      case measure => simp [intOf]; omega
    · have hkq : k = q := by omega
      subst hkq
      have hxx : x = g := by have := H.out.hg; rw [hx] at this; exact Option.some.inj this
      subst hxx
      have o6 : (FloatKind.f64.format.order x 4598175219545276416 == some .gt || FloatKind.f64.format.order x 4598175219545276416 == some .eq) = false := H.out.last
      have hsp := H.out.hspun
      have hks : k = 0 ∨ k = 1 ∨ k = 2 ∨ k = 3 := by omega
      clear hx H
      rcases hks with rfl | rfl | rfl | rfl
      all_goals
        simp only [spun, Option.some.injEq, Prod.mk.injEq, Option.map_eq_some_iff, Option.bind_eq_some_iff] at hsp
      · obtain ⟨rfl, rfl⟩ := hsp
        go_wp2_with fail
        refine (p4 _).mono ?_; rintro e w' ⟨rfl, rfl⟩
        go_wp2_with fail
        refine (p5 _).mono ?_; rintro e w' ⟨rfl, rfl⟩
        go_wp2
        go_ret
        exact ⟨rfl, rfl⟩
      · obtain ⟨x1, z1, rfl, rfl⟩ := hsp
        have y1 := wq64 z1
        go_wp2_with fail
        refine (p4 _).mono ?_; rintro e w' ⟨rfl, rfl⟩
        go_wp2_with fail
        refine (p5 _).mono ?_; rintro e w' ⟨rfl, rfl⟩
        go_wp2
        go_ret
        exact ⟨rfl, rfl⟩
      · obtain ⟨x1, z1, x2, z2, rfl, rfl⟩ := hsp
        have y1 := wq64 z1
        have y2 := wq64 z2
        go_wp2_with fail
        refine (p4 _).mono ?_; rintro e w' ⟨rfl, rfl⟩
        go_wp2_with fail
        refine (p5 _).mono ?_; rintro e w' ⟨rfl, rfl⟩
        go_wp2
        go_ret
        exact ⟨rfl, rfl⟩
      · obtain ⟨x1, z1, rfl, rfl⟩ := hsp
        have y1 := wq64 z1
        go_wp2_with fail
        refine (p4 _).mono ?_; rintro e w' ⟨rfl, rfl⟩
        go_wp2_with fail
        refine (p5 _).mono ?_; rintro e w' ⟨rfl, rfl⟩
        go_wp2
        go_ret
        exact ⟨rfl, rfl⟩

end Go.Proofs.Ytgblehdamgliaaa
