/-
  The walks of the tests (finite numbers, valid particles) at finite words: each returns true.
-/
import Derived.Test.YtgblehdamgliaaaW1
set_option linter.unusedVariables false
set_option linter.unusedSimpArgs false
namespace Go.Proofs.Ytgblehdamgliaaa
open Go.RowKit FT

theorem zero64 : V64 0 0 := ⟨false, 0, _, rfl, (dval_zero _ _).symm⟩
theorem zero32 : V32 0 0 := ⟨false, 0, _, rfl, (dval_zero _ _).symm⟩

theorem self_sub {x : Nat} {v : Rat} (h : V64 x v) : ∃ z, fb .sub .f64 x x = some z ∧ FloatKind.f64.format.order z 0 = some .eq := by
  obtain ⟨z, h1, h2⟩ := sub_rnd h h
  have e : v - v = 0 := Rat.sub_self
  rw [e] at h2
  have hz : V64 z 0 := h2.exact ok_double (by rw [Rat.abs_zero]; exact pw_pos _) 0 0 (by decide) (by decide) (by rw [Rat.intCast_zero, Rat.zero_mul])
  refine ⟨z, h1, ?_⟩
  have := order_eq hz zero64
  rw [if_neg Rat.lt_irrefl, if_pos rfl] at this
  exact this

theorem isFinite_walk {x : Nat} {v : Rat} (h : V64 x v) (w : World) :
    Calls Try.prog 62 #[.float .f64 x] w fun e w' => e = .returned (.bool true) ∧ w = w' := by
  obtain ⟨z, h1, h2⟩ := self_sub h
  have o1 := wb h1
  clear h1 h
  go_enter Try.func62, Try.ntmps62
  go_wp2
  go_ret
  exact ⟨rfl, rfl⟩

theorem IsFinite_walk {x : Nat} {v : Rat} (h : V32 x v) (w : World) :
    Calls Try.prog 43 #[.float .f32 x] w fun e w' => e = .returned (.bool true) ∧ w = w' := by
  obtain ⟨z, h1, h2⟩ := widen h
  have o1 := w64 h1
  have p1 := fun w => isFinite_walk h2 w
  clear h1 h2 h
  go_enter Try.func43, Try.ntmps43
  go_wp2_with fail
  refine (p1 _).mono ?_; rintro e w' ⟨rfl, rfl⟩
  go_wp2
  go_ret
  exact ⟨rfl, rfl⟩

theorem IsFiniteComplex_walk {x y : Nat} {u v : Rat} (h : V32 x u) (h' : V32 y v) (w : World) :
    Calls Try.prog 38 #[.complex .f32 x y] w fun e w' => e = .returned (.bool true) ∧ w = w' := by
  have p1 := fun w => IsFinite_walk h w
  have p2 := fun w => IsFinite_walk h' w
  clear h h'
  go_enter Try.func38, Try.ntmps38
  go_wp2_with fail
  refine (p1 _).mono ?_; rintro e w' ⟨rfl, rfl⟩
  go_wp2_with fail
  refine (p2 _).mono ?_; rintro e w' ⟨rfl, rfl⟩
  go_wp2
  go_ret
  exact ⟨rfl, rfl⟩

theorem finite_walk {x : Nat} {v : Rat} (h : V32 x v) (w : World) :
    Calls Try.prog 45 #[.float .f32 x, .bool true] w fun e w' => e = .returned (.tuple #[.float .f32 x, .bool true]) ∧ w = w' := by
  have p1 := fun w => IsFinite_walk h w
  clear h
  go_enter Try.func45, Try.ntmps45
  go_wp2_with fail
  refine (p1 _).mono ?_; rintro e w' ⟨rfl, rfl⟩
  go_wp2
  go_ret2
  exact ⟨rfl, rfl⟩

theorem finiteComplex_walk {x y : Nat} {u v : Rat} (h : V32 x u) (h' : V32 y v) (w : World) :
    Calls Try.prog 33 #[.complex .f32 x y, .bool true] w fun e w' => e = .returned (.tuple #[.complex .f32 x y, .bool true]) ∧ w = w' := by
  have p1 := fun w => IsFiniteComplex_walk h h' w
  clear h h'
  go_enter Try.func33, Try.ntmps33
  go_wp2_with fail
  refine (p1 _).mono ?_; rintro e w' ⟨rfl, rfl⟩
  go_wp2
  go_ret2
  exact ⟨rfl, rfl⟩

/-- Two finite numbers in a slice. -/
theorem areFinite_walk {x y : Nat} {u v : Rat} (h : V32 x u) (h' : V32 y v) (w : World) (b : Nat) (hx : w.cell? ⟨b, 0, none⟩ = some (.float .f32 x)) (hy : w.cell? ⟨b, 1, none⟩ = some (.float .f32 y)) :
    Calls Try.prog 36 #[.slice (some ⟨b, 0, none⟩) 2 2] w fun e w' => e = .returned (.bool true) ∧ w = w' := by
  have p1 := fun w => IsFinite_walk h w
  have p2 := fun w => IsFinite_walk h' w
  clear h h'
  go_enter Try.func36, Try.ntmps36
  go_wp2
  go_loop [7] (fun i => i = .int .i64 0 ∨ i = .int .i64 1 ∨ i = .int .i64 2) (fun i => 2 - (intOf i).toNat)
  case atStart => exact Or.inl rfl
  case round =>
    rcases hrel with rfl | rfl | rfl
    · go_wp2_with fail
      refine (p1 _).mono ?_; rintro e w' ⟨rfl, rfl⟩
      go_wp2
      go_round
      case rel => exact Or.inr (Or.inl rfl)
      case measure => simp [intOf]
    · go_wp2_with fail
      refine (p2 _).mono ?_; rintro e w' ⟨rfl, rfl⟩
      go_wp2
      go_round
      case rel => exact Or.inr (Or.inr rfl)
      case measure => simp [intOf]
    · go_wp2
      go_ret
      exact ⟨rfl, rfl⟩

end Go.Proofs.Ytgblehdamgliaaa
