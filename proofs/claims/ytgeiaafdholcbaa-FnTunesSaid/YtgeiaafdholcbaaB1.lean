/-
  The walks of the small functions on complex numbers and of the tests on finite words.
-/
import Derived.Test.YtgeiaafdholcbaaRows
import Derived.Test.YtgeiaafdholcbaaCx
set_option linter.unusedVariables false
set_option linter.unusedSimpArgs false
namespace Go.Proofs.Ytgeiaafdholcbaa
open Go.RowKit FT

theorem uF32 : (Try.prog.underlying 28).isSome = true := by rw [Try.underlying28]; rfl
theorem uF64 : (Try.prog.underlying 33).isSome = true := by rw [Try.underlying33]; rfl
theorem w64 {x r : Nat} (h : cv64 x = some r) : ∀ w, (convert 28 33 (.float .f32 x)).run Try.prog w = .ok (.float .f64 r) w := rc64 h uF32 Try.underlying33
theorem w32 {x r : Nat} (h : cv32 x = some r) : ∀ w, (convert 33 28 (.float .f64 x)).run Try.prog w = .ok (.float .f32 r) w := rc32 h uF64 Try.underlying28
theorem wb {op : BinOp} {k : FloatKind} {x y r : Nat} (h : fb op k x y = some r) : ∀ t w, (binOp op t (.float k x) (.float k y)).run Try.prog w = .ok (.float k r) w := rb h

theorem parts_walk {a b a' b' : Nat} (h1 : cv64 a = some a') (h2 : cv64 b = some b') (w : World) :
    Calls Try.prog 117 #[.complex .f32 a b] w fun e w' => e = .returned (.tuple #[.float .f64 a', .float .f64 b']) ∧ w = w' := by
  have o1 := w64 h1
  have o2 := w64 h2
  clear h1 h2
  go_enter Try.func117, Try.ntmps117
  go_wp2
  go_ret2
  exact ⟨rfl, rfl⟩

theorem product_walk {a b c d re im : Nat} (h : prod a b c d = some (re, im)) (w : World) :
    Calls Try.prog 135 #[.complex .f32 a b, .complex .f32 c d] w fun e w' => e = .returned (.tuple #[.float .f64 re, .float .f64 im]) ∧ w = w' := by
  simp only [prod, prodB, Option.bind_eq_bind, Option.bind_eq_some_iff, Option.pure_def, Option.some.injEq, Prod.mk.injEq] at h
  obtain ⟨a', h1, b', h2, c', h3, d', h4, ac, m1, bd, m2, re', m3, ad, m4, bc, m5, im', m6, rfl, rfl⟩ := h
  have p1 := fun w => parts_walk h1 h2 w
  have p2 := fun w => parts_walk h3 h4 w
  have o1 := wb m1
  have o2 := wb m2
  have o3 := wb m3
  have o4 := wb m4
  have o5 := wb m5
  have o6 := wb m6
  clear h1 h2 h3 h4 m1 m2 m3 m4 m5 m6
  go_enter Try.func135, Try.ntmps135
  go_wp2_with fail
  refine (p1 _).mono ?_; rintro e w' ⟨rfl, rfl⟩
  go_wp2_with fail
  refine (p2 _).mono ?_; rintro e w' ⟨rfl, rfl⟩
  go_wp2
  go_ret2
  exact ⟨rfl, rfl⟩

theorem power_walk {a b p : Nat} (h : powB a b = some p) (w : World) :
    Calls Try.prog 88 #[.complex .f32 a b] w fun e w' => e = .returned (.float .f64 p) ∧ w = w' := by
  simp only [powB, Option.bind_eq_bind, Option.bind_eq_some_iff] at h
  obtain ⟨a', h1, b', h2, aa, m1, bb, m2, m3⟩ := h
  have p1 := fun w => parts_walk h1 h2 w
  have o1 := wb m1
  have o2 := wb m2
  have o3 := wb m3
  clear h1 h2 m1 m2 m3
  go_enter Try.func88, Try.ntmps88
  go_wp2_with fail
  refine (p1 _).mono ?_; rintro e w' ⟨rfl, rfl⟩
  go_wp2
  go_ret
  exact ⟨rfl, rfl⟩

theorem mulC_walk {a b c d re im : Nat} (h : mulC a b c d = some (re, im)) (w : World) :
    Calls Try.prog 132 #[.complex .f32 a b, .complex .f32 c d] w fun e w' => e = .returned (.complex .f32 re im) ∧ w = w' := by
  simp only [mulC, Option.bind_eq_bind, Option.bind_eq_some_iff, Option.pure_def, Option.some.injEq, Prod.mk.injEq] at h
  obtain ⟨⟨x, y⟩, hp, re', h1, im', h2, rfl, rfl⟩ := h
  have p1 := fun w => product_walk hp w
  have o1 := w32 h1
  have o2 := w32 h2
  clear h1 h2 hp
  go_enter Try.func132, Try.ntmps132
  go_wp2_with fail
  refine (p1 _).mono ?_; rintro e w' ⟨rfl, rfl⟩
  go_wp2
  go_ret
  exact ⟨rfl, rfl⟩

theorem plusC_walk {a b c d re im : Nat} (h : plusC a b c d = some (re, im)) (w : World) :
    Calls Try.prog 112 #[.complex .f32 a b, .complex .f32 c d] w fun e w' => e = .returned (.complex .f32 re im) ∧ w = w' := by
  simp only [plusC, Option.bind_eq_bind, Option.bind_eq_some_iff, Option.pure_def, Option.some.injEq, Prod.mk.injEq] at h
  obtain ⟨re', m1, im', m2, rfl, rfl⟩ := h
  have o1 := wb m1
  have o2 := wb m2
  clear m1 m2
  go_enter Try.func112, Try.ntmps112
  go_wp2
  go_ret
  exact ⟨rfl, rfl⟩

theorem scaleC_walk {a b y re im : Nat} (h : scaleC a b y = some (re, im)) (w : World) :
    Calls Try.prog 113 #[.complex .f32 a b, .float .f32 y] w fun e w' => e = .returned (.complex .f32 re im) ∧ w = w' := by
  simp only [scaleC, Option.bind_eq_bind, Option.bind_eq_some_iff, Option.pure_def, Option.some.injEq, Prod.mk.injEq] at h
  obtain ⟨re', m1, im', m2, rfl, rfl⟩ := h
  have o1 := wb m1
  have o2 := wb m2
  clear m1 m2
  go_enter Try.func113, Try.ntmps113
  go_wp2
  go_ret
  exact ⟨rfl, rfl⟩

theorem sqrt_walk {x r : Nat} (h : sq64 x = some r) (w : World) :
    Calls Try.prog 109 #[.float .f64 x] w fun e w' => e = .returned (.float .f64 r) ∧ w = w' := by
  have hd : ∀ w, (callFunc 128 #[.float .f64 x]).run Try.prog w = .ok (.value (.float .f64 r)) w := fun w => by
    rw [run_callFunc_extern (fn := Try.f128) (e := Extern.MathSqrt.sqrt) Try.func128 (by kernel_rfl) (by kernel_rfl) (by kernel_rfl) (by kernel_rfl), run_sqrt h]
    rfl
  clear h
  go_enter Try.func109, Try.ntmps109
  go_wp2
  go_ret
  exact ⟨rfl, rfl⟩

theorem zero64 : V64 0 0 := ⟨false, 0, _, rfl, (dval_zero _ _).symm⟩
theorem zero32 : V32 0 0 := ⟨false, 0, _, rfl, (dval_zero _ _).symm⟩

theorem self_sub {x : Nat} {v : Rat} (h : V64 x v) : ∃ z, fb .sub .f64 x x = some z ∧ FloatKind.f64.format.order z 0 = some .eq := by
  obtain ⟨z, h1, h2⟩ := sub_rnd h h
  have e : v - v = 0 := Rat.sub_self
  rw [e] at h2
  have hz : V64 z 0 := h2.exact ok_double (by rw [Rat.abs_zero]; exact pw_pos _) 0 0 (by decide) (by decide) (by rw [Rat.intCast_zero, Rat.zero_mul])
  refine ⟨z, h1, ?_⟩
  have := order_eq hz zero64
  rw [if_neg Rat.lt_irrefl, if_pos rfl] at this
  exact this

theorem isFinite_walk {x : Nat} {v : Rat} (h : V64 x v) (w : World) :
    Calls Try.prog 129 #[.float .f64 x] w fun e w' => e = .returned (.bool true) ∧ w = w' := by
  obtain ⟨z, h1, h2⟩ := self_sub h
  have o1 := wb h1
  clear h1 h
  go_enter Try.func129, Try.ntmps129
  go_wp2
  go_ret
  exact ⟨rfl, rfl⟩

theorem IsFinite_walk {x : Nat} {v : Rat} (h : V32 x v) (w : World) :
    Calls Try.prog 127 #[.float .f32 x] w fun e w' => e = .returned (.bool true) ∧ w = w' := by
  obtain ⟨z, h1, h2⟩ := widen h
  have o1 := w64 h1
  have p1 := fun w => isFinite_walk h2 w
  clear h1 h2 h
  go_enter Try.func127, Try.ntmps127
  go_wp2_with fail
  refine (p1 _).mono ?_; rintro e w' ⟨rfl, rfl⟩
  go_wp2
  go_ret
  exact ⟨rfl, rfl⟩

/-- Two finite numbers in a slice. -/
theorem areFinite_walk {x y : Nat} {u v : Rat} (h : V32 x u) (h' : V32 y v) (w : World) (b : Nat) (hx : w.cell? ⟨b, 0, none⟩ = some (.float .f32 x)) (hy : w.cell? ⟨b, 1, none⟩ = some (.float .f32 y)) :
    Calls Try.prog 107 #[.slice (some ⟨b, 0, none⟩) 2 2] w fun e w' => e = .returned (.bool true) ∧ w = w' := by
  have p1 := fun w => IsFinite_walk h w
  have p2 := fun w => IsFinite_walk h' w
  clear h h'
  go_enter Try.func107, Try.ntmps107
  go_wp2
  go_loop [7] (fun i => i = .int .i64 0 ∨ i = .int .i64 1 ∨ i = .int .i64 2) (fun i => 2 - (intOf i).toNat)
  case atStart => exact Or.inl rfl
  case round =>
    rcases hrel with rfl | rfl | rfl
    · go_wp2_with fail
      refine (p1 _).mono ?_; rintro e w' ⟨rfl, rfl⟩
      go_wp2
      go_round
      case rel => exact Or.inr (Or.inl rfl)
      case measure => simp [intOf]
    · go_wp2_with fail
      refine (p2 _).mono ?_; rintro e w' ⟨rfl, rfl⟩
      go_wp2
      go_round
      case rel => exact Or.inr (Or.inr rfl)
      case measure => simp [intOf]
    · go_wp2
      go_ret
      exact ⟨rfl, rfl⟩

end Go.Proofs.Ytgeiaafdholcbaa
