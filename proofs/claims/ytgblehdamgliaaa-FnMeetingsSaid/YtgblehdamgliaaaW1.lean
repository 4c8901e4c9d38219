/-
  The walks of the small functions on complex numbers: each call returns what the plain functions of the words here say.
-/
import Derived.Test.YtgblehdamgliaaaRows
import Derived.Test.YtgblehdamgliaaaCx
set_option linter.unusedVariables false
set_option linter.unusedSimpArgs false
namespace Go.Proofs.Ytgblehdamgliaaa
open Go.RowKit FT

theorem u25 : (Try.prog.underlying 25).isSome = true := by rw [Try.underlying25]; rfl
theorem u34 : (Try.prog.underlying 34).isSome = true := by rw [Try.underlying34]; rfl
theorem w64 {x r : Nat} (h : cv64 x = some r) : ∀ w, (convert 25 34 (.float .f32 x)).run Try.prog w = .ok (.float .f64 r) w := rc64 h u25 Try.underlying34
theorem w32 {x r : Nat} (h : cv32 x = some r) : ∀ w, (convert 34 25 (.float .f64 x)).run Try.prog w = .ok (.float .f32 r) w := rc32 h u34 Try.underlying25
theorem wb {op : BinOp} {k : FloatKind} {x y r : Nat} (h : fb op k x y = some r) : ∀ t w, (binOp op t (.float k x) (.float k y)).run Try.prog w = .ok (.float k r) w := rb h

theorem parts_walk {a b a' b' : Nat} (h1 : cv64 a = some a') (h2 : cv64 b = some b') (w : World) :
    Calls Try.prog 60 #[.complex .f32 a b] w fun e w' => e = .returned (.tuple #[.float .f64 a', .float .f64 b']) ∧ w = w' := by
  have o1 := w64 h1
  have o2 := w64 h2
  clear h1 h2
  go_enter Try.func60, Try.ntmps60
  go_wp2
  go_ret2
  exact ⟨rfl, rfl⟩

theorem product_walk {a b c d re im : Nat} (h : prod a b c d = some (re, im)) (w : World) :
    Calls Try.prog 41 #[.complex .f32 a b, .complex .f32 c d] w fun e w' => e = .returned (.tuple #[.float .f64 re, .float .f64 im]) ∧ w = w' := by
  simp only [prod, prodB, Option.bind_eq_bind, Option.bind_eq_some_iff, Option.pure_def, Option.some.injEq, Prod.mk.injEq] at h
  obtain ⟨a', h1, b', h2, c', h3, d', h4, ac, m1, bd, m2, re', m3, ad, m4, bc, m5, im', m6, rfl, rfl⟩ := h
  have p1 := fun w => parts_walk h1 h2 w
  have p2 := fun w => parts_walk h3 h4 w
  have o1 := wb m1
  have o2 := wb m2
  have o3 := wb m3
  have o4 := wb m4
  have o5 := wb m5
  have o6 := wb m6
  clear h1 h2 h3 h4 m1 m2 m3 m4 m5 m6
  go_enter Try.func41, Try.ntmps41
  go_wp2_with fail
  refine (p1 _).mono ?_; rintro e w' ⟨rfl, rfl⟩
  go_wp2_with fail
  refine (p2 _).mono ?_; rintro e w' ⟨rfl, rfl⟩
  go_wp2
  go_ret2
  exact ⟨rfl, rfl⟩

theorem power_walk {a b p : Nat} (h : powB a b = some p) (w : World) :
    Calls Try.prog 40 #[.complex .f32 a b] w fun e w' => e = .returned (.float .f64 p) ∧ w = w' := by
  simp only [powB, Option.bind_eq_bind, Option.bind_eq_some_iff] at h
  obtain ⟨a', h1, b', h2, aa, m1, bb, m2, m3⟩ := h
  have p1 := fun w => parts_walk h1 h2 w
  have o1 := wb m1
  have o2 := wb m2
  have o3 := wb m3
  clear h1 h2 m1 m2 m3
  go_enter Try.func40, Try.ntmps40
  go_wp2_with fail
  refine (p1 _).mono ?_; rintro e w' ⟨rfl, rfl⟩
  go_wp2
  go_ret
  exact ⟨rfl, rfl⟩

theorem conj_walk (a b : Nat) (w : World) :
    Calls Try.prog 61 #[.complex .f32 a b] w fun e w' => e = .returned (.complex .f32 a (neg32 b)) ∧ w = w' := by
  have ng := @run_neg_f32 Try.prog
  go_enter Try.func61, Try.ntmps61
  go_wp2
  go_ret
  exact ⟨rfl, rfl⟩

theorem mulC_walk {a b c d re im : Nat} (h : mulC a b c d = some (re, im)) (w : World) :
    Calls Try.prog 15 #[.complex .f32 a b, .complex .f32 c d] w fun e w' => e = .returned (.complex .f32 re im) ∧ w = w' := by
  simp only [mulC, Option.bind_eq_bind, Option.bind_eq_some_iff, Option.pure_def, Option.some.injEq, Prod.mk.injEq] at h
  obtain ⟨⟨x, y⟩, hp, re', h1, im', h2, rfl, rfl⟩ := h
  have p1 := fun w => product_walk hp w
  have o1 := w32 h1
  have o2 := w32 h2
  clear h1 h2 hp
  go_enter Try.func15, Try.ntmps15
  go_wp2_with fail
  refine (p1 _).mono ?_; rintro e w' ⟨rfl, rfl⟩
  go_wp2
  go_ret
  exact ⟨rfl, rfl⟩

theorem quoC_walk {a b c d re im : Nat} (h : quoC a b c d = some (re, im)) (w : World) :
    Calls Try.prog 42 #[.complex .f32 a b, .complex .f32 c d] w fun e w' => e = .returned (.complex .f32 re im) ∧ w = w' := by
  simp only [quoC, Option.bind_eq_bind, Option.bind_eq_some_iff, Option.pure_def, Option.some.injEq, Prod.mk.injEq] at h
  obtain ⟨⟨x, y⟩, hp, p, hq, x', m1, re', h1, y', m2, im', h2, rfl, rfl⟩ := h
  have p0 := fun w => conj_walk c d w
  have p1 := fun w => product_walk hp w
  have p2 := fun w => power_walk hq w
  have o1 := w32 h1
  have o2 := w32 h2
  have o3 := wb m1
  have o4 := wb m2
  clear h1 h2 hp hq m1 m2
  go_enter Try.func42, Try.ntmps42
  go_wp2_with fail
  refine (p0 _).mono ?_; rintro e w' ⟨rfl, rfl⟩
  go_wp2_with fail
  refine (p1 _).mono ?_; rintro e w' ⟨rfl, rfl⟩
  go_wp2_with fail
  refine (p2 _).mono ?_; rintro e w' ⟨rfl, rfl⟩
  go_wp2
  go_ret
  exact ⟨rfl, rfl⟩

theorem plusC_walk {a b c d re im : Nat} (h : plusC a b c d = some (re, im)) (w : World) :
    Calls Try.prog 48 #[.complex .f32 a b, .complex .f32 c d] w fun e w' => e = .returned (.complex .f32 re im) ∧ w = w' := by
  simp only [plusC, Option.bind_eq_bind, Option.bind_eq_some_iff, Option.pure_def, Option.some.injEq, Prod.mk.injEq] at h
  obtain ⟨re', m1, im', m2, rfl, rfl⟩ := h
  have o1 := wb m1
  have o2 := wb m2
  clear m1 m2
  go_enter Try.func48, Try.ntmps48
  go_wp2
  go_ret
  exact ⟨rfl, rfl⟩

theorem lessC_walk {a b c d re im : Nat} (h : lessC a b c d = some (re, im)) (w : World) :
    Calls Try.prog 51 #[.complex .f32 a b, .complex .f32 c d] w fun e w' => e = .returned (.complex .f32 re im) ∧ w = w' := by
  simp only [lessC, Option.bind_eq_bind, Option.bind_eq_some_iff, Option.pure_def, Option.some.injEq, Prod.mk.injEq] at h
  obtain ⟨re', m1, im', m2, rfl, rfl⟩ := h
  have o1 := wb m1
  have o2 := wb m2
  clear m1 m2
  go_enter Try.func51, Try.ntmps51
  go_wp2
  go_ret
  exact ⟨rfl, rfl⟩

theorem scaleC_walk {a b y re im : Nat} (h : scaleC a b y = some (re, im)) (w : World) :
    Calls Try.prog 49 #[.complex .f32 a b, .float .f32 y] w fun e w' => e = .returned (.complex .f32 re im) ∧ w = w' := by
  simp only [scaleC, Option.bind_eq_bind, Option.bind_eq_some_iff, Option.pure_def, Option.some.injEq, Prod.mk.injEq] at h
  obtain ⟨re', m1, im', m2, rfl, rfl⟩ := h
  have o1 := wb m1
  have o2 := wb m2
  clear m1 m2
  go_enter Try.func49, Try.ntmps49
  go_wp2
  go_ret
  exact ⟨rfl, rfl⟩

theorem sqrt_walk {x r : Nat} (h : sq64 x = some r) (w : World) :
    Calls Try.prog 39 #[.float .f64 x] w fun e w' => e = .returned (.float .f64 r) ∧ w = w' := by
  have hd : ∀ w, (callFunc 59 #[.float .f64 x]).run Try.prog w = .ok (.value (.float .f64 r)) w := fun w => by
    rw [run_callFunc_extern (fn := Try.f59) (e := Extern.MathSqrt.sqrt) Try.func59 (by kernel_rfl) (by kernel_rfl) (by kernel_rfl) (by kernel_rfl), run_sqrt h]
    rfl
  clear h
  go_enter Try.func39, Try.ntmps39
  go_wp2
  go_ret
  exact ⟨rfl, rfl⟩

theorem longC_walk {a b r : Nat} (h : longC a b = some r) (w : World) :
    Calls Try.prog 13 #[.complex .f32 a b] w fun e w' => e = .returned (.float .f32 r) ∧ w = w' := by
  simp only [longC, Option.bind_eq_bind, Option.bind_eq_some_iff] at h
  obtain ⟨p, hp, s, hs, h1⟩ := h
  have p1 := fun w => power_walk hp w
  have p2 := fun w => sqrt_walk hs w
  have o1 := w32 h1
  clear hp hs h1
  go_enter Try.func13, Try.ntmps13
  go_wp2_with fail
  refine (p1 _).mono ?_; rintro e w' ⟨rfl, rfl⟩
  go_wp2_with fail
  refine (p2 _).mono ?_; rintro e w' ⟨rfl, rfl⟩
  go_wp2
  go_ret
  exact ⟨rfl, rfl⟩

end Go.Proofs.Ytgblehdamgliaaa
