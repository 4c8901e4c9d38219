/-
  The walks of the law's own small functions.
-/
import Derived.Test.YtgblehdamgliaaaW7
set_option linter.unusedVariables false
set_option linter.unusedSimpArgs false
namespace Go.Proofs.Ytgblehdamgliaaa
open Go.RowKit FT

def maxB (x y : Nat) : Option Nat :=
  match Ieee.double.order x y with
  | some .lt => some y
  | some .gt => some x
  | some .eq => some (if (Ieee.double.read x).neg then y else x)
  | none => none
def gapB (a b : Nat) : Option Nat := do
  let x ← fb .sub .f64 a b
  let y ← fb .sub .f64 b a
  maxB x y
def apartB (a b c d : Nat) : Option Nat := do
  let p ← lessC a b c d
  let l ← longC p.1 p.2
  cv64 l

theorem run_maxB {P : Program} {x y r : Nat} (h : maxB x y = some r) (ts : Array TypeId) (t : TypeId) (w : World) : (Builtin.max_ ts t #[.float .f64 x, .float .f64 y]).run P w = .ok (.float .f64 r) w := by
  unfold maxB at h
  apply run_max_float
  split at h
  · rename_i e; cases h; exact Or.inl ⟨e, rfl⟩
  · rename_i e; cases h; exact Or.inr (Or.inl ⟨e, rfl⟩)
  · rename_i e; cases h; exact Or.inr (Or.inr ⟨e, rfl⟩)
  · cases h

theorem gap_walk {a b r : Nat} (h : gapB a b = some r) (w : World) :
    Calls Try.prog 12 #[.float .f64 a, .float .f64 b] w fun e w' => e = .returned (.float .f64 r) ∧ w = w' := by
  simp only [gapB, Option.bind_eq_bind, Option.bind_eq_some_iff] at h
  obtain ⟨x, m1, y, m2, m3⟩ := h
  have o1 := wb m1
  have o2 := wb m2
  have o3 := fun ts t w => run_maxB (P := Try.prog) m3 ts t w
  clear m1 m2 m3
  go_enter Try.func12, Try.ntmps12
  go_wp2
  go_ret
  exact ⟨rfl, rfl⟩

theorem run_sub_complex {P : Program} {a b c d re im : Nat} (h : lessC a b c d = some (re, im)) (t : TypeId) (w : World) : (binOp .sub t (.complex .f32 a b) (.complex .f32 c d)).run P w = .ok (.complex .f32 re im) w :=
  run_complex_sum w .sub (Or.inr rfl) t .f32 a b c d re im h
theorem run_add_complex {P : Program} {a b c d re im : Nat} (h : plusC a b c d = some (re, im)) (t : TypeId) (w : World) : (binOp .add t (.complex .f32 a b) (.complex .f32 c d)).run P w = .ok (.complex .f32 re im) w :=
  run_complex_sum w .add (Or.inl rfl) t .f32 a b c d re im h

theorem apart_walk {a b c d r : Nat} (h : apartB a b c d = some r) (w : World) :
    Calls Try.prog 14 #[.complex .f32 a b, .complex .f32 c d] w fun e w' => e = .returned (.float .f64 r) ∧ w = w' := by
  simp only [apartB, Option.bind_eq_bind, Option.bind_eq_some_iff] at h
  obtain ⟨⟨x, y⟩, m1, l, m2, m3⟩ := h
  have o1 := fun t w => run_sub_complex (P := Try.prog) m1 t w
  have p1 := fun w => longC_walk m2 w
  have o2 := w64 m3
  clear m1 m2 m3
  go_enter Try.func14, Try.ntmps14
  go_wp2_with fail
  refine (p1 _).mono ?_; rintro e w' ⟨rfl, rfl⟩
  go_wp2
  go_ret
  exact ⟨rfl, rfl⟩

theorem Long_no {a b : Option Addr} {n m c d : Nat} (hn : n ≤ 48) (hm : m ≤ 48) (w : World) :
    Calls Try.prog 6 #[.slice a n c, .slice b m d] w fun e w' => e = .returned (.bool false) ∧ w = w' := by
  have i1 : decide ((48 : Int) < (n : Int)) = false := by simp; omega
  have i2 : decide ((48 : Int) < (m : Int)) = false := by simp; omega
  go_enter Try.func6, Try.ntmps6
  go_wp2
  go_ret
  exact ⟨rfl, rfl⟩

theorem Long_yes {a b : Option Addr} {n m c d : Nat} (h : 48 < n ∨ 48 < m) (w : World) :
    Calls Try.prog 6 #[.slice a n c, .slice b m d] w fun e w' => e = .returned (.bool true) ∧ w = w' := by
  by_cases hn : 48 < n
  · have i1 : 48 < (n : Int) := by omega
    clear h
    go_enter Try.func6, Try.ntmps6
    go_wp2
    go_ret
    exact ⟨rfl, rfl⟩
  · have i1 : (n : Int) ≤ 48 := by omega
    have i2 : 48 < (m : Int) := by omega
    clear h
    go_enter Try.func6, Try.ntmps6
    go_wp2
    go_ret
    exact ⟨rfl, rfl⟩

end Go.Proofs.Ytgblehdamgliaaa
