/-
  The walks where a quotient by nothing gives not-a-numbers, whose bits the tape gives: what is returned is that there is no value.
-/
import Derived.Test.YtgblehdamgliaaaW4
set_option linter.unusedVariables false
set_option linter.unusedSimpArgs false
namespace Go.Proofs.Ytgblehdamgliaaa
open Go.RowKit FT

def NaN64 (x : Nat) : Prop := ∃ s t, Ieee.double.read x = .nan s t
def NaN32 (x : Nat) : Prop := ∃ s t, Ieee.single.read x = .nan s t

/-- The bits that the tape gives. -/
def tn64 (x y : Nat) (w : World) : Nat := (Question.nanBits .f64 x y).cut (w.tape w.drawn (.nanBits .f64 x y))
def tc64 (x : Nat) (w : World) : Nat := (Question.nanConv .f64 x).cut (w.tape w.drawn (.nanConv .f64 x))
def tc32 (x : Nat) (w : World) : Nat := (Question.nanConv .f32 x).cut (w.tape w.drawn (.nanConv .f32 x))

theorem nan_cut64 (t : Nat) : NaN64 ((t % 2) * 2 ^ 63 + 0x7ff0000000000000 + 1 + (t / 2) % (2 ^ 52 - 1)) := by
  have h1 : (t / 2) % 4503599627370495 < 4503599627370495 := Nat.mod_lt _ (by decide)
  have h2 : t % 2 < 2 := Nat.mod_lt _ (by decide)
  show NaN64 ((t % 2) * 9223372036854775808 + 9218868437227405312 + 1 + (t / 2) % 4503599627370495)
  generalize (t / 2) % 4503599627370495 = r at *
  generalize t % 2 = s at *
  have hw : Ieee.double.signWeight = 9223372036854775808 := rfl
  have hb : Ieee.double.binade = 4503599627370496 := rfl
  have hi : Ieee.double.infRung = 9218868437227405312 := rfl
  unfold NaN64 Ieee.Format.read
  simp only [hw, hb, hi]
  have e1 : (s * 9223372036854775808 + 9218868437227405312 + 1 + r) % 9223372036854775808 = 9218868437227405312 + 1 + r := by omega
  rw [e1, if_neg (by omega), if_neg (by omega), if_neg (by omega)]
  exact ⟨_, _, rfl⟩

theorem nan_cut32 (t : Nat) : NaN32 ((t % 2) * 2 ^ 31 + 0x7f800000 + 1 + (t / 2) % (2 ^ 23 - 1)) := by
  have h1 : (t / 2) % 8388607 < 8388607 := Nat.mod_lt _ (by decide)
  have h2 : t % 2 < 2 := Nat.mod_lt _ (by decide)
  show NaN32 ((t % 2) * 2147483648 + 2139095040 + 1 + (t / 2) % 8388607)
  generalize (t / 2) % 8388607 = r at *
  generalize t % 2 = s at *
  have hw : Ieee.single.signWeight = 2147483648 := rfl
  have hb : Ieee.single.binade = 8388608 := rfl
  have hi : Ieee.single.infRung = 2139095040 := rfl
  unfold NaN32 Ieee.Format.read
  simp only [hw, hb, hi]
  have e1 : (s * 2147483648 + 2139095040 + 1 + r) % 2147483648 = 2139095040 + 1 + r := by omega
  rw [e1, if_neg (by omega), if_neg (by omega), if_neg (by omega)]
  exact ⟨_, _, rfl⟩

theorem tn64_nan (x y : Nat) (w : World) : NaN64 (tn64 x y w) := nan_cut64 _
theorem tc64_nan (x : Nat) (w : World) : NaN64 (tc64 x w) := nan_cut64 _
theorem tc32_nan (x : Nat) (w : World) : NaN32 (tc32 x w) := nan_cut32 _

section
variable {P : Program}
theorem run_nan_sub {x y : Nat} (h : fb .sub .f64 x y = none) (t : TypeId) (w : World) : (binOp .sub t (.float .f64 x) (.float .f64 y)).run P w = .ok (.float .f64 (tn64 x y w)) w.drew := by
  have h' : FloatKind.f64.format.sub x y = none := h
  simp [binOp, Op.floatArith, h', tn64, Question.forced]
theorem run_nan_quo {x y : Nat} (h : fb .quo .f64 x y = none) (t : TypeId) (w : World) : (binOp .quo t (.float .f64 x) (.float .f64 y)).run P w = .ok (.float .f64 (tn64 x y w)) w.drew := by
  have h' : FloatKind.f64.format.div x y = none := h
  simp [binOp, Op.floatArith, h', tn64, Question.forced]
theorem run_nan_narrow {x : Nat} (h : NaN64 x) (w : World) : (Conv.floatToFloat .f64 x .f32).run P w = .ok (.float .f32 (tc32 x w)) w.drew := by
  obtain ⟨s, t, h⟩ := h
  have h' : FloatKind.f64.decode x = .nan s t := h
  simp [Conv.floatToFloat, h', tc32, Question.forced]
theorem run_nan_widen {x : Nat} (h : NaN32 x) (w : World) : (Conv.floatToFloat .f32 x .f64).run P w = .ok (.float .f64 (tc64 x w)) w.drew := by
  obtain ⟨s, t, h⟩ := h
  have h' : FloatKind.f32.decode x = .nan s t := h
  simp [Conv.floatToFloat, h', tc64, Question.forced]
end

theorem nan_narrow {x : Nat} (h : NaN64 x) (w : World) : (convert 34 25 (.float .f64 x)).run Try.prog w = .ok (.float .f32 (tc32 x w)) w.drew := by
  have := run_nan_narrow (P := Try.prog) h w
  simp [convert, run_underlying Try.underlying34, run_underlying Try.underlying25, this]
theorem nan_widen {x : Nat} (h : NaN32 x) (w : World) : (convert 25 34 (.float .f32 x)).run Try.prog w = .ok (.float .f64 (tc64 x w)) w.drew := by
  have := run_nan_widen (P := Try.prog) h w
  simp [convert, run_underlying Try.underlying34, run_underlying Try.underlying25, this]

theorem nan_sub {x y : Nat} (h : NaN64 x) : fb .sub .f64 x y = none := by
  obtain ⟨s, t, h⟩ := h
  show Ieee.double.sub x y = none
  unfold Ieee.Format.sub
  rw [h]
  rfl
theorem nan_order {x y : Nat} (h : NaN64 x) : FloatKind.f64.format.order x y = none := by
  obtain ⟨s, t, h⟩ := h
  show Ieee.double.order x y = none
  unfold Ieee.Format.order
  rw [h]
  rfl

theorem isFinite_bad {x : Nat} (h : fb .sub .f64 x x = none) (w : World) :
    Calls Try.prog 62 #[.float .f64 x] w fun e w' => e = .returned (.bool false) ∧ Below w.heap.size w w' := by
  have o1 := run_nan_sub (P := Try.prog) h
  have o2 := fun w => nan_order (y := 0) (tn64_nan x x w)
  clear h
  go_enter Try.func62, Try.ntmps62
  go_wp2
  go_ret
  exact ⟨rfl, (Below.refl _ _).drew⟩

theorem IsFinite_nan {x : Nat} (h : NaN32 x) (w : World) :
    Calls Try.prog 43 #[.float .f32 x] w fun e w' => e = .returned (.bool false) ∧ Below w.heap.size w w' := by
  have o1 := nan_widen h
  have p1 := fun w' w => isFinite_bad (nan_sub (tc64_nan x w')) w
  clear h
  go_enter Try.func43, Try.ntmps43
  go_wp2_with fail
  refine (p1 _ _).mono ?_; rintro e w1 ⟨rfl, hb⟩
  go_wp2
  go_ret
  exact ⟨rfl, ((Below.refl _ _).drew).trans hb⟩

theorem IsFiniteComplex_nan {x y : Nat} (h : NaN32 x) (w : World) :
    Calls Try.prog 38 #[.complex .f32 x y] w fun e w' => e = .returned (.bool false) ∧ Below w.heap.size w w' := by
  have p1 := fun w => IsFinite_nan h w
  clear h
  go_enter Try.func38, Try.ntmps38
  go_wp2_with fail
  refine (p1 _).mono ?_; rintro e w1 ⟨rfl, hb⟩
  go_wp2
  go_ret
  exact ⟨rfl, hb⟩

theorem finiteComplex_nan {x y : Nat} (h : NaN32 x) (w : World) :
    Calls Try.prog 33 #[.complex .f32 x y, .bool true] w fun e w' => e = .returned (.tuple #[.complex .f32 0 0, .bool false]) ∧ Below w.heap.size w w' := by
  have p1 := fun w => IsFiniteComplex_nan (y := y) h w
  clear h
  go_enter Try.func33, Try.ntmps33
  go_wp2_with fail
  refine (p1 _).mono ?_; rintro e w1 ⟨rfl, hb⟩
  go_wp2
  go_ret2
  exact ⟨rfl, hb⟩

def NanPair (w : World) (e : Ending) (w' : World) : Prop := ∃ x y : Nat, e = .returned (.complex .f32 x y) ∧ NaN32 x ∧ Below w.heap.size w w'

theorem quoC_nan {a b c d x y p : Nat} (h : prod a b c (neg32 d) = some (x, y)) (hp : powB c d = some p) (hx : fb .quo .f64 x p = none) (hy : fb .quo .f64 y p = none) (w : World) :
    Calls Try.prog 42 #[.complex .f32 a b, .complex .f32 c d] w (NanPair w) := by
  have p0 := fun w => conj_walk c d w
  have p1 := fun w => product_walk h w
  have p2 := fun w => power_walk hp w
  have o1 := run_nan_quo (P := Try.prog) hx
  have o2 := run_nan_quo (P := Try.prog) hy
  have o3 := fun w' w => nan_narrow (tn64_nan x p w') w
  have o4 := fun w' w => nan_narrow (tn64_nan y p w') w
  clear h hp hx hy
  go_enter Try.func42, Try.ntmps42
  go_wp2_with fail
  refine (p0 _).mono ?_; rintro e w' ⟨rfl, rfl⟩
  go_wp2_with fail
  refine (p1 _).mono ?_; rintro e w' ⟨rfl, rfl⟩
  go_wp2_with fail
  refine (p2 _).mono ?_; rintro e w' ⟨rfl, rfl⟩
  go_wp2
  go_ret
  exact ⟨_, _, rfl, tc32_nan _ _, ((((Below.refl _ _).drew).drew).drew).drew⟩

theorem CrossSpeed_nan {fr fi mg x y p : Nat} {u f g : Rat} (h : prod fr fi 0 (neg32 mg) = some (x, y)) (hp : powB 0 mg = some p) (hx : fb .quo .f64 x p = none) (hy : fb .quo .f64 y p = none) (hg : V32 mg u) (hf : V32 fr f) (hf' : V32 fi g) (w : World) :
    Calls Try.prog 16 #[.complex .f32 fr fi, .float .f32 mg] w fun e w' => e = .returned (.tuple #[.complex .f32 0 0, .bool false]) ∧ Below w.heap.size w w' := by
  have p1 := fun w => quoC_nan h hp hx hy w
  have p2 := fun w => IsFiniteComplex_walk hf hf' w
  have p3 := fun w => IsFinite_walk hg w
  clear h hp hx hy hg hf hf'
  go_enter Try.func16, Try.ntmps16
  go_wp2_with fail
  refine (p1 _).mono ?_; rintro e w1 ⟨n1, n2, rfl, hn, hb1⟩
  go_wp2_with fail
  refine (p2 _).mono ?_; rintro e w1 ⟨rfl, rfl⟩
  go_wp2_with fail
  refine (p3 _).mono ?_; rintro e w1 ⟨rfl, rfl⟩
  go_wp2_with fail
  refine (finiteComplex_nan hn _).mono ?_; rintro e w2 ⟨rfl, hb2⟩
  go_wp2
  go_ret2
  exact ⟨rfl, hb1.trans (hb2.mono hb1.size)⟩

end Go.Proofs.Ytgblehdamgliaaa
