/-
  What the model's float operations give at finite words, and those facts in the form in which a walk takes them.
-/
import Derived.Test.YtgeiaafdholcbaaFloat
import Derived.WalkKit
import Derived.WalkLawsBesides
import Derived.Laws.Externs
set_option linter.unusedVariables false
set_option linter.unusedSimpArgs false
namespace Go.Proofs.Ytgeiaafdholcbaa
open Go FT

abbrev V32 := Val Ieee.single
abbrev V64 := Val Ieee.double

def cv64 (x : Nat) : Option Nat := floatToFloatBits .f32 x .f64
def cv32 (x : Nat) : Option Nat := floatToFloatBits .f64 x .f32
def fb (op : BinOp) (k : FloatKind) (x y : Nat) : Option Nat := floatBits op k x y
def sq64 (x : Nat) : Option Nat := Ieee.double.sqrt x
def neg32 (x : Nat) : Nat := Op.negFloat .f32 x
def neg64 (x : Nat) : Nat := Op.negFloat .f64 x

section
variable {P : Program}
theorem rb {op : BinOp} {k : FloatKind} {x y r : Nat} (h : fb op k x y = some r) : ∀ t w, (binOp op t (.float k x) (.float k y)).run P w = .ok (.float k r) w := fun t w => run_float_arith w op t k x y r h
theorem rc64 {x r : Nat} (h : cv64 x = some r) {src dst : TypeId} (hs : (P.underlying src).isSome = true) (hd : P.underlying dst = some (.float .f64)) :
    ∀ w, (convert src dst (.float .f32 x)).run P w = .ok (.float .f64 r) w := fun w => run_convert_float_float w src dst .f32 .f64 x r hs hd h
theorem rc32 {x r : Nat} (h : cv32 x = some r) {src dst : TypeId} (hs : (P.underlying src).isSome = true) (hd : P.underlying dst = some (.float .f32)) :
    ∀ w, (convert src dst (.float .f64 x)).run P w = .ok (.float .f32 r) w := fun w => run_convert_float_float w src dst .f64 .f32 x r hs hd h
theorem run_sqrt {x r : Nat} (h : sq64 x = some r) (w : World) : (Extern.MathSqrt.sqrt #[.float .f64 x]).run P w = .ok (.float .f64 r) w := by
  show Sem.run P (match Ieee.double.sqrt x with | some r => (pure (.float .f64 r) : Sem Value) | none => do pure (.float .f64 (← choose (.nanBits .f64 x x)))) w = _
  have h' : Ieee.double.sqrt x = some r := h
  rw [h']
  rfl
theorem run_max_float {k : FloatKind} {x y r : Nat} (h : (k.format.order x y = some .lt ∧ r = y) ∨ (k.format.order x y = some .gt ∧ r = x) ∨ (k.format.order x y = some .eq ∧ r = if (k.decode x).neg then y else x))
    (ts : Array TypeId) (t : TypeId) (w : World) : (Builtin.max_ ts t #[.float k x, .float k y]).run P w = .ok (.float k r) w := by
  rcases h with ⟨h, rfl⟩ | ⟨h, rfl⟩ | ⟨h, rfl⟩ <;> simp [Builtin.max_, Builtin.max2, h]
theorem run_neg_f32 (x : Nat) (w : World) : (Op.unary .neg (.float .f32 x)).run P w = .ok (.float .f32 (neg32 x)) w := rfl
end

section
variable {P : Program} (w : World) (a : Addr) (m : Mode)
@[go_sem] theorem run_store_float (k : FloatKind) (b : Nat) : (store a (.float k b) m).run P w = stored P w a (.float k b) m := run_store P w a _ m rfl
@[go_sem] theorem run_store_complex (k : FloatKind) (b c : Nat) : (store a (.complex k b c) m).run P w = stored P w a (.complex k b c) m := run_store P w a _ m rfl
end

/-! ## Words as numbers -/

theorem top32 : top Ieee.single = pw 127 := rfl
theorem top64 : top Ieee.double = pw 1023 := by
  unfold top
  congr 1

theorem V32.lt {x : Nat} {a : Rat} (h : V32 x a) : (FloatKind.f32.decode x).isInfinity = false := by
  obtain ⟨s, m, e, h1, _⟩ := h
  show (Ieee.single.read x).isInfinity = false
  rw [h1]; rfl
theorem V64.lt {x : Nat} {a : Rat} (h : V64 x a) : (FloatKind.f64.decode x).isInfinity = false := by
  obtain ⟨s, m, e, h1, _⟩ := h
  show (Ieee.double.read x).isInfinity = false
  rw [h1]; rfl

/-- The single digits of a 32-bit word: few, and not at a low place. -/
theorem read_single {w : Nat} {s : Bool} {m : Nat} {e : Int} (h : Ieee.single.read w = .number s m e) : m < 2 ^ 24 ∧ -149 ≤ e ∧ e ≤ 104 := by
  have hb : Ieee.single.binade = 8388608 := rfl
  have hl : Ieee.single.leastPlace = -149 := rfl
  have hi : Ieee.single.infRung = 2139095040 := rfl
  unfold Ieee.Format.read at h
  simp only [hb, hl, hi] at h
  split at h
  · cases h; omega
  · split at h
    · cases h; omega
    · split at h <;> cases h

theorem widen {x : Nat} {a : Rat} (h : V32 x a) : ∃ r, cv64 x = some r ∧ V64 r a := by
  obtain ⟨s, m, e, h1, rfl⟩ := h
  obtain ⟨hm, he1, he2⟩ := read_single h1
  have habs : (dval s m e).abs < top Ieee.double := by
    rw [abs_dval, top64]
    have h2 : (m : Rat) * pw e ≤ pw (24 : Nat) * pw e := Rat.mul_le_mul_of_nonneg_right (by rw [pw_nat]; exact_mod_cast (Nat.le_of_lt hm)) (Rat.le_of_lt (pw_pos e))
    rw [← pw_add] at h2
    have h3 := pw_lt (a := ((24 : Nat) : Int) + e) (b := 1023) (by omega)
    grind
  have hr : Rnd Ieee.double (dval s m e) (Ieee.double.write (.number s m e)) := ⟨s, m, e, rfl, rfl⟩
  have hv : V64 (Ieee.double.write (.number s m e)) (dval s m e) := by
    refine Rnd.exact ok_double hr habs (if s then -(m : Int) else m) e ?_ (by show (-1074 : Int) ≤ e; omega) ?_
    · have : (2 : Nat) ^ (Ieee.double.fractionBits + 1) = 2 ^ 53 := rfl
      rw [this]
      split <;> omega
    · unfold dval sgn
      cases s <;> simp only [Bool.false_eq_true, if_false, if_true, Rat.intCast_neg, Rat.intCast_natCast] <;> grind
  refine ⟨_, ?_, hv⟩
  unfold cv64 floatToFloatBits
  rw [if_neg (by decide)]
  have e1 : FloatKind.f32.decode x = .number s m e := h1
  rw [e1]
  simp only
  rw [if_neg (by rw [show FloatKind.f64.encode (.number s m e) = Ieee.double.write (.number s m e) from rfl, V64.lt hv]; decide)]
  rfl

theorem narrow {x : Nat} {a : Rat} (h : V64 x a) (hb : a.abs < pw 127) : ∃ r, cv32 x = some r ∧ Rnd Ieee.single a r := by
  obtain ⟨s, m, e, h1, rfl⟩ := h
  have hr : Rnd Ieee.single (dval s m e) (Ieee.single.write (.number s m e)) := ⟨s, m, e, rfl, rfl⟩
  obtain ⟨v, hv, _⟩ := hr.val ok_single hb
  refine ⟨_, ?_, hr⟩
  unfold cv32 floatToFloatBits
  rw [if_neg (by decide)]
  have e1 : FloatKind.f64.decode x = .number s m e := h1
  rw [e1]
  simp only
  rw [if_neg (by rw [show FloatKind.f32.encode (.number s m e) = Ieee.single.write (.number s m e) from rfl, V32.lt hv]; decide)]
  rfl

theorem neg32_val {x : Nat} {a : Rat} (h : V32 x a) : V32 (neg32 x) (-a) := neg_val h
theorem neg64_val {x : Nat} {a : Rat} (h : V64 x a) : V64 (neg64 x) (-a) := neg_val h

theorem intCast_abs (n : Int) : (n : Rat).abs = (n.natAbs : Rat) := by
  rcases Int.le_total 0 n with h | h
  · have e1 : (n : Rat) = (n.natAbs : Rat) := by
      rw [← Rat.intCast_natCast]; congr 1; omega
    rw [e1]
    exact Rat.abs_of_nonneg Rat.natCast_nonneg
  · have e1 : (n : Rat) = -(n.natAbs : Rat) := by
      rw [← Rat.intCast_natCast, ← Rat.intCast_neg]; congr 1; omega
    rw [e1, Rat.abs_neg]
    exact Rat.abs_of_nonneg Rat.natCast_nonneg

theorem ofInt32 (n : Int) (h : n.natAbs ≤ 2 ^ 24) : V32 (floatOfInt .f32 n) n := by
  have hr : Rnd Ieee.single (n : Rat) (floatOfInt .f32 n) := int_rnd Ieee.single n
  refine hr.exact ok_single ?_ n 0 h (by decide) (by rw [pw_zero, Rat.mul_one])
  rw [top32]
  have h1 : (n : Rat).abs ≤ pw (24 : Nat) := by
    rw [intCast_abs, pw_nat]
    exact Rat.natCast_le_natCast.2 h
  have h2 := pw_lt (a := ((24 : Nat) : Int)) (b := 127) (by omega)
  grind

end Go.Proofs.Ytgeiaafdholcbaa
