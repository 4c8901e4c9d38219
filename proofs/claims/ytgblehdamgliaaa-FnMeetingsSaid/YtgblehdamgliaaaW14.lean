/-
  The walks of fractions, sines and phasors.
-/
import Derived.Test.YtgblehdamgliaaaW13
set_option linter.unusedVariables false
set_option linter.unusedSimpArgs false
namespace Go.Proofs.Ytgblehdamgliaaa
open Go.RowKit FT

/-- The whole part of a number. -/
def truncB (x : Nat) : Option Nat := match FloatKind.f64.decode x with
  | .number s m e => some (FloatKind.f64.encode ((Ieee.Datum.number s m e).integral .zero))
  | _ => none

theorem trunc_red (x : Nat) (s : Bool) (m : Nat) (e : Int) (hd : FloatKind.f64.decode x = .number s m e) : Extern.MathFloor.toIntegral "math.archTrunc" .zero #[.float .f64 x] = pure (.float .f64 (FloatKind.f64.encode ((Ieee.Datum.number s m e).integral .zero))) := by
  show @Eq (Sem Value) (match FloatKind.f64.decode x with
      | .nan s t => _
      | d => pure (.float .f64 (FloatKind.f64.encode (d.integral .zero)))) _
  rw [hd]

theorem run_trunc {P : Program} {x r : Nat} (h : truncB x = some r) (w : World) : (Extern.MathFloor.toIntegral "math.archTrunc" .zero #[.float .f64 x]).run P w = .ok (.float .f64 r) w := by
  unfold truncB at h
  cases hd : FloatKind.f64.decode x with
  | nan s t => rw [hd] at h; cases h
  | infinity s => rw [hd] at h; cases h
  | number s m e =>
    rw [hd] at h
    cases h
    rw [trunc_red x s m e hd]
    rfl

theorem Trunc_walk {x r : Nat} (h : truncB x = some r) (w : World) :
    Calls Try.prog 73 #[.float .f64 x] w fun e w' => e = .returned (.float .f64 r) ∧ w = w' := by
  have hd : ∀ w, (callFunc 75 #[.float .f64 x]).run Try.prog w = .ok (.value (.float .f64 r)) w := fun w => by
    rw [run_callFunc_extern (fn := Try.f75) (e := Extern.MathFloor.toIntegral "math.archTrunc" .zero) Try.func75 (by kernel_rfl) (by kernel_rfl) (by kernel_rfl) (by kernel_rfl), run_trunc h]
    rfl
  clear h
  go_enter Try.func73, Try.ntmps73
  go_wp2
  go_ret
  exact ⟨rfl, rfl⟩

def eq64 (x y : Nat) : Bool := FloatKind.f64.format.order x y == some .eq
def lt64 (x y : Nat) : Bool := FloatKind.f64.format.order x y == some .lt
def gt64 (x y : Nat) : Bool := FloatKind.f64.format.order x y == some .gt

/-- A nought without its sign. -/
def plain0 (x : Nat) : Nat := if eq64 x 0 then 0 else x
def upB (f : Nat) : Option Nat := if lt64 f 0 then fb .add .f64 f 4607182418800017408 else some f
def fractionB (t : Nat) : Option Nat := do
  let w ← truncB t
  let f ← fb .sub .f64 t (plain0 w)
  upB f

theorem fraction_walk {t r : Nat} (h : fractionB t = some r) (w : World) :
    Calls Try.prog 68 #[.float .f64 t] w fun e w' => e = .returned (.float .f64 r) ∧ w = w' := by
  simp only [fractionB, Option.bind_eq_bind, Option.bind_eq_some_iff] at h
  obtain ⟨wh, h1, f, h2, h3⟩ := h
  have p1 := fun w => Trunc_walk h1 w
  have o1 := wq64 h2
  unfold plain0 at o1
  unfold upB at h3
  have f1 : (FloatKind.f64.format.order wh 0 == some .eq) = eq64 wh 0 := rfl
  have f2 : (FloatKind.f64.format.order f 0 == some .lt) = lt64 f 0 := rfl
  clear h1 h2
  by_cases g1 : eq64 wh 0 = true
  all_goals
    simp only [g1, if_true, if_false, Bool.false_eq_true] at f1 o1
    by_cases g2 : lt64 f 0 = true
    all_goals
      simp only [g2, if_true, if_false, Bool.false_eq_true] at f2 h3
      first
        | have o2 := wq64 h3
        | obtain rfl := (Option.some.inj h3).symm
      go_enter Try.func68, Try.ntmps68
      go_wp2_with fail
      refine (p1 _).mono ?_; rintro e w' ⟨rfl, rfl⟩
      go_wp2
      go_ret
      exact ⟨rfl, rfl⟩

def ge64 (x y : Nat) : Bool := gt64 x y || eq64 x y
def offB (t f : Nat) : Option Nat := if ge64 f 4602678819172646912 then fb .sub .f64 f 4602678819172646912 else some f
def foldB (f : Nat) : Option Nat := if gt64 f 4598175219545276416 then fb .sub .f64 4602678819172646912 f else some f
/-- p behind so many rounds of the sine's series. -/
def serB (u : Nat) : Nat → Option Nat
  | 0 => some 4607182418800017408
  | j + 1 => do
    let p ← serB u j
    let up ← fb .mul .f64 u p
    let q ← fb .quo .f64 up (floatOfInt .f64 (2 * (8 - (j : Int)) * (2 * (8 - (j : Int)) + 1)))
    fb .sub .f64 4607182418800017408 q
def signB (b : Bool) (x : Nat) : Nat := if b then neg64 x else x
def sineB (t : Nat) : Option Nat := do
  let f0 ← fractionB t
  let f1 ← offB t f0
  let f ← foldB f1
  let z ← fb .mul .f64 f 4618760256179416344
  let u ← fb .mul .f64 z z
  let p ← serB u 8
  let o ← fb .mul .f64 z p
  return signB (ge64 f0 4602678819172646912) o

theorem serB_before {u : Nat} : ∀ {n : Nat} {r : Nat}, serB u n = some r → ∀ k, k ≤ n → ∃ x, serB u k = some x := by
  intro n
  induction n with
  | zero => intro r h k hk; have h0 : k = 0 := by omega
            subst h0; exact ⟨_, h⟩
  | succ n ih =>
    intro r h k hk
    rcases Nat.lt_or_ge n k with h1 | h1
    · obtain rfl : k = n + 1 := by omega
      exact ⟨_, h⟩
    · simp only [serB, Option.bind_eq_bind, Option.bind_eq_some_iff] at h
      obtain ⟨x, h2, _⟩ := h
      exact ih h2 k h1

set_option maxRecDepth 100000 in
set_option maxHeartbeats 2000000 in
theorem sine_walk {t r : Nat} (h : sineB t = some r) (w : World) :
    Calls Try.prog 69 #[.float .f64 t] w fun e w' => e = .returned (.float .f64 r) ∧ w = w' := by
  simp only [sineB, Option.bind_eq_bind, Option.bind_eq_some_iff, Option.pure_def, Option.some.injEq] at h
  obtain ⟨f0, h0, f1, h1, f, h2, z, h3, u, h4, p, h5, o, h6, h7⟩ := h
  have p1 := fun w => fraction_walk h0 w
  have q3 := wq64 h3
  have q4 := wq64 h4
  have q6 := wq64 h6
  have H5 := Lib.hid h5
  have ng := run_neg_f64
  unfold offB at h1
  unfold foldB at h2
  unfold signB at h7
  have hge : (FloatKind.f64.format.order f0 4602678819172646912 == some .gt || FloatKind.f64.format.order f0 4602678819172646912 == some .eq) = ge64 f0 4602678819172646912 := rfl
  have hgt : (FloatKind.f64.format.order f1 4598175219545276416 == some .gt) = gt64 f1 4598175219545276416 := rfl
  clear h0 h3 h4 h5 h6
  by_cases g1 : ge64 f0 4602678819172646912 = true
  all_goals
    simp only [g1, if_true, if_false, Bool.false_eq_true] at hge h1 h7
    by_cases g2 : gt64 f1 4598175219545276416 = true
    all_goals
      simp only [g2, if_true, if_false, Bool.false_eq_true] at hgt h2
      subst h7
      first
        | have o1 := wq64 h1
        | obtain rfl := Option.some.inj h1
      first
        | have o2 := wq64 h2
        | obtain rfl := Option.some.inj h2
      go_enter Try.func69, Try.ntmps69
      go_wp2_with fail
      refine (p1 _).mono ?_; rintro e w' ⟨rfl, rfl⟩
      go_wp2_with fail
      go_loop [7, 8] (fun v i => ∃ j : Nat, j ≤ 8 ∧ i = .int .i64 (8 - (j : Int)) ∧ ∃ pj, v = .float .f64 pj ∧ serB u j = some pj) (fun _ i => (intOf i).toNat)
      case atStart => exact ⟨0, by omega, rfl, _, rfl, rfl⟩
      case round =>
        obtain ⟨j, hj, rfl, pj, rfl, hpo⟩ := hrel
        rcases Nat.lt_or_ge j 8 with hlt | hge
        · obtain ⟨py, hpy⟩ := serB_before H5.out (j + 1) hlt
          have hpy' := hpy
          simp only [serB, hpo, Option.bind_eq_bind, Option.bind_some, Option.bind_eq_some_iff] at hpy'
          obtain ⟨up, z1, qq, z2, z3⟩ := hpy'
          have y1 := wq64 z1
          have y3 := wq64 z3
          have hjs : j = 0 ∨ j = 1 ∨ j = 2 ∨ j = 3 ∨ j = 4 ∨ j = 5 ∨ j = 6 ∨ j = 7 := by omega
          clear z1 z3
          rcases hjs with rfl | rfl | rfl | rfl | rfl | rfl | rfl | rfl
          · have y2 : ∀ t w, (binOp .quo t (.float .f64 up) (.float .f64 (floatOfInt .f64 272))).run Try.prog w = .ok (.float .f64 qq) w := wq64 z2
            clear z2
            go_wp2
            go_round
            case rel => exact ⟨_, hlt, by simp, _, rfl, hpy⟩
            case measure => simp [intOf]
          · have y2 : ∀ t w, (binOp .quo t (.float .f64 up) (.float .f64 (floatOfInt .f64 210))).run Try.prog w = .ok (.float .f64 qq) w := wq64 z2
            clear z2
            go_wp2
            go_round
            case rel => exact ⟨_, hlt, by simp, _, rfl, hpy⟩
            case measure => simp [intOf]
          · have y2 : ∀ t w, (binOp .quo t (.float .f64 up) (.float .f64 (floatOfInt .f64 156))).run Try.prog w = .ok (.float .f64 qq) w := wq64 z2
            clear z2
            go_wp2
            go_round
            case rel => exact ⟨_, hlt, by simp, _, rfl, hpy⟩
            case measure => simp [intOf]
          · have y2 : ∀ t w, (binOp .quo t (.float .f64 up) (.float .f64 (floatOfInt .f64 110))).run Try.prog w = .ok (.float .f64 qq) w := wq64 z2
            clear z2
            go_wp2
            go_round
            case rel => exact ⟨_, hlt, by simp, _, rfl, hpy⟩
            case measure => simp [intOf]
          · have y2 : ∀ t w, (binOp .quo t (.float .f64 up) (.float .f64 (floatOfInt .f64 72))).run Try.prog w = .ok (.float .f64 qq) w := wq64 z2
            clear z2
            go_wp2
            go_round
            case rel => exact ⟨_, hlt, by simp, _, rfl, hpy⟩
            case measure => simp [intOf]
          · have y2 : ∀ t w, (binOp .quo t (.float .f64 up) (.float .f64 (floatOfInt .f64 42))).run Try.prog w = .ok (.float .f64 qq) w := wq64 z2
            clear z2
            go_wp2
            go_round
            case rel => exact ⟨_, hlt, by simp, _, rfl, hpy⟩
            case measure => simp [intOf]
          · have y2 : ∀ t w, (binOp .quo t (.float .f64 up) (.float .f64 (floatOfInt .f64 20))).run Try.prog w = .ok (.float .f64 qq) w := wq64 z2
            clear z2
            go_wp2
            go_round
            case rel => exact ⟨_, hlt, by simp, _, rfl, hpy⟩
            case measure => simp [intOf]
          · have y2 : ∀ t w, (binOp .quo t (.float .f64 up) (.float .f64 (floatOfInt .f64 6))).run Try.prog w = .ok (.float .f64 qq) w := wq64 z2
            clear z2
            go_wp2
            go_round
            case rel => exact ⟨_, hlt, by simp, _, rfl, hpy⟩
            case measure => simp [intOf]
        · have hj8 : j = 8 := by omega
          subst hj8
          have hpp : p = pj := by have := H5.out; rw [hpo] at this; exact (Option.some.inj this).symm
          subst hpp
          go_wp2
          go_ret
          exact ⟨rfl, rfl⟩

end Go.Proofs.Ytgblehdamgliaaa
