/-
  The walks of absolute values, angles, sines and phasors.
-/
import Derived.Test.YtgeiaafdholcbaaB2
import Derived.Test.YtgeiaafdholcbaaAng
set_option linter.unusedVariables false
set_option linter.unusedSimpArgs false
namespace Go.Proofs.Ytgeiaafdholcbaa
open Go.RowKit FT

theorem andNot_top (x : Nat) (h : x < 18446744073709551616) : bits .andNot .u64 (x : Int) 9223372036854775808 = ((abs64 x : Nat) : Int) := by
  have h1 := u64_andNot_nat x 9223372036854775808 h (by decide)
  have h2 : x &&& (18446744073709551615 - 9223372036854775808) = x % 9223372036854775808 := Nat.and_two_pow_sub_one_eq_mod x 63
  rw [h2] at h1
  exact h1

theorem Abs_walk {x : Nat} (h : x < 18446744073709551616) (w : World) :
    Calls Try.prog 64 #[.float .f64 x] w fun e w' => e = .returned (.float .f64 (abs64 x)) ∧ w = w' := by
  have hd1 : ∀ w, (callFunc 98 #[.float .f64 x]).run Try.prog w = .ok (.value (.int .u64 (x : Int))) w := fun w => by
    rw [run_callFunc_extern (fn := Try.f98) (e := Extern.MathFloatBits.float64bits) Try.func98 (by kernel_rfl) (by kernel_rfl) (by kernel_rfl) (by kernel_rfl)]
    rfl
  have hd2 : ∀ w, (callFunc 97 #[.int .u64 ((abs64 x : Nat) : Int)]).run Try.prog w = .ok (.value (.float .f64 (abs64 x))) w := fun w => by
    rw [run_callFunc_extern (fn := Try.f97) (e := Extern.MathFloatBits.float64frombits) Try.func97 (by kernel_rfl) (by kernel_rfl) (by kernel_rfl) (by kernel_rfl)]
    rfl
  have hb := andNot_top x h
  clear h
  generalize abs64 x = y at *
  go_enter Try.func64, Try.ntmps64
  go_wp2
  go_ret
  exact ⟨rfl, rfl⟩

theorem within_yes (n lo hi : Int) (h1 : lo ≤ n) (h2 : n ≤ hi) (w : World) :
    Calls Try.prog 52 #[.int .i64 n, .int .i64 lo, .int .i64 hi] w fun e w' => e = .returned (.bool true) ∧ w = w' := by
  go_enter Try.func52, Try.ntmps52
  go_wp2
  go_ret
  exact ⟨rfl, rfl⟩

theorem iterT_before {t : Nat} : ∀ {n : Nat} {r : Nat}, iterT t n = some r → ∀ k, k ≤ n → ∃ x, iterT t k = some x := by
  intro n
  induction n with
  | zero => intro r h k hk; have h0 : k = 0 := by omega
            subst h0; exact ⟨_, h⟩
  | succ n ih =>
    intro r h k hk
    rcases Nat.lt_or_ge n k with h1 | h1
    · obtain rfl : k = n + 1 := by omega
      exact ⟨_, h⟩
    · simp only [iterT, Option.bind_eq_bind, Option.bind_eq_some_iff] at h
      obtain ⟨x, h2, _⟩ := h
      exact ih h2 k h1
theorem iterT_step {t n x : Nat} (h : iterT t n = some x) {m r : Nat} (hm : n < m) (hr : iterT t m = some r) : ∃ y, stepT x = some y ∧ iterT t (n + 1) = some y := by
  obtain ⟨y, hy⟩ := iterT_before hr (n + 1) hm
  refine ⟨y, ?_, hy⟩
  simp only [iterT, h, Option.bind_eq_bind, Option.bind_some] at hy
  exact hy
theorem polyB_before {u : Nat} : ∀ {n : Nat} {r : Nat}, polyB u n = some r → ∀ k, k ≤ n → ∃ x, polyB u k = some x := by
  intro n
  induction n with
  | zero => intro r h k hk; have h0 : k = 0 := by omega
            subst h0; exact ⟨_, h⟩
  | succ n ih =>
    intro r h k hk
    rcases Nat.lt_or_ge n k with h1 | h1
    · obtain rfl : k = n + 1 := by omega
      exact ⟨_, h⟩
    · simp only [polyB, Option.bind_eq_bind, Option.bind_eq_some_iff] at h
      obtain ⟨x, h2, _⟩ := h
      exact ih h2 k h1

theorem wq64 {op : BinOp} {x y r : Nat} (h : fb op .f64 x y = some r) : ∀ t w, (binOp op t (.float .f64 x) (.float .f64 y)).run Try.prog w = .ok (.float .f64 r) w := wb h

theorem run_neg_f64 (x : Nat) (w : World) : (Op.unary .neg (.float .f64 x)).run Try.prog w = .ok (.float .f64 (neg64 x)) w := rfl

set_option maxRecDepth 100000 in
set_option maxHeartbeats 2000000 in
theorem AngleTurns_walk {y x r : Nat} {a b : Rat} (hy : V32 y a) (hx : V32 x b) (hne : ¬ (a = 0 ∧ b = 0)) (h : angleB y x = some r) (w : World) :
    Calls Try.prog 79 #[.float .f32 y, .float .f32 x] w fun e w' => e = .returned (.float .f32 r) ∧ Below w.heap.size w w' := by
  simp only [angleB, angA, Option.bind_eq_bind, Option.bind_eq_some_iff] at h
  obtain ⟨y', hy', x', hx', an, ⟨t0, h0, t1, h1, t3, h3, u, h4, p, h5, tp, h6, e, h7, an0, h8, h9⟩, an2, h10, h11⟩ := h
  have pf := fun w bl hx1 hy1 => areFinite_walk hx hy w bl hx1 hy1
  have pa := fun w => Abs_walk (cv64_lt hy') w
  have pb := fun w => Abs_walk (cv64_lt hx') w
  have oy := w64 hy'
  have ox := w64 hx'
  have q0 := wq64 h0
  have q4 := wq64 h4
  have q6 := wq64 h6
  have q7 := wq64 h7
  have q8 := wq64 h8
  have q11 := w32 h11
  have ng := run_neg_f64
  have H3 := Lib.hid h3
  have H5 := Lib.hid h5
  -- not both are zero
  have hz : (FloatKind.f32.format.order x 0 == some .eq) = false ∨ (FloatKind.f32.format.order x 0 == some .eq) = true ∧ (FloatKind.f32.format.order y 0 == some .eq) = false := by
    have e1 : FloatKind.f32.format.order x 0 = _ := order_eq hx zero32
    have e2 : FloatKind.f32.format.order y 0 = _ := order_eq hy zero32
    rw [e1, e2]
    by_cases hb : b = 0
    · right
      subst hb
      have ha : a ≠ 0 := fun ha => hne ⟨ha, rfl⟩
      rw [if_neg Rat.lt_irrefl, if_pos rfl, if_neg ha]
      refine ⟨rfl, ?_⟩
      split <;> rfl
    · left
      rw [if_neg hb]
      split <;> rfl
  have hB : (FloatKind.f64.format.order (abs64 y') (abs64 x') == some .gt) = bigB (abs64 y') (abs64 x') := rfl
  have hX : (FloatKind.f32.format.order x 0 == some .lt) = negB x := rfl
  have hY : (FloatKind.f32.format.order y 0 == some .lt) = negB y := rfl
  unfold pickT at h1
  unfold turnQ at h9
  unfold turnX at h10
  unfold turnY at q11 h11
  clear hy hx hne hy' hx' h0 h3 h4 h5 h6 h7 h8 h11
  go_enter Try.func79, Try.ntmps79
  go_wp2_with fail
  refine (pf _ _ (by simp) (by simp)).mono ?_; rintro e' w' ⟨rfl, rfl⟩
  rcases hz with hz | ⟨hz, hz'⟩
  all_goals
    go_wp2_with fail
    refine (pa _).mono ?_; rintro e1 w1 ⟨rfl, rfl⟩
    go_wp2_with fail
    refine (pb _).mono ?_; rintro e1 w1 ⟨rfl, rfl⟩
    by_cases g1 : bigB (abs64 y') (abs64 x') = true
    all_goals
      first
        | (simp only [g1, if_true] at hB h1 h9
           have q1 := wq64 h1
           have q9 := wq64 h9)
        | (simp only [g1, Bool.false_eq_true, if_false] at hB h1 h9
           obtain rfl := (Option.some.inj h1).symm
           obtain rfl := (Option.some.inj h9).symm)
      go_wp2_with fail
      go_loop [7, 42] (fun v i => ∃ k : Nat, k ≤ 3 ∧ i = .int .i64 k ∧ ∃ tk, v = .float .f64 tk ∧ iterT t1 k = some tk) (fun _ i => 3 - (intOf i).toNat)
      case atStart => exact ⟨0, by omega, rfl, _, rfl, rfl⟩
      case round =>
        obtain ⟨k, hk, rfl, tk, rfl, hit⟩ := hrel
        rcases Nat.lt_or_ge k 3 with hlt | hge
        · obtain ⟨ty, hst, hit'⟩ := iterT_step hit hlt H3.out
          simp only [stepT, Option.bind_eq_bind, Option.bind_eq_some_iff] at hst
          obtain ⟨tt, z1, ss, z2, rr, z3, dd, z4, z5⟩ := hst
          have y1 := wq64 z1
          have y2 := wq64 z2
          have y4 := wq64 z4
          have y5 := wq64 z5
          have ps := fun w => sqrt_walk z3 w
          clear z1 z2 z3 z4 z5
          have i1 : (k : Int) < 3 := by omega
          go_wp2_with fail
          refine (ps _).mono ?_; rintro e1 w1 ⟨rfl, rfl⟩
          go_wp2
          go_round
          case rel => exact ⟨k + 1, by omega, by simp, _, rfl, hit'⟩
          case measure => simp [intOf]; omega
        · have hk3 : k = 3 := by omega
          subst hk3
          have htt : t3 = tk := by have := H3.out; rw [hit] at this; exact (Option.some.inj this).symm
          subst htt
          go_wp2_with fail
          go_loop [9, 10] (fun v i => ∃ j : Nat, j ≤ 8 ∧ i = .int .i64 (15 - 2 * (j : Int)) ∧ ∃ pj, v = .float .f64 pj ∧ polyB u j = some pj) (fun _ i => (intOf i + 1).toNat)
          case atStart => exact ⟨0, by omega, rfl, _, rfl, rfl⟩
          case round =>
            obtain ⟨j, hj, rfl, pj, rfl, hpo⟩ := hrel
            rcases Nat.lt_or_ge j 8 with hlt | hge
            · obtain ⟨py, hpy⟩ := polyB_before H5.out (j + 1) hlt
              have hpy' := hpy
              simp only [polyB, hpo, Option.bind_eq_bind, Option.bind_some, Option.bind_eq_some_iff] at hpy'
              obtain ⟨qq, z1, up, z2, z3⟩ := hpy'
              have y1 := wq64 z1
              have y2 := wq64 z2
              have y3 := wq64 z3
              have i1 : (1 : Int) ≤ 15 - 2 * (j : Int) := by omega
              clear z1 z2 z3
              go_wp2
              go_round
              case rel => exact ⟨j + 1, by omega, by simp; omega, _, rfl, hpy⟩
              case measure => simp [intOf]; omega
            · have hj8 : j = 8 := by omega
              subst hj8
              have hpp : p = pj := by have := H5.out; rw [hpo] at this; exact (Option.some.inj this).symm
              subst hpp
              by_cases g2 : negB x = true
              all_goals
                first
                  | (simp only [turnX, g2, if_true] at h10 hX
                     have q10 := wq64 h10)
                  | (simp only [turnX, g2, Bool.false_eq_true, if_false] at h10 hX
                     obtain rfl := (Option.some.inj h10).symm)
                by_cases g3 : negB y = true
                all_goals
                  simp only [g3, if_true, Bool.false_eq_true, if_false] at hY q11
                  go_wp2
                  go_ret
                  exact ⟨rfl, (Below.refl _ _).alloc (Nat.le_refl _) _⟩

/-- The whole part of a number. -/
def truncB (x : Nat) : Option Nat := match FloatKind.f64.decode x with
  | .number s m e => some (FloatKind.f64.encode ((Ieee.Datum.number s m e).integral .zero))
  | _ => none

theorem trunc_red (x : Nat) (s : Bool) (m : Nat) (e : Int) (hd : FloatKind.f64.decode x = .number s m e) : Extern.MathFloor.toIntegral "math.archTrunc" .zero #[.float .f64 x] = pure (.float .f64 (FloatKind.f64.encode ((Ieee.Datum.number s m e).integral .zero))) := by
  show @Eq (Sem Value) (match FloatKind.f64.decode x with
      | .nan s t => _
      | d => pure (.float .f64 (FloatKind.f64.encode (d.integral .zero)))) _
  rw [hd]

theorem run_trunc {P : Program} {x r : Nat} (h : truncB x = some r) (w : World) : (Extern.MathFloor.toIntegral "math.archTrunc" .zero #[.float .f64 x]).run P w = .ok (.float .f64 r) w := by
  unfold truncB at h
  cases hd : FloatKind.f64.decode x with
  | nan s t => rw [hd] at h; cases h
  | infinity s => rw [hd] at h; cases h
  | number s m e =>
    rw [hd] at h
    cases h
    rw [trunc_red x s m e hd]
    rfl

theorem Trunc_walk {x r : Nat} (h : truncB x = some r) (w : World) :
    Calls Try.prog 134 #[.float .f64 x] w fun e w' => e = .returned (.float .f64 r) ∧ w = w' := by
  have hd : ∀ w, (callFunc 136 #[.float .f64 x]).run Try.prog w = .ok (.value (.float .f64 r)) w := fun w => by
    rw [run_callFunc_extern (fn := Try.f136) (e := Extern.MathFloor.toIntegral "math.archTrunc" .zero) Try.func136 (by kernel_rfl) (by kernel_rfl) (by kernel_rfl) (by kernel_rfl), run_trunc h]
    rfl
  clear h
  go_enter Try.func134, Try.ntmps134
  go_wp2
  go_ret
  exact ⟨rfl, rfl⟩

def eq64 (x y : Nat) : Bool := FloatKind.f64.format.order x y == some .eq
def lt64 (x y : Nat) : Bool := FloatKind.f64.format.order x y == some .lt
def gt64 (x y : Nat) : Bool := FloatKind.f64.format.order x y == some .gt

/-- A nought without its sign. -/
def plain0 (x : Nat) : Nat := if eq64 x 0 then 0 else x
def upB (f : Nat) : Option Nat := if lt64 f 0 then fb .add .f64 f 4607182418800017408 else some f
def fractionB (t : Nat) : Option Nat := do
  let w ← truncB t
  let f ← fb .sub .f64 t (plain0 w)
  upB f

theorem fraction_walk {t r : Nat} (h : fractionB t = some r) (w : World) :
    Calls Try.prog 130 #[.float .f64 t] w fun e w' => e = .returned (.float .f64 r) ∧ w = w' := by
  simp only [fractionB, Option.bind_eq_bind, Option.bind_eq_some_iff] at h
  obtain ⟨wh, h1, f, h2, h3⟩ := h
  have p1 := fun w => Trunc_walk h1 w
  have o1 := wq64 h2
  unfold plain0 at o1
  unfold upB at h3
  have f1 : (FloatKind.f64.format.order wh 0 == some .eq) = eq64 wh 0 := rfl
  have f2 : (FloatKind.f64.format.order f 0 == some .lt) = lt64 f 0 := rfl
  clear h1 h2
  by_cases g1 : eq64 wh 0 = true
  all_goals
    simp only [g1, if_true, if_false, Bool.false_eq_true] at f1 o1
    by_cases g2 : lt64 f 0 = true
    all_goals
      simp only [g2, if_true, if_false, Bool.false_eq_true] at f2 h3
      first
        | have o2 := wq64 h3
        | obtain rfl := (Option.some.inj h3).symm
      go_enter Try.func130, Try.ntmps130
      go_wp2_with fail
      refine (p1 _).mono ?_; rintro e w' ⟨rfl, rfl⟩
      go_wp2
      go_ret
      exact ⟨rfl, rfl⟩

def ge64 (x y : Nat) : Bool := gt64 x y || eq64 x y
def offB (t f : Nat) : Option Nat := if ge64 f 4602678819172646912 then fb .sub .f64 f 4602678819172646912 else some f
def foldB (f : Nat) : Option Nat := if gt64 f 4598175219545276416 then fb .sub .f64 4602678819172646912 f else some f
/-- p behind so many rounds of the sine's series. -/
def serB (u : Nat) : Nat → Option Nat
  | 0 => some 4607182418800017408
  | j + 1 => do
    let p ← serB u j
    let up ← fb .mul .f64 u p
    let q ← fb .quo .f64 up (floatOfInt .f64 (2 * (8 - (j : Int)) * (2 * (8 - (j : Int)) + 1)))
    fb .sub .f64 4607182418800017408 q
def signB (b : Bool) (x : Nat) : Nat := if b then neg64 x else x
def sineB (t : Nat) : Option Nat := do
  let f0 ← fractionB t
  let f1 ← offB t f0
  let f ← foldB f1
  let z ← fb .mul .f64 f 4618760256179416344
  let u ← fb .mul .f64 z z
  let p ← serB u 8
  let o ← fb .mul .f64 z p
  return signB (ge64 f0 4602678819172646912) o

theorem serB_before {u : Nat} : ∀ {n : Nat} {r : Nat}, serB u n = some r → ∀ k, k ≤ n → ∃ x, serB u k = some x := by
  intro n
  induction n with
  | zero => intro r h k hk; have h0 : k = 0 := by omega
            subst h0; exact ⟨_, h⟩
  | succ n ih =>
    intro r h k hk
    rcases Nat.lt_or_ge n k with h1 | h1
    · obtain rfl : k = n + 1 := by omega
      exact ⟨_, h⟩
    · simp only [serB, Option.bind_eq_bind, Option.bind_eq_some_iff] at h
      obtain ⟨x, h2, _⟩ := h
      exact ih h2 k h1

set_option maxRecDepth 100000 in
set_option maxHeartbeats 2000000 in
theorem sine_walk {t r : Nat} (h : sineB t = some r) (w : World) :
    Calls Try.prog 131 #[.float .f64 t] w fun e w' => e = .returned (.float .f64 r) ∧ w = w' := by
  simp only [sineB, Option.bind_eq_bind, Option.bind_eq_some_iff, Option.pure_def, Option.some.injEq] at h
  obtain ⟨f0, h0, f1, h1, f, h2, z, h3, u, h4, p, h5, o, h6, h7⟩ := h
  have p1 := fun w => fraction_walk h0 w
  have q3 := wq64 h3
  have q4 := wq64 h4
  have q6 := wq64 h6
  have H5 := Lib.hid h5
  have ng := run_neg_f64
  unfold offB at h1
  unfold foldB at h2
  unfold signB at h7
  have hge : (FloatKind.f64.format.order f0 4602678819172646912 == some .gt || FloatKind.f64.format.order f0 4602678819172646912 == some .eq) = ge64 f0 4602678819172646912 := rfl
  have hgt : (FloatKind.f64.format.order f1 4598175219545276416 == some .gt) = gt64 f1 4598175219545276416 := rfl
  clear h0 h3 h4 h5 h6
  by_cases g1 : ge64 f0 4602678819172646912 = true
  all_goals
    simp only [g1, if_true, if_false, Bool.false_eq_true] at hge h1 h7
    by_cases g2 : gt64 f1 4598175219545276416 = true
    all_goals
      simp only [g2, if_true, if_false, Bool.false_eq_true] at hgt h2
      subst h7
      first
        | have o1 := wq64 h1
        | obtain rfl := Option.some.inj h1
      first
        | have o2 := wq64 h2
        | obtain rfl := Option.some.inj h2
      go_enter Try.func131, Try.ntmps131
      go_wp2_with fail
      refine (p1 _).mono ?_; rintro e w' ⟨rfl, rfl⟩
      go_wp2_with fail
      go_loop [7, 8] (fun v i => ∃ j : Nat, j ≤ 8 ∧ i = .int .i64 (8 - (j : Int)) ∧ ∃ pj, v = .float .f64 pj ∧ serB u j = some pj) (fun _ i => (intOf i).toNat)
      case atStart => exact ⟨0, by omega, rfl, _, rfl, rfl⟩
      case round =>
        obtain ⟨j, hj, rfl, pj, rfl, hpo⟩ := hrel
        rcases Nat.lt_or_ge j 8 with hlt | hge
        · obtain ⟨py, hpy⟩ := serB_before H5.out (j + 1) hlt
          have hpy' := hpy
          simp only [serB, hpo, Option.bind_eq_bind, Option.bind_some, Option.bind_eq_some_iff] at hpy'
          obtain ⟨up, z1, qq, z2, z3⟩ := hpy'
          have y1 := wq64 z1
          have y3 := wq64 z3
          have hjs : j = 0 ∨ j = 1 ∨ j = 2 ∨ j = 3 ∨ j = 4 ∨ j = 5 ∨ j = 6 ∨ j = 7 := by omega
          clear z1 z3
          rcases hjs with rfl | rfl | rfl | rfl | rfl | rfl | rfl | rfl
          · have y2 : ∀ t w, (binOp .quo t (.float .f64 up) (.float .f64 (floatOfInt .f64 272))).run Try.prog w = .ok (.float .f64 qq) w := wq64 z2
            clear z2
            go_wp2
            go_round
            case rel => exact ⟨_, hlt, by simp, _, rfl, hpy⟩
            case measure => simp [intOf]
          · have y2 : ∀ t w, (binOp .quo t (.float .f64 up) (.float .f64 (floatOfInt .f64 210))).run Try.prog w = .ok (.float .f64 qq) w := wq64 z2
            clear z2
            go_wp2
            go_round
            case rel => exact ⟨_, hlt, by simp, _, rfl, hpy⟩
            case measure => simp [intOf]
          · have y2 : ∀ t w, (binOp .quo t (.float .f64 up) (.float .f64 (floatOfInt .f64 156))).run Try.prog w = .ok (.float .f64 qq) w := wq64 z2
            clear z2
            go_wp2
            go_round
            case rel => exact ⟨_, hlt, by simp, _, rfl, hpy⟩
            case measure => simp [intOf]
          · have y2 : ∀ t w, (binOp .quo t (.float .f64 up) (.float .f64 (floatOfInt .f64 110))).run Try.prog w = .ok (.float .f64 qq) w := wq64 z2
            clear z2
            go_wp2
            go_round
            case rel => exact ⟨_, hlt, by simp, _, rfl, hpy⟩
            case measure => simp [intOf]
          · have y2 : ∀ t w, (binOp .quo t (.float .f64 up) (.float .f64 (floatOfInt .f64 72))).run Try.prog w = .ok (.float .f64 qq) w := wq64 z2
            clear z2
            go_wp2
            go_round
            case rel => exact ⟨_, hlt, by simp, _, rfl, hpy⟩
            case measure => simp [intOf]
          · have y2 : ∀ t w, (binOp .quo t (.float .f64 up) (.float .f64 (floatOfInt .f64 42))).run Try.prog w = .ok (.float .f64 qq) w := wq64 z2
            clear z2
            go_wp2
            go_round
            case rel => exact ⟨_, hlt, by simp, _, rfl, hpy⟩
            case measure => simp [intOf]
          · have y2 : ∀ t w, (binOp .quo t (.float .f64 up) (.float .f64 (floatOfInt .f64 20))).run Try.prog w = .ok (.float .f64 qq) w := wq64 z2
            clear z2
            go_wp2
            go_round
            case rel => exact ⟨_, hlt, by simp, _, rfl, hpy⟩
            case measure => simp [intOf]
          · have y2 : ∀ t w, (binOp .quo t (.float .f64 up) (.float .f64 (floatOfInt .f64 6))).run Try.prog w = .ok (.float .f64 qq) w := wq64 z2
            clear z2
            go_wp2
            go_round
            case rel => exact ⟨_, hlt, by simp, _, rfl, hpy⟩
            case measure => simp [intOf]
        · have hj8 : j = 8 := by omega
          subst hj8
          have hpp : p = pj := by have := H5.out; rw [hpo] at this; exact (Option.some.inj this).symm
          subst hpp
          go_wp2
          go_ret
          exact ⟨rfl, rfl⟩

/-- A fraction, less some quarters. -/
def quart (f : Nat) : Nat → Option Nat
  | 0 => some f
  | k + 1 => do
    let x ← quart f k
    fb .sub .f64 x 4598175219545276416
def spun (q c s : Nat) : Option (Nat × Nat) :=
  match q with
  | 0 => some (c, s)
  | 1 => (fb .sub .f64 0 s).map fun x => (x, c)
  | 2 => (fb .sub .f64 0 c).bind fun x => (fb .sub .f64 0 s).map fun y => (x, y)
  | _ => (fb .sub .f64 0 c).map fun y => (s, y)

structure Spin (t re im : Nat) (v : Rat) (f q g c s c' s' a : Nat) : Prop where
  ht : V64 t v
  far : ge64 (abs64 t) 4841369599423283200 = false
  hf : fractionB t = some f
  more : ∀ k, k < q → ∃ x y, quart f k = some x ∧ quart f (k + 1) = some y ∧ fb .sub .f64 x 4598175219545276416 = some y ∧ ge64 x 4598175219545276416 = true
  hg : quart f q = some g
  last : ge64 g 4598175219545276416 = false
  q3 : q ≤ 3
  ha : fb .sub .f64 4598175219545276416 g = some a
  hc : sineB a = some c
  hs : sineB g = some s
  hspun : spun q c s = some (c', s')
  hre : cv32 c' = some re
  him : cv32 s' = some im

set_option maxRecDepth 100000 in
set_option maxHeartbeats 2000000 in
theorem Phasor_walk {t re im : Nat} {v : Rat} {f q g c s c' s' a : Nat} (h : Spin t re im v f q g c s c' s' a) (ht : t < 18446744073709551616) (w : World) :
    Calls Try.prog 114 #[.float .f64 t] w fun e w' => e = .returned (.complex .f32 re im) ∧ w = w' := by
  have p1 := fun w => isFinite_walk h.ht w
  have p2 := fun w => Abs_walk ht w
  have p3 := fun w => fraction_walk h.hf w
  have p4 := fun w => sine_walk h.hc w
  have p5 := fun w => sine_walk h.hs w
  have o1 := wq64 h.ha
  have o2 := w32 h.hre
  have o3 := w32 h.him
  have hfar : (FloatKind.f64.format.order (abs64 t) 4841369599423283200 == some .gt || FloatKind.f64.format.order (abs64 t) 4841369599423283200 == some .eq) = false := h.far
  have H := Lib.hid h
  clear h ht
  go_enter Try.func114, Try.ntmps114
  go_wp2_with fail
  refine (p1 _).mono ?_; rintro e w' ⟨rfl, rfl⟩
  go_wp2_with fail
  refine (p2 _).mono ?_; rintro e w' ⟨rfl, rfl⟩
  go_wp2_with fail
  refine (p3 _).mono ?_; rintro e w' ⟨rfl, rfl⟩
  go_wp2_with fail
  go_loop [4, 5] (fun v i => ∃ k : Nat, k ≤ q ∧ i = .int .i64 k ∧ ∃ x, v = .float .f64 x ∧ quart f k = some x) (fun _ i => q - (intOf i).toNat)
  case atStart => exact ⟨0, by omega, rfl, _, rfl, rfl⟩
  case round =>
    obtain ⟨k, hk, rfl, x, rfl, hx⟩ := hrel
    have hq3 := H.out.q3
    rcases Nat.lt_or_ge k q with hlt | hge
    · obtain ⟨x', y, hx', hy, hxy, hge'⟩ := H.out.more k hlt
      have hxx : x = x' := by rw [hx] at hx'; exact Option.some.inj hx'
      subst hxx
      have o5 := wq64 hxy
      have o6 : (FloatKind.f64.format.order x 4598175219545276416 == some .gt || FloatKind.f64.format.order x 4598175219545276416 == some .eq) = true := hge'
      clear hxy hge' hx'
      go_wp2
      go_round
      case rel => exact ⟨k + 1, by omega, by simp, _, rfl, hy⟩
      case measure => simp [intOf]; omega
    · have hkq : k = q := by omega
      subst hkq
      have hxx : x = g := by have := H.out.hg; rw [hx] at this; exact Option.some.inj this
      subst hxx
      have o6 : (FloatKind.f64.format.order x 4598175219545276416 == some .gt || FloatKind.f64.format.order x 4598175219545276416 == some .eq) = false := H.out.last
      have hsp := H.out.hspun
      have hks : k = 0 ∨ k = 1 ∨ k = 2 ∨ k = 3 := by omega
      clear hx H
      rcases hks with rfl | rfl | rfl | rfl
      all_goals
        simp only [spun, Option.some.injEq, Prod.mk.injEq, Option.map_eq_some_iff, Option.bind_eq_some_iff] at hsp
      · obtain ⟨rfl, rfl⟩ := hsp
        go_wp2_with fail
        refine (p4 _).mono ?_; rintro e w' ⟨rfl, rfl⟩
        go_wp2_with fail
        refine (p5 _).mono ?_; rintro e w' ⟨rfl, rfl⟩
        go_wp2
        go_ret
        exact ⟨rfl, rfl⟩
      · obtain ⟨x1, z1, rfl, rfl⟩ := hsp
        have y1 := wq64 z1
        go_wp2_with fail
        refine (p4 _).mono ?_; rintro e w' ⟨rfl, rfl⟩
        go_wp2_with fail
        refine (p5 _).mono ?_; rintro e w' ⟨rfl, rfl⟩
        go_wp2
        go_ret
        exact ⟨rfl, rfl⟩
      · obtain ⟨x1, z1, x2, z2, rfl, rfl⟩ := hsp
        have y1 := wq64 z1
        have y2 := wq64 z2
        go_wp2_with fail
        refine (p4 _).mono ?_; rintro e w' ⟨rfl, rfl⟩
        go_wp2_with fail
        refine (p5 _).mono ?_; rintro e w' ⟨rfl, rfl⟩
        go_wp2
        go_ret
        exact ⟨rfl, rfl⟩
      · obtain ⟨x1, z1, rfl, rfl⟩ := hsp
        have y1 := wq64 z1
        go_wp2_with fail
        refine (p4 _).mono ?_; rintro e w' ⟨rfl, rfl⟩
        go_wp2_with fail
        refine (p5 _).mono ?_; rintro e w' ⟨rfl, rfl⟩
        go_wp2
        go_ret
        exact ⟨rfl, rfl⟩

end Go.Proofs.Ytgeiaafdholcbaa
