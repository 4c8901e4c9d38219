/-
  The walks of absolute values, bits and angles.
-/
import Derived.Test.YtgblehdamgliaaaW8
import Derived.Test.YtgblehdamgliaaaAng
set_option linter.unusedVariables false
set_option linter.unusedSimpArgs false
namespace Go.Proofs.Ytgblehdamgliaaa
open Go.RowKit FT

theorem andNot_top (x : Nat) (h : x < 18446744073709551616) : bits .andNot .u64 (x : Int) 9223372036854775808 = ((abs64 x : Nat) : Int) := by
  have h1 := u64_andNot_nat x 9223372036854775808 h (by decide)
  have h2 : x &&& (18446744073709551615 - 9223372036854775808) = x % 9223372036854775808 := Nat.and_two_pow_sub_one_eq_mod x 63
  rw [h2] at h1
  exact h1

theorem Abs_walk {x : Nat} (h : x < 18446744073709551616) (w : World) :
    Calls Try.prog 50 #[.float .f64 x] w fun e w' => e = .returned (.float .f64 (abs64 x)) ∧ w = w' := by
  have hd1 : ∀ w, (callFunc 65 #[.float .f64 x]).run Try.prog w = .ok (.value (.int .u64 (x : Int))) w := fun w => by
    rw [run_callFunc_extern (fn := Try.f65) (e := Extern.MathFloatBits.float64bits) Try.func65 (by kernel_rfl) (by kernel_rfl) (by kernel_rfl) (by kernel_rfl)]
    rfl
  have hd2 : ∀ w, (callFunc 64 #[.int .u64 ((abs64 x : Nat) : Int)]).run Try.prog w = .ok (.value (.float .f64 (abs64 x))) w := fun w => by
    rw [run_callFunc_extern (fn := Try.f64) (e := Extern.MathFloatBits.float64frombits) Try.func64 (by kernel_rfl) (by kernel_rfl) (by kernel_rfl) (by kernel_rfl)]
    rfl
  have hb := andNot_top x h
  clear h
  generalize abs64 x = y at *
  go_enter Try.func50, Try.ntmps50
  go_wp2
  go_ret
  exact ⟨rfl, rfl⟩

theorem BitsOf_walk {x : Nat} {a : Rat} (h : V32 x a) (w : World) :
    Calls Try.prog 52 #[.float .f32 x] w fun e w' => e = .returned (.int .i64 (wrap64 x)) ∧ w = w' := by
  have hd1 : ∀ w, (callFunc 66 #[.float .f32 x]).run Try.prog w = .ok (.value (.int .u32 (x : Int))) w := fun w => by
    rw [run_callFunc_extern (fn := Try.f66) (e := Extern.MathFloatBits.float32bits) Try.func66 (by kernel_rfl) (by kernel_rfl) (by kernel_rfl) (by kernel_rfl)]
    rfl
  have ho : FloatKind.f32.format.order x x = some .eq := by
    have := order_eq h h
    rw [if_neg Rat.lt_irrefl, if_pos rfl] at this
    exact this
  clear h
  go_enter Try.func52, Try.ntmps52
  go_wp2
  go_ret
  exact ⟨rfl, rfl⟩

theorem SameNumber_walk {x : Nat} {a : Rat} (h : V32 x a) (w : World) :
    Calls Try.prog 23 #[.float .f32 x, .float .f32 x] w fun e w' => e = .returned (.bool true) ∧ w = w' := by
  have p1 := fun w => BitsOf_walk h w
  clear h
  go_enter Try.func23, Try.ntmps23
  go_wp2_with fail
  refine (p1 _).mono ?_; rintro e w' ⟨rfl, rfl⟩
  go_wp2_with fail
  refine (p1 _).mono ?_; rintro e w' ⟨rfl, rfl⟩
  generalize wrap64 (x : Int) = y
  go_wp2
  go_ret
  exact ⟨rfl, rfl⟩

theorem within_yes (n lo hi : Int) (h1 : lo ≤ n) (h2 : n ≤ hi) (w : World) :
    Calls Try.prog 63 #[.int .i64 n, .int .i64 lo, .int .i64 hi] w fun e w' => e = .returned (.bool true) ∧ w = w' := by
  go_enter Try.func63, Try.ntmps63
  go_wp2
  go_ret
  exact ⟨rfl, rfl⟩

theorem isSteps_walk (w : World) :
    Calls Try.prog 47 #[.int .i64 6] w fun e w' => e = .returned (.bool true) ∧ w = w' := by
  go_enter Try.func47, Try.ntmps47
  go_wp2_with fail
  refine (within_yes _ _ _ (by decide) (by decide) _).mono ?_; rintro e w' ⟨rfl, rfl⟩
  go_wp2
  go_ret
  exact ⟨rfl, rfl⟩

theorem iterT_before {t : Nat} : ∀ {n : Nat} {r : Nat}, iterT t n = some r → ∀ k, k ≤ n → ∃ x, iterT t k = some x := by
  intro n
  induction n with
  | zero => intro r h k hk; have h0 : k = 0 := by omega
            subst h0; exact ⟨_, h⟩
  | succ n ih =>
    intro r h k hk
    rcases Nat.lt_or_ge n k with h1 | h1
    · obtain rfl : k = n + 1 := by omega
      exact ⟨_, h⟩
    · simp only [iterT, Option.bind_eq_bind, Option.bind_eq_some_iff] at h
      obtain ⟨x, h2, _⟩ := h
      exact ih h2 k h1
theorem iterT_step {t n x : Nat} (h : iterT t n = some x) {m r : Nat} (hm : n < m) (hr : iterT t m = some r) : ∃ y, stepT x = some y ∧ iterT t (n + 1) = some y := by
  obtain ⟨y, hy⟩ := iterT_before hr (n + 1) hm
  refine ⟨y, ?_, hy⟩
  simp only [iterT, h, Option.bind_eq_bind, Option.bind_some] at hy
  exact hy
theorem polyB_before {u : Nat} : ∀ {n : Nat} {r : Nat}, polyB u n = some r → ∀ k, k ≤ n → ∃ x, polyB u k = some x := by
  intro n
  induction n with
  | zero => intro r h k hk; have h0 : k = 0 := by omega
            subst h0; exact ⟨_, h⟩
  | succ n ih =>
    intro r h k hk
    rcases Nat.lt_or_ge n k with h1 | h1
    · obtain rfl : k = n + 1 := by omega
      exact ⟨_, h⟩
    · simp only [polyB, Option.bind_eq_bind, Option.bind_eq_some_iff] at h
      obtain ⟨x, h2, _⟩ := h
      exact ih h2 k h1

theorem wq64 {op : BinOp} {x y r : Nat} (h : fb op .f64 x y = some r) : ∀ t w, (binOp op t (.float .f64 x) (.float .f64 y)).run Try.prog w = .ok (.float .f64 r) w := wb h

theorem run_neg_f64 (x : Nat) (w : World) : (Op.unary .neg (.float .f64 x)).run Try.prog w = .ok (.float .f64 (neg64 x)) w := rfl

set_option maxRecDepth 100000 in
set_option maxHeartbeats 2000000 in
theorem AngleTurns_walk {y x r : Nat} {a b : Rat} (hy : V32 y a) (hx : V32 x b) (hne : ¬ (a = 0 ∧ b = 0)) (h : angleB y x = some r) (w : World) :
    Calls Try.prog 53 #[.float .f32 y, .float .f32 x] w fun e w' => e = .returned (.float .f32 r) ∧ Below w.heap.size w w' := by
  simp only [angleB, angA, Option.bind_eq_bind, Option.bind_eq_some_iff] at h
  obtain ⟨y', hy', x', hx', an, ⟨t0, h0, t1, h1, t3, h3, u, h4, p, h5, tp, h6, e, h7, an0, h8, h9⟩, an2, h10, h11⟩ := h
  have pf := fun w bl hx1 hy1 => areFinite_walk hx hy w bl hx1 hy1
  have pa := fun w => Abs_walk (cv64_lt hy') w
  have pb := fun w => Abs_walk (cv64_lt hx') w
  have oy := w64 hy'
  have ox := w64 hx'
  have q0 := wq64 h0
  have q4 := wq64 h4
  have q6 := wq64 h6
  have q7 := wq64 h7
  have q8 := wq64 h8
  have q11 := w32 h11
  have ng := run_neg_f64
  have H3 := Lib.hid h3
  have H5 := Lib.hid h5
  -- not both are zero
  have hz : (FloatKind.f32.format.order x 0 == some .eq) = false ∨ (FloatKind.f32.format.order x 0 == some .eq) = true ∧ (FloatKind.f32.format.order y 0 == some .eq) = false := by
    have e1 : FloatKind.f32.format.order x 0 = _ := order_eq hx zero32
    have e2 : FloatKind.f32.format.order y 0 = _ := order_eq hy zero32
    rw [e1, e2]
    by_cases hb : b = 0
    · right
      subst hb
      have ha : a ≠ 0 := fun ha => hne ⟨ha, rfl⟩
      rw [if_neg Rat.lt_irrefl, if_pos rfl, if_neg ha]
      refine ⟨rfl, ?_⟩
      split <;> rfl
    · left
      rw [if_neg hb]
      split <;> rfl
  have hB : (FloatKind.f64.format.order (abs64 y') (abs64 x') == some .gt) = bigB (abs64 y') (abs64 x') := rfl
  have hX : (FloatKind.f32.format.order x 0 == some .lt) = negB x := rfl
  have hY : (FloatKind.f32.format.order y 0 == some .lt) = negB y := rfl
  unfold pickT at h1
  unfold turnQ at h9
  unfold turnX at h10
  unfold turnY at q11 h11
  clear hy hx hne hy' hx' h0 h3 h4 h5 h6 h7 h8 h11
  go_enter Try.func53, Try.ntmps53
  go_wp2_with fail
  refine (pf _ _ (by simp) (by simp)).mono ?_; rintro e' w' ⟨rfl, rfl⟩
  rcases hz with hz | ⟨hz, hz'⟩
  all_goals
    go_wp2_with fail
    refine (pa _).mono ?_; rintro e1 w1 ⟨rfl, rfl⟩
    go_wp2_with fail
    refine (pb _).mono ?_; rintro e1 w1 ⟨rfl, rfl⟩
    by_cases g1 : bigB (abs64 y') (abs64 x') = true
    all_goals
      first
        | (simp only [g1, if_true] at hB h1 h9
           have q1 := wq64 h1
           have q9 := wq64 h9)
        | (simp only [g1, Bool.false_eq_true, if_false] at hB h1 h9
           obtain rfl := (Option.some.inj h1).symm
           obtain rfl := (Option.some.inj h9).symm)
      go_wp2_with fail
      go_loop [7, 42] (fun v i => ∃ k : Nat, k ≤ 3 ∧ i = .int .i64 k ∧ ∃ tk, v = .float .f64 tk ∧ iterT t1 k = some tk) (fun _ i => 3 - (intOf i).toNat)
      case atStart => exact ⟨0, by omega, rfl, _, rfl, rfl⟩
      case round =>
        obtain ⟨k, hk, rfl, tk, rfl, hit⟩ := hrel
        rcases Nat.lt_or_ge k 3 with hlt | hge
        · obtain ⟨ty, hst, hit'⟩ := iterT_step hit hlt H3.out
          simp only [stepT, Option.bind_eq_bind, Option.bind_eq_some_iff] at hst
          obtain ⟨tt, z1, ss, z2, rr, z3, dd, z4, z5⟩ := hst
          have y1 := wq64 z1
          have y2 := wq64 z2
          have y4 := wq64 z4
          have y5 := wq64 z5
          have ps := fun w => sqrt_walk z3 w
          clear z1 z2 z3 z4 z5
          have i1 : (k : Int) < 3 := by omega
          go_wp2_with fail
          refine (ps _).mono ?_; rintro e1 w1 ⟨rfl, rfl⟩
          go_wp2
          go_round
          case rel => exact ⟨k + 1, by omega, by simp, _, rfl, hit'⟩
          case measure => simp [intOf]; omega
        · have hk3 : k = 3 := by omega
          subst hk3
          have htt : t3 = tk := by have := H3.out; rw [hit] at this; exact (Option.some.inj this).symm
          subst htt
          go_wp2_with fail
          go_loop [9, 10] (fun v i => ∃ j : Nat, j ≤ 8 ∧ i = .int .i64 (15 - 2 * (j : Int)) ∧ ∃ pj, v = .float .f64 pj ∧ polyB u j = some pj) (fun _ i => (intOf i + 1).toNat)
          case atStart => exact ⟨0, by omega, rfl, _, rfl, rfl⟩
          case round =>
            obtain ⟨j, hj, rfl, pj, rfl, hpo⟩ := hrel
            rcases Nat.lt_or_ge j 8 with hlt | hge
            · obtain ⟨py, hpy⟩ := polyB_before H5.out (j + 1) hlt
              have hpy' := hpy
              simp only [polyB, hpo, Option.bind_eq_bind, Option.bind_some, Option.bind_eq_some_iff] at hpy'
              obtain ⟨qq, z1, up, z2, z3⟩ := hpy'
              have y1 := wq64 z1
              have y2 := wq64 z2
              have y3 := wq64 z3
              have i1 : (1 : Int) ≤ 15 - 2 * (j : Int) := by omega
              clear z1 z2 z3
              go_wp2
              go_round
              case rel => exact ⟨j + 1, by omega, by simp; omega, _, rfl, hpy⟩
              case measure => simp [intOf]; omega
            · have hj8 : j = 8 := by omega
              subst hj8
              have hpp : p = pj := by have := H5.out; rw [hpo] at this; exact (Option.some.inj this).symm
              subst hpp
              by_cases g2 : negB x = true
              all_goals
                first
                  | (simp only [turnX, g2, if_true] at h10 hX
                     have q10 := wq64 h10)
                  | (simp only [turnX, g2, Bool.false_eq_true, if_false] at h10 hX
                     obtain rfl := (Option.some.inj h10).symm)
                by_cases g3 : negB y = true
                all_goals
                  simp only [g3, if_true, Bool.false_eq_true, if_false] at hY q11
                  go_wp2
                  go_ret
                  exact ⟨rfl, (Below.refl _ _).alloc (Nat.le_refl _) _⟩

end Go.Proofs.Ytgblehdamgliaaa
