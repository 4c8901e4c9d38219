/-
  The walks of tunes and of the reference's sine.
-/
import Derived.Test.YtgeiaafdholcbaaT2
set_option linter.unusedVariables false
set_option linter.unusedSimpArgs false
namespace Go.Proofs.Ytgeiaafdholcbaa
open Go.RowKit FT

def rootB (x : Nat) : Option Nat := do
  let y ← cv64 x
  let r ← sq64 y
  cv32 r
def absB (x : Nat) : Option Nat := do
  let y ← cv64 x
  cv32 (abs64 y)

theorem Root_walk {x r : Nat} (h : rootB x = some r) (w : World) :
    Calls Try.prog 80 #[.float .f32 x] w fun e w' => e = .returned (.float .f32 r) ∧ w = w' := by
  simp only [rootB, Option.bind_eq_bind, Option.bind_eq_some_iff] at h
  obtain ⟨y, h1, s, h2, h3⟩ := h
  have o1 := w64 h1
  have o3 := w32 h3
  have p := fun w => sqrt_walk h2 w
  clear h1 h2 h3
  go_enter Try.func80, Try.ntmps80
  go_wp2_with fail
  refine (p _).mono ?_; rintro e w' ⟨rfl, rfl⟩
  go_wp2
  go_ret
  exact ⟨rfl, rfl⟩

theorem absolute_walk {x r : Nat} (h : absB x = some r) (w : World) :
    Calls Try.prog 81 #[.float .f32 x] w fun e w' => e = .returned (.float .f32 r) ∧ w = w' := by
  simp only [absB, Option.bind_eq_bind, Option.bind_eq_some_iff] at h
  obtain ⟨y, h1, h2⟩ := h
  have o1 := w64 h1
  have o2 := w32 h2
  have p := fun w => Abs_walk (cv64_lt h1) w
  clear h1 h2
  go_enter Try.func81, Try.ntmps81
  go_wp2_with fail
  refine (p _).mono ?_; rintro e w' ⟨rfl, rfl⟩
  go_wp2
  go_ret
  exact ⟨rfl, rfl⟩

set_option maxHeartbeats 1000000 in
theorem IsStable_walk {a : Option Addr} {l : List (Int × Nat)} {cap : Nat} {M : Nat → M4} {t u : Nat} {st : Bool} (w : World) (h : LineAt w a l) (hl : l.length ≤ 4) (hg : ∀ e ∈ l, GoodE e.1 e.2) (hM : Mats l M)
    (ht : fb .add .f32 (M l.length).a (M l.length).d = some t) (hu : absB t = some u) (hs : (FloatKind.f32.format.order u 1073741824 == some .lt) = st) :
    Calls Try.prog 35 #[.slice a l.length cap] w fun e w' => e = .returned (.bool st) ∧ Below w.heap.size w w' := by
  have p1 := ValidLine_walk (cap := cap) w h hl hg
  have p2 : Hid (∀ w', LineAt w' a l → Calls Try.prog _ _ w' _) := fun w' h' => matrixOf_walk (cap := cap) w' h' hl hM
  have p3 := fun w => absolute_walk hu w
  have o := wb ht
  have HL := Lib.hid h
  have HS := Lib.hid hs
  clear h hg hM hl ht hu hs
  generalize M l.length = m at *
  go_enter Try.func35, Try.ntmps35
  go_wp2_with fail
  refine p1.mono ?_; rintro e w1 ⟨rfl, hb1⟩
  go_wp2_with fail
  refine (p2.out _ (HL.out.below hb1)).mono ?_; rintro e w2 ⟨b, rfl, hm, hb2⟩
  have HB := Lib.hid (hb1.trans (hb2.mono hb1.size))
  obtain ⟨c0, c1, c2, c3, c4⟩ := hm
  clear hb1 hb2 p1 p2 c1 c2 c4
  generalize m.a = x at *
  generalize m.d = y at *
  go_wp2_with fail
  go_quiet ((exact Calls.quiet_of_same ((p3 _).mono fun _ _ ⟨h1, h2⟩ => ⟨h1, h2.symm⟩)))
  go_wp2
  go_ret
  exact ⟨by rw [← HS.out]; rfl, HB.out.trans (below_drewN _ _ _)⟩

theorem IsStable_no {a : Option Addr} {l : List (Int × Nat)} {cap : Nat} (w : World)
    (p1 : Calls Try.prog 35 #[.slice a l.length cap] w fun e w' => e = .returned (.bool false) ∧ Below w.heap.size w w') :
    Calls Try.prog 34 #[.slice a l.length cap] w fun e w' => e = .returned (.tuple #[.float .f32 0, .bool false]) ∧ Below w.heap.size w w' := by
  go_enter Try.func34, Try.ntmps34
  go_wp2_with fail
  refine p1.mono ?_; rintro e w1 ⟨rfl, hb1⟩
  go_wp2
  go_ret2
  exact ⟨rfl, hb1⟩

/-- The words of a tune. -/
structure TuneW (m : M4) (t tune : Nat) : Prop where
  ht : fb .add .f32 m.a m.d = some t
  go : ∃ c cc d r an x y, fb .quo .f32 t 1073741824 = some c ∧ fb .mul .f32 c c = some cc ∧ fb .sub .f32 1065353216 cc = some d ∧ rootB d = some r ∧ angleB r c = some an ∧ V32 r x ∧ V32 c y ∧ ¬ (x = 0 ∧ y = 0) ∧
    tune = if FloatKind.f32.format.order m.b 0 == some .lt then neg32 an else an

set_option maxHeartbeats 2000000 in
theorem TuneOf_walk {a : Option Addr} {l : List (Int × Nat)} {cap : Nat} {M : Nat → M4} {t tune : Nat} (w : World) (h : LineAt w a l) (hl : l.length ≤ 4) (hM : Mats l M)
    (p1 : Calls Try.prog 35 #[.slice a l.length cap] w fun e w' => e = .returned (.bool true) ∧ Below w.heap.size w w') (hT : TuneW (M l.length) t tune) :
    Calls Try.prog 34 #[.slice a l.length cap] w fun e w' => e = .returned (.tuple #[.float .f32 tune, .bool true]) ∧ Below w.heap.size w w' := by
  obtain ⟨ht, c, cc, d, r, an, x, y, e1, e2, e3, e4, e5, e6, e7, e8, rfl⟩ := hT
  have p2 : Hid (∀ w', LineAt w' a l → Calls Try.prog _ _ w' _) := fun w' h' => matrixOf_walk (cap := cap) w' h' hl hM
  have p3 := fun w => Root_walk e4 w
  have p4 := fun w => AngleTurns_walk e6 e7 e8 e5 w
  have o := wb ht
  have o1 := wb e1
  have o2 := wb e2
  have o3 := wb e3
  have ng := @run_neg_f32 Try.prog
  have HL := Lib.hid h
  clear h hM hl ht e1 e2 e3 e4 e5 e6 e7 e8
  generalize M l.length = m at *
  cases hq : (FloatKind.f32.format.order m.b 0 == some .lt)
  all_goals
    simp only [if_true, Bool.false_eq_true, if_false]
    go_enter Try.func34, Try.ntmps34
    go_wp2_with fail
    refine p1.mono ?_; rintro e w1 ⟨rfl, hb1⟩
    go_wp2_with fail
    refine (p2.out _ (HL.out.below hb1)).mono ?_; rintro e w2 ⟨b, rfl, hm, hb2⟩
    have HB := Lib.hid (hb1.trans (hb2.mono hb1.size))
    have HM := Lib.hid hm
    obtain ⟨c0, c1, c2, c3, c4⟩ := hm
    clear hb1 hb2 p1 p2 c1 c2 c4
    go_wp2_with fail
    go_quiet (fail)
    go_wp2_with fail
    refine (p3 _).mono ?_; rintro e w3 ⟨rfl, rfl⟩
    go_wp2_with fail
    refine (p4 _).mono ?_; rintro e w4 ⟨rfl, hb4⟩
    have HM4 := Lib.hid ((HM.out.below (below_drewN w2 _ w2.heap.size) HM.out.lt).below hb4 HM.out.lt)
    have HB4 := Lib.hid ((HB.out.trans (below_drewN w2 _ _)).trans (hb4.mono HB.out.size))
    obtain ⟨c0, c1, c2, c3, c4⟩ := HM4.out
    clear hb4 c0 c2 c3 c4 p3 p4 o o1 o2 o3 HM HB
    go_wp2
    go_ret2
    exact ⟨rfl, HB4.out⟩

/-! ## The reference's sine -/

def wideB (t : Nat) : Option Nat := do
  let f ← fb .sub .f64 t 0
  let f0 ← upB f
  let f1 ← offB t f0
  let f ← foldB f1
  let z ← fb .mul .f64 f 4618760256179416344
  let u ← fb .mul .f64 z z
  let p ← serB u 8
  let o ← fb .mul .f64 z p
  return signB (ge64 f0 4602678819172646912) o

/-- A word of a number of turns that lies between -1 and 1. -/
structure Turn1 (t : Nat) : Prop where
  fin : ∃ v, V64 t v
  hi : (FloatKind.f64.format.order t 4841369599423283200 == some .gt || FloatKind.f64.format.order t 4841369599423283200 == some .eq) = false
  lo : (FloatKind.f64.format.order t 14064741636278059008 == some .lt || FloatKind.f64.format.order t 14064741636278059008 == some .eq) = false
  int : floatToIntVal .f64 t .i64 = some 0

set_option maxRecDepth 100000 in
set_option maxHeartbeats 4000000 in
theorem Wide_walk {t r : Nat} (ht : Turn1 t) (h : wideB t = some r) (w : World) :
    Calls Try.prog 111 #[.float .f64 t] w fun e w' => e = .returned (.float .f64 r) ∧ w = w' := by
  simp only [wideB, Option.bind_eq_bind, Option.bind_eq_some_iff, Option.pure_def, Option.some.injEq] at h
  obtain ⟨f00, h00, f0, h0, f1, h1, f, h2, z, h3, u, h4, p, h5, o, h6, h7⟩ := h
  obtain ⟨⟨v, hv⟩, hhi, hlo, hint⟩ := ht
  obtain ⟨z0, hz1, hz2⟩ := self_sub hv
  have oz := wq64 hz1
  have hz3 : (FloatKind.f64.format.order z0 0 != some .eq) = false := by rw [hz2]; rfl
  have oi : ∀ w, (convert 33 2 (.float .f64 t)).run Try.prog w = .ok (.int .i64 0) w := fun w => run_convert_float_int w 33 2 .f64 .i64 t 0 uF64 Try.underlying2 hint
  have of : ∀ w, (convert 2 33 (.int .i64 0)).run Try.prog w = .ok (.float .f64 0) w := fun w => by kernel_rfl
  have q00 := wq64 h00
  have q3 := wq64 h3
  have q4 := wq64 h4
  have q6 := wq64 h6
  have H5 := Lib.hid h5
  have ng := run_neg_f64
  unfold upB at h0
  unfold offB at h1
  unfold foldB at h2
  unfold signB at h7
  have hlt : (FloatKind.f64.format.order f00 0 == some .lt) = lt64 f00 0 := rfl
  have hge : (FloatKind.f64.format.order f0 4602678819172646912 == some .gt || FloatKind.f64.format.order f0 4602678819172646912 == some .eq) = ge64 f0 4602678819172646912 := rfl
  have hgt : (FloatKind.f64.format.order f1 4598175219545276416 == some .gt) = gt64 f1 4598175219545276416 := rfl
  clear h00 h3 h4 h5 h6 hv hz1 hz2 hint
  by_cases g0 : lt64 f00 0 = true
  all_goals
    by_cases g1 : ge64 f0 4602678819172646912 = true
    all_goals
      by_cases g2 : gt64 f1 4598175219545276416 = true
      all_goals
        simp only [g0, if_true, if_false, Bool.false_eq_true] at hlt h0
        simp only [g1, if_true, if_false, Bool.false_eq_true] at hge h1 h7
        simp only [g2, if_true, if_false, Bool.false_eq_true] at hgt h2
        subst h7
        first
          | have o0 := wq64 h0
          | obtain rfl := Option.some.inj h0
        first
          | have o1 := wq64 h1
          | obtain rfl := Option.some.inj h1
        first
          | have o2 := wq64 h2
          | obtain rfl := Option.some.inj h2
        go_enter Try.func111, Try.ntmps111
        go_wp2_with fail
        go_loop [7, 8] (fun v i => ∃ j : Nat, j ≤ 8 ∧ i = .int .i64 (8 - (j : Int)) ∧ ∃ pj, v = .float .f64 pj ∧ serB u j = some pj) (fun _ i => (intOf i).toNat)
        case atStart => exact ⟨0, by omega, rfl, _, rfl, rfl⟩
        case round =>
          obtain ⟨j, hj, rfl, pj, rfl, hpo⟩ := hrel
          rcases Nat.lt_or_ge j 8 with hlt | hge
          · obtain ⟨py, hpy⟩ := serB_before H5.out (j + 1) hlt
            have hpy' := hpy
            simp only [serB, hpo, Option.bind_eq_bind, Option.bind_some, Option.bind_eq_some_iff] at hpy'
            obtain ⟨up, z1, qq, z2, z3⟩ := hpy'
            have y1 := wq64 z1
            have y3 := wq64 z3
            have hjs : j = 0 ∨ j = 1 ∨ j = 2 ∨ j = 3 ∨ j = 4 ∨ j = 5 ∨ j = 6 ∨ j = 7 := by omega
            clear z1 z3
            rcases hjs with rfl | rfl | rfl | rfl | rfl | rfl | rfl | rfl
            · have y2 : ∀ t w, (binOp .quo t (.float .f64 up) (.float .f64 (floatOfInt .f64 272))).run Try.prog w = .ok (.float .f64 qq) w := wq64 z2
              clear z2
              go_wp2
              go_round
              case rel => exact ⟨_, hlt, by simp, _, rfl, hpy⟩
              case measure => simp [intOf]
            · have y2 : ∀ t w, (binOp .quo t (.float .f64 up) (.float .f64 (floatOfInt .f64 210))).run Try.prog w = .ok (.float .f64 qq) w := wq64 z2
              clear z2
              go_wp2
              go_round
              case rel => exact ⟨_, hlt, by simp, _, rfl, hpy⟩
              case measure => simp [intOf]
            · have y2 : ∀ t w, (binOp .quo t (.float .f64 up) (.float .f64 (floatOfInt .f64 156))).run Try.prog w = .ok (.float .f64 qq) w := wq64 z2
              clear z2
              go_wp2
              go_round
              case rel => exact ⟨_, hlt, by simp, _, rfl, hpy⟩
              case measure => simp [intOf]
            · have y2 : ∀ t w, (binOp .quo t (.float .f64 up) (.float .f64 (floatOfInt .f64 110))).run Try.prog w = .ok (.float .f64 qq) w := wq64 z2
              clear z2
              go_wp2
              go_round
              case rel => exact ⟨_, hlt, by simp, _, rfl, hpy⟩
              case measure => simp [intOf]
            · have y2 : ∀ t w, (binOp .quo t (.float .f64 up) (.float .f64 (floatOfInt .f64 72))).run Try.prog w = .ok (.float .f64 qq) w := wq64 z2
              clear z2
              go_wp2
              go_round
              case rel => exact ⟨_, hlt, by simp, _, rfl, hpy⟩
              case measure => simp [intOf]
            · have y2 : ∀ t w, (binOp .quo t (.float .f64 up) (.float .f64 (floatOfInt .f64 42))).run Try.prog w = .ok (.float .f64 qq) w := wq64 z2
              clear z2
              go_wp2
              go_round
              case rel => exact ⟨_, hlt, by simp, _, rfl, hpy⟩
              case measure => simp [intOf]
            · have y2 : ∀ t w, (binOp .quo t (.float .f64 up) (.float .f64 (floatOfInt .f64 20))).run Try.prog w = .ok (.float .f64 qq) w := wq64 z2
              clear z2
              go_wp2
              go_round
              case rel => exact ⟨_, hlt, by simp, _, rfl, hpy⟩
              case measure => simp [intOf]
            · have y2 : ∀ t w, (binOp .quo t (.float .f64 up) (.float .f64 (floatOfInt .f64 6))).run Try.prog w = .ok (.float .f64 qq) w := wq64 z2
              clear z2
              go_wp2
              go_round
              case rel => exact ⟨_, hlt, by simp, _, rfl, hpy⟩
              case measure => simp [intOf]
          · have hj8 : j = 8 := by omega
            subst hj8
            have hpp : p = pj := by have := H5.out; rw [hpo] at this; exact (Option.some.inj this).symm
            subst hpp
            go_wp2
            go_ret
            exact ⟨rfl, rfl⟩

def sineT (x : Nat) : Option Nat := do
  let t ← cv64 x
  let s ← wideB t
  cv32 s

theorem SineTurns_walk {x t r : Nat} (h1 : cv64 x = some t) (ht : Turn1 t) (h : sineT x = some r) (w : World) :
    Calls Try.prog 36 #[.float .f32 x] w fun e w' => e = .returned (.float .f32 r) ∧ w = w' := by
  simp only [sineT, h1, Option.bind_eq_bind, Option.bind_some, Option.bind_eq_some_iff] at h
  obtain ⟨s, h2, h3⟩ := h
  have o1 := w64 h1
  have o3 := w32 h3
  have p := fun w => Wide_walk ht h2 w
  have p1 : ∀ w, Calls Try.prog 110 #[.float .f64 s] w fun e w' => e = .returned (.float .f32 r) ∧ w = w' := by
    intro w
    clear p o1 h1 ht h2 h3
    go_enter Try.func110, Try.ntmps110
    go_wp2
    go_ret
    exact ⟨rfl, rfl⟩
  have p2 : ∀ w, Calls Try.prog 82 #[.float .f32 x] w fun e w' => e = .returned (.float .f32 r) ∧ w = w' := by
    intro w
    clear o3 h1 ht h2 h3
    go_enter Try.func82, Try.ntmps82
    go_wp2_with fail
    refine (p _).mono ?_; rintro e w' ⟨rfl, rfl⟩
    go_wp2_with fail
    refine (p1 _).mono ?_; rintro e w' ⟨rfl, rfl⟩
    go_wp2
    go_ret
    exact ⟨rfl, rfl⟩
  clear o1 o3 h1 ht h2 h3 p p1
  go_enter Try.func36, Try.ntmps36
  go_wp2_with fail
  refine (p2 _).mono ?_; rintro e w' ⟨rfl, rfl⟩
  go_wp2
  go_ret
  exact ⟨rfl, rfl⟩

end Go.Proofs.Ytgeiaafdholcbaa
