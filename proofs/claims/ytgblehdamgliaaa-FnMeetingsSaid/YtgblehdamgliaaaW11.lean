/-
  The walks of what is told of an orbit: its turns, its radius and its centre.
-/
import Derived.Test.YtgblehdamgliaaaW10
set_option linter.unusedVariables false
set_option linter.unusedSimpArgs false
namespace Go.Proofs.Ytgblehdamgliaaa
open Go.RowKit FT

theorem AngleOf_walk {re im r : Nat} {a b : Rat} (hre : V32 re a) (him : V32 im b) (hne : ¬ (b = 0 ∧ a = 0)) (h : angleB im re = some r) (w : World) :
    Calls Try.prog 24 #[.complex .f32 re im] w fun e w' => e = .returned (.float .f32 r) ∧ Below w.heap.size w w' := by
  have p1 := fun w => AngleTurns_walk him hre hne h w
  clear hre him hne h
  go_enter Try.func24, Try.ntmps24
  go_wp2_with fail
  refine (p1 _).mono ?_; rintro e w1 ⟨rfl, hb⟩
  go_wp2
  go_ret
  exact ⟨rfl, hb⟩

theorem TurnsOf_walk {ax ay sx sy ch ms mg tk re im r : Nat} {u v x y z : Rat} (hp : PW ax ay sx sy ch ms) (h : turnB ch ms mg tk = some (re, im)) (hr : V32 re u) (hi : V32 im v) (hg : V32 mg x) (ht : V32 tk y)
    (hne : ¬ (v = 0 ∧ u = 0)) (ha : angleB im re = some r) (hz : V32 r z) (w : World) :
    Calls Try.prog 22 #[.agg #[.complex .f32 ax ay, .complex .f32 sx sy, .float .f32 ch, .float .f32 ms], .float .f32 mg, .float .f32 tk] w fun e w' => e = .returned (.tuple #[.float .f32 r, .bool true]) ∧ Below w.heap.size w w' := by
  have p1 := fun w => TurnOf_walk hp h hr hi hg ht w
  have p2 := fun w => AngleOf_walk hr hi hne ha w
  have p3 := fun w => finite_walk hz w
  clear hp h hr hi hg ht hne ha hz
  go_enter Try.func22, Try.ntmps22
  go_wp2_with fail
  refine (p1 _).mono ?_; rintro e w1 ⟨rfl, hb1⟩
  go_wp2_with fail
  refine (p2 _).mono ?_; rintro e w2 ⟨rfl, hb2⟩
  go_wp2_with fail
  refine (p3 _).mono ?_; rintro e w3 ⟨rfl, rfl⟩
  go_wp2
  go_ret2
  exact ⟨rfl, ((Below.refl _ _).alloc (Nat.le_refl _) _).trans ((hb1.mono (by simp)).trans (hb2.mono (by have := hb1.size; simp at this; omega)))⟩

/-- |pull * magnet|. -/
def whirlB (ch ms mg : Nat) : Option Nat := do
  let pl ← pullB ch ms
  let x ← fb .mul .f32 pl mg
  let x ← cv64 x
  cv32 (abs64 x)

theorem Radius_walk {ax ay sx sy ch ms mg pl wh l r : Nat} {x y z : Rat} (hp : PW ax ay sx sy ch ms) (hpl : pullB ch ms = some pl) (hplv : V32 pl y) (h : whirlB ch ms mg = some wh) (hl : longC sx sy = some l) (hr : fb .quo .f32 l wh = some r) (hz : V32 r z) (hg : V32 mg x) (w : World) :
    Calls Try.prog 20 #[.agg #[.complex .f32 ax ay, .complex .f32 sx sy, .float .f32 ch, .float .f32 ms], .float .f32 mg] w fun e w' => e = .returned (.tuple #[.float .f32 r, .bool true]) ∧ Below w.heap.size w w' := by
  simp only [whirlB, hpl, Option.bind_eq_bind, Option.bind_some, Option.bind_eq_some_iff] at h
  obtain ⟨q, m1, q', m2, m3⟩ := h
  have p1 := fun w => PullOf_walk hp hpl hplv w
  have p2 := fun w => longC_walk hl w
  have p3 := fun w => finite_walk hz w
  have p4 := fun w => Abs_walk (cv64_lt m2) w
  have p5 := fun w => IsFinite_walk hg w
  have o1 := wb m1
  have o2 := w64 m2
  have o3 := w32 m3
  have o4 := wb hr
  clear hp hpl hplv m1 m2 m3 hl hr hz hg
  go_enter Try.func20, Try.ntmps20
  go_wp2_with fail
  refine (p1 _).mono ?_; rintro e w1 ⟨rfl, hb1⟩
  obtain ⟨hc, hf⟩ := bcell hb1
  have c1 : w1.cell? ⟨w.heap.size, 1, none⟩ = some (.complex .f32 sx sy) := by rw [hc _ _ (by simp)]; simp
  clear hc hf
  go_wp2_with fail
  refine (p4 _).mono ?_; rintro e w2 ⟨rfl, rfl⟩
  go_wp2_with fail
  first
    | (refine (p2 _).mono ?_; rintro e w2 ⟨rfl, rfl⟩)
    | (refine (p5 _).mono ?_; rintro e w2 ⟨rfl, rfl⟩)
  go_wp2_with fail
  first
    | (refine (p2 _).mono ?_; rintro e w2 ⟨rfl, rfl⟩)
    | (refine (p5 _).mono ?_; rintro e w2 ⟨rfl, rfl⟩)
  go_wp2_with fail
  refine (p3 _).mono ?_; rintro e w2 ⟨rfl, rfl⟩
  go_wp2
  go_ret2
  exact ⟨rfl, ((Below.refl _ _).alloc (Nat.le_refl _) _).trans (hb1.mono (by simp))⟩

theorem Centre_walk {ax ay sx sy ch ms mg pl wh r1 i1 r2 i2 r3 i3 : Nat} {x y z : Rat} (hp : PW ax ay sx sy ch ms) (hpl : pullB ch ms = some pl) (h : fb .mul .f32 pl mg = some wh) (h1 : mulC 0 1065353216 sx sy = some (r1, i1)) (h2 : quoC r1 i1 wh 0 = some (r2, i2)) (h3 : lessC ax ay r2 i2 = some (r3, i3)) (hy : V32 r3 y) (hz : V32 i3 z) (hg : V32 mg x) (w : World) :
    Calls Try.prog 21 #[.agg #[.complex .f32 ax ay, .complex .f32 sx sy, .float .f32 ch, .float .f32 ms], .float .f32 mg] w fun e w' => e = .returned (.tuple #[.complex .f32 r3 i3, .bool true]) ∧ Below w.heap.size w w' := by
  have p1 := fun w => pull_walk (ax := ax) (ay := ay) (sx := sx) (sy := sy) hpl w
  have p2 := fun w => mulC_walk h1 w
  have p3 := fun w => quoC_walk h2 w
  have p4 := fun w => lessC_walk h3 w
  have p5 := fun w => finiteComplex_walk hy hz w
  have p6 := fun w => hp.valid w
  have p7 := fun w => IsFinite_walk hg w
  have o1 := wb h
  clear hp hpl h h1 h2 h3 hy hz hg
  go_enter Try.func21, Try.ntmps21
  go_wp2_with fail
  refine (p1 _).mono ?_; rintro e w1 ⟨rfl, hb1⟩
  obtain ⟨hc, hf⟩ := bcell hb1
  have hz := hb1.size
  go_wp2_with fail
  have c0 := fun p : GB (w.heap.size + 1) w1 => GB.cell (o := 0) (v := .complex .f32 ax ay) (Nat.lt_succ_self _) (by rw [hc _ _ (by simp)]; simp) p
  have c1 := fun p : GB (w.heap.size + 1) w1 => GB.cell (o := 1) (v := .complex .f32 sx sy) (Nat.lt_succ_self _) (by rw [hc _ _ (by simp)]; simp) p
  have c2 := fun p : GB (w.heap.size + 1) w1 => GB.cell (o := 2) (v := .float .f32 ch) (Nat.lt_succ_self _) (by rw [hc _ _ (by simp)]; simp) p
  have c3 := fun p : GB (w.heap.size + 1) w1 => GB.cell (o := 3) (v := .float .f32 ms) (Nat.lt_succ_self _) (by rw [hc _ _ (by simp)]; simp) p
  simp at hz
  clear hc hf
  refine wp_region_gb (B := w.heap.size + 1) (by kernel_rfl) (by kernel_rfl) ?_
  repeat (go_big_quiet_step (fail))
  go_big_quiet_step ((exact gb_same (p2 _)))
  repeat (go_big_quiet_step (fail))
  go_big_quiet_step ((exact gb_same (p3 _)))
  repeat (go_big_quiet_step (fail))
  go_big_quiet_step ((exact gb_same (p4 _)))
  repeat (go_big_quiet_step (fail))
  refine wpQuiet_nil ?_
  intro _ hw'
  obtain ⟨q, rfl⟩ := hw'
  have d0 := c0 q
  have d1 := c1 q
  have d2 := c2 q
  have d3 := c3 q
  have hb2 := q.h
  clear c0 c1 c2 c3
  generalize q.w = wq at *
  go_wp2_with fail
  refine (p6 _).mono ?_; rintro e w2 ⟨rfl, hb3⟩
  go_wp2_with fail
  refine (p7 _).mono ?_; rintro e w3 ⟨rfl, rfl⟩
  go_wp2_with fail
  refine (p5 _).mono ?_; rintro e w4 ⟨rfl, rfl⟩
  go_wp2
  go_ret2
  have h2 := ((Below.refl w.heap.size w).alloc (Nat.le_refl _) _).trans (hb1.mono (by simp))
  exact ⟨rfl, (h2.trans (hb2.mono (by simp))).trans (hb3.mono (h2.trans (hb2.mono (by simp))).size)⟩

/-- The bits of a 32-bit not-a-number that the tape gives. -/
def tn32 (x y : Nat) (w : World) : Nat := (Question.nanBits .f32 x y).cut (w.tape w.drawn (.nanBits .f32 x y))
theorem tn32_nan (x y : Nat) (w : World) : NaN32 (tn32 x y w) := nan_cut32 _
theorem run_nan_quo32 {P : Program} {x y : Nat} (h : fb .quo .f32 x y = none) (t : TypeId) (w : World) : (binOp .quo t (.float .f32 x) (.float .f32 y)).run P w = .ok (.float .f32 (tn32 x y w)) w.drew := by
  have h' : FloatKind.f32.format.div x y = none := h
  simp [binOp, Op.floatArith, h', tn32, Question.forced]
theorem run_nan_sub32 {P : Program} {x y : Nat} (h : fb .sub .f32 x y = none) (t : TypeId) (w : World) : (binOp .sub t (.float .f32 x) (.float .f32 y)).run P w = .ok (.float .f32 (tn32 x y w)) w.drew := by
  have h' : FloatKind.f32.format.sub x y = none := h
  simp [binOp, Op.floatArith, h', tn32, Question.forced]
theorem nan_sub32 {x y : Nat} (h : NaN32 y) : fb .sub .f32 x y = none := by
  obtain ⟨s, t, h⟩ := h
  show Ieee.single.sub x y = none
  unfold Ieee.Format.sub
  rw [h]
  cases Ieee.single.read x <;> rfl

/-- A 32-bit word that is no finite number. -/
def NoFin (x : Nat) : Prop := NaN32 x ∨ ∃ x', cv64 x = some x' ∧ fb .sub .f64 x' x' = none

theorem IsFinite_no {x : Nat} (h : NoFin x) (w : World) :
    Calls Try.prog 43 #[.float .f32 x] w fun e w' => e = .returned (.bool false) ∧ Below w.heap.size w w' := by
  rcases h with h | ⟨x', h1, h2⟩
  · exact IsFinite_nan h w
  · have o1 := w64 h1
    have p1 := fun w => isFinite_bad h2 w
    clear h1 h2
    go_enter Try.func43, Try.ntmps43
    go_wp2_with fail
    refine (p1 _).mono ?_; rintro e w1 ⟨rfl, hb⟩
    go_wp2
    go_ret
    exact ⟨rfl, hb⟩

theorem finite_no {x : Nat} (h : NoFin x) (w : World) :
    Calls Try.prog 45 #[.float .f32 x, .bool true] w fun e w' => e = .returned (.tuple #[.float .f32 0, .bool false]) ∧ Below w.heap.size w w' := by
  have p1 := fun w => IsFinite_no h w
  clear h
  go_enter Try.func45, Try.ntmps45
  go_wp2_with fail
  refine (p1 _).mono ?_; rintro e w1 ⟨rfl, hb⟩
  go_wp2
  go_ret2
  exact ⟨rfl, hb⟩

theorem Radius_no {ax ay sx sy ch ms mg pl wh l : Nat} {x y : Rat} (hp : PW ax ay sx sy ch ms) (hpl : pullB ch ms = some pl) (hplv : V32 pl y) (h : whirlB ch ms mg = some wh) (hl : longC sx sy = some l) (hr : fb .quo .f32 l wh = none ∨ ∃ r, fb .quo .f32 l wh = some r ∧ NoFin r) (hg : V32 mg x) (w : World) :
    Calls Try.prog 20 #[.agg #[.complex .f32 ax ay, .complex .f32 sx sy, .float .f32 ch, .float .f32 ms], .float .f32 mg] w fun e w' => e = .returned (.tuple #[.float .f32 0, .bool false]) ∧ Below w.heap.size w w' := by
  simp only [whirlB, hpl, Option.bind_eq_bind, Option.bind_some, Option.bind_eq_some_iff] at h
  obtain ⟨q, m1, q', m2, m3⟩ := h
  have p1 := fun w => PullOf_walk hp hpl hplv w
  have p2 := fun w => longC_walk hl w
  have p4 := fun w => Abs_walk (cv64_lt m2) w
  have p5 := fun w => IsFinite_walk hg w
  have o1 := wb m1
  have o2 := w64 m2
  have o3 := w32 m3
  clear hp hpl hplv m1 m2 m3 hl hg
  rcases hr with hr | ⟨r, hr, hn⟩
  all_goals
    first
      | have o4 := run_nan_quo32 (P := Try.prog) hr
      | have o4 := wb hr
    clear hr
    go_enter Try.func20, Try.ntmps20
    go_wp2_with fail
    refine (p1 _).mono ?_; rintro e w1 ⟨rfl, hb1⟩
    obtain ⟨hc, hf⟩ := bcell hb1
    have c1 : w1.cell? ⟨w.heap.size, 1, none⟩ = some (.complex .f32 sx sy) := by rw [hc _ _ (by simp)]; simp
    clear hc hf
    go_wp2_with fail
    refine (p4 _).mono ?_; rintro e w2 ⟨rfl, rfl⟩
    go_wp2_with fail
    first
      | (refine (p2 _).mono ?_; rintro e w2 ⟨rfl, rfl⟩)
      | (refine (p5 _).mono ?_; rintro e w2 ⟨rfl, rfl⟩)
    go_wp2_with fail
    first
      | (refine (p2 _).mono ?_; rintro e w2 ⟨rfl, rfl⟩)
      | (refine (p5 _).mono ?_; rintro e w2 ⟨rfl, rfl⟩)
    go_wp2_with fail
    first
      | (refine (finite_no hn _).mono ?_; rintro e w2 ⟨rfl, hb2⟩)
      | (refine (finite_no (Or.inl (tn32_nan _ _ _)) _).mono ?_; rintro e w2 ⟨rfl, hb2⟩)
    go_wp2
    go_ret2
    have h2 := ((Below.refl w.heap.size w).alloc (Nat.le_refl _) _).trans (hb1.mono (by simp))
    first
      | exact ⟨rfl, h2.trans (hb2.mono h2.size)⟩
      | exact ⟨rfl, h2.drew.trans (hb2.mono h2.drew.size)⟩

def NanPair2 (w : World) (e : Ending) (w' : World) : Prop := ∃ x y : Nat, e = .returned (.complex .f32 x y) ∧ NaN32 x ∧ NaN32 y ∧ Below w.heap.size w w'

theorem quoC_nan2 {a b c d x y p : Nat} (h : prod a b c (neg32 d) = some (x, y)) (hp : powB c d = some p) (hx : fb .quo .f64 x p = none) (hy : fb .quo .f64 y p = none) (w : World) :
    Calls Try.prog 42 #[.complex .f32 a b, .complex .f32 c d] w (NanPair2 w) := by
  have p0 := fun w => conj_walk c d w
  have p1 := fun w => product_walk h w
  have p2 := fun w => power_walk hp w
  have o1 := run_nan_quo (P := Try.prog) hx
  have o2 := run_nan_quo (P := Try.prog) hy
  have o3 := fun w' w => nan_narrow (tn64_nan x p w') w
  have o4 := fun w' w => nan_narrow (tn64_nan y p w') w
  clear h hp hx hy
  go_enter Try.func42, Try.ntmps42
  go_wp2_with fail
  refine (p0 _).mono ?_; rintro e w' ⟨rfl, rfl⟩
  go_wp2_with fail
  refine (p1 _).mono ?_; rintro e w' ⟨rfl, rfl⟩
  go_wp2_with fail
  refine (p2 _).mono ?_; rintro e w' ⟨rfl, rfl⟩
  go_wp2
  go_ret
  exact ⟨_, _, rfl, tc32_nan _ _, tc32_nan _ _, ((((Below.refl _ _).drew).drew).drew).drew⟩

theorem less_nan {a b c d : Nat} (hc : NaN32 c) (hd : NaN32 d) (w : World) : Calls Try.prog 51 #[.complex .f32 a b, .complex .f32 c d] w (NanPair2 w) := by
  have o1 := run_nan_sub32 (P := Try.prog) (nan_sub32 (x := a) hc)
  have o2 := run_nan_sub32 (P := Try.prog) (nan_sub32 (x := b) hd)
  clear hc hd
  go_enter Try.func51, Try.ntmps51
  go_wp2
  go_ret
  exact ⟨_, _, rfl, tn32_nan _ _ _, tn32_nan _ _ _, ((Below.refl _ _).drew).drew⟩

set_option maxHeartbeats 1000000 in
theorem Centre_no {ax ay sx sy ch ms mg pl wh r1 i1 u v p : Nat} {x : Rat} (hp : PW ax ay sx sy ch ms) (hpl : pullB ch ms = some pl) (h : fb .mul .f32 pl mg = some wh) (h1 : mulC 0 1065353216 sx sy = some (r1, i1)) (h2 : prod r1 i1 wh (neg32 0) = some (u, v)) (h3 : powB wh 0 = some p) (hu : fb .quo .f64 u p = none) (hv : fb .quo .f64 v p = none) (hg : V32 mg x) (w : World) :
    Calls Try.prog 21 #[.agg #[.complex .f32 ax ay, .complex .f32 sx sy, .float .f32 ch, .float .f32 ms], .float .f32 mg] w fun e w' => e = .returned (.tuple #[.complex .f32 0 0, .bool false]) ∧ Below w.heap.size w w' := by
  have p1 := fun w => pull_walk (ax := ax) (ay := ay) (sx := sx) (sy := sy) hpl w
  have p2 := fun w => mulC_walk h1 w
  have p3 := fun w => quoC_nan2 h2 h3 hu hv w
  have p6 := fun w => hp.valid w
  have p7 := fun w => IsFinite_walk hg w
  have o1 := wb h
  clear hp hpl h h1 h2 h3 hu hv hg
  go_enter Try.func21, Try.ntmps21
  go_wp2_with fail
  refine (p1 _).mono ?_; rintro e w1 ⟨rfl, hb1⟩
  have hS : w1.cell? ⟨w.heap.size, 0, none⟩ = some (.complex .f32 ax ay) ∧ w1.cell? ⟨w.heap.size, 1, none⟩ = some (.complex .f32 sx sy) ∧ w1.cell? ⟨w.heap.size, 2, none⟩ = some (.float .f32 ch) ∧ w1.cell? ⟨w.heap.size, 3, none⟩ = some (.float .f32 ms) ∧ w.heap.size + 1 ≤ w1.heap.size ∧ Below w.heap.size w w1 :=
    keepB (w0 := w.alloc (.cells #[.complex .f32 ax ay, .complex .f32 sx sy, .float .f32 ch, .float .f32 ms] 27)) ⟨by simp, by simp, by simp, by simp, by simp, (Below.refl _ _).alloc (Nat.le_refl _) _⟩ hb1
  clear hb1
  go_wp2_with fail
  go_region_held3 (fun w' => w'.cell? ⟨w.heap.size, 0, none⟩ = some (.complex .f32 ax ay) ∧ w'.cell? ⟨w.heap.size, 1, none⟩ = some (.complex .f32 sx sy) ∧ w'.cell? ⟨w.heap.size, 2, none⟩ = some (.float .f32 ch) ∧ w'.cell? ⟨w.heap.size, 3, none⟩ = some (.float .f32 ms) ∧ w.heap.size + 1 ≤ w'.heap.size ∧ Below w.heap.size w w')
    (first
      | assumption
      | exact keepB ‹_› ‹_›
      | exact keepB hS (Below.refl _ _).drew)
    (first
      | (go_at_call 15; refine (p2 _).mono ?_; rintro e w1 ⟨rfl, rfl⟩)
      | (go_at_call 42; refine (p3 _).mono ?_; rintro e w1 ⟨x, y, rfl, hx, hy, hb1⟩)
      | (go_at_call 51; refine (less_nan ‹_› ‹_› _).mono ?_; rintro e w1 ⟨x', y', rfl, hx', hy', hb2⟩))
  all_goals
    rename_i hH
    obtain ⟨k0, k1, k2, k3, k4, hB⟩ := hH
    go_wp2_with fail
    refine (p6 _).mono ?_; rintro e w4 ⟨rfl, hb4⟩
    go_wp2_with fail
    refine (p7 _).mono ?_; rintro e w5 ⟨rfl, rfl⟩
    go_wp2_with fail
    refine (finiteComplex_nan hx' _).mono ?_; rintro e w6 ⟨rfl, hb6⟩
    go_wp2
    go_ret2
    have h2 := hB.trans (hb4.mono hB.size)
    exact ⟨rfl, h2.trans (hb6.mono h2.size)⟩

end Go.Proofs.Ytgblehdamgliaaa
