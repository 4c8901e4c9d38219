/-
  The walks of the functions that take a particle: valid particles, pulls, kicks, turns and pushes.
-/
import Derived.Test.YtgblehdamgliaaaW2
import Derived.Outline
import Derived.Deep.RegionHeld3
import Derived.Test.YtgblehdamgliaaaReg
set_option linter.unusedVariables false
set_option linter.unusedSimpArgs false
namespace Go.Proofs.Ytgblehdamgliaaa
open Go.RowKit FT

theorem order_gt32 {x : Nat} {v : Rat} (h : V32 x v) (hv : 0 < v) : FloatKind.f32.format.order x 0 = some .gt := by
  have := order_eq h zero32
  rw [if_neg (Rat.not_lt.2 (Rat.le_of_lt hv)), if_neg (Rat.ne_of_gt hv)] at this
  exact this

theorem Valid_walk {ax ay sx sy ch ms : Nat} {v1 v2 v3 v4 v5 v6 : Rat} (h1 : V32 ax v1) (h2 : V32 ay v2) (h3 : V32 sx v3) (h4 : V32 sy v4) (h5 : V32 ch v5) (h6 : V32 ms v6) (hm : 0 < v6) (w : World) :
    Calls Try.prog 35 #[.agg #[.complex .f32 ax ay, .complex .f32 sx sy, .float .f32 ch, .float .f32 ms]] w fun e w' => e = .returned (.bool true) ∧ Below w.heap.size w w' := by
  have p1 := fun w => IsFiniteComplex_walk h1 h2 w
  have p2 := fun w => IsFiniteComplex_walk h3 h4 w
  have p3 := fun w b hx hy => areFinite_walk h5 h6 w b hx hy
  have ho := order_gt32 h6 hm
  clear h1 h2 h3 h4 h5 h6 hm
  go_enter Try.func35, Try.ntmps35
  go_wp2_with fail
  refine (p1 _).mono ?_; rintro e w' ⟨rfl, rfl⟩
  go_wp2_with fail
  refine (p2 _).mono ?_; rintro e w' ⟨rfl, rfl⟩
  go_wp2_with fail
  refine (p3 _ _ (by simp) (by simp)).mono ?_; rintro e w' ⟨rfl, rfl⟩
  go_wp2
  go_ret
  exact ⟨rfl, ((Below.refl _ _).alloc (Nat.le_refl _) _).alloc (by simp) _⟩

def pullB (ch ms : Nat) : Option Nat := fb .quo .f32 ch ms
def kickB (ch ms fr fi tk : Nat) : Option (Nat × Nat) := do
  let p ← pullB ch ms
  let h ← fb .quo .f32 tk 1073741824
  let m ← fb .mul .f32 p h
  scaleC fr fi m
def turnT (ch ms mg tk : Nat) : Option Nat := do
  let p ← pullB ch ms
  let x ← fb .mul .f32 p mg
  let h ← fb .quo .f32 tk 1073741824
  fb .mul .f32 x h
def turnB (ch ms mg tk : Nat) : Option (Nat × Nat) := do
  let t ← turnT ch ms mg tk
  quoC 1065353216 (neg32 t) 1065353216 t
def pushB (sx sy ch ms fr fi mg tk : Nat) : Option (Nat × Nat) := do
  let k ← kickB ch ms fr fi tk
  let s ← plusC sx sy k.1 k.2
  let t ← turnB ch ms mg tk
  let m ← mulC s.1 s.2 t.1 t.2
  plusC m.1 m.2 k.1 k.2

theorem pull_walk {ax ay sx sy ch ms r : Nat} (h : pullB ch ms = some r) (w : World) :
    Calls Try.prog 46 #[.agg #[.complex .f32 ax ay, .complex .f32 sx sy, .float .f32 ch, .float .f32 ms]] w fun e w' => e = .returned (.float .f32 r) ∧ Below w.heap.size w w' := by
  have o1 := wb h
  clear h
  go_enter Try.func46, Try.ntmps46
  go_wp2
  go_ret
  exact ⟨rfl, (Below.refl _ _).alloc (Nat.le_refl _) _⟩

theorem kick_walk {ax ay sx sy ch ms fr fi tk re im : Nat} (h : kickB ch ms fr fi tk = some (re, im)) (w : World) :
    Calls Try.prog 44 #[.agg #[.complex .f32 ax ay, .complex .f32 sx sy, .float .f32 ch, .float .f32 ms], .complex .f32 fr fi, .float .f32 tk] w fun e w' => e = .returned (.complex .f32 re im) ∧ Below w.heap.size w w' := by
  simp only [kickB, Option.bind_eq_bind, Option.bind_eq_some_iff] at h
  obtain ⟨p, h1, hh, m1, m, m2, h2⟩ := h
  have p1 := fun w => pull_walk (ax := ax) (ay := ay) (sx := sx) (sy := sy) h1 w
  have p2 := fun w => scaleC_walk h2 w
  have o1 := wb m1
  have o2 := wb m2
  clear h1 h2 m1 m2
  go_enter Try.func44, Try.ntmps44
  go_wp2_with fail
  refine (p1 _).mono ?_; rintro e w1 ⟨rfl, hb⟩
  go_wp2_with fail
  refine (p2 _).mono ?_; rintro e w' ⟨rfl, rfl⟩
  go_wp2
  go_ret
  exact ⟨rfl, ((Below.refl _ _).alloc (Nat.le_refl _) _).trans (hb.mono (by simp))⟩

theorem turn_walk {ax ay sx sy ch ms mg tk re im : Nat} (h : turnB ch ms mg tk = some (re, im)) (w : World) :
    Calls Try.prog 34 #[.agg #[.complex .f32 ax ay, .complex .f32 sx sy, .float .f32 ch, .float .f32 ms], .float .f32 mg, .float .f32 tk] w fun e w' => e = .returned (.complex .f32 re im) ∧ Below w.heap.size w w' := by
  simp only [turnB, turnT, Option.bind_eq_bind, Option.bind_eq_some_iff] at h
  obtain ⟨t, ⟨p, h1, x, m1, hh, m2, m3⟩, h2⟩ := h
  have p1 := fun w => pull_walk (ax := ax) (ay := ay) (sx := sx) (sy := sy) h1 w
  have p2 := fun w => quoC_walk h2 w
  have o1 := wb m1
  have o2 := wb m2
  have o3 := wb m3
  have ng := @run_neg_f32 Try.prog
  clear h1 h2 m1 m2 m3
  go_enter Try.func34, Try.ntmps34
  go_wp2_with fail
  refine (p1 _).mono ?_; rintro e w1 ⟨rfl, hb⟩
  go_wp2_with fail
  refine (p2 _).mono ?_; rintro e w' ⟨rfl, rfl⟩
  go_wp2
  go_ret
  exact ⟨rfl, ((Below.refl _ _).alloc (Nat.le_refl _) _).trans (hb.mono (by simp))⟩

theorem push_walk {ax ay sx sy ch ms fr fi mg tk re im : Nat} (h : pushB sx sy ch ms fr fi mg tk = some (re, im)) (w : World) :
    Calls Try.prog 37 #[.agg #[.complex .f32 ax ay, .complex .f32 sx sy, .float .f32 ch, .float .f32 ms], .complex .f32 fr fi, .float .f32 mg, .float .f32 tk] w fun e w' => e = .returned (.complex .f32 re im) ∧ Below w.heap.size w w' := by
  simp only [pushB, Option.bind_eq_bind, Option.bind_eq_some_iff] at h
  obtain ⟨⟨k1, k2⟩, h1, ⟨s1, s2⟩, h2, ⟨t1, t2⟩, h3, ⟨m1, m2⟩, h4, h5⟩ := h
  have p1 := fun w => kick_walk (ax := ax) (ay := ay) (sx := sx) (sy := sy) h1 w
  have p2 := fun w => plusC_walk h2 w
  have p3 := fun w => turn_walk (ax := ax) (ay := ay) (sx := sx) (sy := sy) h3 w
  have p4 := fun w => mulC_walk h4 w
  have p5 := fun w => plusC_walk h5 w
  clear h1 h2 h3 h4 h5
  go_enter Try.func37, Try.ntmps37
  go_wp2_with fail
  refine (p1 _).mono ?_; rintro e w1 ⟨rfl, hb⟩
  obtain ⟨hc, hf⟩ := bcell hb
  have hz := hb.size
  go_wp2_with fail
  have c0 := fun p : GB (w.heap.size + 1) w1 => GB.cell (o := 0) (v := .complex .f32 ax ay) (Nat.lt_succ_self _) (by rw [hc _ _ (by simp)]; simp) p
  have c1 := fun p : GB (w.heap.size + 1) w1 => GB.cell (o := 1) (v := .complex .f32 sx sy) (Nat.lt_succ_self _) (by rw [hc _ _ (by simp)]; simp) p
  have c2 := fun p : GB (w.heap.size + 1) w1 => GB.cell (o := 2) (v := .float .f32 ch) (Nat.lt_succ_self _) (by rw [hc _ _ (by simp)]; simp) p
  have c3 := fun p : GB (w.heap.size + 1) w1 => GB.cell (o := 3) (v := .float .f32 ms) (Nat.lt_succ_self _) (by rw [hc _ _ (by simp)]; simp) p
  simp at hz
  clear hc hf
  refine wp_region_gb (B := w.heap.size + 1) (by kernel_rfl) (by kernel_rfl) ?_
  repeat (go_big_quiet_step (fail))
  go_big_quiet_step ((exact gb_same (p2 _)))
  repeat (go_big_quiet_step (fail))
  go_big_quiet_step ((exact gb_below hz (p3 _)))
  repeat (go_big_quiet_step (fail))
  go_big_quiet_step ((exact gb_same (p4 _)))
  repeat (go_big_quiet_step (fail))
  go_big_quiet_step ((exact gb_same (p5 _)))
  repeat (go_big_quiet_step (fail))
  refine wpQuiet_nil ?_
  intro _ hw'
  obtain ⟨q, rfl⟩ := hw'
  go_wp2
  go_ret
  exact ⟨rfl, (((Below.refl _ _).alloc (Nat.le_refl _) _).trans (hb.mono (by simp))).trans (q.h.mono (by simp))⟩

end Go.Proofs.Ytgblehdamgliaaa
