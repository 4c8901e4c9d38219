/-
  The walks of two particles' momentum and energy.
-/
import Derived.Test.YtgblehdamgliaaaW16
set_option linter.unusedVariables false
set_option linter.unusedSimpArgs false
namespace Go.Proofs.Ytgblehdamgliaaa
open Go.RowKit FT

theorem SameComplex_walk {x y : Nat} {a b : Rat} (h : V32 x a) (h' : V32 y b) (w : World) :
    Calls Try.prog 30 #[.complex .f32 x y, .complex .f32 x y] w fun e w' => e = .returned (.bool true) ∧ w = w' := by
  have p1 := fun w => SameNumber_walk h w
  have p2 := fun w => SameNumber_walk h' w
  clear h h'
  go_enter Try.func30, Try.ntmps30
  go_wp2_with fail
  refine (p1 _).mono ?_; rintro e w1 ⟨rfl, rfl⟩
  go_wp2_with fail
  refine (p2 _).mono ?_; rintro e w1 ⟨rfl, rfl⟩
  go_wp2
  go_ret
  exact ⟨rfl, rfl⟩

structure Mom (sx sy ms tx ty mq re im : Nat) : Prop where
  go : ∃ a b c d e f, scaleC sx sy ms = some (a, b) ∧ plusC 0 0 a b = some (c, d) ∧ scaleC tx ty mq = some (e, f) ∧ plusC c d e f = some (re, im)

set_option maxRecDepth 100000 in
set_option maxHeartbeats 1000000 in
theorem Mom_walk {b : Nat} {ax ay sx sy ch ms bx by_ tx ty cq mq re im : Nat} (h1 : PW ax ay sx sy ch ms) (h2 : PW bx by_ tx ty cq mq) (h : Mom sx sy ms tx ty mq re im) (w : World) (h8 : Pair8 w b ax ay sx sy ch ms bx by_ tx ty cq mq) :
    Calls Try.prog 27 #[.slice (some ⟨b, 0, none⟩) 2 2] w fun e w' => e = .returned (.tuple #[.complex .f32 re im, .bool true]) ∧ Below w.heap.size w w' := by
  obtain ⟨a0, b0, c0, d0, e0, f0, e1, e2, e3, e4⟩ := h.go
  have p0 := AreParticles_walk h1 h2 w h8
  have p1 := fun w => scaleC_walk e1 w
  have p2 := fun w => plusC_walk e2 w
  have p3 := fun w => scaleC_walk e3 w
  have p4 := fun w => plusC_walk e4 w
  have H8 := Lib.hid h8
  clear h1 h2 h h8 e1 e2 e3 e4
  go_enter Try.func27, Try.ntmps27
  go_wp2_with fail
  refine p0.mono ?_; rintro e w1 ⟨rfl, hb1⟩
  have HQ := Lib.hid (H8.out.below hb1 H8.out.lt)
  have HB := Lib.hid hb1
  clear p0 hb1
  go_wp2_with fail
  go_loopw [4, 12] (fun v i wr => ((i = .int .i64 0 ∧ v = .complex .f32 0 0) ∨ (i = .int .i64 1 ∧ v = .complex .f32 c0 d0) ∨ (i = .int .i64 2 ∧ v = .complex .f32 re im)) ∧ Below w.heap.size w wr ∧ Below w1.heap.size w1 wr) (fun _ i _ => 2 - (intOf i).toNat)
  case atStart => exact ⟨Or.inl ⟨rfl, rfl⟩, HB.out, Below.refl _ _⟩
  case round =>
    obtain ⟨hi, hB, hB1⟩ := hrel
    obtain ⟨c0', c1', c2', c3', c4', c5', c6', c7', c8'⟩ := HQ.out.below hB1 HQ.out.lt
    have HB2 := Lib.hid hB
    have HB3 := Lib.hid hB1
    clear hB hB1
    rcases hi with ⟨rfl, rfl⟩ | ⟨rfl, rfl⟩ | ⟨rfl, rfl⟩
    · go_wp2_with fail
      refine (p1 _).mono ?_; rintro e w2 ⟨rfl, rfl⟩
      go_wp2_with fail
      refine (p2 _).mono ?_; rintro e w2 ⟨rfl, rfl⟩
      go_wp2
      go_roundw
      case rel => exact ⟨Or.inr (Or.inl ⟨rfl, rfl⟩), HB2.out.alloc HB2.out.size _, HB3.out.alloc HB3.out.size _⟩
      case measure => simp [intOf]
    · go_wp2_with fail
      refine (p3 _).mono ?_; rintro e w2 ⟨rfl, rfl⟩
      go_wp2_with fail
      refine (p4 _).mono ?_; rintro e w2 ⟨rfl, rfl⟩
      go_wp2
      go_roundw
      case rel => exact ⟨Or.inr (Or.inr ⟨rfl, rfl⟩), HB2.out.alloc HB2.out.size _, HB3.out.alloc HB3.out.size _⟩
      case measure => simp [intOf]
    · go_wp2
      go_ret2
      exact ⟨rfl, HB2.out⟩

structure Ener (sx sy ms tx ty mq r : Nat) : Prop where
  go : ∃ m1 h1 p1 x1 o1 m2 h2 p2 x2 o2, cv64 ms = some m1 ∧ fb .mul .f64 4602678819172646912 m1 = some h1 ∧ powB sx sy = some p1 ∧ fb .mul .f64 h1 p1 = some x1 ∧ fb .add .f64 0 x1 = some o1 ∧
    cv64 mq = some m2 ∧ fb .mul .f64 4602678819172646912 m2 = some h2 ∧ powB tx ty = some p2 ∧ fb .mul .f64 h2 p2 = some x2 ∧ fb .add .f64 o1 x2 = some o2 ∧ cv32 o2 = some r

set_option maxRecDepth 100000 in
set_option maxHeartbeats 1000000 in
theorem Ener_walk {b : Nat} {ax ay sx sy ch ms bx by_ tx ty cq mq r : Nat} (h1 : PW ax ay sx sy ch ms) (h2 : PW bx by_ tx ty cq mq) (h : Ener sx sy ms tx ty mq r) (w : World) (h8 : Pair8 w b ax ay sx sy ch ms bx by_ tx ty cq mq) :
    Calls Try.prog 28 #[.slice (some ⟨b, 0, none⟩) 2 2] w fun e w' => e = .returned (.tuple #[.float .f32 r, .bool true]) ∧ Below w.heap.size w w' := by
  obtain ⟨m1, hh1, pw1, x1, o1, m2, hh2, pw2, x2, o2, e1, e2, e3, e4, e5, e6, e7, e8, e9, e10, e11⟩ := h.go
  have p0 := AreParticles_walk h1 h2 w h8
  have q1 := w64 e1
  have q2 := wq64 e2
  have p1 := fun w => power_walk e3 w
  have q4 := wq64 e4
  have q5 := wq64 e5
  have q6 := w64 e6
  have q7 := wq64 e7
  have p2 := fun w => power_walk e8 w
  have q9 := wq64 e9
  have q10 := wq64 e10
  have q11 := w32 e11
  have H8 := Lib.hid h8
  clear h1 h2 h h8 e1 e2 e3 e4 e5 e6 e7 e8 e9 e10 e11
  go_enter Try.func28, Try.ntmps28
  go_wp2_with fail
  refine p0.mono ?_; rintro e w1 ⟨rfl, hb1⟩
  have HQ := Lib.hid (H8.out.below hb1 H8.out.lt)
  have HB := Lib.hid hb1
  clear p0 hb1
  go_wp2_with fail
  go_loopw [4, 12] (fun v i wr => ((i = .int .i64 0 ∧ v = .float .f64 0) ∨ (i = .int .i64 1 ∧ v = .float .f64 o1) ∨ (i = .int .i64 2 ∧ v = .float .f64 o2)) ∧ Below w.heap.size w wr ∧ Below w1.heap.size w1 wr) (fun _ i _ => 2 - (intOf i).toNat)
  case atStart => exact ⟨Or.inl ⟨rfl, rfl⟩, HB.out, Below.refl _ _⟩
  case round =>
    obtain ⟨hi, hB, hB1⟩ := hrel
    obtain ⟨c0', c1', c2', c3', c4', c5', c6', c7', c8'⟩ := HQ.out.below hB1 HQ.out.lt
    have HB2 := Lib.hid hB
    have HB3 := Lib.hid hB1
    clear hB hB1
    rcases hi with ⟨rfl, rfl⟩ | ⟨rfl, rfl⟩ | ⟨rfl, rfl⟩
    · go_wp2_with fail
      have m1 := fun p : GB (wr.heap.size + 1) (wr.alloc (.cells #[.complex .f32 ax ay, .complex .f32 sx sy, .float .f32 ch, .float .f32 ms] 27)) => GB.cell (o := 1) (Nat.lt_succ_self _) (Has4.new wr (.complex .f32 ax ay) (.complex .f32 sx sy) (.float .f32 ch) (.float .f32 ms) 27).c1 p
      have m3 := fun p : GB (wr.heap.size + 1) (wr.alloc (.cells #[.complex .f32 ax ay, .complex .f32 sx sy, .float .f32 ch, .float .f32 ms] 27)) => GB.cell (o := 3) (Nat.lt_succ_self _) (Has4.new wr (.complex .f32 ax ay) (.complex .f32 sx sy) (.float .f32 ch) (.float .f32 ms) 27).c3 p
      refine wp_region_gb (B := wr.heap.size + 1) (by kernel_rfl) (by kernel_rfl) ?_
      repeat (go_big_quiet_step (fail))
      go_big_quiet_step ((exact gb_same (p1 _)))
      repeat (go_big_quiet_step (fail))
      refine wpQuiet_nil ?_
      intro _ hw'
      obtain ⟨q, rfl⟩ := hw'
      have hq : Below wr.heap.size wr q.w := ((Below.refl _ _).alloc (Nat.le_refl _) _).trans (q.h.mono (by omega))
      go_wp2
      go_roundw
      case rel => exact ⟨Or.inr (Or.inl ⟨rfl, rfl⟩), HB2.out.trans (hq.mono HB2.out.size), HB3.out.trans (hq.mono HB3.out.size)⟩
      case measure => simp [intOf]
    · go_wp2_with fail
      have m1 := fun p : GB (wr.heap.size + 1) (wr.alloc (.cells #[.complex .f32 bx by_, .complex .f32 tx ty, .float .f32 cq, .float .f32 mq] 27)) => GB.cell (o := 1) (Nat.lt_succ_self _) (Has4.new wr (.complex .f32 bx by_) (.complex .f32 tx ty) (.float .f32 cq) (.float .f32 mq) 27).c1 p
      have m3 := fun p : GB (wr.heap.size + 1) (wr.alloc (.cells #[.complex .f32 bx by_, .complex .f32 tx ty, .float .f32 cq, .float .f32 mq] 27)) => GB.cell (o := 3) (Nat.lt_succ_self _) (Has4.new wr (.complex .f32 bx by_) (.complex .f32 tx ty) (.float .f32 cq) (.float .f32 mq) 27).c3 p
      refine wp_region_gb (B := wr.heap.size + 1) (by kernel_rfl) (by kernel_rfl) ?_
      repeat (go_big_quiet_step (fail))
      go_big_quiet_step ((exact gb_same (p2 _)))
      repeat (go_big_quiet_step (fail))
      refine wpQuiet_nil ?_
      intro _ hw'
      obtain ⟨q, rfl⟩ := hw'
      have hq : Below wr.heap.size wr q.w := ((Below.refl _ _).alloc (Nat.le_refl _) _).trans (q.h.mono (by omega))
      go_wp2
      go_roundw
      case rel => exact ⟨Or.inr (Or.inr ⟨rfl, rfl⟩), HB2.out.trans (hq.mono HB2.out.size), HB3.out.trans (hq.mono HB3.out.size)⟩
      case measure => simp [intOf]
    · go_wp2
      go_ret2
      exact ⟨rfl, HB2.out⟩

end Go.Proofs.Ytgblehdamgliaaa
