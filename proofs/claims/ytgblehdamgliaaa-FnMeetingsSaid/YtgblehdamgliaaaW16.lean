/-
  The walks of meetings: the pair's speed, the speeds behind a meeting.
-/
import Derived.Test.YtgblehdamgliaaaN8
set_option linter.unusedVariables false
set_option linter.unusedSimpArgs false
namespace Go.Proofs.Ytgblehdamgliaaa
open Go.RowKit FT

def partW (ax ay sx sy ch ms : Nat) : Value := .agg #[.complex .f32 ax ay, .complex .f32 sx sy, .float .f32 ch, .float .f32 ms]

/-- The mean of two numbers, as heavy as their particles. -/
def betweenB (a b c d m n : Nat) : Option (Nat × Nat) := do
  let p ← scaleC a b m
  let q ← scaleC c d n
  let s ← plusC p.1 p.2 q.1 q.2
  let t ← fb .add .f32 m n
  quoC s.1 s.2 t 0

set_option maxRecDepth 100000 in
set_option maxHeartbeats 1000000 in
theorem between_walk {a b c d ax ay sx sy ch ms bx by_ tx ty cq mq re im : Nat} (h : betweenB a b c d ms mq = some (re, im)) (w : World) :
    Calls Try.prog 56 #[.complex .f32 a b, .complex .f32 c d, .agg #[.complex .f32 ax ay, .complex .f32 sx sy, .float .f32 ch, .float .f32 ms], .agg #[.complex .f32 bx by_, .complex .f32 tx ty, .float .f32 cq, .float .f32 mq]] w fun e w' => e = .returned (.complex .f32 re im) ∧ Below w.heap.size w w' := by
  simp only [betweenB, Option.bind_eq_bind, Option.bind_eq_some_iff] at h
  obtain ⟨⟨p1, p2⟩, h1, ⟨q1, q2⟩, h2, ⟨s1, s2⟩, h3, t, h4, h5⟩ := h
  have c1 := fun w => scaleC_walk h1 w
  have c2 := fun w => scaleC_walk h2 w
  have c3 := fun w => plusC_walk h3 w
  have c4 := fun w => quoC_walk h5 w
  have o1 := wb h4
  clear h1 h2 h3 h4 h5
  go_enter Try.func56, Try.ntmps56
  go_wp2_with fail
  have k0 := Has4.below (Has4.new w (.complex .f32 ax ay) (.complex .f32 sx sy) (.float .f32 ch) (.float .f32 ms) 27) ((Below.refl (w.heap.size + 1) _).alloc (by simp) (.cells #[.complex .f32 bx by_, .complex .f32 tx ty, .float .f32 cq, .float .f32 mq] 27)) (by omega)
  have k1 := Has4.new (w.alloc (.cells #[.complex .f32 ax ay, .complex .f32 sx sy, .float .f32 ch, .float .f32 ms] 27)) (.complex .f32 bx by_) (.complex .f32 tx ty) (.float .f32 cq) (.float .f32 mq) 27
  have k2 : Below w.heap.size w ((w.alloc (.cells #[.complex .f32 ax ay, .complex .f32 sx sy, .float .f32 ch, .float .f32 ms] 27)).alloc (.cells #[.complex .f32 bx by_, .complex .f32 tx ty, .float .f32 cq, .float .f32 mq] 27)) := ((Below.refl _ _).alloc (Nat.le_refl _) _).alloc (by simp) _
  simp only [World.size_alloc] at k1
  generalize (w.alloc (.cells #[.complex .f32 ax ay, .complex .f32 sx sy, .float .f32 ch, .float .f32 ms] 27)).alloc (.cells #[.complex .f32 bx by_, .complex .f32 tx ty, .float .f32 cq, .float .f32 mq] 27) = w1 at *
  have m0 := fun p : GB (w.heap.size + 2) w1 => GB.cell (o := 3) (by omega) k0.c3 p
  have m1 := fun p : GB (w.heap.size + 2) w1 => GB.cell (o := 3) (by omega) k1.c3 p
  clear k0 k1
  refine wp_region_gb (B := w.heap.size + 2) (by kernel_rfl) (by kernel_rfl) ?_
  repeat (go_big_quiet_step (fail))
  go_big_quiet_step ((exact gb_same (c1 _)))
  repeat (go_big_quiet_step (fail))
  go_big_quiet_step ((exact gb_same (c2 _)))
  repeat (go_big_quiet_step (fail))
  go_big_quiet_step ((exact gb_same (c3 _)))
  repeat (go_big_quiet_step (fail))
  go_big_quiet_step ((exact gb_same (c4 _)))
  repeat (go_big_quiet_step (fail))
  refine wpQuiet_nil ?_
  intro _ hw'
  obtain ⟨q, rfl⟩ := hw'
  go_wp2
  go_ret
  exact ⟨rfl, k2.trans (q.h.mono (by omega))⟩

set_option maxRecDepth 100000 in
theorem areTwo_walk {ax ay sx sy ch ms bx by_ tx ty cq mq : Nat} (h1 : PW ax ay sx sy ch ms) (h2 : PW bx by_ tx ty cq mq) (w : World) :
    Calls Try.prog 57 #[.agg #[.complex .f32 ax ay, .complex .f32 sx sy, .float .f32 ch, .float .f32 ms], .agg #[.complex .f32 bx by_, .complex .f32 tx ty, .float .f32 cq, .float .f32 mq]] w fun e w' => e = .returned (.bool true) ∧ Below w.heap.size w w' := by
  have p1 := fun w => h1.valid w
  have p2 := fun w => h2.valid w
  clear h1 h2
  go_enter Try.func57, Try.ntmps57
  go_wp2_with fail
  refine (p1 _).mono ?_; rintro e w1 ⟨rfl, hb1⟩
  have k1 := Has4.below (Has4.new (w.alloc (.cells #[.complex .f32 ax ay, .complex .f32 sx sy, .float .f32 ch, .float .f32 ms] 27)) (.complex .f32 bx by_) (.complex .f32 tx ty) (.float .f32 cq) (.float .f32 mq) 27) hb1 (by simp)
  have k2 : Below w.heap.size w ((w.alloc (.cells #[.complex .f32 ax ay, .complex .f32 sx sy, .float .f32 ch, .float .f32 ms] 27)).alloc (.cells #[.complex .f32 bx by_, .complex .f32 tx ty, .float .f32 cq, .float .f32 mq] 27)) := ((Below.refl _ _).alloc (Nat.le_refl _) _).alloc (by simp) _
  have k3 := k2.trans (hb1.mono k2.size)
  simp only [World.size_alloc] at k1
  clear hb1 k2
  obtain ⟨v0, v1, v2, v3, g0, g1, g2, g3⟩ := k1
  go_wp2_with fail
  refine (p2 _).mono ?_; rintro e w2 ⟨rfl, hb2⟩
  go_wp2
  go_ret
  exact ⟨rfl, k3.trans (hb2.mono k3.size)⟩

/-- Two particles' blocks laid: what is known. -/
theorem two_laid (w : World) (ax ay sx sy ch ms bx by_ tx ty cq mq : Nat) :
    Has4 ((w.alloc (.cells #[.complex .f32 ax ay, .complex .f32 sx sy, .float .f32 ch, .float .f32 ms] 27)).alloc (.cells #[.complex .f32 bx by_, .complex .f32 tx ty, .float .f32 cq, .float .f32 mq] 27)) w.heap.size (.complex .f32 ax ay) (.complex .f32 sx sy) (.float .f32 ch) (.float .f32 ms) ∧
    Has4 ((w.alloc (.cells #[.complex .f32 ax ay, .complex .f32 sx sy, .float .f32 ch, .float .f32 ms] 27)).alloc (.cells #[.complex .f32 bx by_, .complex .f32 tx ty, .float .f32 cq, .float .f32 mq] 27)) (w.heap.size + 1) (.complex .f32 bx by_) (.complex .f32 tx ty) (.float .f32 cq) (.float .f32 mq) ∧
    Below w.heap.size w ((w.alloc (.cells #[.complex .f32 ax ay, .complex .f32 sx sy, .float .f32 ch, .float .f32 ms] 27)).alloc (.cells #[.complex .f32 bx by_, .complex .f32 tx ty, .float .f32 cq, .float .f32 mq] 27)) ∧
    ((w.alloc (.cells #[.complex .f32 ax ay, .complex .f32 sx sy, .float .f32 ch, .float .f32 ms] 27)).alloc (.cells #[.complex .f32 bx by_, .complex .f32 tx ty, .float .f32 cq, .float .f32 mq] 27)).heap.size = w.heap.size + 2 := by
  refine ⟨Has4.below (Has4.new w _ _ _ _ 27) ((Below.refl (w.heap.size + 1) _).alloc (by simp) _) (by omega), ?_, ((Below.refl _ _).alloc (Nat.le_refl _) _).alloc (by simp) _, by simp⟩
  have k1 := Has4.new (w.alloc (.cells #[.complex .f32 ax ay, .complex .f32 sx sy, .float .f32 ch, .float .f32 ms] 27)) (.complex .f32 bx by_) (.complex .f32 tx ty) (.float .f32 cq) (.float .f32 mq) 27
  simp only [World.size_alloc] at k1
  exact k1

/-- Two particles' blocks in a later world. -/
structure Two (w : World) (ax ay sx sy ch ms bx by_ tx ty cq mq : Nat) (w' : World) : Prop where
  a : Has4 w' w.heap.size (.complex .f32 ax ay) (.complex .f32 sx sy) (.float .f32 ch) (.float .f32 ms)
  b : Has4 w' (w.heap.size + 1) (.complex .f32 bx by_) (.complex .f32 tx ty) (.float .f32 cq) (.float .f32 mq)
  low : Below w.heap.size w w'
  size : w.heap.size + 2 ≤ w'.heap.size
theorem Two.below {w w1 w2 : World} {ax ay sx sy ch ms bx by_ tx ty cq mq : Nat} (h : Two w ax ay sx sy ch ms bx by_ tx ty cq mq w1) (hb : Below w1.heap.size w1 w2) : Two w ax ay sx sy ch ms bx by_ tx ty cq mq w2 :=
  ⟨h.a.below hb (by have := h.size; omega), h.b.below hb (by have := h.size; omega), h.low.trans (hb.mono h.low.size), Nat.le_trans h.size hb.size⟩
theorem Two.new (w : World) (ax ay sx sy ch ms bx by_ tx ty cq mq : Nat) : Two w ax ay sx sy ch ms bx by_ tx ty cq mq ((w.alloc (.cells #[.complex .f32 ax ay, .complex .f32 sx sy, .float .f32 ch, .float .f32 ms] 27)).alloc (.cells #[.complex .f32 bx by_, .complex .f32 tx ty, .float .f32 cq, .float .f32 mq] 27)) := by
  obtain ⟨h1, h2, h3, h4⟩ := two_laid w ax ay sx sy ch ms bx by_ tx ty cq mq
  exact ⟨h1, h2, h3, by omega⟩

set_option maxRecDepth 100000 in
set_option maxHeartbeats 1000000 in
theorem PairSpeed_walk {ax ay sx sy ch ms bx by_ tx ty cq mq re im : Nat} {u v : Rat} (h1 : PW ax ay sx sy ch ms) (h2 : PW bx by_ tx ty cq mq) (h : betweenB sx sy tx ty ms mq = some (re, im)) (hu : V32 re u) (hv : V32 im v) (w : World) :
    Calls Try.prog 29 #[.agg #[.complex .f32 ax ay, .complex .f32 sx sy, .float .f32 ch, .float .f32 ms], .agg #[.complex .f32 bx by_, .complex .f32 tx ty, .float .f32 cq, .float .f32 mq]] w fun e w' => e = .returned (.tuple #[.complex .f32 re im, .bool true]) ∧ Below w.heap.size w w' := by
  have p1 := fun w => between_walk (ax := ax) (ay := ay) (sx := sx) (sy := sy) (ch := ch) (bx := bx) (by_ := by_) (tx := tx) (ty := ty) (cq := cq) h w
  have p2 := fun w => areTwo_walk h1 h2 w
  have p3 := fun w => finiteComplex_walk hu hv w
  clear h1 h2 h hu hv
  go_enter Try.func29, Try.ntmps29
  go_wp2_with fail
  have hT := Two.new w ax ay sx sy ch ms bx by_ tx ty cq mq
  generalize (w.alloc (.cells #[.complex .f32 ax ay, .complex .f32 sx sy, .float .f32 ch, .float .f32 ms] 27)).alloc (.cells #[.complex .f32 bx by_, .complex .f32 tx ty, .float .f32 cq, .float .f32 mq] 27) = w1 at *
  have HT := Lib.hid hT
  have hz := hT.size
  have a0 := fun p : GB (w.heap.size + 2) w1 => GB.cell (o := 0) (by omega) hT.a.c0 p
  have a1 := fun p : GB (w.heap.size + 2) w1 => GB.cell (o := 1) (by omega) hT.a.c1 p
  have a2 := fun p : GB (w.heap.size + 2) w1 => GB.cell (o := 2) (by omega) hT.a.c2 p
  have a3 := fun p : GB (w.heap.size + 2) w1 => GB.cell (o := 3) (by omega) hT.a.c3 p
  have b0 := fun p : GB (w.heap.size + 2) w1 => GB.cell (o := 0) (by omega) hT.b.c0 p
  have b1 := fun p : GB (w.heap.size + 2) w1 => GB.cell (o := 1) (by omega) hT.b.c1 p
  have b2 := fun p : GB (w.heap.size + 2) w1 => GB.cell (o := 2) (by omega) hT.b.c2 p
  have b3 := fun p : GB (w.heap.size + 2) w1 => GB.cell (o := 3) (by omega) hT.b.c3 p
  clear hT
  refine wp_region_gb (B := w.heap.size + 2) (by kernel_rfl) (by kernel_rfl) ?_
  repeat (go_big_quiet_step (fail))
  go_big_quiet_step ((exact gb_below hz (p1 _)))
  repeat (go_big_quiet_step (fail))
  go_big_quiet_step ((exact gb_below hz (p2 _)))
  repeat (go_big_quiet_step (fail))
  go_big_quiet_step ((exact gb_same (p3 _)))
  repeat (go_big_quiet_step (fail))
  refine wpQuiet_nil ?_
  intro _ hw'
  obtain ⟨q, rfl⟩ := hw'
  go_wp2
  go_ret2
  exact ⟨rfl, HT.out.low.trans (q.h.mono (by omega))⟩

/-- The words of a meeting. -/
structure Meet (sx sy ms tx ty mq re im pr pi o1 o2 t1 t2 : Nat) : Prop where
  pair : betweenB sx sy tx ty ms mq = some (pr, pi)
  go : ∃ d1 d2 r1 r2 m y z s1 s2 s3 s4, lessC sx sy tx ty = some (d1, d2) ∧ mulC d1 d2 re im = some (r1, r2) ∧ fb .add .f32 ms mq = some m ∧ fb .quo .f32 mq m = some y ∧ fb .quo .f32 ms m = some z ∧
    scaleC r1 r2 y = some (s1, s2) ∧ scaleC r1 r2 z = some (s3, s4) ∧ plusC pr pi s1 s2 = some (o1, o2) ∧ lessC pr pi s3 s4 = some (t1, t2)
  vp : ∃ u v, V32 pr u ∧ V32 pi v
  vo : ∃ u v, V32 o1 u ∧ V32 o2 v
  vt : ∃ u v, V32 t1 u ∧ V32 t2 v

set_option maxRecDepth 100000 in
set_option maxHeartbeats 2000000 in
theorem Meet_walk {ax ay sx sy ch ms bx by_ tx ty cq mq tw re im pr pi o1 o2 t1 t2 : Nat} {x y z : Rat} (h1 : PW ax ay sx sy ch ms) (h2 : PW bx by_ tx ty cq mq) (h : Meet sx sy ms tx ty mq re im pr pi o1 o2 t1 t2) (hph : Phas tw re im x y) (htw : V32 tw z) (w : World) :
    Calls Try.prog 25 #[.agg #[.complex .f32 ax ay, .complex .f32 sx sy, .float .f32 ch, .float .f32 ms], .agg #[.complex .f32 bx by_, .complex .f32 tx ty, .float .f32 cq, .float .f32 mq], .float .f32 tw] w fun e w' => e = .returned (.tuple #[.agg #[.complex .f32 ax ay, .complex .f32 o1 o2, .float .f32 ch, .float .f32 ms], .agg #[.complex .f32 bx by_, .complex .f32 t1 t2, .float .f32 cq, .float .f32 mq], .bool true]) ∧ Below w.heap.size w w' := by
  obtain ⟨t, k1, k2⟩ := hph.walk
  obtain ⟨d1, d2, r1, r2, m, yy, zz, s1, s2, s3, s4, e1, e2, e3, e4, e5, e6, e7, e8, e9⟩ := h.go
  obtain ⟨_, _, vp1, vp2⟩ := h.vp
  obtain ⟨_, _, vo1, vo2⟩ := h.vo
  obtain ⟨_, _, vt1, vt2⟩ := h.vt
  have P1 := Lib.hid (fun w => PairSpeed_walk h1 h2 h.pair vp1 vp2 w)
  have p2 := fun w => IsFinite_walk htw w
  have p3 := fun w => lessC_walk e1 w
  have p4 := fun w => mulC_walk e2 w
  have p5 := fun w => scaleC_walk e6 w
  have p6 := fun w => scaleC_walk e7 w
  have p7 := fun w => plusC_walk e8 w
  have p8 := fun w => lessC_walk e9 w
  have p9 := fun w => IsFiniteComplex_walk vo1 vo2 w
  have p10 := fun w => IsFiniteComplex_walk vt1 vt2 w
  have q1 := w64 k1
  have q2 := wb e3
  have q3 := wb e4
  have q4 := wb e5
  clear h1 h2 h hph htw k1 e1 e2 e3 e4 e5 e6 e7 e8 e9 vp1 vp2 vo1 vo2 vt1 vt2
  go_enter Try.func25, Try.ntmps25
  go_wp2_with fail
  refine (P1.out _).mono ?_; rintro e w1 ⟨rfl, hb1⟩
  have hT := (((Two.new w ax ay sx sy ch ms bx by_ tx ty cq mq).below ((Below.refl _ _).alloc (Nat.le_refl _) (.cells #[.complex .f32 0 0, .complex .f32 0 0, .float .f32 0, .float .f32 0] 27))).below ((Below.refl _ _).alloc (Nat.le_refl _) (.cells #[.complex .f32 0 0, .complex .f32 0 0, .float .f32 0, .float .f32 0] 27))).below hb1
  have hR := (Two.new ((w.alloc (.cells #[.complex .f32 ax ay, .complex .f32 sx sy, .float .f32 ch, .float .f32 ms] 27)).alloc (.cells #[.complex .f32 bx by_, .complex .f32 tx ty, .float .f32 cq, .float .f32 mq] 27)) 0 0 0 0 0 0 0 0 0 0 0 0).below hb1
  have hR1 := hR.a
  have hR2 := hR.b
  simp only [World.size_alloc] at hR1 hR2
  have HT := Lib.hid hT
  have HR1 := Lib.hid hR1
  have HR2 := Lib.hid hR2
  have hz4 : w.heap.size + 4 ≤ w1.heap.size := by have := hR.size; simp at this; omega
  have HZ := Lib.hid hz4
  clear P1 hb1 hR hR1 hR2 hT hz4
  obtain ⟨a0, a1, a2, a3, ag0, ag1, ag2, ag3⟩ := HT.out.a
  obtain ⟨b0, b1, b2, b3, bg0, bg1, bg2, bg3⟩ := HT.out.b
  go_wp2_with fail
  refine (p2 _).mono ?_; rintro e w2 ⟨rfl, rfl⟩
  go_wp2_with fail
  repeat
    first
      | (refine (p3 _).mono ?_; rintro e w2 ⟨rfl, rfl⟩)
      | (refine (k2 _).mono ?_; rintro e w2 ⟨rfl, rfl⟩)
      | (refine (p4 _).mono ?_; rintro e w2 ⟨rfl, rfl⟩)
      | (refine (p5 _).mono ?_; rintro e w2 ⟨rfl, rfl⟩)
      | (refine (p6 _).mono ?_; rintro e w2 ⟨rfl, rfl⟩)
      | (refine (p7 _).mono ?_; rintro e w2 ⟨rfl, rfl⟩)
      | (refine (p8 _).mono ?_; rintro e w2 ⟨rfl, rfl⟩)
    go_wp2_with fail
  have hz := HT.out.size
  have m0 := fun p : GB w1.heap.size w1 => GB.cell (o := 3) (by omega) HT.out.a.c3 p
  have m1 := fun p : GB w1.heap.size w1 => GB.cell (o := 3) (by omega) HT.out.b.c3 p
  clear a0 a1 a2 a3 ag0 ag1 ag2 ag3 b0 b1 b2 b3 bg0 bg1 bg2 bg3
  refine wp_region_gb (B := w1.heap.size) (by kernel_rfl) (by kernel_rfl) ?_
  repeat (go_big_quiet_step (fail))
  go_big_quiet_step ((exact gb_same (p5 _)))
  repeat (go_big_quiet_step (fail))
  go_big_quiet_step ((exact gb_same (p7 _)))
  repeat (go_big_quiet_step (fail))
  go_big_quiet_step ((exact gb_same (p6 _)))
  repeat (go_big_quiet_step (fail))
  go_big_quiet_step ((exact gb_same (p8 _)))
  repeat (go_big_quiet_step (fail))
  refine wpQuiet_nil ?_
  intro _ hw'
  obtain ⟨q, rfl⟩ := hw'
  obtain ⟨w2, hb2⟩ := q
  show Exit.then _ _ Exit.normal _ w2
  have HT2 := Lib.hid (HT.out.below hb2)
  have HS1 := Lib.hid (HR1.out.below hb2 (by have := HZ.out; omega))
  have HS2 := Lib.hid (HR2.out.below hb2 (by have := HZ.out; omega))
  clear HT HR1 HR2 m0 m1 hb2 p3 p4 p5 p6 p7 p8 k2 q1 q2 q3 q4 p2
  obtain ⟨a0, a1, a2, a3, ag0, ag1, ag2, ag3⟩ := HT2.out.a
  obtain ⟨b0, b1, b2, b3, bg0, bg1, bg2, bg3⟩ := HT2.out.b
  go_wp2_with fail
  refine (p9 _).mono ?_; rintro e w3 ⟨rfl, rfl⟩
  go_wp2_with fail
  refine (p10 _).mono ?_; rintro e w3 ⟨rfl, rfl⟩
  go_wp2_with fail
  have hsz := HT2.out.size
  have hA : Has4 ((w2.setCell ⟨w.heap.size, 1, none⟩ (.complex .f32 o1 o2)).setCell ⟨w.heap.size + 1, 1, none⟩ (.complex .f32 t1 t2)) w.heap.size _ _ _ _ := (HT2.out.a.set1 (.complex .f32 o1 o2)).block (Below.heap_setCell _ _ _ _ (by simp))
  have hB : Has4 ((w2.setCell ⟨w.heap.size, 1, none⟩ (.complex .f32 o1 o2)).setCell ⟨w.heap.size + 1, 1, none⟩ (.complex .f32 t1 t2)) (w.heap.size + 1) _ _ _ _ := (HT2.out.b.block (w' := w2.setCell ⟨w.heap.size, 1, none⟩ (.complex .f32 o1 o2)) (Below.heap_setCell _ _ _ _ (by simp))).set1 (.complex .f32 t1 t2)
  have hR : Has4 ((w2.setCell ⟨w.heap.size, 1, none⟩ (.complex .f32 o1 o2)).setCell ⟨w.heap.size + 1, 1, none⟩ (.complex .f32 t1 t2)) (w.heap.size + 1 + 1) _ _ _ _ := (HS1.out.block (w' := w2.setCell ⟨w.heap.size, 1, none⟩ (.complex .f32 o1 o2)) (Below.heap_setCell _ _ _ _ (by simp <;> omega))).block (Below.heap_setCell _ _ _ _ (by simp))
  have hS : Has4 ((w2.setCell ⟨w.heap.size, 1, none⟩ (.complex .f32 o1 o2)).setCell ⟨w.heap.size + 1, 1, none⟩ (.complex .f32 t1 t2)) (w.heap.size + 1 + 1 + 1) _ _ _ _ := (HS2.out.block (w' := w2.setCell ⟨w.heap.size, 1, none⟩ (.complex .f32 o1 o2)) (Below.heap_setCell _ _ _ _ (by simp <;> omega))).block (Below.heap_setCell _ _ _ _ (by simp <;> omega))
  have hL : Below w.heap.size w ((w2.setCell ⟨w.heap.size, 1, none⟩ (.complex .f32 o1 o2)).setCell ⟨w.heap.size + 1, 1, none⟩ (.complex .f32 t1 t2)) := (HT2.out.low.setCell (p := ⟨w.heap.size, 1, none⟩) (Nat.le_refl _) _).setCell (p := ⟨w.heap.size + 1, 1, none⟩) (by simp) _
  clear HT2 HS1 HS2 a0 a1 a2 a3 ag0 ag1 ag2 ag3 b0 b1 b2 b3 bg0 bg1 bg2 bg3
  generalize (w2.setCell ⟨w.heap.size, 1, none⟩ (.complex .f32 o1 o2)).setCell ⟨w.heap.size + 1, 1, none⟩ (.complex .f32 t1 t2) = w5 at *
  have HL := Lib.hid hL
  clear hL
  obtain ⟨a0, a1, a2, a3, ag0, ag1, ag2, ag3⟩ := hA
  obtain ⟨b0, b1, b2, b3, bg0, bg1, bg2, bg3⟩ := hB
  obtain ⟨r0, r1, r2, r3, rg0, rg1, rg2, rg3⟩ := hR
  obtain ⟨s0, s1, s2, s3, sg0, sg1, sg2, sg3⟩ := hS
  go_region
  all_goals
    go_wp2
    refine bodyPost_ret (v := .tuple #[.agg #[.complex .f32 ax ay, .complex .f32 o1 o2, .float .f32 ch, .float .f32 ms], .agg #[.complex .f32 bx by_, .complex .f32 t1 t2, .float .f32 cq, .float .f32 mq], .bool true]) (by simp [results, Try.results25, go_sem, a0, a1, a2, a3, b0, b1, b2, b3, r0, r1, r2, r3, s0, s1, s2, s3]) rfl ⟨rfl, ?_⟩
    refine Below.drew ?_
    refine ((((((((HL.out.setCell ?_ _).setCell ?_ _).setCell ?_ _).setCell ?_ _).setCell ?_ _).setCell ?_ _).setCell ?_ _).setCell ?_ _)
    all_goals (simp <;> omega)

theorem Bump_walk {ax ay sx sy ch ms bx by_ tx ty cq mq re im pr pi o1 o2 t1 t2 : Nat} {x y z : Rat} (h1 : PW ax ay sx sy ch ms) (h2 : PW bx by_ tx ty cq mq) (h : Meet sx sy ms tx ty mq re im pr pi o1 o2 t1 t2) (hph : Phas 1056964608 re im x y) (htw : V32 1056964608 z) (w : World) :
    Calls Try.prog 26 #[.agg #[.complex .f32 ax ay, .complex .f32 sx sy, .float .f32 ch, .float .f32 ms], .agg #[.complex .f32 bx by_, .complex .f32 tx ty, .float .f32 cq, .float .f32 mq]] w fun e w' => e = .returned (.tuple #[.agg #[.complex .f32 ax ay, .complex .f32 o1 o2, .float .f32 ch, .float .f32 ms], .agg #[.complex .f32 bx by_, .complex .f32 t1 t2, .float .f32 cq, .float .f32 mq], .bool true]) ∧ Below w.heap.size w w' := by
  have p1 := fun w => Meet_walk (ax := ax) (ay := ay) (ch := ch) (bx := bx) (by_ := by_) (cq := cq) h1 h2 h hph htw w
  clear h1 h2 h hph htw
  go_enter Try.func26, Try.ntmps26
  go_wp2_with fail
  all_goals
    refine (p1 _).mono ?_; rintro e w1 ⟨rfl, hb1⟩
    have hR : Two ((w.alloc (.cells #[.complex .f32 ax ay, .complex .f32 sx sy, .float .f32 ch, .float .f32 ms] 27)).alloc (.cells #[.complex .f32 bx by_, .complex .f32 tx ty, .float .f32 cq, .float .f32 mq] 27)) 0 0 0 0 0 0 0 0 0 0 0 0 w1 := by
      first
        | exact (Two.new _ 0 0 0 0 0 0 0 0 0 0 0 0).below hb1
        | exact ((Two.new _ 0 0 0 0 0 0 0 0 0 0 0 0).below (Below.refl _ _).drew).below hb1
    have hL : Below w.heap.size w w1 := (((Below.refl _ _).alloc (Nat.le_refl _) _).alloc (by simp) _).trans (hR.low.mono (by simp <;> omega))
    have hR1 := hR.a
    have hR2 := hR.b
    simp only [World.size_alloc] at hR1 hR2
    have HL := Lib.hid hL
    clear p1 hb1 hR hL
    obtain ⟨a0, a1, a2, a3, ag0, ag1, ag2, ag3⟩ := hR1
    obtain ⟨b0, b1, b2, b3, bg0, bg1, bg2, bg3⟩ := hR2
    go_wp2
  all_goals
    refine bodyPost_ret (v := .tuple #[.agg #[.complex .f32 ax ay, .complex .f32 o1 o2, .float .f32 ch, .float .f32 ms], .agg #[.complex .f32 bx by_, .complex .f32 t1 t2, .float .f32 cq, .float .f32 mq], .bool true]) (by simp [results, Try.results26, go_sem, a0, a1, a2, a3, b0, b1, b2, b3]) rfl ⟨rfl, ?_⟩
    refine ((((((((HL.out.setCell ?_ _).setCell ?_ _).setCell ?_ _).setCell ?_ _).setCell ?_ _).setCell ?_ _).setCell ?_ _).setCell ?_ _)
    all_goals (simp <;> omega)

/-- Two particles in one block. -/
structure Pair8 (w : World) (b : Nat) (ax ay sx sy ch ms bx by_ tx ty cq mq : Nat) : Prop where
  c0 : w.cell? ⟨b, 0, none⟩ = some (.complex .f32 ax ay)
  c1 : w.cell? ⟨b, 1, none⟩ = some (.complex .f32 sx sy)
  c2 : w.cell? ⟨b, 2, none⟩ = some (.float .f32 ch)
  c3 : w.cell? ⟨b, 3, none⟩ = some (.float .f32 ms)
  c4 : w.cell? ⟨b, 4, none⟩ = some (.complex .f32 bx by_)
  c5 : w.cell? ⟨b, 5, none⟩ = some (.complex .f32 tx ty)
  c6 : w.cell? ⟨b, 6, none⟩ = some (.float .f32 cq)
  c7 : w.cell? ⟨b, 7, none⟩ = some (.float .f32 mq)
  lt : b < w.heap.size
theorem Pair8.below {w w' : World} {b B : Nat} {ax ay sx sy ch ms bx by_ tx ty cq mq : Nat} (h : Pair8 w b ax ay sx sy ch ms bx by_ tx ty cq mq) (hb : Below B w w') (hB : b < B) : Pair8 w' b ax ay sx sy ch ms bx by_ tx ty cq mq := by
  obtain ⟨h0, h1, h2, h3, h4, h5, h6, h7, h8⟩ := h
  refine ⟨?_, ?_, ?_, ?_, ?_, ?_, ?_, ?_, Nat.lt_of_lt_of_le h8 hb.size⟩
  all_goals (rw [hb.cell hB]; assumption)

theorem NotValid_walk {ax ay sx sy ch ms : Nat} (h : PW ax ay sx sy ch ms) (w : World) :
    Calls Try.prog 71 #[.agg #[.complex .f32 ax ay, .complex .f32 sx sy, .float .f32 ch, .float .f32 ms]] w fun e w' => e = .returned (.bool false) ∧ Below w.heap.size w w' := by
  have p1 := fun w => h.valid w
  clear h
  go_enter Try.func71, Try.ntmps71
  go_wp2_with fail
  refine (p1 _).mono ?_; rintro e w1 ⟨rfl, hb1⟩
  go_wp2
  go_ret
  exact ⟨rfl, ((Below.refl _ _).alloc (Nat.le_refl _) _).trans (hb1.mono (by simp))⟩

theorem Index_walk {b : Nat} {ax ay sx sy ch ms bx by_ tx ty cq mq : Nat} (h1 : PW ax ay sx sy ch ms) (h2 : PW bx by_ tx ty cq mq) (w : World) (h : Pair8 w b ax ay sx sy ch ms bx by_ tx ty cq mq) :
    Calls Try.prog 74 #[.slice (some ⟨b, 0, none⟩) 2 2, .func (.func 71) #[] #[]] w fun e w' => e = .returned (.int .i64 (-1)) ∧ Below w.heap.size w w' := by
  have p1 := fun w => NotValid_walk h1 w
  have p2 := fun w => NotValid_walk h2 w
  have HP := Lib.hid h
  clear h1 h2 h
  go_enter Try.func74, Try.ntmps74
  go_wp2_with fail
  go_loopw [4, 8] (fun v i wr => (i = .int .i64 0 ∨ i = .int .i64 1 ∨ i = .int .i64 2) ∧ Below w.heap.size w wr) (fun _ i _ => 2 - (intOf i).toNat)
  case atStart => exact ⟨Or.inl rfl, Below.refl _ _⟩
  case round =>
    obtain ⟨hi, hB⟩ := hrel
    obtain ⟨c0, c1, c2, c3, c4, c5, c6, c7, c8⟩ := HP.out.below hB HP.out.lt
    have HB := Lib.hid hB
    clear hB
    rcases hi with rfl | rfl | rfl
    · go_wp2_with fail
      refine (p1 _).mono ?_; rintro e w2 ⟨rfl, hb2⟩
      go_wp2
      go_roundw
      case rel => exact ⟨Or.inr (Or.inl rfl), HB.out.trans (hb2.mono HB.out.size)⟩
      case measure => simp [intOf]
    · go_wp2_with fail
      refine (p2 _).mono ?_; rintro e w2 ⟨rfl, hb2⟩
      go_wp2
      go_roundw
      case rel => exact ⟨Or.inr (Or.inr rfl), HB.out.trans (hb2.mono HB.out.size)⟩
      case measure => simp [intOf]
    · go_wp2
      go_ret
      exact ⟨rfl, HB.out⟩

theorem Contains_walk {b : Nat} {ax ay sx sy ch ms bx by_ tx ty cq mq : Nat} (h1 : PW ax ay sx sy ch ms) (h2 : PW bx by_ tx ty cq mq) (w : World) (h : Pair8 w b ax ay sx sy ch ms bx by_ tx ty cq mq) :
    Calls Try.prog 70 #[.slice (some ⟨b, 0, none⟩) 2 2, .func (.func 71) #[] #[]] w fun e w' => e = .returned (.bool false) ∧ Below w.heap.size w w' := by
  have p1 := Index_walk h1 h2 w h
  clear h1 h2 h
  go_enter Try.func70, Try.ntmps70
  go_wp2_with fail
  refine p1.mono ?_; rintro e w1 ⟨rfl, hb1⟩
  go_wp2
  go_ret
  exact ⟨rfl, hb1⟩

theorem AreParticles_walk {b : Nat} {ax ay sx sy ch ms bx by_ tx ty cq mq : Nat} (h1 : PW ax ay sx sy ch ms) (h2 : PW bx by_ tx ty cq mq) (w : World) (h : Pair8 w b ax ay sx sy ch ms bx by_ tx ty cq mq) :
    Calls Try.prog 55 #[.slice (some ⟨b, 0, none⟩) 2 2] w fun e w' => e = .returned (.bool true) ∧ Below w.heap.size w w' := by
  have p1 := Contains_walk h1 h2 w h
  clear h1 h2 h
  go_enter Try.func55, Try.ntmps55
  go_wp2_with fail
  refine p1.mono ?_; rintro e w1 ⟨rfl, hb1⟩
  go_wp2
  go_ret
  exact ⟨rfl, hb1⟩

end Go.Proofs.Ytgblehdamgliaaa
