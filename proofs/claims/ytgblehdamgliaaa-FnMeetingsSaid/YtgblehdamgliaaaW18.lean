/-
  The walk of the law FnMeetings: out of the facts on the words that its calls come to, it returns true.
-/
import Derived.Test.YtgblehdamgliaaaW17
namespace Go.Proofs.Ytgblehdamgliaaa
open Go.RowKit FT

set_option linter.unusedVariables false
set_option linter.unusedSimpArgs false

/-- A particle's block. -/
structure Live (w : World) (B : Nat) (ax ay sx sy ch ms : Nat) : Prop where
  h : Has4 w B (.complex .f32 ax ay) (.complex .f32 sx sy) (.float .f32 ch) (.float .f32 ms)
  lt : B < w.heap.size
theorem Live.below {w w' : World} {B : Nat} {ax ay sx sy ch ms : Nat} (h : Live w B ax ay sx sy ch ms) (hb : Below w.heap.size w w') : Live w' B ax ay sx sy ch ms :=
  ⟨h.h.below hb h.lt, Nat.lt_of_lt_of_le h.lt hb.size⟩
theorem Live.new (w : World) (ax ay sx sy ch ms : Nat) : Live (w.alloc (.cells #[.complex .f32 ax ay, .complex .f32 sx sy, .float .f32 ch, .float .f32 ms] 27)) w.heap.size ax ay sx sy ch ms := ⟨Has4.new w _ _ _ _ 27, by simp⟩
theorem below_alloc (w : World) (o : Obj) : Below w.heap.size w (w.alloc o) := (Below.refl _ _).alloc (Nat.le_refl _) o

theorem two_live (w : World) (ax ay sx sy ch ms bx by_ tx ty cq mq : Nat) :
    Live ((w.alloc (.cells #[.complex .f32 ax ay, .complex .f32 sx sy, .float .f32 ch, .float .f32 ms] 27)).alloc (.cells #[.complex .f32 bx by_, .complex .f32 tx ty, .float .f32 cq, .float .f32 mq] 27)) w.heap.size ax ay sx sy ch ms ∧
    Live ((w.alloc (.cells #[.complex .f32 ax ay, .complex .f32 sx sy, .float .f32 ch, .float .f32 ms] 27)).alloc (.cells #[.complex .f32 bx by_, .complex .f32 tx ty, .float .f32 cq, .float .f32 mq] 27)) (w.heap.size + 1) bx by_ tx ty cq mq ∧
    Below w.heap.size w ((w.alloc (.cells #[.complex .f32 ax ay, .complex .f32 sx sy, .float .f32 ch, .float .f32 ms] 27)).alloc (.cells #[.complex .f32 bx by_, .complex .f32 tx ty, .float .f32 cq, .float .f32 mq] 27)) := by
  have h := Two.new w ax ay sx sy ch ms bx by_ tx ty cq mq
  exact ⟨⟨h.a, by have := h.size; omega⟩, ⟨h.b, by have := h.size; omega⟩, h.low⟩

theorem pair_new (w : World) (ax ay sx sy ch ms bx by_ tx ty cq mq : Nat) : Pair8 (w.alloc (.cells #[.complex .f32 ax ay, .complex .f32 sx sy, .float .f32 ch, .float .f32 ms, .complex .f32 bx by_, .complex .f32 tx ty, .float .f32 cq, .float .f32 mq] 27)) w.heap.size ax ay sx sy ch ms bx by_ tx ty cq mq := by
  constructor <;> simp

/-- What the words of one input come to. -/
structure MeetFacts (sx sy ch ms tx ty cq mq tw : Nat) : Prop where
  vtw : ∃ v, V32 tw v
  half : ∃ v, V32 1056964608 v
  out : ∃ re im x y re' im' x' y' p1 p2 c1 c2 d1 d2 e1 e2 f1 f2 q1 q2 g1 g2 h1 h2, Phas tw re im x y ∧ Phas 1056964608 re' im' x' y' ∧
    Meet sx sy ms tx ty mq re im p1 p2 c1 c2 d1 d2 ∧ Meet sx sy ms tx ty mq re' im' p1 p2 e1 e2 f1 f2 ∧ Meet e1 e2 ms f1 f2 mq re' im' q1 q2 g1 g2 h1 h2 ∧
    ∃ b1 b2 a1 a2 x1 y1, Mom sx sy ms tx ty mq b1 b2 ∧ Mom c1 c2 ms d1 d2 mq a1 a2 ∧ Ener sx sy ms tx ty mq x1 ∧ Ener c1 c2 ms d1 d2 mq y1 ∧
    ∃ r1 r2 x1' y1' r3 r4 r5 r6 r7 r8, apartB b1 b2 a1 a2 = some r1 ∧ IsLt r1 milli ∧ cv64 x1 = some x1' ∧ cv64 y1 = some y1' ∧ gapB x1' y1' = some r2 ∧ IsLt r2 milli ∧
      apartB sx sy tx ty = some r3 ∧ apartB c1 c2 d1 d2 = some r4 ∧ gapB r3 r4 = some r5 ∧ IsLt r5 milli ∧ apartB g1 g2 sx sy = some r6 ∧ IsLt r6 milli ∧ apartB h1 h2 tx ty = some r7 ∧ IsLt r7 milli ∧ apartB p1 p2 q1 q2 = some r8 ∧ IsLt r8 milli

set_option maxRecDepth 100000 in
set_option maxHeartbeats 4000000 in
theorem meetings_go {a b : Option Addr} {n m c d : Nat} {w : World} (hn : n ≤ 48) (hm : m ≤ 48) (ha : Bytes w a n) (ha' : ∀ x off i, a = some ⟨x, off, i⟩ → 0 < n → i = none ∧ x < w.heap.size) (hs : n = 0 ∨ a.isSome = true)
    (hb : Bytes w b m) (hb' : ∀ x off i, b = some ⟨x, off, i⟩ → 0 < m → i = none ∧ x < w.heap.size) (hs' : m = 0 ∨ b.isSome = true)
    (hp : ∀ x y s t c m, PD x y s t c m → PW (d8 x) (d8 y) (d8 s) (d8 t) (d2 c) (d4 m))
    (hF : ∀ x y s t c m, PD x y s t c m → ∀ x' y' s' t' c' m', PD x' y' s' t' c' m' → ∀ n1 : Int, -8 ≤ n1 → n1 ≤ 8 → MeetFacts (d8 s) (d8 t) (d2 c) (d4 m) (d8 s') (d8 t') (d2 c') (d4 m') (d8 n1)) :
    Calls Try.prog 5 #[.slice a n c, .slice b m d] w fun e w' => e = .returned (.bool true) ∧ Below w.heap.size w w' := by
  have HP := Lib.hid hp
  have HF := Lib.hid hF
  have P0 := Lib.hid (fun w => Long_no (a := a) (b := b) (c := c) (d := d) hn hm w)
  have P1 := Lib.hid (Particle_walk (cap := c) ha ha' hs (by omega))
  have HB := Lib.hid hb
  have HB' := Lib.hid hb'
  have HS' := Lib.hid hs'
  clear hp hF ha ha' hs hb hb' hs'
  go_enter Try.func5, Try.ntmps5
  go_wp2_with fail
  refine (P0.out _).mono ?_; rintro e w' ⟨rfl, rfl⟩
  go_wp2_with fail
  refine P1.out.mono ?_; rintro e w1 ⟨x, y, s, t, ch, ms, hd, rfl, hb1⟩
  clear P0 P1
  have hB1 : Hid (∀ w2, Below w.heap.size w w2 → Bytes w2 b m) := by
    intro w2 h2 x off i hab j hj
    obtain ⟨y, y0, y1, y2⟩ := HB.out x off i hab j hj
    exact ⟨y, y0, y1, by rw [h2.cell (by exact (HB'.out x off i hab (by omega)).2)]; exact y2⟩
  have HB1 := Lib.hid hb1
  clear hb1
  have P1 : Hid (∀ w2, Below w.heap.size w w2 → Calls Try.prog 7 #[.slice b m d] w2 (DrawnP w2)) := fun w2 h2 => Particle_walk (cap := d) (hB1.out w2 h2) (fun x off i h h0 => ⟨(HB'.out x off i h h0).1, Nat.lt_of_lt_of_le (HB'.out x off i h h0).2 h2.size⟩) HS'.out (by omega)
  have P2 : Hid (∀ w2, Below w.heap.size w w2 → Calls Try.prog 8 #[.slice b m d, .int .i64 40] w2 (DrawnN w2)) := fun w2 h2 => Number_walk (hB1.out w2 h2) (fun x off i h h0 => (HB'.out x off i h h0).1) HS'.out (by omega) 40 (by omega)
  have HA := Lib.hid (Live.new w1 (d8 x) (d8 y) (d8 s) (d8 t) (d2 ch) (d4 ms))
  have HW : Hid (Below w.heap.size w (w1.alloc (.cells #[.complex .f32 (d8 x) (d8 y), .complex .f32 (d8 s) (d8 t), .float .f32 (d2 ch), .float .f32 (d4 ms)] 27))) := HB1.out.alloc HB1.out.size _
  clear HB HB' HS' hB1 HB1
  unfold partOf
  go_wp2_with fail
  refine (P1.out _ HW.out).mono ?_; rintro e w2 ⟨x', y', s', t', ch', ms', hd', rfl, hb2⟩
  have HW2 := Lib.hid (HW.out.trans (hb2.mono HW.out.size))
  have HA2 := Lib.hid (HA.out.below hb2)
  clear P1 HW HA hb2
  unfold partOf
  have HW3 := Lib.hid (HW2.out.trans ((below_alloc w2 (.cells #[.complex .f32 (d8 x') (d8 y'), .complex .f32 (d8 s') (d8 t'), .float .f32 (d2 ch'), .float .f32 (d4 ms')] 27)).mono HW2.out.size))
  have HA3 := Lib.hid (HA2.out.below (below_alloc w2 (.cells #[.complex .f32 (d8 x') (d8 y'), .complex .f32 (d8 s') (d8 t'), .float .f32 (d2 ch'), .float .f32 (d4 ms')] 27)))
  have HB3 := Lib.hid (Live.new w2 (d8 x') (d8 y') (d8 s') (d8 t') (d2 ch') (d4 ms'))
  clear HW2 HA2
  go_wp2_with fail
  refine (P2.out _ HW3.out).mono ?_; rintro e w' ⟨n1, n10, n11, rfl, rfl⟩
  have HPW := Lib.hid (HP.out x y s t ch ms hd)
  have HPW' := Lib.hid (HP.out x' y' s' t' ch' ms' hd')
  have HFF := Lib.hid (HF.out x y s t ch ms hd x' y' s' t' ch' ms' hd' n1 n10 n11)
  clear P2 HP HF hd hd' n10 n11
  generalize w2.alloc (.cells #[.complex .f32 (d8 x') (d8 y'), .complex .f32 (d8 s') (d8 t'), .float .f32 (d2 ch'), .float .f32 (d4 ms')] 27) = w3 at *
  generalize w1.heap.size = A at *
  generalize w2.heap.size = B at *
  generalize d8 x = ax at *
  generalize d8 y = ay at *
  generalize d8 s = sx at *
  generalize d8 t = sy at *
  generalize d2 ch = pch at *
  generalize d4 ms = pms at *
  generalize d8 x' = bx at *
  generalize d8 y' = by_ at *
  generalize d8 s' = tx at *
  generalize d8 t' = ty at *
  generalize d2 ch' = qch at *
  generalize d4 ms' = qms at *
  generalize d8 n1 = tw at *
  obtain ⟨re, im, px, py, re', im', px', py', p1, p2, c1, c2, d1, d2, e1, e2, f1, f2, q1, q2, g1, g2, h1, h2, ph, ph', m1, m2, m3, b1, b2, a1, a2, x1, y1, mo1, mo2, en1, en2, r1, r2, x1', y1', r3, r4, r5, r6, r7, r8, k1, k2, k3, k4, k5, k6, k7, k8, k9, k10, k11, k12, k13, k14, k15, k16⟩ := HFF.out.out
  obtain ⟨v0, v1, v2, v3, vg0, vg1, vg2, vg3⟩ := HA3.out.h
  obtain ⟨u0, u1, u2, u3, ug0, ug1, ug2, ug3⟩ := HB3.out.h
  have PWc : PW ax ay c1 c2 pch pms := ⟨HPW.out.ax, HPW.out.ay, ⟨_, m1.vo.choose_spec.choose_spec.1⟩, ⟨_, m1.vo.choose_spec.choose_spec.2⟩, HPW.out.ch, HPW.out.ms⟩
  have PWd : PW bx by_ d1 d2 qch qms := ⟨HPW'.out.ax, HPW'.out.ay, ⟨_, m1.vt.choose_spec.choose_spec.1⟩, ⟨_, m1.vt.choose_spec.choose_spec.2⟩, HPW'.out.ch, HPW'.out.ms⟩
  have PWe : PW ax ay e1 e2 pch pms := ⟨HPW.out.ax, HPW.out.ay, ⟨_, m2.vo.choose_spec.choose_spec.1⟩, ⟨_, m2.vo.choose_spec.choose_spec.2⟩, HPW.out.ch, HPW.out.ms⟩
  have PWf : PW bx by_ f1 f2 qch qms := ⟨HPW'.out.ax, HPW'.out.ay, ⟨_, m2.vt.choose_spec.choose_spec.1⟩, ⟨_, m2.vt.choose_spec.choose_spec.2⟩, HPW'.out.ch, HPW'.out.ms⟩
  have R1 : Hid (∀ w, Calls Try.prog 25 _ w _) := fun w => Meet_walk HPW.out HPW'.out m1 ph HFF.out.vtw.choose_spec w
  have R2 : Hid (∀ w, Calls Try.prog 26 _ w _) := fun w => Bump_walk HPW.out HPW'.out m2 ph' HFF.out.half.choose_spec w
  have R3 : Hid (∀ w, Calls Try.prog 26 _ w _) := fun w => Bump_walk PWe PWf m3 ph' HFF.out.half.choose_spec w
  have R4 : Hid (∀ w, Calls Try.prog 29 _ w _) := fun w => PairSpeed_walk HPW.out HPW'.out m1.pair m1.vp.choose_spec.choose_spec.1 m1.vp.choose_spec.choose_spec.2 w
  have R5 : Hid (∀ w, Calls Try.prog 29 _ w _) := fun w => PairSpeed_walk PWe PWf m3.pair m3.vp.choose_spec.choose_spec.1 m3.vp.choose_spec.choose_spec.2 w
  have R6 : Hid (∀ b w, Pair8 w b ax ay sx sy pch pms bx by_ tx ty qch qms → Calls Try.prog 27 _ w _) := fun b w h => Mom_walk HPW.out HPW'.out mo1 w h
  have R7 : Hid (∀ b w, Pair8 w b ax ay c1 c2 pch pms bx by_ d1 d2 qch qms → Calls Try.prog 27 _ w _) := fun b w h => Mom_walk PWc PWd mo2 w h
  have R8 : Hid (∀ b w, Pair8 w b ax ay sx sy pch pms bx by_ tx ty qch qms → Calls Try.prog 28 _ w _) := fun b w h => Ener_walk HPW.out HPW'.out en1 w h
  have R9 : Hid (∀ b w, Pair8 w b ax ay c1 c2 pch pms bx by_ d1 d2 qch qms → Calls Try.prog 28 _ w _) := fun b w h => Ener_walk PWc PWd en2 w h
  have K1 := Lib.hid k1
  have K2 := Lib.hid k2
  have K3 := Lib.hid k3
  have K4 := Lib.hid k4
  have K5 := Lib.hid k5
  have K6 := Lib.hid k6
  have K7 := Lib.hid k7
  have K8 := Lib.hid k8
  have K9 := Lib.hid k9
  have K10 := Lib.hid k10
  have K11 := Lib.hid k11
  have K12 := Lib.hid k12
  have K13 := Lib.hid k13
  have K14 := Lib.hid k14
  have K15 := Lib.hid k15
  have K16 := Lib.hid k16
  have HPC := Lib.hid PWc
  have HPD := Lib.hid PWd
  clear k1 k2 k3 k4 k5 k6 k7 k8 k9 k10 k11 k12 k13 k14 k15 k16 ph ph' m1 m2 m3 mo1 mo2 en1 en2 PWc PWd PWe PWf
  go_wp2_with fail
  refine (R1.out _).mono ?_; rintro e w4 ⟨rfl, hb4⟩
  have HA4 := Lib.hid (HA3.out.below hb4)
  have HB4 := Lib.hid (HB3.out.below hb4)
  have HW4 := Lib.hid (HW3.out.trans (hb4.mono HW3.out.size))
  clear R1 HA3 HB3 HW3 hb4 v0 v1 v2 v3 vg0 vg1 vg2 vg3 u0 u1 u2 u3 ug0 ug1 ug2 ug3
  obtain ⟨v0, v1, v2, v3, vg0, vg1, vg2, vg3⟩ := HA4.out.h
  obtain ⟨u0, u1, u2, u3, ug0, ug1, ug2, ug3⟩ := HB4.out.h
  have la := HA4.out.lt
  have lb := HB4.out.lt
  have la' : A < w4.heap.size + 1 := by omega
  have lb' : B < w4.heap.size + 1 := by omega
  have la2 : A ≠ w4.heap.size := by omega
  have lb2 : B ≠ w4.heap.size := by omega
  have la3 : A ≠ w4.heap.size + 1 := by omega
  have lb3 : B ≠ w4.heap.size + 1 := by omega
  go_wp2_with fail
  obtain ⟨hC, hD, hbl⟩ := two_live w4 ax ay c1 c2 pch pms bx by_ d1 d2 qch qms
  have HA5 := Lib.hid (HA4.out.below hbl)
  have HB5 := Lib.hid (HB4.out.below hbl)
  have HW5 := Lib.hid (HW4.out.trans (hbl.mono HW4.out.size))
  have HC5 := Lib.hid hC
  have HD5 := Lib.hid hD
  clear la lb la' lb' la2 lb2 la3 lb3 HA4 HB4 HW4 hC hD hbl v0 v1 v2 v3 vg0 vg1 vg2 vg3 u0 u1 u2 u3 ug0 ug1 ug2 ug3
  generalize (w4.alloc (.cells #[.complex .f32 ax ay, .complex .f32 c1 c2, .float .f32 pch, .float .f32 pms] 27)).alloc (.cells #[.complex .f32 bx by_, .complex .f32 d1 d2, .float .f32 qch, .float .f32 qms] 27) = w5 at *
  generalize hC0 : w4.heap.size + 1 = D at *
  generalize hD0 : w4.heap.size = C at *
  clear hC0 hD0
  refine (R2.out _).mono ?_; rintro e w6 ⟨rfl, hb6⟩
  have HA6 := Lib.hid (HA5.out.below hb6)
  have HB6 := Lib.hid (HB5.out.below hb6)
  have HC6 := Lib.hid (HC5.out.below hb6)
  have HD6 := Lib.hid (HD5.out.below hb6)
  have HW6 := Lib.hid (HW5.out.trans (hb6.mono HW5.out.size))
  clear R2 HA5 HB5 HC5 HD5 HW5 hb6
  have la := HA6.out.lt
  have lb := HB6.out.lt
  have lc := HC6.out.lt
  have ld := HD6.out.lt
  have la' : A < w6.heap.size + 1 := by omega
  have lb' : B < w6.heap.size + 1 := by omega
  have lc' : C < w6.heap.size + 1 := by omega
  have ld' : D < w6.heap.size + 1 := by omega
  obtain ⟨v0, v1, v2, v3, vg0, vg1, vg2, vg3⟩ := HA6.out.h
  obtain ⟨u0, u1, u2, u3, ug0, ug1, ug2, ug3⟩ := HB6.out.h
  obtain ⟨s0, s1, s2, s3, sg0, sg1, sg2, sg3⟩ := HC6.out.h
  obtain ⟨t0, t1, t2, t3, tg0, tg1, tg2, tg3⟩ := HD6.out.h
  go_wp2_with fail
  clear la lb lc ld la' lb' lc' ld' v0 v1 v2 v3 vg0 vg1 vg2 vg3 u0 u1 u2 u3 ug0 ug1 ug2 ug3 s0 s1 s2 s3 sg0 sg1 sg2 sg3 t0 t1 t2 t3 tg0 tg1 tg2 tg3
  obtain ⟨hC, hD, hbl⟩ := two_live w6 ax ay e1 e2 pch pms bx by_ f1 f2 qch qms
  have HA7 := Lib.hid (HA6.out.below hbl)
  have HB7 := Lib.hid (HB6.out.below hbl)
  have HC7 := Lib.hid (HC6.out.below hbl)
  have HD7 := Lib.hid (HD6.out.below hbl)
  have HW7 := Lib.hid (HW6.out.trans (hbl.mono HW6.out.size))
  have HE7 := Lib.hid hC
  have HF7 := Lib.hid hD
  clear HA6 HB6 HC6 HD6 HW6 hC hD hbl
  generalize (w6.alloc (.cells #[.complex .f32 ax ay, .complex .f32 e1 e2, .float .f32 pch, .float .f32 pms] 27)).alloc (.cells #[.complex .f32 bx by_, .complex .f32 f1 f2, .float .f32 qch, .float .f32 qms] 27) = w7 at *
  generalize hC0 : w6.heap.size + 1 = F at *
  generalize hD0 : w6.heap.size = E at *
  clear hC0 hD0
  refine (R3.out _).mono ?_; rintro e w8 ⟨rfl, hb8⟩
  have HA8 := Lib.hid (HA7.out.below hb8)
  have HB8 := Lib.hid (HB7.out.below hb8)
  have HC8 := Lib.hid (HC7.out.below hb8)
  have HD8 := Lib.hid (HD7.out.below hb8)
  have HE8 := Lib.hid (HE7.out.below hb8)
  have HF8 := Lib.hid (HF7.out.below hb8)
  have HW8 := Lib.hid (HW7.out.trans (hb8.mono HW7.out.size))
  clear R3 HA7 HB7 HC7 HD7 HE7 HF7 HW7 hb8
  have la := HA8.out.lt
  have la' : A < w8.heap.size + 1 := by omega
  obtain ⟨vv0, vv1, vv2, vv3, vg0, vg1, vg2, vg3⟩ := HA8.out.h
  have lb := HB8.out.lt
  have lb' : B < w8.heap.size + 1 := by omega
  obtain ⟨uu0, uu1, uu2, uu3, ug0, ug1, ug2, ug3⟩ := HB8.out.h
  have lc := HC8.out.lt
  have lc' : C < w8.heap.size + 1 := by omega
  obtain ⟨ss0, ss1, ss2, ss3, sg0, sg1, sg2, sg3⟩ := HC8.out.h
  have ld := HD8.out.lt
  have ld' : D < w8.heap.size + 1 := by omega
  obtain ⟨tt0, tt1, tt2, tt3, tg0, tg1, tg2, tg3⟩ := HD8.out.h
  have le := HE8.out.lt
  have le' : E < w8.heap.size + 1 := by omega
  obtain ⟨yy0, yy1, yy2, yy3, yg0, yg1, yg2, yg3⟩ := HE8.out.h
  have lf := HF8.out.lt
  have lf' : F < w8.heap.size + 1 := by omega
  obtain ⟨zz0, zz1, zz2, zz3, zg0, zg1, zg2, zg3⟩ := HF8.out.h
  go_wp2_with fail
  clear la la' vv0 vv1 vv2 vv3 vg0 vg1 vg2 vg3 lb lb' uu0 uu1 uu2 uu3 ug0 ug1 ug2 ug3 lc lc' ss0 ss1 ss2 ss3 sg0 sg1 sg2 sg3 ld ld' tt0 tt1 tt2 tt3 tg0 tg1 tg2 tg3 le le' yy0 yy1 yy2 yy3 yg0 yg1 yg2 yg3 lf lf' zz0 zz1 zz2 zz3 zg0 zg1 zg2 zg3 
  obtain ⟨hC, hD, hbl⟩ := two_live w8 ax ay g1 g2 pch pms bx by_ h1 h2 qch qms
  have HA9 := Lib.hid (HA8.out.below hbl)
  have HB9 := Lib.hid (HB8.out.below hbl)
  have HC9 := Lib.hid (HC8.out.below hbl)
  have HD9 := Lib.hid (HD8.out.below hbl)
  have HE9 := Lib.hid (HE8.out.below hbl)
  have HF9 := Lib.hid (HF8.out.below hbl)
  have HW9 := Lib.hid (HW8.out.trans (hbl.mono HW8.out.size))
  have HG9 := Lib.hid hC
  have HH9 := Lib.hid hD
  clear HA8 HB8 HC8 HD8 HE8 HF8 HW8 hC hD hbl
  have hz9 : ((w8.alloc (.cells #[.complex .f32 ax ay, .complex .f32 g1 g2, .float .f32 pch, .float .f32 pms] 27)).alloc (.cells #[.complex .f32 bx by_, .complex .f32 h1 h2, .float .f32 qch, .float .f32 qms] 27)).heap.size = w8.heap.size + 1 + 1 := by simp
  rw [← hz9]
  clear hz9
  generalize (w8.alloc (.cells #[.complex .f32 ax ay, .complex .f32 g1 g2, .float .f32 pch, .float .f32 pms] 27)).alloc (.cells #[.complex .f32 bx by_, .complex .f32 h1 h2, .float .f32 qch, .float .f32 qms] 27) = w9 at *
  generalize hC0 : w8.heap.size + 1 = H at *
  generalize hD0 : w8.heap.size = G at *
  clear hC0 hD0
  refine (R6.out _ _ (pair_new w9 ax ay sx sy pch pms bx by_ tx ty qch qms)).mono ?_; rintro e w10 ⟨rfl, hb10⟩
  have hx10 := (below_alloc w9 _).trans (hb10.mono (by simp))
  have HA10 := Lib.hid (HA9.out.below hx10)
  have HB10 := Lib.hid (HB9.out.below hx10)
  have HC10 := Lib.hid (HC9.out.below hx10)
  have HD10 := Lib.hid (HD9.out.below hx10)
  have HE10 := Lib.hid (HE9.out.below hx10)
  have HF10 := Lib.hid (HF9.out.below hx10)
  have HG10 := Lib.hid (HG9.out.below hx10)
  have HH10 := Lib.hid (HH9.out.below hx10)
  have HW10 := Lib.hid (HW9.out.trans (hx10.mono HW9.out.size))
  clear R6 HA9 HB9 HC9 HD9 HE9 HF9 HG9 HH9 HW9 hb10 hx10
  have la := HA10.out.lt
  have la' : A < w10.heap.size + 1 := by omega
  obtain ⟨vv0, vv1, vv2, vv3, vg0, vg1, vg2, vg3⟩ := HA10.out.h
  have lb := HB10.out.lt
  have lb' : B < w10.heap.size + 1 := by omega
  obtain ⟨uu0, uu1, uu2, uu3, ug0, ug1, ug2, ug3⟩ := HB10.out.h
  have lc := HC10.out.lt
  have lc' : C < w10.heap.size + 1 := by omega
  obtain ⟨ss0, ss1, ss2, ss3, sg0, sg1, sg2, sg3⟩ := HC10.out.h
  have ld := HD10.out.lt
  have ld' : D < w10.heap.size + 1 := by omega
  obtain ⟨tt0, tt1, tt2, tt3, tg0, tg1, tg2, tg3⟩ := HD10.out.h
  have le := HE10.out.lt
  have le' : E < w10.heap.size + 1 := by omega
  obtain ⟨yy0, yy1, yy2, yy3, yg0, yg1, yg2, yg3⟩ := HE10.out.h
  have lf := HF10.out.lt
  have lf' : F < w10.heap.size + 1 := by omega
  obtain ⟨zz0, zz1, zz2, zz3, zg0, zg1, zg2, zg3⟩ := HF10.out.h
  have lg := HG10.out.lt
  have lg' : G < w10.heap.size + 1 := by omega
  obtain ⟨ii0, ii1, ii2, ii3, ig0, ig1, ig2, ig3⟩ := HG10.out.h
  have lh := HH10.out.lt
  have lh' : H < w10.heap.size + 1 := by omega
  obtain ⟨jj0, jj1, jj2, jj3, jg0, jg1, jg2, jg3⟩ := HH10.out.h
  go_wp2_with fail
  clear la la' vv0 vv1 vv2 vv3 vg0 vg1 vg2 vg3 lb lb' uu0 uu1 uu2 uu3 ug0 ug1 ug2 ug3 lc lc' ss0 ss1 ss2 ss3 sg0 sg1 sg2 sg3 ld ld' tt0 tt1 tt2 tt3 tg0 tg1 tg2 tg3 le le' yy0 yy1 yy2 yy3 yg0 yg1 yg2 yg3 lf lf' zz0 zz1 zz2 zz3 zg0 zg1 zg2 zg3 lg lg' ii0 ii1 ii2 ii3 ig0 ig1 ig2 ig3 lh lh' jj0 jj1 jj2 jj3 jg0 jg1 jg2 jg3 
  refine (R7.out _ _ (pair_new w10 ax ay c1 c2 pch pms bx by_ d1 d2 qch qms)).mono ?_; rintro e w11 ⟨rfl, hb11⟩
  have hx11 := (below_alloc w10 _).trans (hb11.mono (by simp))
  have HA11 := Lib.hid (HA10.out.below hx11)
  have HB11 := Lib.hid (HB10.out.below hx11)
  have HC11 := Lib.hid (HC10.out.below hx11)
  have HD11 := Lib.hid (HD10.out.below hx11)
  have HE11 := Lib.hid (HE10.out.below hx11)
  have HF11 := Lib.hid (HF10.out.below hx11)
  have HG11 := Lib.hid (HG10.out.below hx11)
  have HH11 := Lib.hid (HH10.out.below hx11)
  have HW11 := Lib.hid (HW10.out.trans (hx11.mono HW10.out.size))
  clear R7 HA10 HB10 HC10 HD10 HE10 HF10 HG10 HH10 HW10 hb11 hx11
  have la := HA11.out.lt
  have la' : A < w11.heap.size + 1 := by omega
  obtain ⟨vv0, vv1, vv2, vv3, vg0, vg1, vg2, vg3⟩ := HA11.out.h
  have lb := HB11.out.lt
  have lb' : B < w11.heap.size + 1 := by omega
  obtain ⟨uu0, uu1, uu2, uu3, ug0, ug1, ug2, ug3⟩ := HB11.out.h
  have lc := HC11.out.lt
  have lc' : C < w11.heap.size + 1 := by omega
  obtain ⟨ss0, ss1, ss2, ss3, sg0, sg1, sg2, sg3⟩ := HC11.out.h
  have ld := HD11.out.lt
  have ld' : D < w11.heap.size + 1 := by omega
  obtain ⟨tt0, tt1, tt2, tt3, tg0, tg1, tg2, tg3⟩ := HD11.out.h
  have le := HE11.out.lt
  have le' : E < w11.heap.size + 1 := by omega
  obtain ⟨yy0, yy1, yy2, yy3, yg0, yg1, yg2, yg3⟩ := HE11.out.h
  have lf := HF11.out.lt
  have lf' : F < w11.heap.size + 1 := by omega
  obtain ⟨zz0, zz1, zz2, zz3, zg0, zg1, zg2, zg3⟩ := HF11.out.h
  have lg := HG11.out.lt
  have lg' : G < w11.heap.size + 1 := by omega
  obtain ⟨ii0, ii1, ii2, ii3, ig0, ig1, ig2, ig3⟩ := HG11.out.h
  have lh := HH11.out.lt
  have lh' : H < w11.heap.size + 1 := by omega
  obtain ⟨jj0, jj1, jj2, jj3, jg0, jg1, jg2, jg3⟩ := HH11.out.h
  go_wp2_with fail
  clear la la' vv0 vv1 vv2 vv3 vg0 vg1 vg2 vg3 lb lb' uu0 uu1 uu2 uu3 ug0 ug1 ug2 ug3 lc lc' ss0 ss1 ss2 ss3 sg0 sg1 sg2 sg3 ld ld' tt0 tt1 tt2 tt3 tg0 tg1 tg2 tg3 le le' yy0 yy1 yy2 yy3 yg0 yg1 yg2 yg3 lf lf' zz0 zz1 zz2 zz3 zg0 zg1 zg2 zg3 lg lg' ii0 ii1 ii2 ii3 ig0 ig1 ig2 ig3 lh lh' jj0 jj1 jj2 jj3 jg0 jg1 jg2 jg3 
  refine (R8.out _ _ (pair_new w11 ax ay sx sy pch pms bx by_ tx ty qch qms)).mono ?_; rintro e w12 ⟨rfl, hb12⟩
  have hx12 := (below_alloc w11 _).trans (hb12.mono (by simp))
  have HA12 := Lib.hid (HA11.out.below hx12)
  have HB12 := Lib.hid (HB11.out.below hx12)
  have HC12 := Lib.hid (HC11.out.below hx12)
  have HD12 := Lib.hid (HD11.out.below hx12)
  have HE12 := Lib.hid (HE11.out.below hx12)
  have HF12 := Lib.hid (HF11.out.below hx12)
  have HG12 := Lib.hid (HG11.out.below hx12)
  have HH12 := Lib.hid (HH11.out.below hx12)
  have HW12 := Lib.hid (HW11.out.trans (hx12.mono HW11.out.size))
  clear R8 HA11 HB11 HC11 HD11 HE11 HF11 HG11 HH11 HW11 hb12 hx12
  have la := HA12.out.lt
  have la' : A < w12.heap.size + 1 := by omega
  obtain ⟨vv0, vv1, vv2, vv3, vg0, vg1, vg2, vg3⟩ := HA12.out.h
  have lb := HB12.out.lt
  have lb' : B < w12.heap.size + 1 := by omega
  obtain ⟨uu0, uu1, uu2, uu3, ug0, ug1, ug2, ug3⟩ := HB12.out.h
  have lc := HC12.out.lt
  have lc' : C < w12.heap.size + 1 := by omega
  obtain ⟨ss0, ss1, ss2, ss3, sg0, sg1, sg2, sg3⟩ := HC12.out.h
  have ld := HD12.out.lt
  have ld' : D < w12.heap.size + 1 := by omega
  obtain ⟨tt0, tt1, tt2, tt3, tg0, tg1, tg2, tg3⟩ := HD12.out.h
  have le := HE12.out.lt
  have le' : E < w12.heap.size + 1 := by omega
  obtain ⟨yy0, yy1, yy2, yy3, yg0, yg1, yg2, yg3⟩ := HE12.out.h
  have lf := HF12.out.lt
  have lf' : F < w12.heap.size + 1 := by omega
  obtain ⟨zz0, zz1, zz2, zz3, zg0, zg1, zg2, zg3⟩ := HF12.out.h
  have lg := HG12.out.lt
  have lg' : G < w12.heap.size + 1 := by omega
  obtain ⟨ii0, ii1, ii2, ii3, ig0, ig1, ig2, ig3⟩ := HG12.out.h
  have lh := HH12.out.lt
  have lh' : H < w12.heap.size + 1 := by omega
  obtain ⟨jj0, jj1, jj2, jj3, jg0, jg1, jg2, jg3⟩ := HH12.out.h
  go_wp2_with fail
  clear la la' vv0 vv1 vv2 vv3 vg0 vg1 vg2 vg3 lb lb' uu0 uu1 uu2 uu3 ug0 ug1 ug2 ug3 lc lc' ss0 ss1 ss2 ss3 sg0 sg1 sg2 sg3 ld ld' tt0 tt1 tt2 tt3 tg0 tg1 tg2 tg3 le le' yy0 yy1 yy2 yy3 yg0 yg1 yg2 yg3 lf lf' zz0 zz1 zz2 zz3 zg0 zg1 zg2 zg3 lg lg' ii0 ii1 ii2 ii3 ig0 ig1 ig2 ig3 lh lh' jj0 jj1 jj2 jj3 jg0 jg1 jg2 jg3 
  refine (R9.out _ _ (pair_new w12 ax ay c1 c2 pch pms bx by_ d1 d2 qch qms)).mono ?_; rintro e w13 ⟨rfl, hb13⟩
  have hx13 := (below_alloc w12 _).trans (hb13.mono (by simp))
  have HA13 := Lib.hid (HA12.out.below hx13)
  have HB13 := Lib.hid (HB12.out.below hx13)
  have HC13 := Lib.hid (HC12.out.below hx13)
  have HD13 := Lib.hid (HD12.out.below hx13)
  have HE13 := Lib.hid (HE12.out.below hx13)
  have HF13 := Lib.hid (HF12.out.below hx13)
  have HG13 := Lib.hid (HG12.out.below hx13)
  have HH13 := Lib.hid (HH12.out.below hx13)
  have HW13 := Lib.hid (HW12.out.trans (hx13.mono HW12.out.size))
  clear R9 HA12 HB12 HC12 HD12 HE12 HF12 HG12 HH12 HW12 hb13 hx13
  have la := HA13.out.lt
  have la' : A < w13.heap.size + 1 := by omega
  obtain ⟨vv0, vv1, vv2, vv3, vg0, vg1, vg2, vg3⟩ := HA13.out.h
  have lb := HB13.out.lt
  have lb' : B < w13.heap.size + 1 := by omega
  obtain ⟨uu0, uu1, uu2, uu3, ug0, ug1, ug2, ug3⟩ := HB13.out.h
  have lc := HC13.out.lt
  have lc' : C < w13.heap.size + 1 := by omega
  obtain ⟨ss0, ss1, ss2, ss3, sg0, sg1, sg2, sg3⟩ := HC13.out.h
  have ld := HD13.out.lt
  have ld' : D < w13.heap.size + 1 := by omega
  obtain ⟨tt0, tt1, tt2, tt3, tg0, tg1, tg2, tg3⟩ := HD13.out.h
  have le := HE13.out.lt
  have le' : E < w13.heap.size + 1 := by omega
  obtain ⟨yy0, yy1, yy2, yy3, yg0, yg1, yg2, yg3⟩ := HE13.out.h
  have lf := HF13.out.lt
  have lf' : F < w13.heap.size + 1 := by omega
  obtain ⟨zz0, zz1, zz2, zz3, zg0, zg1, zg2, zg3⟩ := HF13.out.h
  have lg := HG13.out.lt
  have lg' : G < w13.heap.size + 1 := by omega
  obtain ⟨ii0, ii1, ii2, ii3, ig0, ig1, ig2, ig3⟩ := HG13.out.h
  have lh := HH13.out.lt
  have lh' : H < w13.heap.size + 1 := by omega
  obtain ⟨jj0, jj1, jj2, jj3, jg0, jg1, jg2, jg3⟩ := HH13.out.h
  go_wp2_with fail
  clear la la' vv0 vv1 vv2 vv3 vg0 vg1 vg2 vg3 lb lb' uu0 uu1 uu2 uu3 ug0 ug1 ug2 ug3 lc lc' ss0 ss1 ss2 ss3 sg0 sg1 sg2 sg3 ld ld' tt0 tt1 tt2 tt3 tg0 tg1 tg2 tg3 le le' yy0 yy1 yy2 yy3 yg0 yg1 yg2 yg3 lf lf' zz0 zz1 zz2 zz3 zg0 zg1 zg2 zg3 lg lg' ii0 ii1 ii2 ii3 ig0 ig1 ig2 ig3 lh lh' jj0 jj1 jj2 jj3 jg0 jg1 jg2 jg3 
  refine (R4.out _).mono ?_; rintro e w14 ⟨rfl, hb14⟩
  have HA14 := Lib.hid (HA13.out.below hb14)
  have HB14 := Lib.hid (HB13.out.below hb14)
  have HC14 := Lib.hid (HC13.out.below hb14)
  have HD14 := Lib.hid (HD13.out.below hb14)
  have HE14 := Lib.hid (HE13.out.below hb14)
  have HF14 := Lib.hid (HF13.out.below hb14)
  have HG14 := Lib.hid (HG13.out.below hb14)
  have HH14 := Lib.hid (HH13.out.below hb14)
  have HW14 := Lib.hid (HW13.out.trans (hb14.mono HW13.out.size))
  clear R4 HA13 HB13 HC13 HD13 HE13 HF13 HG13 HH13 HW13 hb14
  have la := HA14.out.lt
  have la' : A < w14.heap.size + 1 := by omega
  obtain ⟨vv0, vv1, vv2, vv3, vg0, vg1, vg2, vg3⟩ := HA14.out.h
  have lb := HB14.out.lt
  have lb' : B < w14.heap.size + 1 := by omega
  obtain ⟨uu0, uu1, uu2, uu3, ug0, ug1, ug2, ug3⟩ := HB14.out.h
  have lc := HC14.out.lt
  have lc' : C < w14.heap.size + 1 := by omega
  obtain ⟨ss0, ss1, ss2, ss3, sg0, sg1, sg2, sg3⟩ := HC14.out.h
  have ld := HD14.out.lt
  have ld' : D < w14.heap.size + 1 := by omega
  obtain ⟨tt0, tt1, tt2, tt3, tg0, tg1, tg2, tg3⟩ := HD14.out.h
  have le := HE14.out.lt
  have le' : E < w14.heap.size + 1 := by omega
  obtain ⟨yy0, yy1, yy2, yy3, yg0, yg1, yg2, yg3⟩ := HE14.out.h
  have lf := HF14.out.lt
  have lf' : F < w14.heap.size + 1 := by omega
  obtain ⟨zz0, zz1, zz2, zz3, zg0, zg1, zg2, zg3⟩ := HF14.out.h
  have lg := HG14.out.lt
  have lg' : G < w14.heap.size + 1 := by omega
  obtain ⟨ii0, ii1, ii2, ii3, ig0, ig1, ig2, ig3⟩ := HG14.out.h
  have lh := HH14.out.lt
  have lh' : H < w14.heap.size + 1 := by omega
  obtain ⟨jj0, jj1, jj2, jj3, jg0, jg1, jg2, jg3⟩ := HH14.out.h
  go_wp2_with fail
  clear la la' vv0 vv1 vv2 vv3 vg0 vg1 vg2 vg3 lb lb' uu0 uu1 uu2 uu3 ug0 ug1 ug2 ug3 lc lc' ss0 ss1 ss2 ss3 sg0 sg1 sg2 sg3 ld ld' tt0 tt1 tt2 tt3 tg0 tg1 tg2 tg3 le le' yy0 yy1 yy2 yy3 yg0 yg1 yg2 yg3 lf lf' zz0 zz1 zz2 zz3 zg0 zg1 zg2 zg3 lg lg' ii0 ii1 ii2 ii3 ig0 ig1 ig2 ig3 lh lh' jj0 jj1 jj2 jj3 jg0 jg1 jg2 jg3 
  refine (R5.out _).mono ?_; rintro e w15 ⟨rfl, hb15⟩
  have HA15 := Lib.hid (HA14.out.below hb15)
  have HB15 := Lib.hid (HB14.out.below hb15)
  have HC15 := Lib.hid (HC14.out.below hb15)
  have HD15 := Lib.hid (HD14.out.below hb15)
  have HE15 := Lib.hid (HE14.out.below hb15)
  have HF15 := Lib.hid (HF14.out.below hb15)
  have HG15 := Lib.hid (HG14.out.below hb15)
  have HH15 := Lib.hid (HH14.out.below hb15)
  have HW15 := Lib.hid (HW14.out.trans (hb15.mono HW14.out.size))
  clear R5 HA14 HB14 HC14 HD14 HE14 HF14 HG14 HH14 HW14 hb15
  have la := HA15.out.lt
  have la' : A < w15.heap.size + 1 := by omega
  obtain ⟨vv0, vv1, vv2, vv3, vg0, vg1, vg2, vg3⟩ := HA15.out.h
  have lb := HB15.out.lt
  have lb' : B < w15.heap.size + 1 := by omega
  obtain ⟨uu0, uu1, uu2, uu3, ug0, ug1, ug2, ug3⟩ := HB15.out.h
  have lc := HC15.out.lt
  have lc' : C < w15.heap.size + 1 := by omega
  obtain ⟨ss0, ss1, ss2, ss3, sg0, sg1, sg2, sg3⟩ := HC15.out.h
  have ld := HD15.out.lt
  have ld' : D < w15.heap.size + 1 := by omega
  obtain ⟨tt0, tt1, tt2, tt3, tg0, tg1, tg2, tg3⟩ := HD15.out.h
  have le := HE15.out.lt
  have le' : E < w15.heap.size + 1 := by omega
  obtain ⟨yy0, yy1, yy2, yy3, yg0, yg1, yg2, yg3⟩ := HE15.out.h
  have lf := HF15.out.lt
  have lf' : F < w15.heap.size + 1 := by omega
  obtain ⟨zz0, zz1, zz2, zz3, zg0, zg1, zg2, zg3⟩ := HF15.out.h
  have lg := HG15.out.lt
  have lg' : G < w15.heap.size + 1 := by omega
  obtain ⟨ii0, ii1, ii2, ii3, ig0, ig1, ig2, ig3⟩ := HG15.out.h
  have lh := HH15.out.lt
  have lh' : H < w15.heap.size + 1 := by omega
  obtain ⟨jj0, jj1, jj2, jj3, jg0, jg1, jg2, jg3⟩ := HH15.out.h
  go_wp2_with fail
  have z1 := fun w => apart_walk K1.out w
  have z2 := w64 K3.out
  have z3 := w64 K4.out
  have z4 := fun w => gap_walk K5.out w
  have z5 := fun w => apart_walk K7.out w
  have z6 := fun w => apart_walk K8.out w
  have z7 := fun w => gap_walk K9.out w
  have z8 := fun w => apart_walk K11.out w
  have z9 := fun w => apart_walk K13.out w
  have z10 := fun w => apart_walk K15.out w
  have o1 : (FloatKind.f64.format.order r1 4562254508917369340 == some .lt) = true := K2.out
  have o2 : (FloatKind.f64.format.order r2 4562254508917369340 == some .lt) = true := K6.out
  have o3 : (FloatKind.f64.format.order r5 4562254508917369340 == some .lt) = true := K10.out
  have o4 : (FloatKind.f64.format.order r6 4562254508917369340 == some .lt) = true := K12.out
  have o5 : (FloatKind.f64.format.order r7 4562254508917369340 == some .lt) = true := K14.out
  have o6 : (FloatKind.f64.format.order r8 4562254508917369340 == some .lt) = true := K16.out
  have z11 : Hid (∀ w, Calls Try.prog 30 _ w _) := fun w => SameComplex_walk HPW.out.ax.choose_spec HPW.out.ay.choose_spec w
  have self : ∀ {x : Nat}, (∃ v, V32 x v) → FloatKind.f32.format.order x x = some .eq := by
    intro x hx
    obtain ⟨v, hv⟩ := hx
    have h : FloatKind.f32.format.order x x = _ := order_eq hv hv
    rw [h, if_neg Rat.lt_irrefl, if_pos rfl]
  have o7 : FloatKind.f32.format.order pms pms = some .eq := self ⟨_, HPW.out.ms.choose_spec.1⟩
  have o8 : FloatKind.f32.format.order qch qch = some .eq := self HPW'.out.ch
  clear K1 K2 K3 K4 K5 K6 K7 K8 K9 K10 K11 K12 K13 K14 K15 K16 self HFF HPC HPD
  have gcA0 := fun p : GB w15.heap.size w15 => GB.cell (o := 0) la vv0 p
  have gcA1 := fun p : GB w15.heap.size w15 => GB.cell (o := 1) la vv1 p
  have gcA3 := fun p : GB w15.heap.size w15 => GB.cell (o := 3) la vv3 p
  have gcB1 := fun p : GB w15.heap.size w15 => GB.cell (o := 1) lb uu1 p
  have gcB2 := fun p : GB w15.heap.size w15 => GB.cell (o := 2) lb uu2 p
  have gcC0 := fun p : GB w15.heap.size w15 => GB.cell (o := 0) lc ss0 p
  have gcC1 := fun p : GB w15.heap.size w15 => GB.cell (o := 1) lc ss1 p
  have gcC3 := fun p : GB w15.heap.size w15 => GB.cell (o := 3) lc ss3 p
  have gcD1 := fun p : GB w15.heap.size w15 => GB.cell (o := 1) ld tt1 p
  have gcD2 := fun p : GB w15.heap.size w15 => GB.cell (o := 2) ld tt2 p
  have gcG1 := fun p : GB w15.heap.size w15 => GB.cell (o := 1) lg ii1 p
  have gcH1 := fun p : GB w15.heap.size w15 => GB.cell (o := 1) lh jj1 p
  clear la la' vv0 vv1 vv2 vv3 vg0 vg1 vg2 vg3 lb lb' uu0 uu1 uu2 uu3 ug0 ug1 ug2 ug3 lc lc' ss0 ss1 ss2 ss3 sg0 sg1 sg2 sg3 ld ld' tt0 tt1 tt2 tt3 tg0 tg1 tg2 tg3 le le' yy0 yy1 yy2 yy3 yg0 yg1 yg2 yg3 lf lf' zz0 zz1 zz2 zz3 zg0 zg1 zg2 zg3 lg lg' ii0 ii1 ii2 ii3 ig0 ig1 ig2 ig3 lh lh' jj0 jj1 jj2 jj3 jg0 jg1 jg2 jg3 
  refine wp_region_gb (B := w15.heap.size) (by kernel_rfl) (by kernel_rfl) ?_
  simp only [List.append_eq, List.cons_append, List.nil_append]
  repeat (go_big_quiet_step (fail))
  go_big_quiet_step ((exact gb_same (z1 _)))
  repeat (go_big_quiet_step (fail))
  go_big_quiet_step ((exact gb_same (z4 _)))
  repeat (go_big_quiet_step (fail))
  go_big_quiet_step ((exact gb_same (z5 _)))
  repeat (go_big_quiet_step (fail))
  go_big_quiet_step ((exact gb_same (z6 _)))
  repeat (go_big_quiet_step (fail))
  go_big_quiet_step ((exact gb_same (z7 _)))
  repeat (go_big_quiet_step (fail))
  go_big_quiet_step ((exact gb_same (z8 _)))
  repeat (go_big_quiet_step (fail))
  go_big_quiet_step ((exact gb_same (z9 _)))
  repeat (go_big_quiet_step (fail))
  go_big_quiet_step ((exact gb_same (z10 _)))
  repeat (go_big_quiet_step (fail))
  go_big_quiet_step ((exact gb_same (z11.out _)))
  repeat (go_big_quiet_step (fail))
  refine wpQuiet_nil ?_
  intro _ hw'
  obtain ⟨q, rfl⟩ := hw'
  go_wp2
  go_ret
  exact ⟨rfl, HW15.out.trans (q.h.mono HW15.out.size)⟩

set_option maxRecDepth 100000 in
theorem meetings_long {a b : Option Addr} {n m c d : Nat} {w : World} (h : 48 < n ∨ 48 < m) :
    Calls Try.prog 5 #[.slice a n c, .slice b m d] w fun e w' => e = .returned (.bool true) ∧ Below w.heap.size w w' := by
  have P0 := Lib.hid (fun w => Long_yes (a := a) (b := b) (c := c) (d := d) h w)
  clear h
  go_enter Try.func5, Try.ntmps5
  go_wp2_with fail
  refine (P0.out _).mono ?_; rintro e w' ⟨rfl, rfl⟩
  go_wp2
  go_ret
  exact ⟨rfl, Below.refl _ _⟩

end Go.Proofs.Ytgblehdamgliaaa
