/-
  The walk of the law FnPushes: out of the facts on the words that its calls come to, it returns true.
-/
import Derived.Test.YtgblehdamgliaaaN1
namespace Go.Proofs.Ytgblehdamgliaaa
open Go.RowKit FT

set_option linter.unusedVariables false
set_option linter.unusedSimpArgs false

/-- What the words of one input come to. -/
structure PushFacts (sx sy ch ms mg tk fr fi : Nat) : Prop where
  vmg : ∃ v, V32 mg v
  vtk : ∃ v, V32 tk v
  vfr : ∃ v, V32 fr v
  vfi : ∃ v, V32 fi v
  turn : ∃ tr ti u v, turnB ch ms mg tk = some (tr, ti) ∧ V32 tr u ∧ V32 ti v ∧ (∃ g, longGap1 tr ti = some g ∧ NotGt g milli) ∧
    ∃ br bi u' v', turnB ch ms (neg32 mg) tk = some (br, bi) ∧ V32 br u' ∧ V32 bi v' ∧
    ∃ pr pi a, mulC tr ti br bi = some (pr, pi) ∧ apartB pr pi 1065353216 0 = some a ∧ NotGt a milli
  push : ∃ vr vi u v g, pushB sx sy ch ms 0 0 mg tk = some (vr, vi) ∧ V32 vr u ∧ V32 vi v ∧ longGap vr vi sx sy = some g ∧ NotGt g milli
  cross : (∃ cr ci u v wr wi u' v' a b, ((FloatKind.f32.format.order mg 0 != some .eq) = true) ∧ quoC fr fi 0 mg = some (cr, ci) ∧ V32 cr u ∧ V32 ci v ∧
      pushB cr ci ch ms fr fi mg tk = some (wr, wi) ∧ V32 wr u' ∧ V32 wi v' ∧ apartB wr wi cr ci = some a ∧ boundB cr ci = some b ∧ NotGt a b) ∨
    (∃ x y p, ((FloatKind.f32.format.order mg 0 != some .eq) = false) ∧ prod fr fi 0 (neg32 mg) = some (x, y) ∧ powB 0 mg = some p ∧ fb .quo .f64 x p = none ∧ fb .quo .f64 y p = none)
  last : ∃ kr ki u v qr qi u' v' pl z e1 e2 e3 e4 a b, kickB ch ms fr fi tk = some (kr, ki) ∧ V32 kr u ∧ V32 ki v ∧
    pushB sx sy ch ms fr fi 0 tk = some (qr, qi) ∧ V32 qr u' ∧ V32 qi v' ∧ pullB ch ms = some pl ∧ V32 pl z ∧
    plusC sx sy kr ki = some (e1, e2) ∧ plusC e1 e2 kr ki = some (e3, e4) ∧ apartB qr qi e3 e4 = some a ∧ boundB kr ki = some b ∧ IsLt a b ∧ (FloatKind.f32.format.order pl pl == some .eq) = true

theorem neg32_some {x : Nat} (h : ∃ v, V32 x v) : ∃ v, V32 (neg32 x) v := by
  obtain ⟨v, h⟩ := h
  exact ⟨_, neg32_val h⟩

set_option maxRecDepth 100000 in
set_option maxHeartbeats 4000000 in
theorem pushes_go {a b : Option Addr} {n m c d : Nat} {w : World} (hn : n ≤ 48) (hm : m ≤ 48) (ha : Bytes w a n) (ha' : ∀ x off i, a = some ⟨x, off, i⟩ → 0 < n → i = none ∧ x < w.heap.size) (hs : n = 0 ∨ a.isSome = true)
    (hb : Bytes w b m) (hb' : ∀ x off i, b = some ⟨x, off, i⟩ → 0 < m → i = none ∧ x < w.heap.size) (hs' : m = 0 ∨ b.isSome = true)
    (hp : ∀ x y s t c m, PD x y s t c m → PW (d8 x) (d8 y) (d8 s) (d8 t) (d2 c) (d4 m))
    (hF : ∀ x y s t c m, PD x y s t c m → ∀ n1 n2 f1 f2 : Int, -8 ≤ n1 → n1 ≤ 8 → -8 ≤ n2 → n2 ≤ 8 → -64 ≤ f1 → f1 < 256 → -64 ≤ f2 → f2 < 256 → PushFacts (d8 s) (d8 t) (d2 c) (d4 m) (d8 n1) (d8 n2) (d8 f1) (d8 f2)) :
    Calls Try.prog 3 #[.slice a n c, .slice b m d] w fun e w' => e = .returned (.bool true) ∧ Below w.heap.size w w' := by
  have HP := Lib.hid hp
  have HF := Lib.hid hF
  have P0 := Lib.hid (fun w => Long_no (a := a) (b := b) (c := c) (d := d) hn hm w)
  have P1 := Lib.hid (Particle_walk (cap := c) ha ha' hs (by omega))
  have HB := Lib.hid hb
  have HB' := Lib.hid hb'
  have HS' := Lib.hid hs'
  clear hp hF ha ha' hs hb hb' hs'
  go_enter Try.func3, Try.ntmps3
  go_wp2_with fail
  refine (P0.out _).mono ?_; rintro e w' ⟨rfl, rfl⟩
  go_wp2_with fail
  refine P1.out.mono ?_; rintro e w1 ⟨x, y, s, t, ch, ms, hd, rfl, hb1⟩
  clear P0 P1
  -- the bytes of 'more', in a later world
  have hB1 : Hid (∀ w2, Below w.heap.size w w2 → Bytes w2 b m) := by
    intro w2 h2 x off i hab j hj
    obtain ⟨y, y0, y1, y2⟩ := HB.out x off i hab j hj
    exact ⟨y, y0, y1, by rw [h2.cell (by exact (HB'.out x off i hab (by omega)).2)]; exact y2⟩
  have HB1 := Lib.hid hb1
  clear hb1
  have P2 : Hid (∀ w2, Below w.heap.size w w2 → Calls Try.prog 8 #[.slice b m d, .int .i64 0] w2 (DrawnN w2)) := fun w2 h2 => Number_walk (hB1.out w2 h2) (fun x off i h h0 => (HB'.out x off i h h0).1) HS'.out (by omega) 0 (by omega)
  have P3 : Hid (∀ w2, Below w.heap.size w w2 → Calls Try.prog 8 #[.slice b m d, .int .i64 1] w2 (DrawnN w2)) := fun w2 h2 => Number_walk (hB1.out w2 h2) (fun x off i h h0 => (HB'.out x off i h h0).1) HS'.out (by omega) 1 (by omega)
  have P4 : Hid (∀ w2, Below w.heap.size w w2 → Calls Try.prog 9 #[.slice b m d, .int .i64 2] w2 (DrawnZ w2)) := fun w2 h2 => Place_walk (hB1.out w2 h2) (fun x off i h h0 => ⟨(HB'.out x off i h h0).1, Nat.lt_of_lt_of_le (HB'.out x off i h h0).2 h2.size⟩) HS'.out (by omega)
  have HV := Lib.hid (Has4.new w1 (.complex .f32 (d8 x) (d8 y)) (.complex .f32 (d8 s) (d8 t)) (.float .f32 (d2 ch)) (.float .f32 (d4 ms)) 27)
  have HW : Hid (Below w.heap.size w (w1.alloc (.cells #[.complex .f32 (d8 x) (d8 y), .complex .f32 (d8 s) (d8 t), .float .f32 (d2 ch), .float .f32 (d4 ms)] 27))) := HB1.out.alloc HB1.out.size _
  clear HB HB' HS' hB1
  unfold partOf
  go_wp2_with fail
  refine (P2.out _ HW.out).mono ?_; rintro e w' ⟨n1, n10, n11, rfl, rfl⟩
  go_wp2_with fail
  refine (P3.out _ HW.out).mono ?_; rintro e w' ⟨n2, n20, n21, rfl, rfl⟩
  go_wp2_with fail
  refine (P4.out _ HW.out).mono ?_; rintro e w2 ⟨f1, f2, f10, f11, f20, f21, rfl, hb2⟩
  have HPW := Lib.hid (HP.out x y s t ch ms hd)
  have HFF := Lib.hid (HF.out x y s t ch ms hd n1 n2 f1 f2 n10 n11 n20 n21 f10 f11 f20 f21)
  clear P2 P3 P4 HP HF hd n10 n11 n20 n21 f10 f11 f20 f21
  have HV2 := Lib.hid (HV.out.below hb2 (by simp))
  have HW2 := Lib.hid (HW.out.trans (hb2.mono HW.out.size))
  have HVs : Hid (w.heap.size ≤ w1.heap.size ∧ w1.heap.size < w2.heap.size) := ⟨HB1.out.size, by have := hb2.size; simp at this; omega⟩
  clear HV HW HB1 hb2
  generalize w1.heap.size = V at *
  generalize d8 x = px at *
  generalize d8 y = py at *
  generalize d8 s = sx at *
  generalize d8 t = sy at *
  generalize d2 ch = pch at *
  generalize d4 ms = pms at *
  generalize d8 n1 = mg at *
  generalize d8 n2 = tk at *
  generalize d8 f1 = fr at *
  generalize d8 f2 = fi at *
  obtain ⟨v0, v1, v2, v3, g0, g1, g2, g3⟩ := HV2.out
  have HG := Lib.hid HFF.out.vmg
  have HT := Lib.hid HFF.out.vtk
  have HR := Lib.hid HFF.out.vfr
  have HI := Lib.hid HFF.out.vfi
  have ng := @run_neg_f32 Try.prog
  obtain ⟨tr, ti, _, _, t1, t2, t3, ⟨gg1, t4, t5⟩, br, bi, _, _, t6, t7, t8, pr, pi, aa1, t9, t10, t11⟩ := HFF.out.turn
  have P1 : Hid (∀ w, Calls Try.prog 10 _ w _) := fun w => TurnOf_walk HPW.out t1 t2 t3 HG.out.choose_spec HT.out.choose_spec w
  have P2 : Hid (∀ w, Calls Try.prog 10 _ w _) := fun w => TurnOf_walk HPW.out t6 t7 t8 (neg32_some HG.out).choose_spec HT.out.choose_spec w
  have K4 := Lib.hid t4
  have K5 := Lib.hid t5
  have K9 := Lib.hid t9
  have K10 := Lib.hid t10
  have K11 := Lib.hid t11
  clear t1 t2 t3 t4 t5 t6 t7 t8 t9 t10 t11
  obtain ⟨vr, vi, _, _, gg2, t1, t2, t3, t4, t5⟩ := HFF.out.push
  have P3 : Hid (∀ w, Calls Try.prog 11 _ w _) := fun w => PushSpeed_walk HPW.out t1 t2 t3 HG.out.choose_spec HT.out.choose_spec zero32 zero32 w
  have K12 := Lib.hid t4
  have K13 := Lib.hid t5
  clear t1 t2 t3 t4 t5
  go_wp2_with fail
  refine (P1.out _).mono ?_; rintro e w3 ⟨rfl, hb3⟩
  have HV3 := Lib.hid (HV2.out.below hb3 HVs.out.2)
  have HW3 := Lib.hid (HW2.out.trans (hb3.mono HW2.out.size))
  have HVt : Hid (w.heap.size ≤ V ∧ V < w3.heap.size) := ⟨HVs.out.1, Nat.lt_of_lt_of_le HVs.out.2 hb3.size⟩
  clear P1 HV2 HW2 HVs hb3 v0 v1 v2 v3 g0 g1 g2 g3
  obtain ⟨v0, v1, v2, v3, g0, g1, g2, g3⟩ := HV3.out
  go_wp2_with fail
  refine (P2.out _).mono ?_; rintro e w4 ⟨rfl, hb4⟩
  have HV4 := Lib.hid (HV3.out.below hb4 HVt.out.2)
  have HW4 := Lib.hid (HW3.out.trans (hb4.mono HW3.out.size))
  have HVs : Hid (w.heap.size ≤ V ∧ V < w4.heap.size) := ⟨HVt.out.1, Nat.lt_of_lt_of_le HVt.out.2 hb4.size⟩
  clear P2 HV3 HW3 HVt hb4 v0 v1 v2 v3 g0 g1 g2 g3
  obtain ⟨v0, v1, v2, v3, g0, g1, g2, g3⟩ := HV4.out
  go_wp2_with fail
  refine (P3.out _).mono ?_; rintro e w5 ⟨rfl, hb5⟩
  have HV5 := Lib.hid (HV4.out.below hb5 HVs.out.2)
  have HW5 := Lib.hid (HW4.out.trans (hb5.mono HW4.out.size))
  have HVt : Hid (w.heap.size ≤ V ∧ V < w5.heap.size) := ⟨HVs.out.1, Nat.lt_of_lt_of_le HVs.out.2 hb5.size⟩
  clear P3 HV4 HW4 HVs hb5 v0 v1 v2 v3 g0 g1 g2 g3 ng
  obtain ⟨v0, v1, v2, v3, g0, g1, g2, g3⟩ := HV5.out
  go_wp2_with fail
  have c1 := fun p : GB (V + 1) w5 => GB.cell (o := 1) (Nat.lt_succ_self _) v1 p
  have h4 := K4.out
  simp only [longGap1, Option.bind_eq_bind, Option.bind_eq_some_iff] at h4
  obtain ⟨l1, y1, L1, y2, y3⟩ := h4
  have h12 := K12.out
  simp only [longGap, Option.bind_eq_bind, Option.bind_eq_some_iff] at h12
  obtain ⟨l2, y4, L2, y5, l3, y6, L3, y7, y8⟩ := h12
  have q1 := fun w => longC_walk y1 w
  have o1 := w64 y2
  have q2 : ∀ w, Calls Try.prog 12 #[.float .f64 L1, .float .f64 4607182418800017408] w _ := fun w => gap_walk y3 w
  have k1 : (FloatKind.f64.format.order gg1 4562254508917369340 == some .gt) = false := K5.out
  have q3 := fun w => mulC_walk K9.out w
  have q4 := fun w => apart_walk K10.out w
  have k2 : (FloatKind.f64.format.order aa1 4562254508917369340 == some .gt) = false := K11.out
  have q5 := fun w => longC_walk y4 w
  have o2 := w64 y5
  have q6 := fun w => longC_walk y6 w
  have o3 := w64 y7
  have q7 := fun w => gap_walk y8 w
  have k3 : (FloatKind.f64.format.order gg2 4562254508917369340 == some .gt) = false := K13.out
  clear y1 y2 y3 y4 y5 y6 y7 y8 K4 K5 K9 K10 K11 K12 K13 v0 v1 v2 v3 g0 g1 g2 g3
  refine wp_region_gb (B := V + 1) (by kernel_rfl) (by kernel_rfl) ?_
  repeat (go_big_quiet_step (fail))
  go_big_quiet_step ((exact gb_same (q1 _)))
  repeat (go_big_quiet_step (fail))
  go_big_quiet_step ((exact gb_same (q2 _)))
  repeat (go_big_quiet_step (fail))
  go_big_quiet_step ((exact gb_same (q3 _)))
  repeat (go_big_quiet_step (fail))
  go_big_quiet_step ((exact gb_same (q4 _)))
  repeat (go_big_quiet_step (fail))
  go_big_quiet_step ((exact gb_same (q5 _)))
  repeat (go_big_quiet_step (fail))
  go_big_quiet_step ((exact gb_same (q6 _)))
  repeat (go_big_quiet_step (fail))
  go_big_quiet_step ((exact gb_same (q7 _)))
  repeat (go_big_quiet_step (fail))
  refine wpQuiet_nil ?_
  intro _ hw'
  obtain ⟨q, rfl⟩ := hw'
  obtain ⟨w6, hb6⟩ := q
  show Exit.then _ _ Exit.normal _ w6
  have HV6 := Lib.hid (HV5.out.below hb6 (Nat.lt_succ_self _))
  have HW6 := Lib.hid (HW5.out.trans (hb6.mono (by have := HVt.out.1; omega)))
  have HVs : Hid (w.heap.size ≤ V ∧ V < w6.heap.size) := ⟨HVt.out.1, Nat.lt_of_lt_of_le HVt.out.2 hb6.size⟩
  clear HV5 HW5 HVt hb6 c1 q1 q2 q3 q4 q5 q6 q7 o1 o2 o3 k1 k2 k3
  obtain ⟨v0, v1, v2, v3, g0, g1, g2, g3⟩ := HV6.out
  rcases HFF.out.cross with ⟨cr, ci, _, _, wr, wi, _, _, aa3, bb3, t1, t2, t3, t4, t5, t6, t7, t8, t9, t10⟩ | ⟨_, _, _, t1, t2, t3, t4, t5⟩
  · have P1 : Hid (∀ w, Calls Try.prog 16 _ w _) := fun w => CrossSpeed_walk t2 t3 t4 HG.out.choose_spec HR.out.choose_spec HI.out.choose_spec w
    have HPW2 : PW px py cr ci pch pms := ⟨HPW.out.ax, HPW.out.ay, ⟨_, t3⟩, ⟨_, t4⟩, HPW.out.ch, HPW.out.ms⟩
    have P2 : Hid (∀ w, Calls Try.prog 11 _ w _) := fun w => PushSpeed_walk HPW2 t5 t6 t7 HG.out.choose_spec HT.out.choose_spec HR.out.choose_spec HI.out.choose_spec w
    simp only [boundB, Option.bind_eq_bind, Option.bind_eq_some_iff] at t9
    obtain ⟨l4, y1, L4, y2, s4, y3, y4⟩ := t9
    have q1 := fun w => apart_walk t8 w
    have q2 := fun w => longC_walk y1 w
    have o1 := w64 y2
    have o2 : ∀ t w, (binOp .add t (.float .f64 4607182418800017408) (.float .f64 L4)).run Try.prog w = _ := wb y3
    have o3 : ∀ t w, (binOp .mul t (.float .f64 4562254508917369340) (.float .f64 s4)).run Try.prog w = _ := wb y4
    have k1 : (FloatKind.f64.format.order aa3 bb3 == some .gt) = false := t10
    clear t2 t3 t4 t5 t6 t7 t8 t10 y1 y2 y3 y4 HPW2
    go_wp2_with fail
    refine (P1.out _).mono ?_; rintro e w7 ⟨rfl, rfl⟩
    go_wp2_with fail
    refine (P2.out _).mono ?_; rintro e w8 ⟨rfl, hb8⟩
    have hba : Below w6.heap.size w6 w8 := ((Below.refl _ _).alloc (Nat.le_refl _) _).trans (hb8.mono (by simp))
    have HV8 := Lib.hid (HV6.out.below hba HVs.out.2)
    have HW8 := Lib.hid (HW6.out.trans (hba.mono HW6.out.size))
    have HVt : Hid (w.heap.size ≤ V ∧ V < w8.heap.size) := ⟨HVs.out.1, Nat.lt_of_lt_of_le HVs.out.2 hba.size⟩
    clear P1 P2 HV6 HW6 HVs hb8 hba v0 v1 v2 v3 g0 g1 g2 g3
    obtain ⟨v0, v1, v2, v3, g0, g1, g2, g3⟩ := HV8.out
    go_wp2_with fail
    refine (q1 _).mono ?_; rintro e w9 ⟨rfl, rfl⟩
    go_wp2_with fail
    refine (q2 _).mono ?_; rintro e w9 ⟨rfl, rfl⟩
    go_wp2_with fail
    clear q1 q2 o1 o2 o3 k1 t1
    obtain ⟨kr, ki, _, _, qr, qi, _, _, pl, _, e1, e2, e3, e4, aa4, bb4, t1, t2, t3, t4, t5, t6, t7, t8, t9, t10, t11, t12, t13, t14⟩ := HFF.out.last
    have P5 : Hid (∀ w, Calls Try.prog 17 _ w _) := fun w => KickOf_walk HPW.out t1 t2 t3 HT.out.choose_spec HR.out.choose_spec HI.out.choose_spec w
    have P6 : Hid (∀ w, Calls Try.prog 11 _ w _) := fun w => PushSpeed_walk HPW.out t4 t5 t6 zero32 HT.out.choose_spec HR.out.choose_spec HI.out.choose_spec w
    have P7 : Hid (∀ w, Calls Try.prog 18 _ w _) := fun w => PullOf_walk HPW.out t7 t8 w
    simp only [boundB, Option.bind_eq_bind, Option.bind_eq_some_iff] at t12
    obtain ⟨l5, y1, L5, y2, s5, y3, y4⟩ := t12
    have q3 := fun w => apart_walk t11 w
    have q4 := fun w => longC_walk y1 w
    have o4 := fun t w => run_add_complex (P := Try.prog) t9 t w
    have o5 := fun t w => run_add_complex (P := Try.prog) t10 t w
    have o6 := w64 y2
    have o7 : ∀ t w, (binOp .add t (.float .f64 4607182418800017408) (.float .f64 L5)).run Try.prog w = _ := wb y3
    have o8 : ∀ t w, (binOp .mul t (.float .f64 4562254508917369340) (.float .f64 s5)).run Try.prog w = _ := wb y4
    have o9 := wb (show fb .quo .f32 pch pms = some pl from t7)
    have k2 : (FloatKind.f64.format.order aa4 bb4 == some .lt) = true := t13
    have k3 := t14
    clear t1 t2 t3 t4 t5 t6 t7 t8 t9 t10 t11 t13 t14 y1 y2 y3 y4
    refine (P5.out _).mono ?_; rintro e w10 ⟨rfl, hb10⟩
    have HVa := Lib.hid (HV8.out.below hb10 HVt.out.2)
    have HWa := Lib.hid (HW8.out.trans (hb10.mono HW8.out.size))
    have HSa : Hid (w.heap.size ≤ V ∧ V < w10.heap.size) := ⟨HVt.out.1, Nat.lt_of_lt_of_le HVt.out.2 hb10.size⟩
    clear P5 HV8 HW8 HVt hb10 v0 v1 v2 v3 g0 g1 g2 g3
    obtain ⟨v0, v1, v2, v3, g0, g1, g2, g3⟩ := HVa.out
    go_wp2_with fail
    refine (P6.out _).mono ?_; rintro e w11 ⟨rfl, hb11⟩
    have HVb := Lib.hid (HVa.out.below hb11 HSa.out.2)
    have HWb := Lib.hid (HWa.out.trans (hb11.mono HWa.out.size))
    have HSb : Hid (w.heap.size ≤ V ∧ V < w11.heap.size) := ⟨HSa.out.1, Nat.lt_of_lt_of_le HSa.out.2 hb11.size⟩
    clear P6 HVa HWa HSa hb11 v0 v1 v2 v3 g0 g1 g2 g3
    obtain ⟨v0, v1, v2, v3, g0, g1, g2, g3⟩ := HVb.out
    go_wp2_with fail
    refine (P7.out _).mono ?_; rintro e w12 ⟨rfl, hb12⟩
    have HVc := Lib.hid (HVb.out.below hb12 HSb.out.2)
    have HWc := Lib.hid (HWb.out.trans (hb12.mono HWb.out.size))
    clear P7 HVb HWb HSb hb12 v0 v1 v2 v3 g0 g1 g2 g3
    obtain ⟨v0, v1, v2, v3, g0, g1, g2, g3⟩ := HVc.out
    go_wp2_with fail
    refine (q3 _).mono ?_; rintro e w13 ⟨rfl, rfl⟩
    go_wp2_with fail
    refine (q4 _).mono ?_; rintro e w13 ⟨rfl, rfl⟩
    go_wp2
    go_ret
    exact ⟨rfl, HWc.out⟩
  · have P1 : Hid (∀ w, Calls Try.prog 16 _ w _) := fun w => CrossSpeed_nan t2 t3 t4 t5 HG.out.choose_spec HR.out.choose_spec HI.out.choose_spec w
    clear t2 t3 t4 t5
    go_wp2_with fail
    refine (P1.out _).mono ?_; rintro e w8 ⟨rfl, hb8⟩
    have HV8 := Lib.hid (HV6.out.below hb8 HVs.out.2)
    have HW8 := Lib.hid (HW6.out.trans (hb8.mono HW6.out.size))
    have HVt : Hid (w.heap.size ≤ V ∧ V < w8.heap.size) := ⟨HVs.out.1, Nat.lt_of_lt_of_le HVs.out.2 hb8.size⟩
    clear P1 HV6 HW6 HVs hb8 v0 v1 v2 v3 g0 g1 g2 g3
    have t0 := t1
    clear t1
    obtain ⟨v0, v1, v2, v3, g0, g1, g2, g3⟩ := HV8.out
    go_wp2_with fail
    obtain ⟨kr, ki, _, _, qr, qi, _, _, pl, _, e1, e2, e3, e4, aa4, bb4, t1, t2, t3, t4, t5, t6, t7, t8, t9, t10, t11, t12, t13, t14⟩ := HFF.out.last
    have P5 : Hid (∀ w, Calls Try.prog 17 _ w _) := fun w => KickOf_walk HPW.out t1 t2 t3 HT.out.choose_spec HR.out.choose_spec HI.out.choose_spec w
    have P6 : Hid (∀ w, Calls Try.prog 11 _ w _) := fun w => PushSpeed_walk HPW.out t4 t5 t6 zero32 HT.out.choose_spec HR.out.choose_spec HI.out.choose_spec w
    have P7 : Hid (∀ w, Calls Try.prog 18 _ w _) := fun w => PullOf_walk HPW.out t7 t8 w
    simp only [boundB, Option.bind_eq_bind, Option.bind_eq_some_iff] at t12
    obtain ⟨l5, y1, L5, y2, s5, y3, y4⟩ := t12
    have q3 := fun w => apart_walk t11 w
    have q4 := fun w => longC_walk y1 w
    have o4 := fun t w => run_add_complex (P := Try.prog) t9 t w
    have o5 := fun t w => run_add_complex (P := Try.prog) t10 t w
    have o6 := w64 y2
    have o7 : ∀ t w, (binOp .add t (.float .f64 4607182418800017408) (.float .f64 L5)).run Try.prog w = _ := wb y3
    have o8 : ∀ t w, (binOp .mul t (.float .f64 4562254508917369340) (.float .f64 s5)).run Try.prog w = _ := wb y4
    have o9 := wb (show fb .quo .f32 pch pms = some pl from t7)
    have k2 : (FloatKind.f64.format.order aa4 bb4 == some .lt) = true := t13
    have k3 := t14
    clear t1 t2 t3 t4 t5 t6 t7 t8 t9 t10 t11 t13 t14 y1 y2 y3 y4
    refine (P5.out _).mono ?_; rintro e w10 ⟨rfl, hb10⟩
    have HVa := Lib.hid (HV8.out.below hb10 HVt.out.2)
    have HWa := Lib.hid (HW8.out.trans (hb10.mono HW8.out.size))
    have HSa : Hid (w.heap.size ≤ V ∧ V < w10.heap.size) := ⟨HVt.out.1, Nat.lt_of_lt_of_le HVt.out.2 hb10.size⟩
    clear P5 HV8 HW8 HVt hb10 v0 v1 v2 v3 g0 g1 g2 g3
    obtain ⟨v0, v1, v2, v3, g0, g1, g2, g3⟩ := HVa.out
    go_wp2_with fail
    refine (P6.out _).mono ?_; rintro e w11 ⟨rfl, hb11⟩
    have HVb := Lib.hid (HVa.out.below hb11 HSa.out.2)
    have HWb := Lib.hid (HWa.out.trans (hb11.mono HWa.out.size))
    have HSb : Hid (w.heap.size ≤ V ∧ V < w11.heap.size) := ⟨HSa.out.1, Nat.lt_of_lt_of_le HSa.out.2 hb11.size⟩
    clear P6 HVa HWa HSa hb11 v0 v1 v2 v3 g0 g1 g2 g3
    obtain ⟨v0, v1, v2, v3, g0, g1, g2, g3⟩ := HVb.out
    go_wp2_with fail
    refine (P7.out _).mono ?_; rintro e w12 ⟨rfl, hb12⟩
    have HVc := Lib.hid (HVb.out.below hb12 HSb.out.2)
    have HWc := Lib.hid (HWb.out.trans (hb12.mono HWb.out.size))
    clear P7 HVb HWb HSb hb12 v0 v1 v2 v3 g0 g1 g2 g3
    obtain ⟨v0, v1, v2, v3, g0, g1, g2, g3⟩ := HVc.out
    go_wp2_with fail
    refine (q3 _).mono ?_; rintro e w13 ⟨rfl, rfl⟩
    go_wp2_with fail
    refine (q4 _).mono ?_; rintro e w13 ⟨rfl, rfl⟩
    go_wp2
    go_ret
    exact ⟨rfl, HWc.out⟩


set_option maxRecDepth 100000 in
theorem pushes_long {a b : Option Addr} {n m c d : Nat} {w : World} (h : 48 < n ∨ 48 < m) :
    Calls Try.prog 3 #[.slice a n c, .slice b m d] w fun e w' => e = .returned (.bool true) ∧ Below w.heap.size w w' := by
  have P0 := Lib.hid (fun w => Long_yes (a := a) (b := b) (c := c) (d := d) h w)
  clear h
  go_enter Try.func3, Try.ntmps3
  go_wp2_with fail
  refine (P0.out _).mono ?_; rintro e w' ⟨rfl, rfl⟩
  go_wp2
  go_ret
  exact ⟨rfl, Below.refl _ _⟩

end Go.Proofs.Ytgblehdamgliaaa
