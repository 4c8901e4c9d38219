/-
  The walk of the law FnOrbits: out of the facts on the words that its calls come to, it returns true.
-/
import Derived.Test.YtgblehdamgliaaaW12
import Derived.Test.YtgblehdamgliaaaW9
namespace Go.Proofs.Ytgblehdamgliaaa
open Go.RowKit FT

set_option linter.unusedVariables false
set_option linter.unusedSimpArgs false

/-- The length of a step: of a speed, times the size of a tick. -/
def wayB (sx sy tk : Nat) : Option Nat := do
  let l ← longC sx sy
  let l ← cv64 l
  let t ← cv64 tk
  let m ← maxB t (neg64 t)
  fb .mul .f64 l m

/-- milli * (1 + r). -/
def radB (r : Nat) : Option Nat := do
  let s ← fb .add .f64 one64 r
  fb .mul .f64 milli s

/-- What the words of one input come to. -/
structure OrbFacts (ax ay sx sy ch ms mg tk : Nat) : Prop where
  vmg : ∃ v, V32 mg v
  vtk : ∃ v, V32 tk v
  orb : ∃ X Y U V long, Orb ax ay sx sy ch ms mg tk X Y U V ∧ wayB sx sy tk = some long ∧
    ∀ k, k < 6 → ∃ a g, apartB (X (k + 1)) (Y (k + 1)) (X k) (Y k) = some a ∧ gapB a long = some g ∧ NotGt g milli
  pull : ∃ pl z, pullB ch ms = some pl ∧ V32 pl z
  round : (∃ pl wh l r z sp wc r1 i1 r2 i2 r3 i3 z1 z2 a r' g b, pullB ch ms = some pl ∧ whirlB ch ms mg = some wh ∧ longC sx sy = some l ∧ fb .quo .f32 l wh = some r ∧ V32 r z ∧
      fb .mul .f32 mg ch = some sp ∧ (FloatKind.f32.format.order sp 0 = some .lt ∨ FloatKind.f32.format.order sp 0 = some .gt) ∧
      fb .mul .f32 pl mg = some wc ∧ mulC 0 1065353216 sx sy = some (r1, i1) ∧ quoC r1 i1 wc 0 = some (r2, i2) ∧ lessC ax ay r2 i2 = some (r3, i3) ∧ V32 r3 z1 ∧ V32 i3 z2 ∧
      apartB ax ay r3 i3 = some a ∧ cv64 r = some r' ∧ gapB a r' = some g ∧ radB r' = some b ∧ NotGt g b) ∨
    (∃ pl wh l sp wc r1 i1 u v p, pullB ch ms = some pl ∧ whirlB ch ms mg = some wh ∧ longC sx sy = some l ∧ (fb .quo .f32 l wh = none ∨ ∃ r, fb .quo .f32 l wh = some r ∧ NoFin r) ∧
      fb .mul .f32 mg ch = some sp ∧ FloatKind.f32.format.order sp 0 = some .eq ∧
      fb .mul .f32 pl mg = some wc ∧ mulC 0 1065353216 sx sy = some (r1, i1) ∧ prod r1 i1 wc (neg32 0) = some (u, v) ∧ powB wc 0 = some p ∧ fb .quo .f64 u p = none ∧ fb .quo .f64 v p = none)
  turn : ∃ re im u v r z, turnB ch ms mg tk = some (re, im) ∧ V32 re u ∧ V32 im v ∧ ¬ (v = 0 ∧ u = 0) ∧ angleB im re = some r ∧ V32 r z

set_option maxRecDepth 100000 in
set_option maxHeartbeats 4000000 in
theorem orbits_go {a b : Option Addr} {n m c d : Nat} {w : World} (hn : n ≤ 48) (hm : m ≤ 48) (ha : Bytes w a n) (ha' : ∀ x off i, a = some ⟨x, off, i⟩ → 0 < n → i = none ∧ x < w.heap.size) (hs : n = 0 ∨ a.isSome = true)
    (hb : Bytes w b m) (hb' : ∀ x off i, b = some ⟨x, off, i⟩ → 0 < m → i = none ∧ x < w.heap.size) (hs' : m = 0 ∨ b.isSome = true)
    (hp : ∀ x y s t c m, PD x y s t c m → PW (d8 x) (d8 y) (d8 s) (d8 t) (d2 c) (d4 m))
    (hF : ∀ x y s t c m, PD x y s t c m → ∀ n1 n2 : Int, -8 ≤ n1 → n1 ≤ 8 → -8 ≤ n2 → n2 ≤ 8 → OrbFacts (d8 x) (d8 y) (d8 s) (d8 t) (d2 c) (d4 m) (d8 n1) (d8 n2)) :
    Calls Try.prog 4 #[.slice a n c, .slice b m d] w fun e w' => e = .returned (.bool true) ∧ Below w.heap.size w w' := by
  have HP := Lib.hid hp
  have HF := Lib.hid hF
  have P0 := Lib.hid (fun w => Long_no (a := a) (b := b) (c := c) (d := d) hn hm w)
  have P1 := Lib.hid (Particle_walk (cap := c) ha ha' hs (by omega))
  have HB := Lib.hid hb
  have HB' := Lib.hid hb'
  have HS' := Lib.hid hs'
  clear hp hF ha ha' hs hb hb' hs'
  go_enter Try.func4, Try.ntmps4
  go_wp2_with fail
  refine (P0.out _).mono ?_; rintro e w' ⟨rfl, rfl⟩
  go_wp2_with fail
  refine P1.out.mono ?_; rintro e w1 ⟨x, y, s, t, ch, ms, hd, rfl, hb1⟩
  clear P0 P1
  have hB1 : Hid (∀ w2, Below w.heap.size w w2 → Bytes w2 b m) := by
    intro w2 h2 x off i hab j hj
    obtain ⟨y, y0, y1, y2⟩ := HB.out x off i hab j hj
    exact ⟨y, y0, y1, by rw [h2.cell (by exact (HB'.out x off i hab (by omega)).2)]; exact y2⟩
  have HB1 := Lib.hid hb1
  clear hb1
  have P2 : Hid (∀ w2, Below w.heap.size w w2 → Calls Try.prog 8 #[.slice b m d, .int .i64 0] w2 (DrawnN w2)) := fun w2 h2 => Number_walk (hB1.out w2 h2) (fun x off i h h0 => (HB'.out x off i h h0).1) HS'.out (by omega) 0 (by omega)
  have P3 : Hid (∀ w2, Below w.heap.size w w2 → Calls Try.prog 8 #[.slice b m d, .int .i64 1] w2 (DrawnN w2)) := fun w2 h2 => Number_walk (hB1.out w2 h2) (fun x off i h h0 => (HB'.out x off i h h0).1) HS'.out (by omega) 1 (by omega)
  have HV := Lib.hid (Has4.new w1 (.complex .f32 (d8 x) (d8 y)) (.complex .f32 (d8 s) (d8 t)) (.float .f32 (d2 ch)) (.float .f32 (d4 ms)) 27)
  have HW : Hid (Below w.heap.size w (w1.alloc (.cells #[.complex .f32 (d8 x) (d8 y), .complex .f32 (d8 s) (d8 t), .float .f32 (d2 ch), .float .f32 (d4 ms)] 27))) := HB1.out.alloc HB1.out.size _
  clear HB HB' HS' hB1
  unfold partOf
  go_wp2_with fail
  refine (P2.out _ HW.out).mono ?_; rintro e w' ⟨n1, n10, n11, rfl, rfl⟩
  go_wp2_with fail
  refine (P3.out _ HW.out).mono ?_; rintro e w' ⟨n2, n20, n21, rfl, rfl⟩
  have HPW := Lib.hid (HP.out x y s t ch ms hd)
  have HFF := Lib.hid (HF.out x y s t ch ms hd n1 n2 n10 n11 n20 n21)
  clear P2 P3 HP HF hd n10 n11 n20 n21
  have HVs : Hid (w.heap.size ≤ w1.heap.size ∧ w1.heap.size < (w1.alloc (.cells #[.complex .f32 (d8 x) (d8 y), .complex .f32 (d8 s) (d8 t), .float .f32 (d2 ch), .float .f32 (d4 ms)] 27)).heap.size) := ⟨HB1.out.size, by simp⟩
  clear HB1
  generalize w1.alloc (.cells #[.complex .f32 (d8 x) (d8 y), .complex .f32 (d8 s) (d8 t), .float .f32 (d2 ch), .float .f32 (d4 ms)] 27) = w2 at *
  generalize w1.heap.size = V at *
  generalize d8 x = px at *
  generalize d8 y = py at *
  generalize d8 s = sx at *
  generalize d8 t = sy at *
  generalize d2 ch = pch at *
  generalize d4 ms = pms at *
  generalize d8 n1 = mg at *
  generalize d8 n2 = tk at *
  obtain ⟨v0, v1, v2, v3, g0, g1, g2, g3⟩ := HV.out
  have HG := Lib.hid HFF.out.vmg
  have HT := Lib.hid HFF.out.vtk
  obtain ⟨X, Y, U, W, long, horb, hway, hgaps⟩ := HFF.out.orb
  have HO := Lib.hid horb
  have HGS := Lib.hid hgaps
  have HWY := Lib.hid hway
  have P4 : Hid (∀ w, Calls Try.prog 19 _ w _) := fun w => Orbit_walk HPW.out HO.out HG.out.choose_spec HT.out.choose_spec w
  clear horb hgaps hway
  go_wp2_with fail
  refine (P4.out _).mono ?_; rintro e w3 ⟨B, cap, rfl, hb3, hB1, hB2, hcl⟩
  have HV3 := Lib.hid (HV.out.below hb3 HVs.out.2)
  have HW3 := Lib.hid (HW.out.trans (hb3.mono HW.out.size))
  have HVt : Hid (w.heap.size ≤ V ∧ V < B ∧ B < w3.heap.size) := ⟨HVs.out.1, Nat.lt_of_lt_of_le HVs.out.2 hB1, hB2⟩
  have HC3 : Hid (∀ i, i < 6 → w3.cell? ⟨B, i, none⟩ = some (.complex .f32 (X (i + 1)) (Y (i + 1)))) := Lib.hid hcl
  clear P4 HV HW HVs hb3 hB1 hB2 hcl v0 v1 v2 v3 g0 g1 g2 g3
  obtain ⟨v0, v1, v2, v3, g0, g1, g2, g3⟩ := HV3.out
  have hw := HWY.out
  simp only [wayB, Option.bind_eq_bind, Option.bind_eq_some_iff] at hw
  obtain ⟨l, y1, l', y2, t, y3, mx, y4, y5⟩ := hw
  have q1 := fun w => longC_walk y1 w
  have o1 := w64 y2
  have o2 := w64 y3
  have o3 := fun ts t w => run_maxB (P := Try.prog) y4 ts t w
  have o4 := wq64 y5
  have ng := run_neg_f64
  clear y1 y2 y3 y4 y5
  go_wp2_with fail
  refine (q1 _).mono ?_; rintro e w4 ⟨rfl, rfl⟩
  go_wp2_with fail
  clear q1 o1 o2 o3 o4 ng
  go_loop [11, 12] (fun v i => ∃ k : Nat, k ≤ 6 ∧ i = .int .i64 k ∧ v = .complex .f32 (X k) (Y k)) (fun _ i => 6 - (intOf i).toNat)
  case atStart => exact ⟨0, by omega, rfl, by rw [HO.out.x0, HO.out.y0]⟩
  case round =>
    obtain ⟨k, hk, rfl, rfl⟩ := hrel
    rcases Nat.lt_or_ge k 6 with hlt | hge
    · have i1 : (k : Int) < 6 := by omega
      have i2 : (0 : Int) ≤ (k : Int) := by omega
      obtain ⟨a5, g5, t1, t2, t3⟩ := HGS.out k hlt
      have q1 := fun w => apart_walk t1 w
      have q2 := fun w => gap_walk t2 w
      have k1 : (FloatKind.f64.format.order g5 4562254508917369340 == some .gt) = false := t3
      have cx := HC3.out k hlt
      clear t1 t2 t3
      go_wp2_with fail
      refine (q1 _).mono ?_; rintro e w5 ⟨rfl, rfl⟩
      go_wp2_with fail
      refine (q2 _).mono ?_; rintro e w5 ⟨rfl, rfl⟩
      go_wp2
      go_round
      case rel => exact ⟨k + 1, by omega, by simp, rfl⟩
      case measure => simp [intOf]; omega
    · have hk6 : k = 6 := by omega
      subst hk6
      rcases HFF.out.round with ⟨pl, wh, l, r, z, sp, wc, r1, i1, r2, i2, r3, i3, z1, z2, a5, r', g5, b5, t1, t2, t3, t4, t5, t6, t7, t8, t9, t10, t11, t12, t13, t14, t15, t16, t17, t18⟩ | ⟨pl, wh, l, sp, wc, r1, i1, u, v, p, t1, t2, t3, t4, t5, t6, t7, t8, t9, t10, t11, t12⟩
      · obtain ⟨pl', z', hpl, hplv⟩ := HFF.out.pull
        have hple : pl = pl' := by rw [t1] at hpl; exact Option.some.inj hpl
        subst hple
        have P5 : Hid (∀ w, Calls Try.prog 20 _ w _) := fun w => Radius_walk HPW.out t1 hplv t2 t3 t4 t5 HG.out.choose_spec w
        have P6 : Hid (∀ w, Calls Try.prog 21 _ w _) := fun w => Centre_walk HPW.out t1 t8 t9 t10 t11 t12 t13 HG.out.choose_spec w
        have o1 := wb t6
        have q1 := fun w => apart_walk t14 w
        have o2 := w64 t15
        have q2 := fun w => gap_walk t16 w
        simp only [radB, Option.bind_eq_bind, Option.bind_eq_some_iff] at t17
        obtain ⟨s5, y3, y4⟩ := t17
        have o3 : ∀ t w, (binOp .add t (.float .f64 4607182418800017408) (.float .f64 r')).run Try.prog w = _ := wb y3
        have o4 : ∀ t w, (binOp .mul t (.float .f64 4562254508917369340) (.float .f64 s5)).run Try.prog w = _ := wb y4
        have k1 : (FloatKind.f64.format.order g5 b5 == some .gt) = false := t18
        have k2 : (FloatKind.f32.format.order sp 0 != some .eq) = true ∧ ¬ (FloatKind.f32.format.order sp 0 = some .eq) := by rcases t7 with t7 | t7 <;> rw [t7] <;> exact ⟨rfl, by simp⟩
        have k3 := eq_false k2.2
        have k4 := k2.1
        clear t1 t2 t3 t4 t5 t6 t7 t8 t9 t10 t11 t12 t13 t14 t15 t16 t18 y3 y4 hpl hplv
        go_wp2_with fail
        refine (P5.out _).mono ?_; rintro e w5 ⟨rfl, hb5⟩
        have HV5 := Lib.hid (HV3.out.below hb5 (Nat.lt_trans HVt.out.2.1 HVt.out.2.2))
        have HW5 := Lib.hid (HW3.out.trans (hb5.mono HW3.out.size))
        have HV5t : Hid (w.heap.size ≤ V ∧ V < w5.heap.size) := ⟨HVt.out.1, Nat.lt_of_lt_of_le (Nat.lt_trans HVt.out.2.1 HVt.out.2.2) hb5.size⟩
        clear P5 HV3 HW3 HVt hb5 v0 v1 v2 v3 g0 g1 g2 g3
        obtain ⟨v0, v1, v2, v3, g0, g1, g2, g3⟩ := HV5.out
        go_wp2_with fail
        refine (P6.out _).mono ?_; rintro e w6 ⟨rfl, hb6⟩
        have HV6 := Lib.hid (HV5.out.below hb6 HV5t.out.2)
        have HW6 := Lib.hid (HW5.out.trans (hb6.mono HW5.out.size))
        have HV6t : Hid (w.heap.size ≤ V ∧ V < w6.heap.size) := ⟨HV5t.out.1, Nat.lt_of_lt_of_le HV5t.out.2 hb6.size⟩
        clear P6 HV5 HW5 HV5t hb6 v0 v1 v2 v3 g0 g1 g2 g3
        obtain ⟨v0, v1, v2, v3, g0, g1, g2, g3⟩ := HV6.out
        go_wp2_with fail
        refine (q1 _).mono ?_; rintro e w9 ⟨rfl, rfl⟩
        go_wp2_with fail
        refine (q2 _).mono ?_; rintro e w9 ⟨rfl, rfl⟩
        go_wp2_with fail
        clear o1 o2 o3 o4 q1 q2 k1 k2 k3 k4
        obtain ⟨re, im, _, _, tr, _, e1, e2, e3, e4, e5, e6⟩ := HFF.out.turn
        have P7 : Hid (∀ w, Calls Try.prog 22 _ w _) := fun w => TurnsOf_walk HPW.out e1 e2 e3 HG.out.choose_spec HT.out.choose_spec e4 e5 e6 w
        have P8 : Hid (∀ w, Calls Try.prog 10 _ w _) := fun w => TurnOf_walk HPW.out e1 e2 e3 HG.out.choose_spec HT.out.choose_spec w
        have P9 : Hid (∀ w, Calls Try.prog 24 _ w _) := fun w => AngleOf_walk e2 e3 e4 e5 w
        have P10 : Hid (∀ w, Calls Try.prog 23 _ w _) := fun w => SameNumber_walk e6 w
        clear e1 e2 e3 e4 e5 e6
        refine (P7.out _).mono ?_; rintro e w7 ⟨rfl, hb7⟩
        have HV7 := Lib.hid (HV6.out.below hb7 HV6t.out.2)
        have HW7 := Lib.hid (HW6.out.trans (hb7.mono HW6.out.size))
        have HV7t : Hid (w.heap.size ≤ V ∧ V < w7.heap.size) := ⟨HV6t.out.1, Nat.lt_of_lt_of_le HV6t.out.2 hb7.size⟩
        clear P7 HV6 HW6 HV6t hb7 v0 v1 v2 v3 g0 g1 g2 g3
        obtain ⟨v0, v1, v2, v3, g0, g1, g2, g3⟩ := HV7.out
        go_wp2_with fail
        refine (P8.out _).mono ?_; rintro e w8 ⟨rfl, hb8⟩
        have HW8 := Lib.hid (HW7.out.trans (hb8.mono HW7.out.size))
        clear P8 HV7 HW7 HV7t hb8 v0 v1 v2 v3 g0 g1 g2 g3
        go_wp2_with fail
        refine (P9.out _).mono ?_; rintro e w9 ⟨rfl, hb9⟩
        have HW9 := Lib.hid (HW8.out.trans (hb9.mono HW8.out.size))
        clear P9 HW8 hb9
        go_wp2_with fail
        refine (P10.out _).mono ?_; rintro e w10 ⟨rfl, rfl⟩
        go_wp2
        go_ret
        exact ⟨rfl, HW9.out⟩
      · obtain ⟨pl', z', hpl, hplv⟩ := HFF.out.pull
        have hple : pl = pl' := by rw [t1] at hpl; exact Option.some.inj hpl
        subst hple
        have P5 : Hid (∀ w, Calls Try.prog 20 _ w _) := fun w => Radius_no HPW.out t1 hplv t2 t3 t4 HG.out.choose_spec w
        have P6 : Hid (∀ w, Calls Try.prog 21 _ w _) := fun w => Centre_no HPW.out t1 t7 t8 t9 t10 t11 t12 HG.out.choose_spec w
        have o1 := wb t5
        have k2 := t6
        clear t1 t2 t3 t4 t5 t6 t7 t8 t9 t10 t11 t12 hpl hplv
        go_wp2_with fail
        refine (P5.out _).mono ?_; rintro e w5 ⟨rfl, hb5⟩
        have HV5 := Lib.hid (HV3.out.below hb5 (Nat.lt_trans HVt.out.2.1 HVt.out.2.2))
        have HW5 := Lib.hid (HW3.out.trans (hb5.mono HW3.out.size))
        have HV5t : Hid (w.heap.size ≤ V ∧ V < w5.heap.size) := ⟨HVt.out.1, Nat.lt_of_lt_of_le (Nat.lt_trans HVt.out.2.1 HVt.out.2.2) hb5.size⟩
        clear P5 HV3 HW3 HVt hb5 v0 v1 v2 v3 g0 g1 g2 g3
        obtain ⟨v0, v1, v2, v3, g0, g1, g2, g3⟩ := HV5.out
        go_wp2_with fail
        refine (P6.out _).mono ?_; rintro e w6 ⟨rfl, hb6⟩
        have HV6 := Lib.hid (HV5.out.below hb6 HV5t.out.2)
        have HW6 := Lib.hid (HW5.out.trans (hb6.mono HW5.out.size))
        have HV6t : Hid (w.heap.size ≤ V ∧ V < w6.heap.size) := ⟨HV5t.out.1, Nat.lt_of_lt_of_le HV5t.out.2 hb6.size⟩
        clear P6 HV5 HW5 HV5t hb6 v0 v1 v2 v3 g0 g1 g2 g3
        obtain ⟨v0, v1, v2, v3, g0, g1, g2, g3⟩ := HV6.out
        go_wp2_with fail
        clear o1 k2
        obtain ⟨re, im, _, _, tr, _, e1, e2, e3, e4, e5, e6⟩ := HFF.out.turn
        have P7 : Hid (∀ w, Calls Try.prog 22 _ w _) := fun w => TurnsOf_walk HPW.out e1 e2 e3 HG.out.choose_spec HT.out.choose_spec e4 e5 e6 w
        have P8 : Hid (∀ w, Calls Try.prog 10 _ w _) := fun w => TurnOf_walk HPW.out e1 e2 e3 HG.out.choose_spec HT.out.choose_spec w
        have P9 : Hid (∀ w, Calls Try.prog 24 _ w _) := fun w => AngleOf_walk e2 e3 e4 e5 w
        have P10 : Hid (∀ w, Calls Try.prog 23 _ w _) := fun w => SameNumber_walk e6 w
        clear e1 e2 e3 e4 e5 e6
        refine (P7.out _).mono ?_; rintro e w7 ⟨rfl, hb7⟩
        have HV7 := Lib.hid (HV6.out.below hb7 HV6t.out.2)
        have HW7 := Lib.hid (HW6.out.trans (hb7.mono HW6.out.size))
        have HV7t : Hid (w.heap.size ≤ V ∧ V < w7.heap.size) := ⟨HV6t.out.1, Nat.lt_of_lt_of_le HV6t.out.2 hb7.size⟩
        clear P7 HV6 HW6 HV6t hb7 v0 v1 v2 v3 g0 g1 g2 g3
        obtain ⟨v0, v1, v2, v3, g0, g1, g2, g3⟩ := HV7.out
        go_wp2_with fail
        refine (P8.out _).mono ?_; rintro e w8 ⟨rfl, hb8⟩
        have HW8 := Lib.hid (HW7.out.trans (hb8.mono HW7.out.size))
        clear P8 HV7 HW7 HV7t hb8 v0 v1 v2 v3 g0 g1 g2 g3
        go_wp2_with fail
        refine (P9.out _).mono ?_; rintro e w9 ⟨rfl, hb9⟩
        have HW9 := Lib.hid (HW8.out.trans (hb9.mono HW8.out.size))
        clear P9 HW8 hb9
        go_wp2_with fail
        refine (P10.out _).mono ?_; rintro e w10 ⟨rfl, rfl⟩
        go_wp2
        go_ret
        exact ⟨rfl, HW9.out⟩

set_option maxRecDepth 100000 in
theorem orbits_long {a b : Option Addr} {n m c d : Nat} {w : World} (h : 48 < n ∨ 48 < m) :
    Calls Try.prog 4 #[.slice a n c, .slice b m d] w fun e w' => e = .returned (.bool true) ∧ Below w.heap.size w w' := by
  have P0 := Lib.hid (fun w => Long_yes (a := a) (b := b) (c := c) (d := d) h w)
  clear h
  go_enter Try.func4, Try.ntmps4
  go_wp2_with fail
  refine (P0.out _).mono ?_; rintro e w' ⟨rfl, rfl⟩
  go_wp2
  go_ret
  exact ⟨rfl, Below.refl _ _⟩

end Go.Proofs.Ytgblehdamgliaaa
