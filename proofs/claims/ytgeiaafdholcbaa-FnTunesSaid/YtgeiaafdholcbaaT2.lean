/-
  The walks of a line's tests and of its matrix.
-/
import Derived.Test.YtgeiaafdholcbaaT1
import Derived.Test.YtgeiaafdholcbaaReg
set_option linter.unusedVariables false
set_option linter.unusedSimpArgs false
namespace Go.Proofs.Ytgeiaafdholcbaa
open Go.RowKit FT

theorem below_drewN (w : World) (n B : Nat) : Below B w (w.drewN n) := ⟨rfl, rfl, rfl, Nat.le_refl _, fun _ _ => rfl⟩

/-- The cells of a line. -/
structure LineAt (w : World) (a : Option Addr) (l : List (Int × Nat)) : Prop where
  at_ : l ≠ [] → ∃ b, a = some ⟨b, 0, none⟩ ∧ b < w.heap.size ∧ ∀ j (h : j < l.length), w.cell? ⟨b, j * 3, none⟩ = some (.int .i64 (l[j]'h).1) ∧ w.cell? ⟨b, j * 3 + 1, none⟩ = some (.float .f32 (l[j]'h).2) ∧ w.cell? ⟨b, j * 3 + 2, none⟩ = some (.float .f32 0)

theorem LineAt.below {w w' : World} {a : Option Addr} {l : List (Int × Nat)} (h : LineAt w a l) (hb : Below w.heap.size w w') : LineAt w' a l := by
  refine ⟨fun hl => ?_⟩
  obtain ⟨b, h1, h2, h3⟩ := h.at_ hl
  refine ⟨b, h1, Nat.lt_of_lt_of_le h2 hb.size, fun j hj => ?_⟩
  obtain ⟨c0, c1, c2⟩ := h3 j hj
  exact ⟨by rw [hb.cell h2]; exact c0, by rw [hb.cell h2]; exact c1, by rw [hb.cell h2]; exact c2⟩

theorem order_ne {x : Nat} {v : Rat} (h : V32 x v) (hv : v ≠ 0) : (FloatKind.f32.format.order x 0 != some .eq) = true := by
  have e : FloatKind.f32.format.order x 0 = _ := order_eq h zero32
  rw [e, if_neg hv]
  split <;> rfl

set_option maxHeartbeats 1000000 in
theorem isElement_walk {k : Int} {n : Nat} (h : GoodE k n) (w : World) :
    Calls Try.prog 104 #[.agg #[.int .i64 k, .float .f32 n, .float .f32 0]] w fun e w' => e = .returned (.bool true) ∧ Below w.heap.size w w' := by
  obtain ⟨x, hx, _, hn⟩ := h.num
  have hk := h.kind
  have p1 := fun w b h1 h2 => areFinite_walk hx zero32 w b h1 h2
  have hne := fun h1 => order_ne hx (hn h1).1
  have pw := fun w => within_yes k 0 4 (by omega) (by omega) w
  clear hn hx h
  rcases hk with rfl | rfl | rfl
  all_goals
    first
      | have hne' := hne rfl
      | skip
    clear hne
    go_enter Try.func104, Try.ntmps104
    go_wp2_with fail
    refine (pw _).mono ?_; rintro e w1 ⟨rfl, rfl⟩
    go_wp2_with fail
    refine (p1 _ _ (by simp) (by simp)).mono ?_; rintro e w1 ⟨rfl, rfl⟩
    go_wp2
    go_ret
    exact ⟨rfl, ((Below.refl _ _).alloc (Nat.le_refl _) _).alloc (by simp) _⟩

theorem NotElement_walk {k : Int} {n : Nat} (h : GoodE k n) (w : World) :
    Calls Try.prog 103 #[.agg #[.int .i64 k, .float .f32 n, .float .f32 0]] w fun e w' => e = .returned (.bool false) ∧ Below w.heap.size w w' := by
  have p1 := fun w => isElement_walk h w
  clear h
  go_enter Try.func103, Try.ntmps103
  go_wp2_with fail
  refine (p1 _).mono ?_; rintro e w1 ⟨rfl, hb1⟩
  go_wp2
  go_ret
  exact ⟨rfl, ((Below.refl _ _).alloc (Nat.le_refl _) _).trans (hb1.mono (by simp))⟩

set_option maxHeartbeats 1000000 in
theorem IndexE_walk {a : Option Addr} {l : List (Int × Nat)} {cap : Nat} (w : World) (h : LineAt w a l) (hl : l.length ≤ 4) (hg : ∀ e ∈ l, GoodE e.1 e.2) :
    Calls Try.prog 126 #[.slice a l.length cap, .func (.func 103) #[] #[]] w fun e w' => e = .returned (.int .i64 (-1)) ∧ Below w.heap.size w w' := by
  have HL := Lib.hid h
  have HG := Lib.hid hg
  have HN := Lib.hid hl
  clear h hg
  go_enter Try.func126, Try.ntmps126
  go_wp2_with fail
  go_loopw [4, 8] (fun v i wr => ∃ k : Nat, i = .int .i64 k ∧ k ≤ l.length ∧ Below w.heap.size w wr) (fun _ i _ => l.length - (intOf i).toNat)
  case atStart => exact ⟨0, rfl, Nat.zero_le _, Below.refl _ _⟩
  case round =>
    obtain ⟨k, rfl, hk, hB⟩ := hrel
    rcases Nat.lt_or_ge k l.length with hlt | hge
    · obtain ⟨b, hab, hb, hc⟩ := HL.out.at_ (by intro h; rw [h] at hlt; exact absurd hlt (Nat.not_lt_zero _))
      obtain ⟨c0, c1, c2⟩ := hc k hlt
      have p1 := fun w => NotElement_walk (HG.out _ (List.getElem_mem hlt)) w
      have d0 : wr.cell? ⟨b, k * 3, none⟩ = some (.int .i64 (l[k]'hlt).1) := (hB.cell (p := ⟨b, _, none⟩) hb).trans c0
      have d1 : wr.cell? ⟨b, k * 3 + 1, none⟩ = some (.float .f32 (l[k]'hlt).2) := (hB.cell (p := ⟨b, _, none⟩) hb).trans c1
      have d2 : wr.cell? ⟨b, k * 3 + 2, none⟩ = some (.float .f32 0) := (hB.cell (p := ⟨b, _, none⟩) hb).trans c2
      have HB := Lib.hid hB
      clear hB c0 c1 c2 hc
      generalize (l[k]'hlt).1 = K at *
      generalize (l[k]'hlt).2 = M at *
      subst hab
      have i1 : (k : Int) < (l.length : Int) := by omega
      have i2 : (l.length : Int) ≤ 4 := by omega
      go_wp2_with fail

      refine (p1 _).mono ?_; rintro e w2 ⟨rfl, hb2⟩
      go_wp2
      go_roundw
      case rel => exact ⟨k + 1, by go_num, by omega, HB.out.trans (hb2.mono HB.out.size)⟩
      case measure => simp [intOf]; omega
    · have hk' : k = l.length := by omega
      have d1 : decide (k < l.length) = false := by simp; omega
      have HB := Lib.hid hB
      clear hB hk'
      go_wp2
      go_ret
      exact ⟨rfl, HB.out⟩

theorem ContainsE_walk {a : Option Addr} {l : List (Int × Nat)} {cap : Nat} (w : World) (h : LineAt w a l) (hl : l.length ≤ 4) (hg : ∀ e ∈ l, GoodE e.1 e.2) :
    Calls Try.prog 102 #[.slice a l.length cap, .func (.func 103) #[] #[]] w fun e w' => e = .returned (.bool false) ∧ Below w.heap.size w w' := by
  have p1 := IndexE_walk (cap := cap) w h hl hg
  clear h hg hl
  go_enter Try.func102, Try.ntmps102
  go_wp2_with fail
  refine p1.mono ?_; rintro e w1 ⟨rfl, hb1⟩
  go_wp2
  go_ret
  exact ⟨rfl, hb1⟩

theorem ValidLine_walk {a : Option Addr} {l : List (Int × Nat)} {cap : Nat} (w : World) (h : LineAt w a l) (hl : l.length ≤ 4) (hg : ∀ e ∈ l, GoodE e.1 e.2) :
    Calls Try.prog 77 #[.slice a l.length cap] w fun e w' => e = .returned (.bool true) ∧ Below w.heap.size w w' := by
  have p1 := ContainsE_walk (cap := cap) w h hl hg
  have hn : (l.length : Int) ≤ 32 := by omega
  clear h hg
  go_enter Try.func77, Try.ntmps77
  go_wp2_with fail
  refine p1.mono ?_; rintro e w1 ⟨rfl, hb1⟩
  go_wp2
  go_ret
  exact ⟨rfl, hb1⟩

/-! ## Matrices -/

structure M4 where
  a : Nat
  b : Nat
  c : Nat
  d : Nat

def psW (a b c d : Nat) : Option Nat := do
  let x ← fb .mul .f32 a b
  let y ← fb .mul .f32 c d
  fb .add .f32 x y
def timesW (x y : M4) : Option M4 := do
  let p ← psW x.a y.a x.b y.c
  let q ← psW x.a y.b x.b y.d
  let r ← psW x.c y.a x.d y.c
  let s ← psW x.c y.b x.d y.d
  return ⟨p, q, r, s⟩
def elemW (k : Int) (n : Nat) : Option M4 :=
  if k = 0 then some ⟨1065353216, n, 0, 1065353216⟩
  else if k = 1 then (fb .quo .f32 3212836864 n).map fun q => ⟨1065353216, 0, q, 1065353216⟩
  else some ⟨1065353216, 0, 0, 1065353216⟩
def idW : M4 := ⟨1065353216, 0, 0, 1065353216⟩

/-- Four numbers in a block. -/
structure MatAt (w : World) (b : Nat) (m : M4) : Prop where
  c0 : w.cell? ⟨b, 0, none⟩ = some (.float .f32 m.a)
  c1 : w.cell? ⟨b, 1, none⟩ = some (.float .f32 m.b)
  c2 : w.cell? ⟨b, 2, none⟩ = some (.float .f32 m.c)
  c3 : w.cell? ⟨b, 3, none⟩ = some (.float .f32 m.d)
  lt : b < w.heap.size
theorem MatAt.below {w w' : World} {b B : Nat} {m : M4} (h : MatAt w b m) (hb : Below B w w') (hB : b < B) : MatAt w' b m := by
  obtain ⟨h0, h1, h2, h3, h4⟩ := h
  exact ⟨by rw [hb.cell hB]; exact h0, by rw [hb.cell hB]; exact h1, by rw [hb.cell hB]; exact h2, by rw [hb.cell hB]; exact h3, Nat.lt_of_lt_of_le h4 hb.size⟩
theorem MatAt.new (w : World) (m : M4) (t : TypeId) : MatAt (w.alloc (.cells #[.float .f32 m.a, .float .f32 m.b, .float .f32 m.c, .float .f32 m.d] t)) w.heap.size m := by
  constructor <;> simp

def GivesM (m : M4) (w : World) (e : Ending) (w' : World) : Prop := ∃ b, e = .returned (.slice (some ⟨b, 0, none⟩) 4 4) ∧ MatAt w' b m ∧ Below w.heap.size w w'

theorem matrix_walk {k : Int} {n : Nat} {m : M4} (h : elemW k n = some m) (w : World) :
    Calls Try.prog 106 #[.agg #[.int .i64 k, .float .f32 n, .float .f32 0]] w (GivesM m w) := by
  unfold elemW at h
  by_cases h0 : k = 0
  · subst h0
    simp only [if_true, Option.some.injEq] at h
    subst h
    go_enter Try.func106, Try.ntmps106
    go_wp2
    go_ret
    exact ⟨_, rfl, (by constructor <;> simp), ((Below.refl _ _).alloc (Nat.le_refl _) _).alloc (by simp) _⟩
  · rw [if_neg h0] at h
    by_cases h1 : k = 1
    · subst h1
      simp only [if_true, Option.map_eq_some_iff] at h
      obtain ⟨q, hq, rfl⟩ := h
      have o := wb hq
      clear hq h0
      go_enter Try.func106, Try.ntmps106
      go_wp2
      go_ret
      exact ⟨_, rfl, (by constructor <;> simp), ((Below.refl _ _).alloc (Nat.le_refl _) _).alloc (by simp) _⟩
    · rw [if_neg h1] at h
      simp only [Option.some.injEq] at h
      subst h
      have d0 : (k == 0) = false := by simpa using h0
      have d1 : (k == 1) = false := by simpa using h1
      clear h0 h1
      go_enter Try.func106, Try.ntmps106
      go_wp2
      go_ret
      exact ⟨_, rfl, (by constructor <;> simp), ((Below.refl _ _).alloc (Nat.le_refl _) _).alloc (by simp) _⟩

set_option maxRecDepth 100000 in
set_option maxHeartbeats 4000000 in
theorem times_walk {x y m : M4} (h : timesW x y = some m) {b c : Nat} (w : World) (hb : MatAt w b x) (hc : MatAt w c y) :
    Calls Try.prog 105 #[.slice (some ⟨b, 0, none⟩) 4 4, .slice (some ⟨c, 0, none⟩) 4 4] w (GivesM m w) := by
  simp only [timesW, psW, Option.bind_eq_bind, Option.bind_eq_some_iff, Option.pure_def, Option.some.injEq] at h
  obtain ⟨p, ⟨x1, e1, x2, e2, e3⟩, q, ⟨x3, e4, x4, e5, e6⟩, r, ⟨x5, e7, x6, e8, e9⟩, s, ⟨x7, e10, x8, e11, e12⟩, rfl⟩ := h
  obtain ⟨b0, b1, b2, b3, b4⟩ := hb
  obtain ⟨c0, c1, c2, c3, c4⟩ := hc
  have o1 := wb e1
  have o2 := wb e2
  have o3 := wb e3
  have o4 := wb e4
  have o5 := wb e5
  have o6 := wb e6
  have o7 := wb e7
  have o8 := wb e8
  have o9 := wb e9
  have o10 := wb e10
  have o11 := wb e11
  have o12 := wb e12
  clear e1 e2 e3 e4 e5 e6 e7 e8 e9 e10 e11 e12 b4 c4
  generalize x.a = xa at *
  generalize x.b = xb at *
  generalize x.c = xc at *
  generalize x.d = xd at *
  generalize y.a = ya at *
  generalize y.b = yb at *
  generalize y.c = yc at *
  generalize y.d = yd at *
  go_enter Try.func105, Try.ntmps105
  go_wp2_with fail
  refine wp_region_still_tail 60 (by kernel_rfl) (by kernel_rfl) ?_
  simp only [List.take_succ_cons, List.take_zero, List.drop_succ_cons, List.drop_zero]
  change wpStill _ _ w.drew (fun a' => wpList _ _ _ _ a' w.drew) _ _
  have d0 : w.drew.cell? ⟨b, 0, none⟩ = _ := b0
  have d1 : w.drew.cell? ⟨b, 1, none⟩ = _ := b1
  have d2 : w.drew.cell? ⟨b, 2, none⟩ = _ := b2
  have d3 : w.drew.cell? ⟨b, 3, none⟩ = _ := b3
  have f0 : w.drew.cell? ⟨c, 0, none⟩ = _ := c0
  have f1 : w.drew.cell? ⟨c, 1, none⟩ = _ := c1
  have f2 : w.drew.cell? ⟨c, 2, none⟩ = _ := c2
  have f3 : w.drew.cell? ⟨c, 3, none⟩ = _ := c3
  clear b0 b1 b2 b3 c0 c1 c2 c3
  repeat still_step
  refine wpStill_nil ?_
  go_wp2
  go_ret
  exact ⟨_, rfl, (by constructor <;> simp), (Below.refl _ _).drew.alloc (Nat.le_refl _) _⟩

/-- The matrices of a line's beginnings. -/
structure Mats (l : List (Int × Nat)) (M : Nat → M4) : Prop where
  h0 : M 0 = idW
  hs : ∀ k (h : k < l.length), ∃ e, elemW (l[k]'h).1 (l[k]'h).2 = some e ∧ timesW e (M k) = some (M (k + 1))

set_option maxHeartbeats 1000000 in
theorem matrixOf_walk {a : Option Addr} {l : List (Int × Nat)} {cap : Nat} {M : Nat → M4} (w : World) (h : LineAt w a l) (hl : l.length ≤ 4) (hM : Mats l M) :
    Calls Try.prog 78 #[.slice a l.length cap] w (GivesM (M l.length) w) := by
  have HL := Lib.hid h
  have HM := Lib.hid hM
  have HN := Lib.hid hl
  clear h hM
  go_enter Try.func78, Try.ntmps78
  go_wp2_with fail
  go_loopw [3, 9] (fun v i wr => ∃ (k b : Nat), i = .int .i64 k ∧ k ≤ l.length ∧ v = .slice (some ⟨b, 0, none⟩) 4 4 ∧ MatAt wr b (M k) ∧ Below w.heap.size w wr) (fun _ i _ => l.length - (intOf i).toNat)
  case atStart =>
    refine ⟨0, w.heap.size, rfl, Nat.zero_le _, rfl, ?_, (Below.refl _ _).alloc (Nat.le_refl _) _⟩
    rw [HM.out.h0]
    unfold idW
    constructor <;> simp
  case round =>
    obtain ⟨k, b, rfl, hk, rfl, hm, hB⟩ := hrel
    rcases Nat.lt_or_ge k l.length with hlt | hge
    · obtain ⟨bl, hab, hb, hc⟩ := HL.out.at_ (by intro h; rw [h] at hlt; exact absurd hlt (Nat.not_lt_zero _))
      obtain ⟨c0, c1, c2⟩ := hc k hlt
      obtain ⟨E, he, ht⟩ := HM.out.hs k hlt
      have p1 := fun w => matrix_walk he w
      have p2 := fun b c w h1 h2 => times_walk ht (b := b) (c := c) w h1 h2
      have d0 : wr.cell? ⟨bl, k * 3, none⟩ = some (.int .i64 (l[k]'hlt).1) := (hB.cell (p := ⟨bl, _, none⟩) hb).trans c0
      have d1 : wr.cell? ⟨bl, k * 3 + 1, none⟩ = some (.float .f32 (l[k]'hlt).2) := (hB.cell (p := ⟨bl, _, none⟩) hb).trans c1
      have d2 : wr.cell? ⟨bl, k * 3 + 2, none⟩ = some (.float .f32 0) := (hB.cell (p := ⟨bl, _, none⟩) hb).trans c2
      have HB := Lib.hid hB
      have HMt := Lib.hid hm
      clear hB c0 c1 c2 hc he ht hm
      generalize (l[k]'hlt).1 = K at *
      generalize (l[k]'hlt).2 = N at *
      subst hab
      have i1 : (k : Int) < (l.length : Int) := by omega
      have i2 : (l.length : Int) ≤ 4 := by omega
      go_wp2_with fail
      refine (p1 _).mono ?_; rintro e w2 ⟨b2, rfl, hm2, hb2⟩
      have HB2 : Hid (Below w.heap.size w w2) := Lib.hid ((HB.out.alloc HB.out.size _).trans (hb2.mono (by have := HB.out.size; simp; omega)))
      have HMt2 : Hid (MatAt w2 b (M k)) := Lib.hid (HMt.out.below (((Below.refl wr.heap.size wr).alloc (Nat.le_refl _) _).trans (hb2.mono (by simp))) HMt.out.lt)
      have HN2 := Lib.hid hm2
      clear hb2 HB HMt hm2 p1 d0 d1 d2
      go_wp2_with fail
      refine (p2 _ _ _ HN2.out HMt2.out).mono ?_; rintro e w3 ⟨b3, rfl, hm3, hb3⟩
      go_wp2
      go_roundw
      case rel => exact ⟨k + 1, b3, by go_num, by omega, rfl, hm3, HB2.out.trans (hb3.mono HB2.out.size)⟩
      case measure => simp [intOf]; omega
    · have hk' : k = l.length := by omega
      subst hk'
      have HB := Lib.hid hB
      have HMt := Lib.hid hm
      clear hB hm
      go_wp2
      go_ret
      exact ⟨b, rfl, HMt.out, HB.out⟩

theorem MatrixOf_walk {a : Option Addr} {l : List (Int × Nat)} {cap : Nat} {M : Nat → M4} (w : World) (h : LineAt w a l) (hl : l.length ≤ 4) (hg : ∀ e ∈ l, GoodE e.1 e.2) (hM : Mats l M) :
    Calls Try.prog 32 #[.slice a l.length cap] w fun e w' => ∃ b, e = .returned (.tuple #[.slice (some ⟨b, 0, none⟩) 4 4, .bool true]) ∧ MatAt w' b (M l.length) ∧ Below w.heap.size w w' := by
  have p1 := ValidLine_walk (cap := cap) w h hl hg
  have p2 : Hid (∀ w', LineAt w' a l → Calls Try.prog _ _ w' _) := fun w' h' => matrixOf_walk (cap := cap) w' h' hl hM
  have HL := Lib.hid h
  clear h hg hM hl
  go_enter Try.func32, Try.ntmps32
  go_wp2_with fail
  refine p1.mono ?_; rintro e w1 ⟨rfl, hb1⟩
  go_wp2_with fail
  refine (p2.out _ (HL.out.below hb1)).mono ?_; rintro e w2 ⟨b, rfl, hm, hb2⟩
  have HB := Lib.hid (hb1.trans (hb2.mono hb1.size))
  have HM := Lib.hid hm
  clear hb1 hb2 hm p1 p2
  go_wp2
  go_ret2
  exact ⟨b, rfl, HM.out, HB.out⟩

theorem TraceOf_walk {m : M4} {t b : Nat} (ht : fb .add .f32 m.a m.d = some t) (w : World) (hm : MatAt w b m) :
    Calls Try.prog 33 #[.slice (some ⟨b, 0, none⟩) 4 4] w fun e w' => e = .returned (.tuple #[.float .f32 t, .bool true]) ∧ Below w.heap.size w w' := by
  have o := wb ht
  obtain ⟨c0, c1, c2, c3, c4⟩ := hm
  clear ht c4 c1 c2
  generalize m.a = x at *
  generalize m.d = y at *
  go_enter Try.func33, Try.ntmps33
  go_wp2_with fail
  go_quiet (fail)
  go_wp2
  go_ret2
  exact ⟨rfl, below_drewN _ _ _⟩

end Go.Proofs.Ytgeiaafdholcbaa
