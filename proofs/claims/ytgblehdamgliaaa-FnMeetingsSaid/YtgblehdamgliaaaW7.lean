/-
  The walks of what is drawn: particles, numbers and places of small quotients.
-/
import Derived.Test.YtgblehdamgliaaaW6
set_option linter.unusedVariables false
set_option linter.unusedSimpArgs false
namespace Go.Proofs.Ytgblehdamgliaaa
open Go.RowKit FT

theorem From_walk (a : Option Addr) (len cap : Nat) (w : World) :
    Calls Try.prog 31 #[.slice a len cap] w fun e w' => e = .returned (.pointer (some ⟨w.heap.size, 0, none⟩)) ∧ w.alloc (.cells #[.slice a len cap, .int .i64 0, .int .u64 0] 85) = w' := by
  go_enter Try.func31, Try.ntmps31
  go_wp2
  go_ret
  exact ⟨rfl, rfl⟩

theorem Src.start (a : Option Addr) (len cap : Nat) (w : World) (hb : Bytes w a len) (ha : ∀ b off i, a = some ⟨b, off, i⟩ → 0 < len → i = none ∧ b < w.heap.size) (hs : len = 0 ∨ a.isSome = true) :
    Src w.heap.size a len cap (w.alloc (.cells #[.slice a len cap, .int .i64 0, .int .u64 0] 85)) 0 := by
  refine ⟨by simp, ⟨0, Nat.le_refl _, by simp⟩, ⟨0, Int.le_refl _, by simp⟩, by simp, by simp, ?_, ha, hs⟩
  intro b off i hab j hj
  obtain ⟨x, x0, x1, x2⟩ := hb b off i hab j hj
  exact ⟨x, x0, x1, by rw [World.cell?_alloc_lt _ _ _ (by exact (ha b off i hab (by omega)).2)]; exact x2⟩

/-- The words of a drawn particle. -/
structure PD (x y s t c m : Int) : Prop where
  x0 : 0 ≤ x
  x1 : x < 64
  y0 : 0 ≤ y
  y1 : y < 64
  s0 : -8 ≤ s
  s1 : s ≤ 8
  t0 : -8 ≤ t
  t1 : t ≤ 8
  c0 : -4 ≤ c
  c1 : c ≤ 4
  m0 : 1 ≤ m
  m1 : m ≤ 8

def partOf (x y s t c m : Int) : Value := .agg #[.complex .f32 (d8 x) (d8 y), .complex .f32 (d8 s) (d8 t), .float .f32 (d2 c), .float .f32 (d4 m)]

def DrawnOne (p : Nat) (w : World) (e : Ending) (w' : World) : Prop :=
  ∃ x y s t c m : Int, PD x y s t c m ∧ e = .returned (partOf x y s t c m) ∧ Below p w w'

/-- A block of four cells that may be written. -/
structure Has4 (w : World) (B : Nat) (v0 v1 v2 v3 : Value) : Prop where
  c0 : w.cell? ⟨B, 0, none⟩ = some v0
  c1 : w.cell? ⟨B, 1, none⟩ = some v1
  c2 : w.cell? ⟨B, 2, none⟩ = some v2
  c3 : w.cell? ⟨B, 3, none⟩ = some v3
  f0 : w.frozen? ⟨B, 0, none⟩ = false
  f1 : w.frozen? ⟨B, 1, none⟩ = false
  f2 : w.frozen? ⟨B, 2, none⟩ = false
  f3 : w.frozen? ⟨B, 3, none⟩ = false
theorem Has4.block {w w' : World} {B : Nat} {v0 v1 v2 v3 : Value} (h : Has4 w B v0 v1 v2 v3) (hb : w'.heap[B]? = w.heap[B]?) : Has4 w' B v0 v1 v2 v3 := by
  obtain ⟨h0, h1, h2, h3, g0, g1, g2, g3⟩ := h
  constructor
  all_goals first
    | (rw [World.cell?_of_block (w := w) hb]; assumption)
    | (rw [World.frozen?_of_block (w := w) hb]; assumption)
theorem Has4.upd {w w' : World} {p B : Nat} {v0 v1 v2 v3 : Value} (h : Has4 w B v0 v1 v2 v3) (hu : Upd p w w') (hB : B ≠ p) : Has4 w' B v0 v1 v2 v3 := h.block (hu.block B hB)
theorem Has4.below {w w' : World} {C B : Nat} {v0 v1 v2 v3 : Value} (h : Has4 w B v0 v1 v2 v3) (hu : Below C w w') (hB : B < C) : Has4 w' B v0 v1 v2 v3 := h.block (hu.block B hB)
theorem Has4.new (w : World) (v0 v1 v2 v3 : Value) (t : TypeId) : Has4 (w.alloc (.cells #[v0, v1, v2, v3] t)) w.heap.size v0 v1 v2 v3 := by
  constructor <;> simp
theorem Has4.set1 {w : World} {B : Nat} {v0 v1 v2 v3 : Value} (h : Has4 w B v0 v1 v2 v3) (u : Value) : Has4 (w.setCell ⟨B, 1, none⟩ u) B v0 u v2 v3 := by
  obtain ⟨h0, h1, h2, h3, g0, g1, g2, g3⟩ := h
  refine ⟨?_, World.cell?_setCell_same _ _ _ h1, ?_, ?_, ?_, ?_, ?_, ?_⟩
  all_goals first
    | (rw [World.frozen?_setCell]; assumption)
    | (rw [World.cell?_setCell_other _ _ _ _ (by simp)]; assumption)
theorem Has4.set2 {w : World} {B : Nat} {v0 v1 v2 v3 : Value} (h : Has4 w B v0 v1 v2 v3) (u : Value) : Has4 (w.setCell ⟨B, 2, none⟩ u) B v0 v1 u v3 := by
  obtain ⟨h0, h1, h2, h3, g0, g1, g2, g3⟩ := h
  refine ⟨?_, ?_, World.cell?_setCell_same _ _ _ h2, ?_, ?_, ?_, ?_, ?_⟩
  all_goals first
    | (rw [World.frozen?_setCell]; assumption)
    | (rw [World.cell?_setCell_other _ _ _ _ (by simp)]; assumption)
theorem Has4.set3 {w : World} {B : Nat} {v0 v1 v2 v3 : Value} (h : Has4 w B v0 v1 v2 v3) (u : Value) : Has4 (w.setCell ⟨B, 3, none⟩ u) B v0 v1 v2 u := by
  obtain ⟨h0, h1, h2, h3, g0, g1, g2, g3⟩ := h
  refine ⟨?_, ?_, ?_, World.cell?_setCell_same _ _ _ h3, ?_, ?_, ?_, ?_⟩
  all_goals first
    | (rw [World.frozen?_setCell]; assumption)
    | (rw [World.cell?_setCell_other _ _ _ _ (by simp)]; assumption)

set_option maxHeartbeats 1000000 in
theorem DrawOne_walk {p : Nat} {a : Option Addr} {len cap : Nat} {w : World} (h : Src p a len cap w 0) (hp : p < w.heap.size) (hl : len ≤ 1000000) :
    Calls Try.prog 32 #[.pointer (some ⟨p, 0, none⟩)] w (DrawnOne p w) := by
  go_enter Try.func32, Try.ntmps32
  go_wp2_with fail
  refine (pick_src (h.below ((Below.refl _ _).alloc (Nat.le_refl _) _) hp) (by omega) hl 64 (by omega) (by omega)).mono ?_; rintro e w1 ⟨x, rfl, x0, x1, hu1, hs1⟩
  have ox := wb (d8_ok x (by omega) (by omega)).1
  go_wp2_with fail
  refine (pick_src hs1 (by omega) hl 64 (by omega) (by omega)).mono ?_; rintro e w2 ⟨y, rfl, y0, y1, hu2, hs2⟩
  have oy := wb (d8_ok y (by omega) (by omega)).1
  have HZ : Hid (w2.heap.size = w.heap.size + 1 ∧ p < w.heap.size) := ⟨by rw [hu2.size, hu1.size]; simp, hp⟩
  have HR : Hid (Has4 w2 w.heap.size (.complex .f32 0 0) (.complex .f32 0 0) (.float .f32 0) (.float .f32 0)) := ((Has4.new w _ _ _ _ 27).upd hu1 (by omega)).upd hu2 (by omega)
  have HB : Hid (Below p w w2) := (((Below.refl p w).alloc (by omega) _).trans (hu1.below (Nat.le_refl _))).trans (hu2.below (Nat.le_refl _))
  clear h hu1 hs1 hu2
  go_wp2_with fail
  have hpV : p < w2.heap.size := by have := HZ.out.1; omega
  refine (pick_src (hs2.below ((Below.refl w2.heap.size _).alloc (Nat.le_refl _) _) hpV) (by omega) hl 17 (by omega) (by omega)).mono ?_; rintro e w3 ⟨s, rfl, s0, s1, hu3, hs3⟩
  have os := wb (d8_ok (s - 8) (by omega) (by omega)).1
  have HV3 : Hid (Has4 w3 w2.heap.size _ _ _ _) := (Has4.new w2 (.complex .f32 (d8 x) (d8 y)) (.complex .f32 0 0) (.float .f32 0) (.float .f32 0) 27).upd hu3 (by omega)
  have HR3 : Hid (Has4 w3 w.heap.size _ _ _ _) := (HR.out.below ((Below.refl w2.heap.size _).alloc (Nat.le_refl _) _) (by have := HZ.out.1; omega)).upd hu3 (by omega)
  have HB3 : Hid (Below p w w3) := (HB.out.alloc (by omega) _).trans (hu3.below (Nat.le_refl _))
  have hR : w.heap.size ≠ w2.heap.size := by have := HZ.out.1; omega
  have hRp : w.heap.size ≠ p := by omega
  clear hs2 HR HB hu3
  generalize w2.heap.size = V at *
  go_wp2_with fail
  refine (pick_src hs3 (by omega) hl 17 (by omega) (by omega)).mono ?_; rintro e w4 ⟨u, rfl, u0, u1, hu4, hs4⟩
  have ou := wb (d8_ok (u - 8) (by omega) (by omega)).1
  have HV4 : Hid (Has4 w4 V _ _ _ _) := HV3.out.upd hu4 (by omega)
  have HR4 : Hid (Has4 w4 w.heap.size _ _ _ _) := HR3.out.upd hu4 hRp
  have HB4 : Hid (Below p w w4) := HB3.out.trans (hu4.below (Nat.le_refl _))
  clear HV3 HR3 HB3 hu4 hs3
  obtain ⟨k0, k1, k2, k3, g0, g1, g2, g3⟩ := HV4.out
  go_wp2_with fail
  clear k0 k1 k2 k3 g0 g1 g2 g3
  refine (pick_src (hs4.below ((Below.refl V _).setCell (Nat.le_refl _) _) hpV) (by omega) hl 9 (by omega) (by omega)).mono ?_; rintro e w5 ⟨c, rfl, c0, c1, hu5, hs5⟩
  have oc := wb (d2_ok (c - 4) (by omega) (by omega)).1
  have HV5 : Hid (Has4 w5 V _ _ _ _) := (HV4.out.set1 _).upd hu5 (by omega)
  have HR5 : Hid (Has4 w5 w.heap.size _ _ _ _) := (HR4.out.block (Below.heap_setCell _ _ _ _ hR)).upd hu5 hRp
  have HB5 : Hid (Below p w w5) := (HB4.out.setCell (Nat.le_of_lt hpV) _).trans (hu5.below (Nat.le_refl _))
  clear HV4 HR4 HB4 hu5 hs4
  obtain ⟨k0, k1, k2, k3, g0, g1, g2, g3⟩ := HV5.out
  go_wp2_with fail
  clear k0 k1 k2 k3 g0 g1 g2 g3
  refine (pick_src (hs5.below ((Below.refl V _).setCell (Nat.le_refl _) _) hpV) (by omega) hl 8 (by omega) (by omega)).mono ?_; rintro e w6 ⟨m, rfl, m0, m1, hu6, hs6⟩
  have om := wb (d4_ok (1 + m) (by omega) (by omega)).1
  have HV6 : Hid (Has4 w6 V _ _ _ _) := (HV5.out.set2 _).upd hu6 (by omega)
  have HR6 : Hid (Has4 w6 w.heap.size _ _ _ _) := (HR5.out.block (Below.heap_setCell _ _ _ _ hR)).upd hu6 hRp
  have HB6 : Hid (Below p w w6) := (HB5.out.setCell (Nat.le_of_lt hpV) _).trans (hu6.below (Nat.le_refl _))
  clear HV5 HR5 HB5 hu6 hs5 hs6
  obtain ⟨k0, k1, k2, k3, g0, g1, g2, g3⟩ := HV6.out
  obtain ⟨r0, r1, r2, r3, q0, q1, q2, q3⟩ := HR6.out
  go_wp2
  refine bodyPost_ret (v := partOf x y (s - 8) (u - 8) (c - 4) (1 + m)) (by simp [results, Try.results32, go_sem, partOf, k0, k1, k2, k3, r0, r1, r2, r3, hR]) rfl ⟨x, y, s - 8, u - 8, c - 4, 1 + m, ⟨by omega, by omega, by omega, by omega, by omega, by omega, by omega, by omega, by omega, by omega, by omega, by omega⟩, rfl, ?_⟩
  have hpR := Nat.le_of_lt hp
  exact ((((HB6.out.setCell (Nat.le_of_lt hpV) _).setCell hpR _).setCell hpR _).setCell hpR _).setCell hpR _

def DrawnP (w : World) (e : Ending) (w' : World) : Prop :=
  ∃ x y s t c m : Int, PD x y s t c m ∧ e = .returned (partOf x y s t c m) ∧ Below w.heap.size w w'

set_option maxHeartbeats 1000000 in
theorem Particle_walk {a : Option Addr} {len cap : Nat} {w : World} (hb : Bytes w a len) (ha : ∀ b off i, a = some ⟨b, off, i⟩ → 0 < len → i = none ∧ b < w.heap.size) (hs : len = 0 ∨ a.isSome = true) (hl : len ≤ 1000000) :
    Calls Try.prog 7 #[.slice a len cap] w (DrawnP w) := by
  have hb' : Bytes (w.alloc (.cells #[.complex .f32 0 0, .complex .f32 0 0, .float .f32 0, .float .f32 0] 27)) a len := by
    intro b off i hab j hj
    obtain ⟨x, x0, x1, x2⟩ := hb b off i hab j hj
    exact ⟨x, x0, x1, by rw [World.cell?_alloc_lt _ _ _ (by exact (ha b off i hab (by omega)).2)]; exact x2⟩
  have hsrc := Src.start a len cap (w.alloc (.cells #[.complex .f32 0 0, .complex .f32 0 0, .float .f32 0, .float .f32 0] 27)) hb' (fun b off i h h0 => ⟨(ha b off i h h0).1, by have := (ha b off i h h0).2; simp; omega⟩) hs
  have pd := DrawOne_walk hsrc (by simp) hl
  have HS := Lib.hid hsrc
  have HP := Lib.hid pd
  clear hsrc pd hb hb' ha hs
  go_enter Try.func7, Try.ntmps7
  go_wp2_with fail
  refine (From_walk _ _ _ _).mono ?_; rintro e w1 ⟨rfl, rfl⟩
  go_wp2_with fail
  have pd := HP.out
  simp only [World.size_alloc] at pd
  refine pd.mono ?_; rintro e w2 ⟨x, y, s, u, c, m, hd, rfl, hb2⟩
  have HR : Has4 w2 w.heap.size _ _ _ _ := ((Has4.new w (.complex .f32 0 0) (.complex .f32 0 0) (.float .f32 0) (.float .f32 0) 27).below ((Below.refl (w.heap.size + 1) _).alloc (by simp) _) (by omega)).below hb2 (by omega)
  obtain ⟨r0, r1, r2, r3, q0, q1, q2, q3⟩ := HR
  clear pd HP HS
  unfold partOf
  go_wp2
  refine bodyPost_ret (v := partOf x y s u c m) (by simp [results, Try.results7, go_sem, partOf, r0, r1, r2, r3]) rfl ⟨x, y, s, u, c, m, hd, rfl, ?_⟩
  have h1 : Below w.heap.size w w2 := (((Below.refl _ w).alloc (Nat.le_refl _) _).alloc (by simp) _).trans (hb2.mono (by omega))
  exact (((h1.setCell (Nat.le_refl _) _).setCell (Nat.le_refl _) _).setCell (Nat.le_refl _) _).setCell (Nat.le_refl _) _

def DrawnN (w : World) (e : Ending) (w' : World) : Prop :=
  ∃ n : Int, -8 ≤ n ∧ n ≤ 8 ∧ e = .returned (.float .f32 (d8 n)) ∧ w = w'

theorem ret_f32 {a b : Nat} (h : a = b) : Ending.returned (.float .f32 a) = .returned (.float .f32 b) := by rw [h]

theorem half_d8 : (1056964608 : Nat) = d8 4 := by decide +kernel

theorem Number_walk {a : Option Addr} {len cap : Nat} {w : World} (hb : Bytes w a len) (ha : ∀ b off i, a = some ⟨b, off, i⟩ → 0 < len → i = none) (hs : len = 0 ∨ a.isSome = true) (hl : len ≤ 1000000) (k : Nat) (hk : k ≤ 1000) :
    Calls Try.prog 8 #[.slice a len cap, .int .i64 k] w (DrawnN w) := by
  by_cases hlt : k < len
  · have hsa : a.isSome = true := by rcases hs with h | h; omega; exact h
    obtain ⟨⟨b, off, i⟩, rfl⟩ := Option.isSome_iff_exists.1 hsa
    obtain rfl := ha b off i rfl (by omega)
    obtain ⟨x, x0, x1, x2⟩ := hb b off none rfl k hlt
    have i1 : (0 : Int) ≤ (k : Int) := by omega
    have i2 : (k : Int) < (len : Int) := by omega
    have o := wb (d8_ok (x % 17 - 8) (by omega) (by omega)).1
    clear hb ha hs hsa
    go_enter Try.func8, Try.ntmps8
    go_wp2
    go_ret
    exact ⟨x % 17 - 8, by omega, by omega, rfl, rfl⟩
  · have i2 : (len : Int) ≤ (k : Int) := by omega
    clear hb ha hs
    go_enter Try.func8, Try.ntmps8
    go_wp2
    go_ret
    exact ⟨4, by omega, by omega, ret_f32 half_d8, rfl⟩


structure Has2 (w : World) (B : Nat) (v0 v1 : Value) : Prop where
  c0 : w.cell? ⟨B, 0, none⟩ = some v0
  c1 : w.cell? ⟨B, 1, none⟩ = some v1
  f0 : w.frozen? ⟨B, 0, none⟩ = false
  f1 : w.frozen? ⟨B, 1, none⟩ = false
theorem Has2.set0 {w : World} {B : Nat} {v0 v1 : Value} (h : Has2 w B v0 v1) (u : Value) : Has2 (w.setCell ⟨B, 0, none⟩ u) B u v1 := by
  obtain ⟨h0, h1, g0, g1⟩ := h
  refine ⟨World.cell?_setCell_same _ _ _ h0, ?_, ?_, ?_⟩
  all_goals first
    | (rw [World.frozen?_setCell]; assumption)
    | (rw [World.cell?_setCell_other _ _ _ _ (by simp)]; assumption)
theorem Has2.set1 {w : World} {B : Nat} {v0 v1 : Value} (h : Has2 w B v0 v1) (u : Value) : Has2 (w.setCell ⟨B, 1, none⟩ u) B v0 u := by
  obtain ⟨h0, h1, g0, g1⟩ := h
  refine ⟨?_, World.cell?_setCell_same _ _ _ h1, ?_, ?_⟩
  all_goals first
    | (rw [World.frozen?_setCell]; assumption)
    | (rw [World.cell?_setCell_other _ _ _ _ (by simp)]; assumption)

theorem d8_10 : (1067450368 : Nat) = d8 10 := by decide +kernel
theorem d8_20 : (1075838976 : Nat) = d8 20 := by decide +kernel

def DrawnZ (w : World) (e : Ending) (w' : World) : Prop :=
  ∃ n m : Int, -64 ≤ n ∧ n < 256 ∧ -64 ≤ m ∧ m < 256 ∧ e = .returned (.complex .f32 (d8 n) (d8 m)) ∧ Below w.heap.size w w'

/-- The state of the place's loop. -/
def PlaceR (w : World) (k : Nat) (wr : World) : Prop :=
  ∃ n m : Int, -64 ≤ n ∧ n < 256 ∧ -64 ≤ m ∧ m < 256 ∧ Has2 wr w.heap.size (.float .f32 (d8 n)) (.float .f32 (d8 m)) ∧ Below w.heap.size w wr

theorem Place_walk {a : Option Addr} {len cap : Nat} {w : World} (hb : Bytes w a len) (ha : ∀ b off i, a = some ⟨b, off, i⟩ → 0 < len → i = none ∧ b < w.heap.size) (hs : len = 0 ∨ a.isSome = true) (hl : len ≤ 1000000) :
    Calls Try.prog 9 #[.slice a len cap, .int .i64 2] w (DrawnZ w) := by
  go_enter Try.func9, Try.ntmps9
  go_wp2
  go_loopw [6] (fun i wr => ∃ k : Nat, k ≤ 2 ∧ i = .int .i64 k ∧ PlaceR w k wr) (fun i _ => 2 - (intOf i).toNat)
  case atStart =>
    refine ⟨0, by omega, rfl, 10, 20, by omega, by omega, by omega, by omega, ?_, (Below.refl _ _).alloc (Nat.le_refl _) _⟩
    rw [← d8_10, ← d8_20]
    constructor <;> simp
  case round =>
    obtain ⟨k, hk, rfl, n, m, n0, n1, m0, m1, hH, hB⟩ := hrel
    have hk3 : k = 0 ∨ k = 1 ∨ k = 2 := by omega
    have HH := Lib.hid hH
    have HB := Lib.hid hB
    have HHb := Lib.hid hb
    have HHa := Lib.hid ha
    have HHs := Lib.hid hs
    obtain ⟨h0, h1, g0, g1⟩ := hH
    clear hb ha hs hB
    rcases hk3 with rfl | rfl | rfl
    · by_cases hlt : 2 < len
      · have hsa : a.isSome = true := by rcases HHs.out with h | h; omega; exact h
        obtain ⟨⟨b, off, i⟩, rfl⟩ := Option.isSome_iff_exists.1 hsa
        obtain ⟨rfl, hbw⟩ := HHa.out b off i rfl (by omega)
        obtain ⟨x, x0, x1, x2⟩ := HHb.out b off none rfl 2 hlt
        have x3 : wr.cell? ⟨b, off + 2, none⟩ = some (.int .u8 x) := by rw [HB.out.cell hbw]; exact x2
        have o := wb (d8_ok (x - 64) (by omega) (by omega)).1
        have i2 : (2 : Int) < (len : Int) := by omega
        clear x2 hsa
        go_wp2
        go_roundw
        case rel => exact ⟨1, by omega, rfl, x - 64, m, by omega, by omega, m0, m1, HH.out.set0 _, HB.out.setCell (Nat.le_refl _) _⟩
        case measure => simp [intOf]
      · have i2 : (len : Int) ≤ (2 : Int) := by omega
        go_wp2
        go_roundw
        case rel => exact ⟨1, by omega, rfl, n, m, n0, n1, m0, m1, HH.out, HB.out⟩
        case measure => simp [intOf]
    · by_cases hlt : 3 < len
      · have hsa : a.isSome = true := by rcases HHs.out with h | h; omega; exact h
        obtain ⟨⟨b, off, i⟩, rfl⟩ := Option.isSome_iff_exists.1 hsa
        obtain ⟨rfl, hbw⟩ := HHa.out b off i rfl (by omega)
        obtain ⟨x, x0, x1, x2⟩ := HHb.out b off none rfl 3 hlt
        have x3 : wr.cell? ⟨b, off + 3, none⟩ = some (.int .u8 x) := by rw [HB.out.cell hbw]; exact x2
        have o := wb (d8_ok (x - 64) (by omega) (by omega)).1
        have i2 : (3 : Int) < (len : Int) := by omega
        clear x2 hsa
        go_wp2
        go_roundw
        case rel => exact ⟨2, by omega, rfl, n, x - 64, n0, n1, by omega, by omega, HH.out.set1 _, HB.out.setCell (Nat.le_refl _) _⟩
        case measure => simp [intOf]
      · have i2 : (len : Int) ≤ (3 : Int) := by omega
        go_wp2
        go_roundw
        case rel => exact ⟨2, by omega, rfl, n, m, n0, n1, m0, m1, HH.out, HB.out⟩
        case measure => simp [intOf]
    · go_wp2_with fail
      go_quiet (fail)
      go_wp2
      go_ret
      exact ⟨n, m, n0, n1, m0, m1, rfl, HB.out.trans ⟨rfl, rfl, rfl, Nat.le_refl _, fun _ _ => rfl⟩⟩

end Go.Proofs.Ytgblehdamgliaaa
