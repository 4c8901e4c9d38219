/-
  The walks of the source of choices: each number that is drawn lies in its range; only the source's own block is turned.
-/
import Derived.Test.YtgeiaafdholcbaaB1
import Derived.IntWalk
import Derived.Lib.Hide
import Derived.Laws.Bits64b
import Derived.Deep.QuietTactic
import Derived.BigQuiet
import Derived.WalkKit
set_option linter.unusedVariables false
set_option linter.unusedSimpArgs false
namespace Go.Proofs.Ytgeiaafdholcbaa
open Go.RowKit FT

/-- Only block p is turned; no block comes or goes. -/
structure Upd (p : Nat) (w w' : World) : Prop where
  os : w'.os = w.os
  tape : w'.tape = w.tape
  output : w'.output = w.output
  size : w'.heap.size = w.heap.size
  block : ∀ k, k ≠ p → w'.heap[k]? = w.heap[k]?

theorem Upd.refl (p : Nat) (w : World) : Upd p w w := ⟨rfl, rfl, rfl, rfl, fun _ _ => rfl⟩
theorem Upd.trans {p : Nat} {a b c : World} (h : Upd p a b) (k : Upd p b c) : Upd p a c :=
  ⟨k.os.trans h.os, k.tape.trans h.tape, k.output.trans h.output, k.size.trans h.size, fun i hi => (k.block i hi).trans (h.block i hi)⟩
theorem Upd.drewN {p : Nat} {a w : World} (h : Upd p a w) (n : Nat) : Upd p a (w.drewN n) := h.trans ⟨rfl, rfl, rfl, rfl, fun _ _ => rfl⟩
theorem Upd.setCell {p : Nat} {a w : World} (h : Upd p a w) (o : Nat) (u : Value) : Upd p a (w.setCell ⟨p, o, none⟩ u) :=
  h.trans ⟨rfl, rfl, rfl, by simp [World.setCell], fun k hk => Below.heap_setCell _ _ _ _ hk⟩
theorem Upd.below {p B : Nat} {w w' : World} (h : Upd p w w') (hB : B ≤ p) : Below B w w' :=
  ⟨h.os, h.tape, h.output, Nat.le_of_eq h.size.symm, fun k hk => h.block k (by omega)⟩
theorem Upd.cell {p : Nat} {w w' : World} (h : Upd p w w') {a : Addr} (ha : a.block ≠ p) : w'.cell? a = w.cell? a := World.cell?_of_block (w := w) (h.block a.block ha)

/-- The cells of a slice of bytes. -/
def Bytes (w : World) (a : Option Addr) (len : Nat) : Prop := ∀ b off i, a = some ⟨b, off, i⟩ → ∀ j, j < len → ∃ x : Int, 0 ≤ x ∧ x ≤ 255 ∧ w.cell? ⟨b, off + j, none⟩ = some (.int .u8 x)

/-- A source of choices in block p, over the slice with this address, of which at most k have been taken. -/
structure Src (p : Nat) (a : Option Addr) (len cap : Nat) (w : World) (k : Nat) : Prop where
  c0 : w.cell? ⟨p, 0, none⟩ = some (.slice a len cap)
  c1 : ∃ at_ : Nat, at_ ≤ k ∧ w.cell? ⟨p, 1, none⟩ = some (.int .i64 at_)
  c2 : ∃ sd : Int, 0 ≤ sd ∧ w.cell? ⟨p, 2, none⟩ = some (.int .u64 sd)
  f1 : w.frozen? ⟨p, 1, none⟩ = false
  f2 : w.frozen? ⟨p, 2, none⟩ = false
  bytes : Bytes w a len
  apart : ∀ b off i, a = some ⟨b, off, i⟩ → 0 < len → i = none ∧ b < p
  some_ : len = 0 ∨ a.isSome = true

theorem Src.below {p : Nat} {a : Option Addr} {len cap : Nat} {w w' : World} {k B : Nat} (h : Src p a len cap w k) (hb : Below B w w') (hp : p < B) : Src p a len cap w' k := by
  obtain ⟨c0, ⟨at_, ha, c1⟩, ⟨sd, hs, c2⟩, f1, f2, hby, hap, hsm⟩ := h
  refine ⟨by rw [hb.cell hp]; exact c0, ⟨at_, ha, by rw [hb.cell hp]; exact c1⟩, ⟨sd, hs, by rw [hb.cell hp]; exact c2⟩, by rw [hb.frozen hp]; exact f1, by rw [hb.frozen hp]; exact f2, ?_, hap, hsm⟩
  intro b off i hab j hj
  obtain ⟨x, x0, x1, x2⟩ := hby b off i hab j hj
  exact ⟨x, x0, x1, by rw [hb.cell (by have := (hap b off i hab (by omega)).2; show b < B; omega)]; exact x2⟩

def NextPost (p at_ : Nat) (w : World) (e : Ending) (w' : World) : Prop :=
  ∃ (r sd : Int), e = .returned (.int .i64 r) ∧ 0 ≤ r ∧ r ≤ 255 ∧ 0 ≤ sd ∧ Upd p w w' ∧ w'.cell? ⟨p, 0, none⟩ = w.cell? ⟨p, 0, none⟩ ∧
    w'.cell? ⟨p, 1, none⟩ = some (.int .i64 ((at_ + 1 : Nat) : Int)) ∧ w'.cell? ⟨p, 2, none⟩ = some (.int .u64 sd) ∧ w'.frozen? ⟨p, 1, none⟩ = false ∧ w'.frozen? ⟨p, 2, none⟩ = false

theorem next_post {p at_ : Nat} {w : World} {r sd : Int} {a : Option Addr} {len cap : Nat} {y : Value} {z : Value} (n m : Nat) (hr0 : 0 ≤ r) (hr1 : r ≤ 255) (hs : 0 ≤ sd)
    (c0 : w.cell? ⟨p, 0, none⟩ = some (.slice a len cap)) (c1 : w.cell? ⟨p, 1, none⟩ = some y) (c2 : w.cell? ⟨p, 2, none⟩ = some z) (f1 : w.frozen? ⟨p, 1, none⟩ = false) (f2 : w.frozen? ⟨p, 2, none⟩ = false) :
    NextPost p at_ w (.returned (.int .i64 r)) ((((w.drewN n).setCell ⟨p, 1, none⟩ (.int .i64 ((at_ : Int) + 1))).setCell ⟨p, 2, none⟩ (.int .u64 sd)).drewN m) := by
  refine ⟨r, sd, rfl, hr0, hr1, hs, ((((Upd.refl p w).drewN _).setCell _ _).setCell _ _).drewN _, ?_, ?_, ?_, ?_, ?_⟩
  · show (((w.drewN n).setCell _ _).setCell _ _).cell? _ = _
    rw [World.cell?_setCell_other _ _ _ _ (by simp), World.cell?_setCell_other _ _ _ _ (by simp)]
    rfl
  · show (((w.drewN n).setCell _ _).setCell _ _).cell? _ = _
    rw [World.cell?_setCell_other _ _ _ _ (by simp), World.cell?_setCell_same _ _ _ (u := y) (by exact c1)]
    rfl
  · show (((w.drewN n).setCell _ _).setCell _ _).cell? _ = _
    rw [World.cell?_setCell_same _ _ _ (u := z)]
    rw [World.cell?_setCell_other _ _ _ _ (by simp)]
    exact c2
  · show (((w.drewN n).setCell _ _).setCell _ _).frozen? _ = _
    rw [World.frozen?_setCell, World.frozen?_setCell]
    exact f1
  · show (((w.drewN n).setCell _ _).setCell _ _).frozen? _ = _
    rw [World.frozen?_setCell, World.frozen?_setCell]
    exact f2

theorem wrap_u64_nonneg (x : Int) : 0 ≤ IntKind.u64.wrap x := by
  have : IntKind.u64.wrap x = x % 18446744073709551616 := rfl
  rw [this]
  exact Int.emod_nonneg _ (by decide)

theorem wrap_u64_lt (x : Int) : IntKind.u64.wrap x < 18446744073709551616 := by
  have : IntKind.u64.wrap x = x % 18446744073709551616 := rfl
  rw [this]
  exact Int.emod_lt_of_pos _ (by decide)

theorem byte_of (sd : Int) (h0 : 0 ≤ sd) (h1 : sd < 18446744073709551616) :
    0 ≤ wrap64 (bits .and .u64 (sd / 1099511627776) 255) ∧ wrap64 (bits .and .u64 (sd / 1099511627776) 255) ≤ 255 := by
  obtain ⟨k, hk⟩ := Int.eq_ofNat_of_zero_le (show 0 ≤ sd / 1099511627776 by omega)
  have h2 := bits_and_u64_nat k 255 (by omega) (by decide)
  have h3 : k &&& 255 ≤ 255 := Nat.and_le_right
  have e : bits .and .u64 (sd / 1099511627776) 255 = ((k &&& 255 : Nat) : Int) := by rw [hk]; exact h2
  rw [e]
  have e2 : wrap64 ((k &&& 255 : Nat) : Int) = ((k &&& 255 : Nat) : Int) := by
    generalize k &&& 255 = j at *
    unfold wrap64
    omega
  rw [e2]
  omega

theorem next_in {p : Nat} {b off len cap : Nat} {at_ : Nat} {seed x : Int} (w : World) (hat : at_ < len) (hl : len ≤ 2000000) (hs0 : 0 ≤ seed)
   (hx0 : 0 ≤ x) (hx1 : x ≤ 255)
   (c0 : w.cell? ⟨p, 0, none⟩ = some (.slice (some ⟨b, off, none⟩) len cap)) (c1 : w.cell? ⟨p, 1, none⟩ = some (.int .i64 at_)) (c2 : w.cell? ⟨p, 2, none⟩ = some (.int .u64 seed))
   (f1 : w.frozen? ⟨p, 1, none⟩ = false) (f2 : w.frozen? ⟨p, 2, none⟩ = false) (hb : w.cell? ⟨b, off + at_, none⟩ = some (.int .u8 x)) :
    Calls Try.prog 94 #[.pointer (some ⟨p, 0, none⟩)] w (NextPost p at_ w) := by
  have i1 : (0 : Int) ≤ (at_ : Int) := by omega
  have i2 : (at_ : Int) < (len : Int) := by omega
  have i3 : (len : Int) ≤ 2000000 := by omega
  go_enter Try.func94, Try.ntmps94
  go_wp2_with fail
  go_quiet (fail)
  go_wp2_with fail
  go_quiet (fail)
  go_wp2_with fail
  have hsd := wrap_u64_nonneg (IntKind.u64.wrap (IntKind.u64.wrap (seed * 6364136223846793005) + x) + 1442695040888963407)
  generalize IntKind.u64.wrap (IntKind.u64.wrap (IntKind.u64.wrap (seed * 6364136223846793005) + x) + 1442695040888963407) = sd at *
  go_quiet (fail)
  go_wp2
  go_ret
  exact next_post _ _ hx0 hx1 hsd c0 c1 c2 f1 f2

theorem next_out {p : Nat} {a : Option Addr} {len cap : Nat} {at_ : Nat} {seed : Int} (w : World) (hat : len ≤ at_) (hl : at_ ≤ 2000000) (hs0 : 0 ≤ seed)
   (c0 : w.cell? ⟨p, 0, none⟩ = some (.slice a len cap)) (c1 : w.cell? ⟨p, 1, none⟩ = some (.int .i64 at_)) (c2 : w.cell? ⟨p, 2, none⟩ = some (.int .u64 seed))
   (f1 : w.frozen? ⟨p, 1, none⟩ = false) (f2 : w.frozen? ⟨p, 2, none⟩ = false) :
    Calls Try.prog 94 #[.pointer (some ⟨p, 0, none⟩)] w (NextPost p at_ w) := by
  have i1 : (0 : Int) ≤ (at_ : Int) := by omega
  have i2 : (len : Int) ≤ (at_ : Int) := by omega
  have i3 : (at_ : Int) ≤ 2000000 := by omega
  have d1 : decide (at_ < len) = false := by simp; omega
  go_enter Try.func94, Try.ntmps94
  go_wp2_with fail
  go_quiet (fail)
  go_wp2_with fail
  have hsd := wrap_u64_nonneg (IntKind.u64.wrap (IntKind.u64.wrap (seed * 6364136223846793005)) + 1442695040888963407)
  have hsd2 := Lib.hid (wrap_u64_lt (IntKind.u64.wrap (IntKind.u64.wrap (seed * 6364136223846793005)) + 1442695040888963407))
  generalize IntKind.u64.wrap (IntKind.u64.wrap (IntKind.u64.wrap (seed * 6364136223846793005)) + 1442695040888963407) = sd at *
  go_quiet (fail)
  go_wp2
  go_ret
  exact next_post _ _ (byte_of sd hsd hsd2.out).1 (byte_of sd hsd hsd2.out).2 hsd c0 c1 c2 f1 f2

def Drawn (p : Nat) (a : Option Addr) (len cap : Nat) (k : Nat) (n : Int) (w : World) (e : Ending) (w' : World) : Prop :=
  ∃ r : Int, e = .returned (.int .i64 r) ∧ 0 ≤ r ∧ r < n ∧ Upd p w w' ∧ Src p a len cap w' k

theorem next_src {p : Nat} {a : Option Addr} {len cap : Nat} {w : World} {k : Nat} (h : Src p a len cap w k) (hk : k ≤ 900000) (hl : len ≤ 2000000) :
    Calls Try.prog 94 #[.pointer (some ⟨p, 0, none⟩)] w (Drawn p a len cap (k + 1) 256 w) := by
  obtain ⟨c0, ⟨at_, ha, c1⟩, ⟨sd, hs, c2⟩, f1, f2, hb, hap, hsm⟩ := h
  have fin : ∀ (e : Ending) (w' : World), NextPost p at_ w e w' → Drawn p a len cap (k + 1) 256 w e w' := by
    intro e w' ⟨r, sd', he, h0, h1, hs', hu, k0, k1, k2, g1, g2⟩
    refine ⟨r, he, h0, by omega, hu, by rw [k0]; exact c0, ⟨at_ + 1, by omega, k1⟩, ⟨sd', hs', k2⟩, g1, g2, ?_, hap, hsm⟩
    intro b off i hab j hj
    obtain ⟨x, x0, x1, x2⟩ := hb b off i hab j hj
    exact ⟨x, x0, x1, by rw [hu.cell (by have := (hap b off i hab (by omega)).2; show b ≠ p; omega)]; exact x2⟩
  by_cases hlt : at_ < len
  · have hsa : a.isSome = true := by rcases hsm with h | h; omega; exact h
    obtain ⟨⟨b, off, i⟩, hab⟩ := Option.isSome_iff_exists.1 hsa
    obtain ⟨rfl, hne⟩ := hap b off i hab (by omega)
    obtain ⟨x, x0, x1, x2⟩ := hb b off none hab at_ hlt
    rw [hab] at c0
    exact (next_in w hlt hl hs x0 x1 c0 c1 c2 f1 f2 x2).mono fin
  · exact (next_out w (by omega) (by omega) hs c0 c1 c2 f1 f2).mono fin

theorem pick_src {p : Nat} {a : Option Addr} {len cap : Nat} {w : World} {k : Nat} (h : Src p a len cap w k) (hk : k ≤ 900000) (hl : len ≤ 2000000) (n : Int) (h1 : 1 < n) (h2 : n ≤ 200) :
    Calls Try.prog 51 #[.pointer (some ⟨p, 0, none⟩), .int .i64 n] w (Drawn p a len cap (k + 1) n w) := by
  have p1 := next_src h hk hl
  have d1 : ¬ n ≤ 1 := by omega
  clear h
  go_enter Try.func51, Try.ntmps51
  go_wp2_with fail
  refine p1.mono ?_; rintro e w1 ⟨r, rfl, r0, r1, hu, hs⟩
  go_wp2
  go_ret
  exact ⟨_, rfl, Int.emod_nonneg _ (by omega), Int.emod_lt_of_pos _ (by omega), hu, hs⟩


/-! ## Quotients of small integers -/

def val32 (w : Nat) : Option Rat := match Ieee.single.read w with
  | .number s m e => some (dval s m e)
  | _ => none
theorem V32_of {w : Nat} {v : Rat} (h : val32 w = some v) : V32 w v := by
  unfold val32 at h
  split at h
  · rename_i s m e he
    simp only [Option.some.injEq] at h
    exact ⟨s, m, e, he, h.symm⟩
  · cases h

def div32 (n : Int) (d : Nat) : Nat := (fb .quo .f32 (floatOfInt .f32 n) d).getD 0
/-- Eighths, halves and quarters of small integers. -/
def d8 (n : Int) : Nat := div32 n 1090519040
def d2 (n : Int) : Nat := div32 n 1073741824
def d4 (n : Int) : Nat := div32 n 1082130432

def divOk (n : Int) (d : Nat) (q : Rat) : Bool := decide (fb .quo .f32 (floatOfInt .f32 n) d = some (div32 n d)) && decide (val32 (div32 n d) = some q)
theorem tab8 : (List.range 320).all (fun n => divOk ((n : Int) - 64) 1090519040 ((((n : Int) - 64 : Int) : Rat) / 8)) = true := by decide +kernel
theorem tab2 : (List.range 16).all (fun n => divOk ((n : Int) - 8) 1073741824 ((((n : Int) - 8 : Int) : Rat) / 2)) = true := by decide +kernel
theorem tab4 : (List.range 16).all (fun n => divOk ((n : Int) - 0) 1082130432 ((((n : Int) - 0 : Int) : Rat) / 4)) = true := by decide +kernel

theorem divOk_of {N : Nat} {off : Int} {d : Nat} {q : Rat} (h : (List.range N).all (fun n => divOk ((n : Int) - off) d ((((n : Int) - off : Int) : Rat) / q)) = true) (n : Int) (h0 : 0 ≤ n + off) (h1 : n + off < N) :
    fb .quo .f32 (floatOfInt .f32 n) d = some (div32 n d) ∧ V32 (div32 n d) ((n : Rat) / q) := by
  rw [List.all_eq_true] at h
  have h2 := h (n + off).toNat (List.mem_range.2 (by omega))
  have e : (((n + off).toNat : Int) - off) = n := by omega
  rw [e] at h2
  unfold divOk at h2
  simp only [Bool.and_eq_true, decide_eq_true_eq] at h2
  exact ⟨h2.1, V32_of h2.2⟩

theorem d8_ok (n : Int) (h0 : -64 ≤ n) (h1 : n < 256) : fb .quo .f32 (floatOfInt .f32 n) 1090519040 = some (d8 n) ∧ V32 (d8 n) ((n : Rat) / 8) := divOk_of tab8 n (by omega) (by omega)
theorem d2_ok (n : Int) (h0 : -8 ≤ n) (h1 : n < 8) : fb .quo .f32 (floatOfInt .f32 n) 1073741824 = some (d2 n) ∧ V32 (d2 n) ((n : Rat) / 2) := divOk_of tab2 n (by omega) (by omega)
theorem d4_ok (n : Int) (h0 : 0 ≤ n) (h1 : n < 16) : fb .quo .f32 (floatOfInt .f32 n) 1082130432 = some (d4 n) ∧ V32 (d4 n) ((n : Rat) / 4) := divOk_of tab4 n (by omega) (by omega)

end Go.Proofs.Ytgeiaafdholcbaa
