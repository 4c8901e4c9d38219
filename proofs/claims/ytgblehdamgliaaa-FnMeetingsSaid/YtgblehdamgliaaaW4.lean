/-
  The walks of the exported pushers at valid particles and finite numbers.
-/
import Derived.Test.YtgblehdamgliaaaW3
set_option linter.unusedVariables false
set_option linter.unusedSimpArgs false
namespace Go.Proofs.Ytgblehdamgliaaa
open Go.RowKit FT

/-- A valid particle's words. -/
structure PW (ax ay sx sy ch ms : Nat) : Prop where
  ax : ∃ v, V32 ax v
  ay : ∃ v, V32 ay v
  sx : ∃ v, V32 sx v
  sy : ∃ v, V32 sy v
  ch : ∃ v, V32 ch v
  ms : ∃ v, V32 ms v ∧ 0 < v

theorem PW.valid {ax ay sx sy ch ms : Nat} (h : PW ax ay sx sy ch ms) (w : World) :
    Calls Try.prog 35 #[.agg #[.complex .f32 ax ay, .complex .f32 sx sy, .float .f32 ch, .float .f32 ms]] w fun e w' => e = .returned (.bool true) ∧ Below w.heap.size w w' := by
  obtain ⟨⟨_, h1⟩, ⟨_, h2⟩, ⟨_, h3⟩, ⟨_, h4⟩, ⟨_, h5⟩, ⟨_, h6, h7⟩⟩ := h
  exact Valid_walk h1 h2 h3 h4 h5 h6 h7 w

theorem keepB {B : Nat} {w w0 w1 : World} {a b c d : Value} (h : w0.cell? ⟨B, 0, none⟩ = some a ∧ w0.cell? ⟨B, 1, none⟩ = some b ∧ w0.cell? ⟨B, 2, none⟩ = some c ∧ w0.cell? ⟨B, 3, none⟩ = some d ∧ B + 1 ≤ w0.heap.size ∧ Below B w w0)
    (hb : Below w0.heap.size w0 w1) : w1.cell? ⟨B, 0, none⟩ = some a ∧ w1.cell? ⟨B, 1, none⟩ = some b ∧ w1.cell? ⟨B, 2, none⟩ = some c ∧ w1.cell? ⟨B, 3, none⟩ = some d ∧ B + 1 ≤ w1.heap.size ∧ Below B w w1 := by
  obtain ⟨h0, h1, h2, h3, hs, hB⟩ := h
  have hc := (bcell hb).1
  have hz := hb.size
  refine ⟨?_, ?_, ?_, ?_, by omega, hB.trans (hb.mono (by omega))⟩
  · rw [hc _ _ (by omega)]; exact h0
  · rw [hc _ _ (by omega)]; exact h1
  · rw [hc _ _ (by omega)]; exact h2
  · rw [hc _ _ (by omega)]; exact h3

set_option maxHeartbeats 1000000 in
theorem TurnOf_walk {ax ay sx sy ch ms mg tk re im : Nat} {u v x y : Rat} (hp : PW ax ay sx sy ch ms) (h : turnB ch ms mg tk = some (re, im)) (hr : V32 re u) (hi : V32 im v) (hg : V32 mg x) (ht : V32 tk y) (w : World) :
    Calls Try.prog 10 #[.agg #[.complex .f32 ax ay, .complex .f32 sx sy, .float .f32 ch, .float .f32 ms], .float .f32 mg, .float .f32 tk] w fun e w' => e = .returned (.tuple #[.complex .f32 re im, .bool true]) ∧ Below w.heap.size w w' := by
  have p1 := fun w => turn_walk (ax := ax) (ay := ay) (sx := sx) (sy := sy) h w
  have p2 := fun w => hp.valid w
  have p3 := fun w b hx hy => areFinite_walk hg ht w b hx hy
  have p4 := fun w => finiteComplex_walk hr hi w
  clear hp h hr hi hg ht
  go_enter Try.func10, Try.ntmps10
  go_wp2_with fail
  go_region_held3 (fun w' => w'.cell? ⟨w.heap.size, 0, none⟩ = some (.complex .f32 ax ay) ∧ w'.cell? ⟨w.heap.size, 1, none⟩ = some (.complex .f32 sx sy) ∧ w'.cell? ⟨w.heap.size, 2, none⟩ = some (.float .f32 ch) ∧ w'.cell? ⟨w.heap.size, 3, none⟩ = some (.float .f32 ms) ∧ w.heap.size + 1 ≤ w'.heap.size ∧ Below w.heap.size w w')
    (first
      | exact ⟨by simp, by simp, by simp, by simp, by simp, ((Below.refl _ _).alloc (Nat.le_refl _) _).drew⟩
      | assumption
      | exact keepB ‹_› ‹_›
      | exact keepB ‹_› ((Below.refl _ _).alloc (Nat.le_refl _) _))
    (first
      | (go_at_call 34; refine (p1 _).mono ?_; rintro e w1 ⟨rfl, hb1⟩)
      | (go_at_call 35; refine (p2 _).mono ?_; rintro e w1 ⟨rfl, hb1⟩)
      | (go_at_call 36; refine (p3 _ _ (by simp) (by simp)).mono ?_; rintro e w1 ⟨rfl, rfl⟩)
      | (go_at_call 33; refine (p4 _).mono ?_; rintro e w1 ⟨rfl, rfl⟩))
  go_wp2
  rename_i hH
  go_ret2
  exact ⟨rfl, hH.2.2.2.2.2⟩

set_option maxHeartbeats 1000000 in
theorem PushSpeed_walk {ax ay sx sy ch ms fr fi mg tk re im : Nat} {u v x y f g : Rat} (hp : PW ax ay sx sy ch ms) (h : pushB sx sy ch ms fr fi mg tk = some (re, im)) (hr : V32 re u) (hi : V32 im v) (hg : V32 mg x) (ht : V32 tk y) (hf : V32 fr f) (hf' : V32 fi g) (w : World) :
    Calls Try.prog 11 #[.agg #[.complex .f32 ax ay, .complex .f32 sx sy, .float .f32 ch, .float .f32 ms], .complex .f32 fr fi, .float .f32 mg, .float .f32 tk] w fun e w' => e = .returned (.tuple #[.complex .f32 re im, .bool true]) ∧ Below w.heap.size w w' := by
  have p1 := fun w => push_walk (ax := ax) (ay := ay) h w
  have p2 := fun w => hp.valid w
  have p3 := fun w b hx hy => areFinite_walk hg ht w b hx hy
  have p4 := fun w => finiteComplex_walk hr hi w
  have p5 := fun w => IsFiniteComplex_walk hf hf' w
  clear hp h hr hi hg ht hf hf'
  go_enter Try.func11, Try.ntmps11
  go_wp2_with fail
  go_region_held3 (fun w' => w'.cell? ⟨w.heap.size, 0, none⟩ = some (.complex .f32 ax ay) ∧ w'.cell? ⟨w.heap.size, 1, none⟩ = some (.complex .f32 sx sy) ∧ w'.cell? ⟨w.heap.size, 2, none⟩ = some (.float .f32 ch) ∧ w'.cell? ⟨w.heap.size, 3, none⟩ = some (.float .f32 ms) ∧ w.heap.size + 1 ≤ w'.heap.size ∧ Below w.heap.size w w')
    (first
      | exact ⟨by simp, by simp, by simp, by simp, by simp, ((Below.refl _ _).alloc (Nat.le_refl _) _).drew⟩
      | assumption
      | exact keepB ‹_› ‹_›
      | exact keepB ‹_› ((Below.refl _ _).alloc (Nat.le_refl _) _))
    (first
      | (go_at_call 37; refine (p1 _).mono ?_; rintro e w1 ⟨rfl, hb1⟩)
      | (go_at_call 35; refine (p2 _).mono ?_; rintro e w1 ⟨rfl, hb1⟩)
      | (go_at_call 38; refine (p5 _).mono ?_; rintro e w1 ⟨rfl, rfl⟩)
      | (go_at_call 36; refine (p3 _ _ (by simp) (by simp)).mono ?_; rintro e w1 ⟨rfl, rfl⟩)
      | (go_at_call 33; refine (p4 _).mono ?_; rintro e w1 ⟨rfl, rfl⟩))
  go_wp2
  rename_i hH
  go_ret2
  exact ⟨rfl, hH.2.2.2.2.2⟩

set_option maxHeartbeats 1000000 in
theorem KickOf_walk {ax ay sx sy ch ms fr fi tk re im : Nat} {u v y f g : Rat} (hp : PW ax ay sx sy ch ms) (h : kickB ch ms fr fi tk = some (re, im)) (hr : V32 re u) (hi : V32 im v) (ht : V32 tk y) (hf : V32 fr f) (hf' : V32 fi g) (w : World) :
    Calls Try.prog 17 #[.agg #[.complex .f32 ax ay, .complex .f32 sx sy, .float .f32 ch, .float .f32 ms], .complex .f32 fr fi, .float .f32 tk] w fun e w' => e = .returned (.tuple #[.complex .f32 re im, .bool true]) ∧ Below w.heap.size w w' := by
  have p1 := fun w => kick_walk (ax := ax) (ay := ay) (sx := sx) (sy := sy) h w
  have p2 := fun w => hp.valid w
  have p3 := fun w => IsFinite_walk ht w
  have p4 := fun w => finiteComplex_walk hr hi w
  have p5 := fun w => IsFiniteComplex_walk hf hf' w
  clear hp h hr hi ht hf hf'
  go_enter Try.func17, Try.ntmps17
  go_wp2_with fail
  go_region_held3 (fun w' => w'.cell? ⟨w.heap.size, 0, none⟩ = some (.complex .f32 ax ay) ∧ w'.cell? ⟨w.heap.size, 1, none⟩ = some (.complex .f32 sx sy) ∧ w'.cell? ⟨w.heap.size, 2, none⟩ = some (.float .f32 ch) ∧ w'.cell? ⟨w.heap.size, 3, none⟩ = some (.float .f32 ms) ∧ w.heap.size + 1 ≤ w'.heap.size ∧ Below w.heap.size w w')
    (first
      | exact ⟨by simp, by simp, by simp, by simp, by simp, ((Below.refl _ _).alloc (Nat.le_refl _) _).drew⟩
      | assumption
      | exact keepB ‹_› ‹_›
      | exact keepB ‹_› ((Below.refl _ _).alloc (Nat.le_refl _) _))
    (first
      | (go_at_call 44; refine (p1 _).mono ?_; rintro e w1 ⟨rfl, hb1⟩)
      | (go_at_call 35; refine (p2 _).mono ?_; rintro e w1 ⟨rfl, hb1⟩)
      | (go_at_call 38; refine (p5 _).mono ?_; rintro e w1 ⟨rfl, rfl⟩)
      | (go_at_call 43; refine (p3 _).mono ?_; rintro e w1 ⟨rfl, rfl⟩)
      | (go_at_call 33; refine (p4 _).mono ?_; rintro e w1 ⟨rfl, rfl⟩))
  go_wp2
  rename_i hH
  go_ret2
  exact ⟨rfl, hH.2.2.2.2.2⟩

set_option maxHeartbeats 1000000 in
theorem PullOf_walk {ax ay sx sy ch ms r : Nat} {u : Rat} (hp : PW ax ay sx sy ch ms) (h : pullB ch ms = some r) (hr : V32 r u) (w : World) :
    Calls Try.prog 18 #[.agg #[.complex .f32 ax ay, .complex .f32 sx sy, .float .f32 ch, .float .f32 ms]] w fun e w' => e = .returned (.tuple #[.float .f32 r, .bool true]) ∧ Below w.heap.size w w' := by
  have p1 := fun w => pull_walk (ax := ax) (ay := ay) (sx := sx) (sy := sy) h w
  have p2 := fun w => hp.valid w
  have p4 := fun w => finite_walk hr w
  clear hp h hr
  go_enter Try.func18, Try.ntmps18
  go_wp2_with fail
  go_region_held3 (fun w' => w'.cell? ⟨w.heap.size, 0, none⟩ = some (.complex .f32 ax ay) ∧ w'.cell? ⟨w.heap.size, 1, none⟩ = some (.complex .f32 sx sy) ∧ w'.cell? ⟨w.heap.size, 2, none⟩ = some (.float .f32 ch) ∧ w'.cell? ⟨w.heap.size, 3, none⟩ = some (.float .f32 ms) ∧ w.heap.size + 1 ≤ w'.heap.size ∧ Below w.heap.size w w')
    (first
      | exact ⟨by simp, by simp, by simp, by simp, by simp, ((Below.refl _ _).alloc (Nat.le_refl _) _).drew⟩
      | assumption
      | exact keepB ‹_› ‹_›
      | exact keepB ‹_› ((Below.refl _ _).alloc (Nat.le_refl _) _))
    (first
      | (go_at_call 46; refine (p1 _).mono ?_; rintro e w1 ⟨rfl, hb1⟩)
      | (go_at_call 35; refine (p2 _).mono ?_; rintro e w1 ⟨rfl, hb1⟩)
      | (go_at_call 45; refine (p4 _).mono ?_; rintro e w1 ⟨rfl, rfl⟩))
  go_wp2
  rename_i hH
  go_ret2
  exact ⟨rfl, hH.2.2.2.2.2⟩

theorem CrossSpeed_walk {fr fi mg re im : Nat} {u v x f g : Rat} (h : quoC fr fi 0 mg = some (re, im)) (hr : V32 re u) (hi : V32 im v) (hg : V32 mg x) (hf : V32 fr f) (hf' : V32 fi g) (w : World) :
    Calls Try.prog 16 #[.complex .f32 fr fi, .float .f32 mg] w fun e w' => e = .returned (.tuple #[.complex .f32 re im, .bool true]) ∧ w = w' := by
  have p1 := fun w => quoC_walk h w
  have p2 := fun w => IsFiniteComplex_walk hf hf' w
  have p3 := fun w => IsFinite_walk hg w
  have p4 := fun w => finiteComplex_walk hr hi w
  clear h hr hi hg hf hf'
  go_enter Try.func16, Try.ntmps16
  go_wp2_with fail
  refine (p1 _).mono ?_; rintro e w1 ⟨rfl, rfl⟩
  go_wp2_with fail
  refine (p2 _).mono ?_; rintro e w1 ⟨rfl, rfl⟩
  go_wp2_with fail
  refine (p3 _).mono ?_; rintro e w1 ⟨rfl, rfl⟩
  go_wp2_with fail
  refine (p4 _).mono ?_; rintro e w1 ⟨rfl, rfl⟩
  go_wp2
  go_ret2
  exact ⟨rfl, rfl⟩

end Go.Proofs.Ytgblehdamgliaaa
