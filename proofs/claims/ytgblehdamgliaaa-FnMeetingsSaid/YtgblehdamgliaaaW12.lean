/-
  The walk of an orbit of six steps.
-/
import Derived.Test.YtgblehdamgliaaaW11
import Derived.Maps.AppendAt
import Derived.WalkKit
import Derived.StillTailTactics
set_option linter.unusedVariables false
set_option linter.unusedSimpArgs false
namespace Go.Proofs.Ytgblehdamgliaaa
open Go.RowKit FT

/-- The places and speeds of an orbit of six steps. -/
structure Orb (ax ay sx sy ch ms mg tk : Nat) (X Y U V : Nat → Nat) : Prop where
  x0 : X 0 = ax
  y0 : Y 0 = ay
  u0 : U 0 = sx
  v0 : V 0 = sy
  push : ∀ k, k < 6 → pushB (U k) (V k) ch ms 0 0 mg tk = some (U (k + 1), V (k + 1))
  step : ∀ k, k < 6 → ∃ p q, scaleC (U (k + 1)) (V (k + 1)) tk = some (p, q) ∧ plusC (X k) (Y k) p q = some (X (k + 1), Y (k + 1))
  fin : ∀ k, k ≤ 6 → (∃ v, V32 (X k) v) ∧ (∃ v, V32 (Y k) v) ∧ (∃ v, V32 (U k) v) ∧ (∃ v, V32 (V k) v)

/-- The first k places behind the start, as cells. -/
def placed (X Y : Nat → Nat) (k : Nat) : List Value := (List.range k).map fun i => .complex .f32 (X (i + 1)) (Y (i + 1))
theorem placed_succ (X Y : Nat → Nat) (k : Nat) : placed X Y (k + 1) = placed X Y k ++ [.complex .f32 (X (k + 1)) (Y (k + 1))] := by
  unfold placed
  rw [List.range_succ, List.map_append]
  rfl

theorem Has4.set0 {w : World} {B : Nat} {v0 v1 v2 v3 : Value} (h : Has4 w B v0 v1 v2 v3) (u : Value) : Has4 (w.setCell ⟨B, 0, none⟩ u) B u v1 v2 v3 := by
  obtain ⟨h0, h1, h2, h3, g0, g1, g2, g3⟩ := h
  refine ⟨World.cell?_setCell_same _ _ _ h0, ?_, ?_, ?_, ?_, ?_, ?_, ?_⟩
  all_goals first
    | (rw [World.frozen?_setCell]; assumption)
    | (rw [World.cell?_setCell_other _ _ _ _ (by simp)]; assumption)

theorem infoC : (Try.prog.info? 24).map (fun i => (i.zero, i.size, i.bytes)) = some (some (.complex .f32 0 0), 1, 8) := by kernel_rfl

theorem row_below {w w' : World} {base : Nat} {e : TypeId} {size : Nat} {v : Value} {n : Nat} {xs : List Value} (h : w.ownsRow base e size v n xs) (hb : Below w.heap.size w w') : w'.ownsRow base e size v n xs :=
  h.kept (row := none) ⟨hb.os, hb.tape, hb.output, hb.size, fun i hi _ => hb.block i hi⟩ (by cases hv : v.ownBlock <;> simp)
theorem row_set {w : World} {base : Nat} {e : TypeId} {size : Nat} {v : Value} {n : Nat} {xs : List Value} (h : w.ownsRow base e size v n xs) {b : Nat} (hb : b < base) (o : Nat) (u : Value) : (w.setCell ⟨b, o, none⟩ u).ownsRow base e size v n xs :=
  h.kept (row := some b) ⟨rfl, rfl, rfl, by simp, fun i hi hne => Below.heap_setCell _ _ _ _ (by intro h; exact hne (by rw [h]))⟩ (by
    right
    intro hv
    have := (h.lt b hv).1
    omega)

structure OrbR (ch ms : Nat) (X Y U V : Nat → Nat) (w : World) (k : Nat) (v : Value) (wr : World) : Prop where
  p : Has4 wr w.heap.size (.complex .f32 (X k) (Y k)) (.complex .f32 (U k) (V k)) (.float .f32 ch) (.float .f32 ms)
  row : wr.ownsRow (w.heap.size + 1) 24 1 v k (placed X Y k)
  low : Below w.heap.size w wr
  size : w.heap.size + 1 ≤ wr.heap.size

set_option maxRecDepth 100000 in
set_option maxHeartbeats 2000000 in
theorem Orbit_walk {ax ay sx sy ch ms mg tk : Nat} {X Y U V : Nat → Nat} {x y : Rat} (hp : PW ax ay sx sy ch ms) (h : Orb ax ay sx sy ch ms mg tk X Y U V) (hg : V32 mg x) (ht : V32 tk y) (w : World) :
    Calls Try.prog 19 #[.agg #[.complex .f32 ax ay, .complex .f32 sx sy, .float .f32 ch, .float .f32 ms], .complex .f32 0 0, .float .f32 mg, .float .f32 tk, .int .i64 6] w fun e w' => ∃ b cap, e = .returned (.tuple #[.slice (some ⟨b, 0, none⟩) 6 cap, .bool true]) ∧ Below w.heap.size w w' ∧ w.heap.size ≤ b ∧ b < w'.heap.size ∧ ∀ i, i < 6 → w'.cell? ⟨b, i, none⟩ = some (.complex .f32 (X (i + 1)) (Y (i + 1))) := by
  have p1 := fun w => hp.valid w
  have p2 := fun w => IsFiniteComplex_walk zero32 zero32 w
  have p3 := fun w b hx hy => areFinite_walk hg ht w b hx hy
  have p4 := fun w => isSteps_walk w
  have H := Lib.hid h
  have e0 := h.x0
  have e1 := h.y0
  have e2 := h.u0
  have e3 := h.v0
  subst e0 e1 e2 e3
  obtain ⟨i0, hi, hz0, hz1, hz2⟩ := info_parts infoC
  clear hp h hg ht
  go_enter Try.func19, Try.ntmps19
  go_wp2_with fail
  refine (p1 _).mono ?_; rintro e w1 ⟨rfl, hb1⟩
  have HV1 := Lib.hid ((Has4.new w (.complex .f32 (X 0) (Y 0)) (.complex .f32 (U 0) (V 0)) (.float .f32 ch) (.float .f32 ms) 27).below hb1 (by simp))
  have HB1 := Lib.hid (((Below.refl w.heap.size w).alloc (Nat.le_refl _) _).trans (hb1.mono (by simp)))
  have HZ1 : Hid (w.heap.size < w1.heap.size) := Lib.hid (by have := hb1.size; simp at this; omega)
  clear hb1
  go_wp2_with fail
  refine (p2 _).mono ?_; rintro e w' ⟨rfl, rfl⟩
  go_wp2_with fail
  refine (p3 _ _ (by simp) (by simp)).mono ?_; rintro e w' ⟨rfl, rfl⟩
  go_wp2_with fail
  refine (p4 _).mono ?_; rintro e w' ⟨rfl, rfl⟩
  go_wp2_with fail
  go_loopw [12, 34] (fun v i wr => ∃ k : Nat, k ≤ 6 ∧ i = .int .i64 k ∧ OrbR ch ms X Y U V w k v wr) (fun _ i _ => 6 - (intOf i).toNat)
  case atStart => 
    refine ⟨0, by omega, rfl, HV1.out.below ((Below.refl w1.heap.size _).alloc (Nat.le_refl _) _) HZ1.out, World.ownsRow_nil _ _ _ _, HB1.out.alloc HB1.out.size _, ?_⟩
    have := HZ1.out
    simp; omega
  case round =>
    obtain ⟨k, hk, rfl, hR⟩ := hrel
    clear HV1 HB1 HZ1
    rcases Nat.lt_or_ge k 6 with hlt | hge
    · have i1 : (k : Int) < 6 := by omega
      have pp := fun w => push_walk (ax := X k) (ay := Y k) (H.out.push k hlt) w
      obtain ⟨p, q, hsc, hpl⟩ := H.out.step k hlt
      have ps := fun w => scaleC_walk hsc w
      have pl := fun w => plusC_walk hpl w
      obtain ⟨k0, k1, k2, k3, g0, g1, g2, g3⟩ := hR.p
      go_wp2_with fail
      refine (pp _).mono ?_; rintro e w2 ⟨rfl, hb2⟩
      have hP2 := hR.p.below hb2 hR.size
      have hr2 := row_below hR.row hb2
      have hB2 := hR.low.trans (hb2.mono hR.low.size)
      have hz2 : w.heap.size + 1 ≤ w2.heap.size := Nat.le_trans hR.size hb2.size
      clear hR hb2 k0 k1 k2 k3 g0 g1 g2 g3
      obtain ⟨k0, k1, k2, k3, g0, g1, g2, g3⟩ := hP2
      go_wp2_with fail
      have hP3 : Has4 (w2.setCell ⟨w.heap.size, 1, none⟩ (.complex .f32 (U (k + 1)) (V (k + 1)))) w.heap.size _ _ _ _ := Has4.set1 ⟨k0, k1, k2, k3, g0, g1, g2, g3⟩ _
      have hr3 := row_set hr2 (Nat.lt_succ_self _) 1 (.complex .f32 (U (k + 1)) (V (k + 1)))
      have hB3 := hB2.setCell (p := ⟨w.heap.size, 1, none⟩) (Nat.le_refl _) (.complex .f32 (U (k + 1)) (V (k + 1)))
      have hz3 : w.heap.size + 1 ≤ (w2.setCell ⟨w.heap.size, 1, none⟩ (.complex .f32 (U (k + 1)) (V (k + 1)))).heap.size := by simpa using hz2
      clear hr2 hB2 hz2 k0 k1 k2 k3 g0 g1 g2 g3
      generalize w2.setCell ⟨w.heap.size, 1, none⟩ (.complex .f32 (U (k + 1)) (V (k + 1))) = w3 at *
      obtain ⟨k0, k1, k2, k3, g0, g1, g2, g3⟩ := hP3
      refine wp_region_still_tail 8 (by kernel_rfl) (by kernel_rfl) ?_
      simp only [List.take_succ_cons, List.take_zero, List.drop_succ_cons, List.drop_zero]
      change wpStill _ _ w3.drew (fun a' => wpList _ _ _ _ a' w3.drew) _ _
      have hP4 : Has4 w3.drew w.heap.size _ _ _ _ := Has4.block ⟨k0, k1, k2, k3, g0, g1, g2, g3⟩ rfl
      have hr4 : w3.drew.ownsRow _ _ _ _ _ _ := hr3
      have hB4 := hB3.drew
      have hz4 : w.heap.size + 1 ≤ w3.drew.heap.size := hz3
      clear hr3 hB3 hz3 k0 k1 k2 k3 g0 g1 g2 g3
      generalize w3.drew = w4 at *
      obtain ⟨k0, k1, k2, k3, g0, g1, g2, g3⟩ := hP4
      repeat still_step
      still_call ((ps _).mono (fun e w' ⟨h1, h2⟩ => ⟨h1, h2.symm⟩))
      repeat still_step
      still_call ((pl _).mono (fun e w' ⟨h1, h2⟩ => ⟨h1, h2.symm⟩))
      repeat still_step
      refine wpStill_nil ?_
      obtain ⟨⟨_, fx⟩, ⟨_, fy⟩, ⟨_, fu⟩, ⟨_, fv⟩⟩ := H.out.fin (k + 1) hlt
      have pf1 := fun w => IsFiniteComplex_walk fu fv w
      have pf2 := fun w => IsFiniteComplex_walk fx fy w
      clear fx fy fu fv pp ps pl hsc hpl
      go_wp2_with fail
      have hP5 : Has4 (w4.setCell ⟨w.heap.size, 0, none⟩ (.complex .f32 (X (k + 1)) (Y (k + 1)))) w.heap.size _ _ _ _ := Has4.set0 ⟨k0, k1, k2, k3, g0, g1, g2, g3⟩ _
      have hr5 := row_set hr4 (Nat.lt_succ_self _) 0 (.complex .f32 (X (k + 1)) (Y (k + 1)))
      have hB5 := hB4.setCell (p := ⟨w.heap.size, 0, none⟩) (Nat.le_refl _) (.complex .f32 (X (k + 1)) (Y (k + 1)))
      have hz5 : w.heap.size + 1 ≤ (w4.setCell ⟨w.heap.size, 0, none⟩ (.complex .f32 (X (k + 1)) (Y (k + 1)))).heap.size := by simpa using hz4
      clear hr4 hB4 hz4 k0 k1 k2 k3 g0 g1 g2 g3
      generalize w4.setCell ⟨w.heap.size, 0, none⟩ (.complex .f32 (X (k + 1)) (Y (k + 1))) = w5 at *
      have HP5 := Lib.hid hP5
      obtain ⟨k0, k1, k2, k3, g0, g1, g2, g3⟩ := hP5
      refine (pf1 _).mono ?_; rintro e w6 ⟨rfl, rfl⟩
      go_wp2_with fail
      refine (pf2 _).mono ?_; rintro e w6 ⟨rfl, rfl⟩
      go_wp2_with (first
        | (at_builtin; refine wpList_append_own_at _ rfl _ _ 43 rfl (w.heap.size + 1) 24 i0 (.complex .f32 0 0) 1 8 Try.underlying43 hi hz0 hz1 hz2 rfl (by decide) _ _ _ rfl (hr5.alloc _) ⟨w5.heap.size, 0, none⟩ 1 1 [.complex .f32 (X (k + 1)) (Y (k + 1))] rfl rfl (cell_one_new _ _ _) (by intro u hu; simp at hu; subst hu; rfl) (by unfold maxLen; omega) (by omega) (by simp; omega) ?_; intro v' w7 hown' hgrow hnil hat)
        | go_in)
      have s1 := hgrow.size
      simp at s1
      go_roundw
      case rel =>
        refine ⟨k + 1, by omega, by simp, ?_, ?_, ?_, by omega⟩
        · refine Has4.block (w := w5.alloc (.cells #[.complex .f32 (X (k + 1)) (Y (k + 1))] 24)) (HP5.out.below ((Below.refl w5.heap.size _).alloc (Nat.le_refl _) _) (by omega)) ?_
          refine hgrow.block _ (by simp; omega) ?_
          intro hh
          have := (hr5.lt _ hh.symm).1
          omega
        · rw [placed_succ]; exact hown'
        · exact (hB5.alloc (by omega) _).grown hgrow (by simp; omega) (fun j hj => Nat.le_trans (Nat.le_succ _) (hr5.lt j hj).1)
      case measure => simp [intOf]; omega
    · have hk6 : k = 6 := by omega
      subst hk6
      go_wp2
      rcases hR.row.2 with ⟨h1, h2⟩ | ⟨g, cap, cur, rfl, hg1, hg2, hg3⟩
      · omega
      go_ret2
      refine ⟨g, cap, rfl, hR.low, by omega, (Array.getElem?_eq_some_iff.1 hg2).1, fun i hi => ?_⟩
      have hc := hR.row.cells rfl i (.complex .f32 (X (i + 1)) (Y (i + 1))) (by
        unfold placed
        rw [List.getElem?_map, List.getElem?_range (by omega)]
        rfl)
      have ha : (⟨g, 0, none⟩ : Addr).add i = ⟨g, i, none⟩ := by unfold Addr.add; split <;> simp_all
      rw [ha] at hc
      exact hc

end Go.Proofs.Ytgblehdamgliaaa
