/-
  The walks of what is drawn: elements of a line.
-/
import Derived.Test.YtgeiaafdholcbaaB3
import Derived.Maps.AppendAt
import Derived.WalkKit
import Derived.StillTailTactics
set_option linter.unusedVariables false
set_option linter.unusedSimpArgs false
namespace Go.Proofs.Ytgeiaafdholcbaa
open Go.RowKit FT

theorem From_walk (a : Option Addr) (len cap : Nat) (w : World) :
    Calls Try.prog 50 #[.slice a len cap] w fun e w' => e = .returned (.pointer (some ⟨w.heap.size, 0, none⟩)) ∧ w.alloc (.cells #[.slice a len cap, .int .i64 0, .int .u64 0] 105) = w' := by
  go_enter Try.func50, Try.ntmps50
  go_wp2
  go_ret
  exact ⟨rfl, rfl⟩

theorem Src.start (a : Option Addr) (len cap : Nat) (w : World) (t : TypeId) (hb : Bytes w a len) (ha : ∀ b off i, a = some ⟨b, off, i⟩ → 0 < len → i = none ∧ b < w.heap.size) (hs : len = 0 ∨ a.isSome = true) :
    Src w.heap.size a len cap (w.alloc (.cells #[.slice a len cap, .int .i64 0, .int .u64 0] t)) 0 := by
  refine ⟨by simp, ⟨0, Nat.le_refl _, by simp⟩, ⟨0, Int.le_refl _, by simp⟩, by simp, by simp, ?_, ha, hs⟩
  intro b off i hab j hj
  obtain ⟨x, x0, x1, x2⟩ := hb b off i hab j hj
  exact ⟨x, x0, x1, by rw [World.cell?_alloc_lt _ _ _ (by exact (ha b off i hab (by omega)).2)]; exact x2⟩

theorem one_src {p : Nat} {a : Option Addr} {len cap : Nat} {w : World} {k : Nat} (h : Src p a len cap w k) (hk : k ≤ 900000) (hl : len ≤ 2000000) :
    Calls Try.prog 76 #[.pointer (some ⟨p, 0, none⟩), .int .i64 2] w fun e w' => ∃ b : Bool, e = .returned (.bool b) ∧ Upd p w w' ∧ Src p a len cap w' (k + 1) := by
  have p1 := pick_src h hk hl 2 (by omega) (by omega)
  clear h
  go_enter Try.func76, Try.ntmps76
  go_wp2_with fail
  refine p1.mono ?_; rintro e w1 ⟨r, rfl, r0, r1, hu, hs⟩
  go_wp2
  go_ret
  exact ⟨_, rfl, hu, hs⟩

theorem among_src {p : Nat} {a : Option Addr} {len cap : Nat} {w : World} {k b : Nat} (h : Src p a len cap w k) (hk : k ≤ 900000) (hl : len ≤ 2000000) (hb : b ≠ p)
    (c0 : w.cell? ⟨b, 0, none⟩ = some (.int .i64 0)) (c1 : w.cell? ⟨b, 1, none⟩ = some (.int .i64 1)) (c2 : w.cell? ⟨b, 2, none⟩ = some (.int .i64 3)) :
    Calls Try.prog 75 #[.pointer (some ⟨p, 0, none⟩), .slice (some ⟨b, 0, none⟩) 3 3] w fun e w' => ∃ r : Int, (r = 0 ∨ r = 1 ∨ r = 3) ∧ e = .returned (.int .i64 r) ∧ Upd p w w' ∧ Src p a len cap w' (k + 1) := by
  have p1 := pick_src h hk hl 3 (by omega) (by omega)
  clear h
  go_enter Try.func75, Try.ntmps75
  go_wp2_with fail
  refine p1.mono ?_; rintro e w1 ⟨r, rfl, r0, r1, hu, hs⟩
  have d0 : w1.cell? ⟨b, 0, none⟩ = some (.int .i64 0) := by rw [hu.cell hb]; exact c0
  have d1 : w1.cell? ⟨b, 1, none⟩ = some (.int .i64 1) := by rw [hu.cell hb]; exact c1
  have d2 : w1.cell? ⟨b, 2, none⟩ = some (.int .i64 3) := by rw [hu.cell hb]; exact c2
  have hr : r = 0 ∨ r = 1 ∨ r = 2 := by omega
  clear c0 c1 c2
  rcases hr with rfl | rfl | rfl
  all_goals
    go_wp2
    go_ret
    exact ⟨_, by decide, rfl, hu, hs⟩

/-- An element of a line that is drawn: its kind, the word of its number, its number. -/
structure GoodE (k : Int) (n : Nat) : Prop where
  kind : k = 0 ∨ k = 1 ∨ k = 3
  num : ∃ x : Rat, V32 n x ∧ (k = 0 → 1 / 4 ≤ x ∧ x ≤ 1) ∧ (k = 1 → x ≠ 0 ∧ 1 ≤ x.abs ∧ x.abs ≤ 7 / 2)

def cellsE (l : List (Int × Nat)) : List Value := l.flatMap fun e => [.int .i64 e.1, .float .f32 e.2, .float .f32 0]
theorem cellsE_snoc (l : List (Int × Nat)) (k : Int) (n : Nat) : cellsE (l ++ [(k, n)]) = cellsE l ++ [.int .i64 k, .float .f32 n, .float .f32 0] := by
  unfold cellsE
  rw [List.flatMap_append]
  rfl

theorem infoE : (Try.prog.info? 93).map (fun i => (i.zero, i.size, i.bytes)) = some (some (.agg #[.int .i64 0, .float .f32 0, .float .f32 0]), 3, 16) := by kernel_rfl

/-- What holds at the head of a round. -/
structure ElR (a : Option Addr) (len cap : Nat) (w : World) (l : List (Int × Nat)) (v : Value) (wr : World) : Prop where
  src : Src w.heap.size a len cap wr (1 + 4 * l.length)
  row : wr.ownsRow (w.heap.size + 1) 93 3 v l.length (cellsE l)
  low : Below w.heap.size w wr
  size : w.heap.size + 1 ≤ wr.heap.size
  good : ∀ e ∈ l, GoodE e.1 e.2

theorem row_below {w w' : World} {base : Nat} {e : TypeId} {size : Nat} {v : Value} {n : Nat} {xs : List Value} (h : w.ownsRow base e size v n xs) (hb : Below w.heap.size w w') : w'.ownsRow base e size v n xs :=
  h.kept (row := none) ⟨hb.os, hb.tape, hb.output, hb.size, fun i hi _ => hb.block i hi⟩ (by cases hv : v.ownBlock <;> simp)
theorem row_set {w : World} {base : Nat} {e : TypeId} {size : Nat} {v : Value} {n : Nat} {xs : List Value} (h : w.ownsRow base e size v n xs) {b : Nat} (hb : b < base) (o : Nat) (u : Value) : (w.setCell ⟨b, o, none⟩ u).ownsRow base e size v n xs :=
  h.kept (row := some b) ⟨rfl, rfl, rfl, by simp, fun i hi hne => Below.heap_setCell _ _ _ _ (by intro h; exact hne (by rw [h]))⟩ (by
    right
    intro hv
    have := (h.lt b hv).1
    omega)
theorem row_upd {w w' : World} {base : Nat} {e : TypeId} {size : Nat} {v : Value} {n p : Nat} {xs : List Value} (h : w.ownsRow base e size v n xs) (hu : Upd p w w') (hp : p < base) : w'.ownsRow base e size v n xs :=
  h.kept (row := some p) ⟨hu.os, hu.tape, hu.output, Nat.le_of_eq hu.size.symm, fun i hi hne => hu.block i (by intro h; exact hne (by rw [h]))⟩ (by
    right
    intro hv
    have := (h.lt p hv).1
    omega)

/-- A block of three cells that may be written. -/
structure Has3 (w : World) (B : Nat) (v0 v1 v2 : Value) : Prop where
  c0 : w.cell? ⟨B, 0, none⟩ = some v0
  c1 : w.cell? ⟨B, 1, none⟩ = some v1
  c2 : w.cell? ⟨B, 2, none⟩ = some v2
  f0 : w.frozen? ⟨B, 0, none⟩ = false
  f1 : w.frozen? ⟨B, 1, none⟩ = false
  f2 : w.frozen? ⟨B, 2, none⟩ = false
theorem Has3.block {w w' : World} {B : Nat} {v0 v1 v2 : Value} (h : Has3 w B v0 v1 v2) (hb : w'.heap[B]? = w.heap[B]?) : Has3 w' B v0 v1 v2 := by
  obtain ⟨h0, h1, h2, g0, g1, g2⟩ := h
  have hc : ∀ o, w'.cell? ⟨B, o, none⟩ = w.cell? ⟨B, o, none⟩ := fun o => World.cell?_of_block (w := w) (a := ⟨B, o, none⟩) hb
  have hf : ∀ o, w'.frozen? ⟨B, o, none⟩ = w.frozen? ⟨B, o, none⟩ := fun o => World.frozen?_of_block (w := w) (a := ⟨B, o, none⟩) hb
  exact ⟨by rw [hc]; exact h0, by rw [hc]; exact h1, by rw [hc]; exact h2, by rw [hf]; exact g0, by rw [hf]; exact g1, by rw [hf]; exact g2⟩
theorem Has3.upd {w w' : World} {p B : Nat} {v0 v1 v2 : Value} (h : Has3 w B v0 v1 v2) (hu : Upd p w w') (hB : B ≠ p) : Has3 w' B v0 v1 v2 := h.block (hu.block B hB)
theorem Has3.below {w w' : World} {C B : Nat} {v0 v1 v2 : Value} (h : Has3 w B v0 v1 v2) (hu : Below C w w') (hB : B < C) : Has3 w' B v0 v1 v2 := h.block (hu.block B hB)
theorem Has3.new (w : World) (v0 v1 v2 : Value) (t : TypeId) : Has3 (w.alloc (.cells #[v0, v1, v2] t)) w.heap.size v0 v1 v2 := by
  constructor <;> simp
theorem Has3.set1 {w : World} {B : Nat} {v0 v1 v2 : Value} (h : Has3 w B v0 v1 v2) (u : Value) : Has3 (w.setCell ⟨B, 1, none⟩ u) B v0 u v2 := by
  obtain ⟨h0, h1, h2, g0, g1, g2⟩ := h
  refine ⟨?_, World.cell?_setCell_same _ _ _ h1, ?_, ?_, ?_, ?_⟩
  all_goals first
    | (rw [World.frozen?_setCell]; assumption)
    | (rw [World.cell?_setCell_other _ _ _ _ (by simp)]; assumption)

def Elems (w : World) (e : Ending) (w' : World) : Prop :=
  ∃ (l : List (Int × Nat)) (v : Value), e = .returned v ∧ l.length ≤ 4 ∧ (∀ e ∈ l, GoodE e.1 e.2) ∧ w'.ownsRow (w.heap.size + 1) 93 3 v l.length (cellsE l) ∧ Below w.heap.size w w'

/-- What is kept beside the element's block. -/
structure ElK (a : Option Addr) (len cap : Nat) (w : World) (l : List (Int × Nat)) (v : Value) (E : Nat) (N : Nat) (k : Int) (n : Nat) (wr : World) : Prop where
  src : Src w.heap.size a len cap wr N
  row : wr.ownsRow (w.heap.size + 1) 93 3 v l.length (cellsE l)
  low : Below w.heap.size w wr
  has : Has3 wr E (.int .i64 k) (.float .f32 n) (.float .f32 0)
  e0 : w.heap.size + 1 ≤ E
  e1 : E < wr.heap.size
  own : ∀ j, v.ownBlock = some j → j < E

theorem ElK.upd {a : Option Addr} {len cap : Nat} {w : World} {l : List (Int × Nat)} {v : Value} {E N N' : Nat} {k : Int} {n : Nat} {wr w' : World} (h : ElK a len cap w l v E N k n wr) (hu : Upd w.heap.size wr w') (hs : Src w.heap.size a len cap w' N') : ElK a len cap w l v E N' k n w' :=
  ⟨hs, row_upd h.row hu (Nat.lt_succ_self _), h.low.trans (hu.below (Nat.le_refl _)), h.has.upd hu (by have := h.e0; omega), h.e0, by rw [hu.size]; exact h.e1, h.own⟩

theorem ElK.set1 {a : Option Addr} {len cap : Nat} {w : World} {l : List (Int × Nat)} {v : Value} {E N : Nat} {k : Int} {n : Nat} {wr : World} (h : ElK a len cap w l v E N k n wr) (m : Nat) : ElK a len cap w l v E N k m (wr.setCell ⟨E, 1, none⟩ (.float .f32 m)) := by
  refine ⟨h.src.below ((Below.refl E wr).setCell (p := ⟨E, 1, none⟩) (Nat.le_refl _) _) h.e0, ?_, h.low.setCell (by have := h.e0; show w.heap.size ≤ E; omega) _, h.has.set1 _, h.e0, by simpa using h.e1, h.own⟩
  refine h.row.kept (row := some E) ⟨rfl, rfl, rfl, by simp, fun i hi hne => Below.heap_setCell _ _ _ _ (by intro h; exact hne (by rw [h]))⟩ ?_
  right
  intro hv
  have := h.own _ hv
  omega

theorem cell3_new (w : World) (x y z : Value) (t : TypeId) : ∀ j u, [x, y, z][j]? = some u → (w.alloc (.cells #[x, y, z] t)).cell? ((⟨w.heap.size, 0, none⟩ : Addr).add j) = some u := by
  intro j u hj
  match j, hj with
  | 0, hj => simp at hj; subst hj; simp [Addr.add]
  | 1, hj => simp at hj; subst hj; simp [Addr.add]
  | 2, hj => simp at hj; subst hj; simp [Addr.add]

theorem cell3_at (w : World) (s : Nat) (hs : s = w.heap.size) (x y z : Value) (t : TypeId) : ∀ j u, [x, y, z][j]? = some u → (w.alloc (.cells #[x, y, z] t)).cell? ((⟨s, 0, none⟩ : Addr).add j) = some u := by
  subst hs
  exact cell3_new w x y z t
theorem cell3_one (x y : Nat) (k : Int) : ∀ u ∈ [Value.int .i64 k, Value.float .f32 x, Value.float .f32 y], u.oneCell' = true := by
  intro u hu
  simp at hu
  rcases hu with rfl | rfl | rfl <;> rfl

theorem el_next {a : Option Addr} {len cap : Nat} {w wA w7 : World} {l : List (Int × Nat)} {v v' : Value} {k : Int} {n : Nat} {N : Nat} (hs : Src w.heap.size a len cap wA N) (hN : N ≤ 1 + 4 * (l.length + 1)) (hrow : wA.ownsRow (w.heap.size + 1) 93 3 v l.length (cellsE l))
    (hlow : Below w.heap.size w wA) (hz : w.heap.size + 1 ≤ wA.heap.size) (hg : ∀ e ∈ l, GoodE e.1 e.2) (hE : GoodE k n)
    (hown : w7.ownsRow (w.heap.size + 1) 93 3 v' (l.length + 1) (cellsE l ++ [.int .i64 k, .float .f32 n, .float .f32 0]))
    (hgrow : (wA.alloc (.cells #[.int .i64 k, .float .f32 n, .float .f32 0] 93)).grownBy w7 v.ownBlock) : ElR a len cap w (l ++ [(k, n)]) v' w7 := by
  have s1 := hgrow.size
  simp at s1
  have hlt : ∀ j, v.ownBlock = some j → w.heap.size + 1 ≤ j := fun j hj => (hrow.lt j hj).1
  have hB7 : Below (w.heap.size + 1) wA w7 := by
    refine ((Below.refl _ wA).alloc hz _).grown hgrow (by simp; omega) hlt
  have hs' : Src w.heap.size a len cap w7 N := hs.below hB7 (Nat.lt_succ_self _)
  refine ⟨?_, ?_, hlow.trans (hB7.mono (Nat.le_succ _)), by omega, ?_⟩
  · obtain ⟨c0, ⟨at_, h1, h2⟩, c2, f1, f2, hb, hap, hsm⟩ := hs'
    refine ⟨c0, ⟨at_, ?_, h2⟩, c2, f1, f2, hb, hap, hsm⟩
    rw [List.length_append]
    simp only [List.length_cons, List.length_nil]
    omega
  · rw [cellsE_snoc, List.length_append]
    exact hown
  · intro e he
    rw [List.mem_append] at he
    rcases he with he | he
    · exact hg e he
    · simp at he
      subst he
      exact hE

theorem el_step {a : Option Addr} {len cap : Nat} {w wA w7 : World} {l : List (Int × Nat)} {v v' : Value} {k : Int} {n N E : Nat} (h : ElK a len cap w l v E N k n wA) (hN : N ≤ 1 + 4 * (l.length + 1)) (hg : ∀ e ∈ l, GoodE e.1 e.2) (hE : GoodE k n)
    (hown : w7.ownsRow (w.heap.size + 1) 93 3 v' (l.length + 1) (cellsE l ++ [.int .i64 k, .float .f32 n, .float .f32 0]))
    (hgrow : (wA.alloc (.cells #[.int .i64 k, .float .f32 n, .float .f32 0] 93)).grownBy w7 v.ownBlock) : ElR a len cap w (l ++ [(k, n)]) v' w7 :=
  el_next h.src hN h.row h.low (by have := h.e0; have := h.e1; omega) hg hE hown hgrow

theorem good_drift {m : Int} (m0 : 0 ≤ m) (m1 : m < 4) : GoodE 0 (d4 (1 + m)) := by
  refine ⟨Or.inl rfl, _, (d4_ok (1 + m) (by omega) (by omega)).2, fun _ => ?_, fun h => by omega⟩
  have a1 := Rat.intCast_le_intCast.2 (show (1 : Int) ≤ 1 + m by omega)
  have a2 := Rat.intCast_le_intCast.2 (show 1 + m ≤ 4 by omega)
  have e1 : ((1 : Int) : Rat) = 1 := rfl
  have e2 : ((4 : Int) : Rat) = 4 := rfl
  rw [e1] at a1
  rw [e2] at a2
  constructor <;> grind

theorem good_lens {m : Int} (m0 : 0 ≤ m) (m1 : m < 6) : GoodE 1 (d2 (2 + m)) ∧ GoodE 1 (neg32 (d2 (2 + m))) := by
  have hv := (d2_ok (2 + m) (by omega) (by omega)).2
  have a1 := Rat.intCast_le_intCast.2 (show (2 : Int) ≤ 2 + m by omega)
  have a2 := Rat.intCast_le_intCast.2 (show 2 + m ≤ 7 by omega)
  have e1 : ((2 : Int) : Rat) = 2 := rfl
  have e2 : ((7 : Int) : Rat) = 7 := rfl
  rw [e1] at a1
  rw [e2] at a2
  have hp : (((2 + m : Int) : Rat) / 2).abs = ((2 + m : Int) : Rat) / 2 := Rat.abs_of_nonneg (by grind)
  refine ⟨⟨Or.inr (Or.inl rfl), _, hv, fun h => by omega, fun _ => ⟨by grind, by rw [hp]; grind, by rw [hp]; grind⟩⟩, ⟨Or.inr (Or.inl rfl), _, neg32_val hv, fun h => by omega, fun _ => ⟨by grind, by rw [Rat.abs_neg, hp]; grind, by rw [Rat.abs_neg, hp]; grind⟩⟩⟩

theorem good_kick {m : Int} (m0 : 0 ≤ m) (m1 : m < 4) : GoodE 3 (d4 (1 + m)) ∧ GoodE 3 (neg32 (d4 (1 + m))) := by
  have hv := (d4_ok (1 + m) (by omega) (by omega)).2
  exact ⟨⟨Or.inr (Or.inr rfl), _, hv, fun h => by omega, fun h => by omega⟩, ⟨Or.inr (Or.inr rfl), _, neg32_val hv, fun h => by omega, fun h => by omega⟩⟩

set_option maxRecDepth 100000 in
set_option maxHeartbeats 4000000 in
theorem Elements_walk {a : Option Addr} {len cap : Nat} {w : World} (hb : Bytes w a len) (ha : ∀ b off i, a = some ⟨b, off, i⟩ → 0 < len → i = none ∧ b < w.heap.size) (hs : len = 0 ∨ a.isSome = true) (hl : len ≤ 2000000) :
    Calls Try.prog 31 #[.slice a len cap] w (Elems w) := by
  have H0 := Lib.hid (Src.start (cap := cap) a len w 105 hb ha hs)
  have HL := Lib.hid hl
  have ng := @run_neg_f32 Try.prog
  obtain ⟨i0, hi, hz0, hz1, hz2⟩ := info_parts infoE
  clear hb ha hs hl
  go_enter Try.func31, Try.ntmps31
  go_wp2_with fail
  refine (From_walk _ _ _ _).mono ?_; rintro e w' ⟨rfl, rfl⟩
  go_wp2_with fail
  refine (pick_src (H0.out.below ((Below.refl _ _).alloc (Nat.le_refl _) _) (by simp)) (by omega) HL.out 5 (by omega) (by omega)).mono ?_; rintro e w1 ⟨n, rfl, n0, n1, hu1, hs1⟩
  go_wp2_with fail
  go_loopw [4, 5] (fun v i wr => ∃ (k : Int) (l : List (Int × Nat)), i = .int .i64 k ∧ 0 ≤ k ∧ k + l.length ≤ 4 ∧ ElR a len cap w l v wr) (fun _ i _ => (intOf i).toNat)
  case atStart =>
    refine ⟨n, [], rfl, n0, (by show n + ((0 : Nat) : Int) ≤ 4; omega), ⟨hs1, ?_, ?_, ?_, by simp⟩⟩
    · refine row_upd ?_ hu1 (Nat.lt_succ_self _)
      have hm := World.ownsRow_made (base := w.heap.size + 1) (e := 93) (size := 3) (w.alloc (.cells #[.slice a len cap, .int .i64 0, .int .u64 0] 105)) #[] 0 (by simp) (by decide) rfl
      have hm' : (cellsE []) = [] := rfl
      rw [hm']
      simpa using hm
    · exact (((Below.refl _ _).alloc (Nat.le_refl _) _).alloc (by simp) _).trans (hu1.below (Nat.le_refl _))
    · rw [hu1.size]; simp
  case round =>
    obtain ⟨k, l, rfl, hk0, hk4, hR⟩ := hrel
    clear H0 hu1 hs1
    rcases Int.lt_or_le 0 k with hlt | hge
    · have hz := hR.size
      have i1 : (l.length : Int) ≤ 4 := by omega
      go_wp2_with fail
      refine (among_src (b := wr.heap.size) (hR.src.below ((Below.refl wr.heap.size _).alloc (Nat.le_refl _) _) (by omega)) (by omega) HL.out (by omega) (by simp) (by simp) (by simp)).mono ?_; rintro e w2 ⟨r, hr, rfl, hu2, hs2⟩
      have HG := Lib.hid hR.good
      have hA2 : w2.ownsRow _ _ _ _ _ _ := row_upd (hR.row.alloc _) hu2 (Nat.lt_succ_self _)
      have hB2 : Below w.heap.size w w2 := (hR.low.alloc (Nat.le_of_lt (by omega)) _).trans (hu2.below (Nat.le_refl _))
      have hw2 : w.heap.size + 1 ≤ w2.heap.size := by rw [hu2.size]; simp; omega
      have HK2 : Hid (ElK a len cap w l u4 w2.heap.size _ r 0 (w2.alloc (.cells #[.int .i64 r, .float .f32 0, .float .f32 0] 93))) :=
        ⟨hs2.below ((Below.refl w2.heap.size _).alloc (Nat.le_refl _) _) hw2, hA2.alloc _, hB2.alloc (Nat.le_of_lt hw2) _, Has3.new w2 _ _ _ _, hw2, by simp, fun j hj => (hA2.lt j hj).2⟩
      clear hR hu2 hz hA2 hB2 hs2
      go_wp2_with fail
      refine (pick_src HK2.out.src (by omega) HL.out 4 (by omega) (by omega)).mono ?_; rintro e w3 ⟨m, rfl, m0, m1, hu3, hs3⟩
      have HK3 := Lib.hid (HK2.out.upd hu3 hs3)
      clear hu3 hs3 HK2 hw2
      generalize w2.heap.size = E at *
      have o3 := wb (d4_ok (1 + m) (by omega) (by omega)).1
      obtain ⟨k0, k1, k2, g0, g1, g2⟩ := HK3.out.has
      have HK4 := Lib.hid (HK3.out.set1 (d4 (1 + m)))
      clear HK3
      rcases hr with rfl | rfl | rfl
      · have HE := Lib.hid (good_drift m0 m1)
        go_wp2_with (first
          | (at_builtin; refine wpList_append_own_at _ rfl _ _ 53 rfl (w.heap.size + 1) 93 i0 (.agg #[.int .i64 0, .float .f32 0, .float .f32 0]) 3 16 Try.underlying53 hi hz0 hz1 hz2 rfl (by decide) _ _ _ rfl (HK4.out.row.alloc _) ⟨w3.heap.size, 0, none⟩ 1 1 [.int .i64 0, .float .f32 (d4 (1 + m)), .float .f32 0] rfl rfl (cell3_at _ _ (by simp) _ _ _ _) (cell3_one _ _ _) (by unfold maxLen; omega) (by omega) (by have := HK4.out.e0; have := HK4.out.e1; simp at *; omega) ?_; intro v' w7 hown' hgrow hnil hat)
          | go_in)
        have hR := el_step HK4.out (by omega) HG.out HE.out hown' hgrow
        clear hown' hgrow hnil hat
        go_wp2
        go_roundw
        case rel => exact ⟨k - 1, l ++ [(0, d4 (1 + m))], by go_num, by omega, by rw [List.length_append]; simp; omega, hR⟩
        case measure => simp [intOf]; omega
      · go_wp2_with fail
        refine (pick_src HK4.out.src (by omega) HL.out 6 (by omega) (by omega)).mono ?_; rintro e w4 ⟨m', rfl, m0', m1', hu4, hs4⟩
        have HK5 := Lib.hid (HK4.out.upd hu4 hs4)
        clear hu4 hs4 HK4 k0 k1 k2 g0 g1 g2
        have o4 := wb (d2_ok (2 + m') (by omega) (by omega)).1
        obtain ⟨k0, k1, k2, g0, g1, g2⟩ := HK5.out.has
        have HK6 := Lib.hid (HK5.out.set1 (d2 (2 + m')))
        clear HK5
        have HE := Lib.hid (good_lens m0' m1')
        go_wp2_with fail
        refine (one_src HK6.out.src (by omega) HL.out).mono ?_; rintro e w5 ⟨b, rfl, huo, hso⟩
        have HKo := Lib.hid (HK6.out.upd huo hso)
        clear huo hso
        obtain ⟨k0, k1, k2, g0, g1, g2⟩ := HKo.out.has
        cases b
        · go_wp2_with (first
            | (at_builtin; refine wpList_append_own_at _ rfl _ _ 53 rfl (w.heap.size + 1) 93 i0 (.agg #[.int .i64 0, .float .f32 0, .float .f32 0]) 3 16 Try.underlying53 hi hz0 hz1 hz2 rfl (by decide) _ _ _ rfl (HKo.out.row.alloc _) ⟨w5.heap.size, 0, none⟩ 1 1 [.int .i64 1, .float .f32 (d2 (2 + m')), .float .f32 0] rfl rfl (cell3_at _ _ (by simp) _ _ _ _) (cell3_one _ _ _) (by unfold maxLen; omega) (by omega) (by have := HKo.out.e0; have := HKo.out.e1; simp at *; omega) ?_; intro v' w7 hown' hgrow hnil hat)
            | go_in)
          have hR := el_step HKo.out (by omega) HG.out HE.out.1 hown' hgrow
          clear hown' hgrow hnil hat
          go_wp2
          go_roundw
          case rel => exact ⟨k - 1, l ++ [(1, d2 (2 + m'))], by go_num, by omega, by rw [List.length_append]; simp; omega, hR⟩
          case measure => simp [intOf]; omega
        · have HKn := Lib.hid (HKo.out.set1 (neg32 (d2 (2 + m'))))
          go_wp2_with (first
            | (at_builtin; refine wpList_append_own_at _ rfl _ _ 53 rfl (w.heap.size + 1) 93 i0 (.agg #[.int .i64 0, .float .f32 0, .float .f32 0]) 3 16 Try.underlying53 hi hz0 hz1 hz2 rfl (by decide) _ _ _ rfl (HKn.out.row.alloc _) ⟨w5.heap.size, 0, none⟩ 1 1 [.int .i64 1, .float .f32 (neg32 (d2 (2 + m'))), .float .f32 0] rfl rfl (cell3_at _ _ (by simp) _ _ _ _) (cell3_one _ _ _) (by unfold maxLen; omega) (by omega) (by have := HKn.out.e0; have := HKn.out.e1; simp at *; omega) ?_; intro v' w7 hown' hgrow hnil hat)
            | go_in)
          have hR := el_step HKn.out (by omega) HG.out HE.out.2 hown' hgrow
          clear hown' hgrow hnil hat
          go_wp2
          go_roundw
          case rel => exact ⟨k - 1, l ++ [(1, neg32 (d2 (2 + m')))], by go_num, by omega, by rw [List.length_append]; simp; omega, hR⟩
          case measure => simp [intOf]; omega
      · have HE := Lib.hid (good_kick m0 m1)
        go_wp2_with fail
        refine (one_src HK4.out.src (by omega) HL.out).mono ?_; rintro e w5 ⟨b, rfl, huo, hso⟩
        have HKo := Lib.hid (HK4.out.upd huo hso)
        clear huo hso
        obtain ⟨k0, k1, k2, g0, g1, g2⟩ := HKo.out.has
        cases b
        · go_wp2_with (first
            | (at_builtin; refine wpList_append_own_at _ rfl _ _ 53 rfl (w.heap.size + 1) 93 i0 (.agg #[.int .i64 0, .float .f32 0, .float .f32 0]) 3 16 Try.underlying53 hi hz0 hz1 hz2 rfl (by decide) _ _ _ rfl (HKo.out.row.alloc _) ⟨w5.heap.size, 0, none⟩ 1 1 [.int .i64 3, .float .f32 (d4 (1 + m)), .float .f32 0] rfl rfl (cell3_at _ _ (by simp) _ _ _ _) (cell3_one _ _ _) (by unfold maxLen; omega) (by omega) (by have := HKo.out.e0; have := HKo.out.e1; simp at *; omega) ?_; intro v' w7 hown' hgrow hnil hat)
            | go_in)
          have hR := el_step HKo.out (by omega) HG.out HE.out.1 hown' hgrow
          clear hown' hgrow hnil hat
          go_wp2
          go_roundw
          case rel => exact ⟨k - 1, l ++ [(3, d4 (1 + m))], by go_num, by omega, by rw [List.length_append]; simp; omega, hR⟩
          case measure => simp [intOf]; omega
        · have HKn := Lib.hid (HKo.out.set1 (neg32 (d4 (1 + m))))
          go_wp2_with (first
            | (at_builtin; refine wpList_append_own_at _ rfl _ _ 53 rfl (w.heap.size + 1) 93 i0 (.agg #[.int .i64 0, .float .f32 0, .float .f32 0]) 3 16 Try.underlying53 hi hz0 hz1 hz2 rfl (by decide) _ _ _ rfl (HKn.out.row.alloc _) ⟨w5.heap.size, 0, none⟩ 1 1 [.int .i64 3, .float .f32 (neg32 (d4 (1 + m))), .float .f32 0] rfl rfl (cell3_at _ _ (by simp) _ _ _ _) (cell3_one _ _ _) (by unfold maxLen; omega) (by omega) (by have := HKn.out.e0; have := HKn.out.e1; simp at *; omega) ?_; intro v' w7 hown' hgrow hnil hat)
            | go_in)
          have hR := el_step HKn.out (by omega) HG.out HE.out.2 hown' hgrow
          clear hown' hgrow hnil hat
          go_wp2
          go_roundw
          case rel => exact ⟨k - 1, l ++ [(3, neg32 (d4 (1 + m)))], by go_num, by omega, by rw [List.length_append]; simp; omega, hR⟩
          case measure => simp [intOf]; omega
    · have hk : k = 0 := by omega
      subst hk
      go_wp2
      go_ret
      exact ⟨l, _, rfl, by omega, hR.good, hR.row, hR.low⟩

end Go.Proofs.Ytgeiaafdholcbaa
