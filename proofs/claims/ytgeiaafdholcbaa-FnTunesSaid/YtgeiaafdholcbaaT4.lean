/-
  The walk of the law FnTunes: out of the facts on the words that its calls come to, it returns true.
-/
import Derived.Test.YtgeiaafdholcbaaT3
set_option linter.unusedVariables false
set_option linter.unusedSimpArgs false
namespace Go.Proofs.Ytgeiaafdholcbaa
open Go.RowKit FT

theorem Long10_no {a b : Option Addr} {n m c d : Nat} (hn : n ≤ 1048576) (hm : m ≤ 1048576) (w : World) :
    Calls Try.prog 8 #[.slice a n c, .slice b m d] w fun e w' => e = .returned (.bool false) ∧ w = w' := by
  have i1 : decide ((1048576 : Int) < (n : Int)) = false := by simp; omega
  have i2 : decide ((1048576 : Int) < (m : Int)) = false := by simp; omega
  go_enter Try.func8, Try.ntmps8
  go_wp2
  go_ret
  exact ⟨rfl, rfl⟩

theorem Long10_yes {a b : Option Addr} {n m c d : Nat} (h : 1048576 < n ∨ 1048576 < m) (w : World) :
    Calls Try.prog 8 #[.slice a n c, .slice b m d] w fun e w' => e = .returned (.bool true) ∧ w = w' := by
  by_cases hn : 1048576 < n
  · have i1 : 1048576 < (n : Int) := by omega
    clear h
    go_enter Try.func8, Try.ntmps8
    go_wp2
    go_ret
    exact ⟨rfl, rfl⟩
  · have i1 : (n : Int) ≤ 1048576 := by omega
    have i2 : 1048576 < (m : Int) := by omega
    clear h
    go_enter Try.func8, Try.ntmps8
    go_wp2
    go_ret
    exact ⟨rfl, rfl⟩

def gap10 (a b : Nat) : Option Nat := if lt64 a b then fb .sub .f64 b a else fb .sub .f64 a b
theorem Gap10_walk {a b r : Nat} (h : gap10 a b = some r) (w : World) :
    Calls Try.prog 13 #[.float .f64 a, .float .f64 b] w fun e w' => e = .returned (.float .f64 r) ∧ w = w' := by
  unfold gap10 at h
  have hl : (FloatKind.f64.format.order a b == some .lt) = lt64 a b := rfl
  by_cases g : lt64 a b = true
  all_goals
    simp only [g, if_true, if_false, Bool.false_eq_true] at hl h
    have o := wq64 h
    clear h g
    go_enter Try.func13, Try.ntmps13
    go_wp2
    go_ret
    exact ⟨rfl, rfl⟩

theorem cellsE_at (l : List (Int × Nat)) : ∀ j (h : j < l.length), (cellsE l)[j * 3]? = some (.int .i64 (l[j]'h).1) ∧ (cellsE l)[j * 3 + 1]? = some (.float .f32 (l[j]'h).2) ∧ (cellsE l)[j * 3 + 2]? = some (.float .f32 0) := by
  induction l with
  | nil => intro j h; exact absurd h (Nat.not_lt_zero _)
  | cons e l ih =>
    intro j h
    have e1 : cellsE (e :: l) = .int .i64 e.1 :: .float .f32 e.2 :: .float .f32 0 :: cellsE l := rfl
    rw [e1]
    cases j with
    | zero => simp
    | succ j =>
      have h' : j < l.length := by simpa using h
      obtain ⟨c0, c1, c2⟩ := ih j h'
      have k0 : (j + 1) * 3 = j * 3 + 1 + 1 + 1 := by omega
      rw [k0]
      simp only [List.getElem?_cons_succ, List.getElem_cons_succ]
      exact ⟨c0, c1, c2⟩

theorem line_of_row {w : World} {base : Nat} {v : Value} {l : List (Int × Nat)} (h : w.ownsRow base 93 3 v l.length (cellsE l)) : ∃ a cap, v = .slice a l.length cap ∧ LineAt w a l := by
  have hc := fun g => World.ownsRow.cells h (g := g)
  have hlt := World.ownsRow.lt h
  rcases h.2 with ⟨h1, h2⟩ | ⟨g, cap, cur, rfl, hg1, hg2, hg3⟩
  · subst h1
    rw [h2]
    exact ⟨none, 0, rfl, ⟨fun hl => absurd (List.eq_nil_of_length_eq_zero h2) hl⟩⟩
  · refine ⟨_, cap, rfl, ⟨fun _ => ⟨g, rfl, (hlt g rfl).2, fun j hj => ?_⟩⟩⟩
    have ha : ∀ i, (⟨g, 0, none⟩ : Addr).add i = ⟨g, i, none⟩ := by intro i; unfold Addr.add; split <;> simp_all
    obtain ⟨c0, c1, c2⟩ := cellsE_at l j hj
    exact ⟨by rw [← ha]; exact hc g rfl _ _ c0, by rw [← ha]; exact hc g rfl _ _ c1, by rw [← ha]; exact hc g rfl _ _ c2⟩

def cent : Nat := 4576918229304087675

/-- What the words of a stable line come to. -/
structure StableF (m : M4) (t tune q q' c c' t' h g : Nat) : Prop where
  tw : TuneW m t tune
  hq : fb .add .f32 tune 1048576000 = some q
  hq' : cv64 q = some q'
  turn : Turn1 q'
  hc : sineT q = some c
  hc' : cv64 c = some c'
  ht' : cv64 t = some t'
  hh : fb .quo .f64 t' 4611686018427387904 = some h
  hg : gap10 c' h = some g
  lo : (FloatKind.f32.format.order tune 3204448256 == some .gt || FloatKind.f32.format.order tune 3204448256 == some .eq) = true
  hi : (FloatKind.f32.format.order tune 1056964608 == some .lt || FloatKind.f32.format.order tune 1056964608 == some .eq) = true
  less : (FloatKind.f64.format.order g 4576918229304087675 == some .lt) = true

/-- What the words of a line come to. -/
structure TuneFacts (l : List (Int × Nat)) : Prop where
  out : ∃ M t u st, Mats l M ∧ fb .add .f32 (M l.length).a (M l.length).d = some t ∧ absB t = some u ∧ (FloatKind.f32.format.order u 1073741824 == some .lt) = st ∧
    ((FloatKind.f32.format.order t 1073741824 == some .lt) && (FloatKind.f32.format.order (neg32 t) 1073741824 == some .lt)) = st ∧ (st = true → ∃ tune q q' c c' t' h g, StableF (M l.length) t tune q q' c c' t' h g)

set_option maxRecDepth 100000 in
set_option maxHeartbeats 4000000 in
theorem tunes_go {a b : Option Addr} {n m c d : Nat} {w : World} (hn : n ≤ 1048576) (hm : m ≤ 1048576) (ha : Bytes w a n) (ha' : ∀ x off i, a = some ⟨x, off, i⟩ → 0 < n → i = none ∧ x < w.heap.size) (hs : n = 0 ∨ a.isSome = true)
    (hF : ∀ l : List (Int × Nat), l.length ≤ 4 → (∀ e ∈ l, GoodE e.1 e.2) → TuneFacts l) :
    Calls Try.prog 6 #[.slice a n c, .slice b m d] w fun e w' => e = .returned (.bool true) ∧ Below w.heap.size w w' := by
  have HF := Lib.hid hF
  have P0 := Lib.hid (fun w => Long10_no (a := a) (b := b) (c := c) (d := d) hn hm w)
  have P1 := Lib.hid (Elements_walk (cap := c) ha ha' hs (by omega))
  have ng := @run_neg_f32 Try.prog
  clear hF ha ha' hs
  go_enter Try.func6, Try.ntmps6
  go_wp2_with fail
  refine (P0.out _).mono ?_; rintro e w' ⟨rfl, rfl⟩
  go_wp2_with fail
  refine P1.out.mono ?_; rintro e w1 ⟨l, v, rfl, hl, hg, hrow, hb1⟩
  obtain ⟨al, cap, rfl, hL⟩ := line_of_row hrow
  obtain ⟨M, t, u, st, hM, ht, hu, hst, hst', hS⟩ := (HF.out l hl hg).out
  have HG := Lib.hid hg
  have HL1 := Lib.hid hL
  have HB1 := Lib.hid hb1
  have HM := Lib.hid hM
  have HT := Lib.hid ht
  have HU := Lib.hid hu
  have HST := Lib.hid hst
  have HST' := Lib.hid hst'
  have HS := Lib.hid hS
  have HLn := Lib.hid hl
  clear hrow hb1 P0 P1 HF hg hL hM ht hu hst hst' hS
  have P2 := Lib.hid (MatrixOf_walk (cap := cap) w1 HL1.out HLn.out HG.out HM.out)
  go_wp2_with fail
  refine P2.out.mono ?_; rintro e w2 ⟨bm, rfl, hm2, hb2⟩
  have HL2 := Lib.hid (HL1.out.below hb2)
  have HB2 := Lib.hid (HB1.out.trans (hb2.mono HB1.out.size))
  have P3 := Lib.hid (TraceOf_walk HT.out w2 hm2)
  clear P2 hb2 HL1 HB1 hm2
  go_wp2_with fail
  refine P3.out.mono ?_; rintro e w3 ⟨rfl, hb3⟩
  have HL3 := Lib.hid (HL2.out.below hb3)
  have HB3 := Lib.hid (HB2.out.trans (hb3.mono HB2.out.size))
  have PS := Lib.hid (fun w h => IsStable_walk (a := al) (cap := cap) w h HLn.out HG.out HM.out HT.out HU.out HST.out)
  clear P3 hb3 HL2 HB2
  have e1 : (FloatKind.f32.format.order t 1073741824 == some .lt) = st ∨ (FloatKind.f32.format.order t 1073741824 == some .lt) = true ∧ (FloatKind.f32.format.order (neg32 t) 1073741824 == some .lt) = st := by
    have h := HST'.out
    cases h1 : (FloatKind.f32.format.order t 1073741824 == some .lt)
    · left; rw [h1] at h; exact h
    · right; rw [h1] at h; exact ⟨rfl, by simpa using h⟩
  cases st
  · have P4 := Lib.hid (IsStable_no w3 (PS.out w3 HL3.out))
    clear HS HST' HST
    rcases e1 with e1 | ⟨e1, e2⟩
    all_goals
      go_wp2_with fail
      refine P4.out.mono ?_; rintro e w4 ⟨rfl, hb4⟩
      have P5 := Lib.hid (PS.out w4 (HL3.out.below hb4))
      have HB4 := Lib.hid (HB3.out.trans (hb4.mono HB3.out.size))
      clear hb4 P4 PS
      go_wp2_with fail
      refine P5.out.mono ?_; rintro e w5 ⟨rfl, hb5⟩
      go_wp2
      go_ret
      exact ⟨rfl, HB4.out.trans (hb5.mono HB4.out.size)⟩
  · obtain ⟨tune, q, q', cw, c', t', h, g, hS⟩ := HS.out rfl
    have hboth : (FloatKind.f32.format.order t 1073741824 == some .lt) = true ∧ (FloatKind.f32.format.order (neg32 t) 1073741824 == some .lt) = true := by
      have h := HST'.out
      simpa using h
    obtain ⟨e1, e2⟩ := hboth
    obtain ⟨k1, k2, k3, k4, k5, k6, k7, k8, k9, k10, k11, k12⟩ := hS
    have o2 := wb k2
    have o6 := w64 k6
    have o7 := w64 k7
    have o8 := wq64 k8
    have P4 := Lib.hid (TuneOf_walk w3 HL3.out HLn.out HM.out (PS.out w3 HL3.out) k1)
    have P6 := fun w => SineTurns_walk k3 k4 k5 w
    have P7 := fun w => Gap10_walk k9 w
    clear HS HST' HST k1 k2 k3 k4 k5 k6 k7 k8 k9
    go_wp2_with fail
    refine P4.out.mono ?_; rintro e w4 ⟨rfl, hb4⟩
    have P5 := Lib.hid (PS.out w4 (HL3.out.below hb4))
    have HB4 := Lib.hid (HB3.out.trans (hb4.mono HB3.out.size))
    clear hb4 P4 PS
    go_wp2_with fail
    refine P5.out.mono ?_; rintro e w5 ⟨rfl, hb5⟩
    have HB5 := Lib.hid (HB4.out.trans (hb5.mono HB4.out.size))
    clear hb5 P5 HB4
    go_wp2_with fail
    refine (P6 _).mono ?_; rintro e w' ⟨rfl, rfl⟩
    go_wp2_with fail
    refine (P7 _).mono ?_; rintro e w' ⟨rfl, rfl⟩
    go_wp2
    go_ret
    exact ⟨rfl, HB5.out⟩

set_option maxRecDepth 100000 in
theorem tunes_long {a b : Option Addr} {n m c d : Nat} {w : World} (h : 1048576 < n ∨ 1048576 < m) :
    Calls Try.prog 6 #[.slice a n c, .slice b m d] w fun e w' => e = .returned (.bool true) ∧ Below w.heap.size w w' := by
  have P0 := Lib.hid (fun w => Long10_yes (a := a) (b := b) (c := c) (d := d) h w)
  clear h
  go_enter Try.func6, Try.ntmps6
  go_wp2_with fail
  refine (P0.out _).mono ?_; rintro e w' ⟨rfl, rfl⟩
  go_wp2
  go_ret
  exact ⟨rfl, Below.refl _ _⟩

end Go.Proofs.Ytgeiaafdholcbaa
