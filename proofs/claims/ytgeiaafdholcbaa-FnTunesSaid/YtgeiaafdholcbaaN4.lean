/-
  The facts of the law FnTunes at every line that is drawn, and the law.
-/
import Derived.Test.YtgeiaafdholcbaaN3
set_option linter.unusedVariables false
set_option linter.unusedSimpArgs false
namespace Go.Proofs.Ytgeiaafdholcbaa
open FT

/-- Four finite words of bounded numbers. -/
structure MB (m : M4) (B : Rat) : Prop where
  a : ∃ v, V32 m.a v ∧ Le v B
  b : ∃ v, V32 m.b v ∧ Le v B
  c : ∃ v, V32 m.c v ∧ Le v B
  d : ∃ v, V32 m.d v ∧ Le v B

theorem minus_one : V32 3212836864 (-1) := V32_of (by decide +kernel)

theorem elem_num {k : Int} {n : Nat} (h : GoodE k n) : ∃ e, elemW k n = some e ∧ MB e (1001 / 1000) := by
  obtain ⟨x, hx, h0, h1⟩ := h.num
  have one : ∃ v, V32 1065353216 v ∧ Le v (1001 / 1000) := ⟨1, one32_v, by decide +kernel⟩
  have zero : ∃ v, V32 0 v ∧ Le v (1001 / 1000) := ⟨0, zero32, by decide +kernel⟩
  unfold elemW
  rcases h.kind with rfl | rfl | rfl
  · obtain ⟨k1, k2⟩ := h0 rfl
    exact ⟨_, rfl, one, ⟨x, hx, by grind, by grind⟩, zero, one⟩
  · obtain ⟨k1, k2, k3⟩ := h1 rfl
    have hq : Le (-1 / x) 1 := by
      rcases Rat.le_total (a := 0) (b := x) with h | h
      · rw [Rat.abs_of_nonneg h] at k2
        have hx0 : 0 < x := by grind
        have hd : -1 / x * x = -1 := Rat.div_mul_cancel k1
        generalize -1 / x = q at *
        constructor
        · refine Rat.le_of_mul_le_mul_right (c := x) ?_ hx0
          grind
        · refine Rat.le_of_mul_le_mul_right (c := x) ?_ hx0
          grind
      · rw [Rat.abs_of_nonpos h] at k2
        have hx0 : 0 < -x := by grind
        have hd : -1 / x * x = -1 := Rat.div_mul_cancel k1
        generalize -1 / x = q at *
        constructor
        · refine Rat.le_of_mul_le_mul_right (c := -x) ?_ hx0
          grind
        · refine Rat.le_of_mul_le_mul_right (c := -x) ?_ hx0
          grind
    obtain ⟨r, v, e1, w1, b1, b2⟩ := quo32 (M := 1) minus_one hx k1 hq ⟨by decide +kernel, by decide +kernel⟩
    obtain ⟨q1, q2⟩ := hq
    refine ⟨_, by simp only [e1]; rfl, one, zero, ⟨v, w1, by grind, by grind⟩, one⟩
  · exact ⟨_, rfl, one, zero, zero, one⟩

theorem ps_num {a b c d : Nat} {B : Rat} (ha : ∃ v, V32 a v ∧ Le v (1001 / 1000)) (hb : ∃ v, V32 b v ∧ Le v B) (hc : ∃ v, V32 c v ∧ Le v (1001 / 1000)) (hd : ∃ v, V32 d v ∧ Le v B) (hB : 1 ≤ B) (hB1 : B ≤ 1000) :
    ∃ r, psW a b c d = some r ∧ ∃ v, V32 r v ∧ Le v (3 * B) := by
  obtain ⟨A1, wa, la⟩ := ha
  obtain ⟨B1, wb', lb⟩ := hb
  obtain ⟨C1, wc, lc⟩ := hc
  obtain ⟨D1, wd, ld⟩ := hd
  have k1 := mulLe la lb
  have k2 := mulLe lc ld
  obtain ⟨x, X, e1, w1, b1, _⟩ := mul32 (M := 1001 / 1000 * B) wa wb' k1 ⟨by grind, by grind⟩
  obtain ⟨y, Y, e2, w2, b2, _⟩ := mul32 (M := 1001 / 1000 * B) wc wd k2 ⟨by grind, by grind⟩
  obtain ⟨z, Z, e3, w3, b3, _⟩ := add32 (M := 5 / 2 * B) w1 w2 ⟨by grind, by grind⟩ ⟨by grind, by grind⟩
  refine ⟨z, ?_, Z, w3, by grind, by grind⟩
  unfold psW
  simp only [e1, e2, e3, Option.bind_eq_bind, Option.bind_some]

theorem times_num {e m : M4} {B : Rat} (he : MB e (1001 / 1000)) (hm : MB m B) (hB : 1 ≤ B) (hB1 : B ≤ 1000) : ∃ r, timesW e m = some r ∧ MB r (3 * B) := by
  obtain ⟨p, e1, k1⟩ := ps_num he.a hm.a he.b hm.c hB hB1
  obtain ⟨q, e2, k2⟩ := ps_num he.a hm.b he.b hm.d hB hB1
  obtain ⟨r, e3, k3⟩ := ps_num he.c hm.a he.d hm.c hB hB1
  obtain ⟨s, e4, k4⟩ := ps_num he.c hm.b he.d hm.d hB hB1
  refine ⟨⟨p, q, r, s⟩, ?_, k1, k2, k3, k4⟩
  unfold timesW
  simp only [e1, e2, e3, e4, Option.bind_eq_bind, Option.bind_some, Option.pure_def]

theorem pow_bound (n : Nat) (hn : n ≤ 4) : 1 ≤ (3 : Rat) ^ n ∧ (3 : Rat) ^ n ≤ 81 := by
  have : n = 0 ∨ n = 1 ∨ n = 2 ∨ n = 3 ∨ n = 4 := by omega
  rcases this with rfl | rfl | rfl | rfl | rfl <;> decide +kernel

theorem mats_num (l : List (Int × Nat)) (hl : l.length ≤ 4) (hg : ∀ e ∈ l, GoodE e.1 e.2) : ∃ M, Mats l M ∧ MB (M l.length) 81 := by
  have key : ∀ n, n ≤ l.length → ∃ M : Nat → M4, M 0 = idW ∧ (∀ k, k < n → ∀ (h : k < l.length), ∃ e, elemW (l[k]'h).1 (l[k]'h).2 = some e ∧ timesW e (M k) = some (M (k + 1))) ∧ MB (M n) (3 ^ n) := by
    intro n
    induction n with
    | zero =>
      intro _
      have one : ∃ v, V32 1065353216 v ∧ Le v (3 ^ 0) := ⟨1, one32_v, by decide +kernel⟩
      have zero : ∃ v, V32 0 v ∧ Le v (3 ^ 0) := ⟨0, zero32, by decide +kernel⟩
      exact ⟨fun _ => idW, rfl, fun k hk => absurd hk (Nat.not_lt_zero _), one, zero, zero, one⟩
    | succ n ih =>
      intro hn
      obtain ⟨M, h0, hs, hB⟩ := ih (by omega)
      have hlt : n < l.length := by omega
      obtain ⟨e, he, hE⟩ := elem_num (hg _ (List.getElem_mem hlt))
      obtain ⟨p0, p1⟩ := pow_bound n (by omega)
      obtain ⟨r, hr, hR⟩ := times_num hE hB p0 (by grind)
      refine ⟨fun k => if k ≤ n then M k else r, by simp [h0], fun k hk h => ?_, ?_⟩
      · rcases Nat.lt_or_ge k n with hkn | hkn
        · obtain ⟨e', h1, h2⟩ := hs k hkn h
          refine ⟨e', h1, ?_⟩
          simp only [show k ≤ n by omega, show k + 1 ≤ n by omega, if_true]
          exact h2
        · obtain rfl : k = n := by omega
          refine ⟨e, he, ?_⟩
          simp only [Nat.le_refl, if_true, show ¬ k + 1 ≤ k by omega, if_false]
          exact hr
      · simp only [show ¬ n + 1 ≤ n by omega, if_false]
        have e3 : (3 : Rat) ^ (n + 1) = 3 * 3 ^ n := by rw [Rat.pow_succ, Rat.mul_comm]
        rw [e3]
        exact hR
  obtain ⟨M, h0, hs, hB⟩ := key l.length (Nat.le_refl _)
  obtain ⟨p0, p1⟩ := pow_bound l.length hl
  have up : ∀ {w : Nat}, (∃ v, V32 w v ∧ Le v (3 ^ l.length)) → ∃ v, V32 w v ∧ Le v 81 := by
    intro w ⟨v, h1, h2, h3⟩
    exact ⟨v, h1, by grind, by grind⟩
  exact ⟨M, ⟨h0, fun k h => hs k h h⟩, up hB.a, up hB.b, up hB.c, up hB.d⟩

theorem abs_num {t : Nat} {τ : Rat} (ht : V32 t τ) (h : Le τ 200) : ∃ u, absB t = some u ∧ V32 u τ.abs := by
  obtain ⟨y, e1, x1⟩ := widen ht
  have x2 := abs64_val x1
  have hab := abs_of_le h
  have hb := big32
  have h0 : 0 ≤ τ.abs := Rat.abs_nonneg
  have haa : τ.abs.abs = τ.abs := Rat.abs_of_nonneg h0
  obtain ⟨u, e2, hr⟩ := narrow x2 (by rw [haa]; grind)
  refine ⟨u, by unfold absB; simp only [e1, e2, Option.bind_eq_bind, Option.bind_some], ?_⟩
  rcases Rat.le_total (a := 0) (b := τ) with h' | h'
  · rw [Rat.abs_of_nonneg h'] at hr ⊢
    exact exact32 (M := 200) ht h ⟨by decide +kernel, by decide +kernel⟩ hr
  · rw [Rat.abs_of_nonpos h'] at hr ⊢
    exact exact32 (M := 200) (neg32_val ht) (by obtain ⟨a1, a2⟩ := h; constructor <;> grind) ⟨by decide +kernel, by decide +kernel⟩ hr

theorem lt_two {x : Nat} {v : Rat} (h : V32 x v) : (FloatKind.f32.format.order x 1073741824 == some .lt) = decide (v < 2) := by
  have e : FloatKind.f32.format.order x 1073741824 = _ := order_eq h two32
  rw [e]
  by_cases hv : v < 2
  · rw [if_pos hv, decide_eq_true hv]; rfl
  · rw [if_neg hv, decide_eq_false hv]
    split <;> rfl

theorem tune_facts (l : List (Int × Nat)) (hl : l.length ≤ 4) (hg : ∀ e ∈ l, GoodE e.1 e.2) : TuneFacts l := by
  obtain ⟨M, hM, hB⟩ := mats_num l hl hg
  obtain ⟨A1, wa, la⟩ := hB.a
  obtain ⟨D1, wd, ld⟩ := hB.d
  obtain ⟨t, τ, e1, ht, bt, _⟩ := add32 (M := 162) wa wd ⟨by grind, by grind⟩ ⟨by decide +kernel, by decide +kernel⟩
  obtain ⟨u, hu, hU⟩ := abs_num ht ⟨by grind, by grind⟩
  refine ⟨M, t, u, decide (τ.abs < 2), hM, e1, hu, lt_two hU, ?_, fun hst => ?_⟩
  · rw [lt_two ht, lt_two (neg32_val ht)]
    rcases Rat.le_total (a := 0) (b := τ) with h | h
    · rw [Rat.abs_of_nonneg h]
      have : decide (-τ < 2) = true := decide_eq_true (by grind)
      rw [this, Bool.and_true]
    · rw [Rat.abs_of_nonpos h]
      have : decide (τ < 2) = true := decide_eq_true (by grind)
      rw [this, Bool.true_and]
  · have habs : τ.abs < 2 := of_decide_eq_true hst
    obtain ⟨k1, k2⟩ := abs_le_self' τ
    obtain ⟨c, cc, d, r, an, x, y, f1, f2, f3, f4, f5, f6, f7, f8, α, hI, g1, g2, g3, ⟨wI, g4, g5⟩, ⟨wI', g6, g7⟩⟩ := tune_num ht (by grind) (by grind)
    have hτ : Le τ 2 := ⟨by grind, by grind⟩
    cases hq : (FloatKind.f32.format.order (M l.length).b 0 == some .lt)
    · obtain ⟨q, q', cw, c', t', h, g, i1, i2, i3, i4, i5, i6, i7, i8, i9, i10, i11⟩ := fin_of g1 g2 g4 ht hτ g3 g5
      refine ⟨an, q, q', cw, c', t', h, g, ⟨e1, c, cc, d, r, an, x, y, f1, f2, f3, f4, f5, f6, f7, f8, ?_⟩, i1, i2, i3, i4, i5, i6, i7, i8, i9, i10, i11⟩
      rw [hq]; rfl
    · obtain ⟨q, q', cw, c', t', h, g, i1, i2, i3, i4, i5, i6, i7, i8, i9, i10, i11⟩ := fin_of (neg32_val g1) (by obtain ⟨z1, z2⟩ := g2; constructor <;> grind) g6 ht hτ g3 g7
      refine ⟨neg32 an, q, q', cw, c', t', h, g, ⟨e1, c, cc, d, r, an, x, y, f1, f2, f3, f4, f5, f6, f7, f8, ?_⟩, i1, i2, i3, i4, i5, i6, i7, i8, i9, i10, i11⟩
      rw [hq]; rfl

theorem tunes_walk {a b : Option Addr} {n m c d : Nat} {w : World} (ha : Bytes w a n) (ha' : ∀ x off i, a = some ⟨x, off, i⟩ → 0 < n → i = none ∧ x < w.heap.size) (hs : n = 0 ∨ a.isSome = true) :
    Calls Try.prog 6 #[.slice a n c, .slice b m d] w fun e w' => e = .returned (.bool true) ∧ Go.RowKit.Below w.heap.size w w' := by
  by_cases h : n ≤ 1048576 ∧ m ≤ 1048576
  · exact tunes_go h.1 h.2 ha ha' hs tune_facts
  · exact tunes_long (by omega)

end Go.Proofs.Ytgeiaafdholcbaa
