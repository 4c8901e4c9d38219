/-
  Angles and sines by intervals: what the program's reckoning of a tune and the reference's sine come to. Plain Lean: no program is run here.
-/
import Derived.Test.YtgeiaafdholcbaaIval
import Derived.Test.YtgeiaafdholcbaaT4
set_option linter.unusedVariables false
set_option linter.unusedSimpArgs false
namespace Go.Proofs.Ytgeiaafdholcbaa
open FT

def oneI : I := (1099511627776, 1099511627776)
def halfI : I := (549755813888, 549755813888)
def quarterI : I := (274877906944, 274877906944)
def eightI : I := (8796093022208, 8796093022208)
def fullI : I := (6908435304715, 6908435304716)
theorem one_In : In 4607182418800017408 oneI := In_const (by decide +kernel)
theorem half_In : In 4602678819172646912 halfI := In_const (by decide +kernel)
theorem quarter_In : In 4598175219545276416 quarterI := In_const (by decide +kernel)
theorem eight_In : In 4620693217682128896 eightI := In_const (by decide +kernel)
theorem full_In : In 4618760256179416344 fullI := In_const (by decide +kernel)
theorem zero_In : In 0 (0, 0) := In_const (by decide +kernel)

def rootI (s : I) : Option I := if isqrtOk s (isqrtR s) then some (isqrtR s) else none
def stepI (t : I) : Option I := do
  let tt ← imul t t
  let s ← iadd oneI tt
  let r ← rootI s
  let d ← iadd oneI r
  iquo t d
def iterI (t : I) : Nat → Option I
  | 0 => some t
  | j + 1 => do
    let t ← iterI t j
    stepI t
def polyI (u : I) : Nat → Option I
  | 0 => some (0, 0)
  | j + 1 => do
    let p ← polyI u j
    let q ← iquo oneI ((15 - 2 * (j : Int)) * 1099511627776, (15 - 2 * (j : Int)) * 1099511627776)
    let up ← imul u p
    isub q up
def serI (u : I) : Nat → Option I
  | 0 => some oneI
  | j + 1 => do
    let p ← serI u j
    let up ← imul u p
    let q ← iquo up ((2 * (8 - (j : Int)) * (2 * (8 - (j : Int)) + 1)) * 1099511627776, (2 * (8 - (j : Int)) * (2 * (8 - (j : Int)) + 1)) * 1099511627776)
    isub oneI q
def angBody (t : I) : Option I := do
  let t ← iterI t 3
  let u ← imul t t
  let p ← polyI u 8
  let tp ← imul t p
  let e ← imul eightI tp
  iquo e fullI

theorem add_sq_nonneg {x y r : Nat} {a : Rat} (hx : V64 x 1) (hy : V64 y a) (ha : 0 ≤ a) (h : fb .add .f64 x y = some r) : ∀ v, V64 r v → 0 ≤ v := by
  intro v hv
  obtain ⟨r', h1, h2⟩ := add_rnd hx hy
  have h1' : fb .add .f64 x y = some r' := h1
  rw [h] at h1'
  obtain rfl := Option.some.inj h1'
  exact h2.nonneg ok_double (by grind) hv

theorem mul_self_nonneg {x r : Nat} {a : Rat} (hx : V64 x a) (h : fb .mul .f64 x x = some r) : ∀ v, V64 r v → 0 ≤ v := by
  intro v hv
  obtain ⟨r', h1, h2⟩ := mul_rnd hx hx
  have h1' : fb .mul .f64 x x = some r' := h1
  rw [h] at h1'
  obtain rfl := Option.some.inj h1'
  exact h2.nonneg ok_double (sq_nonneg' a) hv
where
  sq_nonneg' (a : Rat) : 0 ≤ a * a := by
    rcases Rat.le_total (a := 0) (b := a) with h | h
    · exact Rat.mul_nonneg h h
    · have := Rat.mul_nonneg (show 0 ≤ -a by grind) (show 0 ≤ -a by grind)
      grind

theorem step_In {t : Nat} {a c : I} (h : In t a) (hc : stepI a = some c) : ∃ r, stepT t = some r ∧ In r c := by
  simp only [stepI, Option.bind_eq_bind, Option.bind_eq_some_iff] at hc
  obtain ⟨tt, h1, s, h2, r, h3, d, h4, h5⟩ := hc
  obtain ⟨tw, e1, k1⟩ := h.mul h h1
  obtain ⟨sw, e2, k2⟩ := one_In.add k1 h2
  obtain ⟨v, hv, _⟩ := h
  obtain ⟨v1, hv1, _⟩ := k1
  have hn1 := mul_self_nonneg hv e1 v1 hv1
  have hn := add_sq_nonneg one64_v hv1 hn1 e2
  unfold rootI at h3
  split at h3
  · rename_i hk
    obtain rfl := Option.some.inj h3
    obtain ⟨rw_, e3, k3, _⟩ := k2.sqrt hn hk
    obtain ⟨dw, e4, k4⟩ := one_In.add k3 h4
    obtain ⟨qw, e5, k5⟩ := (show In t a from ⟨v, hv, ‹_›⟩).quo k4 h5
    refine ⟨qw, ?_, k5⟩
    unfold stepT
    simp only [e1, e2, e3, e4, e5, Option.bind_eq_bind, Option.bind_some]
  · cases h3

theorem iter_In {t : Nat} {a : I} (h : In t a) : ∀ (n : Nat) {c : I}, iterI a n = some c → ∃ r, iterT t n = some r ∧ In r c := by
  intro n
  induction n with
  | zero => intro c hc; simp only [iterI, Option.some.injEq] at hc; subst hc; exact ⟨t, rfl, h⟩
  | succ n ih =>
    intro c hc
    simp only [iterI, Option.bind_eq_bind, Option.bind_eq_some_iff] at hc
    obtain ⟨d, h1, h2⟩ := hc
    obtain ⟨r, e1, k1⟩ := ih h1
    obtain ⟨r', e2, k2⟩ := step_In k1 h2
    exact ⟨r', by simp only [iterT, e1, Option.bind_eq_bind, Option.bind_some]; exact e2, k2⟩

theorem poly_In {u : Nat} {a : I} (h : In u a) : ∀ (n : Nat) {c : I}, n ≤ 8 → polyI a n = some c → ∃ r, polyB u n = some r ∧ In r c := by
  intro n
  induction n with
  | zero => intro c _ hc; simp only [polyI, Option.some.injEq] at hc; subst hc; exact ⟨0, rfl, zero_In⟩
  | succ n ih =>
    intro c hn hc
    simp only [polyI, Option.bind_eq_bind, Option.bind_eq_some_iff] at hc
    obtain ⟨p, h1, q, h2, up, h3, h4⟩ := hc
    obtain ⟨r, e1, k1⟩ := ih (by omega) h1
    obtain ⟨qw, e2, k2⟩ := one_In.quo (In_int (15 - 2 * (n : Int)) (by omega)) h2
    obtain ⟨uw, e3, k3⟩ := h.mul k1 h3
    obtain ⟨r', e4, k4⟩ := k2.sub k3 h4
    exact ⟨r', by simp only [polyB, e1, e2, e3, Option.bind_eq_bind, Option.bind_some]; exact e4, k4⟩

theorem small_num (n : Nat) (hn : n < 8) : (2 * (8 - (n : Int)) * (2 * (8 - (n : Int)) + 1)).natAbs ≤ 2 ^ 24 := by
  have : n = 0 ∨ n = 1 ∨ n = 2 ∨ n = 3 ∨ n = 4 ∨ n = 5 ∨ n = 6 ∨ n = 7 := by omega
  rcases this with rfl | rfl | rfl | rfl | rfl | rfl | rfl | rfl <;> decide

theorem ser_In {u : Nat} {a : I} (h : In u a) : ∀ (n : Nat) {c : I}, n ≤ 8 → serI a n = some c → ∃ r, serB u n = some r ∧ In r c := by
  intro n
  induction n with
  | zero => intro c _ hc; simp only [serI, Option.some.injEq] at hc; subst hc; exact ⟨_, rfl, one_In⟩
  | succ n ih =>
    intro c hn hc
    simp only [serI, Option.bind_eq_bind, Option.bind_eq_some_iff] at hc
    obtain ⟨p, h1, up, h2, q, h3, h4⟩ := hc
    obtain ⟨r, e1, k1⟩ := ih (by omega) h1
    obtain ⟨uw, e2, k2⟩ := h.mul k1 h2
    obtain ⟨qw, e3, k3⟩ := k2.quo (In_int _ (small_num n (by omega))) h3
    obtain ⟨r', e4, k4⟩ := one_In.sub k3 h4
    exact ⟨r', by simp only [serB, e1, e2, e3, Option.bind_eq_bind, Option.bind_some]; exact e4, k4⟩

/-- The angle's reckoning behind the first quotient. -/
def angT (t : Nat) : Option Nat := do
  let t ← iterT t 3
  let u ← fb .mul .f64 t t
  let p ← polyB u 8
  let tp ← fb .mul .f64 t p
  let e ← fb .mul .f64 4620693217682128896 tp
  fb .quo .f64 e 4618760256179416344

theorem body_In {t : Nat} {a c : I} (h : In t a) (hc : angBody a = some c) : ∃ r, angT t = some r ∧ In r c := by
  simp only [angBody, Option.bind_eq_bind, Option.bind_eq_some_iff] at hc
  obtain ⟨t3, h1, u, h2, p, h3, tp, h4, e, h5, h6⟩ := hc
  obtain ⟨w1, e1, k1⟩ := iter_In h 3 h1
  obtain ⟨w2, e2, k2⟩ := k1.mul k1 h2
  obtain ⟨w3, e3, k3⟩ := poly_In k2 8 (by decide) h3
  obtain ⟨w4, e4, k4⟩ := k1.mul k3 h4
  obtain ⟨w5, e5, k5⟩ := eight_In.mul k4 h5
  obtain ⟨w6, e6, k6⟩ := k5.quo full_In h6
  refine ⟨w6, ?_, k6⟩
  unfold angT
  simp only [e1, e2, e3, e4, e5, e6, Option.bind_eq_bind, Option.bind_some]

def someP (x : Option I) (P : I → Bool) : Bool := match x with | some i => P i | none => false
theorem someP_some {x : Option I} {P : I → Bool} (h : someP x P = true) : ∃ i, x = some i ∧ P i = true := by
  cases x with
  | none => cases h
  | some i => exact ⟨i, rfl, h⟩

def bigI (a b : I) : Option I := do
  let t ← iquo b a
  let n ← angBody t
  isub quarterI n
def smallI (a b : I) : Option I := do
  let t ← iquo a b
  angBody t
def angChk (a b : I) (P : I → Bool) : Bool := (decide (a.2 ≤ b.1) || someP (bigI a b) P) && (decide (b.2 < a.1) || someP (smallI a b) P)

theorem ang_In {x y : Nat} {a b : I} {P : I → Bool} (hx : In x a) (hy : In y b) (hq : ∃ r, fb .quo .f64 x y = some r) (h : angChk a b P = true) : ∃ r i, angA x y = some r ∧ In r i ∧ P i = true := by
  unfold angChk at h
  simp only [Bool.and_eq_true, Bool.or_eq_true, decide_eq_true_eq] at h
  obtain ⟨h1, h2⟩ := h
  obtain ⟨t0, ht0⟩ := hq
  by_cases hb : bigB x y = true
  · have hlt := (hx.gt hy).1 hb
    rcases h1 with h1 | h1
    · omega
    obtain ⟨i, h3, h4⟩ := someP_some h1
    simp only [bigI, Option.bind_eq_bind, Option.bind_eq_some_iff] at h3
    obtain ⟨t, h5, n, h6, h7⟩ := h3
    obtain ⟨w1, e1, k1⟩ := hy.quo hx h5
    obtain ⟨w2, e2, k2⟩ := body_In k1 h6
    obtain ⟨w3, e3, k3⟩ := quarter_In.sub k2 h7
    refine ⟨w3, i, ?_, k3, h4⟩
    simp only [angT, Option.bind_eq_bind, Option.bind_eq_some_iff] at e2
    obtain ⟨z1, y1, z2, y2, z3, y3, z4, y4, z5, y5, y6⟩ := e2
    unfold angA pickT turnQ
    simp only [ht0, hb, if_true, e1, y1, y2, y3, y4, y5, y6, e3, Option.bind_eq_bind, Option.bind_some]
  · have hb' : bigB x y = false := by simpa using hb
    have hlt := (hx.gt hy).2 hb'
    rcases h2 with h2 | h2
    · omega
    obtain ⟨i, h3, h4⟩ := someP_some h2
    simp only [smallI, Option.bind_eq_bind, Option.bind_eq_some_iff] at h3
    obtain ⟨t, h5, h6⟩ := h3
    obtain ⟨w1, e1, k1⟩ := hx.quo hy h5
    obtain ⟨w2, e2, k2⟩ := body_In k1 h6
    refine ⟨w2, i, ?_, k2, h4⟩
    simp only [angT, Option.bind_eq_bind, Option.bind_eq_some_iff] at e2
    obtain ⟨z1, y1, z2, y2, z3, y3, z4, y4, z5, y5, y6⟩ := e2
    unfold angA pickT turnQ
    rw [ht0] at e1
    obtain rfl := Option.some.inj e1
    simp only [ht0, hb', Bool.false_eq_true, if_false, y1, y2, y3, y4, y5, y6, Option.bind_eq_bind, Option.bind_some]

/-! ## The sine -/

def lastI (g : I) : Option I := do
  let z ← imul g fullI
  let u ← imul z z
  let p ← serI u 8
  imul z p
def turnI (s : Bool) (o : I) : I := if s then (-o.2, -o.1) else o
def st4 (P : I → Bool) (s : Bool) (g : I) : Bool := someP (lastI g) fun o => P (turnI s o)
def st3 (P : I → Bool) (s : Bool) (g : I) : Bool := (decide (g.2 ≤ 274877906944) || someP (isub halfI g) (st4 P s)) && (decide (274877906944 < g.1) || st4 P s g)
def st2 (P : I → Bool) (f : I) : Bool := (decide (f.2 < 549755813888) || someP (isub f halfI) (st3 P true)) && (decide (549755813888 ≤ f.1) || st3 P false f)
def st1 (P : I → Bool) (f : I) : Bool := (decide (0 ≤ f.1) || someP (iadd f oneI) (st2 P)) && (decide (f.2 < 0) || st2 P f)
def sinChk (q : I) (P : I → Bool) : Bool := someP (isub q (0, 0)) (st1 P)

def w4 (s : Bool) (f : Nat) : Option Nat := do
  let z ← fb .mul .f64 f 4618760256179416344
  let u ← fb .mul .f64 z z
  let p ← serB u 8
  let o ← fb .mul .f64 z p
  return signB s o

theorem st4_In {P : I → Bool} {s : Bool} {g : I} {f : Nat} (hf : In f g) (h : st4 P s g = true) : ∃ r i, w4 s f = some r ∧ In r i ∧ P i = true := by
  obtain ⟨o, h1, h2⟩ := someP_some h
  simp only [lastI, Option.bind_eq_bind, Option.bind_eq_some_iff] at h1
  obtain ⟨z, h3, u, h4, p, h5, h6⟩ := h1
  obtain ⟨w1, e1, k1⟩ := hf.mul full_In h3
  obtain ⟨w2, e2, k2⟩ := k1.mul k1 h4
  obtain ⟨w3, e3, k3⟩ := ser_In k2 8 (by decide) h5
  obtain ⟨w5, e5, k5⟩ := k1.mul k3 h6
  refine ⟨signB s w5, turnI s o, ?_, ?_, h2⟩
  · unfold w4
    simp only [e1, e2, e3, e5, Option.bind_eq_bind, Option.bind_some, Option.pure_def]
  · unfold signB turnI
    cases s
    · exact k5
    · exact k5.neg

theorem st3_In {P : I → Bool} {s : Bool} {g : I} {f : Nat} (hf : In f g) (h : st3 P s g = true) : ∃ r i x, foldB f = some x ∧ w4 s x = some r ∧ In r i ∧ P i = true := by
  unfold st3 at h
  simp only [Bool.and_eq_true, Bool.or_eq_true, decide_eq_true_eq] at h
  obtain ⟨h1, h2⟩ := h
  unfold foldB
  by_cases hb : gt64 f 4598175219545276416 = true
  · have hlt := (hf.gt quarter_In).1 hb
    simp only [quarterI] at hlt
    rcases h1 with h1 | h1
    · omega
    obtain ⟨i, h3, h4⟩ := someP_some h1
    obtain ⟨x, e1, k1⟩ := half_In.sub hf h3
    obtain ⟨r, i, e2, k2, k3⟩ := st4_In k1 h4
    exact ⟨r, i, x, by rw [if_pos hb]; exact e1, e2, k2, k3⟩
  · have hb' : gt64 f 4598175219545276416 = false := by simpa using hb
    have hlt := (hf.gt quarter_In).2 hb'
    simp only [quarterI] at hlt
    rcases h2 with h2 | h2
    · omega
    obtain ⟨r, i, e2, k2, k3⟩ := st4_In hf h2
    exact ⟨r, i, f, by rw [if_neg hb], e2, k2, k3⟩

theorem st2_In {P : I → Bool} {g : I} {f : Nat} (hf : In f g) (h : st2 P g = true) : ∃ r i x y, offB 0 f = some x ∧ foldB x = some y ∧ w4 (ge64 f 4602678819172646912) y = some r ∧ In r i ∧ P i = true := by
  unfold st2 at h
  simp only [Bool.and_eq_true, Bool.or_eq_true, decide_eq_true_eq] at h
  obtain ⟨h1, h2⟩ := h
  unfold offB
  by_cases hb : ge64 f 4602678819172646912 = true
  · have hlt := (hf.ge half_In).1 hb
    simp only [halfI] at hlt
    rcases h1 with h1 | h1
    · omega
    obtain ⟨i, h3, h4⟩ := someP_some h1
    obtain ⟨x, e1, k1⟩ := hf.sub half_In h3
    obtain ⟨r, i, y, e2, e3, k2, k3⟩ := st3_In k1 h4
    exact ⟨r, i, x, y, by rw [if_pos hb]; exact e1, e2, by rw [hb]; exact e3, k2, k3⟩
  · have hb' : ge64 f 4602678819172646912 = false := by simpa using hb
    have hlt := (hf.ge half_In).2 hb'
    simp only [halfI] at hlt
    rcases h2 with h2 | h2
    · omega
    obtain ⟨r, i, y, e2, e3, k2, k3⟩ := st3_In hf h2
    exact ⟨r, i, f, y, by rw [if_neg hb], e2, by rw [hb']; exact e3, k2, k3⟩

theorem sin_In {P : I → Bool} {q : I} {t : Nat} (ht : In t q) (h : sinChk q P = true) : ∃ r i, wideB t = some r ∧ In r i ∧ P i = true := by
  obtain ⟨g, h1, h2⟩ := someP_some h
  obtain ⟨f, e1, k1⟩ := ht.sub zero_In h1
  unfold st1 at h2
  simp only [Bool.and_eq_true, Bool.or_eq_true, decide_eq_true_eq] at h2
  obtain ⟨h3, h4⟩ := h2
  have fin : ∀ {f0 : Nat} {g0 : I}, upB f = some f0 → In f0 g0 → st2 P g0 = true → ∃ r i, wideB t = some r ∧ In r i ∧ P i = true := by
    intro f0 g0 hu k h
    obtain ⟨r, i, x, y, e2, e3, e4, k2, k3⟩ := st2_In k h
    simp only [w4, Option.bind_eq_bind, Option.bind_eq_some_iff, Option.pure_def, Option.some.injEq] at e4
    obtain ⟨z1, y1, z2, y2, z3, y3, z4, y4, y5⟩ := e4
    have e2' : offB t f0 = some x := e2
    refine ⟨r, i, ?_, k2, k3⟩
    unfold wideB
    simp only [e1, hu, e2', e3, y1, y2, y3, y4, y5, Option.bind_eq_bind, Option.bind_some, Option.pure_def]
  by_cases hb : lt64 f 0 = true
  · have hlt := (k1.lt zero_In).1 hb
    rcases h3 with h3 | h3
    · exact absurd hlt (by simp only; omega)
    obtain ⟨i, h5, h6⟩ := someP_some h3
    obtain ⟨x, e2, k2⟩ := k1.add one_In h5
    exact fin (by unfold upB; rw [if_pos hb]; exact e2) k2 h6
  · have hb' : lt64 f 0 = false := by simpa using hb
    have hlt := (k1.lt zero_In).2 hb'
    rcases h4 with h4 | h4
    · exact absurd hlt (by simp only; omega)
    exact fin (by unfold upB; rw [if_neg hb]) k1 h4

end Go.Proofs.Ytgeiaafdholcbaa
