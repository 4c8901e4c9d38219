/-
  Words of binary floating point as rational numbers: what a word stands for, how far a rounded word is from the exact number, when it is exact, and what each operation of the model gives. Plain Lean: no program.
-/
import Ieee.Arith
set_option linter.unusedVariables false
set_option linter.unusedSimpArgs false
namespace Go.Proofs.Ytgeiaafdholcbaa.FT
open Ieee

def pw (e : Int) : Rat := (2 : Rat) ^ e

theorem pw_pos (e : Int) : 0 < pw e := Rat.zpow_pos (by decide)
theorem pw_ne (e : Int) : pw e ≠ 0 := Rat.ne_of_gt (pw_pos e)
theorem pw_add (a b : Int) : pw (a + b) = pw a * pw b := Rat.zpow_add (by decide) a b
theorem pw_zero : pw 0 = 1 := Rat.zpow_zero 2
theorem pw_nat (n : Nat) : pw (n : Int) = ((2 ^ n : Nat) : Rat) := by
  unfold pw
  rw [Rat.zpow_natCast, Rat.natCast_pow]
  rfl
theorem pw_one : pw 1 = 2 := Rat.zpow_one 2
theorem pw_succ (e : Int) : pw (e + 1) = 2 * pw e := by rw [pw_add, pw_one, Rat.mul_comm]
theorem pw_toNat {a b : Int} (h : b ≤ a) : pw a = ((2 ^ (a - b).toNat : Nat) : Rat) * pw b := by
  rw [← pw_nat, ← pw_add]
  congr 1
  omega
theorem pw_le {a b : Int} (h : a ≤ b) : pw a ≤ pw b := by
  rw [pw_toNat h]
  have h1 : (1 : Rat) ≤ ((2 ^ (b - a).toNat : Nat) : Rat) := by
    have : (1 : Nat) ≤ 2 ^ (b - a).toNat := Nat.one_le_two_pow
    exact_mod_cast this
  have := Rat.mul_le_mul_of_nonneg_right h1 (Rat.le_of_lt (pw_pos a))
  rwa [Rat.one_mul] at this
theorem pw_lt {a b : Int} (h : a < b) : pw a < pw b := by
  have h1 := pw_le (a := a + 1) (b := b) (by omega)
  rw [pw_succ] at h1
  have h2 := pw_pos a
  grind
theorem lt_of_pw {a b : Int} (h : pw a < pw b) : a < b := by
  rcases Int.lt_or_le a b with h1 | h1
  · exact h1
  · exact absurd (pw_le h1) (Rat.not_le.2 h)

def sgn (s : Bool) : Rat := if s then -1 else 1
def dval (s : Bool) (m : Nat) (e : Int) : Rat := sgn s * ((m : Rat) * pw e)

/-- The word is a finite one, of this value. -/
def Val (f : Format) (w : Nat) (v : Rat) : Prop := ∃ s m e, f.read w = .number s m e ∧ v = dval s m e

/-- The word comes of rounding this number. -/
def Rnd (f : Format) (x : Rat) (w : Nat) : Prop := ∃ s m e, dval s m e = x ∧ w = f.nearest s m e

def fok (f : Format) : Prop := 2 ≤ f.exponentBits ∧ 2 ≤ f.fractionBits
theorem ok_single : fok single := by unfold fok single; decide
theorem ok_double : fok double := by unfold fok double; decide

theorem binade_pos (f : Format) : 0 < f.binade := Nat.two_pow_pos _

theorem weight_eq (f : Format) : f.signWeight = 2 ^ f.exponentBits * f.binade := by
  unfold Format.signWeight Format.binade; rw [Nat.pow_add]

theorem inf_lt (f : Format) : f.infRung < f.signWeight := by
  rw [weight_eq]
  unfold Format.infRung
  have h := Nat.two_pow_pos f.exponentBits
  have hb := binade_pos f
  exact Nat.mul_lt_mul_of_pos_right (by omega) hb

/-- Reading a word made of a sign and a rung below that of infinity. -/
theorem read_word (f : Format) (s : Bool) (r : Nat) (h : r < f.infRung) :
    f.read (f.word s r) = if r < f.binade then .number s r f.leastPlace
      else .number s (f.binade + r % f.binade) (f.leastPlace + (r / f.binade - 1 : Nat)) := by
  have hi := inf_lt f
  have h1 : f.word s r % f.signWeight = r := by
    unfold Format.word
    cases s
    · simp only [Bool.false_eq_true, if_false]
      exact Nat.mod_eq_of_lt (by omega)
    · simp only [if_true]
      rw [Nat.add_mod_left]
      exact Nat.mod_eq_of_lt (by omega)
  have h2 : (f.word s r / f.signWeight % 2 == 1) = s := by
    unfold Format.word
    cases s
    · simp only [Bool.false_eq_true, if_false]
      rw [Nat.div_eq_of_lt (by omega)]
      rfl
    · simp only [if_true]
      rw [Nat.add_div_left _ (by omega), Nat.div_eq_of_lt (by omega)]
      rfl
  unfold Format.read
  simp only [h1, h2]
  by_cases hb : r < f.binade
  · simp [hb]
  · simp [hb, h]

/-- What a rung below infinity's, made of a place and kept digits, stands for. -/
theorem val_rung (f : Format) (s : Bool) (q kept : Nat) (hk : kept ≤ 2 * f.binade) (hq : 0 < q → f.binade ≤ kept)
    (h : q * f.binade + kept < f.infRung) : Val f (f.word s (q * f.binade + kept)) (dval s kept (f.leastPlace + q)) := by
  have hb := binade_pos f
  have hr := read_word f s _ h
  by_cases h1 : q * f.binade + kept < f.binade
  · have hq0 : q = 0 := by
      rcases Nat.eq_zero_or_pos q with h0 | h0
      · exact h0
      · have := hq h0
        have := Nat.le_mul_of_pos_left f.binade h0
        omega
    subst hq0
    simp only [Nat.zero_mul, Nat.zero_add] at hr h1 ⊢
    rw [if_pos h1] at hr
    exact ⟨s, kept, f.leastPlace, hr, by simp⟩
  · rw [if_neg h1] at hr
    refine ⟨s, _, _, hr, ?_⟩
    unfold dval
    congr 1
    by_cases h2 : kept = 2 * f.binade
    · subst h2
      have e1 : q * f.binade + 2 * f.binade = (q + 2) * f.binade := by rw [Nat.add_mul]
      rw [e1, Nat.mul_mod_left, Nat.mul_div_cancel _ hb]
      have e2 : (f.leastPlace + ((q + 2 - 1 : Nat) : Int)) = (f.leastPlace + q) + 1 := by omega
      rw [e2, pw_succ]
      simp only [Nat.add_zero, Rat.natCast_mul]
      grind
    · by_cases h3 : f.binade ≤ kept
      · have e1 : q * f.binade + kept = (kept - f.binade) + (q + 1) * f.binade := by rw [Nat.add_mul]; omega
        rw [e1, Nat.add_mul_mod_self_right, Nat.add_mul_div_right _ _ hb, Nat.mod_eq_of_lt (by omega), Nat.div_eq_of_lt (by omega)]
        have e2 : (f.leastPlace + ((0 + (q + 1) - 1 : Nat) : Int)) = f.leastPlace + q := by omega
        have e3 : f.binade + (kept - f.binade) = kept := by omega
        rw [e2, e3]
      · exfalso
        rcases Nat.eq_zero_or_pos q with h0 | h0
        · subst h0; omega
        · have := hq h0; omega

/-- The top of what is surely finite. -/
def top (f : Format) : Rat := pw (f.leastPlace + f.fractionBits + (2 ^ f.exponentBits - 3 : Nat))

/-- The cut to the nearest, ties to even: within half a unit. -/
theorem cut_even (s : Bool) (n d : Nat) (hn : 0 < n) :
    2 * (Toward.even.cut s n d * 2 ^ d) ≤ 2 * n + 2 ^ d ∧ 2 * n ≤ 2 * (Toward.even.cut s n d * 2 ^ d) + 2 ^ d := by
  unfold Toward.cut
  have hlog : n < 2 ^ (n.log2 + 1) := Nat.lt_log2_self
  simp only [Nat.one_shiftLeft]
  by_cases hd : d ≤ n.log2 + 2
  · rw [Nat.min_eq_left hd]
    have hg : 0 < 2 ^ d := Nat.two_pow_pos d
    generalize 2 ^ d = g at *
    have e := Nat.div_add_mod n g
    have hlt := Nat.mod_lt n hg
    have ec : n / g * g = g * (n / g) := Nat.mul_comm _ _
    by_cases hm : (decide (g < 2 * (n % g)) || (g == 2 * (n % g) && n / g % 2 == 1)) = true
    · rw [hm]
      have h1 : g ≤ 2 * (n % g) := by
        simp only [Bool.or_eq_true, decide_eq_true_eq, Bool.and_eq_true, beq_iff_eq] at hm
        omega
      simp only [Bool.toNat_true]
      rw [Nat.add_mul]
      omega
    · have hm' : (decide (g < 2 * (n % g)) || (g == 2 * (n % g) && n / g % 2 == 1)) = false := by simpa using hm
      rw [hm']
      have h1 : 2 * (n % g) ≤ g := by
        simp only [Bool.or_eq_false_iff, decide_eq_false_iff_not] at hm'
        omega
      simp only [Bool.toNat_false, Nat.add_zero]
      omega
  · rw [Nat.min_eq_right (by omega)]
    have h2 : n < 2 ^ (n.log2 + 2) := Nat.lt_of_lt_of_le hlog (Nat.pow_le_pow_right (by decide) (by omega))
    have h3 : 2 * n < 2 ^ (n.log2 + 2) := by
      rw [Nat.pow_succ] at *
      omega
    have h4 : 2 ^ (n.log2 + 2) ≤ 2 ^ d := Nat.pow_le_pow_right (by decide) (by omega)
    rw [Nat.div_eq_of_lt h2, Nat.mod_eq_of_lt h2]
    have h5 : (decide (2 ^ (n.log2 + 2) < 2 * n) || (2 ^ (n.log2 + 2) == 2 * n && 0 % 2 == 1)) = false := by
      simp; omega
    rw [h5]
    simp only [Bool.toNat_false, Nat.add_zero, Nat.zero_mul, Nat.mul_zero]
    omega

theorem cut_zero (s : Bool) (n : Nat) : Toward.even.cut s n 0 = n := by
  unfold Toward.cut
  simp [Nat.mod_one]

/-- Below 2^a in, at most 2^(a-d) out. -/
theorem cut_le (s : Bool) (n d a : Nat) (hn : n < 2 ^ (a + d)) : Toward.even.cut s n d ≤ 2 ^ a := by
  rcases Nat.eq_zero_or_pos n with h0 | h0
  · subst h0
    have : Toward.even.cut s 0 d = 0 := by
      unfold Toward.cut
      have hg : 0 < 1 <<< min d (Nat.log2 0 + 2) := by rw [Nat.one_shiftLeft]; exact Nat.two_pow_pos _
      generalize 1 <<< min d (Nat.log2 0 + 2) = g at *
      have h5 : (decide (g < 2 * (0 % g)) || (g == 2 * (0 % g) && 0 / g % 2 == 1)) = false := by simp
      simp only [h5]
      simp
    rw [this]; exact Nat.zero_le _
  · have h := (cut_even s n d h0).1
    have e : 2 ^ (a + d) = 2 ^ a * 2 ^ d := Nat.pow_add 2 a d
    rw [e] at hn
    have hg : 0 < 2 ^ d := Nat.two_pow_pos d
    rcases Nat.lt_or_ge (2 ^ a) (Toward.even.cut s n d) with h1 | h1
    · have h2 : (2 ^ a + 1) * 2 ^ d ≤ Toward.even.cut s n d * 2 ^ d := Nat.mul_le_mul_right _ h1
      rw [Nat.add_mul] at h2
      omega
    · exact h1

/-- At least 2^a in, at least 2^(a-d) out. -/
theorem cut_ge (s : Bool) (n d a : Nat) (hn : 2 ^ (a + d) ≤ n) : 2 ^ a ≤ Toward.even.cut s n d := by
  have h0 : 0 < n := Nat.lt_of_lt_of_le (Nat.two_pow_pos _) hn
  have h := (cut_even s n d h0).2
  have e : 2 ^ (a + d) = 2 ^ a * 2 ^ d := Nat.pow_add 2 a d
  rw [e] at hn
  have hg : 0 < 2 ^ d := Nat.two_pow_pos d
  rcases Nat.lt_or_ge (Toward.even.cut s n d) (2 ^ a) with h1 | h1
  · have h2 : (Toward.even.cut s n d + 1) * 2 ^ d ≤ 2 ^ a * 2 ^ d := Nat.mul_le_mul_right _ h1
    rw [Nat.add_mul] at h2
    omega
  · exact h1

theorem dval_zero (s : Bool) (e : Int) : dval s 0 e = 0 := by unfold dval; simp [Rat.zero_mul, Rat.mul_zero]

theorem val_zero_word (f : Format) (hf : fok f) (s : Bool) : Val f (f.word s 0) 0 := by
  have hb := binade_pos f
  have hi : 0 < f.infRung := by
    unfold Format.infRung
    have : 2 ^ 2 ≤ 2 ^ f.exponentBits := Nat.pow_le_pow_right (by decide) hf.1
    exact Nat.mul_pos (by omega) hb
  have hr := read_word f s 0 hi
  rw [if_pos hb] at hr
  exact ⟨s, 0, _, hr, (dval_zero _ _).symm⟩

/-- Rounding: what is kept, at which place, and how near. -/
theorem near (f : Format) (hf : fok f) (s : Bool) (m : Nat) (e : Int) (h0 : 0 < m) (ht : (m : Rat) * pw e < top f) :
    ∃ (kept : Nat) (last : Int), Val f (f.nearest s m e) (dval s kept last) ∧ f.leastPlace ≤ last ∧
      (last = f.leastPlace ∨ pw (last + f.fractionBits) ≤ (m : Rat) * pw e) ∧
      2 * ((kept : Rat) * pw last) ≤ 2 * ((m : Rat) * pw e) + pw last ∧ 2 * ((m : Rat) * pw e) ≤ 2 * ((kept : Rat) * pw last) + pw last := by
  have hl1 : 2 ^ m.log2 ≤ m := Nat.log2_self_le (by omega)
  have hl2 : m < 2 ^ (m.log2 + 1) := Nat.lt_log2_self
  have hlow : pw (m.log2 + e) ≤ (m : Rat) * pw e := by
    rw [pw_add, pw_nat]
    exact Rat.mul_le_mul_of_nonneg_right (by exact_mod_cast hl1) (Rat.le_of_lt (pw_pos e))
  obtain ⟨last, hlast⟩ : ∃ last, last = max (e + m.log2 - f.fractionBits) f.leastPlace := ⟨_, rfl⟩
  obtain ⟨kept, hkept⟩ : ∃ kept, kept = Toward.even.cut s (m <<< (e - last).toNat) (last - e).toNat := ⟨_, rfl⟩
  have hge : f.leastPlace ≤ last := by omega
  have hB : f.binade = 2 ^ f.fractionBits := rfl
  have hne : f.nearest s m e = f.word s (min ((last - f.leastPlace).toNat * f.binade + kept) f.infRung) := by
    unfold Format.nearest
    rw [if_neg (by omega)]
    simp only [← hlast, ← hkept]
  have hn1 : m <<< (e - last).toNat < 2 ^ (f.fractionBits + 1 + (last - e).toNat) := by
    rw [Nat.shiftLeft_eq]
    have h1 : m * 2 ^ (e - last).toNat < 2 ^ (m.log2 + 1) * 2 ^ (e - last).toNat := Nat.mul_lt_mul_of_pos_right hl2 (Nat.two_pow_pos _)
    rw [← Nat.pow_add] at h1
    exact Nat.lt_of_lt_of_le h1 (Nat.pow_le_pow_right (by decide) (by omega))
  have hk1 : kept ≤ 2 * f.binade := by
    have := cut_le s _ _ _ hn1
    rw [← hkept, Nat.pow_succ] at this
    omega
  have hk2 : f.leastPlace < last → f.binade ≤ kept := by
    intro h
    have e1 : last = e + m.log2 - f.fractionBits := by omega
    have h1 : 2 ^ (f.fractionBits + (last - e).toNat) ≤ m <<< (e - last).toNat := by
      rw [Nat.shiftLeft_eq]
      have h2 : 2 ^ m.log2 * 2 ^ (e - last).toNat ≤ m * 2 ^ (e - last).toNat := Nat.mul_le_mul_right _ hl1
      rw [← Nat.pow_add] at h2
      exact Nat.le_trans (Nat.pow_le_pow_right (by decide) (by omega)) h2
    have := cut_ge s _ _ _ h1
    rw [← hkept] at this
    exact this
  have hlt : (last - f.leastPlace).toNat + 3 < 2 ^ f.exponentBits := by
    have hp : 2 ^ 2 ≤ 2 ^ f.exponentBits := Nat.pow_le_pow_right (by decide) hf.1
    rcases Int.lt_or_le f.leastPlace last with h | h
    · have e1 : last = e + m.log2 - f.fractionBits := by omega
      have h1 : pw (m.log2 + e) < top f := by grind
      have h2 := lt_of_pw h1
      omega
    · omega
  have hrung : (last - f.leastPlace).toNat * f.binade + kept < f.infRung := by
    have h1 : ((last - f.leastPlace).toNat + 2) * f.binade < (2 ^ f.exponentBits - 1) * f.binade := Nat.mul_lt_mul_of_pos_right (by omega) (binade_pos f)
    rw [Nat.add_mul] at h1
    unfold Format.infRung
    omega
  have hval := val_rung f s (last - f.leastPlace).toNat kept hk1 (fun h => hk2 (by omega)) hrung
  have e2 : f.leastPlace + ((last - f.leastPlace).toNat : Int) = last := by omega
  rw [e2] at hval
  rw [Nat.min_eq_left (Nat.le_of_lt hrung)] at hne
  have hpl := pw_pos last
  refine ⟨kept, last, by rw [hne]; exact hval, hge, ?_, ?_⟩
  · rcases Int.lt_or_le f.leastPlace last with h | h
    · right
      have e1 : last + f.fractionBits = m.log2 + e := by omega
      rw [e1]; exact hlow
    · left; omega
  · rcases Int.lt_or_le e last with h | h
    · have e1 : (e - last).toNat = 0 := by omega
      rw [e1, Nat.shiftLeft_zero] at hkept
      obtain ⟨c1, c2⟩ := cut_even s m (last - e).toNat h0
      rw [← hkept] at c1 c2
      have ep := pw_toNat (a := last) (b := e) (by omega)
      have hpe := pw_pos e
      rw [ep]
      generalize 2 ^ (last - e).toNat = g at *
      have c1' : 2 * ((kept : Rat) * (g : Rat)) ≤ 2 * (m : Rat) + (g : Rat) := by exact_mod_cast c1
      have c2' : 2 * (m : Rat) ≤ 2 * ((kept : Rat) * (g : Rat)) + (g : Rat) := by exact_mod_cast c2
      have d1 := Rat.mul_le_mul_of_nonneg_right c1' (Rat.le_of_lt hpe)
      have d2 := Rat.mul_le_mul_of_nonneg_right c2' (Rat.le_of_lt hpe)
      constructor <;> grind
    · have e1 : (last - e).toNat = 0 := by omega
      rw [e1, cut_zero, Nat.shiftLeft_eq] at hkept
      have ep := pw_toNat (a := e) (b := last) h
      have hk : (kept : Rat) * pw last = (m : Rat) * pw e := by
        rw [ep, hkept, Rat.natCast_mul]
        grind
      rw [hk]
      constructor <;> grind

/-- The unit of a format, and its least half step. -/
def unit (f : Format) : Rat := pw (-(f.fractionBits : Int) - 1)
def tiny (f : Format) : Rat := pw (f.leastPlace - 1)

theorem abs_le {x b : Rat} : x.abs ≤ b ↔ -b ≤ x ∧ x ≤ b := by
  constructor
  · intro h
    rcases Rat.le_total (a := 0) (b := x) with h1 | h1
    · rw [Rat.abs_of_nonneg h1] at h
      constructor <;> grind
    · rw [Rat.abs_of_nonpos h1] at h
      constructor <;> grind
  · intro ⟨h1, h2⟩
    rcases Rat.le_total (a := 0) (b := x) with h3 | h3
    · rw [Rat.abs_of_nonneg h3]; exact h2
    · rw [Rat.abs_of_nonpos h3]; grind

theorem abs_dval (s : Bool) (m : Nat) (e : Int) : (dval s m e).abs = (m : Rat) * pw e := by
  have h : 0 ≤ (m : Rat) * pw e := Rat.mul_nonneg Rat.natCast_nonneg (Rat.le_of_lt (pw_pos e))
  unfold dval sgn
  cases s
  · simp only [Bool.false_eq_true, if_false, Rat.one_mul]; exact Rat.abs_of_nonneg h
  · simp only [if_true]
    rw [show (-1 : Rat) * ((m : Rat) * pw e) = -((m : Rat) * pw e) from by grind, Rat.abs_neg]
    exact Rat.abs_of_nonneg h

theorem Val.unique {f : Format} {w : Nat} {v v' : Rat} (h : Val f w v) (h' : Val f w v') : v = v' := by
  obtain ⟨s, m, e, h1, rfl⟩ := h
  obtain ⟨s', m', e', h2, rfl⟩ := h'
  rw [h1] at h2
  cases h2
  rfl

/-- A rounded number is finite and near. -/
theorem Rnd.val {f : Format} (hf : fok f) {x : Rat} {w : Nat} (h : Rnd f x w) (ht : x.abs < top f) :
    ∃ v, Val f w v ∧ (v - x).abs ≤ x.abs * unit f + tiny f := by
  obtain ⟨s, m, e, rfl, rfl⟩ := h
  rw [abs_dval] at ht ⊢
  have ht0 : 0 < tiny f := pw_pos _
  have hu0 : 0 < unit f := pw_pos _
  rcases Nat.eq_zero_or_pos m with h0 | h0
  · subst h0
    refine ⟨0, ?_, ?_⟩
    · unfold Format.nearest; rw [if_pos rfl]; exact val_zero_word f hf s
    · rw [dval_zero]
      rw [abs_le]
      constructor <;> grind
  · obtain ⟨kept, last, hv, _, hl, h1, h2⟩ := near f hf s m e h0 ht
    refine ⟨_, hv, ?_⟩
    have hb : pw last ≤ 2 * ((m : Rat) * pw e * unit f + tiny f) := by
      have hm : 0 ≤ (m : Rat) * pw e := Rat.mul_nonneg Rat.natCast_nonneg (Rat.le_of_lt (pw_pos e))
      rcases hl with hl | hl
      · have e1 : pw last = 2 * tiny f := by
          unfold tiny
          rw [← pw_succ, hl]; congr 1; omega
        have := Rat.mul_nonneg hm (Rat.le_of_lt hu0)
        grind
      · have e1 : pw last = 2 * (pw (last + f.fractionBits) * unit f) := by
          unfold unit
          rw [← pw_add, ← pw_succ]; congr 1; omega
        have := Rat.mul_le_mul_of_nonneg_right hl (Rat.le_of_lt hu0)
        grind
    rw [abs_le]
    unfold dval sgn
    cases s <;> simp only [Bool.false_eq_true, if_false, if_true] <;> constructor <;> grind

/-- A number that the format has is met. -/
theorem Rnd.exact {f : Format} (hf : fok f) {x : Rat} {w : Nat} (h : Rnd f x w) (ht : x.abs < top f)
    (k : Int) (q : Int) (hk : k.natAbs ≤ 2 ^ (f.fractionBits + 1)) (hq : f.leastPlace ≤ q) (hx : x = (k : Rat) * pw q) : Val f w x := by
  obtain ⟨s, m, e, hd, rfl⟩ := h
  have habs : (m : Rat) * pw e = (k.natAbs : Rat) * pw q := by
    rw [← abs_dval s, hd, hx]
    have hq0 := pw_pos q
    rcases Int.le_total 0 k with hk0 | hk0
    · have e1 : (k : Rat) = (k.natAbs : Rat) := by
        rw [← Rat.intCast_natCast]; congr 1; omega
      rw [e1]
      exact Rat.abs_of_nonneg (Rat.mul_nonneg Rat.natCast_nonneg (Rat.le_of_lt hq0))
    · have e1 : (k : Rat) = -(k.natAbs : Rat) := by
        rw [← Rat.intCast_natCast, ← Rat.intCast_neg]; congr 1; omega
      rw [e1, Rat.neg_mul, Rat.abs_neg]
      exact Rat.abs_of_nonneg (Rat.mul_nonneg Rat.natCast_nonneg (Rat.le_of_lt hq0))
  rw [← hd, abs_dval] at ht
  rcases Nat.eq_zero_or_pos m with h0 | h0
  · subst h0
    rw [dval_zero] at hd
    subst hd
    unfold Format.nearest; rw [if_pos rfl]; exact val_zero_word f hf s
  · obtain ⟨kept, last, hv, hge, hl, h1, h2⟩ := near f hf s m e h0 ht
    have hkpos : 0 < k.natAbs := by
      rcases Nat.eq_zero_or_pos k.natAbs with h3 | h3
      · rw [h3] at habs
        have h4 : 0 < (m : Rat) * pw e := Rat.mul_pos (Rat.natCast_pos.2 h0) (pw_pos e)
        rw [habs] at h4
        simp at h4
      · exact h3
    -- a spelling of k with fewer digits
    obtain ⟨K, Q, hKQ, hKlt, hQ⟩ : ∃ (K : Nat) (Q : Int), (k.natAbs : Rat) * pw q = (K : Rat) * pw Q ∧ K < 2 ^ (f.fractionBits + 1) ∧ f.leastPlace ≤ Q := by
      rcases Nat.lt_or_ge k.natAbs (2 ^ (f.fractionBits + 1)) with h3 | h3
      · exact ⟨_, _, rfl, h3, hq⟩
      · refine ⟨2 ^ f.fractionBits, q + 1, ?_, ?_, by omega⟩
        · have : k.natAbs = 2 * 2 ^ f.fractionBits := by rw [Nat.pow_succ] at *; omega
          rw [this, pw_succ, Rat.natCast_mul]
          grind
        · exact Nat.pow_lt_pow_right (by decide) (by omega)
    rw [hKQ] at habs
    have hlQ : last ≤ Q := by
      rcases hl with hl | hl
      · omega
      · rw [habs] at hl
        have h3 : (K : Rat) * pw Q < pw (f.fractionBits + 1 + Q) := by
          rw [pw_add (f.fractionBits + 1 : Int), show ((f.fractionBits : Int) + 1) = ((f.fractionBits + 1 : Nat) : Int) from by omega, pw_nat]
          exact Rat.mul_lt_mul_of_pos_right (by exact_mod_cast hKlt) (pw_pos Q)
        have h4 := lt_of_pw (Rat.not_le.1 (fun h5 => absurd (Rat.le_trans h5 hl) (Rat.not_le.2 h3)))
        omega
    have ep := pw_toNat (a := Q) (b := last) hlQ
    rw [habs, ep] at h1 h2
    have hpl := pw_pos last
    have hkept : kept = K * 2 ^ (Q - last).toNat := by
      have i1 : 2 * (kept : Rat) * pw last ≤ (2 * ((K : Rat) * ((2 ^ (Q - last).toNat : Nat) : Rat)) + 1) * pw last := by grind
      have i2 : 2 * ((K : Rat) * ((2 ^ (Q - last).toNat : Nat) : Rat)) * pw last ≤ (2 * (kept : Rat) + 1) * pw last := by grind
      have j1 := Rat.le_of_mul_le_mul_right i1 hpl
      have j2 := Rat.le_of_mul_le_mul_right i2 hpl
      have k1 : 2 * kept ≤ 2 * (K * 2 ^ (Q - last).toNat) + 1 := by exact_mod_cast j1
      have k2 : 2 * (K * 2 ^ (Q - last).toNat) ≤ 2 * kept + 1 := by exact_mod_cast j2
      omega
    have hfin : (kept : Rat) * pw last = (m : Rat) * pw e := by
      rw [habs, ep, hkept, Rat.natCast_mul]
      grind
    have : dval s kept last = x := by
      rw [← hd]; unfold dval; rw [hfin]
    rw [← this]; exact hv


theorem zero_sub_abs : ((0 : Rat) - 0).abs ≤ 0 := by decide +kernel

theorem signed_val (s : Bool) (m : Nat) {i base : Int} (h : base ≤ i) : ((signed s m (i - base).toNat : Int) : Rat) * pw base = dval s m i := by
  unfold signed dval sgn
  rw [pw_toNat h, Nat.shiftLeft_eq]
  cases s
  · simp only [Bool.false_eq_true, if_false, Rat.intCast_natCast, Rat.natCast_mul]
    grind
  · simp only [if_true, Rat.intCast_neg, Rat.intCast_natCast, Rat.natCast_mul]
    grind

theorem dval_int (n : Int) (s : Bool) (hs : n ≠ 0 → s = decide (n < 0)) (e : Int) : dval s n.natAbs e = (n : Rat) * pw e := by
  by_cases h0 : n = 0
  · subst h0
    simp [dval, Rat.zero_mul, Rat.mul_zero]
  · rw [hs h0]
    unfold dval sgn
    rcases Int.lt_or_le n 0 with h | h
    · have e1 : (n : Rat) = -(n.natAbs : Rat) := by
        rw [← Rat.intCast_natCast, ← Rat.intCast_neg]; congr 1; omega
      simp only [h, decide_true, if_true]
      rw [e1]; grind
    · have e1 : (n : Rat) = (n.natAbs : Rat) := by
        rw [← Rat.intCast_natCast]; congr 1; omega
      have h' : ¬ n < 0 := by omega
      simp only [h', decide_false, Bool.false_eq_true, if_false]
      rw [e1]; grind

theorem sum_number (s t : Bool) (m n : Nat) (i j : Int) :
    ∃ s' m' e', (Datum.number s m i).sum (.number t n j) = some (.number s' m' e') ∧ dval s' m' e' = dval s m i + dval t n j := by
  refine ⟨_, _, _, rfl, ?_⟩
  have h1 := signed_val s m (i := i) (base := min i j) (by omega)
  have h2 := signed_val t n (i := j) (base := min i j) (by omega)
  rw [dval_int _ _ (fun h => by rw [if_neg h]), Rat.intCast_add, ← h1, ← h2]
  grind

theorem opposite_number (s : Bool) (m : Nat) (e : Int) : (Datum.number s m e).opposite = .number (!s) m e := rfl
theorem dval_not (s : Bool) (m : Nat) (e : Int) : dval (!s) m e = -dval s m e := by
  unfold dval sgn
  cases s <;> simp <;> grind

section
variable {f : Format} {x y : Nat} {a b : Rat}

theorem add_rnd (hx : Val f x a) (hy : Val f y b) : ∃ r, f.add x y = some r ∧ Rnd f (a + b) r := by
  obtain ⟨s, m, i, h1, rfl⟩ := hx
  obtain ⟨t, n, j, h2, rfl⟩ := hy
  obtain ⟨s', m', e', h3, h4⟩ := sum_number s t m n i j
  refine ⟨_, ?_, s', m', e', h4, rfl⟩
  unfold Format.add
  rw [h1, h2, h3]
  rfl

theorem sub_rnd (hx : Val f x a) (hy : Val f y b) : ∃ r, f.sub x y = some r ∧ Rnd f (a - b) r := by
  obtain ⟨s, m, i, h1, rfl⟩ := hx
  obtain ⟨t, n, j, h2, rfl⟩ := hy
  obtain ⟨s', m', e', h3, h4⟩ := sum_number s (!t) m n i j
  rw [dval_not] at h4
  refine ⟨_, ?_, s', m', e', by rw [h4]; grind, rfl⟩
  unfold Format.sub
  rw [h1, h2, opposite_number, h3]
  rfl

theorem mul_rnd (hx : Val f x a) (hy : Val f y b) : ∃ r, f.mul x y = some r ∧ Rnd f (a * b) r := by
  obtain ⟨s, m, i, h1, rfl⟩ := hx
  obtain ⟨t, n, j, h2, rfl⟩ := hy
  refine ⟨_, ?_, s ^^ t, m * n, i + j, ?_, rfl⟩
  · unfold Format.mul
    rw [h1, h2]
    rfl
  · unfold dval sgn
    rw [pw_add, Rat.natCast_mul]
    cases s <;> cases t <;> simp <;> grind

/-- The quotient: of the sign and the digits that the model takes. -/
theorem div_rnd (hx : Val f x a) (hy : Val f y b) (hb : b ≠ 0) :
    ∃ r d, f.div x y = some r ∧ Rnd f d r ∧ (d - a / b).abs ≤ (a / b).abs * unit f := by
  obtain ⟨s, m, i, h1, rfl⟩ := hx
  obtain ⟨t, n, j, h2, rfl⟩ := hy
  have hn : n ≠ 0 := by
    intro h; subst h; exact hb (dval_zero _ _)
  obtain ⟨more, hmore⟩ : ∃ more, more = f.fractionBits + 2 + n.log2 - m.log2 := ⟨_, rfl⟩
  refine ⟨_, dval (s ^^ t) (2 * (m <<< more / n) + (m <<< more % n != 0).toNat) (i - j - more - 1), ?_, ⟨_, _, _, rfl, rfl⟩, ?_⟩
  · unfold Format.div
    rw [h1, h2]
    subst hmore
    simp only [Datum.quotient, if_neg hn]
    rfl
  · have hq : dval s m i / dval t n j = sgn (s ^^ t) * ((m : Rat) / (n : Rat) * pw (i - j)) := by
      have hnr : (n : Rat) ≠ 0 := by exact_mod_cast hn
      have e1 : pw i = pw (i - j) * pw j := by rw [← pw_add]; congr 1; omega
      have hp := pw_ne j
      unfold dval
      rw [e1]
      cases s <;> cases t <;> simp only [sgn, Bool.xor_false, Bool.xor_true, Bool.not_false, Bool.not_true, Bool.false_eq_true, if_false, if_true] <;> grind
    rw [hq]
    rcases Nat.eq_zero_or_pos m with hm | hm
    · subst hm
      have e0 : (0 <<< more / n) = 0 := by simp
      have e1 : (0 <<< more % n != 0) = false := by simp
      rw [e0, e1]
      simp only [Bool.toNat_false, Nat.mul_zero, Nat.add_zero]
      rw [dval_zero]
      have : ((0 : Nat) : Rat) = 0 := rfl
      rw [this]
      simp only [Rat.div_def, Rat.zero_mul, Rat.mul_zero, Rat.abs_zero]
      exact zero_sub_abs
    · obtain ⟨N, hN⟩ : ∃ N, N = m <<< more := ⟨_, rfl⟩
      rw [← hN]
      rw [Nat.shiftLeft_eq] at hN
      -- N / n is great
      have hbig : 2 ^ (f.fractionBits + 1) * n ≤ N := by
        have l1 : 2 ^ m.log2 ≤ m := Nat.log2_self_le (by omega)
        have l2 : n < 2 ^ (n.log2 + 1) := Nat.lt_log2_self
        have l3 : 2 ^ (f.fractionBits + 1) * n ≤ 2 ^ (f.fractionBits + 1) * 2 ^ (n.log2 + 1) := Nat.mul_le_mul_left _ (Nat.le_of_lt l2)
        rw [← Nat.pow_add] at l3
        have l4 : 2 ^ m.log2 * 2 ^ more ≤ m * 2 ^ more := Nat.mul_le_mul_right _ l1
        rw [← Nat.pow_add] at l4
        have l5 : 2 ^ (f.fractionBits + 1 + (n.log2 + 1)) ≤ 2 ^ (m.log2 + more) := Nat.pow_le_pow_right (by decide) (by omega)
        omega
      obtain ⟨Q, hQ⟩ : ∃ Q, Q = 2 * (N / n) + (N % n != 0).toNat := ⟨_, rfl⟩
      rw [← hQ]
      have ed := Nat.div_add_mod N n
      have el := Nat.mod_lt N (Nat.pos_of_ne_zero hn)
      have hQ1 : Q * n ≤ 2 * N + n ∧ 2 * N ≤ Q * n + n := by
        by_cases hz : N % n = 0
        · have e1 : (N % n != 0) = false := by simp [hz]
          rw [e1] at hQ
          simp only [Bool.toNat_false, Nat.add_zero] at hQ
          have : Q * n = 2 * (n * (N / n)) := by rw [hQ]; grind
          omega
        · have e1 : (N % n != 0) = true := by simp [hz]
          rw [e1] at hQ
          simp only [Bool.toNat_true] at hQ
          have : Q * n = 2 * (n * (N / n)) + n := by rw [hQ]; grind
          omega
      -- in rational numbers, the quotient of the mags being z
      obtain ⟨z, hz⟩ : ∃ z : Rat, z = (m : Rat) / (n : Rat) := ⟨_, rfl⟩
      rw [← hz]
      have hnp : (0 : Rat) < (n : Rat) := Rat.natCast_pos.2 (Nat.pos_of_ne_zero hn)
      have hzn : (m : Rat) = z * n := by rw [hz, Rat.div_mul_cancel (Rat.ne_of_gt hnp)]
      have hNr : (N : Rat) = z * n * pw more := by rw [hN, Rat.natCast_mul, ← pw_nat, hzn]
      have q1 : (Q : Rat) * n ≤ 2 * (N : Rat) + n := by exact_mod_cast hQ1.1
      have q2 : 2 * (N : Rat) ≤ (Q : Rat) * n + n := by exact_mod_cast hQ1.2
      have q3 : pw (f.fractionBits + 1 : Nat) * n ≤ (N : Rat) := by rw [pw_nat]; exact_mod_cast hbig
      rw [hNr] at q1 q2 q3
      have r1 : (Q : Rat) ≤ 2 * (z * pw more) + 1 := Rat.le_of_mul_le_mul_right (by grind) hnp
      have r2 : 2 * (z * pw more) ≤ (Q : Rat) + 1 := Rat.le_of_mul_le_mul_right (by grind) hnp
      have r3 : pw (f.fractionBits + 1 : Nat) ≤ z * pw more := Rat.le_of_mul_le_mul_right (by grind) hnp
      -- the scale
      have e1 : pw (i - j) = 2 * (pw more * pw (i - j - more - 1)) := by
        rw [← pw_add, ← pw_succ]; congr 1; omega
      have hp := pw_pos (i - j - more - 1)
      have hz0 : 0 ≤ z := by rw [hz, Rat.div_def]; exact Rat.mul_nonneg Rat.natCast_nonneg (Rat.le_of_lt (Rat.inv_pos.2 hnp))
      have hu : unit f * pw (f.fractionBits + 1 : Nat) = 1 := by
        unfold unit
        rw [← pw_add, show (-(f.fractionBits : Int) - 1 + (f.fractionBits + 1 : Nat)) = 0 from by omega, pw_zero]
      have hu0 : 0 < unit f := pw_pos _
      have r4 : 1 ≤ unit f * (z * pw more) := by
        rw [← hu]; exact Rat.mul_le_mul_of_nonneg_left r3 (Rat.le_of_lt hu0)
      have habs : (sgn (s ^^ t) * (z * pw (i - j))).abs = z * pw (i - j) := by
        have h0 : 0 ≤ z * pw (i - j) := Rat.mul_nonneg hz0 (Rat.le_of_lt (pw_pos _))
        unfold sgn
        cases (s ^^ t)
        · simp only [Bool.false_eq_true, if_false, Rat.one_mul]; exact Rat.abs_of_nonneg h0
        · simp only [if_true]
          rw [show (-1 : Rat) * (z * pw (i - j)) = -(z * pw (i - j)) from by grind, Rat.abs_neg]
          exact Rat.abs_of_nonneg h0
      rw [habs, abs_le, e1]
      have t1 := Rat.mul_le_mul_of_nonneg_right r1 (Rat.le_of_lt hp)
      have t2 := Rat.mul_le_mul_of_nonneg_right r2 (Rat.le_of_lt hp)
      have t3 := Rat.mul_le_mul_of_nonneg_right r4 (Rat.le_of_lt hp)
      unfold dval sgn
      cases (s ^^ t) <;> simp only [Bool.false_eq_true, if_false, if_true] <;> constructor <;> grind

theorem order_eq (hx : Val f x a) (hy : Val f y b) : f.order x y = some (if a < b then .lt else if a = b then .eq else .gt) := by
  obtain ⟨s, m, i, h1, rfl⟩ := hx
  obtain ⟨t, n, j, h2, rfl⟩ := hy
  unfold Format.order
  rw [h1, h2]
  have e1 := signed_val s m (i := i) (base := min i j) (by omega)
  have e2 := signed_val t n (i := j) (base := min i j) (by omega)
  simp only [Datum.order]
  generalize signed s m (i - min i j).toNat = A at *
  generalize signed t n (j - min i j).toNat = B at *
  have hp := pw_pos (min i j)
  rw [← e1, ← e2]
  congr 1
  rcases Int.lt_trichotomy A B with h | h | h
  · have c : compare A B = .lt := by simp [compare, compareOfLessAndEq, h]
    have l : (A : Rat) * pw (min i j) < (B : Rat) * pw (min i j) := Rat.mul_lt_mul_of_pos_right (Rat.intCast_lt_intCast.2 h) hp
    rw [c, if_pos l]
  · subst h
    have c : compare A A = .eq := by simp
    rw [c, if_neg Rat.lt_irrefl, if_pos rfl]
  · have c : compare A B = .gt := by
      have h1 : ¬ A < B := by omega
      have h2 : A ≠ B := by omega
      simp [compare, compareOfLessAndEq, h1, h2]
    have l : (B : Rat) * pw (min i j) < (A : Rat) * pw (min i j) := Rat.mul_lt_mul_of_pos_right (Rat.intCast_lt_intCast.2 h) hp
    rw [c, if_neg (Rat.not_lt.2 (Rat.le_of_lt l)), if_neg (Rat.ne_of_gt l)]
end

theorem read_xor (f : Format) (w : Nat) : f.read (w ^^^ 2 ^ (f.exponentBits + f.fractionBits)) = (f.read w).opposite := by
  have e : f.signWeight = 2 ^ (f.exponentBits + f.fractionBits) := rfl
  have h1 : (w ^^^ f.signWeight) % f.signWeight = w % f.signWeight := by
    rw [e, Nat.xor_mod_two_pow, Nat.mod_self, Nat.xor_zero]
  have h2 : ((w ^^^ f.signWeight) / f.signWeight % 2 == 1) = !(w / f.signWeight % 2 == 1) := by
    rw [e, Nat.xor_div_two_pow, Nat.div_self (Nat.two_pow_pos _)]
    have h3 : (w / 2 ^ (f.exponentBits + f.fractionBits) ^^^ 1) % 2 = (w / 2 ^ (f.exponentBits + f.fractionBits)) % 2 ^^^ 1 := by
      have := Nat.xor_mod_two_pow (a := w / 2 ^ (f.exponentBits + f.fractionBits)) (b := 1) (n := 1)
      simpa using this
    rw [h3]
    rcases Nat.mod_two_eq_zero_or_one (w / 2 ^ (f.exponentBits + f.fractionBits)) with h | h <;> rw [h] <;> rfl
  rw [← e]
  unfold Format.read
  simp only [h1, h2]
  split
  · rfl
  · split
    · rfl
    · split <;> rfl

theorem neg_val {f : Format} {w : Nat} {a : Rat} (h : Val f w a) : Val f (w ^^^ 2 ^ (f.exponentBits + f.fractionBits)) (-a) := by
  obtain ⟨s, m, e, h1, rfl⟩ := h
  refine ⟨!s, m, e, ?_, (dval_not _ _ _).symm⟩
  rw [read_xor, h1]
  rfl

/-- The greatest number whose square is not above n. -/
theorem rootFrom_spec (n : Nat) : ∀ (todo root : Nat), root * root ≤ n → n < (root + 2 ^ todo) * (root + 2 ^ todo) →
    Datum.rootFrom n todo root * Datum.rootFrom n todo root ≤ n ∧ n < (Datum.rootFrom n todo root + 1) * (Datum.rootFrom n todo root + 1) := by
  intro todo
  induction todo with
  | zero => intro root h1 h2; exact ⟨h1, by simpa [Datum.rootFrom] using h2⟩
  | succ k ih =>
    intro root h1 h2
    unfold Datum.rootFrom
    rw [Nat.one_shiftLeft]
    by_cases h : (root + 2 ^ k) * (root + 2 ^ k) ≤ n
    · simp only [h, if_true]
      apply ih _ h
      have : root + 2 ^ k + 2 ^ k = root + 2 ^ (k + 1) := by rw [Nat.pow_succ]; omega
      rw [this]; exact h2
    · simp only [h, if_false]
      exact ih _ h1 (by omega)

theorem root_spec (n : Nat) : Datum.rootFrom n (n.log2 / 2 + 1) 0 * Datum.rootFrom n (n.log2 / 2 + 1) 0 ≤ n ∧
    n < (Datum.rootFrom n (n.log2 / 2 + 1) 0 + 1) * (Datum.rootFrom n (n.log2 / 2 + 1) 0 + 1) := by
  apply rootFrom_spec
  · simp
  · rw [Nat.zero_add, ← Nat.pow_add]
    exact Nat.lt_of_lt_of_le Nat.lt_log2_self (Nat.pow_le_pow_right (by decide) (by omega))

theorem sqrt_rnd {f : Format} {x : Nat} {a : Rat} (hx : Val f x a) (ha : 0 ≤ a) :
    ∃ r d, f.sqrt x = some r ∧ Rnd f d r ∧ 0 ≤ d ∧ (d * d - a).abs ≤ 2 * a * unit f := by
  obtain ⟨s, m, i, h1, rfl⟩ := hx
  rcases Nat.eq_zero_or_pos m with hm | hm
  · subst hm
    refine ⟨f.nearest s 0 i, dval s 0 i, ?_, ⟨s, 0, i, rfl, rfl⟩, ?_, ?_⟩
    · unfold Format.sqrt
      rw [h1]
      rfl
    · rw [dval_zero]; exact Rat.le_refl
    · rw [dval_zero]
      simp only [Rat.mul_zero, Rat.zero_mul]
      exact zero_sub_abs
  · have hs : s = false := by
      cases s
      · rfl
      · exfalso
        have : 0 < (m : Rat) * pw i := Rat.mul_pos (Rat.natCast_pos.2 hm) (pw_pos i)
        unfold dval sgn at ha
        simp only [if_true] at ha
        grind
    subst hs
    obtain ⟨more0, hmore0⟩ : ∃ k : Nat, k = 2 * (f.fractionBits + 2) - m.log2 := ⟨_, rfl⟩
    obtain ⟨more, hmore⟩ : ∃ k : Nat, k = more0 + ((i - more0) % 2).toNat := ⟨_, rfl⟩
    obtain ⟨n, hn⟩ : ∃ n, n = m <<< more := ⟨_, rfl⟩
    obtain ⟨whole, hwhole⟩ : ∃ k, k = Datum.rootFrom n (n.log2 / 2 + 1) 0 := ⟨_, rfl⟩
    have hr := root_spec n
    rw [← hwhole] at hr
    refine ⟨_, dval false (2 * whole + (whole * whole != n).toNat) ((i - more) / 2 - 1), ?_, ⟨_, _, _, rfl, rfl⟩, ?_, ?_⟩
    · unfold Format.sqrt
      rw [h1]
      simp only [Datum.root, if_neg (show ¬ m = 0 by omega), Bool.false_eq_true, if_false]
      rw [hwhole, hn, hmore, hmore0]
      rfl
    · unfold dval sgn
      simp only [Bool.false_eq_true, if_false, Rat.one_mul]
      exact Rat.mul_nonneg Rat.natCast_nonneg (Rat.le_of_lt (pw_pos _))
    · have heven : (i - more) = 2 * ((i - more) / 2 - 1) + 2 := by
        have : (i - more) % 2 = 0 := by omega
        omega
      obtain ⟨p, hp⟩ : ∃ p, p = (i - more) / 2 - 1 := ⟨_, rfl⟩
      rw [← hp] at heven ⊢
      have hbig : 2 ^ (2 * (f.fractionBits + 2)) ≤ n := by
        rw [hn, Nat.shiftLeft_eq]
        have l1 : 2 ^ m.log2 ≤ m := Nat.log2_self_le (by omega)
        have l4 : 2 ^ m.log2 * 2 ^ more ≤ m * 2 ^ more := Nat.mul_le_mul_right _ l1
        rw [← Nat.pow_add] at l4
        have l5 : 2 ^ (2 * (f.fractionBits + 2)) ≤ 2 ^ (m.log2 + more) := Nat.pow_le_pow_right (by decide) (by omega)
        omega
      have hw : 2 ^ (f.fractionBits + 2) ≤ whole := by
        rcases Nat.lt_or_ge whole (2 ^ (f.fractionBits + 2)) with h | h
        · exfalso
          have h2 : (whole + 1) * (whole + 1) ≤ 2 ^ (f.fractionBits + 2) * 2 ^ (f.fractionBits + 2) := Nat.mul_le_mul h h
          rw [← Nat.pow_add] at h2
          have : f.fractionBits + 2 + (f.fractionBits + 2) = 2 * (f.fractionBits + 2) := by omega
          rw [this] at h2
          omega
        · exact h
      obtain ⟨K, hK⟩ : ∃ K, K = 2 * whole + (whole * whole != n).toNat := ⟨_, rfl⟩
      rw [← hK]
      have hK1 : K * K ≤ 4 * n + 4 * whole ∧ 4 * n ≤ K * K + 4 * whole := by
        by_cases hz : whole * whole = n
        · have e1 : (whole * whole != n) = false := by simp [hz]
          rw [e1] at hK
          simp only [Bool.toNat_false, Nat.add_zero] at hK
          have : K * K = 4 * (whole * whole) := by rw [hK]; grind
          omega
        · have e1 : (whole * whole != n) = true := by simp [hz]
          rw [e1] at hK
          simp only [Bool.toNat_true] at hK
          have e2 : K * K = 4 * (whole * whole) + 4 * whole + 1 := by rw [hK]; grind
          have e3 : (whole + 1) * (whole + 1) = whole * whole + 2 * whole + 1 := by grind
          omega
      have hwu : (whole : Rat) * 2 ≤ (n : Rat) * unit f := by
        -- whole * whole ≤ n, and whole * unit ≥ 2
        have hu : unit f * pw (f.fractionBits + 2 : Nat) = 2 := by
          unfold unit
          rw [← pw_add, show (-(f.fractionBits : Int) - 1 + (f.fractionBits + 2 : Nat)) = 1 from by omega, pw_one]
        have hu0 : 0 < unit f := pw_pos _
        have w1 : pw (f.fractionBits + 2 : Nat) ≤ (whole : Rat) := by rw [pw_nat]; exact_mod_cast hw
        have w2 : 2 ≤ unit f * (whole : Rat) := by
          rw [← hu]; exact Rat.mul_le_mul_of_nonneg_left w1 (Rat.le_of_lt hu0)
        have w3 : (whole : Rat) * (whole : Rat) ≤ (n : Rat) := by exact_mod_cast hr.1
        have w4 := Rat.mul_le_mul_of_nonneg_left w2 (Rat.natCast_nonneg (a := whole))
        have w5 := Rat.mul_le_mul_of_nonneg_right w3 (Rat.le_of_lt hu0)
        grind
      have k1 : (K : Rat) * K ≤ 4 * (n : Rat) + 4 * whole := by exact_mod_cast hK1.1
      have k2 : 4 * (n : Rat) ≤ (K : Rat) * K + 4 * whole := by exact_mod_cast hK1.2
      have hval : dval false m i = 4 * (n : Rat) * (pw p * pw p) := by
        have e1 : pw i = pw more * (4 * (pw p * pw p)) := by
          have : i = more + ((p + 1) + (p + 1)) := by omega
          rw [this, pw_add, pw_add, pw_succ]
          grind
        unfold dval sgn
        simp only [Bool.false_eq_true, if_false]
        rw [e1, hn, Nat.shiftLeft_eq, Rat.natCast_mul, ← pw_nat]
        grind
      have hd : dval false K p * dval false K p = (K : Rat) * K * (pw p * pw p) := by
        unfold dval sgn
        simp only [Bool.false_eq_true, if_false]
        grind
      rw [hval, hd, abs_le]
      have hpp : 0 < pw p * pw p := Rat.mul_pos (pw_pos p) (pw_pos p)
      have t1 := Rat.mul_le_mul_of_nonneg_right k1 (Rat.le_of_lt hpp)
      have t2 := Rat.mul_le_mul_of_nonneg_right k2 (Rat.le_of_lt hpp)
      have t3 := Rat.mul_le_mul_of_nonneg_right hwu (Rat.le_of_lt hpp)
      constructor <;> grind

/-- A word made of a sign and a rung stands for a number of this sign. -/
theorem word_sign {f : Format} (hf : fok f) {s : Bool} {r : Nat} {v : Rat} (hr : r ≤ f.infRung) (h : Val f (f.word s r) v) : ∃ m e, v = dval s m e ∧ ∀ s', Val f (f.word s' r) (dval s' m e) := by
  obtain ⟨t, m, e, h1, rfl⟩ := h
  rcases Nat.lt_or_ge r f.infRung with h2 | h2
  · have h3 := fun s => read_word f s r h2
    have h4 := h3 s
    rw [h1] at h4
    by_cases hb : r < f.binade
    · rw [if_pos hb] at h4
      cases h4
      exact ⟨_, _, rfl, fun s' => ⟨s', _, _, by rw [h3 s', if_pos hb], rfl⟩⟩
    · rw [if_neg hb] at h4
      cases h4
      exact ⟨_, _, rfl, fun s' => ⟨s', _, _, by rw [h3 s', if_neg hb], rfl⟩⟩
  · exfalso
    have h5 : r = f.infRung := by omega
    subst h5
    have hi := inf_lt f
    have g1 : f.word s f.infRung % f.signWeight = f.infRung := by
      unfold Format.word
      cases s
      · simp only [Bool.false_eq_true, if_false]
        exact Nat.mod_eq_of_lt (by omega)
      · simp only [if_true]
        rw [Nat.add_mod_left]
        exact Nat.mod_eq_of_lt (by omega)
    unfold Format.read at h1
    simp only [g1] at h1
    split at h1
    · rename_i hlt
      have hb : f.binade ≤ f.infRung := by
        unfold Format.infRung
        have : 2 ^ 2 ≤ 2 ^ f.exponentBits := Nat.pow_le_pow_right (by decide) hf.1
        exact Nat.le_mul_of_pos_left _ (by omega)
      omega
    · split at h1
      · omega
      · simp at h1

theorem cut_any (s s' : Bool) (n d : Nat) : Toward.even.cut s n d = Toward.even.cut s' n d := rfl

theorem nearest_word {f : Format} (m : Nat) (e : Int) : ∃ r, r ≤ f.infRung ∧ ∀ s, f.nearest s m e = f.word s r := by
  by_cases h : m = 0
  · exact ⟨0, Nat.zero_le _, fun s => by unfold Format.nearest; rw [if_pos h]⟩
  · exact ⟨_, Nat.min_le_right _ _, fun s => by
      unfold Format.nearest
      rw [if_neg h]
      simp only
      rw [cut_any s false]⟩

theorem nearest_sign {f : Format} (hf : fok f) {s : Bool} {m : Nat} {e : Int} {v : Rat} (h : Val f (f.nearest s m e) v) : Val f (f.nearest (!s) m e) (-v) ∧ (s = false → 0 ≤ v) := by
  obtain ⟨r, hr, hw⟩ := nearest_word (f := f) m e
  rw [hw s] at h
  obtain ⟨m', e', h1, h2⟩ := word_sign hf hr h
  constructor
  · rw [hw, h1, ← dval_not]
    exact h2 _
  · intro hs
    subst hs
    rw [h1]
    unfold dval sgn
    simp only [Bool.false_eq_true, if_false, Rat.one_mul]
    exact Rat.mul_nonneg Rat.natCast_nonneg (Rat.le_of_lt (pw_pos _))

theorem Rnd.nonneg {f : Format} (hf : fok f) {x v : Rat} {w : Nat} (h : Rnd f x w) (hx : 0 ≤ x) (hv : Val f w v) : 0 ≤ v := by
  obtain ⟨s, m, e, h1, rfl⟩ := h
  cases s
  · exact (nearest_sign hf hv).2 rfl
  · rcases Nat.eq_zero_or_pos m with h0 | h0
    · subst h0
      have h2 : Val f (f.nearest true 0 e) 0 := by
        unfold Format.nearest; rw [if_pos rfl]; exact val_zero_word f hf true
      rw [hv.unique h2]
      exact Rat.le_refl
    · exfalso
      have h2 : 0 < (m : Rat) * pw e := Rat.mul_pos (Rat.natCast_pos.2 h0) (pw_pos e)
      unfold dval sgn at h1
      simp only [if_true] at h1
      grind

theorem word_not (f : Format) (s : Bool) {r : Nat} (h : r < f.signWeight) : f.word (!s) r = f.word s r ^^^ 2 ^ (f.exponentBits + f.fractionBits) := by
  have e : f.signWeight = 2 ^ (f.exponentBits + f.fractionBits) := rfl
  have hp : 0 < f.signWeight := Nat.two_pow_pos _
  rw [← e]
  have key : ∀ x : Nat, (x ^^^ f.signWeight) % f.signWeight = x % f.signWeight ∧ (x ^^^ f.signWeight) / f.signWeight = x / f.signWeight ^^^ 1 := by
    intro x
    constructor
    · rw [e, Nat.xor_mod_two_pow, Nat.mod_self, Nat.xor_zero]
    · rw [e, Nat.xor_div_two_pow, Nat.div_self (Nat.two_pow_pos _)]
  unfold Format.word
  cases s
  · simp only [Bool.not_false, if_true, Bool.false_eq_true, if_false]
    obtain ⟨k1, k2⟩ := key r
    rw [Nat.mod_eq_of_lt h] at k1
    rw [Nat.div_eq_of_lt h] at k2
    have := Nat.div_add_mod (r ^^^ f.signWeight) f.signWeight
    rw [k1, k2] at this
    rw [← this]
    simp
  · simp only [Bool.not_true, Bool.false_eq_true, if_false, if_true]
    obtain ⟨k1, k2⟩ := key (f.signWeight + r)
    rw [Nat.add_mod_left, Nat.mod_eq_of_lt h] at k1
    rw [Nat.add_div_left _ hp, Nat.div_eq_of_lt h] at k2
    have := Nat.div_add_mod ((f.signWeight + r) ^^^ f.signWeight) f.signWeight
    rw [k1, k2] at this
    rw [← this]
    simp

theorem nearest_not (f : Format) (s : Bool) (m : Nat) (e : Int) : f.nearest (!s) m e = f.nearest s m e ^^^ 2 ^ (f.exponentBits + f.fractionBits) := by
  obtain ⟨r, hr, hw⟩ := nearest_word (f := f) m e
  rw [hw, hw]
  exact word_not f s (Nat.lt_of_le_of_lt hr (inf_lt f))

/-- A product with the opposite number is the opposite product. -/
theorem mul_neg_left {f : Format} {x y r : Nat} {a b : Rat} (hx : Val f x a) (hy : Val f y b) (h : f.mul x y = some r) :
    f.mul (x ^^^ 2 ^ (f.exponentBits + f.fractionBits)) y = some (r ^^^ 2 ^ (f.exponentBits + f.fractionBits)) := by
  obtain ⟨s, m, i, h1, rfl⟩ := hx
  obtain ⟨t, n, j, h2, rfl⟩ := hy
  unfold Format.mul at h ⊢
  rw [h1, h2] at h
  rw [read_xor, h1, h2]
  simp only [Datum.product, Option.map_some, Option.some.injEq, Datum.opposite] at h ⊢
  subst h
  have e1 : (!s ^^ t) = !(s ^^ t) := by cases s <;> cases t <;> rfl
  rw [e1]
  exact nearest_not f _ _ _
theorem mul_neg_right {f : Format} {x y r : Nat} {a b : Rat} (hx : Val f x a) (hy : Val f y b) (h : f.mul x y = some r) :
    f.mul x (y ^^^ 2 ^ (f.exponentBits + f.fractionBits)) = some (r ^^^ 2 ^ (f.exponentBits + f.fractionBits)) := by
  obtain ⟨s, m, i, h1, rfl⟩ := hx
  obtain ⟨t, n, j, h2, rfl⟩ := hy
  unfold Format.mul at h ⊢
  rw [h1, h2] at h
  rw [read_xor, h1, h2]
  simp only [Datum.product, Option.map_some, Option.some.injEq, Datum.opposite] at h ⊢
  subst h
  have e1 : (s ^^ !t) = !(s ^^ t) := by cases s <;> cases t <;> rfl
  rw [e1]
  exact nearest_not f _ _ _

/-- An integer. -/
theorem int_rnd (f : Format) (n : Int) : Rnd f (n : Rat) (f.write (.number (n < 0) n.natAbs 0)) :=
  ⟨_, _, _, by rw [dval_int n _ (fun _ => rfl), pw_zero, Rat.mul_one], rfl⟩

end Go.Proofs.Ytgeiaafdholcbaa.FT
