/- Plain facts on rounding: a number that the format has is written as its own word; whole numbers up to 2^53 are had. -/
import Derived.Test.YtiieppaalffgjaaF
namespace Go.Proofs.Ytiieppaalffgjaa
open Ieee

theorem cut_zero (way : Toward) (neg : Bool) (n : Nat) : way.cut neg n 0 = n := by
  unfold Toward.cut
  have h : min 0 (n.log2 + 2) = 0 := by omega
  simp only [h, Nat.shiftLeft_zero, Nat.div_one, Nat.mod_one]
  cases way <;> simp

theorem log2_ge {n k : Nat} (h : 2 ^ k ≤ n) (hn : n ≠ 0) : k ≤ n.log2 := (Nat.le_log2 hn).2 h

/-- nothing is dropped where the number is a multiple of the gap -/
theorem cut_exact (way : Toward) (neg : Bool) (K d : Nat) (hK : K ≠ 0) : way.cut neg (K * 2 ^ d) d = K := by
  have hp : 0 < 2 ^ d := Nat.two_pow_pos d
  have h1 : 2 ^ d ≤ K * 2 ^ d := Nat.le_mul_of_pos_left _ (by omega)
  have h2 : d ≤ (K * 2 ^ d).log2 := log2_ge h1 (by have := Nat.mul_pos (Nat.pos_of_ne_zero hK) hp; omega)
  unfold Toward.cut
  have h : min d ((K * 2 ^ d).log2 + 2) = d := by omega
  simp only [h, Nat.shiftLeft_eq, Nat.one_mul, Nat.mul_div_cancel _ hp, Nat.mul_mod_left]
  cases way <;> simp

theorem cut_shift (way : Toward) (neg : Bool) (m K a b : Nat) (hK : K ≠ 0) (h : m * 2 ^ a = K * 2 ^ b) :
    way.cut neg (m <<< (a - b)) (b - a) = K := by
  rw [Nat.shiftLeft_eq]
  rcases Nat.le_total a b with g | g
  · have h1 : a - b = 0 := by omega
    rw [h1, Nat.pow_zero, Nat.mul_one]
    have h2 : m = K * 2 ^ (b - a) := by
      have e : K * 2 ^ b = K * 2 ^ (b - a) * 2 ^ a := by rw [Nat.mul_assoc, ← Nat.pow_add, Nat.sub_add_cancel g]
      rw [e] at h
      exact Nat.eq_of_mul_eq_mul_right (Nat.two_pow_pos a) h
    rw [h2, cut_exact _ _ _ _ hK]
  · have h1 : b - a = 0 := by omega
    rw [h1, cut_zero]
    have e : m * 2 ^ a = m * 2 ^ (a - b) * 2 ^ b := by rw [Nat.mul_assoc, ← Nat.pow_add, Nat.sub_add_cancel g]
    rw [e] at h
    exact Nat.eq_of_mul_eq_mul_right (Nat.two_pow_pos b) h

theorem log2_mul_pow (m k : Nat) (hm : m ≠ 0) : (m * 2 ^ k).log2 = m.log2 + k := by
  have hp : 0 < 2 ^ k := Nat.two_pow_pos k
  have hn : m * 2 ^ k ≠ 0 := by have := Nat.mul_pos (Nat.pos_of_ne_zero hm) hp; omega
  apply (Nat.log2_eq_iff hn).2
  have h1 := Nat.log2_self_le hm
  have h2 := Nat.lt_log2_self (n := m)
  rw [Nat.pow_add, show m.log2 + k + 1 = (m.log2 + 1) + k by omega, Nat.pow_add (m := m.log2 + 1)]
  exact ⟨Nat.mul_le_mul_right _ h1, Nat.mul_lt_mul_of_pos_right h2 hp⟩

theorem mant_ne {r : Nat} (h : r ≠ 0) : mant r ≠ 0 := by unfold mant; split <;> omega
theorem mant_lt (r : Nat) : mant r < 9007199254740992 := by unfold mant; split <;> omega

theorem log2_mant_big {r : Nat} (h : 4503599627370496 ≤ r) : (mant r).log2 = 52 := by
  have : mant r = 4503599627370496 + r % 4503599627370496 := by unfold mant; rw [if_neg (by omega)]
  rw [this]
  apply (Nat.log2_eq_iff (by omega)).2
  constructor <;> omega

theorem log2_small {r : Nat} (h : r < 4503599627370496) : r.log2 < 52 := by
  by_cases e : r = 0
  · subst e; decide
  · exact (Nat.log2_lt e).2 (by omega)

theorem lift_mant (r : Nat) : lift r * 4503599627370496 + mant r = r := by
  unfold lift mant
  split <;> omega

/-- THE WORD OF A NUMBER THAT THE FORMAT HAS: 'm * 2^(a - b - 1074)' being just as many units as the rung r. -/
theorem nearest_exact (neg : Bool) (m r a b : Nat) (hr : r < 9218868437227405312) (h0 : r ≠ 0) (h : m * 2 ^ a = units r * 2 ^ b) :
    D.nearest neg m ((a : Int) - b - 1074) = D.word neg r := by
  have hu : units r ≠ 0 := by have := @units_lt 0 r (by omega); rw [units_zero] at this; omega
  have hm : m ≠ 0 := by
    intro e; subst e
    have := Nat.mul_pos (Nat.pos_of_ne_zero hu) (Nat.two_pow_pos b)
    omega
  have hl : m.log2 + a = (mant r).log2 + lift r + b := by
    have e := congrArg Nat.log2 h
    rw [log2_mul_pow _ _ hm, log2_mul_pow _ _ hu] at e
    unfold units at e
    rw [log2_mul_pow _ _ (mant_ne h0)] at e
    exact e
  unfold Format.nearest
  rw [if_neg hm]
  simp only [D_least, D_frac, D_binade, D_inf]
  have hlast : max (((a : Int) - b - 1074) + m.log2 - (52 : Nat)) (-1074) = (lift r : Int) - 1074 := by
    by_cases g : r < 4503599627370496
    · have e1 : mant r = r := by unfold mant; rw [if_pos g]
      have e2 : lift r = 0 := by unfold lift; rw [if_pos g]
      rw [e1, e2] at hl
      have := log2_small g
      rw [e2]; omega
    · rw [log2_mant_big (by omega)] at hl
      omega
  rw [hlast]
  have e1 : (((a : Int) - b - 1074) - ((lift r : Int) - 1074)).toNat = a - (b + lift r) := by omega
  have e2 : (((lift r : Int) - 1074) - ((a : Int) - b - 1074)).toNat = (b + lift r) - a := by omega
  have e3 : (((lift r : Int) - 1074) - (-1074)).toNat = lift r := by omega
  rw [e1, e2, e3, cut_shift .even neg m (mant r) a (b + lift r) (mant_ne h0) (by rw [h]; unfold units; rw [Nat.mul_assoc, ← Nat.pow_add, Nat.add_comm])]
  rw [lift_mant]
  exact congrArg (D.word neg) (Nat.min_eq_left (Nat.le_of_lt hr))

theorem nearest_zero (neg : Bool) (place : Int) : D.nearest neg 0 place = D.word neg 0 := by
  unfold Format.nearest; rw [if_pos rfl]

/-- The same, a zero too. -/
theorem nearest_units (neg : Bool) (m r a b : Nat) (hr : r < 9218868437227405312) (h : m * 2 ^ a = units r * 2 ^ b) :
    D.nearest neg m ((a : Int) - b - 1074) = D.word neg r := by
  by_cases h0 : r = 0
  · subst h0
    rw [units_zero, Nat.zero_mul] at h
    have : m = 0 := by
      rcases Nat.mul_eq_zero.1 h with e | e
      · exact e
      · have := Nat.two_pow_pos a; omega
    subst this
    exact nearest_zero _ _
  · exact nearest_exact neg m r a b hr h0 h

/-- every whole multiple, below 2^53, of a power of two is had -/
theorem had : ∀ (e K : Nat), K < 9007199254740992 → e ≤ 2045 → ∃ r, r < 9218868437227405312 ∧ units r = K * 2 ^ e := by
  intro e
  induction e with
  | zero =>
    intro K hK _
    refine ⟨K, by omega, ?_⟩
    unfold units mant lift
    by_cases g : K < 4503599627370496
    · simp [g]
    · rw [if_neg g, if_neg g]
      have h1 : K / 4503599627370496 = 1 := by omega
      rw [h1]; simp; omega
  | succ e ih =>
    intro K hK he
    by_cases g : K < 4503599627370496
    · obtain ⟨r, h1, h2⟩ := ih (K * 2) (by omega) (by omega)
      exact ⟨r, h1, by rw [h2, Nat.pow_succ, Nat.mul_assoc, Nat.mul_comm 2]⟩
    · refine ⟨(e + 2) * 4503599627370496 + (K - 4503599627370496), by omega, ?_⟩
      unfold units mant lift
      have h1 : ((e + 2) * 4503599627370496 + (K - 4503599627370496)) / 4503599627370496 = e + 2 := by omega
      have h2 : ((e + 2) * 4503599627370496 + (K - 4503599627370496)) % 4503599627370496 = K - 4503599627370496 := by omega
      rw [if_neg (by omega), if_neg (by omega), h1, h2]
      rw [show 4503599627370496 + (K - 4503599627370496) = K by omega, show e + 2 - 1 = e + 1 by omega]

theorem had_upto (e K : Nat) (hK : K ≤ 9007199254740992) (he : e ≤ 2044) : ∃ r, r < 9218868437227405312 ∧ units r = K * 2 ^ e := by
  by_cases g : K < 9007199254740992
  · exact had e K g (by omega)
  · have : K = 9007199254740992 := by omega
    subst this
    obtain ⟨r, h1, h2⟩ := had (e + 1) 4503599627370496 (by omega) (by omega)
    exact ⟨r, h1, by rw [h2, Nat.pow_succ, Nat.mul_comm (2 ^ e) 2, ← Nat.mul_assoc]⟩

theorem word_sgn (s : Bool) (r : Nat) (hr : r < 9223372036854775808) : sgn (D.word s r) = s ∧ rung (D.word s r) = r := by
  unfold sgn rung Format.word
  rw [D_sign]
  cases s
  · simp; constructor <;> omega
  · simp; constructor <;> omega

theorem word_self (n : Nat) (hn : n < 18446744073709551616) : D.word (sgn n) (rung n) = n := by
  unfold sgn rung Format.word
  rw [D_sign]
  by_cases h : n / 9223372036854775808 % 2 == 1
  · rw [if_pos h]; simp at h; omega
  · rw [if_neg h]; simp at h; omega

/-- the place of a unit: 2^-1074 (kept shut: nobody is to reckon 2^1074 out) -/
@[irreducible] def B74 : Nat := 1074
theorem B74_eq : B74 = 1074 := by unfold B74; rfl

/-- a whole number up to 2^53 as a word -/
theorem nearest_int (neg : Bool) (K : Nat) (hK : K ≤ 9007199254740992) :
    ∃ r, r < 9218868437227405312 ∧ units r = K * 2 ^ B74 ∧ D.nearest neg K 0 = D.word neg r := by
  obtain ⟨r, h1, h2⟩ := had_upto B74 K hK (by rw [B74_eq]; omega)
  refine ⟨r, h1, h2, ?_⟩
  have h3 := nearest_units neg K r B74 0 h1 (by rw [h2, Nat.pow_zero, Nat.mul_one])
  rw [show ((B74 : Nat) : Int) - ((0 : Nat) : Int) - 1074 = 0 by rw [B74_eq]; omega] at h3
  exact h3

end Go.Proofs.Ytiieppaalffgjaa
