import Derived.Test.YthhbbmebfmfgjaaGreatDoorR3
/-! Rounding never goes past a number that the format has. -/
namespace Go.Proofs.YthhbbmebfmfgjaaGreatDoor
open Ieee

/-- how many units a rung made of a binade and a fraction has -/
theorem units_join (e K : Nat) (h1 : 4503599627370496 ≤ K) (h2 : K ≤ 9007199254740992) : units (e * 4503599627370496 + K) = K * 2 ^ e := by
  rcases Nat.lt_or_ge K 9007199254740992 with h | h
  · rw [units_big (by omega)]
    have e1 : (e * 4503599627370496 + K) % 4503599627370496 = K - 4503599627370496 := by omega
    have e2 : (e * 4503599627370496 + K) / 4503599627370496 - 1 = e := by omega
    have e3 : 4503599627370496 + (K - 4503599627370496) = K := by omega
    rw [e1, e2, e3]
  · obtain rfl : K = 9007199254740992 := by omega
    rw [units_big (by omega)]
    have e1 : (e * 4503599627370496 + 9007199254740992) % 4503599627370496 = 0 := by omega
    have e2 : (e * 4503599627370496 + 9007199254740992) / 4503599627370496 - 1 = e + 1 := by omega
    rw [e1, e2, Nat.pow_succ]
    omega

theorem lift_ge {r e : Nat} (h : 4503599627370496 * 2 ^ e ≤ units r) : e ≤ lift r := by
  rcases Nat.lt_or_ge (lift r) e with g | g
  · exfalso
    have h1 : units r < 9007199254740992 * 2 ^ lift r := by
      unfold units
      exact Nat.mul_lt_mul_of_pos_right (mant_lt r) (Nat.two_pow_pos _)
    have h2 : 2 ^ (lift r + 1) ≤ 2 ^ e := Nat.pow_le_pow_right (by decide) g
    rw [Nat.pow_succ] at h2
    omega
  · exact g

theorem cut_ceil (way : Toward) (neg : Bool) (n d U : Nat) (h : n ≤ U * 2 ^ d) : way.cut neg n d ≤ U := by
  obtain ⟨b, h1, h2, h3, _⟩ := cut_le way neg n d
  rw [h1]
  have hp := Nat.two_pow_pos d
  have hd := Nat.div_add_mod n (2 ^ d)
  have hdiv : n / 2 ^ d ≤ U := by
    have := Nat.div_le_div_right (c := 2 ^ d) h
    rwa [Nat.mul_div_cancel _ hp] at this
  rcases Nat.lt_or_ge b 1 with g | g
  · omega
  · have hb : b = 1 := by omega
    have hne := h3 hb
    rcases Nat.lt_or_ge (n / 2 ^ d) U with k | k
    · omega
    · exfalso
      have he : n / 2 ^ d = U := by omega
      rw [he, Nat.mul_comm] at hd
      omega

/-- ROUNDING STAYS BELOW: m * 2^k units, no more than the rung r has, are rounded to no higher rung. -/
theorem nearest_le (neg : Bool) (m k r : Nat) (hr : r < 9218868437227405312) (h : m * 2 ^ k ≤ units r) :
    ∃ q, q ≤ r ∧ D.nearest neg m ((k : Int) - 1074) = D.word neg q := by
  by_cases hm : m = 0
  · subst hm; exact ⟨0, Nat.zero_le _, nearest_zero _ _⟩
  unfold Format.nearest
  rw [if_neg hm]
  simp only [D_least, D_frac, D_binade, D_inf]
  have hlo : 2 ^ m.log2 ≤ m := Nat.log2_self_le hm
  have hhi : m < 2 ^ (m.log2 + 1) := Nat.lt_log2_self
  by_cases he : k + m.log2 ≤ 52
  · have hlast : max (((k : Int) - 1074) + m.log2 - (52 : Nat)) (-1074) = -1074 := by omega
    rw [hlast]
    have e1 : (((k : Int) - 1074) - (-1074)).toNat = k := by omega
    have e2 : ((-1074 : Int) - ((k : Int) - 1074)).toNat = 0 := by omega
    have e3 : ((-1074 : Int) - (-1074)).toNat = 0 := by omega
    rw [e1, e2, e3, cut_zero, Nat.shiftLeft_eq, Nat.zero_mul, Nat.zero_add]
    have hs : m * 2 ^ k < 9007199254740992 := by
      have g1 : m * 2 ^ k < 2 ^ (m.log2 + 1) * 2 ^ k := Nat.mul_lt_mul_of_pos_right hhi (Nat.two_pow_pos _)
      rw [← Nat.pow_add] at g1
      have g2 : 2 ^ (m.log2 + 1 + k) ≤ 2 ^ 53 := Nat.pow_le_pow_right (by decide) (by omega)
      have g3 : (2 : Nat) ^ 53 = 9007199254740992 := by decide
      omega
    have hq : m * 2 ^ k ≤ r := by
      rcases Nat.lt_or_ge r (m * 2 ^ k) with g | g
      · have := units_lt g
        rw [units_small hs] at this
        omega
      · exact g
    exact ⟨m * 2 ^ k, hq, by rw [Nat.min_eq_left (by omega)]⟩
  · obtain ⟨e, hee⟩ : ∃ e, k + m.log2 = e + 52 := ⟨k + m.log2 - 52, by omega⟩
    have hlast : max (((k : Int) - 1074) + m.log2 - (52 : Nat)) (-1074) = (e : Int) - 1074 := by omega
    rw [hlast]
    have e1 : (((k : Int) - 1074) - ((e : Int) - 1074)).toNat = k - e := by omega
    have e2 : (((e : Int) - 1074) - ((k : Int) - 1074)).toNat = e - k := by omega
    have e3 : (((e : Int) - 1074) - (-1074)).toNat = e := by omega
    rw [e1, e2, e3, Nat.shiftLeft_eq]
    have g0 : (2 : Nat) ^ 52 = 4503599627370496 := by decide
    have hv1 : 4503599627370496 * 2 ^ e ≤ m * 2 ^ k := by
      have g1 : 2 ^ m.log2 * 2 ^ k ≤ m * 2 ^ k := Nat.mul_le_mul_right _ hlo
      rw [← Nat.pow_add, Nat.add_comm m.log2, hee, Nat.pow_add, g0, Nat.mul_comm] at g1
      exact g1
    have hv2 : m * 2 ^ k ≤ 9007199254740992 * 2 ^ e := by
      have g1 : m * 2 ^ k < 2 ^ (m.log2 + 1) * 2 ^ k := Nat.mul_lt_mul_of_pos_right hhi (Nat.two_pow_pos _)
      rw [← Nat.pow_add, show m.log2 + 1 + k = 53 + e by omega, Nat.pow_add, show (2 : Nat) ^ 53 = 9007199254740992 by decide] at g1
      omega
    have hlift := lift_ge (Nat.le_trans hv1 h)
    obtain ⟨U, hU⟩ : ∃ U, units r = U * 2 ^ e := ⟨mant r * 2 ^ (lift r - e), by unfold units; exact split_pow _ _ _ hlift⟩
    have hpe := Nat.two_pow_pos e
    -- what is kept
    obtain ⟨K, hK, hK1, hK2, hKU⟩ : ∃ K, Toward.even.cut neg (m * 2 ^ (k - e)) (e - k) = K ∧ 4503599627370496 ≤ K ∧ K ≤ 9007199254740992 ∧ K ≤ U := by
      refine ⟨_, rfl, ?_⟩
      rcases Nat.le_total e k with g | g
      · have hd : e - k = 0 := by omega
        rw [hd, cut_zero]
        have hs := split_pow m k e g
        rw [hs] at hv1 hv2
        rw [hs, hU] at h
        exact ⟨Nat.le_of_mul_le_mul_right hv1 hpe, Nat.le_of_mul_le_mul_right hv2 hpe, Nat.le_of_mul_le_mul_right h hpe⟩
      · have hd : k - e = 0 := by omega
        rw [hd, Nat.pow_zero, Nat.mul_one]
        have hs : (2 : Nat) ^ e = 2 ^ (e - k) * 2 ^ k := by rw [← Nat.pow_add]; congr 1; omega
        have hpk := Nat.two_pow_pos k
        have c1 : 4503599627370496 * 2 ^ (e - k) ≤ m := by
          rw [hs, ← Nat.mul_assoc] at hv1
          exact Nat.le_of_mul_le_mul_right hv1 hpk
        have c2 : m ≤ 9007199254740992 * 2 ^ (e - k) := by
          rw [hs, ← Nat.mul_assoc] at hv2
          exact Nat.le_of_mul_le_mul_right hv2 hpk
        have c3 : m ≤ U * 2 ^ (e - k) := by
          rw [hU, hs, ← Nat.mul_assoc] at h
          exact Nat.le_of_mul_le_mul_right h hpk
        refine ⟨?_, cut_ceil _ _ _ _ _ c2, cut_ceil _ _ _ _ _ c3⟩
        obtain ⟨b, h1, _⟩ := cut_le .even neg m (e - k)
        rw [h1]
        have := Nat.div_le_div_right (c := 2 ^ (e - k)) c1
        rw [Nat.mul_div_cancel _ (Nat.two_pow_pos _)] at this
        omega
    rw [hK]
    have hun := units_join e K hK1 hK2
    have hq : e * 4503599627370496 + K ≤ r := by
      rcases Nat.lt_or_ge r (e * 4503599627370496 + K) with g | g
      · exfalso
        have := units_lt g
        rw [hun, hU] at this
        have := Nat.mul_le_mul_right (2 ^ e) hKU
        omega
      · exact g
    exact ⟨_, hq, by rw [Nat.min_eq_left (by omega)]⟩

/-- what is not nought is not rounded to nought -/
theorem nearest_pos (neg : Bool) (m k : Nat) (hm : m ≠ 0) : ∃ q, 1 ≤ q ∧ q ≤ 9218868437227405312 ∧ D.nearest neg m ((k : Int) - 1074) = D.word neg q := by
  unfold Format.nearest
  rw [if_neg hm]
  simp only [D_least, D_frac, D_binade, D_inf]
  refine ⟨_, ?_, Nat.min_le_right _ _, rfl⟩
  refine (Nat.le_min).2 ⟨?_, by omega⟩
  by_cases he : k + m.log2 ≤ 52
  · have hlast : max (((k : Int) - 1074) + m.log2 - (52 : Nat)) (-1074) = -1074 := by omega
    rw [hlast]
    have e1 : (((k : Int) - 1074) - (-1074)).toNat = k := by omega
    have e2 : ((-1074 : Int) - ((k : Int) - 1074)).toNat = 0 := by omega
    rw [e1, e2, cut_zero, Nat.shiftLeft_eq]
    have := Nat.mul_pos (Nat.pos_of_ne_zero hm) (Nat.two_pow_pos k)
    omega
  · have hlast : (1 : Int) - 1074 ≤ max (((k : Int) - 1074) + m.log2 - (52 : Nat)) (-1074) := by omega
    have : 1 ≤ (max (((k : Int) - 1074) + m.log2 - (52 : Nat)) (-1074) - (-1074)).toNat := by omega
    omega
end Go.Proofs.YthhbbmebfmfgjaaGreatDoor
