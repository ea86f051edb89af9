/- Plain facts on what is left of a quotient: scaling and taking away are exact. -/
import Derived.Test.YtiieppaalffgjaaW14
namespace Go.Proofs.Ytiieppaalffgjaa
open Ieee

theorem sgn_small {n : Nat} (h : n < 9223372036854775808) : sgn n = false ∧ rung n = n := by
  unfold sgn rung
  constructor
  · rw [show n / 9223372036854775808 = 0 by omega]; rfl
  · omega

theorem read_pos {n : Nat} (h : n < 9218868437227405312) : D.read n = .number false (mant n) (-1074 + (lift n : Int)) := by
  obtain ⟨h1, h2⟩ := @sgn_small n (by omega)
  rw [read_fin (by rw [h2]; exact h), h1, h2]

theorem word_pos (r : Nat) : D.word false r = r := rfl

/-- a product of two positive numbers that the format has -/
theorem mul_exact {x y c : Nat} (hx : x < 9218868437227405312) (hy : y < 9218868437227405312) (hc : c < 9218868437227405312)
    (h : units x * units y = units c * 2 ^ B74) : D.mul x y = some c := by
  have hB := B74_eq
  unfold Format.mul
  rw [read_pos hx, read_pos hy]
  unfold Datum.product
  dsimp only
  have h3 := nearest_units false (mant x * mant y) c (lift x + lift y) B74 hc (by
    unfold units at h ⊢
    rw [Nat.pow_add, ← h]
    simp only [Nat.mul_assoc, Nat.mul_left_comm])
  rw [show (((lift x + lift y : Nat) : Int) - (B74 : Int) - 1074) = (-1074 + (lift x : Int)) + (-1074 + (lift y : Int)) by omega, word_pos] at h3
  show some (D.nearest (false ^^ false) (mant x * mant y) _) = some c
  rw [show (false ^^ false) = false from rfl, h3]

theorem sub_exact {r c d : Nat} (hr : r < 9218868437227405312) (hc : c < 9218868437227405312) (hd : d < 9218868437227405312) (h : units r = units d + units c) : D.sub r c = some d := by
  unfold Format.sub
  rw [read_pos hr, read_pos hc]
  unfold Datum.opposite Datum.sum
  dsimp only
  simp only [Option.map_some, Option.some.injEq, Bool.not_false]
  have key : ∀ (m : Nat) (base : Int) (hb : base = -1074 + (m : Int)) (h1 : m ≤ lift r) (h2 : m ≤ lift c),
      D.write (.number (if signed false (mant r) (-1074 + (lift r : Int) - base).toNat + signed true (mant c) (-1074 + (lift c : Int) - base).toNat = 0 then false && true else decide (signed false (mant r) (-1074 + (lift r : Int) - base).toNat + signed true (mant c) (-1074 + (lift c : Int) - base).toNat < 0))
        (signed false (mant r) (-1074 + (lift r : Int) - base).toNat + signed true (mant c) (-1074 + (lift c : Int) - base).toNat).natAbs base) = d := by
    intro m base hb h1 h2
    have e1 : (-1074 + (lift r : Int) - base).toNat = lift r - m := by omega
    have e2 : (-1074 + (lift c : Int) - base).toNat = lift c - m := by omega
    rw [e1, e2]
    have f1 : units r = mant r * 2 ^ (lift r - m) * 2 ^ m := by unfold units; exact split_pow _ _ _ h1
    have f2 : units c = mant c * 2 ^ (lift c - m) * 2 ^ m := by unfold units; exact split_pow _ _ _ h2
    have s1 : signed false (mant r) (lift r - m) = ((mant r * 2 ^ (lift r - m) : Nat) : Int) := by unfold signed; simp [Nat.shiftLeft_eq]
    have s2 : signed true (mant c) (lift c - m) = -((mant c * 2 ^ (lift c - m) : Nat) : Int) := by unfold signed; simp [Nat.shiftLeft_eq]
    rw [s1, s2]
    generalize mant r * 2 ^ (lift r - m) = p at *
    generalize mant c * 2 ^ (lift c - m) = q at *
    have hp : 0 < 2 ^ m := Nat.two_pow_pos m
    have hle : q ≤ p := by
      rw [f1, f2] at h
      rcases Nat.lt_or_ge p q with g | g
      · have := Nat.mul_lt_mul_of_pos_right g hp
        omega
      · exact g
    have hdd : units d = (p - q) * 2 ^ m := by
      rw [Nat.sub_mul]; omega
    have hn : ((p : Int) + -(q : Int)).natAbs = p - q := by omega
    have hs : (if (p : Int) + -(q : Int) = 0 then false && true else decide ((p : Int) + -(q : Int) < 0)) = false := by
      split
      · rfl
      · simp; omega
    rw [hn, hs]
    unfold Format.write
    dsimp only
    have h3 := nearest_units false (p - q) d m 0 hd (by rw [hdd, Nat.pow_zero, Nat.mul_one])
    rw [show ((m : Int) - ((0 : Nat) : Int) - 1074) = base by omega, word_pos] at h3
    exact h3
  rcases Nat.le_total (lift r) (lift c) with g | g
  · have hm : min (-1074 + (lift r : Int)) (-1074 + (lift c : Int)) = -1074 + (lift r : Int) := by omega
    rw [hm]
    exact key (lift r) _ rfl (Nat.le_refl _) g
  · have hm : min (-1074 + (lift r : Int)) (-1074 + (lift c : Int)) = -1074 + (lift c : Int) := by omega
    rw [hm]
    exact key (lift c) _ rfl g (Nat.le_refl _)

theorem units_small {n : Nat} (h : n < 9007199254740992) : units n = n := by
  unfold units mant lift
  by_cases g : n < 4503599627370496
  · simp [g]
  · rw [if_neg g, if_neg g, show n / 4503599627370496 = 1 by omega]
    simp; omega

theorem units_big {n : Nat} (h : 4503599627370496 ≤ n) : units n = (4503599627370496 + n % 4503599627370496) * 2 ^ (n / 4503599627370496 - 1) := by
  unfold units mant lift
  rw [if_neg (by omega), if_neg (by omega)]

/-- 2^52 as a word; 1; 2^-53 -/
theorem units_c52 : units 4841369599423283200 = 4503599627370496 * 2 ^ B74 := by
  have hB := B74_eq
  rw [units_big (by omega), show 4841369599423283200 % 4503599627370496 = 0 by omega, show 4841369599423283200 / 4503599627370496 - 1 = B74 by omega, Nat.add_zero]
theorem units_m53 : units 4368491638549381120 * 2 ^ 105 = 4503599627370496 * 2 ^ B74 := by
  have hB := B74_eq
  rw [units_big (by omega), show 4368491638549381120 % 4503599627370496 = 0 by omega, show 4368491638549381120 / 4503599627370496 - 1 = B74 - 105 by omega, Nat.add_zero, Nat.mul_assoc, ← Nat.pow_add, Nat.sub_add_cancel (by omega)]
theorem units_one : units 4607182418800017408 = 2 ^ B74 := by
  have hB := B74_eq
  rw [units_big (by omega), show 4607182418800017408 % 4503599627370496 = 0 by omega, show 4607182418800017408 / 4503599627370496 - 1 = B74 - 52 by omega, Nat.add_zero]
  have h : (2 : Nat) ^ B74 = 2 ^ 52 * 2 ^ (B74 - 52) := by rw [← Nat.pow_add, Nat.add_sub_cancel' (by omega)]
  rw [h]

/-- a number made normal, and by how much -/
def nrm (n : Nat) : Nat := if n < 4503599627370496 then (D.mul n 4841369599423283200).getD 0 else n

theorem nrm_spec {n : Nat} (h0 : 0 < n) (h : n < 4503599627370496) :
    D.mul n 4841369599423283200 = some (nrm n) ∧ units (nrm n) = n * 2 ^ 52 ∧ 4503599627370496 ≤ nrm n ∧ nrm n < 9218868437227405312 := by
  obtain ⟨r, h1, h2⟩ := had 52 n (by omega) (by omega)
  have hm : D.mul n 4841369599423283200 = some r := mul_exact (by omega) (by omega) h1 (by
    rw [units_small (by omega), units_c52, h2, ← Nat.mul_assoc])
  have hn : nrm n = r := by unfold nrm; rw [if_pos h, hm]; rfl
  rw [hn]
  refine ⟨hm, h2, ?_, h1⟩
  rcases Nat.lt_or_ge r 4503599627370496 with g | g
  · rw [units_small (by omega)] at h2; omega
  · exact g

/-- the fraction's bits; the exponent, counted from the least one on -/
def fr (n : Nat) : Nat := nrm n % 4503599627370496
def ge (n : Nat) : Nat := if n < 4503599627370496 then nrm n / 4503599627370496 - 1 else n / 4503599627370496 + 51

theorem fr_lt (n : Nat) : fr n < 4503599627370496 := Nat.mod_lt _ (by omega)

theorem norm_key {n : Nat} (h0 : 0 < n) : units n * 2 ^ 52 = (4503599627370496 + fr n) * 2 ^ ge n := by
  unfold fr ge
  by_cases g : n < 4503599627370496
  · obtain ⟨_, h2, h3, _⟩ := nrm_spec h0 g
    rw [if_pos g, units_small (by omega), ← h2, units_big h3]
  · have hn : nrm n = n := by unfold nrm; rw [if_neg g]
    rw [if_neg g, hn, units_big (by omega), Nat.mul_assoc, ← Nat.pow_add]
    congr 2; omega

theorem ge_lt {n : Nat} (h0 : 0 < n) (h : n < 9218868437227405312) : ge n ≤ 2097 := by
  unfold ge
  split
  · rename_i g
    obtain ⟨_, _, _, h4⟩ := nrm_spec h0 g
    omega
  · omega

theorem fr_order {a b : Nat} (ha : a < 4503599627370496) (hb : b < 4503599627370496) : (D.order (4602678819172646912 + a) (4602678819172646912 + b) == some .lt) = decide (a < b) := by
  obtain ⟨s1, r1⟩ := @sgn_small (4602678819172646912 + a) (by omega)
  obtain ⟨s2, r2⟩ := @sgn_small (4602678819172646912 + b) (by omega)
  rw [order_key, fnan_fin (by rw [r1]; omega), fnan_fin (by rw [r2]; omega)]
  unfold skey
  rw [s1, s2, r1, r2, Bool.eq_iff_iff]
  simp [cmp_lt_iff]

/-- what a number stands for beside its scaled exponent: the greater one of two has the greater exponent, or fraction -/
theorem ge_mono {r y : Nat} (hy : 0 < y) (h : y ≤ r) : ge y ≤ ge r ∧ (ge y = ge r → fr y ≤ fr r) := by
  have k1 := norm_key (n := r) (by omega)
  have k2 := norm_key hy
  have hu := units_le h
  have f1 := fr_lt r
  have f2 := fr_lt y
  have hle : (4503599627370496 + fr y) * 2 ^ ge y ≤ (4503599627370496 + fr r) * 2 ^ ge r := by
    rw [← k1, ← k2]; exact Nat.mul_le_mul_right _ hu
  constructor
  · rcases Nat.lt_or_ge (ge r) (ge y) with g | g
    · exfalso
      obtain ⟨d, hd⟩ : ∃ d, ge y = ge r + (d + 1) := ⟨ge y - ge r - 1, by omega⟩
      rw [hd, Nat.pow_add, ← Nat.mul_assoc, Nat.mul_right_comm] at hle
      have := Nat.le_of_mul_le_mul_right hle (Nat.two_pow_pos _)
      have : 2 ≤ 2 ^ (d + 1) := by rw [Nat.pow_succ]; have := Nat.two_pow_pos d; omega
      have : (4503599627370496 + fr y) * 2 ≤ (4503599627370496 + fr y) * 2 ^ (d + 1) := Nat.mul_le_mul_left _ this
      omega
    · exact g
  · intro e
    rw [e] at hle
    have := Nat.le_of_mul_le_mul_right hle (Nat.two_pow_pos _)
    omega

/-- the exponent of what is taken away in a round -/
def gk (r y : Nat) : Nat := if fr r < fr y then ge r - 1 else ge r

/-- WHAT IS TAKEN AWAY IN A ROUND: y, scaled; and what is left: both are had, and less is left. -/
theorem round_spec {r y : Nat} (hy : 0 < y) (h : y ≤ r) (hr : r < 9218868437227405312) :
    ge y ≤ gk r y ∧ gk r y ≤ ge r ∧ ∃ c d, c < 9218868437227405312 ∧ d < 9218868437227405312 ∧ units c * 2 ^ 52 = (4503599627370496 + fr y) * 2 ^ gk r y ∧ units r = units d + units c ∧ d < r := by
  obtain ⟨m1, m2⟩ := ge_mono hy h
  have k1 := norm_key (n := r) (by omega)
  have k2 := norm_key hy
  have f1 := fr_lt r
  have f2 := fr_lt y
  have hg := ge_lt (n := r) (by omega) hr
  have hk : ge y ≤ gk r y ∧ gk r y ≤ ge r := by
    unfold gk
    split
    · have : ge y ≠ ge r := by intro e; have := m2 e; omega
      omega
    · omega
  refine ⟨hk.1, hk.2, ?_⟩
  -- in units of 2^(gk): what r is
  obtain ⟨R, hR, hR1, hR2⟩ : ∃ R, units r * 2 ^ 52 = R * 2 ^ gk r y ∧ 4503599627370496 + fr y ≤ R ∧ R - (4503599627370496 + fr y) < 9007199254740992 := by
    unfold gk
    by_cases g : fr r < fr y
    · rw [if_pos g]
      refine ⟨(4503599627370496 + fr r) * 2, ?_, by omega, by omega⟩
      rw [k1]
      have : ge r = (ge r - 1) + 1 := by
        have : ge y ≠ ge r := by intro e; have := m2 e; omega
        omega
      rw [this, Nat.pow_succ, Nat.add_sub_cancel, Nat.mul_assoc, Nat.mul_comm 2]
    · rw [if_neg g]
      exact ⟨4503599627370496 + fr r, k1, by omega, by omega⟩
  -- the scaled y is a whole number of units
  have hcu : units y * 2 ^ (gk r y - ge y) * 2 ^ 52 = (4503599627370496 + fr y) * 2 ^ gk r y := by
    rw [Nat.mul_right_comm, k2, Nat.mul_assoc, ← Nat.pow_add, Nat.add_sub_cancel' hk.1]
  have hle : units y * 2 ^ (gk r y - ge y) ≤ units r := by
    have : units y * 2 ^ (gk r y - ge y) * 2 ^ 52 ≤ units r * 2 ^ 52 := by rw [hcu, hR]; exact Nat.mul_le_mul_right _ hR1
    exact Nat.le_of_mul_le_mul_right this (Nat.two_pow_pos _)
  have hdu : (units r - units y * 2 ^ (gk r y - ge y)) * 2 ^ 52 = (R - (4503599627370496 + fr y)) * 2 ^ gk r y := by
    rw [Nat.sub_mul, Nat.sub_mul, hR, hcu]
  have hadc : ∀ U K, K < 9007199254740992 → U * 2 ^ 52 = K * 2 ^ gk r y → ∃ c, c < 9218868437227405312 ∧ units c = U := by
    intro U K hK hU
    rcases Nat.lt_or_ge (gk r y) 52 with g | g
    · have hlt : U < 9007199254740992 := by
        have h2 : (2 : Nat) ^ gk r y < 2 ^ 52 := Nat.pow_lt_pow_right (by omega) g
        rcases Nat.lt_or_ge U 9007199254740992 with q | q
        · exact q
        · exfalso
          have a1 : 9007199254740992 * 2 ^ 52 ≤ U * 2 ^ 52 := Nat.mul_le_mul_right _ q
          have a2 : K * 2 ^ gk r y ≤ 9007199254740991 * 2 ^ 52 := Nat.mul_le_mul (by omega) (by omega)
          omega
      obtain ⟨c, h1, h2⟩ := had 0 U hlt (by omega)
      exact ⟨c, h1, by rw [h2]; simp⟩
    · obtain ⟨c, h1, h2⟩ := had (gk r y - 52) K hK (by omega)
      refine ⟨c, h1, ?_⟩
      have : U * 2 ^ 52 = units c * 2 ^ 52 := by rw [hU, h2, Nat.mul_assoc, ← Nat.pow_add, Nat.sub_add_cancel g]
      exact (Nat.eq_of_mul_eq_mul_right (Nat.two_pow_pos _) this).symm
  obtain ⟨c, c1, c2⟩ := hadc _ (4503599627370496 + fr y) (by omega) hcu
  obtain ⟨d, d1, d2⟩ := hadc _ (R - (4503599627370496 + fr y)) hR2 hdu
  have hyu : 0 < units y := by have := @units_lt 0 y hy; rw [units_zero] at this; exact this
  have hcp : 0 < units y * 2 ^ (gk r y - ge y) := Nat.mul_pos hyu (Nat.two_pow_pos _)
  refine ⟨c, d, c1, d1, by rw [c2, hcu], by rw [c2, d2]; omega, ?_⟩
  apply units_lt_iff.1
  rw [d2]
  omega
end Go.Proofs.Ytiieppaalffgjaa
