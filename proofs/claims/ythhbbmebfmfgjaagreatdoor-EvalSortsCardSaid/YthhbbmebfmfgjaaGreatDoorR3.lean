import Derived.Test.YthhbbmebfmfgjaaGreatDoorR2
import Derived.Test.YthhbbmebfmfgjaaGreatDoorWWords
/- Plain facts on what is left of a quotient: scaling and taking away are exact. -/
namespace Go.Proofs.YthhbbmebfmfgjaaGreatDoor
open Ieee

theorem sgn_small {n : Nat} (h : n < 9223372036854775808) : sgn n = false ∧ rung n = n := by
  unfold sgn rung
  constructor
  · rw [show n / 9223372036854775808 = 0 by omega]; rfl
  · omega

theorem read_pos {n : Nat} (h : n < 9218868437227405312) : D.read n = .number false (mant n) (-1074 + (lift n : Int)) := by
  obtain ⟨h1, h2⟩ := @sgn_small n (by omega)
  rw [read_fin (by rw [h2]; exact h), h1, h2]

theorem word_pos (r : Nat) : D.word false r = r := rfl

/-- a product of two positive numbers that the format has -/
theorem mul_exact {x y c : Nat} (hx : x < 9218868437227405312) (hy : y < 9218868437227405312) (hc : c < 9218868437227405312)
    (h : units x * units y = units c * 2 ^ B74) : D.mul x y = some c := by
  have hB := B74_eq
  unfold Format.mul
  rw [read_pos hx, read_pos hy]
  unfold Datum.product
  dsimp only
  have h3 := nearest_units false (mant x * mant y) c (lift x + lift y) B74 hc (by
    unfold units at h ⊢
    rw [Nat.pow_add, ← h]
    simp only [Nat.mul_assoc, Nat.mul_left_comm])
  rw [show (((lift x + lift y : Nat) : Int) - (B74 : Int) - 1074) = (-1074 + (lift x : Int)) + (-1074 + (lift y : Int)) by omega, word_pos] at h3
  show some (D.nearest (false ^^ false) (mant x * mant y) _) = some c
  rw [show (false ^^ false) = false from rfl, h3]

theorem sub_exact {r c d : Nat} (hr : r < 9218868437227405312) (hc : c < 9218868437227405312) (hd : d < 9218868437227405312) (h : units r = units d + units c) : D.sub r c = some d := by
  unfold Format.sub
  rw [read_pos hr, read_pos hc]
  unfold Datum.opposite Datum.sum
  dsimp only
  simp only [Option.map_some, Option.some.injEq, Bool.not_false]
  have key : ∀ (m : Nat) (base : Int) (hb : base = -1074 + (m : Int)) (h1 : m ≤ lift r) (h2 : m ≤ lift c),
      D.write (.number (if signed false (mant r) (-1074 + (lift r : Int) - base).toNat + signed true (mant c) (-1074 + (lift c : Int) - base).toNat = 0 then false && true else decide (signed false (mant r) (-1074 + (lift r : Int) - base).toNat + signed true (mant c) (-1074 + (lift c : Int) - base).toNat < 0))
        (signed false (mant r) (-1074 + (lift r : Int) - base).toNat + signed true (mant c) (-1074 + (lift c : Int) - base).toNat).natAbs base) = d := by
    intro m base hb h1 h2
    have e1 : (-1074 + (lift r : Int) - base).toNat = lift r - m := by omega
    have e2 : (-1074 + (lift c : Int) - base).toNat = lift c - m := by omega
    rw [e1, e2]
    have f1 : units r = mant r * 2 ^ (lift r - m) * 2 ^ m := by unfold units; exact split_pow _ _ _ h1
    have f2 : units c = mant c * 2 ^ (lift c - m) * 2 ^ m := by unfold units; exact split_pow _ _ _ h2
    have s1 : signed false (mant r) (lift r - m) = ((mant r * 2 ^ (lift r - m) : Nat) : Int) := by unfold signed; simp [Nat.shiftLeft_eq]
    have s2 : signed true (mant c) (lift c - m) = -((mant c * 2 ^ (lift c - m) : Nat) : Int) := by unfold signed; simp [Nat.shiftLeft_eq]
    rw [s1, s2]
    generalize mant r * 2 ^ (lift r - m) = p at *
    generalize mant c * 2 ^ (lift c - m) = q at *
    have hp : 0 < 2 ^ m := Nat.two_pow_pos m
    have hle : q ≤ p := by
      rw [f1, f2] at h
      rcases Nat.lt_or_ge p q with g | g
      · have := Nat.mul_lt_mul_of_pos_right g hp
        omega
      · exact g
    have hdd : units d = (p - q) * 2 ^ m := by
      rw [Nat.sub_mul]; omega
    have hn : ((p : Int) + -(q : Int)).natAbs = p - q := by omega
    have hs : (if (p : Int) + -(q : Int) = 0 then false && true else decide ((p : Int) + -(q : Int) < 0)) = false := by
      split
      · rfl
      · simp; omega
    rw [hn, hs]
    unfold Format.write
    dsimp only
    have h3 := nearest_units false (p - q) d m 0 hd (by rw [hdd, Nat.pow_zero, Nat.mul_one])
    rw [show ((m : Int) - ((0 : Nat) : Int) - 1074) = base by omega, word_pos] at h3
    exact h3
  rcases Nat.le_total (lift r) (lift c) with g | g
  · have hm : min (-1074 + (lift r : Int)) (-1074 + (lift c : Int)) = -1074 + (lift r : Int) := by omega
    rw [hm]
    exact key (lift r) _ rfl (Nat.le_refl _) g
  · have hm : min (-1074 + (lift r : Int)) (-1074 + (lift c : Int)) = -1074 + (lift c : Int) := by omega
    rw [hm]
    exact key (lift c) _ rfl g (Nat.le_refl _)

theorem units_small {n : Nat} (h : n < 9007199254740992) : units n = n := by
  unfold units mant lift
  by_cases g : n < 4503599627370496
  · simp [g]
  · rw [if_neg g, if_neg g, show n / 4503599627370496 = 1 by omega]
    simp; omega

theorem units_big {n : Nat} (h : 4503599627370496 ≤ n) : units n = (4503599627370496 + n % 4503599627370496) * 2 ^ (n / 4503599627370496 - 1) := by
  unfold units mant lift
  rw [if_neg (by omega), if_neg (by omega)]

/-- 2^52 as a word; 1; 2^-53 -/
theorem units_c52 : units 4841369599423283200 = 4503599627370496 * 2 ^ B74 := by
  have hB := B74_eq
  rw [units_big (by omega), show 4841369599423283200 % 4503599627370496 = 0 by omega, show 4841369599423283200 / 4503599627370496 - 1 = B74 by omega, Nat.add_zero]
theorem units_m53 : units 4368491638549381120 * 2 ^ 105 = 4503599627370496 * 2 ^ B74 := by
  have hB := B74_eq
  rw [units_big (by omega), show 4368491638549381120 % 4503599627370496 = 0 by omega, show 4368491638549381120 / 4503599627370496 - 1 = B74 - 105 by omega, Nat.add_zero, Nat.mul_assoc, ← Nat.pow_add, Nat.sub_add_cancel (by omega)]
theorem units_one : units 4607182418800017408 = 2 ^ B74 := by
  have hB := B74_eq
  rw [units_big (by omega), show 4607182418800017408 % 4503599627370496 = 0 by omega, show 4607182418800017408 / 4503599627370496 - 1 = B74 - 52 by omega, Nat.add_zero]
  have h : (2 : Nat) ^ B74 = 2 ^ 52 * 2 ^ (B74 - 52) := by rw [← Nat.pow_add, Nat.add_sub_cancel' (by omega)]
  rw [h]

/-- a number made normal, and by how much -/
def nrm (n : Nat) : Nat := if n < 4503599627370496 then (D.mul n 4841369599423283200).getD 0 else n

theorem nrm_spec {n : Nat} (h0 : 0 < n) (h : n < 4503599627370496) :
    D.mul n 4841369599423283200 = some (nrm n) ∧ units (nrm n) = n * 2 ^ 52 ∧ 4503599627370496 ≤ nrm n ∧ nrm n < 9218868437227405312 := by
  obtain ⟨r, h1, h2⟩ := had 52 n (by omega) (by omega)
  have hm : D.mul n 4841369599423283200 = some r := mul_exact (by omega) (by omega) h1 (by
    rw [units_small (by omega), units_c52, h2, ← Nat.mul_assoc])
  have hn : nrm n = r := by unfold nrm; rw [if_pos h, hm]; rfl
  rw [hn]
  refine ⟨hm, h2, ?_, h1⟩
  rcases Nat.lt_or_ge r 4503599627370496 with g | g
  · rw [units_small (by omega)] at h2; omega
  · exact g

/-- the fraction's bits; the exponent, counted from the least one on -/
def fr (n : Nat) : Nat := nrm n % 4503599627370496
def ge (n : Nat) : Nat := if n < 4503599627370496 then nrm n / 4503599627370496 - 1 else n / 4503599627370496 + 51

theorem fr_lt (n : Nat) : fr n < 4503599627370496 := Nat.mod_lt _ (by omega)

theorem norm_key {n : Nat} (h0 : 0 < n) : units n * 2 ^ 52 = (4503599627370496 + fr n) * 2 ^ ge n := by
  unfold fr ge
  by_cases g : n < 4503599627370496
  · obtain ⟨_, h2, h3, _⟩ := nrm_spec h0 g
    rw [if_pos g, units_small (by omega), ← h2, units_big h3]
  · have hn : nrm n = n := by unfold nrm; rw [if_neg g]
    rw [if_neg g, hn, units_big (by omega), Nat.mul_assoc, ← Nat.pow_add]
    congr 2; omega

theorem ge_lt {n : Nat} (h0 : 0 < n) (h : n < 9218868437227405312) : ge n ≤ 2097 := by
  unfold ge
  split
  · rename_i g
    obtain ⟨_, _, _, h4⟩ := nrm_spec h0 g
    omega
  · omega

theorem fr_order {a b : Nat} (ha : a < 4503599627370496) (hb : b < 4503599627370496) : (D.order (4602678819172646912 + a) (4602678819172646912 + b) == some .lt) = decide (a < b) := by
  obtain ⟨s1, r1⟩ := @sgn_small (4602678819172646912 + a) (by omega)
  obtain ⟨s2, r2⟩ := @sgn_small (4602678819172646912 + b) (by omega)
  rw [order_key, fnan_fin (by rw [r1]; omega), fnan_fin (by rw [r2]; omega)]
  unfold skey
  rw [s1, s2, r1, r2, Bool.eq_iff_iff]
  simp [cmp_lt_iff]

/-- what a number stands for beside its scaled exponent: the greater one of two has the greater exponent, or fraction -/
theorem ge_mono {r y : Nat} (hy : 0 < y) (h : y ≤ r) : ge y ≤ ge r ∧ (ge y = ge r → fr y ≤ fr r) := by
  have k1 := norm_key (n := r) (by omega)
  have k2 := norm_key hy
  have hu := units_le h
  have f1 := fr_lt r
  have f2 := fr_lt y
  have hle : (4503599627370496 + fr y) * 2 ^ ge y ≤ (4503599627370496 + fr r) * 2 ^ ge r := by
    rw [← k1, ← k2]; exact Nat.mul_le_mul_right _ hu
  constructor
  · rcases Nat.lt_or_ge (ge r) (ge y) with g | g
    · exfalso
      obtain ⟨d, hd⟩ : ∃ d, ge y = ge r + (d + 1) := ⟨ge y - ge r - 1, by omega⟩
      rw [hd, Nat.pow_add, ← Nat.mul_assoc, Nat.mul_right_comm] at hle
      have := Nat.le_of_mul_le_mul_right hle (Nat.two_pow_pos _)
      have : 2 ≤ 2 ^ (d + 1) := by rw [Nat.pow_succ]; have := Nat.two_pow_pos d; omega
      have : (4503599627370496 + fr y) * 2 ≤ (4503599627370496 + fr y) * 2 ^ (d + 1) := Nat.mul_le_mul_left _ this
      omega
    · exact g
  · intro e
    rw [e] at hle
    have := Nat.le_of_mul_le_mul_right hle (Nat.two_pow_pos _)
    omega

/-- the exponent of what is taken away in a round -/
def gk (r y : Nat) : Nat := if fr r < fr y then ge r - 1 else ge r

/-- WHAT IS TAKEN AWAY IN A ROUND: y, scaled; and what is left: both are had, and less is left. -/
theorem round_spec {r y : Nat} (hy : 0 < y) (h : y ≤ r) (hr : r < 9218868437227405312) :
    ge y ≤ gk r y ∧ gk r y ≤ ge r ∧ ∃ c d, c < 9218868437227405312 ∧ d < 9218868437227405312 ∧ units c * 2 ^ 52 = (4503599627370496 + fr y) * 2 ^ gk r y ∧ units r = units d + units c ∧ d < r := by
  obtain ⟨m1, m2⟩ := ge_mono hy h
  have k1 := norm_key (n := r) (by omega)
  have k2 := norm_key hy
  have f1 := fr_lt r
  have f2 := fr_lt y
  have hg := ge_lt (n := r) (by omega) hr
  have hk : ge y ≤ gk r y ∧ gk r y ≤ ge r := by
    unfold gk
    split
    · have : ge y ≠ ge r := by intro e; have := m2 e; omega
      omega
    · omega
  refine ⟨hk.1, hk.2, ?_⟩
  -- in units of 2^(gk): what r is
  obtain ⟨R, hR, hR1, hR2⟩ : ∃ R, units r * 2 ^ 52 = R * 2 ^ gk r y ∧ 4503599627370496 + fr y ≤ R ∧ R - (4503599627370496 + fr y) < 9007199254740992 := by
    unfold gk
    by_cases g : fr r < fr y
    · rw [if_pos g]
      refine ⟨(4503599627370496 + fr r) * 2, ?_, by omega, by omega⟩
      rw [k1]
      have : ge r = (ge r - 1) + 1 := by
        have : ge y ≠ ge r := by intro e; have := m2 e; omega
        omega
      rw [this, Nat.pow_succ, Nat.add_sub_cancel, Nat.mul_assoc, Nat.mul_comm 2]
    · rw [if_neg g]
      exact ⟨4503599627370496 + fr r, k1, by omega, by omega⟩
  -- the scaled y is a whole number of units
  have hcu : units y * 2 ^ (gk r y - ge y) * 2 ^ 52 = (4503599627370496 + fr y) * 2 ^ gk r y := by
    rw [Nat.mul_right_comm, k2, Nat.mul_assoc, ← Nat.pow_add, Nat.add_sub_cancel' hk.1]
  have hle : units y * 2 ^ (gk r y - ge y) ≤ units r := by
    have : units y * 2 ^ (gk r y - ge y) * 2 ^ 52 ≤ units r * 2 ^ 52 := by rw [hcu, hR]; exact Nat.mul_le_mul_right _ hR1
    exact Nat.le_of_mul_le_mul_right this (Nat.two_pow_pos _)
  have hdu : (units r - units y * 2 ^ (gk r y - ge y)) * 2 ^ 52 = (R - (4503599627370496 + fr y)) * 2 ^ gk r y := by
    rw [Nat.sub_mul, Nat.sub_mul, hR, hcu]
  have hadc : ∀ U K, K < 9007199254740992 → U * 2 ^ 52 = K * 2 ^ gk r y → ∃ c, c < 9218868437227405312 ∧ units c = U := by
    intro U K hK hU
    rcases Nat.lt_or_ge (gk r y) 52 with g | g
    · have hlt : U < 9007199254740992 := by
        have h2 : (2 : Nat) ^ gk r y < 2 ^ 52 := Nat.pow_lt_pow_right (by omega) g
        rcases Nat.lt_or_ge U 9007199254740992 with q | q
        · exact q
        · exfalso
          have a1 : 9007199254740992 * 2 ^ 52 ≤ U * 2 ^ 52 := Nat.mul_le_mul_right _ q
          have a2 : K * 2 ^ gk r y ≤ 9007199254740991 * 2 ^ 52 := Nat.mul_le_mul (by omega) (by omega)
          omega
      obtain ⟨c, h1, h2⟩ := had 0 U hlt (by omega)
      exact ⟨c, h1, by rw [h2]; simp⟩
    · obtain ⟨c, h1, h2⟩ := had (gk r y - 52) K hK (by omega)
      refine ⟨c, h1, ?_⟩
      have : U * 2 ^ 52 = units c * 2 ^ 52 := by rw [hU, h2, Nat.mul_assoc, ← Nat.pow_add, Nat.sub_add_cancel g]
      exact (Nat.eq_of_mul_eq_mul_right (Nat.two_pow_pos _) this).symm
  obtain ⟨c, c1, c2⟩ := hadc _ (4503599627370496 + fr y) (by omega) hcu
  obtain ⟨d, d1, d2⟩ := hadc _ (R - (4503599627370496 + fr y)) hR2 hdu
  have hyu : 0 < units y := by have := @units_lt 0 y hy; rw [units_zero] at this; exact this
  have hcp : 0 < units y * 2 ^ (gk r y - ge y) := Nat.mul_pos hyu (Nat.two_pow_pos _)
  refine ⟨c, d, c1, d1, by rw [c2, hcu], by rw [c2, d2]; omega, ?_⟩
  apply units_lt_iff.1
  rw [d2]
  omega
end Go.Proofs.YthhbbmebfmfgjaaGreatDoor

/- Frexp, Ldexp, Mod: the walks. -/
namespace Go.Proofs.YthhbbmebfmfgjaaGreatDoor
open Go.RowKit

theorem pos_order {n M : Nat} (h : n < 9218868437227405312) (hM : M < 9218868437227405312) : D.order n M = some (compare (n : Int) (M : Int)) := by
  obtain ⟨s1, r1⟩ := @sgn_small n (by omega)
  obtain ⟨s2, r2⟩ := @sgn_small M (by omega)
  rw [order_key, fnan_fin (by rw [r1]; exact h), fnan_fin (by rw [r2]; exact hM)]
  unfold skey
  rw [s1, r1, s2, r2]
  rfl
theorem lt_test {n M : Nat} (h : n < 9218868437227405312) (hM : M < 9218868437227405312) : (D.order n M == some .lt) = decide (n < M) := by
  rw [pos_order h hM, Bool.eq_iff_iff]
  simp [cmp_lt_iff]
theorem geq_test {n M : Nat} (h : n < 9218868437227405312) (hM : M < 9218868437227405312) : (D.order n M == some .gt || D.order n M == some .eq) = decide (M ≤ n) := by
  rw [pos_order h hM, Bool.eq_iff_iff]
  simp [cmp_gt_iff]
  omega
theorem small_test {n : Nat} (h : n < 9218868437227405312) : (D.order n 4503599627370496 == some .lt) = decide (n < 4503599627370496) := lt_test h (by omega)

def nexp (n : Nat) : Int := if n < 4503599627370496 then -52 else 0

set_option maxRecDepth 100000 in
set_option maxHeartbeats 400000 in
theorem normalize_any (n : Nat) (h0 : 0 < n) (h : n < 9218868437227405312) (w : World) :
    Calls Tryz.prog 238 #[.float .f64 n] w fun e w' => e = .returned (.tuple #[.float .f64 (nrm n), .int .i64 (nexp n)]) ∧ w = w' := by
  obtain ⟨s1, r1⟩ := @sgn_small n (by omega)
  have ca := abs_any n (by omega)
  rw [r1] at ca
  have ht := small_test h
  by_cases g : n < 4503599627370496
  · obtain ⟨hm, _, _, _⟩ := nrm_spec h0 g
    have hop := fun w => run_float_arith (P := Tryz.prog) w .mul 107 .f64 n 4841369599423283200 (nrm n) hm
    have he : nexp n = -52 := by unfold nexp; rw [if_pos g]
    rw [he]
    have ht2 : (D.order n 4503599627370496 == some .lt) = true := by rw [ht]; simpa using g
    clear ht s1 r1 g he hm
    go_enter Tryz.func238, Tryz.ntmps238
    go_wp2_with (go_at_call 97; refine (ca _).mono ?_; rintro e w' ⟨rfl, rfl⟩)
    go_ret2
    exact ⟨rfl, rfl⟩
  · have hn : nrm n = n := by unfold nrm; rw [if_neg g]
    have he : nexp n = 0 := by unfold nexp; rw [if_neg g]
    rw [hn, he]
    have ht2 : (D.order n 4503599627370496 == some .lt) = false := by rw [ht]; simpa using g
    clear ht s1 r1 g hn he
    go_enter Tryz.func238, Tryz.ntmps238
    go_wp2_with (go_at_call 97; refine (ca _).mono ?_; rintro e w' ⟨rfl, rfl⟩)
    go_ret2
    exact ⟨rfl, rfl⟩

theorem nrm_range {n : Nat} (h0 : 0 < n) (h : n < 9218868437227405312) : 4503599627370496 ≤ nrm n ∧ nrm n < 9218868437227405312 := by
  by_cases g : n < 4503599627370496
  · obtain ⟨_, _, h3, h4⟩ := nrm_spec h0 g
    exact ⟨h3, h4⟩
  · have hn : nrm n = n := by unfold nrm; rw [if_neg g]
    rw [hn]; omega

theorem zero_false {n : Nat} (h0 : 0 < n) (h : n < 9218868437227405312) : (D.order n 0 == some .eq) = false := by
  rw [zero_test, (@sgn_small n (by omega)).2]
  simp; omega

theorem ge_eq {n : Nat} (h0 : 0 < n) (h : n < 9218868437227405312) : (ge n : Int) = nexp n + ((nrm n / 4503599627370496 : Nat) : Int) + 51 := by
  obtain ⟨m1, m2⟩ := nrm_range h0 h
  unfold ge nexp
  by_cases g : n < 4503599627370496
  · rw [if_pos g, if_pos g]; omega
  · have hn : nrm n = n := by unfold nrm; rw [if_neg g]
    rw [if_neg g, if_neg g, hn]; omega

theorem andNot_exp {m : Nat} (h : m < 9223372036854775808) : bits .andNot .u64 (m : Int) 9218868437227405312 = ((m % 4503599627370496 : Nat) : Int) := by
  have e := u64_andNot_nat m 9218868437227405312 (by omega) (by omega)
  rw [show ((9218868437227405312 : Nat) : Int) = 9218868437227405312 from rfl] at e
  rw [e]
  congr 1
  apply Nat.eq_of_testBit_eq
  intro i
  rw [Nat.testBit_and, show (18446744073709551615 - 9218868437227405312 : Nat) = 2 ^ 63 * 1 + (2 ^ 52 - 1) from rfl, Nat.two_pow_add_eq_or_of_lt (by decide), Nat.testBit_or, Nat.testBit_two_pow_sub_one,
    show (4503599627370496 : Nat) = 2 ^ 52 from rfl, Nat.testBit_mod_two_pow]
  by_cases hi : i = 63
  · subst hi
    have : m.testBit 63 = false := Nat.testBit_lt_two_pow h
    rw [this]; simp
  · have : (2 ^ 63 * 1).testBit i = false := by rw [Nat.mul_one, Nat.testBit_two_pow]; simp; omega
    rw [this]
    cases m.testBit i <;> simp

theorem or_exp {f E : Nat} (hf : f < 4503599627370496) (hE : E < 2048) : bits .or .u64 (f : Int) ((E * 4503599627370496 : Nat) : Int) = ((E * 4503599627370496 + f : Nat) : Int) := by
  rw [u64_or_nat f (E * 4503599627370496) (by omega) (by omega)]
  congr 1
  rw [Nat.or_comm, show E * 4503599627370496 = 2 ^ 52 * E by rw [Nat.mul_comm], ← Nat.two_pow_add_eq_or_of_lt (by exact hf)]

theorem and_exp {E : Nat} (hE : E < 2048) : bits .and .u64 (E : Int) 2047 = (E : Int) := by
  have e := u64_and_nat E 2047 (by omega) (by omega)
  rw [show ((2047 : Nat) : Int) = 2047 from rfl] at e
  rw [e]
  congr 1
  have := Nat.and_two_pow_sub_one_eq_mod E 11
  rw [show (2 : Nat) ^ 11 - 1 = 2047 from rfl] at this
  rw [this]
  omega

set_option maxRecDepth 100000 in
set_option maxHeartbeats 400000 in
theorem frexp_in (n : Nat) (h0 : 0 < n) (h : n < 9218868437227405312) (w : World) :
    Calls Tryz.prog 225 #[.float .f64 n] w fun e w' => e = .returned (.tuple #[.float .f64 (4602678819172646912 + fr n), .int .i64 ((ge n : Int) - 1073)]) ∧ w = w' := by
  obtain ⟨s1, r1⟩ := @sgn_small n (by omega)
  have cn := isNaN_any n
  rw [fnan_fin (by rw [r1]; exact h)] at cn
  have ci := isInf_any n (by omega)
  rw [r1, show decide (n = 9218868437227405312) = false by simp; omega] at ci
  have hz := zero_false h0 h
  have cm := normalize_any n h0 h
  obtain ⟨m1, m2⟩ := nrm_range h0 h
  have hg := Lib.hid (ge_eq h0 h)
  have hA := @andNot_exp (nrm n) (by omega)
  have hO := @or_exp (nrm n % 4503599627370496) 1022 (by omega) (by omega)
  have hz2 : Hid (1022 * 4503599627370496 + nrm n % 4503599627370496 = 4602678819172646912 + fr n) := Lib.hid rfl
  generalize 1022 * 4503599627370496 + nrm n % 4503599627370496 = z at hO hz2
  rw [show ((1022 * 4503599627370496 : Nat) : Int) = 4602678819172646912 from rfl] at hO
  generalize nrm n % 4503599627370496 = f at hA hO
  have hE : ((nrm n : Nat) : Int) / 4503599627370496 = ((nrm n / 4503599627370496 : Nat) : Int) := by omega
  have hE1 : nrm n / 4503599627370496 ≤ 2046 := by omega
  have hN := @and_exp (nrm n / 4503599627370496) (by omega)
  generalize nrm n / 4503599627370496 = E at hE hE1 hN hg
  have he1 : -52 ≤ nexp n := by unfold nexp; split <;> omega
  have he2 : nexp n ≤ 0 := by unfold nexp; split <;> omega
  generalize nrm n = m at *
  generalize nexp n = q at *
  clear s1 r1
  go_enter Tryz.func225, Tryz.ntmps225
  go_wp2_with (first | (go_at_call 98; refine (ci _).mono ?_; rintro e w' ⟨rfl, rfl⟩) | (go_at_call 206; refine (cn _).mono ?_; rintro e w' ⟨rfl, rfl⟩) | (go_at_call 238; refine (cm _).mono ?_; rintro e w' ⟨rfl, rfl⟩))
  go_ret2
  refine ⟨?_, rfl⟩
  have e1 := hz2.out
  have e2 := hg.out
  have e3 : q + ((E : Int) - 1023 + 1) = (ge n : Int) - 1073 := by omega
  rw [← e3, ← e1]
  rfl

set_option maxRecDepth 100000 in
set_option maxHeartbeats 400000 in
theorem Frexp_any (n : Nat) (h0 : 0 < n) (h : n < 9218868437227405312) (w : World) :
    Calls Tryz.prog 208 #[.float .f64 n] w fun e w' => e = .returned (.tuple #[.float .f64 (4602678819172646912 + fr n), .int .i64 ((ge n : Int) - 1073)]) ∧ w = w' := by
  have c := frexp_in n h0 h
  generalize 4602678819172646912 + fr n = z at *
  generalize (ge n : Int) - 1073 = q at *
  go_enter Tryz.func208, Tryz.ntmps208
  go_wp2_with (go_at_call 225; refine (c _).mono ?_; rintro e w' ⟨rfl, rfl⟩)
  go_ret2
  exact ⟨rfl, rfl⟩
end Go.Proofs.YthhbbmebfmfgjaaGreatDoor

/- Ldexp, Mod: the walks. -/
namespace Go.Proofs.YthhbbmebfmfgjaaGreatDoor
open Go.RowKit

theorem ld_big {y kk c : Nat} (hk : 52 ≤ kk) (hc : units c * 2 ^ 52 = (4503599627370496 + fr y) * 2 ^ kk) : (kk - 51) * 4503599627370496 + fr y = c := by
  have hf := fr_lt y
  apply units_inj
  rw [units_big (by omega), show ((kk - 51) * 4503599627370496 + fr y) % 4503599627370496 = fr y by omega, show ((kk - 51) * 4503599627370496 + fr y) / 4503599627370496 - 1 = kk - 52 by omega]
  apply Nat.eq_of_mul_eq_mul_right (Nat.two_pow_pos 52)
  rw [hc, Nat.mul_assoc, ← Nat.pow_add, Nat.sub_add_cancel hk]

theorem mul_one_exact {c : Nat} (hc : c < 9218868437227405312) : D.mul 4607182418800017408 c = some c :=
  mul_exact (by omega) hc hc (by rw [units_one, Nat.mul_comm])

theorem ld_small {y kk c : Nat} (hk : kk < 52) (hc1 : c < 9218868437227405312) (hc : units c * 2 ^ 52 = (4503599627370496 + fr y) * 2 ^ kk) :
    D.mul 4368491638549381120 ((kk + 2) * 4503599627370496 + fr y) = some c := by
  have hf := fr_lt y
  refine mul_exact (by omega) (by omega) hc1 ?_
  rw [units_big (n := (kk + 2) * 4503599627370496 + fr y) (by omega), show ((kk + 2) * 4503599627370496 + fr y) % 4503599627370496 = fr y by omega, show ((kk + 2) * 4503599627370496 + fr y) / 4503599627370496 - 1 = kk + 1 by omega]
  apply Nat.eq_of_mul_eq_mul_right (Nat.two_pow_pos 105)
  have e1 := units_m53
  generalize units 4368491638549381120 = u at *
  generalize (2 : Nat) ^ B74 = P at *
  have e2 : u * ((4503599627370496 + fr y) * 2 ^ (kk + 1)) * 2 ^ 105 = (u * 2 ^ 105) * ((4503599627370496 + fr y) * 2 ^ (kk + 1)) := by rw [Nat.mul_right_comm]
  have e3 : units c * P * 2 ^ 105 = (units c * 2 ^ 52) * 2 ^ 53 * P := by
    rw [Nat.mul_right_comm, show (105 : Nat) = 52 + 53 from rfl, Nat.pow_add, ← Nat.mul_assoc (units c)]
  rw [e2, e1, e3, hc, Nat.pow_succ]
  generalize (2 : Nat) ^ kk = Q
  generalize 4503599627370496 + fr y = R
  have : (9007199254740992 : Nat) = 4503599627370496 * 2 := by omega
  rw [show (2 : Nat) ^ 53 = 9007199254740992 from rfl, this]
  simp only [Nat.mul_assoc, Nat.mul_left_comm, Nat.mul_comm]

theorem i64_and2047 (n : Int) : bits .and .i64 n 2047 = n % 2048 := by
  have h2047 : (BitVec.ofInt 64 2047).toNat = 2 ^ 11 - 1 := by decide
  have key : (BitVec.ofInt 64 n &&& BitVec.ofInt 64 2047).toNat = (n % ((2 ^ 64 : Nat) : Int)).toNat % 2 ^ 11 := by
    rw [BitVec.toNat_and, BitVec.toNat_ofInt, h2047, Nat.and_two_pow_sub_one_eq_mod]
  show IntKind.i64.wrap ((BitVec.ofInt 64 n &&& BitVec.ofInt 64 2047).toNat : Nat) = n % 2048
  rw [key, IntKind.wrap_i64]
  omega
theorem and_exp64 {E : Nat} (hE : E < 2048) : bits .and .i64 (E : Int) 2047 = (E : Int) := by
  rw [i64_and2047]; omega

set_option maxRecDepth 100000 in
set_option maxHeartbeats 800000 in
theorem ldexp_in (y kk c : Nat) (k : Int) (h0 : 0 < y) (h : y < 9218868437227405312) (hk : (kk : Int) = (ge y : Int) + k) (hkk : kk ≤ 2097) (hc1 : c < 9218868437227405312)
    (hc : units c * 2 ^ 52 = (4503599627370496 + fr y) * 2 ^ kk) (w : World) :
    Calls Tryz.prog 227 #[.float .f64 y, .int .i64 k] w fun e w' => e = .returned (.float .f64 c) ∧ w = w' := by
  obtain ⟨s1, r1⟩ := @sgn_small y (by omega)
  have cn := isNaN_any y
  rw [fnan_fin (by rw [r1]; exact h)] at cn
  have ci := isInf_any y (by omega)
  rw [r1, show decide (y = 9218868437227405312) = false by simp; omega] at ci
  have hz := zero_false h0 h
  have cm := normalize_any y h0 h
  obtain ⟨m1, m2⟩ := nrm_range h0 h
  have hge := ge_eq h0 h
  have hgy := ge_lt h0 h
  have hA := @andNot_exp (nrm y) (by omega)
  have hf := fr_lt y
  have hfe : nrm y % 4503599627370496 = fr y := rfl
  rw [hfe] at hA
  have hE : ((nrm y : Nat) : Int) / 4503599627370496 = ((nrm y / 4503599627370496 : Nat) : Int) := by omega
  have hE1 : nrm y / 4503599627370496 ≤ 2046 := by omega
  have he1 : -52 ≤ nexp y := by unfold nexp; split <;> omega
  have he2 : nexp y ≤ 0 := by unfold nexp; split <;> omega
  by_cases g : 52 ≤ kk
  · have hz1 := ld_big g hc
    have hop := fun w => run_float_arith (P := Tryz.prog) w .mul 107 .f64 4607182418800017408 c c (mul_one_exact hc1)
    have hO := @or_exp (fr y) (kk - 51) hf (by omega)
    rw [hz1] at hO
    have e : (((kk - 51) * 4503599627370496 : Nat) : Int) = (k + nexp y + (((nrm y / 4503599627370496 : Nat) : Int) - 1023) + 1023) * 4503599627370496 := by omega
    rw [e] at hO
    clear hc s1 r1 hfe hz1 e
    have hx3 : -10000 ≤ k ∧ k ≤ 10000 := by omega
    obtain ⟨hx3, hx4⟩ := hx3
    have hN := @and_exp64 (nrm y / 4503599627370496) (by omega)
    have hx1 : -1022 ≤ k + nexp y + (((nrm y / 4503599627370496 : Nat) : Int) - 1023) := by omega
    have hx2 : k + nexp y + (((nrm y / 4503599627370496 : Nat) : Int) - 1023) ≤ 1023 := by omega
    generalize nrm y / 4503599627370496 = E at *
    generalize nrm y = m at *
    generalize nexp y = q at *
    generalize fr y = f at *
    have Hk := Lib.hid hk
    have Hg := Lib.hid hge
    clear hk hge
    go_enter Tryz.func227, Tryz.ntmps227
    go_wp2_with (first | (go_at_call 98; refine (ci _).mono ?_; rintro e w' ⟨rfl, rfl⟩) | (go_at_call 206; refine (cn _).mono ?_; rintro e w' ⟨rfl, rfl⟩) | (go_at_call 238; refine (cm _).mono ?_; rintro e w' ⟨rfl, rfl⟩))
    go_ret
    exact ⟨rfl, rfl⟩
  · have hz1 := ld_small (by omega) hc1 hc
    have hO := @or_exp (fr y) (kk + 2) hf (by omega)
    have e : (((kk + 2) * 4503599627370496 : Nat) : Int) = (k + nexp y + (((nrm y / 4503599627370496 : Nat) : Int) - 1023) + 53 + 1023) * 4503599627370496 := by omega
    rw [e] at hO
    generalize (kk + 2) * 4503599627370496 + fr y = z at *
    have hop := fun w => run_float_arith (P := Tryz.prog) w .mul 107 .f64 4368491638549381120 z c hz1
    clear hc s1 r1 hfe hz1 e
    have hx3 : -10000 ≤ k ∧ k ≤ 10000 := by omega
    obtain ⟨hx3, hx4⟩ := hx3
    have hN := @and_exp64 (nrm y / 4503599627370496) (by omega)
    have hx1 : k + nexp y + (((nrm y / 4503599627370496 : Nat) : Int) - 1023) < -1022 := by omega
    have hx2 : -1074 ≤ k + nexp y + (((nrm y / 4503599627370496 : Nat) : Int) - 1023) := by omega
    generalize nrm y / 4503599627370496 = E at *
    generalize nrm y = m at *
    generalize nexp y = q at *
    generalize fr y = f at *
    have Hk := Lib.hid hk
    have Hg := Lib.hid hge
    clear hk hge
    go_enter Tryz.func227, Tryz.ntmps227
    go_wp2_with (first | (go_at_call 98; refine (ci _).mono ?_; rintro e w' ⟨rfl, rfl⟩) | (go_at_call 206; refine (cn _).mono ?_; rintro e w' ⟨rfl, rfl⟩) | (go_at_call 238; refine (cm _).mono ?_; rintro e w' ⟨rfl, rfl⟩))
    go_ret
    exact ⟨rfl, rfl⟩

set_option maxRecDepth 100000 in
set_option maxHeartbeats 400000 in
theorem Ldexp_any (y kk c : Nat) (k : Int) (h0 : 0 < y) (h : y < 9218868437227405312) (hk : (kk : Int) = (ge y : Int) + k) (hkk : kk ≤ 2097) (hc1 : c < 9218868437227405312)
    (hc : units c * 2 ^ 52 = (4503599627370496 + fr y) * 2 ^ kk) (w : World) :
    Calls Tryz.prog 209 #[.float .f64 y, .int .i64 k] w fun e w' => e = .returned (.float .f64 c) ∧ w = w' := by
  have cl := ldexp_in y kk c k h0 h hk hkk hc1 hc
  clear hk hc
  go_enter Tryz.func209, Tryz.ntmps209
  go_wp2_with (go_at_call 227; refine (cl _).mono ?_; rintro e w' ⟨rfl, rfl⟩)
  go_ret
  exact ⟨rfl, rfl⟩
end Go.Proofs.YthhbbmebfmfgjaaGreatDoor

/- Mod: the walk; Do, whole. -/
namespace Go.Proofs.YthhbbmebfmfgjaaGreatDoor
open Go.RowKit

/-- what is taken away in a round, as the program makes it -/
def takeW (r y : Nat) : Nat := if 52 ≤ gk r y then (gk r y - 51) * 4503599627370496 + fr y else (D.mul 4368491638549381120 ((gk r y + 2) * 4503599627370496 + fr y)).getD 0
/-- what a round leaves -/
def leftW (r y : Nat) : Nat := (D.sub r (takeW r y)).getD 0

theorem left_spec {r y : Nat} (hy : 0 < y) (h : y ≤ r) (hr : r < 9218868437227405312) :
    ge y ≤ gk r y ∧ gk r y ≤ ge r ∧ takeW r y < 9218868437227405312 ∧ units (takeW r y) * 2 ^ 52 = (4503599627370496 + fr y) * 2 ^ gk r y ∧ D.sub r (takeW r y) = some (leftW r y) ∧ leftW r y < r := by
  obtain ⟨g1, g2, c, d, c1, d1, hc, hd, hlt⟩ := round_spec hy h hr
  have ht : takeW r y = c := by
    unfold takeW
    by_cases g : 52 ≤ gk r y
    · rw [if_pos g, ld_big g hc]
    · rw [if_neg g, ld_small (by omega) c1 hc]; rfl
  have hs := sub_exact hr c1 d1 hd
  have hl : leftW r y = d := by unfold leftW; rw [ht, hs]; rfl
  rw [ht, hl]
  exact ⟨g1, g2, c1, hc, hs, hlt⟩

/-- what is left at last -/
def modRun (y r : Nat) : Nat := if y ≤ r ∧ leftW r y < r then modRun y (leftW r y) else r
termination_by r
decreasing_by rename_i h; exact h.2

theorem modRun_step {y r : Nat} (hy : 0 < y) (h : y ≤ r) (hr : r < 9218868437227405312) : modRun y r = modRun y (leftW r y) := by
  rw [modRun, if_pos ⟨h, (left_spec hy h hr).2.2.2.2.2⟩]
theorem modRun_stop {y r : Nat} (h : ¬ y ≤ r) : modRun y r = r := by
  rw [modRun, if_neg (fun g => h g.1)]

/-- what is left of x by y, both finite, y no nought -/
def modS (x y : Nat) : Nat := if rung x = 0 then x else if sgn x then oppW (modRun (rung y) (rung x)) else modRun (rung y) (rung x)

theorem lt_zero_test {x : Nat} (hx : rung x < 9218868437227405312) : (D.order x 0 == some .lt) = (sgn x && decide (rung x ≠ 0)) := by
  rw [order_key, fnan_fin hx, show fnan 0 = false by simp [fnan, rung], show skey 0 = 0 by simp [skey, sgn, rung]]
  unfold skey
  rw [Bool.eq_iff_iff]
  cases sgn x <;> simp [cmp_lt_iff] <;> omega

theorem xor_opp (n : Nat) (hn : n < 18446744073709551616) : n ^^^ 9223372036854775808 = oppW n := by
  have h1 := u64_xor_nat n 9223372036854775808 hn (by omega)
  have h2 := xor_sign n hn
  rw [show ((9223372036854775808 : Nat) : Int) = 9223372036854775808 from rfl] at h1
  rw [h1] at h2
  unfold oppW
  exact Int.ofNat.inj h2

@[go_sem] theorem unary_neg_float (k : FloatKind) (b : Nat) : Op.unary .neg (.float k b) = pure (.float k (Op.negFloat k b)) := rfl

theorem neg_float (n : Nat) (hn : n < 18446744073709551616) : Op.negFloat .f64 n = oppW n := xor_opp n hn

def floatOf : Value → Nat
  | .float _ n => n
  | _ => 0

set_option maxRecDepth 100000 in
set_option maxHeartbeats 1600000 in
theorem mod_in (x y : Nat) (hx : x < 18446744073709551616) (hy : y < 18446744073709551616) (fx : rung x < 9218868437227405312) (fy : rung y < 9218868437227405312) (y0 : 0 < rung y) (x0 : 0 < rung x) (w : World) :
    Calls Tryz.prog 172 #[.float .f64 x, .float .f64 y] w fun e w' => e = .returned (.float .f64 (modS x y)) ∧ w = w' := by
  have cx := isNaN_any x
  rw [fnan_fin fx] at cx
  have cy := isNaN_any y
  rw [fnan_fin fy] at cy
  have ci := isInf_any x hx
  rw [show decide (rung x = 9218868437227405312) = false by simp; omega] at ci
  have hz : (D.order y 0 == some .eq) = false := by rw [zero_test]; simp; omega
  have hlt := lt_zero_test fx
  rw [show decide (rung x ≠ 0) = true by simp; omega, Bool.and_true] at hlt
  have ca := abs_any y hy
  have cf := Frexp_any (rung y) y0 fy
  have hneg := neg_float x hx
  cases hs : sgn x
  · rw [hs] at hlt
    have hX : x = rung x := by
      have := word_self x hx
      rw [hs] at this
      exact this.symm
    have hR : Hid (modS x y = modRun (rung y) (rung x)) := Lib.hid (by unfold modS; rw [if_neg (by omega), hs]; rfl)
    have HX := Lib.hid hX
    clear hX hs
    generalize modS x y = res at *
    generalize hY : rung y = Y at *
    generalize hXX : rung x = X at *
    clear hY hXX
    go_enter Tryz.func172, Tryz.ntmps172
    go_wp2_with (first | (go_at_call 98; refine (ci _).mono ?_; rintro e w' ⟨rfl, rfl⟩) | (go_at_call 206; (first | (with_reducible refine (cx _).mono ?_) | (with_reducible refine (cy _).mono ?_)); rintro e w' ⟨rfl, rfl⟩) | (go_at_call 97; refine (ca _).mono ?_; rintro e w' ⟨rfl, rfl⟩) | (go_at_call 208; refine (cf _).mono ?_; rintro e w' ⟨rfl, rfl⟩))
    go_loop [7] (fun r => ∃ r' : Nat, r = .float .f64 r' ∧ r' < 9218868437227405312 ∧ modRun Y r' = modRun Y X) (fun r => floatOf r)
    case atStart => exact ⟨x, rfl, by have := HX.out; omega, congrArg (modRun Y) HX.out⟩
    case round =>
      obtain ⟨r, rfl, hr, hrun⟩ := hrel
      have hge := geq_test hr fy
      by_cases hle : Y ≤ r
      · obtain ⟨g1, g2, t1, t2, t3, t4⟩ := left_spec y0 hle hr
        have hstep := modRun_step y0 hle hr
        have HR2 : Hid (modRun Y (leftW r Y) = modRun Y X) := Lib.hid (hstep.symm.trans hrun)
        rw [show decide (Y ≤ r) = true by simpa using hle] at hge
        have cr := Frexp_any r (by omega) hr
        have hfr := fr_order (fr_lt r) (fr_lt Y)
        have hop := fun w => run_float_arith (P := Tryz.prog) w .sub 107 .f64 r (takeW r Y) (leftW r Y) t3
        have b1 := ge_lt (n := r) (by omega) hr
        have b2 := ge_lt y0 fy
        have hgk : Hid (gk r Y = if fr r < fr Y then ge r - 1 else ge r) := Lib.hid rfl
        have hgr : ge Y ≤ ge r := by omega
        have t4' : leftW r Y < 9218868437227405312 := by omega
        clear hstep hrun t3
        by_cases hf : fr r < fr Y
        · rw [show decide (fr r < fr Y) = true by simpa using hf] at hfr
          have hg := hgk.out
          rw [if_pos hf] at hg
          have hpos : 1 ≤ ge r := by
            rcases Nat.lt_or_ge 0 (ge r) with q | q
            · exact q
            · exfalso
              have e0 : ge r = 0 := by omega
              have e1 : ge Y = 0 := by omega
              have := (ge_mono y0 hle).2 (by rw [e0, e1])
              omega
          have cl := Ldexp_any Y (gk r Y) (takeW r Y) ((ge r : Int) - 1073 - 1 - ((ge Y : Int) - 1073)) y0 fy (by omega) (by omega) t1 t2
          clear hg t2 hf hgk
          generalize 4602678819172646912 + fr r = p at *
          generalize 4602678819172646912 + fr Y = q at *
          go_wp2_with (first | (go_at_call 208; refine (cr _).mono ?_; rintro e w' ⟨rfl, rfl⟩) | (go_at_call 209; refine (cl _).mono ?_; rintro e w' ⟨rfl, rfl⟩))
          go_round
          case rel => exact ⟨_, rfl, t4', HR2.out⟩
          case measure => exact t4
        · rw [show decide (fr r < fr Y) = false by simpa using hf] at hfr
          have hg := hgk.out
          rw [if_neg hf] at hg
          have cl := Ldexp_any Y (gk r Y) (takeW r Y) ((ge r : Int) - 1073 - ((ge Y : Int) - 1073)) y0 fy (by omega) (by omega) t1 t2
          clear hg t2 hf hgk
          generalize 4602678819172646912 + fr r = p at *
          generalize 4602678819172646912 + fr Y = q at *
          go_wp2_with (first | (go_at_call 208; refine (cr _).mono ?_; rintro e w' ⟨rfl, rfl⟩) | (go_at_call 209; refine (cl _).mono ?_; rintro e w' ⟨rfl, rfl⟩))
          go_round
          case rel => exact ⟨_, rfl, t4', HR2.out⟩
          case measure => exact t4
      · rw [show decide (Y ≤ r) = false by simpa using hle] at hge
        have hst := modRun_stop hle
        have HE : Hid (r = modRun Y X) := Lib.hid (hst.symm.trans hrun)
        clear hst hrun
        go_wp2_with fail
        go_ret
        refine ⟨?_, rfl⟩
        rw [hR.out, ← HE.out]
        rfl
  · rw [hs] at hlt
    have hX : rung (oppW x) = rung x ∧ oppW x = rung x := by
      unfold oppW
      rw [hs]
      exact ⟨(word_sgn _ _ (rung_lt x)).2, rfl⟩
    rw [hX.2] at hneg
    have hR : Hid (modS x y = oppW (modRun (rung y) (rung x))) := Lib.hid (by unfold modS; rw [if_neg (by omega), hs]; rfl)
    have HX := Lib.hid hX
    clear hX hs
    generalize modS x y = res at *
    generalize hY : rung y = Y at *
    generalize hXX : rung x = X at *
    clear hY hXX
    go_enter Tryz.func172, Tryz.ntmps172
    go_wp2_with (first | (go_at_call 98; refine (ci _).mono ?_; rintro e w' ⟨rfl, rfl⟩) | (go_at_call 206; (first | (with_reducible refine (cx _).mono ?_) | (with_reducible refine (cy _).mono ?_)); rintro e w' ⟨rfl, rfl⟩) | (go_at_call 97; refine (ca _).mono ?_; rintro e w' ⟨rfl, rfl⟩) | (go_at_call 208; refine (cf _).mono ?_; rintro e w' ⟨rfl, rfl⟩))
    go_loop [7] (fun r => ∃ r' : Nat, r = .float .f64 r' ∧ r' < 9218868437227405312 ∧ modRun Y r' = modRun Y X) (fun r => floatOf r)
    case atStart => exact ⟨X, rfl, fx, rfl⟩
    case round =>
      obtain ⟨r, rfl, hr, hrun⟩ := hrel
      have hge := geq_test hr fy
      by_cases hle : Y ≤ r
      · obtain ⟨g1, g2, t1, t2, t3, t4⟩ := left_spec y0 hle hr
        have hstep := modRun_step y0 hle hr
        have HR2 : Hid (modRun Y (leftW r Y) = modRun Y X) := Lib.hid (hstep.symm.trans hrun)
        rw [show decide (Y ≤ r) = true by simpa using hle] at hge
        have cr := Frexp_any r (by omega) hr
        have hfr := fr_order (fr_lt r) (fr_lt Y)
        have hop := fun w => run_float_arith (P := Tryz.prog) w .sub 107 .f64 r (takeW r Y) (leftW r Y) t3
        have b1 := ge_lt (n := r) (by omega) hr
        have b2 := ge_lt y0 fy
        have hgk : Hid (gk r Y = if fr r < fr Y then ge r - 1 else ge r) := Lib.hid rfl
        have hgr : ge Y ≤ ge r := by omega
        have t4' : leftW r Y < 9218868437227405312 := by omega
        clear hstep hrun t3
        by_cases hf : fr r < fr Y
        · rw [show decide (fr r < fr Y) = true by simpa using hf] at hfr
          have hg := hgk.out
          rw [if_pos hf] at hg
          have hpos : 1 ≤ ge r := by
            rcases Nat.lt_or_ge 0 (ge r) with q | q
            · exact q
            · exfalso
              have e0 : ge r = 0 := by omega
              have e1 : ge Y = 0 := by omega
              have := (ge_mono y0 hle).2 (by rw [e0, e1])
              omega
          have cl := Ldexp_any Y (gk r Y) (takeW r Y) ((ge r : Int) - 1073 - 1 - ((ge Y : Int) - 1073)) y0 fy (by omega) (by omega) t1 t2
          clear hg t2 hf hgk
          generalize 4602678819172646912 + fr r = p at *
          generalize 4602678819172646912 + fr Y = q at *
          go_wp2_with (first | (go_at_call 208; refine (cr _).mono ?_; rintro e w' ⟨rfl, rfl⟩) | (go_at_call 209; refine (cl _).mono ?_; rintro e w' ⟨rfl, rfl⟩))
          go_round
          case rel => exact ⟨_, rfl, t4', HR2.out⟩
          case measure => exact t4
        · rw [show decide (fr r < fr Y) = false by simpa using hf] at hfr
          have hg := hgk.out
          rw [if_neg hf] at hg
          have cl := Ldexp_any Y (gk r Y) (takeW r Y) ((ge r : Int) - 1073 - ((ge Y : Int) - 1073)) y0 fy (by omega) (by omega) t1 t2
          clear hg t2 hf hgk
          generalize 4602678819172646912 + fr r = p at *
          generalize 4602678819172646912 + fr Y = q at *
          go_wp2_with (first | (go_at_call 208; refine (cr _).mono ?_; rintro e w' ⟨rfl, rfl⟩) | (go_at_call 209; refine (cl _).mono ?_; rintro e w' ⟨rfl, rfl⟩))
          go_round
          case rel => exact ⟨_, rfl, t4', HR2.out⟩
          case measure => exact t4
      · rw [show decide (Y ≤ r) = false by simpa using hle] at hge
        have hst := modRun_stop hle
        have HE : Hid (r = modRun Y X) := Lib.hid (hst.symm.trans hrun)
        have hnr := neg_float r (by omega)
        clear hst hrun
        go_wp2_with fail
        go_ret
        refine ⟨?_, rfl⟩
        rw [hR.out, ← HE.out]
        rfl
end Go.Proofs.YthhbbmebfmfgjaaGreatDoor

/- Mod at a nought; rest, left; Do: both texts, whole. -/
namespace Go.Proofs.YthhbbmebfmfgjaaGreatDoor
open Go.RowKit

set_option maxRecDepth 100000 in
set_option maxHeartbeats 1600000 in
theorem mod_zero (x y : Nat) (hx : x < 18446744073709551616) (hy : y < 18446744073709551616) (fx : rung x < 9218868437227405312) (fy : rung y < 9218868437227405312) (y0 : 0 < rung y) (x0 : rung x = 0) (w : World) :
    Calls Tryz.prog 172 #[.float .f64 x, .float .f64 y] w fun e w' => e = .returned (.float .f64 (modS x y)) ∧ w = w' := by
  have cx := isNaN_any x
  rw [fnan_fin fx] at cx
  have cy := isNaN_any y
  rw [fnan_fin fy] at cy
  have ci := isInf_any x hx
  rw [show decide (rung x = 9218868437227405312) = false by simp; omega] at ci
  have hz : (D.order y 0 == some .eq) = false := by rw [zero_test]; simp; omega
  have hlt := lt_zero_test fx
  rw [show decide (rung x ≠ 0) = false by simp; omega, Bool.and_false] at hlt
  have ca := abs_any y hy
  have cf := Frexp_any (rung y) y0 fy
  have hR : Hid (modS x y = x) := Lib.hid (by unfold modS; rw [if_pos x0])
  have hge : (D.order x (rung y) == some .gt || D.order x (rung y) == some .eq) = false := by
    rw [order_key, fnan_fin fx, fnan_rung, fnan_fin fy]
    unfold skey
    rw [x0, sgn_rung, rung_rung]
    cases sgn x <;> simp [cmp_lt (show (0 : Int) < (rung y : Int) by omega)]
  generalize modS x y = res at *
  generalize hY : rung y = Y at *
  clear hY x0
  go_enter Tryz.func172, Tryz.ntmps172
  go_wp2_with (first | (go_at_call 98; refine (ci _).mono ?_; rintro e w' ⟨rfl, rfl⟩) | (go_at_call 206; (first | (with_reducible refine (cx _).mono ?_) | (with_reducible refine (cy _).mono ?_)); rintro e w' ⟨rfl, rfl⟩) | (go_at_call 97; refine (ca _).mono ?_; rintro e w' ⟨rfl, rfl⟩) | (go_at_call 208; refine (cf _).mono ?_; rintro e w' ⟨rfl, rfl⟩))
  go_loop [7] (fun r => r = .float .f64 x) (fun _ => 0)
  case atStart => rfl
  case round =>
    obtain rfl := hrel
    go_wp2_with fail
    go_ret
    refine ⟨?_, rfl⟩
    rw [hR.out]
    rfl

set_option maxRecDepth 100000 in
set_option maxHeartbeats 400000 in
theorem Mod_any (x y : Nat) (hx : x < 18446744073709551616) (hy : y < 18446744073709551616) (fx : rung x < 9218868437227405312) (fy : rung y < 9218868437227405312) (y0 : 0 < rung y) (w : World) :
    Calls Tryz.prog 134 #[.float .f64 x, .float .f64 y] w fun e w' => e = .returned (.float .f64 (modS x y)) ∧ w = w' := by
  have c : ∀ w, Calls Tryz.prog 172 #[.float .f64 x, .float .f64 y] w fun e w' => e = .returned (.float .f64 (modS x y)) ∧ w = w' := by
    intro w
    rcases Nat.eq_zero_or_pos (rung x) with h | h
    · exact mod_zero x y hx hy fx fy y0 h w
    · exact mod_in x y hx hy fx fy y0 h w
  generalize modS x y = r at *
  go_enter Tryz.func134, Tryz.ntmps134
  go_wp2_with (go_at_call 172; refine (c _).mono ?_; rintro e w' ⟨rfl, rfl⟩)
  go_ret
  exact ⟨rfl, rfl⟩

def restS (a b : Nat) : Nat :=
  if fnan a then nanC else if fnan b then nanC else if rung a = 9218868437227405312 then nanC else if rung b = 0 then nanC else if rung b = 9218868437227405312 then a else toldS (modS a b)

theorem rung_fin {n : Nat} (h1 : fnan n = false) (h2 : rung n ≠ 9218868437227405312) : rung n < 9218868437227405312 := by
  unfold fnan at h1; simp at h1; omega

set_option maxRecDepth 100000 in
set_option maxHeartbeats 1600000 in
theorem rest_any (a b : Nat) (hA : a < 18446744073709551616) (hB : b < 18446744073709551616) (w : World) :
    Calls Tryz.prog 132 #[.int .u64 a, .int .u64 b] w (Told (restS a b) w) := by
  have o1 := order_self a
  have o2 := order_self b
  have c1 := isInf_any a hA
  have c2 := isInf_any b hB
  have z2 := zero_test b
  have cm : fnan a = false → fnan b = false → rung a ≠ 9218868437227405312 → rung b ≠ 0 → rung b ≠ 9218868437227405312 → ∀ w, Calls Tryz.prog 134 #[.float .f64 a, .float .f64 b] w fun e w' => e = .returned (.float .f64 (modS a b)) ∧ w = w' :=
    fun h1 h2 h3 h4 h5 => Mod_any a b hA hB (rung_fin h1 h3) (rung_fin h2 h5) (by omega)
  unfold restS
  cases h1 : fnan a
  · cases h2 : fnan b
    · rw [h1] at o1
      rw [h2] at o2
      by_cases h3 : rung a = 9218868437227405312
      · rw [show decide (rung a = 9218868437227405312) = true by simpa using h3] at c1
        rw [if_pos h3]
        clear h1 h2 h3 cm
        go_enter Tryz.func132, Tryz.ntmps132
        go_wp2_with (first | (go_at_call 96; refine (num_any _ _).mono ?_; rintro e w' ⟨rfl, rfl⟩) | (go_at_call 98; refine (c1 _).mono ?_; rintro e w' ⟨rfl, rfl⟩))
        go_ret
        exact Told.same rfl
      · rw [show decide (rung a = 9218868437227405312) = false by simpa using h3] at c1
        rw [if_neg h3]
        by_cases h4 : rung b = 0
        · rw [show decide (rung b = 0) = true by simpa using h4] at z2
          rw [if_pos h4]
          clear h1 h2 h3 h4 cm
          go_enter Tryz.func132, Tryz.ntmps132
          go_wp2_with (first | (go_at_call 96; refine (num_any _ _).mono ?_; rintro e w' ⟨rfl, rfl⟩) | (go_at_call 98; refine (c1 _).mono ?_; rintro e w' ⟨rfl, rfl⟩))
          go_ret
          exact Told.same rfl
        · rw [show decide (rung b = 0) = false by simpa using h4] at z2
          rw [if_neg h4]
          by_cases h5 : rung b = 9218868437227405312
          · rw [show decide (rung b = 9218868437227405312) = true by simpa using h5] at c2
            rw [if_pos h5]
            clear h1 h2 h3 h4 h5 cm
            go_enter Tryz.func132, Tryz.ntmps132
            go_wp2_with (first | (go_at_call 96; refine (num_any _ _).mono ?_; rintro e w' ⟨rfl, rfl⟩) | (go_at_call 98; (first | (with_reducible refine (c1 _).mono ?_) | (with_reducible refine (c2 _).mono ?_)); rintro e w' ⟨rfl, rfl⟩))
            go_ret
            exact Told.same rfl
          · rw [show decide (rung b = 9218868437227405312) = false by simpa using h5] at c2
            rw [if_neg h5]
            have cmm := cm h1 h2 h3 h4 h5
            clear h1 h2 h3 h4 h5 cm
            generalize modS a b = m at *
            go_enter Tryz.func132, Tryz.ntmps132
            go_wp2_with (first | (go_at_call 96; refine (num_any _ _).mono ?_; rintro e w' ⟨rfl, rfl⟩) | (go_at_call 98; (first | (with_reducible refine (c1 _).mono ?_) | (with_reducible refine (c2 _).mono ?_)); rintro e w' ⟨rfl, rfl⟩) | (go_at_call 134; refine (cmm _).mono ?_; rintro e w' ⟨rfl, rfl⟩) | (go_at_call 99; refine (told_any _ _).mono ?_; rintro e w' ⟨rfl, rfl⟩))
            go_ret
            exact Told.same rfl
    · rw [h1] at o1
      rw [h2] at o2
      clear h1 h2 cm
      go_enter Tryz.func132, Tryz.ntmps132
      go_wp2_with (first | (go_at_call 96; refine (num_any _ _).mono ?_; rintro e w' ⟨rfl, rfl⟩) | (go_at_call 98; refine (c1 _).mono ?_; rintro e w' ⟨rfl, rfl⟩))
      go_ret
      exact Told.same rfl
  · rw [h1] at o1
    clear h1 cm
    go_enter Tryz.func132, Tryz.ntmps132
    go_wp2_with (first | (go_at_call 96; refine (num_any _ _).mono ?_; rintro e w' ⟨rfl, rfl⟩) | (go_at_call 98; refine (c1 _).mono ?_; rintro e w' ⟨rfl, rfl⟩))
    go_ret
    exact Told.same rfl

/-- what two values come to -/
def doS (op : Int) (a b : Nat) : Nat := doM (restS a b) op a b

theorem do_any (op : Int) (a b : Nat) (hA : a < 18446744073709551616) (hB : b < 18446744073709551616) (w : World) :
    Calls Tryz.prog 100 #[.int .i64 op, .int .u64 a, .int .u64 b] w fun e w' => e = .returned (.int .u64 (doS op a b : Nat)) ∧ ∃ k, w' = w.drewN k :=
  realDo_of (restS a b) op a b w fun _ => rest_any a b hA hB w
end Go.Proofs.YthhbbmebfmfgjaaGreatDoor

/-! What the printed walks of the evaluator use of the floats' contracts: words as whole numbers. -/
namespace Go.Proofs.YthhbbmebfmfgjaaGreatDoor
open Go.RowKit Go.Proofs.YthhbbmebfmfgjaaGreatDoorW.PrintWords

/-- is this a word of 64 bits? -/
def word (a : Int) : Bool := decide (0 ≤ a ∧ a < 18446744073709551616)
theorem word_iff {a : Int} : word a = true ↔ 0 ≤ a ∧ a < 18446744073709551616 := by unfold word; simp
theorem word_lt {a : Int} (h : word a = true) : a.toNat < 18446744073709551616 := by have := word_iff.1 h; omega
theorem word_toNat {a : Int} (h : word a = true) : ((a.toNat : Nat) : Int) = a := by have := word_iff.1 h; omega
end Go.Proofs.YthhbbmebfmfgjaaGreatDoor
