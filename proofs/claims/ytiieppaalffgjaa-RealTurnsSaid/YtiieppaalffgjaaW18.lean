/- Frexp, Ldexp, Mod: the walks. -/
import Derived.Test.YtiieppaalffgjaaF5
namespace Go.Proofs.Ytiieppaalffgjaa
open Go.RowKit

theorem pos_order {n M : Nat} (h : n < 9218868437227405312) (hM : M < 9218868437227405312) : D.order n M = some (compare (n : Int) (M : Int)) := by
  obtain ⟨s1, r1⟩ := @sgn_small n (by omega)
  obtain ⟨s2, r2⟩ := @sgn_small M (by omega)
  rw [order_key, fnan_fin (by rw [r1]; exact h), fnan_fin (by rw [r2]; exact hM)]
  unfold skey
  rw [s1, r1, s2, r2]
  rfl
theorem lt_test {n M : Nat} (h : n < 9218868437227405312) (hM : M < 9218868437227405312) : (D.order n M == some .lt) = decide (n < M) := by
  rw [pos_order h hM, Bool.eq_iff_iff]
  simp [cmp_lt_iff]
theorem geq_test {n M : Nat} (h : n < 9218868437227405312) (hM : M < 9218868437227405312) : (D.order n M == some .gt || D.order n M == some .eq) = decide (M ≤ n) := by
  rw [pos_order h hM, Bool.eq_iff_iff]
  simp [cmp_gt_iff]
  omega
theorem small_test {n : Nat} (h : n < 9218868437227405312) : (D.order n 4503599627370496 == some .lt) = decide (n < 4503599627370496) := lt_test h (by omega)

def nexp (n : Nat) : Int := if n < 4503599627370496 then -52 else 0

set_option maxHeartbeats 400000 in
theorem normalize_any (n : Nat) (h0 : 0 < n) (h : n < 9218868437227405312) (w : World) :
    Calls Try.prog 75 #[.float .f64 n] w fun e w' => e = .returned (.tuple #[.float .f64 (nrm n), .int .i64 (nexp n)]) ∧ w = w' := by
  obtain ⟨s1, r1⟩ := @sgn_small n (by omega)
  have ca := abs_any n (by omega)
  rw [r1] at ca
  have ht := small_test h
  by_cases g : n < 4503599627370496
  · obtain ⟨hm, _, _, _⟩ := nrm_spec h0 g
    have hop := fun w => run_float_arith (P := Try.prog) w .mul 42 .f64 n 4841369599423283200 (nrm n) hm
    have he : nexp n = -52 := by unfold nexp; rw [if_pos g]
    rw [he]
    have ht2 : (D.order n 4503599627370496 == some .lt) = true := by rw [ht]; simpa using g
    clear ht s1 r1 g he hm
    go_enter Try.func75, Try.ntmps75
    go_wp2_with (go_at_call 47; refine (ca _).mono ?_; rintro e w' ⟨rfl, rfl⟩)
    go_ret2
    exact ⟨rfl, rfl⟩
  · have hn : nrm n = n := by unfold nrm; rw [if_neg g]
    have he : nexp n = 0 := by unfold nexp; rw [if_neg g]
    rw [hn, he]
    have ht2 : (D.order n 4503599627370496 == some .lt) = false := by rw [ht]; simpa using g
    clear ht s1 r1 g hn he
    go_enter Try.func75, Try.ntmps75
    go_wp2_with (go_at_call 47; refine (ca _).mono ?_; rintro e w' ⟨rfl, rfl⟩)
    go_ret2
    exact ⟨rfl, rfl⟩

theorem nrm_range {n : Nat} (h0 : 0 < n) (h : n < 9218868437227405312) : 4503599627370496 ≤ nrm n ∧ nrm n < 9218868437227405312 := by
  by_cases g : n < 4503599627370496
  · obtain ⟨_, _, h3, h4⟩ := nrm_spec h0 g
    exact ⟨h3, h4⟩
  · have hn : nrm n = n := by unfold nrm; rw [if_neg g]
    rw [hn]; omega

theorem zero_false {n : Nat} (h0 : 0 < n) (h : n < 9218868437227405312) : (D.order n 0 == some .eq) = false := by
  rw [zero_test, (@sgn_small n (by omega)).2]
  simp; omega

theorem ge_eq {n : Nat} (h0 : 0 < n) (h : n < 9218868437227405312) : (ge n : Int) = nexp n + ((nrm n / 4503599627370496 : Nat) : Int) + 51 := by
  obtain ⟨m1, m2⟩ := nrm_range h0 h
  unfold ge nexp
  by_cases g : n < 4503599627370496
  · rw [if_pos g, if_pos g]; omega
  · have hn : nrm n = n := by unfold nrm; rw [if_neg g]
    rw [if_neg g, if_neg g, hn]; omega

theorem andNot_exp {m : Nat} (h : m < 9223372036854775808) : bits .andNot .u64 (m : Int) 9218868437227405312 = ((m % 4503599627370496 : Nat) : Int) := by
  have e := u64_andNot_nat m 9218868437227405312 (by omega) (by omega)
  rw [show ((9218868437227405312 : Nat) : Int) = 9218868437227405312 from rfl] at e
  rw [e]
  congr 1
  apply Nat.eq_of_testBit_eq
  intro i
  rw [Nat.testBit_and, show (18446744073709551615 - 9218868437227405312 : Nat) = 2 ^ 63 * 1 + (2 ^ 52 - 1) from rfl, Nat.two_pow_add_eq_or_of_lt (by decide), Nat.testBit_or, Nat.testBit_two_pow_sub_one,
    show (4503599627370496 : Nat) = 2 ^ 52 from rfl, Nat.testBit_mod_two_pow]
  by_cases hi : i = 63
  · subst hi
    have : m.testBit 63 = false := Nat.testBit_lt_two_pow h
    rw [this]; simp
  · have : (2 ^ 63 * 1).testBit i = false := by rw [Nat.mul_one, Nat.testBit_two_pow]; simp; omega
    rw [this]
    cases m.testBit i <;> simp

theorem or_exp {f E : Nat} (hf : f < 4503599627370496) (hE : E < 2048) : bits .or .u64 (f : Int) ((E * 4503599627370496 : Nat) : Int) = ((E * 4503599627370496 + f : Nat) : Int) := by
  rw [u64_or_nat f (E * 4503599627370496) (by omega) (by omega)]
  congr 1
  rw [Nat.or_comm, show E * 4503599627370496 = 2 ^ 52 * E by rw [Nat.mul_comm], ← Nat.two_pow_add_eq_or_of_lt (by exact hf)]

theorem and_exp {E : Nat} (hE : E < 2048) : bits .and .u64 (E : Int) 2047 = (E : Int) := by
  have e := u64_and_nat E 2047 (by omega) (by omega)
  rw [show ((2047 : Nat) : Int) = 2047 from rfl] at e
  rw [e]
  congr 1
  have := Nat.and_two_pow_sub_one_eq_mod E 11
  rw [show (2 : Nat) ^ 11 - 1 = 2047 from rfl] at this
  rw [this]
  omega

set_option maxHeartbeats 400000 in
theorem frexp_in (n : Nat) (h0 : 0 < n) (h : n < 9218868437227405312) (w : World) :
    Calls Try.prog 72 #[.float .f64 n] w fun e w' => e = .returned (.tuple #[.float .f64 (4602678819172646912 + fr n), .int .i64 ((ge n : Int) - 1073)]) ∧ w = w' := by
  obtain ⟨s1, r1⟩ := @sgn_small n (by omega)
  have cn := isNaN_any n
  rw [fnan_fin (by rw [r1]; exact h)] at cn
  have ci := isInf_any n (by omega)
  rw [r1, show decide (n = 9218868437227405312) = false by simp; omega] at ci
  have hz := zero_false h0 h
  have cm := normalize_any n h0 h
  obtain ⟨m1, m2⟩ := nrm_range h0 h
  have hg := Lib.hid (ge_eq h0 h)
  have hA := @andNot_exp (nrm n) (by omega)
  have hO := @or_exp (nrm n % 4503599627370496) 1022 (by omega) (by omega)
  have hz2 : Hid (1022 * 4503599627370496 + nrm n % 4503599627370496 = 4602678819172646912 + fr n) := Lib.hid rfl
  generalize 1022 * 4503599627370496 + nrm n % 4503599627370496 = z at hO hz2
  rw [show ((1022 * 4503599627370496 : Nat) : Int) = 4602678819172646912 from rfl] at hO
  generalize nrm n % 4503599627370496 = f at hA hO
  have hE : ((nrm n : Nat) : Int) / 4503599627370496 = ((nrm n / 4503599627370496 : Nat) : Int) := by omega
  have hE1 : nrm n / 4503599627370496 ≤ 2046 := by omega
  have hN := @and_exp (nrm n / 4503599627370496) (by omega)
  generalize nrm n / 4503599627370496 = E at hE hE1 hN hg
  have he1 : -52 ≤ nexp n := by unfold nexp; split <;> omega
  have he2 : nexp n ≤ 0 := by unfold nexp; split <;> omega
  generalize nrm n = m at *
  generalize nexp n = q at *
  clear s1 r1
  go_enter Try.func72, Try.ntmps72
  go_wp2_with (first | (go_at_call 36; refine (ci _).mono ?_; rintro e w' ⟨rfl, rfl⟩) | (go_at_call 66; refine (cn _).mono ?_; rintro e w' ⟨rfl, rfl⟩) | (go_at_call 75; refine (cm _).mono ?_; rintro e w' ⟨rfl, rfl⟩))
  go_ret2
  refine ⟨?_, rfl⟩
  have e1 := hz2.out
  have e2 := hg.out
  have e3 : q + ((E : Int) - 1023 + 1) = (ge n : Int) - 1073 := by omega
  rw [← e3, ← e1]
  rfl

set_option maxHeartbeats 400000 in
theorem Frexp_any (n : Nat) (h0 : 0 < n) (h : n < 9218868437227405312) (w : World) :
    Calls Try.prog 69 #[.float .f64 n] w fun e w' => e = .returned (.tuple #[.float .f64 (4602678819172646912 + fr n), .int .i64 ((ge n : Int) - 1073)]) ∧ w = w' := by
  have c := frexp_in n h0 h
  generalize 4602678819172646912 + fr n = z at *
  generalize (ge n : Int) - 1073 = q at *
  go_enter Try.func69, Try.ntmps69
  go_wp2_with (go_at_call 72; refine (c _).mono ?_; rintro e w' ⟨rfl, rfl⟩)
  go_ret2
  exact ⟨rfl, rfl⟩
end Go.Proofs.Ytiieppaalffgjaa
