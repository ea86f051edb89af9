/- Ldexp, Mod: the walks. -/
import Derived.Test.YtiieppaalffgjaaW18
namespace Go.Proofs.Ytiieppaalffgjaa
open Go.RowKit

theorem ld_big {y kk c : Nat} (hk : 52 ≤ kk) (hc : units c * 2 ^ 52 = (4503599627370496 + fr y) * 2 ^ kk) : (kk - 51) * 4503599627370496 + fr y = c := by
  have hf := fr_lt y
  apply units_inj
  rw [units_big (by omega), show ((kk - 51) * 4503599627370496 + fr y) % 4503599627370496 = fr y by omega, show ((kk - 51) * 4503599627370496 + fr y) / 4503599627370496 - 1 = kk - 52 by omega]
  apply Nat.eq_of_mul_eq_mul_right (Nat.two_pow_pos 52)
  rw [hc, Nat.mul_assoc, ← Nat.pow_add, Nat.sub_add_cancel hk]

theorem mul_one_exact {c : Nat} (hc : c < 9218868437227405312) : D.mul 4607182418800017408 c = some c :=
  mul_exact (by omega) hc hc (by rw [units_one, Nat.mul_comm])

theorem ld_small {y kk c : Nat} (hk : kk < 52) (hc1 : c < 9218868437227405312) (hc : units c * 2 ^ 52 = (4503599627370496 + fr y) * 2 ^ kk) :
    D.mul 4368491638549381120 ((kk + 2) * 4503599627370496 + fr y) = some c := by
  have hf := fr_lt y
  refine mul_exact (by omega) (by omega) hc1 ?_
  rw [units_big (n := (kk + 2) * 4503599627370496 + fr y) (by omega), show ((kk + 2) * 4503599627370496 + fr y) % 4503599627370496 = fr y by omega, show ((kk + 2) * 4503599627370496 + fr y) / 4503599627370496 - 1 = kk + 1 by omega]
  apply Nat.eq_of_mul_eq_mul_right (Nat.two_pow_pos 105)
  have e1 := units_m53
  generalize units 4368491638549381120 = u at *
  generalize (2 : Nat) ^ B74 = P at *
  have e2 : u * ((4503599627370496 + fr y) * 2 ^ (kk + 1)) * 2 ^ 105 = (u * 2 ^ 105) * ((4503599627370496 + fr y) * 2 ^ (kk + 1)) := by rw [Nat.mul_right_comm]
  have e3 : units c * P * 2 ^ 105 = (units c * 2 ^ 52) * 2 ^ 53 * P := by
    rw [Nat.mul_right_comm, show (105 : Nat) = 52 + 53 from rfl, Nat.pow_add, ← Nat.mul_assoc (units c)]
  rw [e2, e1, e3, hc, Nat.pow_succ]
  generalize (2 : Nat) ^ kk = Q
  generalize 4503599627370496 + fr y = R
  have : (9007199254740992 : Nat) = 4503599627370496 * 2 := by omega
  rw [show (2 : Nat) ^ 53 = 9007199254740992 from rfl, this]
  simp only [Nat.mul_assoc, Nat.mul_left_comm, Nat.mul_comm]

theorem i64_and2047 (n : Int) : bits .and .i64 n 2047 = n % 2048 := by
  have h2047 : (BitVec.ofInt 64 2047).toNat = 2 ^ 11 - 1 := by decide
  have key : (BitVec.ofInt 64 n &&& BitVec.ofInt 64 2047).toNat = (n % ((2 ^ 64 : Nat) : Int)).toNat % 2 ^ 11 := by
    rw [BitVec.toNat_and, BitVec.toNat_ofInt, h2047, Nat.and_two_pow_sub_one_eq_mod]
  show IntKind.i64.wrap ((BitVec.ofInt 64 n &&& BitVec.ofInt 64 2047).toNat : Nat) = n % 2048
  rw [key, IntKind.wrap_i64]
  omega
theorem and_exp64 {E : Nat} (hE : E < 2048) : bits .and .i64 (E : Int) 2047 = (E : Int) := by
  rw [i64_and2047]; omega

set_option maxHeartbeats 800000 in
theorem ldexp_in (y kk c : Nat) (k : Int) (h0 : 0 < y) (h : y < 9218868437227405312) (hk : (kk : Int) = (ge y : Int) + k) (hkk : kk ≤ 2097) (hc1 : c < 9218868437227405312)
    (hc : units c * 2 ^ 52 = (4503599627370496 + fr y) * 2 ^ kk) (w : World) :
    Calls Try.prog 74 #[.float .f64 y, .int .i64 k] w fun e w' => e = .returned (.float .f64 c) ∧ w = w' := by
  obtain ⟨s1, r1⟩ := @sgn_small y (by omega)
  have cn := isNaN_any y
  rw [fnan_fin (by rw [r1]; exact h)] at cn
  have ci := isInf_any y (by omega)
  rw [r1, show decide (y = 9218868437227405312) = false by simp; omega] at ci
  have hz := zero_false h0 h
  have cm := normalize_any y h0 h
  obtain ⟨m1, m2⟩ := nrm_range h0 h
  have hge := ge_eq h0 h
  have hgy := ge_lt h0 h
  have hA := @andNot_exp (nrm y) (by omega)
  have hf := fr_lt y
  have hfe : nrm y % 4503599627370496 = fr y := rfl
  rw [hfe] at hA
  have hE : ((nrm y : Nat) : Int) / 4503599627370496 = ((nrm y / 4503599627370496 : Nat) : Int) := by omega
  have hE1 : nrm y / 4503599627370496 ≤ 2046 := by omega
  have he1 : -52 ≤ nexp y := by unfold nexp; split <;> omega
  have he2 : nexp y ≤ 0 := by unfold nexp; split <;> omega
  by_cases g : 52 ≤ kk
  · have hz1 := ld_big g hc
    have hop := fun w => run_float_arith (P := Try.prog) w .mul 42 .f64 4607182418800017408 c c (mul_one_exact hc1)
    have hO := @or_exp (fr y) (kk - 51) hf (by omega)
    rw [hz1] at hO
    have e : (((kk - 51) * 4503599627370496 : Nat) : Int) = (k + nexp y + (((nrm y / 4503599627370496 : Nat) : Int) - 1023) + 1023) * 4503599627370496 := by omega
    rw [e] at hO
    clear hc s1 r1 hfe hz1 e
    have hx3 : -10000 ≤ k ∧ k ≤ 10000 := by omega
    obtain ⟨hx3, hx4⟩ := hx3
    have hN := @and_exp64 (nrm y / 4503599627370496) (by omega)
    have hx1 : -1022 ≤ k + nexp y + (((nrm y / 4503599627370496 : Nat) : Int) - 1023) := by omega
    have hx2 : k + nexp y + (((nrm y / 4503599627370496 : Nat) : Int) - 1023) ≤ 1023 := by omega
    generalize nrm y / 4503599627370496 = E at *
    generalize nrm y = m at *
    generalize nexp y = q at *
    generalize fr y = f at *
    have Hk := Lib.hid hk
    have Hg := Lib.hid hge
    clear hk hge
    go_enter Try.func74, Try.ntmps74
    go_wp2_with (first | (go_at_call 36; refine (ci _).mono ?_; rintro e w' ⟨rfl, rfl⟩) | (go_at_call 66; refine (cn _).mono ?_; rintro e w' ⟨rfl, rfl⟩) | (go_at_call 75; refine (cm _).mono ?_; rintro e w' ⟨rfl, rfl⟩))
    go_ret
    exact ⟨rfl, rfl⟩
  · have hz1 := ld_small (by omega) hc1 hc
    have hO := @or_exp (fr y) (kk + 2) hf (by omega)
    have e : (((kk + 2) * 4503599627370496 : Nat) : Int) = (k + nexp y + (((nrm y / 4503599627370496 : Nat) : Int) - 1023) + 53 + 1023) * 4503599627370496 := by omega
    rw [e] at hO
    generalize (kk + 2) * 4503599627370496 + fr y = z at *
    have hop := fun w => run_float_arith (P := Try.prog) w .mul 42 .f64 4368491638549381120 z c hz1
    clear hc s1 r1 hfe hz1 e
    have hx3 : -10000 ≤ k ∧ k ≤ 10000 := by omega
    obtain ⟨hx3, hx4⟩ := hx3
    have hN := @and_exp64 (nrm y / 4503599627370496) (by omega)
    have hx1 : k + nexp y + (((nrm y / 4503599627370496 : Nat) : Int) - 1023) < -1022 := by omega
    have hx2 : -1074 ≤ k + nexp y + (((nrm y / 4503599627370496 : Nat) : Int) - 1023) := by omega
    generalize nrm y / 4503599627370496 = E at *
    generalize nrm y = m at *
    generalize nexp y = q at *
    generalize fr y = f at *
    have Hk := Lib.hid hk
    have Hg := Lib.hid hge
    clear hk hge
    go_enter Try.func74, Try.ntmps74
    go_wp2_with (first | (go_at_call 36; refine (ci _).mono ?_; rintro e w' ⟨rfl, rfl⟩) | (go_at_call 66; refine (cn _).mono ?_; rintro e w' ⟨rfl, rfl⟩) | (go_at_call 75; refine (cm _).mono ?_; rintro e w' ⟨rfl, rfl⟩))
    go_ret
    exact ⟨rfl, rfl⟩

set_option maxHeartbeats 400000 in
theorem Ldexp_any (y kk c : Nat) (k : Int) (h0 : 0 < y) (h : y < 9218868437227405312) (hk : (kk : Int) = (ge y : Int) + k) (hkk : kk ≤ 2097) (hc1 : c < 9218868437227405312)
    (hc : units c * 2 ^ 52 = (4503599627370496 + fr y) * 2 ^ kk) (w : World) :
    Calls Try.prog 70 #[.float .f64 y, .int .i64 k] w fun e w' => e = .returned (.float .f64 c) ∧ w = w' := by
  have cl := ldexp_in y kk c k h0 h hk hkk hc1 hc
  clear hk hc
  go_enter Try.func70, Try.ntmps70
  go_wp2_with (go_at_call 74; refine (cl _).mono ?_; rintro e w' ⟨rfl, rfl⟩)
  go_ret
  exact ⟨rfl, rfl⟩
end Go.Proofs.Ytiieppaalffgjaa
