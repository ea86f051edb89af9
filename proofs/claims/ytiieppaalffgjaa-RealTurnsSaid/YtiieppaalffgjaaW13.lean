/- The walks of RealOnes, RealBack. -/
import Derived.Test.YtiieppaalffgjaaW11
namespace Go.Proofs.Ytiieppaalffgjaa
open Go.RowKit

theorem one_calls (op : Int) (v : Nat) (hv : v < 18446744073709551616) (w : World) :
    Calls Try.prog 31 #[.int .i64 op, .int .u64 v] w fun e w' => e = .returned (.int .u64 (oneOpS op v : Nat)) ∧ ∃ k, w' = w.drewN k := realOne_any op v hv w
theorem One_calls (op : Int) (v : Nat) (hv : v < 18446744073709551616) (w : World) :
    Calls Try.prog 32 #[.int .i64 op, .int .u64 v] w fun e w' => e = .returned (.int .u64 (oneOpS op v : Nat)) ∧ ∃ k, w' = w.drewN k := refOne_any op v hv w
theorem whole_calls (v : Nat) (hv : v < 18446744073709551616) (w : World) :
    Calls Try.prog 29 #[.int .u64 v] w fun e w' => e = .returned (.tuple #[.int .i64 (wholeS v), .bool (wholeB v)]) ∧ ∃ k, w' = w.drewN k := realWhole_any v hv w
theorem Whole_calls (v : Nat) (hv : v < 18446744073709551616) (w : World) :
    Calls Try.prog 30 #[.int .u64 v] w fun e w' => e = .returned (.tuple #[.int .i64 (wholeS v), .bool (wholeB v)]) ∧ ∃ k, w' = w.drewN k := refWhole_any v hv w

set_option maxHeartbeats 1600000 in
theorem realOnes_walk (op : Int) (v : Nat) (n : Int) (hv : v < 18446744073709551616) (w : World) :
    Calls Try.prog 10 #[.int .i64 op, .int .u64 v, .int .i64 n] w (Yes w) := by
  go_enter Try.func10, Try.ntmps10
  go_wp2_with (first | (go_at_call 13; refine (live_any _).mono ?_; rintro e w' ⟨rfl, k1, rfl⟩) | (go_at_call 29; refine (whole_calls _ hv _).mono ?_; rintro e w' ⟨rfl, k2, rfl⟩) | (go_at_call 30; refine (Whole_calls _ hv _).mono ?_; rintro e w' ⟨rfl, k3, rfl⟩) | (go_at_call 31; refine (one_calls _ _ hv _).mono ?_; rintro e w' ⟨rfl, k4, rfl⟩) | (go_at_call 32; refine (One_calls _ _ hv _).mono ?_; rintro e w' ⟨rfl, k5, rfl⟩) | (go_at_call 33; refine (of_any _ _).mono ?_; rintro e w' ⟨rfl, rfl⟩) | (go_at_call 34; refine (Of_any _ _).mono ?_; rintro e w' ⟨rfl, rfl⟩))
  go_ret
  exact ⟨rfl, _, rfl⟩

theorem of_word (n : Int) (h1 : -9007199254740992 ≤ n) (h2 : n ≤ 9007199254740992) :
    ∃ r, r < 9218868437227405312 ∧ units r = n.natAbs * 2 ^ B74 ∧ ofS n = D.word (decide (n < 0)) r := by
  obtain ⟨r, g1, g2, g3⟩ := nearest_int (decide (n < 0)) n.natAbs (by omega)
  refine ⟨r, g1, g2, ?_⟩
  have e : floatOfInt .f64 n = D.word (decide (n < 0)) r := g3
  unfold ofS
  rw [e, toldS_of_num (fnan_fin (by rw [(word_sgn _ _ (by omega)).2]; exact g1))]

theorem word_lt64 (s : Bool) (r : Nat) (h : r < 9218868437227405312) : D.word s r < 18446744073709551616 := by
  unfold Ieee.Format.word
  rw [D_sign]
  split <;> omega

/-- WHOLE NUMBERS UP TO 2^53 COME BACK. -/
theorem back (n : Int) (h1 : -9007199254740992 ≤ n) (h2 : n ≤ 9007199254740992) :
    ofS n < 18446744073709551616 ∧ wholeB (ofS n) = true ∧ wholeS (ofS n) = n ∧ oneOpS 2 (ofS n) = ofS n ∧ oneOpS 3 (ofS n) = ofS n ∧ negS (ofS n) = decide (n < 0) := by
  obtain ⟨r, g1, g2, g3⟩ := of_word n h1 h2
  rw [g3]
  obtain ⟨s1, s2⟩ := word_sgn (decide (n < 0)) r (by omega)
  have hlt := word_lt64 (decide (n < 0)) r g1
  generalize D.word (decide (n < 0)) r = v at *
  have hfin : rung v < 9218868437227405312 := by rw [s2]; exact g1
  have hf := fnan_fin hfin
  have hp := Nat.two_pow_pos B74
  have hi : intB (rung v) = true := by unfold intB; rw [s2, g2, Nat.mul_mod_left]; rfl
  have hwp : wholePart (rung v) = n.natAbs := by unfold wholePart; rw [s2, g2, Nat.mul_div_cancel _ hp]
  have hle : r ≤ 4890909195324358655 := by
    have : units r < units 4890909195324358656 := by
      rw [g2, units_edge]
      exact Nat.mul_lt_mul_of_pos_right (by omega) hp
    have := units_lt_iff.1 this
    omega
  have hsk : -4890909195324358656 ≤ skey v ∧ skey v < 4890909195324358656 := by
    unfold skey
    rw [s2]
    cases sgn v <;> simp <;> omega
  have hw : wholeB v = true := by
    unfold wholeB
    rw [hi]
    simp [hfin, hsk.1, hsk.2]
  have hn : wholeN v = n := by
    unfold wholeN
    rw [hwp, s1]
    by_cases e : n < 0 <;> simp [e] <;> omega
  refine ⟨hlt, hw, by unfold wholeS; rw [hw]; exact hn, ?_, ?_, ?_⟩
  · unfold oneOpS
    rw [hf]
    show toldS (intg .down v) = v
    rw [intg_whole .down hlt hfin hi, toldS_of_num hf]
  · unfold oneOpS
    rw [hf]
    show toldS (intg .up v) = v
    rw [intg_whole .up hlt hfin hi, toldS_of_num hf]
  · rw [← sgn_eq v hlt, s1]

set_option maxHeartbeats 1600000 in
theorem realBack_walk (n : Int) (w : World) :
    Calls Try.prog 12 #[.int .i64 n] w (Yes w) := by
  have hm : -9007199254740992 ≤ n.tmod 9007199254740993 ∧ n.tmod 9007199254740993 ≤ 9007199254740992 := by
    have a1 := Int.tmod_lt_of_pos n (show (0 : Int) < 9007199254740993 by omega)
    have a2 := Int.lt_tmod_of_pos n (show (0 : Int) < 9007199254740993 by omega)
    omega
  obtain ⟨b1, b2, b3, b4, b5, b6⟩ := back (n.tmod 9007199254740993) hm.1 hm.2
  have co := of_any (n.tmod 9007199254740993)
  have cw := whole_calls _ b1
  have c2 := one_calls 2 _ b1
  have c3 := one_calls 3 _ b1
  have cn := neg_any (ofS (n.tmod 9007199254740993))
  rw [b2, b3] at cw
  rw [b4] at c2
  rw [b5] at c3
  rw [b6] at cn
  clear b1 b2 b3 b4 b5 b6
  generalize ofS (n.tmod 9007199254740993) = v at *
  go_enter Try.func12, Try.ntmps12
  go_wp2_with (first | (go_at_call 13; refine (live_any _).mono ?_; rintro e w' ⟨rfl, k1, rfl⟩) | (go_at_call 29; refine (cw _).mono ?_; rintro e w' ⟨rfl, k2, rfl⟩) | (go_at_call 31; (first | (with_reducible refine (c2 _).mono ?_) | (with_reducible refine (c3 _).mono ?_)); rintro e w' ⟨rfl, k4, rfl⟩) | (go_at_call 33; refine (co _).mono ?_; rintro e w' ⟨rfl, rfl⟩) | (go_at_call 16; refine (cn _).mono ?_; rintro e w' ⟨rfl, rfl⟩))
  go_ret
  exact ⟨rfl, _, rfl⟩
end Go.Proofs.Ytiieppaalffgjaa
