/- Kind, Order, Holds: both texts. -/
import Derived.Test.YtiieppaalffgjaaW1
namespace Go.Proofs.Ytiieppaalffgjaa
open Go.RowKit

theorem kind_stale (n : Nat) (h : ((n : Int) == 9218868437227405314) = true) : kindS n = 1 := by
  unfold kindS; rw [if_pos]; simp at h; omega
theorem kind_nan (n : Nat) (h : ((n : Int) == 9218868437227405314) = false) (h2 : fnan n = true) : kindS n = 0 := by
  unfold kindS; rw [if_neg, if_pos h2]; intro e; subst e; simp at h
theorem kind_inf (n : Nat) (h : ((n : Int) == 9218868437227405314) = false) (h2 : fnan n = false) (h3 : decide (rung n = 9218868437227405312) = true) : kindS n = 2 := by
  unfold kindS; rw [if_neg, if_neg, if_pos (by simpa using h3)]
  · simp [h2]
  · intro e; subst e; simp at h
theorem kind_zero (n : Nat) (h : ((n : Int) == 9218868437227405314) = false) (h2 : fnan n = false) (h3 : decide (rung n = 9218868437227405312) = false) (h4 : decide (rung n = 0) = true) : kindS n = 3 := by
  unfold kindS; rw [if_neg, if_neg, if_neg (by simpa using h3), if_pos (by simpa using h4)]
  · simp [h2]
  · intro e; subst e; simp at h
theorem kind_tiny (n : Nat) (h : ((n : Int) == 9218868437227405314) = false) (h2 : fnan n = false) (h3 : decide (rung n = 9218868437227405312) = false) (h4 : decide (rung n = 0) = false) (h5 : decide (rung n < 4503599627370496) = true) : kindS n = 4 := by
  unfold kindS; rw [if_neg, if_neg, if_neg (by simpa using h3), if_neg (by simpa using h4), if_pos (by simpa using h5)]
  · simp [h2]
  · intro e; subst e; simp at h
theorem kind_plain (n : Nat) (h : ((n : Int) == 9218868437227405314) = false) (h2 : fnan n = false) (h3 : decide (rung n = 9218868437227405312) = false) (h4 : decide (rung n = 0) = false) (h5 : decide (rung n < 4503599627370496) = false) : kindS n = 5 := by
  unfold kindS; rw [if_neg, if_neg, if_neg (by simpa using h3), if_neg (by simpa using h4), if_neg (by simpa using h5)]
  · simp [h2]
  · intro e; subst e; simp at h

theorem rung_cast_lt (n : Nat) : decide (((rung n : Nat) : Int) < 4503599627370496) = decide (rung n < 4503599627370496) := by
  rw [Bool.eq_iff_iff]; simp only [decide_eq_true_eq]; omega

set_option maxHeartbeats 800000 in
theorem kind_any (n : Nat) (hn : n < 18446744073709551616) (w : World) :
    Calls Try.prog 14 #[.int .u64 n] w fun e w' => e = .returned (.int .i64 (kindS n)) ∧ w = w' := by
  cases h1 : ((n : Int) == 9218868437227405314)
  · cases h2 : fnan n
    · have g2 : (D.order n n != some .eq) = false := by rw [order_self, h2]
      cases h3 : decide (rung n = 9218868437227405312)
      · have c3 := fun (w : World) => h3 ▸ isInf_any n hn w
        cases h4 : decide (rung n = 0)
        · have g4 : (D.order n 0 == some .eq) = false := by rw [zero_test, h4]
          have ha := andNot_sign n hn
          have hr := rung_cast_lt n
          cases h5 : decide (rung n < 4503599627370496)
          · rw [h5] at hr
            rw [kind_plain n h1 h2 h3 h4 h5]
            clear h2 h3 h4 h5
            go_enter Try.func14, Try.ntmps14
            go_wp2_with (first | (go_at_call 35; refine (num_any _ _).mono ?_; rintro e w' ⟨rfl, rfl⟩) | (go_at_call 36; refine (c3 _).mono ?_; rintro e w' ⟨rfl, rfl⟩))
            go_ret
            exact ⟨rfl, rfl⟩
          · rw [h5] at hr
            rw [kind_tiny n h1 h2 h3 h4 h5]
            clear h2 h3 h4 h5
            go_enter Try.func14, Try.ntmps14
            go_wp2_with (first | (go_at_call 35; refine (num_any _ _).mono ?_; rintro e w' ⟨rfl, rfl⟩) | (go_at_call 36; refine (c3 _).mono ?_; rintro e w' ⟨rfl, rfl⟩))
            go_ret
            exact ⟨rfl, rfl⟩
        · have g4 : (D.order n 0 == some .eq) = true := by rw [zero_test, h4]
          rw [kind_zero n h1 h2 h3 h4]
          clear h2 h3 h4
          go_enter Try.func14, Try.ntmps14
          go_wp2_with (first | (go_at_call 35; refine (num_any _ _).mono ?_; rintro e w' ⟨rfl, rfl⟩) | (go_at_call 36; refine (c3 _).mono ?_; rintro e w' ⟨rfl, rfl⟩))
          go_ret
          exact ⟨rfl, rfl⟩
      · have c3 := fun (w : World) => h3 ▸ isInf_any n hn w
        rw [kind_inf n h1 h2 h3]
        clear h2 h3
        go_enter Try.func14, Try.ntmps14
        go_wp2_with (first | (go_at_call 35; refine (num_any _ _).mono ?_; rintro e w' ⟨rfl, rfl⟩) | (go_at_call 36; refine (c3 _).mono ?_; rintro e w' ⟨rfl, rfl⟩))
        go_ret
        exact ⟨rfl, rfl⟩
    · have g2 : (D.order n n != some .eq) = true := by rw [order_self, h2]
      rw [kind_nan n h1 h2]
      clear h2
      go_enter Try.func14, Try.ntmps14
      go_wp2_with (first | (go_at_call 35; refine (num_any _ _).mono ?_; rintro e w' ⟨rfl, rfl⟩))
      go_ret
      exact ⟨rfl, rfl⟩
  · rw [kind_stale n h1]
    go_enter Try.func14, Try.ntmps14
    go_wp2_with (first | (go_at_call 35; refine (num_any _ _).mono ?_; rintro e w' ⟨rfl, rfl⟩))
    go_ret
    exact ⟨rfl, rfl⟩

set_option maxHeartbeats 800000 in
theorem Kind_any (n : Nat) (w : World) :
    Calls Try.prog 15 #[.int .u64 n] w fun e w' => e = .returned (.int .i64 (kindS n)) ∧ w = w' := by
  cases h1 : ((n : Int) == 9218868437227405314)
  · cases h2 : fnan n
    · have c2 := fun (w : World) => h2 ▸ nan_any n w
      cases h3 : decide (rung n = 9218868437227405312)
      · have c3 := fun (w : World) => h3 ▸ inf_any n w
        cases h4 : decide (rung n = 0)
        · have g4 : (IntKind.u64.wrap ((n : Int) * 2) == 0) = false := by rw [shl_zero, h4]
          cases h5 : decide (rung n < 4503599627370496)
          · have g5 : decide (IntKind.u64.wrap ((n : Int) * 2) < 9007199254740992) = false := by rw [shl_tiny, h5]
            rw [kind_plain n h1 h2 h3 h4 h5]
            clear h2 h3 h4 h5
            go_enter Try.func15, Try.ntmps15
            go_wp2_with (first | (go_at_call 37; refine (c2 _).mono ?_; rintro e w' ⟨rfl, rfl⟩) | (go_at_call 38; refine (c3 _).mono ?_; rintro e w' ⟨rfl, rfl⟩))
            go_ret
            exact ⟨rfl, rfl⟩
          · have g5 : decide (IntKind.u64.wrap ((n : Int) * 2) < 9007199254740992) = true := by rw [shl_tiny, h5]
            rw [kind_tiny n h1 h2 h3 h4 h5]
            clear h2 h3 h4 h5
            go_enter Try.func15, Try.ntmps15
            go_wp2_with (first | (go_at_call 37; refine (c2 _).mono ?_; rintro e w' ⟨rfl, rfl⟩) | (go_at_call 38; refine (c3 _).mono ?_; rintro e w' ⟨rfl, rfl⟩))
            go_ret
            exact ⟨rfl, rfl⟩
        · have g4 : (IntKind.u64.wrap ((n : Int) * 2) == 0) = true := by rw [shl_zero, h4]
          rw [kind_zero n h1 h2 h3 h4]
          clear h2 h3 h4
          go_enter Try.func15, Try.ntmps15
          go_wp2_with (first | (go_at_call 37; refine (c2 _).mono ?_; rintro e w' ⟨rfl, rfl⟩) | (go_at_call 38; refine (c3 _).mono ?_; rintro e w' ⟨rfl, rfl⟩))
          go_ret
          exact ⟨rfl, rfl⟩
      · have c3 := fun (w : World) => h3 ▸ inf_any n w
        rw [kind_inf n h1 h2 h3]
        clear h2 h3
        go_enter Try.func15, Try.ntmps15
        go_wp2_with (first | (go_at_call 37; refine (c2 _).mono ?_; rintro e w' ⟨rfl, rfl⟩) | (go_at_call 38; refine (c3 _).mono ?_; rintro e w' ⟨rfl, rfl⟩))
        go_ret
        exact ⟨rfl, rfl⟩
    · have c2 := fun (w : World) => h2 ▸ nan_any n w
      rw [kind_nan n h1 h2]
      clear h2
      go_enter Try.func15, Try.ntmps15
      go_wp2_with (first | (go_at_call 37; refine (c2 _).mono ?_; rintro e w' ⟨rfl, rfl⟩))
      go_ret
      exact ⟨rfl, rfl⟩
  · rw [kind_stale n h1]
    go_enter Try.func15, Try.ntmps15
    go_wp2
    go_ret
    exact ⟨rfl, rfl⟩
end Go.Proofs.Ytiieppaalffgjaa
