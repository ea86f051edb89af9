/- better, One, Of: both texts. -/
import Derived.Test.YtiieppaalffgjaaW4
namespace Go.Proofs.Ytiieppaalffgjaa
open Go.RowKit

theorem order_lt_zero (a b : Nat) : decide (orderS a b < 0) = (orderS a b == -1) := by
  unfold orderS
  split
  · rfl
  · split
    · split
      · split <;> rfl
      · rfl
    · split
      · rfl
      · split <;> rfl

def betterS (a b : Nat) (want : Int) : Nat := if fnan a then toldS b else if fnan b then a else if orderS a b = want then a else b

set_option maxHeartbeats 400000 in
theorem better_any (a b : Nat) (want : Int) (w : World) :
    Calls Try.prog 43 #[.int .u64 a, .int .u64 b, .int .i64 want] w fun e w' => e = .returned (.int .u64 (betterS a b want : Nat)) ∧ w = w' := by
  cases ha : fnan a
  · have h2 : (D.order a a != some .eq) = false := by rw [order_self, ha]
    cases hb : fnan b
    · have h3 : (D.order b b != some .eq) = false := by rw [order_self, hb]
      cases hw : orderS a b == want
      · have e : betterS a b want = b := by unfold betterS; rw [ha, hb]; simp at hw; simp [hw]
        rw [e]
        clear ha hb e
        go_enter Try.func43, Try.ntmps43
        go_wp2_with (first | (go_at_call 35; refine (num_any _ _).mono ?_; rintro e w' ⟨rfl, rfl⟩) | (go_at_call 18; refine (order_any _ _ _).mono ?_; rintro e w' ⟨rfl, rfl⟩))
        go_ret
        exact ⟨rfl, rfl⟩
      · have e : betterS a b want = a := by unfold betterS; rw [ha, hb]; simp at hw; simp [hw]
        rw [e]
        clear ha hb e
        go_enter Try.func43, Try.ntmps43
        go_wp2_with (first | (go_at_call 35; refine (num_any _ _).mono ?_; rintro e w' ⟨rfl, rfl⟩) | (go_at_call 18; refine (order_any _ _ _).mono ?_; rintro e w' ⟨rfl, rfl⟩))
        go_ret
        exact ⟨rfl, rfl⟩
    · have h3 : (D.order b b != some .eq) = true := by rw [order_self, hb]
      have e : betterS a b want = a := by unfold betterS; rw [ha, hb]; simp
      rw [e]
      clear ha hb e
      go_enter Try.func43, Try.ntmps43
      go_wp2_with (first | (go_at_call 35; refine (num_any _ _).mono ?_; rintro e w' ⟨rfl, rfl⟩))
      go_ret
      exact ⟨rfl, rfl⟩
  · have h2 : (D.order a a != some .eq) = true := by rw [order_self, ha]
    have e : betterS a b want = toldS b := by unfold betterS; rw [ha]; simp
    rw [e]
    clear ha e
    go_enter Try.func43, Try.ntmps43
    go_wp2_with (first | (go_at_call 35; refine (num_any _ _).mono ?_; rintro e w' ⟨rfl, rfl⟩) | (go_at_call 41; refine (told_any _ _).mono ?_; rintro e w' ⟨rfl, rfl⟩))
    go_ret
    exact ⟨rfl, rfl⟩

theorem order_three (a b : Nat) : orderS a b = -1 ∨ orderS a b = 0 ∨ orderS a b = 1 := by
  unfold orderS
  split
  · simp
  · split
    · split
      · split <;> simp
      · simp
    · split
      · simp
      · split <;> simp

theorem order_zero {a b : Nat} (h : orderS a b = 0) : a = b := by
  unfold orderS at h
  split at h
  · assumption
  · split at h
    · split at h
      · split at h <;> simp at h
      · simp at h
    · split at h
      · simp at h
      · split at h <;> simp at h

/-- 'one' of the reference, ahead or not -/
def oneS (a b : Nat) (ahead : Bool) : Nat := betterS a b (if ahead then -1 else 1)

theorem one_pick (a b : Nat) (ahead : Bool) (ha : fnan a = false) (hb : fnan b = false) (h : (decide (orderS a b < 0) == ahead) = true) : oneS a b ahead = a := by
  unfold oneS betterS
  rw [ha, hb]
  rw [order_lt_zero] at h
  rcases order_three a b with e | e | e <;> cases ahead <;> simp_all
  exact (order_zero e).symm
theorem one_leave (a b : Nat) (ahead : Bool) (ha : fnan a = false) (hb : fnan b = false) (h : (decide (orderS a b < 0) == ahead) = false) : oneS a b ahead = b := by
  unfold oneS betterS
  rw [ha, hb]
  rw [order_lt_zero] at h
  rcases order_three a b with e | e | e <;> cases ahead <;> simp_all

set_option maxHeartbeats 400000 in
theorem one_any (a b : Nat) (hA : a < 18446744073709551616) (hB : b < 18446744073709551616) (ahead : Bool) (w : World) :
    Calls Try.prog 46 #[.int .u64 a, .int .u64 b, .bool ahead] w fun e w' => e = .returned (.int .u64 (oneS a b ahead : Nat)) ∧ w = w' := by
  have ca := nan_any a
  have cb := nan_any b
  have co := Order_any a b hA hB
  cases ha : fnan a
  · rw [ha] at ca
    cases hb : fnan b
    · rw [hb] at cb
      cases hw : (decide (orderS a b < 0) == ahead)
      · rw [one_leave a b ahead ha hb hw]
        clear ha hb hA hB
        go_enter Try.func46, Try.ntmps46
        go_wp2_with (first | (go_at_call 37; (first | (with_reducible refine (ca _).mono ?_) | (with_reducible refine (cb _).mono ?_)); rintro e w' ⟨rfl, rfl⟩) | (go_at_call 19; refine (co _).mono ?_; rintro e w' ⟨rfl, rfl⟩))
        go_ret
        exact ⟨rfl, rfl⟩
      · rw [one_pick a b ahead ha hb hw]
        clear ha hb hA hB
        go_enter Try.func46, Try.ntmps46
        go_wp2_with (first | (go_at_call 37; (first | (with_reducible refine (ca _).mono ?_) | (with_reducible refine (cb _).mono ?_)); rintro e w' ⟨rfl, rfl⟩) | (go_at_call 19; refine (co _).mono ?_; rintro e w' ⟨rfl, rfl⟩))
        go_ret
        exact ⟨rfl, rfl⟩
    · rw [hb] at cb
      have e : oneS a b ahead = a := by unfold oneS betterS; rw [ha, hb]; simp
      rw [e]
      clear ha hb hA hB e
      go_enter Try.func46, Try.ntmps46
      go_wp2_with (first | (go_at_call 37; (first | (with_reducible refine (ca _).mono ?_) | (with_reducible refine (cb _).mono ?_)); rintro e w' ⟨rfl, rfl⟩))
      go_ret
      exact ⟨rfl, rfl⟩
  · rw [ha] at ca
    have e : oneS a b ahead = toldS b := by unfold oneS betterS; rw [ha]; simp
    rw [e]
    clear ha hA hB e
    go_enter Try.func46, Try.ntmps46
    go_wp2_with (first | (go_at_call 37; refine (ca _).mono ?_; rintro e w' ⟨rfl, rfl⟩) | (go_at_call 40; refine (Num_any _ _).mono ?_; rintro e w' ⟨rfl, rfl⟩) | (go_at_call 44; refine (Bits_any _ _).mono ?_; rintro e w' ⟨rfl, rfl⟩))
    go_ret
    exact ⟨rfl, rfl⟩

def ofS (n : Int) : Nat := toldS (floatOfInt .f64 n)
set_option maxHeartbeats 400000 in
theorem of_any (n : Int) (w : World) :
    Calls Try.prog 33 #[.int .i64 n] w fun e w' => e = .returned (.int .u64 (ofS n : Nat)) ∧ w = w' := by
  go_enter Try.func33, Try.ntmps33
  go_wp2_with (first | (go_at_call 41; refine (told_any _ _).mono ?_; rintro e w' ⟨rfl, rfl⟩))
  go_ret
  exact ⟨rfl, rfl⟩
set_option maxHeartbeats 400000 in
theorem Of_any (n : Int) (w : World) :
    Calls Try.prog 34 #[.int .i64 n] w fun e w' => e = .returned (.int .u64 (ofS n : Nat)) ∧ w = w' := by
  go_enter Try.func34, Try.ntmps34
  go_wp2_with (first | (go_at_call 44; refine (Bits_any _ _).mono ?_; rintro e w' ⟨rfl, rfl⟩))
  go_ret
  exact ⟨rfl, rfl⟩
end Go.Proofs.Ytiieppaalffgjaa
