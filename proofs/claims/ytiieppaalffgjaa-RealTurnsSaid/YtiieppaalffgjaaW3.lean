/- Order, Holds: both texts. -/
import Derived.Test.YtiieppaalffgjaaW1
namespace Go.Proofs.Ytiieppaalffgjaa
open Go.RowKit

theorem cast_beq {a b : Nat} {c : Bool} (h : ((a : Int) == (b : Int)) = c) : (a == b) = c := by
  rw [← h, Bool.eq_iff_iff]; simp only [beq_iff_eq]; omega

set_option maxHeartbeats 400000 in
theorem order_any (a b : Nat) (w : World) :
    Calls Try.prog 18 #[.int .u64 a, .int .u64 b] w fun e w' => e = .returned (.int .i64 (orderS a b)) ∧ w = w' := by
  go_enter Try.func18, Try.ntmps18
  go_wp2_with (go_at_call 16; refine (neg_any _ _).mono ?_; rintro e w' ⟨rfl, rfl⟩)
  all_goals
    go_ret
    refine ⟨int_ret ?_, rfl⟩
    first
      | (have hab := cast_beq (a := a) (b := b) (c := true) (by assumption); simp_all [orderS]; done)
      | (have hab := cast_beq (a := a) (b := b) (c := false) (by assumption); simp_all [orderS]; done)

theorem order_lt {a b : Nat} (ha : a < 18446744073709551616) (hb : b < 18446744073709551616) (h : keyS a < keyS b) : orderS a b = -1 := by
  unfold keyS negS at h
  unfold orderS negS
  simp only [decide_eq_true_eq] at *
  split at h <;> split at h <;> simp_all <;> omega
theorem order_gt {a b : Nat} (ha : a < 18446744073709551616) (hb : b < 18446744073709551616) (h : keyS b < keyS a) : orderS a b = 1 := by
  unfold keyS negS at h
  unfold orderS negS
  simp only [decide_eq_true_eq] at *
  split at h <;> split at h <;> simp_all <;> omega
theorem order_eq {a b : Nat} (ha : a < 18446744073709551616) (hb : b < 18446744073709551616) (h : keyS b ≤ keyS a) (h' : keyS a ≤ keyS b) : orderS a b = 0 := by
  have : a = b := by
    unfold keyS negS at h h'
    simp only [decide_eq_true_eq] at *
    split at h <;> split at h <;> simp_all <;> omega
  unfold orderS; rw [if_pos this]

set_option maxHeartbeats 400000 in
theorem Order_any (a b : Nat) (ha : a < 18446744073709551616) (hb : b < 18446744073709551616) (w : World) :
    Calls Try.prog 19 #[.int .u64 a, .int .u64 b] w fun e w' => e = .returned (.int .i64 (orderS a b)) ∧ w = w' := by
  have hlt := @order_lt a b ha hb
  have hgt := @order_gt a b ha hb
  have heq := @order_eq a b ha hb
  have Hlt := Lib.hid hlt
  have Hgt := Lib.hid hgt
  have Heq := Lib.hid heq
  clear hlt hgt heq
  go_enter Try.func19, Try.ntmps19
  go_wp2_with (go_at_call 39; refine (key_any _ (by assumption) _).mono ?_; rintro e w' ⟨rfl, rfl⟩)
  · go_ret; exact ⟨int_ret (Hlt.out (by assumption)).symm, rfl⟩
  · go_ret; exact ⟨int_ret (Hgt.out (by assumption)).symm, rfl⟩
  · go_ret; exact ⟨int_ret (Heq.out (by assumption) (by assumption)).symm, rfl⟩

set_option maxHeartbeats 400000 in
theorem holds_any (c : Int) (a b : Nat) (w : World) :
    Calls Try.prog 20 #[.int .i64 c, .int .u64 a, .int .u64 b] w fun e w' => e = .returned (.bool (holdsS c a b)) ∧ w = w' := by
  go_enter Try.func20, Try.ntmps20
  go_wp2_with (go_at_call 35; refine (num_any _ _).mono ?_; rintro e w' ⟨rfl, rfl⟩)
  all_goals
    go_ret
    refine ⟨bool_ret ?_, rfl⟩
    simp_all [holdsS]

set_option maxHeartbeats 400000 in
theorem Holds_any (c : Int) (a b : Nat) (w : World) :
    Calls Try.prog 21 #[.int .i64 c, .int .u64 a, .int .u64 b] w fun e w' => e = .returned (.bool (holdsS c a b)) ∧ w = w' := by
  go_enter Try.func21, Try.ntmps21
  go_wp2_with (go_at_call 40; refine (Num_any _ _).mono ?_; rintro e w' ⟨rfl, rfl⟩)
  all_goals
    go_ret
    refine ⟨bool_ret ?_, rfl⟩
    simp_all [holdsS]
  all_goals (unfold bne; cases (FloatKind.f64.format.order a b == some Ordering.eq) <;> rfl)
end Go.Proofs.Ytiieppaalffgjaa
