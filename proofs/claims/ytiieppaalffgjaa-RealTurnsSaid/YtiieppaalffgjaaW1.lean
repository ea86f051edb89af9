/- Walks of layer real's small functions (and the reference's). -/
import Derived.Test.YtiieppaalffgjaaB
namespace Go.Proofs.Ytiieppaalffgjaa
open Go.RowKit

theorem int_ret {k : IntKind} {a b : Int} (h : a = b) : Ending.returned (.int k a) = .returned (.int k b) := by rw [h]
theorem bool_ret {a b : Bool} (h : a = b) : Ending.returned (.bool a) = .returned (.bool b) := by rw [h]
theorem float_ret {k : FloatKind} {a b : Nat} (h : a = b) : Ending.returned (.float k a) = .returned (.float k b) := by rw [h]

set_option maxHeartbeats 400000 in
theorem num_any (n : Nat) (w : World) :
    Calls Try.prog 35 #[.int .u64 n] w fun e w' => e = .returned (.float .f64 n) ∧ w = w' := by
  go_enter Try.func35, Try.ntmps35
  go_wp2
  go_ret
  exact ⟨rfl, rfl⟩

set_option maxHeartbeats 400000 in
theorem Num_any (n : Nat) (w : World) :
    Calls Try.prog 40 #[.int .u64 n] w fun e w' => e = .returned (.float .f64 n) ∧ w = w' := by
  go_enter Try.func40, Try.ntmps40
  go_wp2
  go_ret
  exact ⟨rfl, rfl⟩

set_option maxHeartbeats 400000 in
theorem told_any (b : Nat) (w : World) :
    Calls Try.prog 41 #[.float .f64 b] w fun e w' => e = .returned (.int .u64 (toldS b : Nat)) ∧ w = w' := by
  cases hf : fnan b
  · have h1 : toldS b = b := by unfold toldS; rw [hf]; rfl
    have h2 : (D.order b b != some .eq) = false := by rw [order_self, hf]
    rw [h1]
    clear h1 hf
    go_enter Try.func41, Try.ntmps41
    go_wp2
    go_ret
    exact ⟨rfl, rfl⟩
  · have h1 : toldS b = 9221120237041090561 := by unfold toldS nanC; rw [hf]; rfl
    have h2 : (D.order b b != some .eq) = true := by rw [order_self, hf]
    rw [h1]
    clear h1 hf
    go_enter Try.func41, Try.ntmps41
    go_wp2
    go_ret
    exact ⟨rfl, rfl⟩

set_option maxHeartbeats 400000 in
theorem nan_any (n : Nat) (w : World) :
    Calls Try.prog 37 #[.int .u64 n] w fun e w' => e = .returned (.bool (fnan n)) ∧ w = w' := by
  rw [← shl_nan]
  go_enter Try.func37, Try.ntmps37
  go_wp2
  go_ret
  exact ⟨rfl, rfl⟩

set_option maxHeartbeats 400000 in
theorem inf_any (n : Nat) (w : World) :
    Calls Try.prog 38 #[.int .u64 n] w fun e w' => e = .returned (.bool (decide (rung n = 9218868437227405312))) ∧ w = w' := by
  rw [← shl_inf]
  go_enter Try.func38, Try.ntmps38
  go_wp2
  go_ret
  exact ⟨rfl, rfl⟩

set_option maxHeartbeats 400000 in
theorem Bits_any (b : Nat) (w : World) :
    Calls Try.prog 44 #[.float .f64 b] w fun e w' => e = .returned (.int .u64 (toldS b : Nat)) ∧ w = w' := by
  cases hf : fnan b
  · have h1 : toldS b = b := by unfold toldS; rw [hf]; rfl
    rw [h1]
    have c := fun (w : World) => hf ▸ nan_any b w
    clear h1 hf
    go_enter Try.func44, Try.ntmps44
    go_wp2_with (go_at_call 37; refine (c _).mono ?_; rintro e w' ⟨rfl, rfl⟩)
    go_ret
    exact ⟨rfl, rfl⟩
  · have h1 : toldS b = 9221120237041090561 := by unfold toldS nanC; rw [hf]; rfl
    rw [h1]
    have c := fun (w : World) => hf ▸ nan_any b w
    clear h1 hf
    go_enter Try.func44, Try.ntmps44
    go_wp2_with (go_at_call 37; refine (c _).mono ?_; rintro e w' ⟨rfl, rfl⟩)
    go_ret
    exact ⟨rfl, rfl⟩

set_option maxHeartbeats 400000 in
theorem abs_any (n : Nat) (hn : n < 18446744073709551616) (w : World) :
    Calls Try.prog 47 #[.float .f64 n] w fun e w' => e = .returned (.float .f64 (rung n)) ∧ w = w' := by
  have h := andNot_sign n hn
  go_enter Try.func47, Try.ntmps47
  go_wp2
  go_ret
  exact ⟨rfl, rfl⟩

set_option maxHeartbeats 400000 in
theorem isInf_any (n : Nat) (hn : n < 18446744073709551616) (w : World) :
    Calls Try.prog 36 #[.float .f64 n, .int .i64 0] w fun e w' => e = .returned (.bool (decide (rung n = 9218868437227405312))) ∧ w = w' := by
  rw [← inf_test]
  go_enter Try.func36, Try.ntmps36
  go_wp2_with (go_at_call 47; refine (abs_any _ hn _).mono ?_; rintro e w' ⟨rfl, rfl⟩)
  go_ret
  exact ⟨rfl, rfl⟩

set_option maxHeartbeats 400000 in
theorem isNaN_any (n : Nat) (w : World) :
    Calls Try.prog 66 #[.float .f64 n] w fun e w' => e = .returned (.bool (fnan n)) ∧ w = w' := by
  rw [← order_self]
  go_enter Try.func66, Try.ntmps66
  go_wp2
  go_ret
  exact ⟨rfl, rfl⟩

set_option maxHeartbeats 400000 in
theorem neg_any (n : Nat) (w : World) :
    Calls Try.prog 16 #[.int .u64 n] w fun e w' => e = .returned (.bool (negS n)) ∧ w = w' := by
  unfold negS
  go_enter Try.func16, Try.ntmps16
  go_wp2
  go_ret
  exact ⟨rfl, rfl⟩

theorem neg_div (n : Nat) (hn : n < 18446744073709551616) : ((n : Int) / 9223372036854775808 == 1) = negS n := by
  unfold negS
  rw [Bool.eq_iff_iff]
  simp only [beq_iff_eq, decide_eq_true_eq]
  omega

set_option maxHeartbeats 400000 in
theorem Neg_any (n : Nat) (hn : n < 18446744073709551616) (w : World) :
    Calls Try.prog 17 #[.int .u64 n] w fun e w' => e = .returned (.bool (negS n)) ∧ w = w' := by
  rw [← neg_div n hn]
  go_enter Try.func17, Try.ntmps17
  go_wp2
  go_ret
  exact ⟨rfl, rfl⟩

def keyS (n : Nat) : Int := if negS n then 9223372036854775807 - (n : Int) % 9223372036854775808 else 9223372036854775808 + n
set_option maxHeartbeats 400000 in
theorem key_any (n : Nat) (hn : n < 18446744073709551616) (w : World) :
    Calls Try.prog 39 #[.int .u64 n] w fun e w' => e = .returned (.int .u64 (keyS n)) ∧ w = w' := by
  cases h : negS n
  · have hk : keyS n = 9223372036854775808 + n := by unfold keyS; rw [h]; rfl
    have c := fun (w : World) => h ▸ Neg_any n hn w
    have hlt : n < 9223372036854775808 := by unfold negS at h; simp at h; omega
    rw [hk]
    clear h hk
    go_enter Try.func39, Try.ntmps39
    go_wp2_with (go_at_call 17; refine (c _).mono ?_; rintro e w' ⟨rfl, rfl⟩)
    go_ret
    exact ⟨rfl, rfl⟩
  · have hk : keyS n = 9223372036854775807 - (n : Int) % 9223372036854775808 := by unfold keyS; rw [h]; rfl
    have c := fun (w : World) => h ▸ Neg_any n hn w
    rw [hk]
    clear h hk
    go_enter Try.func39, Try.ntmps39
    go_wp2_with (go_at_call 17; refine (c _).mono ?_; rintro e w' ⟨rfl, rfl⟩)
    go_ret
    exact ⟨rfl, rfl⟩
end Go.Proofs.Ytiieppaalffgjaa
