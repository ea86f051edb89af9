/- live: the chapter's examples. -/
import Derived.Test.YtiieppaalffgjaaW8
namespace Go.Proofs.Ytiieppaalffgjaa
open Go.RowKit

theorem of_minus5 : ofS (-5) = 13840687554816376832 := by decide +kernel
theorem whole_minus5 : wholeB 13840687554816376832 = true ∧ wholeN 13840687554816376832 = -5 := by decide +kernel
theorem div_one_none : doM 0 3 4607182418800017408 0 = 9218868437227405312 := by decide +kernel
theorem min_stale_one : doM 0 5 9218868437227405314 4607182418800017408 = 4607182418800017408 := by decide +kernel
theorem order_minus_none : orderS 9223372036854775808 0 = -1 := by decide +kernel
theorem kind_stale_val : kindS 9218868437227405314 = 1 := by decide +kernel
theorem neg_minus : negS 9223372036854775808 = true := by decide +kernel
theorem holds_minus_none : holdsS 0 9223372036854775808 0 = true := by decide +kernel

theorem ret_eq {P : Program} {f : FuncId} {args : Array Value} {w : World} {u v : Value} (h : u = v) (c : Calls P f args w fun e w' => e = .returned u ∧ w = w') :
    Calls P f args w fun e w' => e = .returned v ∧ ∃ k, w' = w.drewN k :=
  c.mono fun _ _ ⟨h1, h2⟩ => ⟨by rw [h1, h], 0, h2.symm⟩

theorem L1 (w : World) : Calls Try.prog 33 #[.int .i64 (-5)] w fun e w' => e = .returned (.int .u64 13840687554816376832) ∧ ∃ k, w' = w.drewN k :=
  ret_eq (by rw [of_minus5]; rfl) (of_any (-5) w)
theorem L2 (w : World) : Calls Try.prog 29 #[.int .u64 13840687554816376832] w fun e w' => e = .returned (.tuple #[.int .i64 (-5), .bool true]) ∧ ∃ k, w' = w.drewN k :=
  (realWhole_any 13840687554816376832 (by omega) w).mono fun _ _ ⟨h1, h2⟩ => ⟨by rw [h1]; unfold wholeS; rw [whole_minus5.1, whole_minus5.2]; rfl, h2⟩
theorem L3 (w : World) : Calls Try.prog 22 #[.int .i64 3, .int .u64 4607182418800017408, .int .u64 0] w fun e w' => e = .returned (.int .u64 9218868437227405312) ∧ ∃ k, w' = w.drewN k :=
  (realDo_of 0 3 4607182418800017408 0 w (by intro h; simp at h)).mono fun _ _ ⟨h1, h2⟩ => ⟨by rw [h1, div_one_none]; rfl, h2⟩
theorem L4 (w : World) : Calls Try.prog 22 #[.int .i64 5, .int .u64 9218868437227405314, .int .u64 4607182418800017408] w fun e w' => e = .returned (.int .u64 4607182418800017408) ∧ ∃ k, w' = w.drewN k :=
  (realDo_of 0 5 9218868437227405314 4607182418800017408 w (by intro h; simp at h)).mono fun _ _ ⟨h1, h2⟩ => ⟨by rw [h1, min_stale_one]; rfl, h2⟩
theorem L5 (w : World) : Calls Try.prog 18 #[.int .u64 9223372036854775808, .int .u64 0] w fun e w' => e = .returned (.int .i64 (-1)) ∧ ∃ k, w' = w.drewN k :=
  ret_eq (by rw [order_minus_none]) (order_any 9223372036854775808 0 w)
theorem L7 (w : World) : Calls Try.prog 16 #[.int .u64 9223372036854775808] w fun e w' => e = .returned (.bool true) ∧ ∃ k, w' = w.drewN k :=
  ret_eq (by rw [neg_minus]) (neg_any 9223372036854775808 w)
theorem L8 (w : World) : Calls Try.prog 20 #[.int .i64 0, .int .u64 9223372036854775808, .int .u64 0] w fun e w' => e = .returned (.bool true) ∧ ∃ k, w' = w.drewN k :=
  ret_eq (by rw [holds_minus_none]) (holds_any 0 9223372036854775808 0 w)
set_option maxHeartbeats 400000 in
theorem L9 (w : World) : Calls Try.prog 26 #[.slice none 0 0] w fun e w' => e = .returned (.int .u64 9221120237041090561) ∧ ∃ k, w' = w.drewN k := by
  go_enter Try.func26, Try.ntmps26
  go_wp2
  go_ret
  exact ⟨rfl, 0, rfl⟩
end Go.Proofs.Ytiieppaalffgjaa
