/- The walks of RealKinds, RealHolds, RealTotal. -/
import Derived.Test.YtiieppaalffgjaaW10
import Derived.RowKit3
import Derived.OpenShut
namespace Go.Proofs.Ytiieppaalffgjaa
open Go.RowKit

/-- a law's end: true, some draws later -/
def Yes (w : World) (e : Ending) (w' : World) : Prop := e = .returned (.bool true) ∧ ∃ k, w' = w.drewN k

theorem grown_drewN {w w' : World} (h : ∃ k, w' = w.drewN k) : Grown w w' := by
  obtain ⟨k, rfl⟩ := h
  have h : Grown w w := Grown.refl w
  exact h

theorem below_some {w w' : World} (h : ∃ k, w' = w.drewN k) : Below w.heap.size w w' := by
  obtain ⟨k, rfl⟩ := h
  exact below_drewN (Below.refl _ _) k

theorem u64_nat {a : Int} (h : (Lit.int .u64 a).wf = true) : ∃ n : Nat, a = n ∧ n < 18446744073709551616 := by
  have := Go.bounds_u64 h
  obtain ⟨n, rfl⟩ := Int.eq_ofNat_of_zero_le this.1
  exact ⟨n, rfl, by omega⟩

theorem int_beq_self {k : Int} : (k == k) = true := by simp
theorem bool_beq_self {k : Bool} : (k == k) = true := by simp

set_option maxHeartbeats 1600000 in
theorem realKinds_walk (a b : Nat) (ha : a < 18446744073709551616) (hb : b < 18446744073709551616) (w : World) :
    Calls Try.prog 3 #[.int .u64 a, .int .u64 b] w (Yes w) := by
  go_enter Try.func3, Try.ntmps3
  go_wp2_with (first | (go_at_call 13; refine (live_any _).mono ?_; rintro e w' ⟨rfl, k1, rfl⟩) | (go_at_call 14; refine (kind_any _ ha _).mono ?_; rintro e w' ⟨rfl, rfl⟩) | (go_at_call 15; refine (Kind_any _ _).mono ?_; rintro e w' ⟨rfl, rfl⟩) | (go_at_call 16; refine (neg_any _ _).mono ?_; rintro e w' ⟨rfl, rfl⟩) | (go_at_call 17; refine (Neg_any _ ha _).mono ?_; rintro e w' ⟨rfl, rfl⟩) | (go_at_call 18; refine (order_any _ _ _).mono ?_; rintro e w' ⟨rfl, rfl⟩) | (go_at_call 19; refine (Order_any _ _ ha hb _).mono ?_; rintro e w' ⟨rfl, rfl⟩))
  go_ret
  exact ⟨rfl, _, rfl⟩

set_option maxHeartbeats 1600000 in
theorem realHolds_walk (c : Int) (a b : Nat) (w : World) :
    Calls Try.prog 4 #[.int .i64 c, .int .u64 a, .int .u64 b] w (Yes w) := by
  go_enter Try.func4, Try.ntmps4
  go_wp2_with (first | (go_at_call 13; refine (live_any _).mono ?_; rintro e w' ⟨rfl, k1, rfl⟩) | (go_at_call 20; refine (holds_any _ _ _ _).mono ?_; rintro e w' ⟨rfl, rfl⟩) | (go_at_call 21; refine (Holds_any _ _ _ _).mono ?_; rintro e w' ⟨rfl, rfl⟩))
  go_ret
  exact ⟨rfl, _, rfl⟩
end Go.Proofs.Ytiieppaalffgjaa
