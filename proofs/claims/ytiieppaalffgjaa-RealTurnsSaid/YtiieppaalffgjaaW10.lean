/- live: the chapter's examples. -/
import Derived.Test.YtiieppaalffgjaaW9
import Derived.Test.YtiieppaalffgjaaW2
namespace Go.Proofs.Ytiieppaalffgjaa
open Go.RowKit
theorem L6 (w : World) : Calls Try.prog 14 #[.int .u64 9218868437227405314] w fun e w' => e = .returned (.int .i64 1) ∧ ∃ k, w' = w.drewN k :=
  ret_eq (by rw [kind_stale_val]) (kind_any 9218868437227405314 (by omega) w)
set_option maxHeartbeats 1600000 in
theorem live_any (w : World) : Calls Try.prog 13 #[] w fun e w' => e = .returned (.bool true) ∧ ∃ k, w' = w.drewN k := by
  go_enter Try.func13, Try.ntmps13
  go_wp2_with (first | (go_at_call 33; refine (L1 _).mono ?_; rintro e w' ⟨rfl, k1, rfl⟩) | (go_at_call 29; refine (L2 _).mono ?_; rintro e w' ⟨rfl, k2, rfl⟩) | (go_at_call 22; (first | (with_reducible refine (L3 _).mono ?_) | (with_reducible refine (L4 _).mono ?_)); rintro e w' ⟨rfl, k3, rfl⟩) | (go_at_call 18; refine (L5 _).mono ?_; rintro e w' ⟨rfl, k5, rfl⟩) | (go_at_call 14; refine (L6 _).mono ?_; rintro e w' ⟨rfl, k6, rfl⟩) | (go_at_call 16; refine (L7 _).mono ?_; rintro e w' ⟨rfl, k7, rfl⟩) | (go_at_call 20; refine (L8 _).mono ?_; rintro e w' ⟨rfl, k8, rfl⟩) | (go_at_call 26; refine (L9 _).mono ?_; rintro e w' ⟨rfl, k9, rfl⟩))
  go_ret
  exact ⟨rfl, _, rfl⟩
end Go.Proofs.Ytiieppaalffgjaa
