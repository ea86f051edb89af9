import Derived.Test.YthhbbmebfmfgjaaGreatDoorPuT
import Derived.Test.YthhbbmebfmfgjaaGreatDoorPAx6
/-! EvalTimes: plain law. -/
namespace Go.Proofs.YthhbbmebfmfgjaaGreatDoor.PA
open Go.RowKit Go.Proofs.YthhbbmebfmfgjaaGreatDoorW.PrintWords Go.Proofs.YthhbbmebfmfgjaaGreatDoorW.PrintLast

theorem live_20 : manometerlaw27_live.f 20 = some true := by kernel_rfl
theorem live_some {k : Nat} (hk : 20 ≤ k) : manometerlaw27_live.f k = some true := by
  induction hk with
  | refl => exact live_20
  | step _ ih => exact manometerlaw27_live.mono _ _ ih

theorem times_cmp (r : List Int) (hr : r.length ≤ 1000) : ∀ (m k : Nat) (i : Int), 0 ≤ i → i ≤ r.length → ((r.length : Int) - i).toNat ≤ m → m < k → manometerlaw27_EvalTimes.l0 k r r r.length i = some true := by
  intro m
  induction m with
  | zero =>
    intro k i h0 h1 hm hk
    obtain ⟨k, rfl⟩ : ∃ q, k = q + 1 := ⟨k - 1, by omega⟩
    simp only [manometerlaw27_EvalTimes.l0]
    rw [if_neg (by omega)]
  | succ m ih =>
    intro k i h0 h1 hm hk
    obtain ⟨k, rfl⟩ : ∃ q, k = q + 1 := ⟨k - 1, by omega⟩
    simp only [manometerlaw27_EvalTimes.l0]
    by_cases hi : i < r.length
    · have hw : wrap64 (i + 1) = i + 1 := by unfold wrap64; omega
      rw [if_pos hi, if_pos h0, if_pos hi, if_pos hi, if_pos trivial, hw]
      exact ih k (i + 1) (by omega) (by omega) (by omega) (by omega)
    · rw [if_neg hi]

theorem evalTimes_pure (a b c d : Int) : manometerlaw27_EvalTimes.f 2000 a b c d = some true := by
  obtain ⟨r, e, hr, h⟩ := times_total a b c d
  unfold manometerlaw27_EvalTimes.f
  rw [live_some (by omega), Option.bind_some, if_pos rfl, times_eq, h 2000 (by omega)]
  simp only [Option.bind_some, if_true]
  rw [show (2000 : Nat) = 1999 + 1 from rfl]
  simp only [manometerlaw27_EvalTimes.j0, bne_self_eq_false, Bool.false_eq_true, if_false]
  exact times_cmp r hr 1000 1999 0 (by omega) (by omega) (by omega) (by omega)
end Go.Proofs.YthhbbmebfmfgjaaGreatDoor.PA
