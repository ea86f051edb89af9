import Derived.Test.YthhbbmebfmfgjaaGreatDoorPuT2
import Derived.Test.YthhbbmebfmfgjaaGreatDoorPuF
import Derived.Test.YthhbbmebfmfgjaaGreatDoorLF
/-! EvalFolds: plain law. -/
namespace Go.Proofs.YthhbbmebfmfgjaaGreatDoor.PA
open Go.RowKit Go.Proofs.YthhbbmebfmfgjaaGreatDoorW.PrintWords Go.Proofs.YthhbbmebfmfgjaaGreatDoorW.PrintLast

theorem evalFolds_pure (fn : Int) (l : List S44) (hw : (l.map S44.f1).all word = true) : ∃ k, manometerlaw27_EvalFolds.f k fn l = some true := by
  refine ⟨300, ?_⟩
  unfold manometerlaw27_EvalFolds.f
  rw [live_some (by omega), Option.bind_some, if_pos rfl]
  by_cases h : (l.length : Int) > 200
  · rw [if_pos h]
  · rw [if_neg h]
    obtain ⟨r, h1, h2⟩ := fold_same fn l hw (by omega) 300 (by omega)
    rw [h1, h2]
    simp
end Go.Proofs.YthhbbmebfmfgjaaGreatDoor.PA
