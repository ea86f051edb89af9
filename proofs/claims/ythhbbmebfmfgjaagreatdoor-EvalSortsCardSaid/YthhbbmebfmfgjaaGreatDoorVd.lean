import Derived.Test.YthhbbmebfmfgjaaGreatDoorMb
import Derived.Test.YthhbbmebfmfgjaaGreatDoorShV
import Derived.Test.YthhbbmebfmfgjaaGreatDoorSrK
/-! A value's text. -/
namespace Go.Proofs.YthhbbmebfmfgjaaGreatDoor
open Go.RowKit Ut
theorem tabs_below {w w' : World} (h : Lib.Utf8Tabs 1 2 w) (hb : Below w.heap.size w w') : Lib.Utf8Tabs 1 2 w' := Go.Proofs.Utf8Tabs_below h hb
theorem leq_no {a b : List UInt8} (h : Op.bytesLess b a = true) : Op.bytesLess a b = false ∧ (a == b) = false := by
  constructor
  · exact Lab.bl_asymm h
  · rw [beq_eq_false_iff_ne]
    rintro rfl
    rw [Lab.bl_irrefl] at h; cases h
theorem leq_yes {a b : List UInt8} (h : Op.bytesLess b a = false) : (Op.bytesLess a b || a == b) = true := by
  by_cases e : a = b
  · subst e; simp
  · rcases Lab.bl_total a b with h2 | h2 | h2
    · rw [h2]; rfl
    · exact absurd h2 e
    · rw [h2] at h; cases h
def valuedF (s : ByteArray) : Bool := decide (s.size ≤ 128) && Lib.validD s.data.toList
set_option maxRecDepth 100000 in
theorem valued_any (s : ByteArray) (w : World) (hT : Lib.Utf8Tabs 1 2 w) :
    Calls Tryz.prog 129 #[.string s] w fun e w' => e = .returned (.bool (valuedF s)) ∧ Below w.heap.size w w' := by
  by_cases h : s.size ≤ 128
  · have hz : (s.size : Int) ≤ 128 := by omega
    have e : valuedF s = Lib.validD s.data.toList := by unfold valuedF; rw [decide_eq_true h, Bool.true_and]
    rw [e]
    have C := Lib.hid (Tryz.utf8_ValidString s w (by omega) hT)
    clear h e hT
    go_enter Tryz.func129, Tryz.ntmps129
    go_wp2_with fail
    refine C.out.mono ?_
    rintro e w1 ⟨rfl, hb⟩
    go_wp2_with fail
    go_ret
    exact ⟨rfl, hb⟩
  · have e : valuedF s = false := by unfold valuedF; rw [decide_eq_false h, Bool.false_and]
    rw [e]
    have hz : ¬ (s.size : Int) ≤ 128 := by omega
    clear hT
    go_enter Tryz.func129, Tryz.ntmps129
    go_wp2_with fail
    go_ret
    exact ⟨rfl, Below.refl _ _⟩
end Go.Proofs.YthhbbmebfmfgjaaGreatDoor
