import Derived.Test.YthhbbmebfmfgjaaGreatDoorPBx3
/-! What the plain laws of growth use. -/
namespace Go.Proofs.YthhbbmebfmfgjaaGreatDoor
theorem bits_lt {op : BinOp} (x y : Nat) : optT (floatBits op .f64 x y) < 18446744073709551616 := by
  cases h : floatBits op .f64 x y with
  | some r => exact toldS_lt r (floatBits_lt h)
  | none => show nanC < _; unfold nanC; omega
theorem doS_lt {op : Int} {a b : Nat} (hop : op ≠ 4) (ha : a < 18446744073709551616) (hb : b < 18446744073709551616) : doS op a b < 18446744073709551616 := by
  unfold doS doM
  split
  · exact bits_lt (op := .add) a b
  · split
    · exact bits_lt (op := .sub) a b
    · split
      · exact bits_lt (op := .mul) a b
      · split
        · exact bits_lt (op := .quo) a b
        · have hn : nanC < 18446744073709551616 := by unfold nanC; omega
          have hbt : ∀ w, betterS a b w < 18446744073709551616 := by
            intro w
            unfold betterS
            split
            · exact toldS_lt b hb
            · split
              · exact ha
              · split
                · exact ha
                · exact hb
          split
          · exact hbt _
          · split
            · exact hbt _
            · exact hn
end Go.Proofs.YthhbbmebfmfgjaaGreatDoor
namespace Go.Proofs.YthhbbmebfmfgjaaGreatDoor.PB
open Go.RowKit Go.Proofs.YthhbbmebfmfgjaaGreatDoorW.PrintWords Go.Proofs.YthhbbmebfmfgjaaGreatDoorW.PrintLast

theorem do_eq (a b c : Int) : manometerref04_Do.f a b c = real_Do.f a b c := rfl
theorem of_eq (a : Int) : manometerref04_Of.f a = real_Of.f a := rfl
theorem wrap64_of {n : Int} (h0 : -9223372036854775808 ≤ n) (h1 : n ≤ 9223372036854775807) : wrap64 n = n := by unfold wrap64; omega
end Go.Proofs.YthhbbmebfmfgjaaGreatDoor.PB
