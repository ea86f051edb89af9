/- Do: both texts, but for what is left of a quotient. -/
import Derived.Test.YtiieppaalffgjaaW7
namespace Go.Proofs.Ytiieppaalffgjaa
open Go.RowKit

/-- what two come to, what is left of a quotient (m) being given -/
def doM (m : Nat) (op : Int) (a b : Nat) : Nat :=
  if op = 0 then optT (D.add a b) else if op = 1 then optT (D.sub a b) else if op = 2 then optT (D.mul a b) else if op = 3 then optT (D.div a b)
  else if op = 4 then m else if op = 5 then betterS a b (-1) else if op = 6 then betterS a b 1 else nanC

theorem doM_end {m : Nat} {op : Int} {a b : Nat} (_ : (op == 0) = false) (_ : (op == 1) = false) (_ : (op == 2) = false) (_ : (op == 3) = false) (_ : (op == 4) = false) (_ : (op == 5) = false) (_ : (op == 6) = false) : doM m op a b = nanC := by
  unfold doM; simp_all

set_option maxHeartbeats 1600000 in
/-- where the operation is not OpMod, or its callee's contract is given -/
theorem realDo_of (m : Nat) (op : Int) (a b : Nat) (w : World)
    (hm : (op == 4) = true → Calls Try.prog 42 #[.int .u64 a, .int .u64 b] w (Told m w)) :
    Calls Try.prog 22 #[.int .i64 op, .int .u64 a, .int .u64 b] w (Told (doM m op a b) w) := by
  obtain ⟨r0, k0, h0, a0⟩ := arith_run .add (Or.inl rfl) 42 a b w
  obtain ⟨r1, k1, h1, a1⟩ := arith_run .sub (Or.inr (Or.inl rfl)) 42 a b w
  obtain ⟨r2, k2, h2, a2⟩ := arith_run .mul (Or.inr (Or.inr (Or.inl rfl))) 42 a b w
  obtain ⟨r3, k3, h3, a3⟩ := arith_run .quo (Or.inr (Or.inr (Or.inr rfl))) 42 a b w
  have A0 := Lib.hid a0
  have A1 := Lib.hid a1
  have A2 := Lib.hid a2
  have A3 := Lib.hid a3
  have Hm := Lib.hid hm
  clear a0 a1 a2 a3 hm
  go_enter Try.func22, Try.ntmps22
  go_wp2_with (first | (go_at_call 35; refine (num_any _ _).mono ?_; rintro e w' ⟨rfl, rfl⟩) | (go_at_call 41; refine (told_any _ _).mono ?_; rintro e w' ⟨rfl, rfl⟩) | (go_at_call 43; refine (better_any _ _ _ _).mono ?_; rintro e w' ⟨rfl, rfl⟩) | (go_at_call 42; refine (Hm.out (by assumption)).mono ?_; rintro e w' ⟨rfl, k, hk⟩; have Hk := Lib.hid hk; clear hk))
  · go_ret
    exact Told.some (by rw [toldS_arith A0.out]; unfold doM; simp_all [floatBits]) rfl
  · go_ret
    exact Told.some (by rw [toldS_arith A1.out]; unfold doM; simp_all [floatBits]) rfl
  · go_ret
    exact Told.some (by rw [toldS_arith A2.out]; unfold doM; simp_all [floatBits]) rfl
  · go_ret
    exact Told.some (by rw [toldS_arith A3.out]; unfold doM; simp_all [floatBits]) rfl
  · go_ret
    exact Told.some (by unfold doM; simp_all) Hk.out
  · go_ret
    exact Told.same (by unfold doM; simp_all)
  · go_ret
    exact Told.same (by unfold doM; simp_all)
  · go_ret
    exact Told.same (by rw [doM_end (by assumption) (by assumption) (by assumption) (by assumption) (by assumption) (by assumption) (by assumption)]; rfl)

set_option maxHeartbeats 1600000 in
theorem refDo_of (m : Nat) (op : Int) (a b : Nat) (hA : a < 18446744073709551616) (hB : b < 18446744073709551616) (w : World)
    (hm : (op == 4) = true → Calls Try.prog 45 #[.int .u64 a, .int .u64 b] w (Told m w)) :
    Calls Try.prog 23 #[.int .i64 op, .int .u64 a, .int .u64 b] w (Told (doM m op a b) w) := by
  obtain ⟨r0, k0, h0, a0⟩ := arith_run .add (Or.inl rfl) 42 a b w
  obtain ⟨r1, k1, h1, a1⟩ := arith_run .sub (Or.inr (Or.inl rfl)) 42 a b w
  obtain ⟨r2, k2, h2, a2⟩ := arith_run .mul (Or.inr (Or.inr (Or.inl rfl))) 42 a b w
  obtain ⟨r3, k3, h3, a3⟩ := arith_run .quo (Or.inr (Or.inr (Or.inr rfl))) 42 a b w
  have A0 := Lib.hid a0
  have A1 := Lib.hid a1
  have A2 := Lib.hid a2
  have A3 := Lib.hid a3
  have Hm := Lib.hid hm
  clear a0 a1 a2 a3 hm
  go_enter Try.func23, Try.ntmps23
  go_wp2_with (first | (go_at_call 40; refine (Num_any _ _).mono ?_; rintro e w' ⟨rfl, rfl⟩) | (go_at_call 44; refine (Bits_any _ _).mono ?_; rintro e w' ⟨rfl, rfl⟩) | (go_at_call 46; refine (one_any _ _ hA hB _ _).mono ?_; rintro e w' ⟨rfl, rfl⟩) | (go_at_call 45; refine (Hm.out (by assumption)).mono ?_; rintro e w' ⟨rfl, k, hk⟩; have Hk := Lib.hid hk; clear hk))
  · go_ret
    exact Told.some (by rw [toldS_arith A0.out]; unfold doM; simp_all [floatBits]) rfl
  · go_ret
    exact Told.some (by rw [toldS_arith A1.out]; unfold doM; simp_all [floatBits]) rfl
  · go_ret
    exact Told.some (by rw [toldS_arith A2.out]; unfold doM; simp_all [floatBits]) rfl
  · go_ret
    exact Told.some (by rw [toldS_arith A3.out]; unfold doM; simp_all [floatBits]) rfl
  · go_ret
    exact Told.some (by unfold doM; simp_all) Hk.out
  · go_ret
    exact Told.same (by unfold doM oneS; simp_all)
  · go_ret
    exact Told.same (by unfold doM oneS; simp_all)
  · go_ret
    exact Told.same (by rw [doM_end (by assumption) (by assumption) (by assumption) (by assumption) (by assumption) (by assumption) (by assumption)]; rfl)
end Go.Proofs.Ytiieppaalffgjaa
