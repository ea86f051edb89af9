import Derived.Test.YthhbbmebfmfgjaaGreatDoorR1
import Derived.RowKit3
import Derived.OpenShut
/- Plain facts on numbers made whole. -/
namespace Go.Proofs.YthhbbmebfmfgjaaGreatDoor
open Ieee

/-- is a rung a whole number? -/
def intB (r : Nat) : Bool := units r % 2 ^ B74 == 0
/-- the whole part -/
def wholePart (r : Nat) : Nat := units r / 2 ^ B74

theorem read_fin {n : Nat} (h : rung n < 9218868437227405312) : D.read n = .number (sgn n) (mant (rung n)) (-1074 + (lift (rung n) : Int)) := by
  rw [read_word, if_pos h]

theorem split_pow (m l k : Nat) (h : k ≤ l) : m * 2 ^ l = m * 2 ^ (l - k) * 2 ^ k := by
  rw [Nat.mul_assoc, ← Nat.pow_add, Nat.sub_add_cancel h]

theorem fnan_fin {n : Nat} (h : rung n < 9218868437227405312) : fnan n = false := by unfold fnan; simp; omega

/-- the whole number that a word is, cut off -/
def wholeN (n : Nat) : Int := if sgn n then -(wholePart (rung n) : Int) else wholePart (rung n)
/-- IS A WORD A WHOLE NUMBER, FROM -2^63 ON AND BELOW 2^63? -/
def wholeB (n : Nat) : Bool := decide (rung n < 9218868437227405312) && intB (rung n) && decide (-4890909195324358656 ≤ skey n) && decide (skey n < 4890909195324358656)

end Go.Proofs.YthhbbmebfmfgjaaGreatDoor

/- Whole: both texts. -/
namespace Go.Proofs.YthhbbmebfmfgjaaGreatDoor
open Go.RowKit

def wholeS (n : Nat) : Int := if wholeB n then wholeN n else 0

/-- 'n, is', some draws later -/
def ToldWhole (n : Nat) (w : World) (e : Ending) (w' : World) : Prop := e = .returned (.tuple #[.int .i64 (wholeS n), .bool (wholeB n)]) ∧ ∃ k, w' = w.drewN k

theorem ToldWhole.no {n : Nat} {w w' : World} {k : Nat} (h : wholeB n = false) (hw : w' = w.drewN k) : ToldWhole n w (.returned (.tuple #[.int .i64 0, .bool false])) w' := by
  refine ⟨?_, k, hw⟩
  unfold wholeS
  rw [h]; rfl
theorem ToldWhole.yes {n : Nat} {w w' : World} {k : Nat} (h : wholeB n = true) (hw : w' = w.drewN k) : ToldWhole n w (.returned (.tuple #[.int .i64 (wholeN n), .bool true])) w' := by
  refine ⟨?_, k, hw⟩
  unfold wholeS
  rw [h]; rfl



end Go.Proofs.YthhbbmebfmfgjaaGreatDoor

/- Do: both texts, but for what is left of a quotient. -/
namespace Go.Proofs.YthhbbmebfmfgjaaGreatDoor
open Go.RowKit

/-- what two come to, what is left of a quotient (m) being given -/
def doM (m : Nat) (op : Int) (a b : Nat) : Nat :=
  if op = 0 then optT (D.add a b) else if op = 1 then optT (D.sub a b) else if op = 2 then optT (D.mul a b) else if op = 3 then optT (D.div a b)
  else if op = 4 then m else if op = 5 then betterS a b (-1) else if op = 6 then betterS a b 1 else nanC

theorem doM_end {m : Nat} {op : Int} {a b : Nat} (_ : (op == 0) = false) (_ : (op == 1) = false) (_ : (op == 2) = false) (_ : (op == 3) = false) (_ : (op == 4) = false) (_ : (op == 5) = false) (_ : (op == 6) = false) : doM m op a b = nanC := by
  unfold doM; simp_all

set_option maxRecDepth 100000 in
set_option maxHeartbeats 1600000 in
/-- where the operation is not OpMod, or its callee's contract is given -/
theorem realDo_of (m : Nat) (op : Int) (a b : Nat) (w : World)
    (hm : (op == 4) = true → Calls Tryz.prog 132 #[.int .u64 a, .int .u64 b] w (Told m w)) :
    Calls Tryz.prog 100 #[.int .i64 op, .int .u64 a, .int .u64 b] w (Told (doM m op a b) w) := by
  obtain ⟨r0, k0, h0, a0⟩ := arith_run .add (Or.inl rfl) 107 a b w
  obtain ⟨r1, k1, h1, a1⟩ := arith_run .sub (Or.inr (Or.inl rfl)) 107 a b w
  obtain ⟨r2, k2, h2, a2⟩ := arith_run .mul (Or.inr (Or.inr (Or.inl rfl))) 107 a b w
  obtain ⟨r3, k3, h3, a3⟩ := arith_run .quo (Or.inr (Or.inr (Or.inr rfl))) 107 a b w
  have A0 := Lib.hid a0
  have A1 := Lib.hid a1
  have A2 := Lib.hid a2
  have A3 := Lib.hid a3
  have Hm := Lib.hid hm
  clear a0 a1 a2 a3 hm
  go_enter Tryz.func100, Tryz.ntmps100
  go_wp2_with (first | (go_at_call 96; refine (num_any _ _).mono ?_; rintro e w' ⟨rfl, rfl⟩) | (go_at_call 99; refine (told_any _ _).mono ?_; rintro e w' ⟨rfl, rfl⟩) | (go_at_call 133; refine (better_any _ _ _ _).mono ?_; rintro e w' ⟨rfl, rfl⟩) | (go_at_call 132; refine (Hm.out (by assumption)).mono ?_; rintro e w' ⟨rfl, k, hk⟩; have Hk := Lib.hid hk; clear hk))
  · go_ret
    exact Told.some (by rw [toldS_arith A0.out]; unfold doM; simp_all [floatBits]) rfl
  · go_ret
    exact Told.some (by rw [toldS_arith A1.out]; unfold doM; simp_all [floatBits]) rfl
  · go_ret
    exact Told.some (by rw [toldS_arith A2.out]; unfold doM; simp_all [floatBits]) rfl
  · go_ret
    exact Told.some (by rw [toldS_arith A3.out]; unfold doM; simp_all [floatBits]) rfl
  · go_ret
    exact Told.some (by unfold doM; simp_all) Hk.out
  · go_ret
    exact Told.same (by unfold doM; simp_all)
  · go_ret
    exact Told.same (by unfold doM; simp_all)
  · go_ret
    exact Told.same (by rw [doM_end (by assumption) (by assumption) (by assumption) (by assumption) (by assumption) (by assumption) (by assumption)]; rfl)

end Go.Proofs.YthhbbmebfmfgjaaGreatDoor

/- Words for laws: true, some draws later; what is known of a uint64. -/
namespace Go.Proofs.YthhbbmebfmfgjaaGreatDoor
open Go.RowKit

end Go.Proofs.YthhbbmebfmfgjaaGreatDoor

/- Sum, Mean: both texts. -/
namespace Go.Proofs.YthhbbmebfmfgjaaGreatDoor
open Go.RowKit

/-- a slice of words in memory -/
def Words (w : World) (a : Option Addr) (ns : List Nat) : Prop :=
  ∀ j, j < ns.length → ∃ b off, a = some ⟨b, off, none⟩ ∧ w.cell? ⟨b, off + j, none⟩ = some (.int .u64 ((ns.getD j 0 : Nat) : Int))

end Go.Proofs.YthhbbmebfmfgjaaGreatDoor

/- Sum of the reference; Mean: both texts -/
namespace Go.Proofs.YthhbbmebfmfgjaaGreatDoor
open Go.RowKit

end Go.Proofs.YthhbbmebfmfgjaaGreatDoor
