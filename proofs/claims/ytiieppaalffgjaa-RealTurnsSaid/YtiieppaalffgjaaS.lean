/- The answers of layer real's functions, as plain functions of words. -/
import Derived.Test.YtiieppaalffgjaaF2
import Derived.WalkKit
namespace Go.Proofs.Ytiieppaalffgjaa
open Ieee

def nanC : Nat := 9221120237041090561
/-- a word told as a value -/
def toldS (b : Nat) : Nat := if fnan b then nanC else b
/-- the word of a result that may be none, told -/
def optT : Option Nat → Nat
  | some r => toldS r
  | none => nanC
def negS (n : Nat) : Bool := decide (9223372036854775808 ≤ (n : Int))
def kindS (n : Nat) : Int :=
  if n = 9218868437227405314 then 1 else if fnan n then 0 else if rung n = 9218868437227405312 then 2 else if rung n = 0 then 3 else if rung n < 4503599627370496 then 4 else 5
def orderS (a b : Nat) : Int := if a = b then 0 else if negS a then (if negS b then (if b < a then -1 else 1) else -1) else if negS b then 1 else if a < b then -1 else 1
def holdsS (cmp : Int) (a b : Nat) : Bool :=
  if cmp = 0 then D.order a b == some .eq else if cmp = 1 then D.order a b != some .eq else if cmp = 2 then D.order a b == some .gt
  else if cmp = 3 then D.order a b == some .lt else if cmp = 4 then (D.order a b == some .gt || D.order a b == some .eq)
  else if cmp = 5 then (D.order a b == some .lt || D.order a b == some .eq) else false

theorem sgn_eq (n : Nat) (hn : n < 18446744073709551616) : sgn n = negS n := by
  unfold sgn negS
  rw [Bool.eq_iff_iff]
  simp
  omega

theorem shl_nan (n : Nat) : decide (18437736874454810624 < IntKind.u64.wrap ((n : Int) * 2)) = fnan n := by
  unfold fnan rung
  rw [IntKind.wrap_u64, Bool.eq_iff_iff]
  simp only [decide_eq_true_eq]
  omega

theorem shl_inf (n : Nat) : (IntKind.u64.wrap ((n : Int) * 2) == 18437736874454810624) = decide (rung n = 9218868437227405312) := by
  unfold rung
  rw [IntKind.wrap_u64, Bool.eq_iff_iff]
  simp only [decide_eq_true_eq, beq_iff_eq]
  omega

theorem shl_zero (n : Nat) : (IntKind.u64.wrap ((n : Int) * 2) == 0) = decide (rung n = 0) := by
  unfold rung
  rw [IntKind.wrap_u64, Bool.eq_iff_iff]
  simp only [decide_eq_true_eq, beq_iff_eq]
  omega

theorem shl_tiny (n : Nat) : decide (IntKind.u64.wrap ((n : Int) * 2) < 9007199254740992) = decide (rung n < 4503599627370496) := by
  unfold rung
  rw [IntKind.wrap_u64, Bool.eq_iff_iff]
  simp only [decide_eq_true_eq]
  omega

theorem andNot_sign (n : Nat) (hn : n < 18446744073709551616) : bits .andNot .u64 (n : Int) 9223372036854775808 = ((rung n : Nat) : Int) := by
  have h := u64_andNot_nat n 9223372036854775808 hn (by omega)
  rw [show ((9223372036854775808 : Nat) : Int) = 9223372036854775808 from rfl] at h
  rw [h]
  congr 1
  have := Nat.and_two_pow_sub_one_eq_mod n 63
  exact this

theorem xor_sign (n : Nat) (hn : n < 18446744073709551616) : bits .xor .u64 (n : Int) 9223372036854775808 = ((D.word (!sgn n) (rung n) : Nat) : Int) := by
  have h := u64_xor_nat n 9223372036854775808 hn (by omega)
  rw [show ((9223372036854775808 : Nat) : Int) = 9223372036854775808 from rfl] at h
  rw [h]
  congr 1
  unfold sgn rung Format.word
  rw [D_sign]
  by_cases g : n < 9223372036854775808
  · have h1 : n / 9223372036854775808 % 2 = 0 := by omega
    have h2 : n % 9223372036854775808 = n := by omega
    simp only [h1, h2]
    have := Nat.two_pow_add_eq_or_of_lt (i := 63) (b := n) (by omega) 1
    have h3 : n ^^^ 9223372036854775808 = 9223372036854775808 + n := by
      rw [Nat.xor_comm]
      apply Nat.eq_of_testBit_eq
      intro i
      rw [show 9223372036854775808 + n = 2 ^ 63 * 1 + n from rfl, this]
      rw [show 9223372036854775808 = 2 ^ 63 * 1 from rfl, Nat.testBit_xor, Nat.testBit_or]
      by_cases e : i = 63
      · subst e
        have : n.testBit 63 = false := Nat.testBit_lt_two_pow g
        rw [this]; simp
      · have : (2 ^ 63 * 1).testBit i = false := by rw [Nat.mul_one, Nat.testBit_two_pow]; simp; omega
        rw [this]; simp
    rw [h3]; rfl
  · have h1 : n / 9223372036854775808 % 2 = 1 := by omega
    have h2 : n % 9223372036854775808 = n - 9223372036854775808 := by omega
    simp only [h1, h2]
    obtain ⟨m, rfl⟩ : ∃ m, n = 9223372036854775808 + m := ⟨n - 9223372036854775808, by omega⟩
    have hm : m < 2 ^ 63 := by omega
    have := Nat.two_pow_add_eq_or_of_lt (i := 63) (b := m) hm 1
    have h3 : (9223372036854775808 + m) ^^^ 9223372036854775808 = m := by
      apply Nat.eq_of_testBit_eq
      intro i
      rw [show 9223372036854775808 + m = 2 ^ 63 * 1 + m from rfl, this]
      rw [show 9223372036854775808 = 2 ^ 63 * 1 from rfl, Nat.testBit_xor, Nat.testBit_or]
      by_cases e : i = 63
      · subst e
        have : m.testBit 63 = false := Nat.testBit_lt_two_pow hm
        rw [this]; simp
      · have : (2 ^ 63 * 1).testBit i = false := by rw [Nat.mul_one, Nat.testBit_two_pow]; simp; omega
        rw [this]; simp
    rw [h3]
    simp

theorem cmp_eq_iff (a b : Int) : compare a b = .eq ↔ a = b := by
  rcases Int.lt_trichotomy a b with h | h | h
  · rw [cmp_lt h]; constructor
    · intro e; cases e
    · intro e; omega
  · subst h; simp
  · rw [cmp_gt h]; constructor
    · intro e; cases e
    · intro e; omega
theorem cmp_lt_iff (a b : Int) : compare a b = .lt ↔ a < b := by
  rcases Int.lt_trichotomy a b with h | h | h
  · rw [cmp_lt h]; simp [h]
  · subst h; simp
  · rw [cmp_gt h]; constructor
    · intro e; cases e
    · intro e; omega
theorem cmp_gt_iff (a b : Int) : compare a b = .gt ↔ b < a := by
  rcases Int.lt_trichotomy a b with h | h | h
  · rw [cmp_lt h]; constructor
    · intro e; cases e
    · intro e; omega
  · subst h; simp
  · rw [cmp_gt h]; simp [h]

theorem rung_rung (n : Nat) : rung (rung n) = rung n := by unfold rung; omega
theorem sgn_rung (n : Nat) : sgn (rung n) = false := by unfold sgn rung; simp
theorem fnan_rung (n : Nat) : fnan (rung n) = fnan n := by unfold fnan; rw [rung_rung]

theorem gt_test (n M : Nat) (hM : M < 9218868437227405312) : (D.order (rung n) M == some .gt) = (!fnan n && decide (M < rung n)) := by
  have h1 : rung M = M := by unfold rung; omega
  have h2 : sgn M = false := by unfold sgn; rw [show M / 9223372036854775808 = 0 by omega]; rfl
  have h3 : fnan M = false := by unfold fnan; rw [h1]; simp; omega
  have h4 : skey M = M := by unfold skey; rw [h1, h2]; rfl
  have h5 : skey (rung n) = rung n := by unfold skey; rw [sgn_rung, rung_rung]; rfl
  rw [order_key, fnan_rung, h3, h4, h5]
  cases h : fnan n
  · rw [Bool.eq_iff_iff]
    simp [cmp_gt_iff]
  · simp

/-- 'Abs(f) > MaxFloat64' -/
theorem inf_test (n : Nat) : (D.order (rung n) 9218868437227405311 == some .gt) = decide (rung n = 9218868437227405312) := by
  rw [gt_test n 9218868437227405311 (by omega), Bool.eq_iff_iff]
  unfold fnan
  simp only [Bool.and_eq_true, Bool.not_eq_true', decide_eq_true_eq, decide_eq_false_iff_not]
  omega

theorem zero_test (n : Nat) : (D.order n 0 == some .eq) = decide (rung n = 0) := by
  rw [order_key, show fnan 0 = false by simp [fnan, rung], show skey 0 = 0 by simp [skey, sgn, rung]]
  unfold skey
  cases h : fnan n
  · rw [Bool.eq_iff_iff]
    cases sgn n <;> simp
  · unfold fnan at h
    simp at h
    simp; omega

theorem toldS_lt (b : Nat) (h : b < 18446744073709551616) : toldS b < 18446744073709551616 := by
  unfold toldS nanC; split <;> omega
end Go.Proofs.Ytiieppaalffgjaa
