import Derived.Test.YtmbfpichaaanpaaGreatDoorX35
import Derived.WalkKit
import Derived.Test.YtmbfpichaaanpaaGreatDoorRows
import Derived.WalkSpells
import Derived.WalkLawsBesides
import Derived.Outline
import Derived.Deep.QuietTactic
import Derived.BigQuiet
import Derived.Lib.Hide
/- Plain facts on rounding: a number that the format has is written as its own word; whole numbers up to 2^53 are had. -/
namespace Go.Proofs.YtmbfpichaaanpaaGreatDoor
open Ieee

theorem cut_zero (way : Toward) (neg : Bool) (n : Nat) : way.cut neg n 0 = n := by
  unfold Toward.cut
  have h : min 0 (n.log2 + 2) = 0 := by omega
  simp only [h, Nat.shiftLeft_zero, Nat.div_one, Nat.mod_one]
  cases way <;> simp

theorem log2_ge {n k : Nat} (h : 2 ^ k ≤ n) (hn : n ≠ 0) : k ≤ n.log2 := (Nat.le_log2 hn).2 h

/-- nothing is dropped where the number is a multiple of the gap -/
theorem cut_exact (way : Toward) (neg : Bool) (K d : Nat) (hK : K ≠ 0) : way.cut neg (K * 2 ^ d) d = K := by
  have hp : 0 < 2 ^ d := Nat.two_pow_pos d
  have h1 : 2 ^ d ≤ K * 2 ^ d := Nat.le_mul_of_pos_left _ (by omega)
  have h2 : d ≤ (K * 2 ^ d).log2 := log2_ge h1 (by have := Nat.mul_pos (Nat.pos_of_ne_zero hK) hp; omega)
  unfold Toward.cut
  have h : min d ((K * 2 ^ d).log2 + 2) = d := by omega
  simp only [h, Nat.shiftLeft_eq, Nat.one_mul, Nat.mul_div_cancel _ hp, Nat.mul_mod_left]
  cases way <;> simp

theorem cut_shift (way : Toward) (neg : Bool) (m K a b : Nat) (hK : K ≠ 0) (h : m * 2 ^ a = K * 2 ^ b) :
    way.cut neg (m <<< (a - b)) (b - a) = K := by
  rw [Nat.shiftLeft_eq]
  rcases Nat.le_total a b with g | g
  · have h1 : a - b = 0 := by omega
    rw [h1, Nat.pow_zero, Nat.mul_one]
    have h2 : m = K * 2 ^ (b - a) := by
      have e : K * 2 ^ b = K * 2 ^ (b - a) * 2 ^ a := by rw [Nat.mul_assoc, ← Nat.pow_add, Nat.sub_add_cancel g]
      rw [e] at h
      exact Nat.eq_of_mul_eq_mul_right (Nat.two_pow_pos a) h
    rw [h2, cut_exact _ _ _ _ hK]
  · have h1 : b - a = 0 := by omega
    rw [h1, cut_zero]
    have e : m * 2 ^ a = m * 2 ^ (a - b) * 2 ^ b := by rw [Nat.mul_assoc, ← Nat.pow_add, Nat.sub_add_cancel g]
    rw [e] at h
    exact Nat.eq_of_mul_eq_mul_right (Nat.two_pow_pos b) h

theorem log2_mul_pow (m k : Nat) (hm : m ≠ 0) : (m * 2 ^ k).log2 = m.log2 + k := by
  have hp : 0 < 2 ^ k := Nat.two_pow_pos k
  have hn : m * 2 ^ k ≠ 0 := by have := Nat.mul_pos (Nat.pos_of_ne_zero hm) hp; omega
  apply (Nat.log2_eq_iff hn).2
  have h1 := Nat.log2_self_le hm
  have h2 := Nat.lt_log2_self (n := m)
  rw [Nat.pow_add, show m.log2 + k + 1 = (m.log2 + 1) + k by omega, Nat.pow_add (m := m.log2 + 1)]
  exact ⟨Nat.mul_le_mul_right _ h1, Nat.mul_lt_mul_of_pos_right h2 hp⟩

theorem mant_ne {r : Nat} (h : r ≠ 0) : mant r ≠ 0 := by unfold mant; split <;> omega
theorem mant_lt (r : Nat) : mant r < 9007199254740992 := by unfold mant; split <;> omega

theorem log2_mant_big {r : Nat} (h : 4503599627370496 ≤ r) : (mant r).log2 = 52 := by
  have : mant r = 4503599627370496 + r % 4503599627370496 := by unfold mant; rw [if_neg (by omega)]
  rw [this]
  apply (Nat.log2_eq_iff (by omega)).2
  constructor <;> omega

theorem log2_small {r : Nat} (h : r < 4503599627370496) : r.log2 < 52 := by
  by_cases e : r = 0
  · subst e; decide
  · exact (Nat.log2_lt e).2 (by omega)

theorem lift_mant (r : Nat) : lift r * 4503599627370496 + mant r = r := by
  unfold lift mant
  split <;> omega

/-- THE WORD OF A NUMBER THAT THE FORMAT HAS: 'm * 2^(a - b - 1074)' being just as many units as the rung r. -/
theorem nearest_exact (neg : Bool) (m r a b : Nat) (hr : r < 9218868437227405312) (h0 : r ≠ 0) (h : m * 2 ^ a = units r * 2 ^ b) :
    D.nearest neg m ((a : Int) - b - 1074) = D.word neg r := by
  have hu : units r ≠ 0 := by have := @units_lt 0 r (by omega); rw [units_zero] at this; omega
  have hm : m ≠ 0 := by
    intro e; subst e
    have := Nat.mul_pos (Nat.pos_of_ne_zero hu) (Nat.two_pow_pos b)
    omega
  have hl : m.log2 + a = (mant r).log2 + lift r + b := by
    have e := congrArg Nat.log2 h
    rw [log2_mul_pow _ _ hm, log2_mul_pow _ _ hu] at e
    unfold units at e
    rw [log2_mul_pow _ _ (mant_ne h0)] at e
    exact e
  unfold Format.nearest
  rw [if_neg hm]
  simp only [D_least, D_frac, D_binade, D_inf]
  have hlast : max (((a : Int) - b - 1074) + m.log2 - (52 : Nat)) (-1074) = (lift r : Int) - 1074 := by
    by_cases g : r < 4503599627370496
    · have e1 : mant r = r := by unfold mant; rw [if_pos g]
      have e2 : lift r = 0 := by unfold lift; rw [if_pos g]
      rw [e1, e2] at hl
      have := log2_small g
      rw [e2]; omega
    · rw [log2_mant_big (by omega)] at hl
      omega
  rw [hlast]
  have e1 : (((a : Int) - b - 1074) - ((lift r : Int) - 1074)).toNat = a - (b + lift r) := by omega
  have e2 : (((lift r : Int) - 1074) - ((a : Int) - b - 1074)).toNat = (b + lift r) - a := by omega
  have e3 : (((lift r : Int) - 1074) - (-1074)).toNat = lift r := by omega
  rw [e1, e2, e3, cut_shift .even neg m (mant r) a (b + lift r) (mant_ne h0) (by rw [h]; unfold units; rw [Nat.mul_assoc, ← Nat.pow_add, Nat.add_comm])]
  rw [lift_mant]
  exact congrArg (D.word neg) (Nat.min_eq_left (Nat.le_of_lt hr))

theorem nearest_zero (neg : Bool) (place : Int) : D.nearest neg 0 place = D.word neg 0 := by
  unfold Format.nearest; rw [if_pos rfl]

/-- The same, a zero too. -/
theorem nearest_units (neg : Bool) (m r a b : Nat) (hr : r < 9218868437227405312) (h : m * 2 ^ a = units r * 2 ^ b) :
    D.nearest neg m ((a : Int) - b - 1074) = D.word neg r := by
  by_cases h0 : r = 0
  · subst h0
    rw [units_zero, Nat.zero_mul] at h
    have : m = 0 := by
      rcases Nat.mul_eq_zero.1 h with e | e
      · exact e
      · have := Nat.two_pow_pos a; omega
    subst this
    exact nearest_zero _ _
  · exact nearest_exact neg m r a b hr h0 h

/-- every whole multiple, below 2^53, of a power of two is had -/
theorem had : ∀ (e K : Nat), K < 9007199254740992 → e ≤ 2045 → ∃ r, r < 9218868437227405312 ∧ units r = K * 2 ^ e := by
  intro e
  induction e with
  | zero =>
    intro K hK _
    refine ⟨K, by omega, ?_⟩
    unfold units mant lift
    by_cases g : K < 4503599627370496
    · simp [g]
    · rw [if_neg g, if_neg g]
      have h1 : K / 4503599627370496 = 1 := by omega
      rw [h1]; simp; omega
  | succ e ih =>
    intro K hK he
    by_cases g : K < 4503599627370496
    · obtain ⟨r, h1, h2⟩ := ih (K * 2) (by omega) (by omega)
      exact ⟨r, h1, by rw [h2, Nat.pow_succ, Nat.mul_assoc, Nat.mul_comm 2]⟩
    · refine ⟨(e + 2) * 4503599627370496 + (K - 4503599627370496), by omega, ?_⟩
      unfold units mant lift
      have h1 : ((e + 2) * 4503599627370496 + (K - 4503599627370496)) / 4503599627370496 = e + 2 := by omega
      have h2 : ((e + 2) * 4503599627370496 + (K - 4503599627370496)) % 4503599627370496 = K - 4503599627370496 := by omega
      rw [if_neg (by omega), if_neg (by omega), h1, h2]
      rw [show 4503599627370496 + (K - 4503599627370496) = K by omega, show e + 2 - 1 = e + 1 by omega]

theorem had_upto (e K : Nat) (hK : K ≤ 9007199254740992) (he : e ≤ 2044) : ∃ r, r < 9218868437227405312 ∧ units r = K * 2 ^ e := by
  by_cases g : K < 9007199254740992
  · exact had e K g (by omega)
  · have : K = 9007199254740992 := by omega
    subst this
    obtain ⟨r, h1, h2⟩ := had (e + 1) 4503599627370496 (by omega) (by omega)
    exact ⟨r, h1, by rw [h2, Nat.pow_succ, Nat.mul_comm (2 ^ e) 2, ← Nat.mul_assoc]⟩

theorem word_sgn (s : Bool) (r : Nat) (hr : r < 9223372036854775808) : sgn (D.word s r) = s ∧ rung (D.word s r) = r := by
  unfold sgn rung Format.word
  rw [D_sign]
  cases s
  · simp; constructor <;> omega
  · simp; constructor <;> omega

theorem word_self (n : Nat) (hn : n < 18446744073709551616) : D.word (sgn n) (rung n) = n := by
  unfold sgn rung Format.word
  rw [D_sign]
  by_cases h : n / 9223372036854775808 % 2 == 1
  · rw [if_pos h]; simp at h; omega
  · rw [if_neg h]; simp at h; omega

/-- the place of a unit: 2^-1074 (kept shut: nobody is to reckon 2^1074 out) -/
@[irreducible] def B74 : Nat := 1074
theorem B74_eq : B74 = 1074 := by unfold B74; rfl

/-- a whole number up to 2^53 as a word -/
theorem nearest_int (neg : Bool) (K : Nat) (hK : K ≤ 9007199254740992) :
    ∃ r, r < 9218868437227405312 ∧ units r = K * 2 ^ B74 ∧ D.nearest neg K 0 = D.word neg r := by
  obtain ⟨r, h1, h2⟩ := had_upto B74 K hK (by rw [B74_eq]; omega)
  refine ⟨r, h1, h2, ?_⟩
  have h3 := nearest_units neg K r B74 0 h1 (by rw [h2, Nat.pow_zero, Nat.mul_one])
  rw [show ((B74 : Nat) : Int) - ((0 : Nat) : Int) - 1074 = 0 by rw [B74_eq]; omega] at h3
  exact h3

end Go.Proofs.YtmbfpichaaanpaaGreatDoor

/- The answers of layer real's functions, as plain functions of words. -/
namespace Go.Proofs.YtmbfpichaaanpaaGreatDoor
open Ieee

def nanC : Nat := 9221120237041090561
/-- a word told as a value -/
def toldS (b : Nat) : Nat := if fnan b then nanC else b
/-- the word of a result that may be none, told -/
def optT : Option Nat → Nat
  | some r => toldS r
  | none => nanC
def negS (n : Nat) : Bool := decide (9223372036854775808 ≤ (n : Int))
def kindS (n : Nat) : Int :=
  if n = 9218868437227405314 then 1 else if fnan n then 0 else if rung n = 9218868437227405312 then 2 else if rung n = 0 then 3 else if rung n < 4503599627370496 then 4 else 5
def orderS (a b : Nat) : Int := if a = b then 0 else if negS a then (if negS b then (if b < a then -1 else 1) else -1) else if negS b then 1 else if a < b then -1 else 1
def holdsS (cmp : Int) (a b : Nat) : Bool :=
  if cmp = 0 then D.order a b == some .eq else if cmp = 1 then D.order a b != some .eq else if cmp = 2 then D.order a b == some .gt
  else if cmp = 3 then D.order a b == some .lt else if cmp = 4 then (D.order a b == some .gt || D.order a b == some .eq)
  else if cmp = 5 then (D.order a b == some .lt || D.order a b == some .eq) else false

theorem sgn_eq (n : Nat) (hn : n < 18446744073709551616) : sgn n = negS n := by
  unfold sgn negS
  rw [Bool.eq_iff_iff]
  simp
  omega

theorem shl_nan (n : Nat) : decide (18437736874454810624 < IntKind.u64.wrap ((n : Int) * 2)) = fnan n := by
  unfold fnan rung
  rw [IntKind.wrap_u64, Bool.eq_iff_iff]
  simp only [decide_eq_true_eq]
  omega

theorem shl_inf (n : Nat) : (IntKind.u64.wrap ((n : Int) * 2) == 18437736874454810624) = decide (rung n = 9218868437227405312) := by
  unfold rung
  rw [IntKind.wrap_u64, Bool.eq_iff_iff]
  simp only [decide_eq_true_eq, beq_iff_eq]
  omega

theorem shl_zero (n : Nat) : (IntKind.u64.wrap ((n : Int) * 2) == 0) = decide (rung n = 0) := by
  unfold rung
  rw [IntKind.wrap_u64, Bool.eq_iff_iff]
  simp only [decide_eq_true_eq, beq_iff_eq]
  omega

theorem shl_tiny (n : Nat) : decide (IntKind.u64.wrap ((n : Int) * 2) < 9007199254740992) = decide (rung n < 4503599627370496) := by
  unfold rung
  rw [IntKind.wrap_u64, Bool.eq_iff_iff]
  simp only [decide_eq_true_eq]
  omega

theorem andNot_sign (n : Nat) (hn : n < 18446744073709551616) : bits .andNot .u64 (n : Int) 9223372036854775808 = ((rung n : Nat) : Int) := by
  have h := u64_andNot_nat n 9223372036854775808 hn (by omega)
  rw [show ((9223372036854775808 : Nat) : Int) = 9223372036854775808 from rfl] at h
  rw [h]
  congr 1
  have := Nat.and_two_pow_sub_one_eq_mod n 63
  exact this

theorem xor_sign (n : Nat) (hn : n < 18446744073709551616) : bits .xor .u64 (n : Int) 9223372036854775808 = ((D.word (!sgn n) (rung n) : Nat) : Int) := by
  have h := u64_xor_nat n 9223372036854775808 hn (by omega)
  rw [show ((9223372036854775808 : Nat) : Int) = 9223372036854775808 from rfl] at h
  rw [h]
  congr 1
  unfold sgn rung Format.word
  rw [D_sign]
  by_cases g : n < 9223372036854775808
  · have h1 : n / 9223372036854775808 % 2 = 0 := by omega
    have h2 : n % 9223372036854775808 = n := by omega
    simp only [h1, h2]
    have := Nat.two_pow_add_eq_or_of_lt (i := 63) (b := n) (by omega) 1
    have h3 : n ^^^ 9223372036854775808 = 9223372036854775808 + n := by
      rw [Nat.xor_comm]
      apply Nat.eq_of_testBit_eq
      intro i
      rw [show 9223372036854775808 + n = 2 ^ 63 * 1 + n from rfl, this]
      rw [show 9223372036854775808 = 2 ^ 63 * 1 from rfl, Nat.testBit_xor, Nat.testBit_or]
      by_cases e : i = 63
      · subst e
        have : n.testBit 63 = false := Nat.testBit_lt_two_pow g
        rw [this]; simp
      · have : (2 ^ 63 * 1).testBit i = false := by rw [Nat.mul_one, Nat.testBit_two_pow]; simp; omega
        rw [this]; simp
    rw [h3]; rfl
  · have h1 : n / 9223372036854775808 % 2 = 1 := by omega
    have h2 : n % 9223372036854775808 = n - 9223372036854775808 := by omega
    simp only [h1, h2]
    obtain ⟨m, rfl⟩ : ∃ m, n = 9223372036854775808 + m := ⟨n - 9223372036854775808, by omega⟩
    have hm : m < 2 ^ 63 := by omega
    have := Nat.two_pow_add_eq_or_of_lt (i := 63) (b := m) hm 1
    have h3 : (9223372036854775808 + m) ^^^ 9223372036854775808 = m := by
      apply Nat.eq_of_testBit_eq
      intro i
      rw [show 9223372036854775808 + m = 2 ^ 63 * 1 + m from rfl, this]
      rw [show 9223372036854775808 = 2 ^ 63 * 1 from rfl, Nat.testBit_xor, Nat.testBit_or]
      by_cases e : i = 63
      · subst e
        have : m.testBit 63 = false := Nat.testBit_lt_two_pow hm
        rw [this]; simp
      · have : (2 ^ 63 * 1).testBit i = false := by rw [Nat.mul_one, Nat.testBit_two_pow]; simp; omega
        rw [this]; simp
    rw [h3]
    simp

theorem cmp_eq_iff (a b : Int) : compare a b = .eq ↔ a = b := by
  rcases Int.lt_trichotomy a b with h | h | h
  · rw [cmp_lt h]; constructor
    · intro e; cases e
    · intro e; omega
  · subst h; simp
  · rw [cmp_gt h]; constructor
    · intro e; cases e
    · intro e; omega
theorem cmp_lt_iff (a b : Int) : compare a b = .lt ↔ a < b := by
  rcases Int.lt_trichotomy a b with h | h | h
  · rw [cmp_lt h]; simp [h]
  · subst h; simp
  · rw [cmp_gt h]; constructor
    · intro e; cases e
    · intro e; omega
theorem cmp_gt_iff (a b : Int) : compare a b = .gt ↔ b < a := by
  rcases Int.lt_trichotomy a b with h | h | h
  · rw [cmp_lt h]; constructor
    · intro e; cases e
    · intro e; omega
  · subst h; simp
  · rw [cmp_gt h]; simp [h]

theorem rung_rung (n : Nat) : rung (rung n) = rung n := by unfold rung; omega
theorem sgn_rung (n : Nat) : sgn (rung n) = false := by unfold sgn rung; simp
theorem fnan_rung (n : Nat) : fnan (rung n) = fnan n := by unfold fnan; rw [rung_rung]

theorem gt_test (n M : Nat) (hM : M < 9218868437227405312) : (D.order (rung n) M == some .gt) = (!fnan n && decide (M < rung n)) := by
  have h1 : rung M = M := by unfold rung; omega
  have h2 : sgn M = false := by unfold sgn; rw [show M / 9223372036854775808 = 0 by omega]; rfl
  have h3 : fnan M = false := by unfold fnan; rw [h1]; simp; omega
  have h4 : skey M = M := by unfold skey; rw [h1, h2]; rfl
  have h5 : skey (rung n) = rung n := by unfold skey; rw [sgn_rung, rung_rung]; rfl
  rw [order_key, fnan_rung, h3, h4, h5]
  cases h : fnan n
  · rw [Bool.eq_iff_iff]
    simp [cmp_gt_iff]
  · simp

/-- 'Abs(f) > MaxFloat64' -/
theorem inf_test (n : Nat) : (D.order (rung n) 9218868437227405311 == some .gt) = decide (rung n = 9218868437227405312) := by
  rw [gt_test n 9218868437227405311 (by omega), Bool.eq_iff_iff]
  unfold fnan
  simp only [Bool.and_eq_true, Bool.not_eq_true', decide_eq_true_eq, decide_eq_false_iff_not]
  omega

theorem zero_test (n : Nat) : (D.order n 0 == some .eq) = decide (rung n = 0) := by
  rw [order_key, show fnan 0 = false by simp [fnan, rung], show skey 0 = 0 by simp [skey, sgn, rung]]
  unfold skey
  cases h : fnan n
  · rw [Bool.eq_iff_iff]
    cases sgn n <;> simp
  · unfold fnan at h
    simp at h
    simp; omega

theorem toldS_lt (b : Nat) (h : b < 18446744073709551616) : toldS b < 18446744073709551616 := by
  unfold toldS nanC; split <;> omega
end Go.Proofs.YtmbfpichaaanpaaGreatDoor

/- The bodiless functions of package math, and arithmetic on floats, as the walk meets them. -/
namespace Go.Proofs.YtmbfpichaaanpaaGreatDoor
open Go.RowKit

@[go_sem] theorem run_frombits (n : Int) (w : World) :
    Sem.run Tryz.prog (callFunc 109 #[Value.int IntKind.u64 n]) w = .ok (.value (.float .f64 n.toNat)) w := by
  rw [run_callFunc_extern Tryz.func109 (by kernel_rfl) (by kernel_rfl) (by kernel_rfl) (e := Extern.MathFloatBits.float64frombits) (by kernel_rfl)]
  rfl

@[go_sem] theorem run_bits (n : Nat) (w : World) :
    Sem.run Tryz.prog (callFunc 112 #[Value.float .f64 n]) w = .ok (.value (.int .u64 n)) w := by
  rw [run_callFunc_extern Tryz.func112 (by kernel_rfl) (by kernel_rfl) (by kernel_rfl) (e := Extern.MathFloatBits.float64bits) (by kernel_rfl)]
  rfl

/-- a NaN that the tape names -/
def nanOf (w : World) (x y : Nat) : Nat := Question.cut (.nanBits .f64 x y) (w.tape w.drawn (.nanBits .f64 x y))

theorem fnan_nanOf (w : World) (x y : Nat) : fnan (nanOf w x y) = true := by
  unfold nanOf Question.cut fnan rung
  generalize w.tape w.drawn (Question.nanBits FloatKind.f64 x y) = t
  simp only [decide_eq_true_eq, Nat.reducePow, Nat.reduceSub]
  have h1 : t % 2 = 0 ∨ t % 2 = 1 := by omega
  generalize t / 2 = q
  generalize t % 2 = r at h1
  rcases h1 with rfl | rfl <;> omega

theorem run_arith (op : BinOp) (hop : op = .add ∨ op = .sub ∨ op = .mul ∨ op = .quo) (t : TypeId) (x y : Nat) (w : World) (h : floatBits op .f64 x y = none) :
    Sem.run Tryz.prog (binOp op t (.float .f64 x) (.float .f64 y)) w = .ok (.float .f64 (nanOf w x y)) w.drew := by
  rcases hop with rfl | rfl | rfl | rfl <;> (simp only [floatBits] at h; simp [binOp, Op.floatArith, h, choose, Sem.run, nanOf, Question.forced])

end Go.Proofs.YtmbfpichaaanpaaGreatDoor

/- Walks of layer real's small functions (and the reference's). -/
namespace Go.Proofs.YtmbfpichaaanpaaGreatDoor
open Go.RowKit

theorem int_ret {k : IntKind} {a b : Int} (h : a = b) : Ending.returned (.int k a) = .returned (.int k b) := by rw [h]
theorem bool_ret {a b : Bool} (h : a = b) : Ending.returned (.bool a) = .returned (.bool b) := by rw [h]
theorem float_ret {k : FloatKind} {a b : Nat} (h : a = b) : Ending.returned (.float k a) = .returned (.float k b) := by rw [h]

set_option maxRecDepth 100000 in
set_option maxHeartbeats 400000 in
theorem num_any (n : Nat) (w : World) :
    Calls Tryz.prog 88 #[.int .u64 n] w fun e w' => e = .returned (.float .f64 n) ∧ w = w' := by
  go_enter Tryz.func88, Tryz.ntmps88
  go_wp2
  go_ret
  exact ⟨rfl, rfl⟩

set_option maxRecDepth 100000 in
set_option maxHeartbeats 400000 in
theorem Num_any (n : Nat) (w : World) :
    Calls Tryz.prog 101 #[.int .u64 n] w fun e w' => e = .returned (.float .f64 n) ∧ w = w' := by
  go_enter Tryz.func101, Tryz.ntmps101
  go_wp2
  go_ret
  exact ⟨rfl, rfl⟩

set_option maxRecDepth 100000 in
set_option maxHeartbeats 400000 in
theorem told_any (b : Nat) (w : World) :
    Calls Tryz.prog 90 #[.float .f64 b] w fun e w' => e = .returned (.int .u64 (toldS b : Nat)) ∧ w = w' := by
  cases hf : fnan b
  · have h1 : toldS b = b := by unfold toldS; rw [hf]; rfl
    have h2 : (D.order b b != some .eq) = false := by rw [order_self, hf]
    rw [h1]
    clear h1 hf
    go_enter Tryz.func90, Tryz.ntmps90
    go_wp2
    go_ret
    exact ⟨rfl, rfl⟩
  · have h1 : toldS b = 9221120237041090561 := by unfold toldS nanC; rw [hf]; rfl
    have h2 : (D.order b b != some .eq) = true := by rw [order_self, hf]
    rw [h1]
    clear h1 hf
    go_enter Tryz.func90, Tryz.ntmps90
    go_wp2
    go_ret
    exact ⟨rfl, rfl⟩

set_option maxRecDepth 100000 in
set_option maxHeartbeats 400000 in
theorem nan_any (n : Nat) (w : World) :
    Calls Tryz.prog 102 #[.int .u64 n] w fun e w' => e = .returned (.bool (fnan n)) ∧ w = w' := by
  rw [← shl_nan]
  go_enter Tryz.func102, Tryz.ntmps102
  go_wp2
  go_ret
  exact ⟨rfl, rfl⟩





set_option maxRecDepth 100000 in
set_option maxHeartbeats 400000 in
theorem abs_any (n : Nat) (hn : n < 18446744073709551616) (w : World) :
    Calls Tryz.prog 133 #[.float .f64 n] w fun e w' => e = .returned (.float .f64 (rung n)) ∧ w = w' := by
  have h := andNot_sign n hn
  go_enter Tryz.func133, Tryz.ntmps133
  go_wp2
  go_ret
  exact ⟨rfl, rfl⟩

set_option maxRecDepth 100000 in
set_option maxHeartbeats 400000 in
theorem isInf_any (n : Nat) (hn : n < 18446744073709551616) (w : World) :
    Calls Tryz.prog 143 #[.float .f64 n, .int .i64 0] w fun e w' => e = .returned (.bool (decide (rung n = 9218868437227405312))) ∧ w = w' := by
  rw [← inf_test]
  go_enter Tryz.func143, Tryz.ntmps143
  go_wp2_with (go_at_call 133; refine (abs_any _ hn _).mono ?_; rintro e w' ⟨rfl, rfl⟩)
  go_ret
  exact ⟨rfl, rfl⟩

set_option maxRecDepth 100000 in
set_option maxHeartbeats 400000 in
theorem isNaN_any (n : Nat) (w : World) :
    Calls Tryz.prog 142 #[.float .f64 n] w fun e w' => e = .returned (.bool (fnan n)) ∧ w = w' := by
  rw [← order_self]
  go_enter Tryz.func142, Tryz.ntmps142
  go_wp2
  go_ret
  exact ⟨rfl, rfl⟩



theorem neg_div (n : Nat) (hn : n < 18446744073709551616) : ((n : Int) / 9223372036854775808 == 1) = negS n := by
  unfold negS
  rw [Bool.eq_iff_iff]
  simp only [beq_iff_eq, decide_eq_true_eq]
  omega



def keyS (n : Nat) : Int := if negS n then 9223372036854775807 - (n : Int) % 9223372036854775808 else 9223372036854775808 + n


end Go.Proofs.YtmbfpichaaanpaaGreatDoor

/- Order, Holds: both texts. -/
namespace Go.Proofs.YtmbfpichaaanpaaGreatDoor
open Go.RowKit

theorem cast_beq {a b : Nat} {c : Bool} (h : ((a : Int) == (b : Int)) = c) : (a == b) = c := by
  rw [← h, Bool.eq_iff_iff]; simp only [beq_iff_eq]; omega



theorem order_lt {a b : Nat} (ha : a < 18446744073709551616) (hb : b < 18446744073709551616) (h : keyS a < keyS b) : orderS a b = -1 := by
  unfold keyS negS at h
  unfold orderS negS
  simp only [decide_eq_true_eq] at *
  split at h <;> split at h <;> simp_all <;> omega
theorem order_gt {a b : Nat} (ha : a < 18446744073709551616) (hb : b < 18446744073709551616) (h : keyS b < keyS a) : orderS a b = 1 := by
  unfold keyS negS at h
  unfold orderS negS
  simp only [decide_eq_true_eq] at *
  split at h <;> split at h <;> simp_all <;> omega
theorem order_eq {a b : Nat} (ha : a < 18446744073709551616) (hb : b < 18446744073709551616) (h : keyS b ≤ keyS a) (h' : keyS a ≤ keyS b) : orderS a b = 0 := by
  have : a = b := by
    unfold keyS negS at h h'
    simp only [decide_eq_true_eq] at *
    split at h <;> split at h <;> simp_all <;> omega
  unfold orderS; rw [if_pos this]






end Go.Proofs.YtmbfpichaaanpaaGreatDoor
