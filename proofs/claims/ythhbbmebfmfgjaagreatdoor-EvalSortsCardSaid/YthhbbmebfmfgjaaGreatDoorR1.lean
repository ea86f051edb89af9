import GoSem.Core.Float
import Derived.WalkKit
import Derived.Test.YthhbbmebfmfgjaaGreatDoorRows
import Derived.WalkSpells
import Derived.WalkLawsBesides
import Derived.Outline
import Derived.Deep.QuietTactic
import Derived.BigQuiet
import Derived.Lib.Hide
/- Plain facts on the bits of a float64 (no program in sight): what a word reads as, in units of 2^-1074. -/
namespace Go.Proofs.YthhbbmebfmfgjaaGreatDoor
open Ieee

abbrev D : Ieee.Format := FloatKind.f64.format


theorem D_binade : D.binade = 4503599627370496 := by decide
theorem D_inf : D.infRung = 9218868437227405312 := by decide
theorem D_sign : D.signWeight = 9223372036854775808 := by decide
theorem D_least : D.leastPlace = -1074 := by decide
theorem D_frac : D.fractionBits = 52 := by decide

/-- the sign of a word -/
def sgn (n : Nat) : Bool := n / 9223372036854775808 % 2 == 1
/-- its rung -/
def rung (n : Nat) : Nat := n % 9223372036854775808
def mant (r : Nat) : Nat := if r < 4503599627370496 then r else 4503599627370496 + r % 4503599627370496
def lift (r : Nat) : Nat := if r < 4503599627370496 then 0 else r / 4503599627370496 - 1
/-- how many units of 2^-1074 a rung is -/
def units (r : Nat) : Nat := mant r * 2 ^ lift r

theorem read_word (n : Nat) : D.read n =
    if rung n < 9218868437227405312 then .number (sgn n) (mant (rung n)) (-1074 + (lift (rung n) : Int))
    else if rung n = 9218868437227405312 then .infinity (sgn n) else .nan (sgn n) (rung n - 9218868437227405312) := by
  unfold Format.read
  simp only [D_sign, D_binade, D_inf, D_least]
  unfold sgn rung mant lift
  by_cases h1 : n % 9223372036854775808 < 4503599627370496
  · have : n % 9223372036854775808 < 9218868437227405312 := by omega
    simp [h1, this]
  · by_cases h2 : n % 9223372036854775808 < 9218868437227405312
    · simp [h1, h2]
    · simp [h1, h2]

theorem rung_lt (n : Nat) : rung n < 9223372036854775808 := Nat.mod_lt _ (by omega)

theorem units_succ (r : Nat) : units r < units (r + 1) := by
  unfold units mant lift
  by_cases h1 : r + 1 < 4503599627370496
  · simp [h1, show r < 4503599627370496 by omega]
  · by_cases h2 : r < 4503599627370496
    · have : r + 1 = 4503599627370496 := by omega
      have h3 : (r + 1) % 4503599627370496 = 0 := by omega
      have h4 : (r + 1) / 4503599627370496 = 1 := by omega
      simp only [h2, h1, if_true, if_false, h3, h4]
      omega
    · simp only [h1, h2, if_false]
      have hq : 1 ≤ r / 4503599627370496 := by omega
      by_cases h3 : (r + 1) % 4503599627370496 = 0
      · have h4 : (r + 1) / 4503599627370496 = r / 4503599627370496 + 1 := by omega
        have h5 : r % 4503599627370496 = 4503599627370496 - 1 := by omega
        rw [h3, h4, h5]
        obtain ⟨q, hq⟩ : ∃ q, r / 4503599627370496 = q + 1 := ⟨r / 4503599627370496 - 1, by omega⟩
        rw [hq, show q + 1 + 1 - 1 = q + 1 from rfl, show q + 1 - 1 = q from rfl, Nat.pow_succ]
        have : 0 < 2 ^ q := Nat.two_pow_pos q
        generalize 2 ^ q = p at *
        omega
      · have h4 : (r + 1) / 4503599627370496 = r / 4503599627370496 := by omega
        have h5 : (r + 1) % 4503599627370496 = r % 4503599627370496 + 1 := by omega
        rw [h4, h5]
        have : 0 < 2 ^ (r / 4503599627370496 - 1) := Nat.two_pow_pos _
        exact Nat.mul_lt_mul_of_pos_right (by omega) this

theorem units_lt {a b : Nat} (h : a < b) : units a < units b := by
  induction b with
  | zero => omega
  | succ b ih =>
    by_cases e : a = b
    · subst e; exact units_succ a
    · exact Nat.lt_trans (ih (by omega)) (units_succ b)

theorem units_le {a b : Nat} (h : a ≤ b) : units a ≤ units b := by
  by_cases e : a = b
  · subst e; exact Nat.le_refl _
  · exact Nat.le_of_lt (units_lt (by omega))

theorem units_lt_iff {a b : Nat} : units a < units b ↔ a < b :=
  ⟨fun h => by
    by_cases e : a < b
    · exact e
    · exact absurd (units_le (Nat.le_of_not_lt e)) (by omega), units_lt⟩

theorem units_inj {a b : Nat} (h : units a = units b) : a = b := by
  by_cases h1 : a < b
  · have := units_lt h1; omega
  · by_cases h2 : b < a
    · have := units_lt h2; omega
    · omega

theorem units_zero : units 0 = 0 := by decide

/-- a word's signed place on the line of rungs -/
def skey (n : Nat) : Int := if sgn n then -(rung n : Int) else rung n
/-- a word's signed number of units -/
def sval (n : Nat) : Int := if sgn n then -(units (rung n) : Int) else units (rung n)

theorem signed_mul (s : Bool) (m a k : Nat) : signed s m (a + k) = signed s m a * (2 : Int) ^ k := by
  unfold signed
  cases s <;> simp [Nat.shiftLeft_eq, Nat.pow_add, Int.mul_assoc, Int.natCast_mul, Int.natCast_pow, Int.neg_mul]

theorem signed_units (s : Bool) (r : Nat) : signed s (mant r) (lift r) = if s then -(units r : Int) else units r := by
  unfold signed units
  cases s <;> simp [Nat.shiftLeft_eq]

theorem compare_mul (a b : Int) (k : Nat) : compare (a * 2 ^ k) (b * 2 ^ k) = compare a b := by
  have hp : (0 : Int) < 2 ^ k := Int.pow_pos (by decide)
  rcases Int.lt_trichotomy a b with h | h | h
  · have : a * 2 ^ k < b * 2 ^ k := Int.mul_lt_mul_of_pos_right h hp
    simp [compare, compareOfLessAndEq, h, this]
  · subst h; simp [compare, compareOfLessAndEq]
  · have h2 : b * 2 ^ k < a * 2 ^ k := Int.mul_lt_mul_of_pos_right h hp
    simp [compare, compareOfLessAndEq, show ¬ a < b by omega, show ¬ a = b by omega, show ¬ a * 2 ^ k < b * 2 ^ k by omega, show ¬ a * 2 ^ k = b * 2 ^ k by omega]

theorem order_numbers (s t : Bool) (m n a b : Nat) :
    Datum.order (.number s m (-1074 + (a : Int))) (.number t n (-1074 + (b : Int))) = some (compare (signed s m a) (signed t n b)) := by
  unfold Datum.order
  dsimp only
  rcases Nat.le_total a b with h | h
  · have h1 : min (-1074 + (a : Int)) (-1074 + (b : Int)) = -1074 + (a : Int) := by omega
    rw [h1]
    have h2 : (-1074 + (a : Int) - (-1074 + (a : Int))).toNat = 0 := by omega
    have h3 : (-1074 + (b : Int) - (-1074 + (a : Int))).toNat = b - a := by omega
    rw [h2, h3]
    have e1 := signed_mul s m 0 a
    have e2 := signed_mul t n (b - a) a
    rw [Nat.zero_add] at e1
    rw [Nat.sub_add_cancel h] at e2
    rw [e1, e2, compare_mul]
  · have h1 : min (-1074 + (a : Int)) (-1074 + (b : Int)) = -1074 + (b : Int) := by omega
    rw [h1]
    have h2 : (-1074 + (b : Int) - (-1074 + (b : Int))).toNat = 0 := by omega
    have h3 : (-1074 + (a : Int) - (-1074 + (b : Int))).toNat = a - b := by omega
    rw [h2, h3]
    have e1 := signed_mul t n 0 b
    have e2 := signed_mul s m (a - b) b
    rw [Nat.zero_add] at e1
    rw [Nat.sub_add_cancel h] at e2
    rw [e1, e2, compare_mul]

def fnan (n : Nat) : Bool := decide (9218868437227405312 < rung n)

theorem compare_eq {a b c d : Int} (h1 : a < b ↔ c < d) (h2 : a = b ↔ c = d) : compare a b = compare c d := by
  simp only [compare, compareOfLessAndEq]
  by_cases x : a < b
  · rw [if_pos x, if_pos (h1.1 x)]
  · rw [if_neg x, if_neg (fun y => x (h1.2 y))]
    by_cases z : a = b
    · rw [if_pos z, if_pos (h2.1 z)]
    · rw [if_neg z, if_neg (fun y => z (h2.2 y))]

theorem rung_sval_lt (x y : Nat) : sval x < sval y ↔ skey x < skey y := by
  unfold sval skey
  have hz := units_zero
  have l1 := @units_lt_iff (rung x) (rung y)
  have l2 := @units_lt_iff (rung y) (rung x)
  have p1 := @units_lt_iff 0 (rung x)
  have p2 := @units_lt_iff 0 (rung y)
  rw [hz] at p1 p2
  cases sgn x <;> cases sgn y <;> simp <;> omega

theorem rung_sval_eq (x y : Nat) : sval x = sval y ↔ skey x = skey y := by
  have h1 := rung_sval_lt x y
  have h2 := rung_sval_lt y x
  omega

theorem cmp_lt {a b : Int} (h : a < b) : compare a b = .lt := by simp [compare, compareOfLessAndEq, h]
theorem cmp_gt {a b : Int} (h : b < a) : compare a b = .gt := by
  simp only [compare, compareOfLessAndEq]
  rw [if_neg (by omega), if_neg (by omega)]

/-- HOW TWO WORDS STAND: none where one is a NaN; else as their places stand. -/
theorem order_key (x y : Nat) : D.order x y = if fnan x || fnan y then none else some (compare (skey x) (skey y)) := by
  unfold Format.order
  rw [read_word, read_word]
  have lx := rung_lt x
  have ly := rung_lt y
  unfold fnan
  by_cases hx : rung x < 9218868437227405312
  · rw [if_pos hx]
    by_cases hy : rung y < 9218868437227405312
    · rw [if_pos hy, order_numbers, signed_units, signed_units]
      have e : (decide (9218868437227405312 < rung x) || decide (9218868437227405312 < rung y)) = false := by simp; omega
      rw [e]
      exact congrArg some (compare_eq (rung_sval_lt x y) (rung_sval_eq x y))
    · rw [if_neg hy]
      by_cases hy2 : rung y = 9218868437227405312
      · rw [if_pos hy2]
        simp only [Datum.order]
        unfold skey
        rw [hy2]
        have e : (decide (9218868437227405312 < rung x) || decide (9218868437227405312 < 9218868437227405312)) = false := by simp; omega
        rw [e]
        cases sgn x <;> cases sgn y <;> (simp only [if_true, if_false, Bool.false_eq_true, Option.some.injEq]; first | exact (cmp_lt (by omega)).symm | exact (cmp_gt (by omega)).symm)
      · rw [if_neg hy2, if_pos (by simp; omega)]
        rfl
  · rw [if_neg hx]
    by_cases hx2 : rung x = 9218868437227405312
    · rw [if_pos hx2]
      by_cases hy : rung y < 9218868437227405312
      · rw [if_pos hy]
        simp only [Datum.order]
        unfold skey
        rw [hx2]
        have e : (decide (9218868437227405312 < 9218868437227405312) || decide (9218868437227405312 < rung y)) = false := by simp; omega
        rw [e]
        cases sgn x <;> cases sgn y <;> (simp only [if_true, if_false, Bool.false_eq_true, Option.some.injEq]; first | exact (cmp_lt (by omega)).symm | exact (cmp_gt (by omega)).symm)
      · rw [if_neg hy]
        by_cases hy2 : rung y = 9218868437227405312
        · rw [if_pos hy2, if_neg (by simp; omega)]
          simp only [Datum.order, Option.some.injEq]
          unfold skey
          rw [hx2, hy2]
          cases sgn x <;> cases sgn y <;> simp [compare, compareOfLessAndEq]
        · rw [if_neg hy2, if_pos (by simp; omega)]
          rfl
    · have e : decide (9218868437227405312 < rung x) = true := by simp; omega
      rw [if_neg hx2, e]
      simp [Datum.order]

theorem order_self (x : Nat) : (D.order x x != some .eq) = fnan x := by
  rw [order_key]
  cases h : fnan x <;> simp

end Go.Proofs.YthhbbmebfmfgjaaGreatDoor

/- Plain facts on rounding: a number that the format has is written as its own word; whole numbers up to 2^53 are had. -/
namespace Go.Proofs.YthhbbmebfmfgjaaGreatDoor
open Ieee

theorem cut_zero (way : Toward) (neg : Bool) (n : Nat) : way.cut neg n 0 = n := by
  unfold Toward.cut
  have h : min 0 (n.log2 + 2) = 0 := by omega
  simp only [h, Nat.shiftLeft_zero, Nat.div_one, Nat.mod_one]
  cases way <;> simp

theorem log2_ge {n k : Nat} (h : 2 ^ k ≤ n) (hn : n ≠ 0) : k ≤ n.log2 := (Nat.le_log2 hn).2 h

/-- nothing is dropped where the number is a multiple of the gap -/
theorem cut_exact (way : Toward) (neg : Bool) (K d : Nat) (hK : K ≠ 0) : way.cut neg (K * 2 ^ d) d = K := by
  have hp : 0 < 2 ^ d := Nat.two_pow_pos d
  have h1 : 2 ^ d ≤ K * 2 ^ d := Nat.le_mul_of_pos_left _ (by omega)
  have h2 : d ≤ (K * 2 ^ d).log2 := log2_ge h1 (by have := Nat.mul_pos (Nat.pos_of_ne_zero hK) hp; omega)
  unfold Toward.cut
  have h : min d ((K * 2 ^ d).log2 + 2) = d := by omega
  simp only [h, Nat.shiftLeft_eq, Nat.one_mul, Nat.mul_div_cancel _ hp, Nat.mul_mod_left]
  cases way <;> simp

theorem cut_shift (way : Toward) (neg : Bool) (m K a b : Nat) (hK : K ≠ 0) (h : m * 2 ^ a = K * 2 ^ b) :
    way.cut neg (m <<< (a - b)) (b - a) = K := by
  rw [Nat.shiftLeft_eq]
  rcases Nat.le_total a b with g | g
  · have h1 : a - b = 0 := by omega
    rw [h1, Nat.pow_zero, Nat.mul_one]
    have h2 : m = K * 2 ^ (b - a) := by
      have e : K * 2 ^ b = K * 2 ^ (b - a) * 2 ^ a := by rw [Nat.mul_assoc, ← Nat.pow_add, Nat.sub_add_cancel g]
      rw [e] at h
      exact Nat.eq_of_mul_eq_mul_right (Nat.two_pow_pos a) h
    rw [h2, cut_exact _ _ _ _ hK]
  · have h1 : b - a = 0 := by omega
    rw [h1, cut_zero]
    have e : m * 2 ^ a = m * 2 ^ (a - b) * 2 ^ b := by rw [Nat.mul_assoc, ← Nat.pow_add, Nat.sub_add_cancel g]
    rw [e] at h
    exact Nat.eq_of_mul_eq_mul_right (Nat.two_pow_pos b) h

theorem log2_mul_pow (m k : Nat) (hm : m ≠ 0) : (m * 2 ^ k).log2 = m.log2 + k := by
  have hp : 0 < 2 ^ k := Nat.two_pow_pos k
  have hn : m * 2 ^ k ≠ 0 := by have := Nat.mul_pos (Nat.pos_of_ne_zero hm) hp; omega
  apply (Nat.log2_eq_iff hn).2
  have h1 := Nat.log2_self_le hm
  have h2 := Nat.lt_log2_self (n := m)
  rw [Nat.pow_add, show m.log2 + k + 1 = (m.log2 + 1) + k by omega, Nat.pow_add (m := m.log2 + 1)]
  exact ⟨Nat.mul_le_mul_right _ h1, Nat.mul_lt_mul_of_pos_right h2 hp⟩

theorem mant_ne {r : Nat} (h : r ≠ 0) : mant r ≠ 0 := by unfold mant; split <;> omega
theorem log2_mant_big {r : Nat} (h : 4503599627370496 ≤ r) : (mant r).log2 = 52 := by
  have : mant r = 4503599627370496 + r % 4503599627370496 := by unfold mant; rw [if_neg (by omega)]
  rw [this]
  apply (Nat.log2_eq_iff (by omega)).2
  constructor <;> omega

theorem log2_small {r : Nat} (h : r < 4503599627370496) : r.log2 < 52 := by
  by_cases e : r = 0
  · subst e; decide
  · exact (Nat.log2_lt e).2 (by omega)

theorem lift_mant (r : Nat) : lift r * 4503599627370496 + mant r = r := by
  unfold lift mant
  split <;> omega

/-- THE WORD OF A NUMBER THAT THE FORMAT HAS: 'm * 2^(a - b - 1074)' being just as many units as the rung r. -/
theorem nearest_exact (neg : Bool) (m r a b : Nat) (hr : r < 9218868437227405312) (h0 : r ≠ 0) (h : m * 2 ^ a = units r * 2 ^ b) :
    D.nearest neg m ((a : Int) - b - 1074) = D.word neg r := by
  have hu : units r ≠ 0 := by have := @units_lt 0 r (by omega); rw [units_zero] at this; omega
  have hm : m ≠ 0 := by
    intro e; subst e
    have := Nat.mul_pos (Nat.pos_of_ne_zero hu) (Nat.two_pow_pos b)
    omega
  have hl : m.log2 + a = (mant r).log2 + lift r + b := by
    have e := congrArg Nat.log2 h
    rw [log2_mul_pow _ _ hm, log2_mul_pow _ _ hu] at e
    unfold units at e
    rw [log2_mul_pow _ _ (mant_ne h0)] at e
    exact e
  unfold Format.nearest
  rw [if_neg hm]
  simp only [D_least, D_frac, D_binade, D_inf]
  have hlast : max (((a : Int) - b - 1074) + m.log2 - (52 : Nat)) (-1074) = (lift r : Int) - 1074 := by
    by_cases g : r < 4503599627370496
    · have e1 : mant r = r := by unfold mant; rw [if_pos g]
      have e2 : lift r = 0 := by unfold lift; rw [if_pos g]
      rw [e1, e2] at hl
      have := log2_small g
      rw [e2]; omega
    · rw [log2_mant_big (by omega)] at hl
      omega
  rw [hlast]
  have e1 : (((a : Int) - b - 1074) - ((lift r : Int) - 1074)).toNat = a - (b + lift r) := by omega
  have e2 : (((lift r : Int) - 1074) - ((a : Int) - b - 1074)).toNat = (b + lift r) - a := by omega
  have e3 : (((lift r : Int) - 1074) - (-1074)).toNat = lift r := by omega
  rw [e1, e2, e3, cut_shift .even neg m (mant r) a (b + lift r) (mant_ne h0) (by rw [h]; unfold units; rw [Nat.mul_assoc, ← Nat.pow_add, Nat.add_comm])]
  rw [lift_mant]
  exact congrArg (D.word neg) (Nat.min_eq_left (Nat.le_of_lt hr))

theorem nearest_zero (neg : Bool) (place : Int) : D.nearest neg 0 place = D.word neg 0 := by
  unfold Format.nearest; rw [if_pos rfl]

/-- The same, a zero too. -/
theorem nearest_units (neg : Bool) (m r a b : Nat) (hr : r < 9218868437227405312) (h : m * 2 ^ a = units r * 2 ^ b) :
    D.nearest neg m ((a : Int) - b - 1074) = D.word neg r := by
  by_cases h0 : r = 0
  · subst h0
    rw [units_zero, Nat.zero_mul] at h
    have : m = 0 := by
      rcases Nat.mul_eq_zero.1 h with e | e
      · exact e
      · have := Nat.two_pow_pos a; omega
    subst this
    exact nearest_zero _ _
  · exact nearest_exact neg m r a b hr h0 h

/-- every whole multiple, below 2^53, of a power of two is had -/
theorem had : ∀ (e K : Nat), K < 9007199254740992 → e ≤ 2045 → ∃ r, r < 9218868437227405312 ∧ units r = K * 2 ^ e := by
  intro e
  induction e with
  | zero =>
    intro K hK _
    refine ⟨K, by omega, ?_⟩
    unfold units mant lift
    by_cases g : K < 4503599627370496
    · simp [g]
    · rw [if_neg g, if_neg g]
      have h1 : K / 4503599627370496 = 1 := by omega
      rw [h1]; simp; omega
  | succ e ih =>
    intro K hK he
    by_cases g : K < 4503599627370496
    · obtain ⟨r, h1, h2⟩ := ih (K * 2) (by omega) (by omega)
      exact ⟨r, h1, by rw [h2, Nat.pow_succ, Nat.mul_assoc, Nat.mul_comm 2]⟩
    · refine ⟨(e + 2) * 4503599627370496 + (K - 4503599627370496), by omega, ?_⟩
      unfold units mant lift
      have h1 : ((e + 2) * 4503599627370496 + (K - 4503599627370496)) / 4503599627370496 = e + 2 := by omega
      have h2 : ((e + 2) * 4503599627370496 + (K - 4503599627370496)) % 4503599627370496 = K - 4503599627370496 := by omega
      rw [if_neg (by omega), if_neg (by omega), h1, h2]
      rw [show 4503599627370496 + (K - 4503599627370496) = K by omega, show e + 2 - 1 = e + 1 by omega]

theorem word_sgn (s : Bool) (r : Nat) (hr : r < 9223372036854775808) : sgn (D.word s r) = s ∧ rung (D.word s r) = r := by
  unfold sgn rung Format.word
  rw [D_sign]
  cases s
  · simp; constructor <;> omega
  · simp; constructor <;> omega

theorem word_self (n : Nat) (hn : n < 18446744073709551616) : D.word (sgn n) (rung n) = n := by
  unfold sgn rung Format.word
  rw [D_sign]
  by_cases h : n / 9223372036854775808 % 2 == 1
  · rw [if_pos h]; simp at h; omega
  · rw [if_neg h]; simp at h; omega

/-- the place of a unit: 2^-1074 (kept shut: nobody is to reckon 2^1074 out) -/
@[irreducible] def B74 : Nat := 1074
theorem B74_eq : B74 = 1074 := by unfold B74; rfl

end Go.Proofs.YthhbbmebfmfgjaaGreatDoor

/- The answers of layer real's functions, as plain functions of words. -/
namespace Go.Proofs.YthhbbmebfmfgjaaGreatDoor
open Ieee

def nanC : Nat := 9221120237041090561
/-- a word told as a value -/
def toldS (b : Nat) : Nat := if fnan b then nanC else b
/-- the word of a result that may be none, told -/
def optT : Option Nat → Nat
  | some r => toldS r
  | none => nanC
def negS (n : Nat) : Bool := decide (9223372036854775808 ≤ (n : Int))
def orderS (a b : Nat) : Int := if a = b then 0 else if negS a then (if negS b then (if b < a then -1 else 1) else -1) else if negS b then 1 else if a < b then -1 else 1
def holdsS (cmp : Int) (a b : Nat) : Bool :=
  if cmp = 0 then D.order a b == some .eq else if cmp = 1 then D.order a b != some .eq else if cmp = 2 then D.order a b == some .gt
  else if cmp = 3 then D.order a b == some .lt else if cmp = 4 then (D.order a b == some .gt || D.order a b == some .eq)
  else if cmp = 5 then (D.order a b == some .lt || D.order a b == some .eq) else false

theorem andNot_sign (n : Nat) (hn : n < 18446744073709551616) : bits .andNot .u64 (n : Int) 9223372036854775808 = ((rung n : Nat) : Int) := by
  have h := u64_andNot_nat n 9223372036854775808 hn (by omega)
  rw [show ((9223372036854775808 : Nat) : Int) = 9223372036854775808 from rfl] at h
  rw [h]
  congr 1
  have := Nat.and_two_pow_sub_one_eq_mod n 63
  exact this

theorem xor_sign (n : Nat) (hn : n < 18446744073709551616) : bits .xor .u64 (n : Int) 9223372036854775808 = ((D.word (!sgn n) (rung n) : Nat) : Int) := by
  have h := u64_xor_nat n 9223372036854775808 hn (by omega)
  rw [show ((9223372036854775808 : Nat) : Int) = 9223372036854775808 from rfl] at h
  rw [h]
  congr 1
  unfold sgn rung Format.word
  rw [D_sign]
  by_cases g : n < 9223372036854775808
  · have h1 : n / 9223372036854775808 % 2 = 0 := by omega
    have h2 : n % 9223372036854775808 = n := by omega
    simp only [h1, h2]
    have := Nat.two_pow_add_eq_or_of_lt (i := 63) (b := n) (by omega) 1
    have h3 : n ^^^ 9223372036854775808 = 9223372036854775808 + n := by
      rw [Nat.xor_comm]
      apply Nat.eq_of_testBit_eq
      intro i
      rw [show 9223372036854775808 + n = 2 ^ 63 * 1 + n from rfl, this]
      rw [show 9223372036854775808 = 2 ^ 63 * 1 from rfl, Nat.testBit_xor, Nat.testBit_or]
      by_cases e : i = 63
      · subst e
        have : n.testBit 63 = false := Nat.testBit_lt_two_pow g
        rw [this]; simp
      · have : (2 ^ 63 * 1).testBit i = false := by rw [Nat.mul_one, Nat.testBit_two_pow]; simp; omega
        rw [this]; simp
    rw [h3]; rfl
  · have h1 : n / 9223372036854775808 % 2 = 1 := by omega
    have h2 : n % 9223372036854775808 = n - 9223372036854775808 := by omega
    simp only [h1, h2]
    obtain ⟨m, rfl⟩ : ∃ m, n = 9223372036854775808 + m := ⟨n - 9223372036854775808, by omega⟩
    have hm : m < 2 ^ 63 := by omega
    have := Nat.two_pow_add_eq_or_of_lt (i := 63) (b := m) hm 1
    have h3 : (9223372036854775808 + m) ^^^ 9223372036854775808 = m := by
      apply Nat.eq_of_testBit_eq
      intro i
      rw [show 9223372036854775808 + m = 2 ^ 63 * 1 + m from rfl, this]
      rw [show 9223372036854775808 = 2 ^ 63 * 1 from rfl, Nat.testBit_xor, Nat.testBit_or]
      by_cases e : i = 63
      · subst e
        have : m.testBit 63 = false := Nat.testBit_lt_two_pow hm
        rw [this]; simp
      · have : (2 ^ 63 * 1).testBit i = false := by rw [Nat.mul_one, Nat.testBit_two_pow]; simp; omega
        rw [this]; simp
    rw [h3]
    simp

theorem cmp_lt_iff (a b : Int) : compare a b = .lt ↔ a < b := by
  rcases Int.lt_trichotomy a b with h | h | h
  · rw [cmp_lt h]; simp [h]
  · subst h; simp
  · rw [cmp_gt h]; constructor
    · intro e; cases e
    · intro e; omega
theorem cmp_gt_iff (a b : Int) : compare a b = .gt ↔ b < a := by
  rcases Int.lt_trichotomy a b with h | h | h
  · rw [cmp_lt h]; constructor
    · intro e; cases e
    · intro e; omega
  · subst h; simp
  · rw [cmp_gt h]; simp [h]

theorem rung_rung (n : Nat) : rung (rung n) = rung n := by unfold rung; omega
theorem sgn_rung (n : Nat) : sgn (rung n) = false := by unfold sgn rung; simp
theorem fnan_rung (n : Nat) : fnan (rung n) = fnan n := by unfold fnan; rw [rung_rung]

theorem gt_test (n M : Nat) (hM : M < 9218868437227405312) : (D.order (rung n) M == some .gt) = (!fnan n && decide (M < rung n)) := by
  have h1 : rung M = M := by unfold rung; omega
  have h2 : sgn M = false := by unfold sgn; rw [show M / 9223372036854775808 = 0 by omega]; rfl
  have h3 : fnan M = false := by unfold fnan; rw [h1]; simp; omega
  have h4 : skey M = M := by unfold skey; rw [h1, h2]; rfl
  have h5 : skey (rung n) = rung n := by unfold skey; rw [sgn_rung, rung_rung]; rfl
  rw [order_key, fnan_rung, h3, h4, h5]
  cases h : fnan n
  · rw [Bool.eq_iff_iff]
    simp [cmp_gt_iff]
  · simp

/-- 'Abs(f) > MaxFloat64' -/
theorem inf_test (n : Nat) : (D.order (rung n) 9218868437227405311 == some .gt) = decide (rung n = 9218868437227405312) := by
  rw [gt_test n 9218868437227405311 (by omega), Bool.eq_iff_iff]
  unfold fnan
  simp only [Bool.and_eq_true, Bool.not_eq_true', decide_eq_true_eq, decide_eq_false_iff_not]
  omega

theorem zero_test (n : Nat) : (D.order n 0 == some .eq) = decide (rung n = 0) := by
  rw [order_key, show fnan 0 = false by simp [fnan, rung], show skey 0 = 0 by simp [skey, sgn, rung]]
  unfold skey
  cases h : fnan n
  · rw [Bool.eq_iff_iff]
    cases sgn n <;> simp
  · unfold fnan at h
    simp at h
    simp; omega

end Go.Proofs.YthhbbmebfmfgjaaGreatDoor

/- The bodiless functions of package math, and arithmetic on floats, as the walk meets them. -/
namespace Go.Proofs.YthhbbmebfmfgjaaGreatDoor
open Go.RowKit

@[go_sem] theorem run_frombits (n : Int) (w : World) :
    Sem.run Tryz.prog (callFunc 105 #[Value.int IntKind.u64 n]) w = .ok (.value (.float .f64 n.toNat)) w := by
  rw [run_callFunc_extern Tryz.func105 (by kernel_rfl) (by kernel_rfl) (by kernel_rfl) (e := Extern.MathFloatBits.float64frombits) (by kernel_rfl)]
  rfl

@[go_sem] theorem run_bits (n : Nat) (w : World) :
    Sem.run Tryz.prog (callFunc 101 #[Value.float .f64 n]) w = .ok (.value (.int .u64 n)) w := by
  rw [run_callFunc_extern Tryz.func101 (by kernel_rfl) (by kernel_rfl) (by kernel_rfl) (e := Extern.MathFloatBits.float64bits) (by kernel_rfl)]
  rfl

/-- a NaN that the tape names -/
def nanOf (w : World) (x y : Nat) : Nat := Question.cut (.nanBits .f64 x y) (w.tape w.drawn (.nanBits .f64 x y))

theorem fnan_nanOf (w : World) (x y : Nat) : fnan (nanOf w x y) = true := by
  unfold nanOf Question.cut fnan rung
  generalize w.tape w.drawn (Question.nanBits FloatKind.f64 x y) = t
  simp only [decide_eq_true_eq, Nat.reducePow, Nat.reduceSub]
  have h1 : t % 2 = 0 ∨ t % 2 = 1 := by omega
  generalize t / 2 = q
  generalize t % 2 = r at h1
  rcases h1 with rfl | rfl <;> omega

theorem run_arith (op : BinOp) (hop : op = .add ∨ op = .sub ∨ op = .mul ∨ op = .quo) (t : TypeId) (x y : Nat) (w : World) (h : floatBits op .f64 x y = none) :
    Sem.run Tryz.prog (binOp op t (.float .f64 x) (.float .f64 y)) w = .ok (.float .f64 (nanOf w x y)) w.drew := by
  rcases hop with rfl | rfl | rfl | rfl <;> (simp only [floatBits] at h; simp [binOp, Op.floatArith, h, choose, Sem.run, nanOf, Question.forced])

end Go.Proofs.YthhbbmebfmfgjaaGreatDoor

/- Walks of layer real's small functions (and the reference's). -/
namespace Go.Proofs.YthhbbmebfmfgjaaGreatDoor
open Go.RowKit

theorem int_ret {k : IntKind} {a b : Int} (h : a = b) : Ending.returned (.int k a) = .returned (.int k b) := by rw [h]
theorem bool_ret {a b : Bool} (h : a = b) : Ending.returned (.bool a) = .returned (.bool b) := by rw [h]
set_option maxHeartbeats 400000 in
theorem num_any (n : Nat) (w : World) :
    Calls Tryz.prog 96 #[.int .u64 n] w fun e w' => e = .returned (.float .f64 n) ∧ w = w' := by
  go_enter Tryz.func96, Tryz.ntmps96
  go_wp2
  go_ret
  exact ⟨rfl, rfl⟩

set_option maxHeartbeats 400000 in
theorem told_any (b : Nat) (w : World) :
    Calls Tryz.prog 99 #[.float .f64 b] w fun e w' => e = .returned (.int .u64 (toldS b : Nat)) ∧ w = w' := by
  cases hf : fnan b
  · have h1 : toldS b = b := by unfold toldS; rw [hf]; rfl
    have h2 : (D.order b b != some .eq) = false := by rw [order_self, hf]
    rw [h1]
    clear h1 hf
    go_enter Tryz.func99, Tryz.ntmps99
    go_wp2
    go_ret
    exact ⟨rfl, rfl⟩
  · have h1 : toldS b = 9221120237041090561 := by unfold toldS nanC; rw [hf]; rfl
    have h2 : (D.order b b != some .eq) = true := by rw [order_self, hf]
    rw [h1]
    clear h1 hf
    go_enter Tryz.func99, Tryz.ntmps99
    go_wp2
    go_ret
    exact ⟨rfl, rfl⟩

set_option maxHeartbeats 400000 in
theorem abs_any (n : Nat) (hn : n < 18446744073709551616) (w : World) :
    Calls Tryz.prog 97 #[.float .f64 n] w fun e w' => e = .returned (.float .f64 (rung n)) ∧ w = w' := by
  have h := andNot_sign n hn
  go_enter Tryz.func97, Tryz.ntmps97
  go_wp2
  go_ret
  exact ⟨rfl, rfl⟩

set_option maxHeartbeats 400000 in
theorem isInf_any (n : Nat) (hn : n < 18446744073709551616) (w : World) :
    Calls Tryz.prog 98 #[.float .f64 n, .int .i64 0] w fun e w' => e = .returned (.bool (decide (rung n = 9218868437227405312))) ∧ w = w' := by
  rw [← inf_test]
  go_enter Tryz.func98, Tryz.ntmps98
  go_wp2_with (go_at_call 97; refine (abs_any _ hn _).mono ?_; rintro e w' ⟨rfl, rfl⟩)
  go_ret
  exact ⟨rfl, rfl⟩

set_option maxHeartbeats 400000 in
theorem isNaN_any (n : Nat) (w : World) :
    Calls Tryz.prog 206 #[.float .f64 n] w fun e w' => e = .returned (.bool (fnan n)) ∧ w = w' := by
  rw [← order_self]
  go_enter Tryz.func206, Tryz.ntmps206
  go_wp2
  go_ret
  exact ⟨rfl, rfl⟩

set_option maxHeartbeats 400000 in
theorem neg_any (n : Nat) (w : World) :
    Calls Tryz.prog 205 #[.int .u64 n] w fun e w' => e = .returned (.bool (negS n)) ∧ w = w' := by
  unfold negS
  go_enter Tryz.func205, Tryz.ntmps205
  go_wp2
  go_ret
  exact ⟨rfl, rfl⟩

end Go.Proofs.YthhbbmebfmfgjaaGreatDoor

/- Kind, Order, Holds: both texts. -/
namespace Go.Proofs.YthhbbmebfmfgjaaGreatDoor
open Go.RowKit

end Go.Proofs.YthhbbmebfmfgjaaGreatDoor

/- Order, Holds: both texts. -/
namespace Go.Proofs.YthhbbmebfmfgjaaGreatDoor
open Go.RowKit

theorem cast_beq {a b : Nat} {c : Bool} (h : ((a : Int) == (b : Int)) = c) : (a == b) = c := by
  rw [← h, Bool.eq_iff_iff]; simp only [beq_iff_eq]; omega

set_option maxHeartbeats 400000 in
theorem order_any (a b : Nat) (w : World) :
    Calls Tryz.prog 170 #[.int .u64 a, .int .u64 b] w fun e w' => e = .returned (.int .i64 (orderS a b)) ∧ w = w' := by
  go_enter Tryz.func170, Tryz.ntmps170
  go_wp2_with (go_at_call 205; refine (neg_any _ _).mono ?_; rintro e w' ⟨rfl, rfl⟩)
  all_goals
    go_ret
    refine ⟨int_ret ?_, rfl⟩
    first
      | (have hab := cast_beq (a := a) (b := b) (c := true) (by assumption); simp_all [orderS]; done)
      | (have hab := cast_beq (a := a) (b := b) (c := false) (by assumption); simp_all [orderS]; done)

set_option maxHeartbeats 400000 in
theorem holds_any (c : Int) (a b : Nat) (w : World) :
    Calls Tryz.prog 63 #[.int .i64 c, .int .u64 a, .int .u64 b] w fun e w' => e = .returned (.bool (holdsS c a b)) ∧ w = w' := by
  go_enter Tryz.func63, Tryz.ntmps63
  go_wp2_with (go_at_call 96; refine (num_any _ _).mono ?_; rintro e w' ⟨rfl, rfl⟩)
  all_goals
    go_ret
    refine ⟨bool_ret ?_, rfl⟩
    simp_all [holdsS]

end Go.Proofs.YthhbbmebfmfgjaaGreatDoor

/- Package math's bodiless functions under contract; better, One, Of: both texts. -/
namespace Go.Proofs.YthhbbmebfmfgjaaGreatDoor
open Go.RowKit

theorem drew_drewN (w : World) : w.drew = w.drewN 1 := rfl

/-- what an operation on floats gives: the word, or some NaN -/
def Arith (o : Option Nat) (r : Nat) : Prop := match o with | some v => r = v | none => fnan r = true

theorem arith_run (op : BinOp) (hop : op = .add ∨ op = .sub ∨ op = .mul ∨ op = .quo) (t : TypeId) (x y : Nat) (w : World) :
    ∃ r k, Sem.run Tryz.prog (binOp op t (.float .f64 x) (.float .f64 y)) w = .ok (.float .f64 r) (w.drewN k) ∧ Arith (floatBits op .f64 x y) r := by
  cases h : floatBits op .f64 x y with
  | some r => exact ⟨r, 0, run_float_arith w op t .f64 x y r h, rfl⟩
  | none => exact ⟨_, 1, run_arith op hop t x y w h, fnan_nanOf w x y⟩

theorem toldS_arith {o : Option Nat} {r : Nat} (h : Arith o r) : toldS r = optT o := by
  cases o with
  | some v => cases h; rfl
  | none => unfold toldS; rw [show fnan r = true from h]; rfl

end Go.Proofs.YthhbbmebfmfgjaaGreatDoor

/- better, One, Of: both texts. -/
namespace Go.Proofs.YthhbbmebfmfgjaaGreatDoor
open Go.RowKit

def betterS (a b : Nat) (want : Int) : Nat := if fnan a then toldS b else if fnan b then a else if orderS a b = want then a else b

set_option maxRecDepth 100000 in
set_option maxHeartbeats 400000 in
theorem better_any (a b : Nat) (want : Int) (w : World) :
    Calls Tryz.prog 133 #[.int .u64 a, .int .u64 b, .int .i64 want] w fun e w' => e = .returned (.int .u64 (betterS a b want : Nat)) ∧ w = w' := by
  cases ha : fnan a
  · have h2 : (D.order a a != some .eq) = false := by rw [order_self, ha]
    cases hb : fnan b
    · have h3 : (D.order b b != some .eq) = false := by rw [order_self, hb]
      cases hw : orderS a b == want
      · have e : betterS a b want = b := by unfold betterS; rw [ha, hb]; simp at hw; simp [hw]
        rw [e]
        clear ha hb e
        go_enter Tryz.func133, Tryz.ntmps133
        go_wp2_with (first | (go_at_call 96; refine (num_any _ _).mono ?_; rintro e w' ⟨rfl, rfl⟩) | (go_at_call 170; refine (order_any _ _ _).mono ?_; rintro e w' ⟨rfl, rfl⟩))
        go_ret
        exact ⟨rfl, rfl⟩
      · have e : betterS a b want = a := by unfold betterS; rw [ha, hb]; simp at hw; simp [hw]
        rw [e]
        clear ha hb e
        go_enter Tryz.func133, Tryz.ntmps133
        go_wp2_with (first | (go_at_call 96; refine (num_any _ _).mono ?_; rintro e w' ⟨rfl, rfl⟩) | (go_at_call 170; refine (order_any _ _ _).mono ?_; rintro e w' ⟨rfl, rfl⟩))
        go_ret
        exact ⟨rfl, rfl⟩
    · have h3 : (D.order b b != some .eq) = true := by rw [order_self, hb]
      have e : betterS a b want = a := by unfold betterS; rw [ha, hb]; simp
      rw [e]
      clear ha hb e
      go_enter Tryz.func133, Tryz.ntmps133
      go_wp2_with (first | (go_at_call 96; refine (num_any _ _).mono ?_; rintro e w' ⟨rfl, rfl⟩))
      go_ret
      exact ⟨rfl, rfl⟩
  · have h2 : (D.order a a != some .eq) = true := by rw [order_self, ha]
    have e : betterS a b want = toldS b := by unfold betterS; rw [ha]; simp
    rw [e]
    clear ha e
    go_enter Tryz.func133, Tryz.ntmps133
    go_wp2_with (first | (go_at_call 96; refine (num_any _ _).mono ?_; rintro e w' ⟨rfl, rfl⟩) | (go_at_call 99; refine (told_any _ _).mono ?_; rintro e w' ⟨rfl, rfl⟩))
    go_ret
    exact ⟨rfl, rfl⟩

def ofS (n : Int) : Nat := toldS (floatOfInt .f64 n)
set_option maxRecDepth 100000 in
set_option maxHeartbeats 400000 in
theorem of_any (n : Int) (w : World) :
    Calls Tryz.prog 56 #[.int .i64 n] w fun e w' => e = .returned (.int .u64 (ofS n : Nat)) ∧ w = w' := by
  go_enter Tryz.func56, Tryz.ntmps56
  go_wp2_with (first | (go_at_call 99; refine (told_any _ _).mono ?_; rintro e w' ⟨rfl, rfl⟩))
  go_ret
  exact ⟨rfl, rfl⟩
end Go.Proofs.YthhbbmebfmfgjaaGreatDoor

/- One: both texts. -/
namespace Go.Proofs.YthhbbmebfmfgjaaGreatDoor
open Go.RowKit

/-- the opposite word -/
def oppW (n : Nat) : Nat := D.word (!sgn n) (rung n)

/-- a value, some draws later -/
def Told (v : Nat) (w : World) (e : Ending) (w' : World) : Prop := e = .returned (.int .u64 (v : Nat)) ∧ ∃ k, w' = w.drewN k

theorem Told.same {u v : Nat} {w : World} (h : u = v) : Told v w (.returned (.int .u64 (u : Nat))) w := ⟨by rw [h], 0, rfl⟩
theorem Told.some {u v : Nat} {w w' : World} {k : Nat} (h : u = v) (hw : w' = w.drewN k) : Told v w (.returned (.int .u64 (u : Nat))) w' := ⟨by rw [h], k, hw⟩

end Go.Proofs.YthhbbmebfmfgjaaGreatDoor
