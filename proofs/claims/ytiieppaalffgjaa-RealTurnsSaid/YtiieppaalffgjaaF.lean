/- Plain facts on the bits of a float64 (no program in sight): what a word reads as, in units of 2^-1074. -/
import GoSem.Core.Float
namespace Go.Proofs.Ytiieppaalffgjaa
open Ieee

abbrev D : Ieee.Format := FloatKind.f64.format


theorem D_eq : D = { exponentBits := 11, fractionBits := 52 } := rfl
theorem D_binade : D.binade = 4503599627370496 := by decide
theorem D_inf : D.infRung = 9218868437227405312 := by decide
theorem D_sign : D.signWeight = 9223372036854775808 := by decide
theorem D_least : D.leastPlace = -1074 := by decide
theorem D_frac : D.fractionBits = 52 := by decide

/-- the sign of a word -/
def sgn (n : Nat) : Bool := n / 9223372036854775808 % 2 == 1
/-- its rung -/
def rung (n : Nat) : Nat := n % 9223372036854775808
def mant (r : Nat) : Nat := if r < 4503599627370496 then r else 4503599627370496 + r % 4503599627370496
def lift (r : Nat) : Nat := if r < 4503599627370496 then 0 else r / 4503599627370496 - 1
/-- how many units of 2^-1074 a rung is -/
def units (r : Nat) : Nat := mant r * 2 ^ lift r

theorem read_word (n : Nat) : D.read n =
    if rung n < 9218868437227405312 then .number (sgn n) (mant (rung n)) (-1074 + (lift (rung n) : Int))
    else if rung n = 9218868437227405312 then .infinity (sgn n) else .nan (sgn n) (rung n - 9218868437227405312) := by
  unfold Format.read
  simp only [D_sign, D_binade, D_inf, D_least]
  unfold sgn rung mant lift
  by_cases h1 : n % 9223372036854775808 < 4503599627370496
  · have : n % 9223372036854775808 < 9218868437227405312 := by omega
    simp [h1, this]
  · by_cases h2 : n % 9223372036854775808 < 9218868437227405312
    · simp [h1, h2]
    · simp [h1, h2]

theorem rung_lt (n : Nat) : rung n < 9223372036854775808 := Nat.mod_lt _ (by omega)

theorem units_succ (r : Nat) : units r < units (r + 1) := by
  unfold units mant lift
  by_cases h1 : r + 1 < 4503599627370496
  · simp [h1, show r < 4503599627370496 by omega]
  · by_cases h2 : r < 4503599627370496
    · have : r + 1 = 4503599627370496 := by omega
      have h3 : (r + 1) % 4503599627370496 = 0 := by omega
      have h4 : (r + 1) / 4503599627370496 = 1 := by omega
      simp only [h2, h1, if_true, if_false, h3, h4]
      omega
    · simp only [h1, h2, if_false]
      have hq : 1 ≤ r / 4503599627370496 := by omega
      by_cases h3 : (r + 1) % 4503599627370496 = 0
      · have h4 : (r + 1) / 4503599627370496 = r / 4503599627370496 + 1 := by omega
        have h5 : r % 4503599627370496 = 4503599627370496 - 1 := by omega
        rw [h3, h4, h5]
        obtain ⟨q, hq⟩ : ∃ q, r / 4503599627370496 = q + 1 := ⟨r / 4503599627370496 - 1, by omega⟩
        rw [hq, show q + 1 + 1 - 1 = q + 1 from rfl, show q + 1 - 1 = q from rfl, Nat.pow_succ]
        have : 0 < 2 ^ q := Nat.two_pow_pos q
        generalize 2 ^ q = p at *
        omega
      · have h4 : (r + 1) / 4503599627370496 = r / 4503599627370496 := by omega
        have h5 : (r + 1) % 4503599627370496 = r % 4503599627370496 + 1 := by omega
        rw [h4, h5]
        have : 0 < 2 ^ (r / 4503599627370496 - 1) := Nat.two_pow_pos _
        exact Nat.mul_lt_mul_of_pos_right (by omega) this

theorem units_lt {a b : Nat} (h : a < b) : units a < units b := by
  induction b with
  | zero => omega
  | succ b ih =>
    by_cases e : a = b
    · subst e; exact units_succ a
    · exact Nat.lt_trans (ih (by omega)) (units_succ b)

theorem units_le {a b : Nat} (h : a ≤ b) : units a ≤ units b := by
  by_cases e : a = b
  · subst e; exact Nat.le_refl _
  · exact Nat.le_of_lt (units_lt (by omega))

theorem units_lt_iff {a b : Nat} : units a < units b ↔ a < b :=
  ⟨fun h => by
    by_cases e : a < b
    · exact e
    · exact absurd (units_le (Nat.le_of_not_lt e)) (by omega), units_lt⟩

theorem units_inj {a b : Nat} (h : units a = units b) : a = b := by
  by_cases h1 : a < b
  · have := units_lt h1; omega
  · by_cases h2 : b < a
    · have := units_lt h2; omega
    · omega

theorem units_zero : units 0 = 0 := by decide

/-- a word's signed place on the line of rungs -/
def skey (n : Nat) : Int := if sgn n then -(rung n : Int) else rung n
/-- a word's signed number of units -/
def sval (n : Nat) : Int := if sgn n then -(units (rung n) : Int) else units (rung n)

theorem signed_mul (s : Bool) (m a k : Nat) : signed s m (a + k) = signed s m a * (2 : Int) ^ k := by
  unfold signed
  cases s <;> simp [Nat.shiftLeft_eq, Nat.pow_add, Int.mul_assoc, Int.natCast_mul, Int.natCast_pow, Int.neg_mul]

theorem signed_units (s : Bool) (r : Nat) : signed s (mant r) (lift r) = if s then -(units r : Int) else units r := by
  unfold signed units
  cases s <;> simp [Nat.shiftLeft_eq]

theorem compare_mul (a b : Int) (k : Nat) : compare (a * 2 ^ k) (b * 2 ^ k) = compare a b := by
  have hp : (0 : Int) < 2 ^ k := Int.pow_pos (by decide)
  rcases Int.lt_trichotomy a b with h | h | h
  · have : a * 2 ^ k < b * 2 ^ k := Int.mul_lt_mul_of_pos_right h hp
    simp [compare, compareOfLessAndEq, h, this]
  · subst h; simp [compare, compareOfLessAndEq]
  · have h2 : b * 2 ^ k < a * 2 ^ k := Int.mul_lt_mul_of_pos_right h hp
    simp [compare, compareOfLessAndEq, show ¬ a < b by omega, show ¬ a = b by omega, show ¬ a * 2 ^ k < b * 2 ^ k by omega, show ¬ a * 2 ^ k = b * 2 ^ k by omega]

theorem order_numbers (s t : Bool) (m n a b : Nat) :
    Datum.order (.number s m (-1074 + (a : Int))) (.number t n (-1074 + (b : Int))) = some (compare (signed s m a) (signed t n b)) := by
  unfold Datum.order
  dsimp only
  rcases Nat.le_total a b with h | h
  · have h1 : min (-1074 + (a : Int)) (-1074 + (b : Int)) = -1074 + (a : Int) := by omega
    rw [h1]
    have h2 : (-1074 + (a : Int) - (-1074 + (a : Int))).toNat = 0 := by omega
    have h3 : (-1074 + (b : Int) - (-1074 + (a : Int))).toNat = b - a := by omega
    rw [h2, h3]
    have e1 := signed_mul s m 0 a
    have e2 := signed_mul t n (b - a) a
    rw [Nat.zero_add] at e1
    rw [Nat.sub_add_cancel h] at e2
    rw [e1, e2, compare_mul]
  · have h1 : min (-1074 + (a : Int)) (-1074 + (b : Int)) = -1074 + (b : Int) := by omega
    rw [h1]
    have h2 : (-1074 + (b : Int) - (-1074 + (b : Int))).toNat = 0 := by omega
    have h3 : (-1074 + (a : Int) - (-1074 + (b : Int))).toNat = a - b := by omega
    rw [h2, h3]
    have e1 := signed_mul t n 0 b
    have e2 := signed_mul s m (a - b) b
    rw [Nat.zero_add] at e1
    rw [Nat.sub_add_cancel h] at e2
    rw [e1, e2, compare_mul]

def fnan (n : Nat) : Bool := decide (9218868437227405312 < rung n)

theorem compare_eq {a b c d : Int} (h1 : a < b ↔ c < d) (h2 : a = b ↔ c = d) : compare a b = compare c d := by
  simp only [compare, compareOfLessAndEq]
  by_cases x : a < b
  · rw [if_pos x, if_pos (h1.1 x)]
  · rw [if_neg x, if_neg (fun y => x (h1.2 y))]
    by_cases z : a = b
    · rw [if_pos z, if_pos (h2.1 z)]
    · rw [if_neg z, if_neg (fun y => z (h2.2 y))]

theorem rung_sval_lt (x y : Nat) : sval x < sval y ↔ skey x < skey y := by
  unfold sval skey
  have hz := units_zero
  have l1 := @units_lt_iff (rung x) (rung y)
  have l2 := @units_lt_iff (rung y) (rung x)
  have p1 := @units_lt_iff 0 (rung x)
  have p2 := @units_lt_iff 0 (rung y)
  rw [hz] at p1 p2
  cases sgn x <;> cases sgn y <;> simp <;> omega

theorem rung_sval_eq (x y : Nat) : sval x = sval y ↔ skey x = skey y := by
  have h1 := rung_sval_lt x y
  have h2 := rung_sval_lt y x
  omega

theorem cmp_lt {a b : Int} (h : a < b) : compare a b = .lt := by simp [compare, compareOfLessAndEq, h]
theorem cmp_gt {a b : Int} (h : b < a) : compare a b = .gt := by
  simp only [compare, compareOfLessAndEq]
  rw [if_neg (by omega), if_neg (by omega)]

/-- HOW TWO WORDS STAND: none where one is a NaN; else as their places stand. -/
theorem order_key (x y : Nat) : D.order x y = if fnan x || fnan y then none else some (compare (skey x) (skey y)) := by
  unfold Format.order
  rw [read_word, read_word]
  have lx := rung_lt x
  have ly := rung_lt y
  unfold fnan
  by_cases hx : rung x < 9218868437227405312
  · rw [if_pos hx]
    by_cases hy : rung y < 9218868437227405312
    · rw [if_pos hy, order_numbers, signed_units, signed_units]
      have e : (decide (9218868437227405312 < rung x) || decide (9218868437227405312 < rung y)) = false := by simp; omega
      rw [e]
      exact congrArg some (compare_eq (rung_sval_lt x y) (rung_sval_eq x y))
    · rw [if_neg hy]
      by_cases hy2 : rung y = 9218868437227405312
      · rw [if_pos hy2]
        simp only [Datum.order]
        unfold skey
        rw [hy2]
        have e : (decide (9218868437227405312 < rung x) || decide (9218868437227405312 < 9218868437227405312)) = false := by simp; omega
        rw [e]
        cases sgn x <;> cases sgn y <;> (simp only [if_true, if_false, Bool.false_eq_true, Option.some.injEq]; first | exact (cmp_lt (by omega)).symm | exact (cmp_gt (by omega)).symm)
      · rw [if_neg hy2, if_pos (by simp; omega)]
        rfl
  · rw [if_neg hx]
    by_cases hx2 : rung x = 9218868437227405312
    · rw [if_pos hx2]
      by_cases hy : rung y < 9218868437227405312
      · rw [if_pos hy]
        simp only [Datum.order]
        unfold skey
        rw [hx2]
        have e : (decide (9218868437227405312 < 9218868437227405312) || decide (9218868437227405312 < rung y)) = false := by simp; omega
        rw [e]
        cases sgn x <;> cases sgn y <;> (simp only [if_true, if_false, Bool.false_eq_true, Option.some.injEq]; first | exact (cmp_lt (by omega)).symm | exact (cmp_gt (by omega)).symm)
      · rw [if_neg hy]
        by_cases hy2 : rung y = 9218868437227405312
        · rw [if_pos hy2, if_neg (by simp; omega)]
          simp only [Datum.order, Option.some.injEq]
          unfold skey
          rw [hx2, hy2]
          cases sgn x <;> cases sgn y <;> simp [compare, compareOfLessAndEq]
        · rw [if_neg hy2, if_pos (by simp; omega)]
          rfl
    · have e : decide (9218868437227405312 < rung x) = true := by simp; omega
      rw [if_neg hx2, e]
      simp [Datum.order]

theorem order_self (x : Nat) : (D.order x x != some .eq) = fnan x := by
  rw [order_key]
  cases h : fnan x <;> simp

end Go.Proofs.Ytiieppaalffgjaa
