import GoSem.Core.Float
import Derived.WalkKit
import Derived.Test.YthhbbmebfmfgjaaGreatDoorRows
import Derived.WalkSpells
import Derived.WalkLawsBesides
import Derived.Outline
import Derived.Deep.QuietTactic
import Derived.BigQuiet
import Derived.Lib.Hide
/- Plain facts on the bits of a float64 (no program in sight): what a word reads as, in units of 2^-1074. -/
namespace Go.Proofs.YthhbbmebfmfgjaaGreatDoor
open Ieee

abbrev D : Ieee.Format := FloatKind.f64.format


theorem D_eq : D = { exponentBits := 11, fractionBits := 52 } := rfl
theorem D_binade : D.binade = 4503599627370496 := by decide
theorem D_inf : D.infRung = 9218868437227405312 := by decide
theorem D_sign : D.signWeight = 9223372036854775808 := by decide
theorem D_least : D.leastPlace = -1074 := by decide
theorem D_frac : D.fractionBits = 52 := by decide

/-- the sign of a word -/
def sgn (n : Nat) : Bool := n / 9223372036854775808 % 2 == 1
/-- its rung -/
def rung (n : Nat) : Nat := n % 9223372036854775808
def mant (r : Nat) : Nat := if r < 4503599627370496 then r else 4503599627370496 + r % 4503599627370496
def lift (r : Nat) : Nat := if r < 4503599627370496 then 0 else r / 4503599627370496 - 1
/-- how many units of 2^-1074 a rung is -/
def units (r : Nat) : Nat := mant r * 2 ^ lift r

theorem read_word (n : Nat) : D.read n =
    if rung n < 9218868437227405312 then .number (sgn n) (mant (rung n)) (-1074 + (lift (rung n) : Int))
    else if rung n = 9218868437227405312 then .infinity (sgn n) else .nan (sgn n) (rung n - 9218868437227405312) := by
  unfold Format.read
  simp only [D_sign, D_binade, D_inf, D_least]
  unfold sgn rung mant lift
  by_cases h1 : n % 9223372036854775808 < 4503599627370496
  · have : n % 9223372036854775808 < 9218868437227405312 := by omega
    simp [h1, this]
  · by_cases h2 : n % 9223372036854775808 < 9218868437227405312
    · simp [h1, h2]
    · simp [h1, h2]

theorem rung_lt (n : Nat) : rung n < 9223372036854775808 := Nat.mod_lt _ (by omega)

theorem units_succ (r : Nat) : units r < units (r + 1) := by
  unfold units mant lift
  by_cases h1 : r + 1 < 4503599627370496
  · simp [h1, show r < 4503599627370496 by omega]
  · by_cases h2 : r < 4503599627370496
    · have : r + 1 = 4503599627370496 := by omega
      have h3 : (r + 1) % 4503599627370496 = 0 := by omega
      have h4 : (r + 1) / 4503599627370496 = 1 := by omega
      simp only [h2, h1, if_true, if_false, h3, h4]
      omega
    · simp only [h1, h2, if_false]
      have hq : 1 ≤ r / 4503599627370496 := by omega
      by_cases h3 : (r + 1) % 4503599627370496 = 0
      · have h4 : (r + 1) / 4503599627370496 = r / 4503599627370496 + 1 := by omega
        have h5 : r % 4503599627370496 = 4503599627370496 - 1 := by omega
        rw [h3, h4, h5]
        obtain ⟨q, hq⟩ : ∃ q, r / 4503599627370496 = q + 1 := ⟨r / 4503599627370496 - 1, by omega⟩
        rw [hq, show q + 1 + 1 - 1 = q + 1 from rfl, show q + 1 - 1 = q from rfl, Nat.pow_succ]
        have : 0 < 2 ^ q := Nat.two_pow_pos q
        generalize 2 ^ q = p at *
        omega
      · have h4 : (r + 1) / 4503599627370496 = r / 4503599627370496 := by omega
        have h5 : (r + 1) % 4503599627370496 = r % 4503599627370496 + 1 := by omega
        rw [h4, h5]
        have : 0 < 2 ^ (r / 4503599627370496 - 1) := Nat.two_pow_pos _
        exact Nat.mul_lt_mul_of_pos_right (by omega) this

theorem units_lt {a b : Nat} (h : a < b) : units a < units b := by
  induction b with
  | zero => omega
  | succ b ih =>
    by_cases e : a = b
    · subst e; exact units_succ a
    · exact Nat.lt_trans (ih (by omega)) (units_succ b)

theorem units_le {a b : Nat} (h : a ≤ b) : units a ≤ units b := by
  by_cases e : a = b
  · subst e; exact Nat.le_refl _
  · exact Nat.le_of_lt (units_lt (by omega))

theorem units_lt_iff {a b : Nat} : units a < units b ↔ a < b :=
  ⟨fun h => by
    by_cases e : a < b
    · exact e
    · exact absurd (units_le (Nat.le_of_not_lt e)) (by omega), units_lt⟩

theorem units_inj {a b : Nat} (h : units a = units b) : a = b := by
  by_cases h1 : a < b
  · have := units_lt h1; omega
  · by_cases h2 : b < a
    · have := units_lt h2; omega
    · omega

theorem units_zero : units 0 = 0 := by decide

/-- a word's signed place on the line of rungs -/
def skey (n : Nat) : Int := if sgn n then -(rung n : Int) else rung n
/-- a word's signed number of units -/
def sval (n : Nat) : Int := if sgn n then -(units (rung n) : Int) else units (rung n)

theorem signed_mul (s : Bool) (m a k : Nat) : signed s m (a + k) = signed s m a * (2 : Int) ^ k := by
  unfold signed
  cases s <;> simp [Nat.shiftLeft_eq, Nat.pow_add, Int.mul_assoc, Int.natCast_mul, Int.natCast_pow, Int.neg_mul]

theorem signed_units (s : Bool) (r : Nat) : signed s (mant r) (lift r) = if s then -(units r : Int) else units r := by
  unfold signed units
  cases s <;> simp [Nat.shiftLeft_eq]

theorem compare_mul (a b : Int) (k : Nat) : compare (a * 2 ^ k) (b * 2 ^ k) = compare a b := by
  have hp : (0 : Int) < 2 ^ k := Int.pow_pos (by decide)
  rcases Int.lt_trichotomy a b with h | h | h
  · have : a * 2 ^ k < b * 2 ^ k := Int.mul_lt_mul_of_pos_right h hp
    simp [compare, compareOfLessAndEq, h, this]
  · subst h; simp [compare, compareOfLessAndEq]
  · have h2 : b * 2 ^ k < a * 2 ^ k := Int.mul_lt_mul_of_pos_right h hp
    simp [compare, compareOfLessAndEq, show ¬ a < b by omega, show ¬ a = b by omega, show ¬ a * 2 ^ k < b * 2 ^ k by omega, show ¬ a * 2 ^ k = b * 2 ^ k by omega]

theorem order_numbers (s t : Bool) (m n a b : Nat) :
    Datum.order (.number s m (-1074 + (a : Int))) (.number t n (-1074 + (b : Int))) = some (compare (signed s m a) (signed t n b)) := by
  unfold Datum.order
  dsimp only
  rcases Nat.le_total a b with h | h
  · have h1 : min (-1074 + (a : Int)) (-1074 + (b : Int)) = -1074 + (a : Int) := by omega
    rw [h1]
    have h2 : (-1074 + (a : Int) - (-1074 + (a : Int))).toNat = 0 := by omega
    have h3 : (-1074 + (b : Int) - (-1074 + (a : Int))).toNat = b - a := by omega
    rw [h2, h3]
    have e1 := signed_mul s m 0 a
    have e2 := signed_mul t n (b - a) a
    rw [Nat.zero_add] at e1
    rw [Nat.sub_add_cancel h] at e2
    rw [e1, e2, compare_mul]
  · have h1 : min (-1074 + (a : Int)) (-1074 + (b : Int)) = -1074 + (b : Int) := by omega
    rw [h1]
    have h2 : (-1074 + (b : Int) - (-1074 + (b : Int))).toNat = 0 := by omega
    have h3 : (-1074 + (a : Int) - (-1074 + (b : Int))).toNat = a - b := by omega
    rw [h2, h3]
    have e1 := signed_mul t n 0 b
    have e2 := signed_mul s m (a - b) b
    rw [Nat.zero_add] at e1
    rw [Nat.sub_add_cancel h] at e2
    rw [e1, e2, compare_mul]

def fnan (n : Nat) : Bool := decide (9218868437227405312 < rung n)

theorem compare_eq {a b c d : Int} (h1 : a < b ↔ c < d) (h2 : a = b ↔ c = d) : compare a b = compare c d := by
  simp only [compare, compareOfLessAndEq]
  by_cases x : a < b
  · rw [if_pos x, if_pos (h1.1 x)]
  · rw [if_neg x, if_neg (fun y => x (h1.2 y))]
    by_cases z : a = b
    · rw [if_pos z, if_pos (h2.1 z)]
    · rw [if_neg z, if_neg (fun y => z (h2.2 y))]

theorem rung_sval_lt (x y : Nat) : sval x < sval y ↔ skey x < skey y := by
  unfold sval skey
  have hz := units_zero
  have l1 := @units_lt_iff (rung x) (rung y)
  have l2 := @units_lt_iff (rung y) (rung x)
  have p1 := @units_lt_iff 0 (rung x)
  have p2 := @units_lt_iff 0 (rung y)
  rw [hz] at p1 p2
  cases sgn x <;> cases sgn y <;> simp <;> omega

theorem rung_sval_eq (x y : Nat) : sval x = sval y ↔ skey x = skey y := by
  have h1 := rung_sval_lt x y
  have h2 := rung_sval_lt y x
  omega

theorem cmp_lt {a b : Int} (h : a < b) : compare a b = .lt := by simp [compare, compareOfLessAndEq, h]
theorem cmp_gt {a b : Int} (h : b < a) : compare a b = .gt := by
  simp only [compare, compareOfLessAndEq]
  rw [if_neg (by omega), if_neg (by omega)]

/-- HOW TWO WORDS STAND: none where one is a NaN; else as their places stand. -/
theorem order_key (x y : Nat) : D.order x y = if fnan x || fnan y then none else some (compare (skey x) (skey y)) := by
  unfold Format.order
  rw [read_word, read_word]
  have lx := rung_lt x
  have ly := rung_lt y
  unfold fnan
  by_cases hx : rung x < 9218868437227405312
  · rw [if_pos hx]
    by_cases hy : rung y < 9218868437227405312
    · rw [if_pos hy, order_numbers, signed_units, signed_units]
      have e : (decide (9218868437227405312 < rung x) || decide (9218868437227405312 < rung y)) = false := by simp; omega
      rw [e]
      exact congrArg some (compare_eq (rung_sval_lt x y) (rung_sval_eq x y))
    · rw [if_neg hy]
      by_cases hy2 : rung y = 9218868437227405312
      · rw [if_pos hy2]
        simp only [Datum.order]
        unfold skey
        rw [hy2]
        have e : (decide (9218868437227405312 < rung x) || decide (9218868437227405312 < 9218868437227405312)) = false := by simp; omega
        rw [e]
        cases sgn x <;> cases sgn y <;> (simp only [if_true, if_false, Bool.false_eq_true, Option.some.injEq]; first | exact (cmp_lt (by omega)).symm | exact (cmp_gt (by omega)).symm)
      · rw [if_neg hy2, if_pos (by simp; omega)]
        rfl
  · rw [if_neg hx]
    by_cases hx2 : rung x = 9218868437227405312
    · rw [if_pos hx2]
      by_cases hy : rung y < 9218868437227405312
      · rw [if_pos hy]
        simp only [Datum.order]
        unfold skey
        rw [hx2]
        have e : (decide (9218868437227405312 < 9218868437227405312) || decide (9218868437227405312 < rung y)) = false := by simp; omega
        rw [e]
        cases sgn x <;> cases sgn y <;> (simp only [if_true, if_false, Bool.false_eq_true, Option.some.injEq]; first | exact (cmp_lt (by omega)).symm | exact (cmp_gt (by omega)).symm)
      · rw [if_neg hy]
        by_cases hy2 : rung y = 9218868437227405312
        · rw [if_pos hy2, if_neg (by simp; omega)]
          simp only [Datum.order, Option.some.injEq]
          unfold skey
          rw [hx2, hy2]
          cases sgn x <;> cases sgn y <;> simp [compare, compareOfLessAndEq]
        · rw [if_neg hy2, if_pos (by simp; omega)]
          rfl
    · have e : decide (9218868437227405312 < rung x) = true := by simp; omega
      rw [if_neg hx2, e]
      simp [Datum.order]

theorem order_self (x : Nat) : (D.order x x != some .eq) = fnan x := by
  rw [order_key]
  cases h : fnan x <;> simp

end Go.Proofs.YthhbbmebfmfgjaaGreatDoor

/- Plain facts on rounding: a number that the format has is written as its own word; whole numbers up to 2^53 are had. -/
namespace Go.Proofs.YthhbbmebfmfgjaaGreatDoor
open Ieee

theorem cut_zero (way : Toward) (neg : Bool) (n : Nat) : way.cut neg n 0 = n := by
  unfold Toward.cut
  have h : min 0 (n.log2 + 2) = 0 := by omega
  simp only [h, Nat.shiftLeft_zero, Nat.div_one, Nat.mod_one]
  cases way <;> simp

theorem log2_ge {n k : Nat} (h : 2 ^ k ≤ n) (hn : n ≠ 0) : k ≤ n.log2 := (Nat.le_log2 hn).2 h

/-- nothing is dropped where the number is a multiple of the gap -/
theorem cut_exact (way : Toward) (neg : Bool) (K d : Nat) (hK : K ≠ 0) : way.cut neg (K * 2 ^ d) d = K := by
  have hp : 0 < 2 ^ d := Nat.two_pow_pos d
  have h1 : 2 ^ d ≤ K * 2 ^ d := Nat.le_mul_of_pos_left _ (by omega)
  have h2 : d ≤ (K * 2 ^ d).log2 := log2_ge h1 (by have := Nat.mul_pos (Nat.pos_of_ne_zero hK) hp; omega)
  unfold Toward.cut
  have h : min d ((K * 2 ^ d).log2 + 2) = d := by omega
  simp only [h, Nat.shiftLeft_eq, Nat.one_mul, Nat.mul_div_cancel _ hp, Nat.mul_mod_left]
  cases way <;> simp

theorem cut_shift (way : Toward) (neg : Bool) (m K a b : Nat) (hK : K ≠ 0) (h : m * 2 ^ a = K * 2 ^ b) :
    way.cut neg (m <<< (a - b)) (b - a) = K := by
  rw [Nat.shiftLeft_eq]
  rcases Nat.le_total a b with g | g
  · have h1 : a - b = 0 := by omega
    rw [h1, Nat.pow_zero, Nat.mul_one]
    have h2 : m = K * 2 ^ (b - a) := by
      have e : K * 2 ^ b = K * 2 ^ (b - a) * 2 ^ a := by rw [Nat.mul_assoc, ← Nat.pow_add, Nat.sub_add_cancel g]
      rw [e] at h
      exact Nat.eq_of_mul_eq_mul_right (Nat.two_pow_pos a) h
    rw [h2, cut_exact _ _ _ _ hK]
  · have h1 : b - a = 0 := by omega
    rw [h1, cut_zero]
    have e : m * 2 ^ a = m * 2 ^ (a - b) * 2 ^ b := by rw [Nat.mul_assoc, ← Nat.pow_add, Nat.sub_add_cancel g]
    rw [e] at h
    exact Nat.eq_of_mul_eq_mul_right (Nat.two_pow_pos b) h

theorem log2_mul_pow (m k : Nat) (hm : m ≠ 0) : (m * 2 ^ k).log2 = m.log2 + k := by
  have hp : 0 < 2 ^ k := Nat.two_pow_pos k
  have hn : m * 2 ^ k ≠ 0 := by have := Nat.mul_pos (Nat.pos_of_ne_zero hm) hp; omega
  apply (Nat.log2_eq_iff hn).2
  have h1 := Nat.log2_self_le hm
  have h2 := Nat.lt_log2_self (n := m)
  rw [Nat.pow_add, show m.log2 + k + 1 = (m.log2 + 1) + k by omega, Nat.pow_add (m := m.log2 + 1)]
  exact ⟨Nat.mul_le_mul_right _ h1, Nat.mul_lt_mul_of_pos_right h2 hp⟩

theorem mant_ne {r : Nat} (h : r ≠ 0) : mant r ≠ 0 := by unfold mant; split <;> omega
theorem mant_lt (r : Nat) : mant r < 9007199254740992 := by unfold mant; split <;> omega

theorem log2_mant_big {r : Nat} (h : 4503599627370496 ≤ r) : (mant r).log2 = 52 := by
  have : mant r = 4503599627370496 + r % 4503599627370496 := by unfold mant; rw [if_neg (by omega)]
  rw [this]
  apply (Nat.log2_eq_iff (by omega)).2
  constructor <;> omega

theorem log2_small {r : Nat} (h : r < 4503599627370496) : r.log2 < 52 := by
  by_cases e : r = 0
  · subst e; decide
  · exact (Nat.log2_lt e).2 (by omega)

theorem lift_mant (r : Nat) : lift r * 4503599627370496 + mant r = r := by
  unfold lift mant
  split <;> omega

/-- THE WORD OF A NUMBER THAT THE FORMAT HAS: 'm * 2^(a - b - 1074)' being just as many units as the rung r. -/
theorem nearest_exact (neg : Bool) (m r a b : Nat) (hr : r < 9218868437227405312) (h0 : r ≠ 0) (h : m * 2 ^ a = units r * 2 ^ b) :
    D.nearest neg m ((a : Int) - b - 1074) = D.word neg r := by
  have hu : units r ≠ 0 := by have := @units_lt 0 r (by omega); rw [units_zero] at this; omega
  have hm : m ≠ 0 := by
    intro e; subst e
    have := Nat.mul_pos (Nat.pos_of_ne_zero hu) (Nat.two_pow_pos b)
    omega
  have hl : m.log2 + a = (mant r).log2 + lift r + b := by
    have e := congrArg Nat.log2 h
    rw [log2_mul_pow _ _ hm, log2_mul_pow _ _ hu] at e
    unfold units at e
    rw [log2_mul_pow _ _ (mant_ne h0)] at e
    exact e
  unfold Format.nearest
  rw [if_neg hm]
  simp only [D_least, D_frac, D_binade, D_inf]
  have hlast : max (((a : Int) - b - 1074) + m.log2 - (52 : Nat)) (-1074) = (lift r : Int) - 1074 := by
    by_cases g : r < 4503599627370496
    · have e1 : mant r = r := by unfold mant; rw [if_pos g]
      have e2 : lift r = 0 := by unfold lift; rw [if_pos g]
      rw [e1, e2] at hl
      have := log2_small g
      rw [e2]; omega
    · rw [log2_mant_big (by omega)] at hl
      omega
  rw [hlast]
  have e1 : (((a : Int) - b - 1074) - ((lift r : Int) - 1074)).toNat = a - (b + lift r) := by omega
  have e2 : (((lift r : Int) - 1074) - ((a : Int) - b - 1074)).toNat = (b + lift r) - a := by omega
  have e3 : (((lift r : Int) - 1074) - (-1074)).toNat = lift r := by omega
  rw [e1, e2, e3, cut_shift .even neg m (mant r) a (b + lift r) (mant_ne h0) (by rw [h]; unfold units; rw [Nat.mul_assoc, ← Nat.pow_add, Nat.add_comm])]
  rw [lift_mant]
  exact congrArg (D.word neg) (Nat.min_eq_left (Nat.le_of_lt hr))

theorem nearest_zero (neg : Bool) (place : Int) : D.nearest neg 0 place = D.word neg 0 := by
  unfold Format.nearest; rw [if_pos rfl]

/-- The same, a zero too. -/
theorem nearest_units (neg : Bool) (m r a b : Nat) (hr : r < 9218868437227405312) (h : m * 2 ^ a = units r * 2 ^ b) :
    D.nearest neg m ((a : Int) - b - 1074) = D.word neg r := by
  by_cases h0 : r = 0
  · subst h0
    rw [units_zero, Nat.zero_mul] at h
    have : m = 0 := by
      rcases Nat.mul_eq_zero.1 h with e | e
      · exact e
      · have := Nat.two_pow_pos a; omega
    subst this
    exact nearest_zero _ _
  · exact nearest_exact neg m r a b hr h0 h

/-- every whole multiple, below 2^53, of a power of two is had -/
theorem had : ∀ (e K : Nat), K < 9007199254740992 → e ≤ 2045 → ∃ r, r < 9218868437227405312 ∧ units r = K * 2 ^ e := by
  intro e
  induction e with
  | zero =>
    intro K hK _
    refine ⟨K, by omega, ?_⟩
    unfold units mant lift
    by_cases g : K < 4503599627370496
    · simp [g]
    · rw [if_neg g, if_neg g]
      have h1 : K / 4503599627370496 = 1 := by omega
      rw [h1]; simp; omega
  | succ e ih =>
    intro K hK he
    by_cases g : K < 4503599627370496
    · obtain ⟨r, h1, h2⟩ := ih (K * 2) (by omega) (by omega)
      exact ⟨r, h1, by rw [h2, Nat.pow_succ, Nat.mul_assoc, Nat.mul_comm 2]⟩
    · refine ⟨(e + 2) * 4503599627370496 + (K - 4503599627370496), by omega, ?_⟩
      unfold units mant lift
      have h1 : ((e + 2) * 4503599627370496 + (K - 4503599627370496)) / 4503599627370496 = e + 2 := by omega
      have h2 : ((e + 2) * 4503599627370496 + (K - 4503599627370496)) % 4503599627370496 = K - 4503599627370496 := by omega
      rw [if_neg (by omega), if_neg (by omega), h1, h2]
      rw [show 4503599627370496 + (K - 4503599627370496) = K by omega, show e + 2 - 1 = e + 1 by omega]

theorem had_upto (e K : Nat) (hK : K ≤ 9007199254740992) (he : e ≤ 2044) : ∃ r, r < 9218868437227405312 ∧ units r = K * 2 ^ e := by
  by_cases g : K < 9007199254740992
  · exact had e K g (by omega)
  · have : K = 9007199254740992 := by omega
    subst this
    obtain ⟨r, h1, h2⟩ := had (e + 1) 4503599627370496 (by omega) (by omega)
    exact ⟨r, h1, by rw [h2, Nat.pow_succ, Nat.mul_comm (2 ^ e) 2, ← Nat.mul_assoc]⟩

theorem word_sgn (s : Bool) (r : Nat) (hr : r < 9223372036854775808) : sgn (D.word s r) = s ∧ rung (D.word s r) = r := by
  unfold sgn rung Format.word
  rw [D_sign]
  cases s
  · simp; constructor <;> omega
  · simp; constructor <;> omega

theorem word_self (n : Nat) (hn : n < 18446744073709551616) : D.word (sgn n) (rung n) = n := by
  unfold sgn rung Format.word
  rw [D_sign]
  by_cases h : n / 9223372036854775808 % 2 == 1
  · rw [if_pos h]; simp at h; omega
  · rw [if_neg h]; simp at h; omega

/-- the place of a unit: 2^-1074 (kept shut: nobody is to reckon 2^1074 out) -/
@[irreducible] def B74 : Nat := 1074
theorem B74_eq : B74 = 1074 := by unfold B74; rfl

/-- a whole number up to 2^53 as a word -/
theorem nearest_int (neg : Bool) (K : Nat) (hK : K ≤ 9007199254740992) :
    ∃ r, r < 9218868437227405312 ∧ units r = K * 2 ^ B74 ∧ D.nearest neg K 0 = D.word neg r := by
  obtain ⟨r, h1, h2⟩ := had_upto B74 K hK (by rw [B74_eq]; omega)
  refine ⟨r, h1, h2, ?_⟩
  have h3 := nearest_units neg K r B74 0 h1 (by rw [h2, Nat.pow_zero, Nat.mul_one])
  rw [show ((B74 : Nat) : Int) - ((0 : Nat) : Int) - 1074 = 0 by rw [B74_eq]; omega] at h3
  exact h3

end Go.Proofs.YthhbbmebfmfgjaaGreatDoor

/- The answers of layer real's functions, as plain functions of words. -/
namespace Go.Proofs.YthhbbmebfmfgjaaGreatDoor
open Ieee

def nanC : Nat := 9221120237041090561
/-- a word told as a value -/
def toldS (b : Nat) : Nat := if fnan b then nanC else b
/-- the word of a result that may be none, told -/
def optT : Option Nat → Nat
  | some r => toldS r
  | none => nanC
def negS (n : Nat) : Bool := decide (9223372036854775808 ≤ (n : Int))
def kindS (n : Nat) : Int :=
  if n = 9218868437227405314 then 1 else if fnan n then 0 else if rung n = 9218868437227405312 then 2 else if rung n = 0 then 3 else if rung n < 4503599627370496 then 4 else 5
def orderS (a b : Nat) : Int := if a = b then 0 else if negS a then (if negS b then (if b < a then -1 else 1) else -1) else if negS b then 1 else if a < b then -1 else 1
def holdsS (cmp : Int) (a b : Nat) : Bool :=
  if cmp = 0 then D.order a b == some .eq else if cmp = 1 then D.order a b != some .eq else if cmp = 2 then D.order a b == some .gt
  else if cmp = 3 then D.order a b == some .lt else if cmp = 4 then (D.order a b == some .gt || D.order a b == some .eq)
  else if cmp = 5 then (D.order a b == some .lt || D.order a b == some .eq) else false

theorem sgn_eq (n : Nat) (hn : n < 18446744073709551616) : sgn n = negS n := by
  unfold sgn negS
  rw [Bool.eq_iff_iff]
  simp
  omega

theorem shl_nan (n : Nat) : decide (18437736874454810624 < IntKind.u64.wrap ((n : Int) * 2)) = fnan n := by
  unfold fnan rung
  rw [IntKind.wrap_u64, Bool.eq_iff_iff]
  simp only [decide_eq_true_eq]
  omega

theorem shl_inf (n : Nat) : (IntKind.u64.wrap ((n : Int) * 2) == 18437736874454810624) = decide (rung n = 9218868437227405312) := by
  unfold rung
  rw [IntKind.wrap_u64, Bool.eq_iff_iff]
  simp only [decide_eq_true_eq, beq_iff_eq]
  omega

theorem shl_zero (n : Nat) : (IntKind.u64.wrap ((n : Int) * 2) == 0) = decide (rung n = 0) := by
  unfold rung
  rw [IntKind.wrap_u64, Bool.eq_iff_iff]
  simp only [decide_eq_true_eq, beq_iff_eq]
  omega

theorem shl_tiny (n : Nat) : decide (IntKind.u64.wrap ((n : Int) * 2) < 9007199254740992) = decide (rung n < 4503599627370496) := by
  unfold rung
  rw [IntKind.wrap_u64, Bool.eq_iff_iff]
  simp only [decide_eq_true_eq]
  omega

theorem andNot_sign (n : Nat) (hn : n < 18446744073709551616) : bits .andNot .u64 (n : Int) 9223372036854775808 = ((rung n : Nat) : Int) := by
  have h := u64_andNot_nat n 9223372036854775808 hn (by omega)
  rw [show ((9223372036854775808 : Nat) : Int) = 9223372036854775808 from rfl] at h
  rw [h]
  congr 1
  have := Nat.and_two_pow_sub_one_eq_mod n 63
  exact this

theorem xor_sign (n : Nat) (hn : n < 18446744073709551616) : bits .xor .u64 (n : Int) 9223372036854775808 = ((D.word (!sgn n) (rung n) : Nat) : Int) := by
  have h := u64_xor_nat n 9223372036854775808 hn (by omega)
  rw [show ((9223372036854775808 : Nat) : Int) = 9223372036854775808 from rfl] at h
  rw [h]
  congr 1
  unfold sgn rung Format.word
  rw [D_sign]
  by_cases g : n < 9223372036854775808
  · have h1 : n / 9223372036854775808 % 2 = 0 := by omega
    have h2 : n % 9223372036854775808 = n := by omega
    simp only [h1, h2]
    have := Nat.two_pow_add_eq_or_of_lt (i := 63) (b := n) (by omega) 1
    have h3 : n ^^^ 9223372036854775808 = 9223372036854775808 + n := by
      rw [Nat.xor_comm]
      apply Nat.eq_of_testBit_eq
      intro i
      rw [show 9223372036854775808 + n = 2 ^ 63 * 1 + n from rfl, this]
      rw [show 9223372036854775808 = 2 ^ 63 * 1 from rfl, Nat.testBit_xor, Nat.testBit_or]
      by_cases e : i = 63
      · subst e
        have : n.testBit 63 = false := Nat.testBit_lt_two_pow g
        rw [this]; simp
      · have : (2 ^ 63 * 1).testBit i = false := by rw [Nat.mul_one, Nat.testBit_two_pow]; simp; omega
        rw [this]; simp
    rw [h3]; rfl
  · have h1 : n / 9223372036854775808 % 2 = 1 := by omega
    have h2 : n % 9223372036854775808 = n - 9223372036854775808 := by omega
    simp only [h1, h2]
    obtain ⟨m, rfl⟩ : ∃ m, n = 9223372036854775808 + m := ⟨n - 9223372036854775808, by omega⟩
    have hm : m < 2 ^ 63 := by omega
    have := Nat.two_pow_add_eq_or_of_lt (i := 63) (b := m) hm 1
    have h3 : (9223372036854775808 + m) ^^^ 9223372036854775808 = m := by
      apply Nat.eq_of_testBit_eq
      intro i
      rw [show 9223372036854775808 + m = 2 ^ 63 * 1 + m from rfl, this]
      rw [show 9223372036854775808 = 2 ^ 63 * 1 from rfl, Nat.testBit_xor, Nat.testBit_or]
      by_cases e : i = 63
      · subst e
        have : m.testBit 63 = false := Nat.testBit_lt_two_pow hm
        rw [this]; simp
      · have : (2 ^ 63 * 1).testBit i = false := by rw [Nat.mul_one, Nat.testBit_two_pow]; simp; omega
        rw [this]; simp
    rw [h3]
    simp

theorem cmp_eq_iff (a b : Int) : compare a b = .eq ↔ a = b := by
  rcases Int.lt_trichotomy a b with h | h | h
  · rw [cmp_lt h]; constructor
    · intro e; cases e
    · intro e; omega
  · subst h; simp
  · rw [cmp_gt h]; constructor
    · intro e; cases e
    · intro e; omega
theorem cmp_lt_iff (a b : Int) : compare a b = .lt ↔ a < b := by
  rcases Int.lt_trichotomy a b with h | h | h
  · rw [cmp_lt h]; simp [h]
  · subst h; simp
  · rw [cmp_gt h]; constructor
    · intro e; cases e
    · intro e; omega
theorem cmp_gt_iff (a b : Int) : compare a b = .gt ↔ b < a := by
  rcases Int.lt_trichotomy a b with h | h | h
  · rw [cmp_lt h]; constructor
    · intro e; cases e
    · intro e; omega
  · subst h; simp
  · rw [cmp_gt h]; simp [h]

theorem rung_rung (n : Nat) : rung (rung n) = rung n := by unfold rung; omega
theorem sgn_rung (n : Nat) : sgn (rung n) = false := by unfold sgn rung; simp
theorem fnan_rung (n : Nat) : fnan (rung n) = fnan n := by unfold fnan; rw [rung_rung]

theorem gt_test (n M : Nat) (hM : M < 9218868437227405312) : (D.order (rung n) M == some .gt) = (!fnan n && decide (M < rung n)) := by
  have h1 : rung M = M := by unfold rung; omega
  have h2 : sgn M = false := by unfold sgn; rw [show M / 9223372036854775808 = 0 by omega]; rfl
  have h3 : fnan M = false := by unfold fnan; rw [h1]; simp; omega
  have h4 : skey M = M := by unfold skey; rw [h1, h2]; rfl
  have h5 : skey (rung n) = rung n := by unfold skey; rw [sgn_rung, rung_rung]; rfl
  rw [order_key, fnan_rung, h3, h4, h5]
  cases h : fnan n
  · rw [Bool.eq_iff_iff]
    simp [cmp_gt_iff]
  · simp

/-- 'Abs(f) > MaxFloat64' -/
theorem inf_test (n : Nat) : (D.order (rung n) 9218868437227405311 == some .gt) = decide (rung n = 9218868437227405312) := by
  rw [gt_test n 9218868437227405311 (by omega), Bool.eq_iff_iff]
  unfold fnan
  simp only [Bool.and_eq_true, Bool.not_eq_true', decide_eq_true_eq, decide_eq_false_iff_not]
  omega

theorem zero_test (n : Nat) : (D.order n 0 == some .eq) = decide (rung n = 0) := by
  rw [order_key, show fnan 0 = false by simp [fnan, rung], show skey 0 = 0 by simp [skey, sgn, rung]]
  unfold skey
  cases h : fnan n
  · rw [Bool.eq_iff_iff]
    cases sgn n <;> simp
  · unfold fnan at h
    simp at h
    simp; omega

theorem toldS_lt (b : Nat) (h : b < 18446744073709551616) : toldS b < 18446744073709551616 := by
  unfold toldS nanC; split <;> omega
end Go.Proofs.YthhbbmebfmfgjaaGreatDoor

/- The bodiless functions of package math, and arithmetic on floats, as the walk meets them. -/
namespace Go.Proofs.YthhbbmebfmfgjaaGreatDoor
open Go.RowKit

@[go_sem] theorem run_frombits (n : Int) (w : World) :
    Sem.run Tryz.prog (callFunc 105 #[Value.int IntKind.u64 n]) w = .ok (.value (.float .f64 n.toNat)) w := by
  rw [run_callFunc_extern Tryz.func105 (by kernel_rfl) (by kernel_rfl) (by kernel_rfl) (e := Extern.MathFloatBits.float64frombits) (by kernel_rfl)]
  rfl

@[go_sem] theorem run_bits (n : Nat) (w : World) :
    Sem.run Tryz.prog (callFunc 101 #[Value.float .f64 n]) w = .ok (.value (.int .u64 n)) w := by
  rw [run_callFunc_extern Tryz.func101 (by kernel_rfl) (by kernel_rfl) (by kernel_rfl) (e := Extern.MathFloatBits.float64bits) (by kernel_rfl)]
  rfl

/-- a NaN that the tape names -/
def nanOf (w : World) (x y : Nat) : Nat := Question.cut (.nanBits .f64 x y) (w.tape w.drawn (.nanBits .f64 x y))

theorem fnan_nanOf (w : World) (x y : Nat) : fnan (nanOf w x y) = true := by
  unfold nanOf Question.cut fnan rung
  generalize w.tape w.drawn (Question.nanBits FloatKind.f64 x y) = t
  simp only [decide_eq_true_eq, Nat.reducePow, Nat.reduceSub]
  have h1 : t % 2 = 0 ∨ t % 2 = 1 := by omega
  generalize t / 2 = q
  generalize t % 2 = r at h1
  rcases h1 with rfl | rfl <;> omega

theorem run_arith (op : BinOp) (hop : op = .add ∨ op = .sub ∨ op = .mul ∨ op = .quo) (t : TypeId) (x y : Nat) (w : World) (h : floatBits op .f64 x y = none) :
    Sem.run Tryz.prog (binOp op t (.float .f64 x) (.float .f64 y)) w = .ok (.float .f64 (nanOf w x y)) w.drew := by
  rcases hop with rfl | rfl | rfl | rfl <;> (simp only [floatBits] at h; simp [binOp, Op.floatArith, h, choose, Sem.run, nanOf, Question.forced])

end Go.Proofs.YthhbbmebfmfgjaaGreatDoor

/- Walks of layer real's small functions (and the reference's). -/
namespace Go.Proofs.YthhbbmebfmfgjaaGreatDoor
open Go.RowKit

theorem int_ret {k : IntKind} {a b : Int} (h : a = b) : Ending.returned (.int k a) = .returned (.int k b) := by rw [h]
theorem bool_ret {a b : Bool} (h : a = b) : Ending.returned (.bool a) = .returned (.bool b) := by rw [h]
theorem float_ret {k : FloatKind} {a b : Nat} (h : a = b) : Ending.returned (.float k a) = .returned (.float k b) := by rw [h]

set_option maxHeartbeats 400000 in
theorem num_any (n : Nat) (w : World) :
    Calls Tryz.prog 96 #[.int .u64 n] w fun e w' => e = .returned (.float .f64 n) ∧ w = w' := by
  go_enter Tryz.func96, Tryz.ntmps96
  go_wp2
  go_ret
  exact ⟨rfl, rfl⟩

set_option maxHeartbeats 400000 in
theorem Num_any (n : Nat) (w : World) :
    Calls Tryz.prog 74 #[.int .u64 n] w fun e w' => e = .returned (.float .f64 n) ∧ w = w' := by
  go_enter Tryz.func74, Tryz.ntmps74
  go_wp2
  go_ret
  exact ⟨rfl, rfl⟩

set_option maxHeartbeats 400000 in
theorem told_any (b : Nat) (w : World) :
    Calls Tryz.prog 99 #[.float .f64 b] w fun e w' => e = .returned (.int .u64 (toldS b : Nat)) ∧ w = w' := by
  cases hf : fnan b
  · have h1 : toldS b = b := by unfold toldS; rw [hf]; rfl
    have h2 : (D.order b b != some .eq) = false := by rw [order_self, hf]
    rw [h1]
    clear h1 hf
    go_enter Tryz.func99, Tryz.ntmps99
    go_wp2
    go_ret
    exact ⟨rfl, rfl⟩
  · have h1 : toldS b = 9221120237041090561 := by unfold toldS nanC; rw [hf]; rfl
    have h2 : (D.order b b != some .eq) = true := by rw [order_self, hf]
    rw [h1]
    clear h1 hf
    go_enter Tryz.func99, Tryz.ntmps99
    go_wp2
    go_ret
    exact ⟨rfl, rfl⟩

set_option maxHeartbeats 400000 in
theorem nan_any (n : Nat) (w : World) :
    Calls Tryz.prog 72 #[.int .u64 n] w fun e w' => e = .returned (.bool (fnan n)) ∧ w = w' := by
  rw [← shl_nan]
  go_enter Tryz.func72, Tryz.ntmps72
  go_wp2
  go_ret
  exact ⟨rfl, rfl⟩

set_option maxHeartbeats 400000 in
theorem inf_any (n : Nat) (w : World) :
    Calls Tryz.prog 73 #[.int .u64 n] w fun e w' => e = .returned (.bool (decide (rung n = 9218868437227405312))) ∧ w = w' := by
  rw [← shl_inf]
  go_enter Tryz.func73, Tryz.ntmps73
  go_wp2
  go_ret
  exact ⟨rfl, rfl⟩

set_option maxHeartbeats 400000 in
theorem Bits_any (b : Nat) (w : World) :
    Calls Tryz.prog 102 #[.float .f64 b] w fun e w' => e = .returned (.int .u64 (toldS b : Nat)) ∧ w = w' := by
  cases hf : fnan b
  · have h1 : toldS b = b := by unfold toldS; rw [hf]; rfl
    rw [h1]
    have c := fun (w : World) => hf ▸ nan_any b w
    clear h1 hf
    go_enter Tryz.func102, Tryz.ntmps102
    go_wp2_with (go_at_call 72; refine (c _).mono ?_; rintro e w' ⟨rfl, rfl⟩)
    go_ret
    exact ⟨rfl, rfl⟩
  · have h1 : toldS b = 9221120237041090561 := by unfold toldS nanC; rw [hf]; rfl
    rw [h1]
    have c := fun (w : World) => hf ▸ nan_any b w
    clear h1 hf
    go_enter Tryz.func102, Tryz.ntmps102
    go_wp2_with (go_at_call 72; refine (c _).mono ?_; rintro e w' ⟨rfl, rfl⟩)
    go_ret
    exact ⟨rfl, rfl⟩

set_option maxHeartbeats 400000 in
theorem abs_any (n : Nat) (hn : n < 18446744073709551616) (w : World) :
    Calls Tryz.prog 97 #[.float .f64 n] w fun e w' => e = .returned (.float .f64 (rung n)) ∧ w = w' := by
  have h := andNot_sign n hn
  go_enter Tryz.func97, Tryz.ntmps97
  go_wp2
  go_ret
  exact ⟨rfl, rfl⟩

set_option maxHeartbeats 400000 in
theorem isInf_any (n : Nat) (hn : n < 18446744073709551616) (w : World) :
    Calls Tryz.prog 98 #[.float .f64 n, .int .i64 0] w fun e w' => e = .returned (.bool (decide (rung n = 9218868437227405312))) ∧ w = w' := by
  rw [← inf_test]
  go_enter Tryz.func98, Tryz.ntmps98
  go_wp2_with (go_at_call 97; refine (abs_any _ hn _).mono ?_; rintro e w' ⟨rfl, rfl⟩)
  go_ret
  exact ⟨rfl, rfl⟩

set_option maxHeartbeats 400000 in
theorem isNaN_any (n : Nat) (w : World) :
    Calls Tryz.prog 206 #[.float .f64 n] w fun e w' => e = .returned (.bool (fnan n)) ∧ w = w' := by
  rw [← order_self]
  go_enter Tryz.func206, Tryz.ntmps206
  go_wp2
  go_ret
  exact ⟨rfl, rfl⟩

set_option maxHeartbeats 400000 in
theorem neg_any (n : Nat) (w : World) :
    Calls Tryz.prog 205 #[.int .u64 n] w fun e w' => e = .returned (.bool (negS n)) ∧ w = w' := by
  unfold negS
  go_enter Tryz.func205, Tryz.ntmps205
  go_wp2
  go_ret
  exact ⟨rfl, rfl⟩

theorem neg_div (n : Nat) (hn : n < 18446744073709551616) : ((n : Int) / 9223372036854775808 == 1) = negS n := by
  unfold negS
  rw [Bool.eq_iff_iff]
  simp only [beq_iff_eq, decide_eq_true_eq]
  omega

set_option maxHeartbeats 400000 in
theorem Neg_any (n : Nat) (hn : n < 18446744073709551616) (w : World) :
    Calls Tryz.prog 210 #[.int .u64 n] w fun e w' => e = .returned (.bool (negS n)) ∧ w = w' := by
  rw [← neg_div n hn]
  go_enter Tryz.func210, Tryz.ntmps210
  go_wp2
  go_ret
  exact ⟨rfl, rfl⟩

def keyS (n : Nat) : Int := if negS n then 9223372036854775807 - (n : Int) % 9223372036854775808 else 9223372036854775808 + n
set_option maxHeartbeats 400000 in
theorem key_any (n : Nat) (hn : n < 18446744073709551616) (w : World) :
    Calls Tryz.prog 173 #[.int .u64 n] w fun e w' => e = .returned (.int .u64 (keyS n)) ∧ w = w' := by
  cases h : negS n
  · have hk : keyS n = 9223372036854775808 + n := by unfold keyS; rw [h]; rfl
    have c := fun (w : World) => h ▸ Neg_any n hn w
    have hlt : n < 9223372036854775808 := by unfold negS at h; simp at h; omega
    rw [hk]
    clear h hk
    go_enter Tryz.func173, Tryz.ntmps173
    go_wp2_with (go_at_call 210; refine (c _).mono ?_; rintro e w' ⟨rfl, rfl⟩)
    go_ret
    exact ⟨rfl, rfl⟩
  · have hk : keyS n = 9223372036854775807 - (n : Int) % 9223372036854775808 := by unfold keyS; rw [h]; rfl
    have c := fun (w : World) => h ▸ Neg_any n hn w
    rw [hk]
    clear h hk
    go_enter Tryz.func173, Tryz.ntmps173
    go_wp2_with (go_at_call 210; refine (c _).mono ?_; rintro e w' ⟨rfl, rfl⟩)
    go_ret
    exact ⟨rfl, rfl⟩
end Go.Proofs.YthhbbmebfmfgjaaGreatDoor

/- Kind, Order, Holds: both texts. -/
namespace Go.Proofs.YthhbbmebfmfgjaaGreatDoor
open Go.RowKit

theorem kind_stale (n : Nat) (h : ((n : Int) == 9218868437227405314) = true) : kindS n = 1 := by
  unfold kindS; rw [if_pos]; simp at h; omega
theorem kind_nan (n : Nat) (h : ((n : Int) == 9218868437227405314) = false) (h2 : fnan n = true) : kindS n = 0 := by
  unfold kindS; rw [if_neg, if_pos h2]; intro e; subst e; simp at h
theorem kind_inf (n : Nat) (h : ((n : Int) == 9218868437227405314) = false) (h2 : fnan n = false) (h3 : decide (rung n = 9218868437227405312) = true) : kindS n = 2 := by
  unfold kindS; rw [if_neg, if_neg, if_pos (by simpa using h3)]
  · simp [h2]
  · intro e; subst e; simp at h
theorem kind_zero (n : Nat) (h : ((n : Int) == 9218868437227405314) = false) (h2 : fnan n = false) (h3 : decide (rung n = 9218868437227405312) = false) (h4 : decide (rung n = 0) = true) : kindS n = 3 := by
  unfold kindS; rw [if_neg, if_neg, if_neg (by simpa using h3), if_pos (by simpa using h4)]
  · simp [h2]
  · intro e; subst e; simp at h
theorem kind_tiny (n : Nat) (h : ((n : Int) == 9218868437227405314) = false) (h2 : fnan n = false) (h3 : decide (rung n = 9218868437227405312) = false) (h4 : decide (rung n = 0) = false) (h5 : decide (rung n < 4503599627370496) = true) : kindS n = 4 := by
  unfold kindS; rw [if_neg, if_neg, if_neg (by simpa using h3), if_neg (by simpa using h4), if_pos (by simpa using h5)]
  · simp [h2]
  · intro e; subst e; simp at h
theorem kind_plain (n : Nat) (h : ((n : Int) == 9218868437227405314) = false) (h2 : fnan n = false) (h3 : decide (rung n = 9218868437227405312) = false) (h4 : decide (rung n = 0) = false) (h5 : decide (rung n < 4503599627370496) = false) : kindS n = 5 := by
  unfold kindS; rw [if_neg, if_neg, if_neg (by simpa using h3), if_neg (by simpa using h4), if_neg (by simpa using h5)]
  · simp [h2]
  · intro e; subst e; simp at h

theorem rung_cast_lt (n : Nat) : decide (((rung n : Nat) : Int) < 4503599627370496) = decide (rung n < 4503599627370496) := by
  rw [Bool.eq_iff_iff]; simp only [decide_eq_true_eq]; omega



set_option maxHeartbeats 800000 in
theorem Kind_any (n : Nat) (w : World) :
    Calls Tryz.prog 26 #[.int .u64 n] w fun e w' => e = .returned (.int .i64 (kindS n)) ∧ w = w' := by
  cases h1 : ((n : Int) == 9218868437227405314)
  · cases h2 : fnan n
    · have c2 := fun (w : World) => h2 ▸ nan_any n w
      cases h3 : decide (rung n = 9218868437227405312)
      · have c3 := fun (w : World) => h3 ▸ inf_any n w
        cases h4 : decide (rung n = 0)
        · have g4 : (IntKind.u64.wrap ((n : Int) * 2) == 0) = false := by rw [shl_zero, h4]
          cases h5 : decide (rung n < 4503599627370496)
          · have g5 : decide (IntKind.u64.wrap ((n : Int) * 2) < 9007199254740992) = false := by rw [shl_tiny, h5]
            rw [kind_plain n h1 h2 h3 h4 h5]
            clear h2 h3 h4 h5
            go_enter Tryz.func26, Tryz.ntmps26
            go_wp2_with (first | (go_at_call 72; refine (c2 _).mono ?_; rintro e w' ⟨rfl, rfl⟩) | (go_at_call 73; refine (c3 _).mono ?_; rintro e w' ⟨rfl, rfl⟩))
            go_ret
            exact ⟨rfl, rfl⟩
          · have g5 : decide (IntKind.u64.wrap ((n : Int) * 2) < 9007199254740992) = true := by rw [shl_tiny, h5]
            rw [kind_tiny n h1 h2 h3 h4 h5]
            clear h2 h3 h4 h5
            go_enter Tryz.func26, Tryz.ntmps26
            go_wp2_with (first | (go_at_call 72; refine (c2 _).mono ?_; rintro e w' ⟨rfl, rfl⟩) | (go_at_call 73; refine (c3 _).mono ?_; rintro e w' ⟨rfl, rfl⟩))
            go_ret
            exact ⟨rfl, rfl⟩
        · have g4 : (IntKind.u64.wrap ((n : Int) * 2) == 0) = true := by rw [shl_zero, h4]
          rw [kind_zero n h1 h2 h3 h4]
          clear h2 h3 h4
          go_enter Tryz.func26, Tryz.ntmps26
          go_wp2_with (first | (go_at_call 72; refine (c2 _).mono ?_; rintro e w' ⟨rfl, rfl⟩) | (go_at_call 73; refine (c3 _).mono ?_; rintro e w' ⟨rfl, rfl⟩))
          go_ret
          exact ⟨rfl, rfl⟩
      · have c3 := fun (w : World) => h3 ▸ inf_any n w
        rw [kind_inf n h1 h2 h3]
        clear h2 h3
        go_enter Tryz.func26, Tryz.ntmps26
        go_wp2_with (first | (go_at_call 72; refine (c2 _).mono ?_; rintro e w' ⟨rfl, rfl⟩) | (go_at_call 73; refine (c3 _).mono ?_; rintro e w' ⟨rfl, rfl⟩))
        go_ret
        exact ⟨rfl, rfl⟩
    · have c2 := fun (w : World) => h2 ▸ nan_any n w
      rw [kind_nan n h1 h2]
      clear h2
      go_enter Tryz.func26, Tryz.ntmps26
      go_wp2_with (first | (go_at_call 72; refine (c2 _).mono ?_; rintro e w' ⟨rfl, rfl⟩))
      go_ret
      exact ⟨rfl, rfl⟩
  · rw [kind_stale n h1]
    go_enter Tryz.func26, Tryz.ntmps26
    go_wp2
    go_ret
    exact ⟨rfl, rfl⟩
end Go.Proofs.YthhbbmebfmfgjaaGreatDoor

/- Order, Holds: both texts. -/
namespace Go.Proofs.YthhbbmebfmfgjaaGreatDoor
open Go.RowKit

theorem cast_beq {a b : Nat} {c : Bool} (h : ((a : Int) == (b : Int)) = c) : (a == b) = c := by
  rw [← h, Bool.eq_iff_iff]; simp only [beq_iff_eq]; omega

set_option maxHeartbeats 400000 in
theorem order_any (a b : Nat) (w : World) :
    Calls Tryz.prog 170 #[.int .u64 a, .int .u64 b] w fun e w' => e = .returned (.int .i64 (orderS a b)) ∧ w = w' := by
  go_enter Tryz.func170, Tryz.ntmps170
  go_wp2_with (go_at_call 205; refine (neg_any _ _).mono ?_; rintro e w' ⟨rfl, rfl⟩)
  all_goals
    go_ret
    refine ⟨int_ret ?_, rfl⟩
    first
      | (have hab := cast_beq (a := a) (b := b) (c := true) (by assumption); simp_all [orderS]; done)
      | (have hab := cast_beq (a := a) (b := b) (c := false) (by assumption); simp_all [orderS]; done)

theorem order_lt {a b : Nat} (ha : a < 18446744073709551616) (hb : b < 18446744073709551616) (h : keyS a < keyS b) : orderS a b = -1 := by
  unfold keyS negS at h
  unfold orderS negS
  simp only [decide_eq_true_eq] at *
  split at h <;> split at h <;> simp_all <;> omega
theorem order_gt {a b : Nat} (ha : a < 18446744073709551616) (hb : b < 18446744073709551616) (h : keyS b < keyS a) : orderS a b = 1 := by
  unfold keyS negS at h
  unfold orderS negS
  simp only [decide_eq_true_eq] at *
  split at h <;> split at h <;> simp_all <;> omega
theorem order_eq {a b : Nat} (ha : a < 18446744073709551616) (hb : b < 18446744073709551616) (h : keyS b ≤ keyS a) (h' : keyS a ≤ keyS b) : orderS a b = 0 := by
  have : a = b := by
    unfold keyS negS at h h'
    simp only [decide_eq_true_eq] at *
    split at h <;> split at h <;> simp_all <;> omega
  unfold orderS; rw [if_pos this]

set_option maxHeartbeats 400000 in
theorem Order_any (a b : Nat) (ha : a < 18446744073709551616) (hb : b < 18446744073709551616) (w : World) :
    Calls Tryz.prog 135 #[.int .u64 a, .int .u64 b] w fun e w' => e = .returned (.int .i64 (orderS a b)) ∧ w = w' := by
  have hlt := @order_lt a b ha hb
  have hgt := @order_gt a b ha hb
  have heq := @order_eq a b ha hb
  have Hlt := Lib.hid hlt
  have Hgt := Lib.hid hgt
  have Heq := Lib.hid heq
  clear hlt hgt heq
  go_enter Tryz.func135, Tryz.ntmps135
  go_wp2_with (go_at_call 173; refine (key_any _ (by assumption) _).mono ?_; rintro e w' ⟨rfl, rfl⟩)
  · go_ret; exact ⟨int_ret (Hlt.out (by assumption)).symm, rfl⟩
  · go_ret; exact ⟨int_ret (Hgt.out (by assumption)).symm, rfl⟩
  · go_ret; exact ⟨int_ret (Heq.out (by assumption) (by assumption)).symm, rfl⟩

set_option maxHeartbeats 400000 in
theorem holds_any (c : Int) (a b : Nat) (w : World) :
    Calls Tryz.prog 63 #[.int .i64 c, .int .u64 a, .int .u64 b] w fun e w' => e = .returned (.bool (holdsS c a b)) ∧ w = w' := by
  go_enter Tryz.func63, Tryz.ntmps63
  go_wp2_with (go_at_call 96; refine (num_any _ _).mono ?_; rintro e w' ⟨rfl, rfl⟩)
  all_goals
    go_ret
    refine ⟨bool_ret ?_, rfl⟩
    simp_all [holdsS]

set_option maxHeartbeats 400000 in
theorem Holds_any (c : Int) (a b : Nat) (w : World) :
    Calls Tryz.prog 27 #[.int .i64 c, .int .u64 a, .int .u64 b] w fun e w' => e = .returned (.bool (holdsS c a b)) ∧ w = w' := by
  go_enter Tryz.func27, Tryz.ntmps27
  go_wp2_with (go_at_call 74; refine (Num_any _ _).mono ?_; rintro e w' ⟨rfl, rfl⟩)
  all_goals
    go_ret
    refine ⟨bool_ret ?_, rfl⟩
    simp_all [holdsS]
  all_goals (unfold bne; cases (FloatKind.f64.format.order a b == some Ordering.eq) <;> rfl)
end Go.Proofs.YthhbbmebfmfgjaaGreatDoor

/- Package math's bodiless functions under contract; better, One, Of: both texts. -/
namespace Go.Proofs.YthhbbmebfmfgjaaGreatDoor
open Go.RowKit

theorem drewN_zero (w : World) : w.drewN 0 = w := rfl
theorem drew_drewN (w : World) : w.drew = w.drewN 1 := rfl

/-- what an operation on floats gives: the word, or some NaN -/
def Arith (o : Option Nat) (r : Nat) : Prop := match o with | some v => r = v | none => fnan r = true

theorem arith_run (op : BinOp) (hop : op = .add ∨ op = .sub ∨ op = .mul ∨ op = .quo) (t : TypeId) (x y : Nat) (w : World) :
    ∃ r k, Sem.run Tryz.prog (binOp op t (.float .f64 x) (.float .f64 y)) w = .ok (.float .f64 r) (w.drewN k) ∧ Arith (floatBits op .f64 x y) r := by
  cases h : floatBits op .f64 x y with
  | some r => exact ⟨r, 0, run_float_arith w op t .f64 x y r h, rfl⟩
  | none => exact ⟨_, 1, run_arith op hop t x y w h, fnan_nanOf w x y⟩

theorem toldS_arith {o : Option Nat} {r : Nat} (h : Arith o r) : toldS r = optT o := by
  cases o with
  | some v => cases h; rfl
  | none => unfold toldS; rw [show fnan r = true from h]; rfl

/-- a number made whole, as a word -/
def intg (way : Ieee.Toward) (n : Nat) : Nat := D.write ((D.read n).integral way)

theorem read_nan {n : Nat} (h : fnan n = true) : ∃ s t, D.read n = .nan s t := by
  rw [read_word]
  unfold fnan at h
  simp at h
  rw [if_neg (by omega), if_neg (by omega)]
  exact ⟨_, _, rfl⟩
theorem read_num {n : Nat} (h : fnan n = false) : (D.read n).isNaN = false := by
  rw [read_word]
  unfold fnan at h
  simp at h
  by_cases g : rung n < 9218868437227405312
  · rw [if_pos g]; rfl
  · rw [if_neg g, if_pos (by omega)]; rfl

/-- what the bodiless function does at a float, by what the float reads as -/
def integ (way : Ieee.Toward) (x : Nat) (d : Ieee.Datum) : Sem Value :=
  match d with
  | .nan s t =>
    if FloatKind.f64.format.quiet t = t then pure (.float .f64 x) else do
    let kept ← choose (.extern "math.Floor,Ceil,Trunc,RoundToEven.signallingNaN kept" 2)
    pure (.float .f64 (if kept == 1 then x else FloatKind.f64.encode (.nan s (FloatKind.f64.format.quiet t))))
  | d => pure (.float .f64 (FloatKind.f64.encode (d.integral way)))
theorem toIntegral_eq (name : String) (way : Ieee.Toward) (x : Nat) : Extern.MathFloor.toIntegral name way #[.float .f64 x] = integ way x (D.read x) := rfl

theorem integral_num (name : String) (way : Ieee.Toward) (n : Nat) (h : fnan n = false) (w : World) :
    Sem.run Tryz.prog (Extern.MathFloor.toIntegral name way #[.float .f64 n]) w = .ok (.float .f64 (intg way n)) w := by
  have g := read_num h
  rw [toIntegral_eq]
  unfold intg
  cases hd : D.read n with
  | number s m p => rfl
  | infinity s => rfl
  | nan s t => rw [hd] at g; cases g

theorem write_nan (s : Bool) (t : Nat) (ht : t % 4503599627370496 ≠ 0) : fnan (D.write (.nan s t)) = true := by
  unfold Ieee.Format.write
  dsimp only
  rw [D_inf, D_binade]
  obtain ⟨_, h⟩ := word_sgn s (9218868437227405312 + t % 4503599627370496) (by omega)
  unfold fnan
  rw [h]
  simp; omega

theorem quiet_ne (t : Nat) : (Ieee.Format.quiet D t) % 4503599627370496 ≠ 0 := by
  unfold Ieee.Format.quiet
  rw [D_frac]
  intro h
  have h1 : (t ||| 2 ^ (52 - 1)).testBit 51 = true := by rw [Nat.testBit_or, Nat.testBit_two_pow]; simp
  have h2 : ((t ||| 2 ^ (52 - 1)) % 2 ^ 52).testBit 51 = true := by rw [Nat.testBit_mod_two_pow, h1]; rfl
  rw [show (2 : Nat) ^ 52 = 4503599627370496 from rfl, h] at h2
  simp at h2

theorem integral_nan (name : String) (way : Ieee.Toward) (n : Nat) (h : fnan n = true) (w : World) :
    ∃ r k, Sem.run Tryz.prog (Extern.MathFloor.toIntegral name way #[.float .f64 n]) w = .ok (.float .f64 r) (w.drewN k) ∧ fnan r = true := by
  obtain ⟨s, t, hd⟩ := read_nan h
  rw [toIntegral_eq, hd]
  unfold integ
  dsimp only
  by_cases q : FloatKind.f64.format.quiet t = t
  · rw [if_pos q]
    exact ⟨n, 0, rfl, h⟩
  · rw [if_neg q]
    simp only [Sem.run_bind, choose, Sem.run, Question.forced, Result.andThen]
    simp
    by_cases g : Question.cut (.extern "math.Floor,Ceil,Trunc,RoundToEven.signallingNaN kept" 2) (w.tape w.drawn (.extern "math.Floor,Ceil,Trunc,RoundToEven.signallingNaN kept" 2)) = 1
    · exact ⟨n, ⟨by rw [if_pos g], 1, rfl⟩, h⟩
    · exact ⟨_, ⟨by rw [if_neg g]; rfl, 1, rfl⟩, write_nan s _ (quiet_ne t)⟩
def SomeNaN (w : World) (e : Ending) (w' : World) : Prop := ∃ r, e = .returned (.float .f64 r) ∧ fnan r = true ∧ ∃ k, w' = w.drewN k

theorem trunc_run (n : Nat) (h : fnan n = false) (w : World) :
    Sem.run Tryz.prog (callFunc 248 #[Value.float .f64 n]) w = .ok (.value (.float .f64 (intg .zero n))) w := by
  rw [run_callFunc_extern Tryz.func248 (by kernel_rfl) (by kernel_rfl) (by kernel_rfl) (e := Extern.MathFloor.toIntegral "math.archTrunc" .zero) (by kernel_rfl), integral_num _ _ _ h]
  rfl
theorem trunc_runN (n : Nat) (h : fnan n = true) (w : World) :
    ∃ r k, Sem.run Tryz.prog (callFunc 248 #[Value.float .f64 n]) w = .ok (.value (.float .f64 r)) (w.drewN k) ∧ fnan r = true := by
  obtain ⟨r, k, h1, h2⟩ := integral_nan "math.archTrunc" .zero n h w
  refine ⟨r, k, ?_, h2⟩
  rw [run_callFunc_extern Tryz.func248 (by kernel_rfl) (by kernel_rfl) (by kernel_rfl) (e := Extern.MathFloor.toIntegral "math.archTrunc" .zero) (by kernel_rfl), h1]
  rfl
set_option maxRecDepth 100000 in
set_option maxHeartbeats 400000 in
theorem trunc_any (n : Nat) (h : fnan n = false) (w : World) :
    Calls Tryz.prog 232 #[.float .f64 n] w fun e w' => e = .returned (.float .f64 (intg .zero n)) ∧ w = w' := by
  have hr := trunc_run n h
  clear h
  go_enter Tryz.func232, Tryz.ntmps232
  go_wp2
  go_ret
  exact ⟨rfl, rfl⟩
set_option maxRecDepth 100000 in
set_option maxHeartbeats 400000 in
theorem trunc_nan (n : Nat) (h : fnan n = true) (w : World) :
    Calls Tryz.prog 232 #[.float .f64 n] w (SomeNaN w) := by
  obtain ⟨r, k, hr, h2⟩ := trunc_runN n h w
  clear h
  have H2 := Lib.hid h2
  clear h2
  go_enter Tryz.func232, Tryz.ntmps232
  go_wp2
  go_ret
  exact ⟨r, rfl, H2.out, k, rfl⟩

theorem floor_run (n : Nat) (h : fnan n = false) (w : World) :
    Sem.run Tryz.prog (callFunc 185 #[Value.float .f64 n]) w = .ok (.value (.float .f64 (intg .down n))) w := by
  rw [run_callFunc_extern Tryz.func185 (by kernel_rfl) (by kernel_rfl) (by kernel_rfl) (e := Extern.MathFloor.toIntegral "math.archFloor" .down) (by kernel_rfl), integral_num _ _ _ h]
  rfl
theorem floor_runN (n : Nat) (h : fnan n = true) (w : World) :
    ∃ r k, Sem.run Tryz.prog (callFunc 185 #[Value.float .f64 n]) w = .ok (.value (.float .f64 r)) (w.drewN k) ∧ fnan r = true := by
  obtain ⟨r, k, h1, h2⟩ := integral_nan "math.archFloor" .down n h w
  refine ⟨r, k, ?_, h2⟩
  rw [run_callFunc_extern Tryz.func185 (by kernel_rfl) (by kernel_rfl) (by kernel_rfl) (e := Extern.MathFloor.toIntegral "math.archFloor" .down) (by kernel_rfl), h1]
  rfl
set_option maxRecDepth 100000 in
set_option maxHeartbeats 400000 in
theorem floor_any (n : Nat) (h : fnan n = false) (w : World) :
    Calls Tryz.prog 149 #[.float .f64 n] w fun e w' => e = .returned (.float .f64 (intg .down n)) ∧ w = w' := by
  have hr := floor_run n h
  clear h
  go_enter Tryz.func149, Tryz.ntmps149
  go_wp2
  go_ret
  exact ⟨rfl, rfl⟩
set_option maxRecDepth 100000 in
set_option maxHeartbeats 400000 in
theorem floor_nan (n : Nat) (h : fnan n = true) (w : World) :
    Calls Tryz.prog 149 #[.float .f64 n] w (SomeNaN w) := by
  obtain ⟨r, k, hr, h2⟩ := floor_runN n h w
  clear h
  have H2 := Lib.hid h2
  clear h2
  go_enter Tryz.func149, Tryz.ntmps149
  go_wp2
  go_ret
  exact ⟨r, rfl, H2.out, k, rfl⟩

theorem ceil_run (n : Nat) (h : fnan n = false) (w : World) :
    Sem.run Tryz.prog (callFunc 187 #[Value.float .f64 n]) w = .ok (.value (.float .f64 (intg .up n))) w := by
  rw [run_callFunc_extern Tryz.func187 (by kernel_rfl) (by kernel_rfl) (by kernel_rfl) (e := Extern.MathFloor.toIntegral "math.archCeil" .up) (by kernel_rfl), integral_num _ _ _ h]
  rfl
theorem ceil_runN (n : Nat) (h : fnan n = true) (w : World) :
    ∃ r k, Sem.run Tryz.prog (callFunc 187 #[Value.float .f64 n]) w = .ok (.value (.float .f64 r)) (w.drewN k) ∧ fnan r = true := by
  obtain ⟨r, k, h1, h2⟩ := integral_nan "math.archCeil" .up n h w
  refine ⟨r, k, ?_, h2⟩
  rw [run_callFunc_extern Tryz.func187 (by kernel_rfl) (by kernel_rfl) (by kernel_rfl) (e := Extern.MathFloor.toIntegral "math.archCeil" .up) (by kernel_rfl), h1]
  rfl
set_option maxRecDepth 100000 in
set_option maxHeartbeats 400000 in
theorem ceil_any (n : Nat) (h : fnan n = false) (w : World) :
    Calls Tryz.prog 150 #[.float .f64 n] w fun e w' => e = .returned (.float .f64 (intg .up n)) ∧ w = w' := by
  have hr := ceil_run n h
  clear h
  go_enter Tryz.func150, Tryz.ntmps150
  go_wp2
  go_ret
  exact ⟨rfl, rfl⟩
set_option maxRecDepth 100000 in
set_option maxHeartbeats 400000 in
theorem ceil_nan (n : Nat) (h : fnan n = true) (w : World) :
    Calls Tryz.prog 150 #[.float .f64 n] w (SomeNaN w) := by
  obtain ⟨r, k, hr, h2⟩ := ceil_runN n h w
  clear h
  have H2 := Lib.hid h2
  clear h2
  go_enter Tryz.func150, Tryz.ntmps150
  go_wp2
  go_ret
  exact ⟨r, rfl, H2.out, k, rfl⟩

theorem sqrt_run (n : Nat) (w : World) :
    ∃ r k, Sem.run Tryz.prog (callFunc 189 #[Value.float .f64 n]) w = .ok (.value (.float .f64 r)) (w.drewN k) ∧ Arith (D.sqrt n) r := by
  have e : ∀ w, Sem.run Tryz.prog (callFunc 189 #[Value.float .f64 n]) w = ((Extern.MathSqrt.sqrt #[Value.float .f64 n]).run Tryz.prog w).andThen fun v w' => .ok (.value v) w' :=
    fun w => run_callFunc_extern Tryz.func189 (by kernel_rfl) (by kernel_rfl) (by kernel_rfl) (e := Extern.MathSqrt.sqrt) (by kernel_rfl) _ _
  have e2 : Extern.MathSqrt.sqrt #[Value.float .f64 n] = (match D.sqrt n with | some r => (pure (.float .f64 r) : Sem Value) | none => (choose (.nanBits .f64 n n) >>= fun t => pure (.float .f64 t))) := rfl
  rw [e, e2]
  cases D.sqrt n with
  | some r => exact ⟨r, 0, rfl, rfl⟩
  | none => exact ⟨nanOf w n n, 1, rfl, fnan_nanOf w n n⟩

/-- a float of an operation, some draws later -/
def SomeArith (o : Option Nat) (w : World) (e : Ending) (w' : World) : Prop := ∃ r, e = .returned (.float .f64 r) ∧ Arith o r ∧ ∃ k, w' = w.drewN k

set_option maxRecDepth 100000 in
set_option maxHeartbeats 400000 in
theorem sqrt_any (n : Nat) (w : World) : Calls Tryz.prog 151 #[.float .f64 n] w (SomeArith (D.sqrt n) w) := by
  obtain ⟨r, k, hr, h2⟩ := sqrt_run n w
  have H2 := Lib.hid h2
  clear h2
  go_enter Tryz.func151, Tryz.ntmps151
  go_wp2
  go_ret
  exact ⟨r, rfl, H2.out, k, rfl⟩

end Go.Proofs.YthhbbmebfmfgjaaGreatDoor

/- better, One, Of: both texts. -/
namespace Go.Proofs.YthhbbmebfmfgjaaGreatDoor
open Go.RowKit

theorem order_lt_zero (a b : Nat) : decide (orderS a b < 0) = (orderS a b == -1) := by
  unfold orderS
  split
  · rfl
  · split
    · split
      · split <;> rfl
      · rfl
    · split
      · rfl
      · split <;> rfl

def betterS (a b : Nat) (want : Int) : Nat := if fnan a then toldS b else if fnan b then a else if orderS a b = want then a else b

set_option maxRecDepth 100000 in
set_option maxHeartbeats 400000 in
theorem better_any (a b : Nat) (want : Int) (w : World) :
    Calls Tryz.prog 133 #[.int .u64 a, .int .u64 b, .int .i64 want] w fun e w' => e = .returned (.int .u64 (betterS a b want : Nat)) ∧ w = w' := by
  cases ha : fnan a
  · have h2 : (D.order a a != some .eq) = false := by rw [order_self, ha]
    cases hb : fnan b
    · have h3 : (D.order b b != some .eq) = false := by rw [order_self, hb]
      cases hw : orderS a b == want
      · have e : betterS a b want = b := by unfold betterS; rw [ha, hb]; simp at hw; simp [hw]
        rw [e]
        clear ha hb e
        go_enter Tryz.func133, Tryz.ntmps133
        go_wp2_with (first | (go_at_call 96; refine (num_any _ _).mono ?_; rintro e w' ⟨rfl, rfl⟩) | (go_at_call 170; refine (order_any _ _ _).mono ?_; rintro e w' ⟨rfl, rfl⟩))
        go_ret
        exact ⟨rfl, rfl⟩
      · have e : betterS a b want = a := by unfold betterS; rw [ha, hb]; simp at hw; simp [hw]
        rw [e]
        clear ha hb e
        go_enter Tryz.func133, Tryz.ntmps133
        go_wp2_with (first | (go_at_call 96; refine (num_any _ _).mono ?_; rintro e w' ⟨rfl, rfl⟩) | (go_at_call 170; refine (order_any _ _ _).mono ?_; rintro e w' ⟨rfl, rfl⟩))
        go_ret
        exact ⟨rfl, rfl⟩
    · have h3 : (D.order b b != some .eq) = true := by rw [order_self, hb]
      have e : betterS a b want = a := by unfold betterS; rw [ha, hb]; simp
      rw [e]
      clear ha hb e
      go_enter Tryz.func133, Tryz.ntmps133
      go_wp2_with (first | (go_at_call 96; refine (num_any _ _).mono ?_; rintro e w' ⟨rfl, rfl⟩))
      go_ret
      exact ⟨rfl, rfl⟩
  · have h2 : (D.order a a != some .eq) = true := by rw [order_self, ha]
    have e : betterS a b want = toldS b := by unfold betterS; rw [ha]; simp
    rw [e]
    clear ha e
    go_enter Tryz.func133, Tryz.ntmps133
    go_wp2_with (first | (go_at_call 96; refine (num_any _ _).mono ?_; rintro e w' ⟨rfl, rfl⟩) | (go_at_call 99; refine (told_any _ _).mono ?_; rintro e w' ⟨rfl, rfl⟩))
    go_ret
    exact ⟨rfl, rfl⟩

theorem order_three (a b : Nat) : orderS a b = -1 ∨ orderS a b = 0 ∨ orderS a b = 1 := by
  unfold orderS
  split
  · simp
  · split
    · split
      · split <;> simp
      · simp
    · split
      · simp
      · split <;> simp

theorem order_zero {a b : Nat} (h : orderS a b = 0) : a = b := by
  unfold orderS at h
  split at h
  · assumption
  · split at h
    · split at h
      · split at h <;> simp at h
      · simp at h
    · split at h
      · simp at h
      · split at h <;> simp at h

/-- 'one' of the reference, ahead or not -/
def oneS (a b : Nat) (ahead : Bool) : Nat := betterS a b (if ahead then -1 else 1)

theorem one_pick (a b : Nat) (ahead : Bool) (ha : fnan a = false) (hb : fnan b = false) (h : (decide (orderS a b < 0) == ahead) = true) : oneS a b ahead = a := by
  unfold oneS betterS
  rw [ha, hb]
  rw [order_lt_zero] at h
  rcases order_three a b with e | e | e <;> cases ahead <;> simp_all
  exact (order_zero e).symm
theorem one_leave (a b : Nat) (ahead : Bool) (ha : fnan a = false) (hb : fnan b = false) (h : (decide (orderS a b < 0) == ahead) = false) : oneS a b ahead = b := by
  unfold oneS betterS
  rw [ha, hb]
  rw [order_lt_zero] at h
  rcases order_three a b with e | e | e <;> cases ahead <;> simp_all

set_option maxRecDepth 100000 in
set_option maxHeartbeats 400000 in
theorem one_any (a b : Nat) (hA : a < 18446744073709551616) (hB : b < 18446744073709551616) (ahead : Bool) (w : World) :
    Calls Tryz.prog 104 #[.int .u64 a, .int .u64 b, .bool ahead] w fun e w' => e = .returned (.int .u64 (oneS a b ahead : Nat)) ∧ w = w' := by
  have ca := nan_any a
  have cb := nan_any b
  have co := Order_any a b hA hB
  cases ha : fnan a
  · rw [ha] at ca
    cases hb : fnan b
    · rw [hb] at cb
      cases hw : (decide (orderS a b < 0) == ahead)
      · rw [one_leave a b ahead ha hb hw]
        clear ha hb hA hB
        go_enter Tryz.func104, Tryz.ntmps104
        go_wp2_with (first | (go_at_call 72; (first | (with_reducible refine (ca _).mono ?_) | (with_reducible refine (cb _).mono ?_)); rintro e w' ⟨rfl, rfl⟩) | (go_at_call 135; refine (co _).mono ?_; rintro e w' ⟨rfl, rfl⟩))
        go_ret
        exact ⟨rfl, rfl⟩
      · rw [one_pick a b ahead ha hb hw]
        clear ha hb hA hB
        go_enter Tryz.func104, Tryz.ntmps104
        go_wp2_with (first | (go_at_call 72; (first | (with_reducible refine (ca _).mono ?_) | (with_reducible refine (cb _).mono ?_)); rintro e w' ⟨rfl, rfl⟩) | (go_at_call 135; refine (co _).mono ?_; rintro e w' ⟨rfl, rfl⟩))
        go_ret
        exact ⟨rfl, rfl⟩
    · rw [hb] at cb
      have e : oneS a b ahead = a := by unfold oneS betterS; rw [ha, hb]; simp
      rw [e]
      clear ha hb hA hB e
      go_enter Tryz.func104, Tryz.ntmps104
      go_wp2_with (first | (go_at_call 72; (first | (with_reducible refine (ca _).mono ?_) | (with_reducible refine (cb _).mono ?_)); rintro e w' ⟨rfl, rfl⟩))
      go_ret
      exact ⟨rfl, rfl⟩
  · rw [ha] at ca
    have e : oneS a b ahead = toldS b := by unfold oneS betterS; rw [ha]; simp
    rw [e]
    clear ha hA hB e
    go_enter Tryz.func104, Tryz.ntmps104
    go_wp2_with (first | (go_at_call 72; refine (ca _).mono ?_; rintro e w' ⟨rfl, rfl⟩) | (go_at_call 74; refine (Num_any _ _).mono ?_; rintro e w' ⟨rfl, rfl⟩) | (go_at_call 102; refine (Bits_any _ _).mono ?_; rintro e w' ⟨rfl, rfl⟩))
    go_ret
    exact ⟨rfl, rfl⟩

def ofS (n : Int) : Nat := toldS (floatOfInt .f64 n)
set_option maxRecDepth 100000 in
set_option maxHeartbeats 400000 in
theorem of_any (n : Int) (w : World) :
    Calls Tryz.prog 56 #[.int .i64 n] w fun e w' => e = .returned (.int .u64 (ofS n : Nat)) ∧ w = w' := by
  go_enter Tryz.func56, Tryz.ntmps56
  go_wp2_with (first | (go_at_call 99; refine (told_any _ _).mono ?_; rintro e w' ⟨rfl, rfl⟩))
  go_ret
  exact ⟨rfl, rfl⟩
set_option maxRecDepth 100000 in
set_option maxHeartbeats 400000 in
theorem Of_any (n : Int) (w : World) :
    Calls Tryz.prog 61 #[.int .i64 n] w fun e w' => e = .returned (.int .u64 (ofS n : Nat)) ∧ w = w' := by
  go_enter Tryz.func61, Tryz.ntmps61
  go_wp2_with (first | (go_at_call 102; refine (Bits_any _ _).mono ?_; rintro e w' ⟨rfl, rfl⟩))
  go_ret
  exact ⟨rfl, rfl⟩
end Go.Proofs.YthhbbmebfmfgjaaGreatDoor

/- One: both texts. -/
namespace Go.Proofs.YthhbbmebfmfgjaaGreatDoor
open Go.RowKit

/-- the opposite word -/
def oppW (n : Nat) : Nat := D.word (!sgn n) (rung n)

def oneOpS (op : Int) (v : Nat) : Nat :=
  if fnan v then nanC else if op = 0 then rung v else if op = 1 then oppW v else if op = 2 then toldS (intg .down v)
  else if op = 3 then toldS (intg .up v) else if op = 4 then optT (D.sqrt v) else nanC

theorem fnan_oppW (v : Nat) : fnan (oppW v) = fnan v := by
  unfold fnan oppW; rw [(word_sgn _ _ (rung_lt v)).2]

theorem toldS_of_num {v : Nat} (h : fnan v = false) : toldS v = v := by unfold toldS; rw [h]; rfl
theorem toldS_of_nan {v : Nat} (h : fnan v = true) : toldS v = nanC := by unfold toldS; rw [h]; rfl

/-- a value, some draws later -/
def Told (v : Nat) (w : World) (e : Ending) (w' : World) : Prop := e = .returned (.int .u64 (v : Nat)) ∧ ∃ k, w' = w.drewN k

theorem Told.same {u v : Nat} {w : World} (h : u = v) : Told v w (.returned (.int .u64 (u : Nat))) w := ⟨by rw [h], 0, rfl⟩
theorem Told.some {u v : Nat} {w w' : World} {k : Nat} (h : u = v) (hw : w' = w.drewN k) : Told v w (.returned (.int .u64 (u : Nat))) w' := ⟨by rw [h], k, hw⟩

theorem sqrt_nan {v : Nat} (h : fnan v = true) : D.sqrt v = none := by
  obtain ⟨s, t, hd⟩ := read_nan h
  unfold Ieee.Format.sqrt
  rw [hd]; rfl

theorem one_end {op : Int} {v : Nat} (_ : (op == 0) = false) (_ : (op == 1) = false) (_ : (op == 2) = false) (_ : (op == 3) = false) (_ : (op == 4) = false) : oneOpS op v = nanC := by
  unfold oneOpS; simp_all

set_option maxRecDepth 100000 in
set_option maxHeartbeats 800000 in
theorem realOne_num (op : Int) (v : Nat) (hv : v < 18446744073709551616) (h : fnan v = false) (w : World) :
    Calls Tryz.prog 117 #[.int .i64 op, .int .u64 v] w (Told (oneOpS op v) w) := by
  have hx := xor_sign v hv
  rw [show (Ieee.Format.word D (!sgn v) (rung v)) = oppW v from rfl] at hx
  have hfl := floor_any v h
  have hce := ceil_any v h
  have Hn := Lib.hid h
  clear h
  go_enter Tryz.func117, Tryz.ntmps117
  go_wp2_with (first | (go_at_call 96; refine (num_any _ _).mono ?_; rintro e w' ⟨rfl, rfl⟩) | (go_at_call 97; refine (abs_any _ hv _).mono ?_; rintro e w' ⟨rfl, rfl⟩) | (go_at_call 149; refine (hfl _).mono ?_; rintro e w' ⟨rfl, rfl⟩) | (go_at_call 150; refine (hce _).mono ?_; rintro e w' ⟨rfl, rfl⟩) | (go_at_call 151; refine (sqrt_any _ _).mono ?_; rintro e w' ⟨r, rfl, ha, k, hk⟩; have Ha := Lib.hid ha; have Hk := Lib.hid hk; clear ha hk) | (go_at_call 99; refine (told_any _ _).mono ?_; rintro e w' ⟨rfl, rfl⟩))
  · go_ret
    exact Told.same (by rw [toldS_of_num (by rw [fnan_rung]; exact Hn.out)]; unfold oneOpS; rw [Hn.out]; simp_all)
  · go_ret
    exact Told.same (by rw [toldS_of_num (by rw [fnan_oppW]; exact Hn.out)]; unfold oneOpS; rw [Hn.out]; simp_all)
  · go_ret
    exact Told.same (by unfold oneOpS; rw [Hn.out]; simp_all)
  · go_ret
    exact Told.same (by unfold oneOpS; rw [Hn.out]; simp_all)
  · go_ret
    exact Told.some (by rw [toldS_arith Ha.out]; unfold oneOpS; rw [Hn.out]; simp_all) Hk.out
  · go_ret
    exact Told.same (by rw [one_end (by assumption) (by assumption) (by assumption) (by assumption) (by assumption)]; rfl)

set_option maxRecDepth 100000 in
set_option maxHeartbeats 800000 in
theorem realOne_nan (op : Int) (v : Nat) (hv : v < 18446744073709551616) (h : fnan v = true) (w : World) :
    Calls Tryz.prog 117 #[.int .i64 op, .int .u64 v] w (Told (oneOpS op v) w) := by
  have hx := xor_sign v hv
  rw [show (Ieee.Format.word D (!sgn v) (rung v)) = oppW v from rfl] at hx
  have hfl := floor_nan v h
  have hce := ceil_nan v h
  have hr : oneOpS op v = nanC := by unfold oneOpS; rw [h]; rfl
  rw [hr]
  have Hn := Lib.hid h
  clear h hr
  go_enter Tryz.func117, Tryz.ntmps117
  go_wp2_with (first | (go_at_call 96; refine (num_any _ _).mono ?_; rintro e w' ⟨rfl, rfl⟩) | (go_at_call 97; refine (abs_any _ hv _).mono ?_; rintro e w' ⟨rfl, rfl⟩) | (go_at_call 149; refine (hfl _).mono ?_; rintro e w' ⟨r, rfl, ha, k, hk⟩; have Ha := Lib.hid ha; have Hk := Lib.hid hk; clear ha hk) | (go_at_call 150; refine (hce _).mono ?_; rintro e w' ⟨r, rfl, ha, k, hk⟩; have Ha := Lib.hid ha; have Hk := Lib.hid hk; clear ha hk) | (go_at_call 151; refine (sqrt_any _ _).mono ?_; rintro e w' ⟨r, rfl, ha, k, hk⟩; have Ha := Lib.hid ha; have Hk := Lib.hid hk; clear ha hk) | (go_at_call 99; refine (told_any _ _).mono ?_; rintro e w' ⟨rfl, rfl⟩))
  · go_ret
    exact Told.same (toldS_of_nan (by rw [fnan_rung]; exact Hn.out))
  · go_ret
    exact Told.same (toldS_of_nan (by rw [fnan_oppW]; exact Hn.out))
  · go_ret
    exact Told.some (toldS_of_nan Ha.out) Hk.out
  · go_ret
    exact Told.some (toldS_of_nan Ha.out) Hk.out
  · go_ret
    exact Told.some (by rw [toldS_arith Ha.out, sqrt_nan Hn.out]; rfl) Hk.out
  · go_ret
    exact Told.same rfl

theorem realOne_any (op : Int) (v : Nat) (hv : v < 18446744073709551616) (w : World) :
    Calls Tryz.prog 117 #[.int .i64 op, .int .u64 v] w (Told (oneOpS op v) w) := by
  cases h : fnan v
  · exact realOne_num op v hv h w
  · exact realOne_nan op v hv h w

theorem mod_sign (v : Nat) : (v : Int) % 9223372036854775808 = ((rung v : Nat) : Int) := by unfold rung; omega


end Go.Proofs.YthhbbmebfmfgjaaGreatDoor
