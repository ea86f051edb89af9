import Derived.Test.YthhbbmebfmfgjaaGreatDoorR1
import Derived.RowKit3
import Derived.OpenShut
/- Plain facts on numbers made whole. -/
namespace Go.Proofs.YthhbbmebfmfgjaaGreatDoor
open Ieee

theorem cut_le (way : Toward) (neg : Bool) (n d : Nat) : ∃ b, way.cut neg n d = n / 2 ^ d + b ∧ b ≤ 1 ∧ (b = 1 → n % 2 ^ d ≠ 0) ∧ (way = .zero → b = 0) := by
  have hgap : ∀ g, g = 1 <<< min d (n.log2 + 2) → n / g = n / 2 ^ d ∧ (n % g ≠ 0 → n % 2 ^ d ≠ 0) ∧ 0 < g := by
    intro g hg
    rw [Nat.shiftLeft_eq, Nat.one_mul] at hg
    rcases Nat.le_total d (n.log2 + 2) with h | h
    · rw [Nat.min_eq_left h] at hg
      subst hg
      exact ⟨rfl, id, Nat.two_pow_pos d⟩
    · rw [Nat.min_eq_right h] at hg
      have h1 : n < 2 ^ (n.log2 + 2) := Nat.lt_of_lt_of_le (Nat.lt_log2_self (n := n)) (Nat.pow_le_pow_right (by decide) (by omega))
      have h2 : n < 2 ^ d := Nat.lt_of_lt_of_le h1 (Nat.pow_le_pow_right (by decide) h)
      rw [hg, Nat.div_eq_of_lt h1, Nat.div_eq_of_lt h2, Nat.mod_eq_of_lt h1, Nat.mod_eq_of_lt h2]
      exact ⟨rfl, id, Nat.two_pow_pos _⟩
  unfold Toward.cut
  obtain ⟨h1, h2, h3⟩ := hgap _ rfl
  dsimp only
  generalize 1 <<< min d (n.log2 + 2) = g at h1 h2 h3 ⊢
  rw [← h1]
  refine ⟨_, rfl, ?_, ?_, ?_⟩
  · exact Bool.toNat_le _
  · intro hb
    apply h2
    intro h0
    rw [h0] at hb
    cases way <;> simp at hb
    omega
  · rintro rfl; rfl

theorem cut_whole (way : Toward) (neg : Bool) (n d : Nat) (h : n % 2 ^ d = 0) : way.cut neg n d = n / 2 ^ d := by
  obtain ⟨b, h1, h2, h3, _⟩ := cut_le way neg n d
  have : b = 0 := by
    rcases Nat.lt_or_ge b 1 with g | g
    · omega
    · exact absurd h (h3 (by omega))
  rw [h1, this, Nat.add_zero]

/-- is a rung a whole number? -/
def intB (r : Nat) : Bool := units r % 2 ^ B74 == 0
/-- the whole part -/
def wholePart (r : Nat) : Nat := units r / 2 ^ B74

theorem read_fin {n : Nat} (h : rung n < 9218868437227405312) : D.read n = .number (sgn n) (mant (rung n)) (-1074 + (lift (rung n) : Int)) := by
  rw [read_word, if_pos h]

theorem div_split (m l : Nat) (h : l ≤ B74) : m * 2 ^ l / 2 ^ B74 = m / 2 ^ (B74 - l) ∧ (m * 2 ^ l % 2 ^ B74 = 0 ↔ m % 2 ^ (B74 - l) = 0) := by
  have e : (2 : Nat) ^ B74 = 2 ^ (B74 - l) * 2 ^ l := by rw [← Nat.pow_add, Nat.sub_add_cancel h]
  generalize (2 : Nat) ^ B74 = P at e ⊢
  rw [e, Nat.mul_div_mul_right _ _ (Nat.two_pow_pos l), Nat.mul_mod_mul_right]
  have hp := Nat.two_pow_pos l
  refine ⟨rfl, ?_⟩
  rw [Nat.mul_eq_zero]
  constructor
  · rintro (h | h)
    · exact h
    · omega
  · intro h; exact Or.inl h

theorem split_pow (m l k : Nat) (h : k ≤ l) : m * 2 ^ l = m * 2 ^ (l - k) * 2 ^ k := by
  rw [Nat.mul_assoc, ← Nat.pow_add, Nat.sub_add_cancel h]

/-- what is left of a finite number that is made whole: a whole number not far from its whole part -/
theorem integral_fin (way : Toward) {n : Nat} (h : rung n < 9218868437227405312) :
    ∃ k b, (D.read n).integral way = .number (sgn n) k 0 ∧ k = wholePart (rung n) + b ∧ b ≤ 1 ∧ (b = 1 → intB (rung n) = false) ∧ (way = .zero → b = 0)
      ∧ (lift (rung n) < B74 → k ≤ 9007199254740992) ∧ (B74 ≤ lift (rung n) → intB (rung n) = true) := by
  have hB := B74_eq
  rw [read_fin h]
  unfold Datum.integral
  dsimp only
  rcases Nat.lt_or_ge (lift (rung n)) B74 with hl | hl
  · have e1 : (-1074 + (lift (rung n) : Int)).toNat = 0 := by omega
    have e2 : (-(-1074 + (lift (rung n) : Int))).toNat = B74 - lift (rung n) := by omega
    rw [e1, e2, Nat.shiftLeft_zero]
    obtain ⟨b, h1, h2, h3, h4⟩ := cut_le way (sgn n) (mant (rung n)) (B74 - lift (rung n))
    obtain ⟨d1, d2⟩ := div_split (mant (rung n)) (lift (rung n)) (by omega)
    refine ⟨_, b, rfl, ?_, h2, ?_, h4, ?_, by omega⟩
    · rw [h1]; unfold wholePart units; rw [d1]
    · intro hb
      unfold intB units
      have := h3 hb
      rw [beq_eq_false_iff_ne]
      exact fun g => this (d2.1 g)
    · intro _
      rw [h1]
      have hm := mant_lt (rung n)
      obtain ⟨q, hq⟩ : ∃ q, B74 - lift (rung n) = q + 1 := ⟨B74 - 1 - lift (rung n), by omega⟩
      rw [hq, Nat.pow_succ, Nat.mul_comm, ← Nat.div_div_eq_div_mul]
      have : mant (rung n) / 2 / 2 ^ q ≤ mant (rung n) / 2 := Nat.div_le_self _ _
      omega
  · have e1 : (-1074 + (lift (rung n) : Int)).toNat = lift (rung n) - B74 := by omega
    have e2 : (-(-1074 + (lift (rung n) : Int))).toNat = 0 := by omega
    rw [e1, e2, cut_zero, Nat.shiftLeft_eq]
    have hu : units (rung n) = mant (rung n) * 2 ^ (lift (rung n) - B74) * 2 ^ B74 := by
      exact split_pow _ _ _ hl
    have hi : intB (rung n) = true := by unfold intB; rw [hu, Nat.mul_mod_left]; rfl
    refine ⟨_, 0, rfl, ?_, by omega, by omega, fun _ => rfl, by omega, fun _ => hi⟩
    unfold wholePart
    rw [hu, Nat.mul_div_cancel _ (Nat.two_pow_pos _), Nat.add_zero]

theorem fnan_fin {n : Nat} (h : rung n < 9218868437227405312) : fnan n = false := by unfold fnan; simp; omega

theorem intg_of (way : Toward) {n k r : Nat} (hd : (D.read n).integral way = .number (sgn n) k 0) (hr : r < 9218868437227405312) (h : units r = k * 2 ^ B74) : intg way n = D.word (sgn n) r := by
  unfold intg
  rw [hd]
  unfold Format.write
  dsimp only
  have h3 := nearest_units (sgn n) k r B74 0 hr (by rw [h, Nat.pow_zero, Nat.mul_one])
  rw [show ((B74 : Nat) : Int) - ((0 : Nat) : Int) - 1074 = 0 by rw [B74_eq]; omega] at h3
  exact h3

theorem intg_whole (way : Toward) {n : Nat} (hn : n < 18446744073709551616) (h : rung n < 9218868437227405312) (hi : intB (rung n) = true) : intg way n = n := by
  obtain ⟨k, b, hd, hk, hb, hb1, _, _, _⟩ := integral_fin way h
  have b0 : b = 0 := by
    rcases Nat.lt_or_ge b 1 with g | g
    · omega
    · have := hb1 (by omega); rw [hi] at this; cases this
  rw [intg_of way hd h (by
    rw [hk, b0, Nat.add_zero]
    unfold wholePart
    unfold intB at hi
    rw [beq_iff_eq] at hi
    exact (Nat.div_mul_cancel (Nat.dvd_of_mod_eq_zero hi)).symm), word_self n hn]

theorem intg_part (way : Toward) {n : Nat} (h : rung n < 9218868437227405312) (hi : intB (rung n) = false) :
    ∃ r, r < 9218868437227405312 ∧ intg way n = D.word (sgn n) r ∧ units r ≠ units (rung n) := by
  obtain ⟨k, b, hd, _, _, _, _, hl, hl2⟩ := integral_fin way h
  have hlt : lift (rung n) < B74 := by
    rcases Nat.lt_or_ge (lift (rung n)) B74 with g | g
    · exact g
    · have := hl2 g; rw [hi] at this; cases this
  obtain ⟨r, h1, h2, _⟩ := nearest_int (sgn n) k (hl hlt)
  refine ⟨r, h1, intg_of way hd h1 h2, ?_⟩
  intro e
  unfold intB at hi
  rw [← e, h2, Nat.mul_mod_left] at hi
  cases hi

/-- IS A FINITE NUMBER THE SAME AS ITSELF MADE WHOLE? If it is whole: whichever way. -/
theorem whole_test (way : Toward) {n : Nat} (hn : n < 18446744073709551616) (h : rung n < 9218868437227405312) :
    (D.order n (intg way n) == some .eq) = intB (rung n) ∧ (D.order (intg way n) n == some .eq) = intB (rung n) := by
  cases hi : intB (rung n)
  · obtain ⟨r, h1, h2, h3⟩ := intg_part way h hi
    obtain ⟨s1, s2⟩ := word_sgn (sgn n) r (by omega)
    have hne : r ≠ rung n := fun e => h3 (by rw [e])
    have hf : fnan (intg way n) = false := fnan_fin (by rw [h2, s2]; exact h1)
    have hk : skey n ≠ skey (intg way n) := by
      unfold skey
      rw [h2, s1, s2]
      cases sgn n <;> simp <;> omega
    rw [order_key, order_key, hf, fnan_fin h]
    constructor
    · rw [beq_eq_false_iff_ne]
      intro e
      simp only [Bool.or_self, Bool.false_eq_true, if_false, Option.some.injEq] at e
      exact hk ((cmp_eq_iff _ _).1 e)
    · rw [beq_eq_false_iff_ne]
      intro e
      simp only [Bool.or_self, Bool.false_eq_true, if_false, Option.some.injEq] at e
      exact hk ((cmp_eq_iff _ _).1 e).symm
  · rw [intg_whole way hn h hi, order_key, fnan_fin h]
    simp

theorem intg_inf (way : Toward) {n : Nat} (hn : n < 18446744073709551616) (h : rung n = 9218868437227405312) : intg way n = n := by
  unfold intg
  rw [read_word, if_neg (by omega), if_pos h]
  unfold Datum.integral Format.write
  dsimp only
  rw [D_inf, ← h]
  exact word_self n hn

/-- the whole number that a word is, cut off -/
def wholeN (n : Nat) : Int := if sgn n then -(wholePart (rung n) : Int) else wholePart (rung n)
/-- IS A WORD A WHOLE NUMBER, FROM -2^63 ON AND BELOW 2^63? -/
def wholeB (n : Nat) : Bool := decide (rung n < 9218868437227405312) && intB (rung n) && decide (-4890909195324358656 ≤ skey n) && decide (skey n < 4890909195324358656)

theorem edge_pow (k : Nat) : 4503599627370496 * 2 ^ (11 + k) = 9223372036854775808 * 2 ^ k := by
  rw [Nat.pow_add, ← Nat.mul_assoc]

theorem units_edge : units 4890909195324358656 = 9223372036854775808 * 2 ^ B74 := by
  have h1 : mant 4890909195324358656 = 4503599627370496 := by unfold mant; rw [if_neg (by omega)]
  have h2 : lift 4890909195324358656 = 1085 := by unfold lift; rw [if_neg (by omega)]
  unfold units
  rw [h1, h2, show 1085 = 11 + B74 by rw [B74_eq]]
  exact edge_pow B74

theorem whole_range {n : Nat} (h1 : -4890909195324358656 ≤ skey n) (h2 : skey n < 4890909195324358656) : -9223372036854775808 ≤ wholeN n ∧ wholeN n ≤ 9223372036854775807 := by
  unfold wholeN wholePart
  have hp := Nat.two_pow_pos B74
  have he := units_edge
  unfold skey at h1 h2
  cases hs : sgn n
  · rw [hs] at h1 h2
    simp only [Bool.false_eq_true, if_false] at *
    have := @units_lt (rung n) 4890909195324358656 (by omega)
    rw [he] at this
    have := (Nat.div_lt_iff_lt_mul hp).2 this
    generalize units (rung n) / 2 ^ B74 = q at *
    omega
  · rw [hs] at h1 h2
    simp only [if_true] at *
    have := @units_le (rung n) 4890909195324358656 (by omega)
    rw [he] at this
    have : units (rung n) / 2 ^ B74 ≤ 9223372036854775808 := by
      have g := Nat.div_le_div_right (c := 2 ^ B74) this
      rw [Nat.mul_div_cancel _ hp] at g
      exact g
    generalize units (rung n) / 2 ^ B74 = q at *
    omega

theorem toInt_fin {n : Nat} (h : rung n < 9218868437227405312) : (D.read n).toInt .zero = some (wholeN n) := by
  obtain ⟨k, b, hd, hk, _, _, hz, _, _⟩ := integral_fin .zero h
  unfold Datum.toInt
  rw [hd]
  dsimp only
  have := hz rfl
  subst this
  unfold signed wholeN
  rw [hk]
  cases sgn n <;> simp

theorem whole_val {n : Nat} (h : wholeB n = true) : floatToIntVal .f64 n .i64 = some (wholeN n) := by
  unfold wholeB at h
  simp only [Bool.and_eq_true, decide_eq_true_eq] at h
  obtain ⟨⟨⟨h1, _⟩, h3⟩, h4⟩ := h
  have hr := whole_range h3 h4
  unfold floatToIntVal
  have e : (FloatKind.f64.decode n).toInt .zero = some (wholeN n) := toInt_fin h1
  rw [e]
  dsimp only
  rw [if_pos]
  exact ⟨hr.1, hr.2⟩

theorem lo_test (n : Nat) : (D.order n 14114281232179134464 == some .lt) = (!fnan n && decide (skey n < -4890909195324358656)) := by
  rw [order_key, show fnan 14114281232179134464 = false by simp [fnan, rung], show skey 14114281232179134464 = -4890909195324358656 by simp [skey, sgn, rung]]
  cases fnan n
  · rw [Bool.eq_iff_iff]; simp [cmp_lt_iff]
  · simp
theorem hi_test (n : Nat) : (D.order n 4890909195324358656 == some .gt || D.order n 4890909195324358656 == some .eq) = (!fnan n && decide (4890909195324358656 ≤ skey n)) := by
  rw [order_key, show fnan 4890909195324358656 = false by simp [fnan, rung], show skey 4890909195324358656 = 4890909195324358656 by simp [skey, sgn, rung]]
  cases fnan n
  · rw [Bool.eq_iff_iff]; simp [cmp_gt_iff]; omega
  · simp

end Go.Proofs.YthhbbmebfmfgjaaGreatDoor

/- Whole: both texts. -/
namespace Go.Proofs.YthhbbmebfmfgjaaGreatDoor
open Go.RowKit

def wholeS (n : Nat) : Int := if wholeB n then wholeN n else 0

/-- 'f != trunc(f) || f < -(1<<63) || f >= 1<<63', test by test -/
theorem whole_no {n : Nat} (hn : n < 18446744073709551616) (hf : fnan n = false) (way : Ieee.Toward)
    (h : (D.order n (intg way n) != some .eq) = true ∨ (D.order n 14114281232179134464 == some .lt) = true ∨ (D.order n 4890909195324358656 == some .gt || D.order n 4890909195324358656 == some .eq) = true) : wholeB n = false := by
  rw [lo_test, hi_test, hf] at h
  unfold wholeB
  rcases h with h | h | h
  · by_cases g : rung n < 9218868437227405312
    · have e := (whole_test way hn g).1
      unfold bne at h
      rw [e] at h
      simp at h
      rw [h]; simp
    · simp [g]
  · simp at h
    simp; intros; omega
  · simp at h
    simp; intros; omega

theorem whole_no' {n : Nat} (hn : n < 18446744073709551616) (hf : fnan n = false) (way : Ieee.Toward)
    (h : (D.order (intg way n) n != some .eq) = true ∨ (D.order n 14114281232179134464 == some .lt) = true ∨ (D.order n 4890909195324358656 == some .gt || D.order n 4890909195324358656 == some .eq) = true) : wholeB n = false := by
  rw [lo_test, hi_test, hf] at h
  unfold wholeB
  rcases h with h | h | h
  · by_cases g : rung n < 9218868437227405312
    · have e := (whole_test way hn g).2
      unfold bne at h
      rw [e] at h
      simp at h
      rw [h]; simp
    · simp [g]
  · simp at h
    simp; intros; omega
  · simp at h
    simp; intros; omega

theorem fin_of {n : Nat} (hf : fnan n = false) (h1 : -4890909195324358656 ≤ skey n) (h2 : skey n < 4890909195324358656) : rung n < 9218868437227405312 := by
  unfold fnan at hf
  unfold skey at h1 h2
  simp at hf
  cases hs : sgn n <;> rw [hs] at h1 h2 <;> simp at h1 h2 <;> omega

theorem whole_yes {n : Nat} (hn : n < 18446744073709551616) (hf : fnan n = false) (way : Ieee.Toward)
    (h1 : (D.order n (intg way n) != some .eq) = false) (h2 : (D.order n 14114281232179134464 == some .lt) = false) (h3 : (D.order n 4890909195324358656 == some .gt || D.order n 4890909195324358656 == some .eq) = false) : wholeB n = true := by
  rw [lo_test, hf] at h2
  rw [hi_test, hf] at h3
  simp at h2 h3
  have g := fin_of hf h2 h3
  have e := (whole_test way hn g).1
  unfold bne at h1
  rw [e] at h1
  simp at h1
  unfold wholeB
  simp [g, h1, h2, h3]

theorem whole_yes' {n : Nat} (hn : n < 18446744073709551616) (hf : fnan n = false) (way : Ieee.Toward)
    (h1 : (D.order (intg way n) n != some .eq) = false) (h2 : (D.order n 14114281232179134464 == some .lt) = false) (h3 : (D.order n 4890909195324358656 == some .gt || D.order n 4890909195324358656 == some .eq) = false) : wholeB n = true := by
  rw [lo_test, hf] at h2
  rw [hi_test, hf] at h3
  simp at h2 h3
  have g := fin_of hf h2 h3
  have e := (whole_test way hn g).2
  unfold bne at h1
  rw [e] at h1
  simp at h1
  unfold wholeB
  simp [g, h1, h2, h3]

theorem wholeB_nan {n : Nat} (hf : fnan n = true) : wholeB n = false := by
  unfold fnan at hf
  simp at hf
  unfold wholeB
  simp; intros; omega

/-- 'n, is', some draws later -/
def ToldWhole (n : Nat) (w : World) (e : Ending) (w' : World) : Prop := e = .returned (.tuple #[.int .i64 (wholeS n), .bool (wholeB n)]) ∧ ∃ k, w' = w.drewN k

theorem ToldWhole.no {n : Nat} {w w' : World} {k : Nat} (h : wholeB n = false) (hw : w' = w.drewN k) : ToldWhole n w (.returned (.tuple #[.int .i64 0, .bool false])) w' := by
  refine ⟨?_, k, hw⟩
  unfold wholeS
  rw [h]; rfl
theorem ToldWhole.yes {n : Nat} {w w' : World} {k : Nat} (h : wholeB n = true) (hw : w' = w.drewN k) : ToldWhole n w (.returned (.tuple #[.int .i64 (wholeN n), .bool true])) w' := by
  refine ⟨?_, k, hw⟩
  unfold wholeS
  rw [h]; rfl



theorem order_nan {n m : Nat} (h : fnan n = true) : (D.order n m != some .eq) = true := by
  rw [order_key, h]; rfl






end Go.Proofs.YthhbbmebfmfgjaaGreatDoor

/- Do: both texts, but for what is left of a quotient. -/
namespace Go.Proofs.YthhbbmebfmfgjaaGreatDoor
open Go.RowKit

/-- what two come to, what is left of a quotient (m) being given -/
def doM (m : Nat) (op : Int) (a b : Nat) : Nat :=
  if op = 0 then optT (D.add a b) else if op = 1 then optT (D.sub a b) else if op = 2 then optT (D.mul a b) else if op = 3 then optT (D.div a b)
  else if op = 4 then m else if op = 5 then betterS a b (-1) else if op = 6 then betterS a b 1 else nanC

theorem doM_end {m : Nat} {op : Int} {a b : Nat} (_ : (op == 0) = false) (_ : (op == 1) = false) (_ : (op == 2) = false) (_ : (op == 3) = false) (_ : (op == 4) = false) (_ : (op == 5) = false) (_ : (op == 6) = false) : doM m op a b = nanC := by
  unfold doM; simp_all

set_option maxRecDepth 100000 in
set_option maxHeartbeats 1600000 in
/-- where the operation is not OpMod, or its callee's contract is given -/
theorem realDo_of (m : Nat) (op : Int) (a b : Nat) (w : World)
    (hm : (op == 4) = true → Calls Tryz.prog 132 #[.int .u64 a, .int .u64 b] w (Told m w)) :
    Calls Tryz.prog 100 #[.int .i64 op, .int .u64 a, .int .u64 b] w (Told (doM m op a b) w) := by
  obtain ⟨r0, k0, h0, a0⟩ := arith_run .add (Or.inl rfl) 107 a b w
  obtain ⟨r1, k1, h1, a1⟩ := arith_run .sub (Or.inr (Or.inl rfl)) 107 a b w
  obtain ⟨r2, k2, h2, a2⟩ := arith_run .mul (Or.inr (Or.inr (Or.inl rfl))) 107 a b w
  obtain ⟨r3, k3, h3, a3⟩ := arith_run .quo (Or.inr (Or.inr (Or.inr rfl))) 107 a b w
  have A0 := Lib.hid a0
  have A1 := Lib.hid a1
  have A2 := Lib.hid a2
  have A3 := Lib.hid a3
  have Hm := Lib.hid hm
  clear a0 a1 a2 a3 hm
  go_enter Tryz.func100, Tryz.ntmps100
  go_wp2_with (first | (go_at_call 96; refine (num_any _ _).mono ?_; rintro e w' ⟨rfl, rfl⟩) | (go_at_call 99; refine (told_any _ _).mono ?_; rintro e w' ⟨rfl, rfl⟩) | (go_at_call 133; refine (better_any _ _ _ _).mono ?_; rintro e w' ⟨rfl, rfl⟩) | (go_at_call 132; refine (Hm.out (by assumption)).mono ?_; rintro e w' ⟨rfl, k, hk⟩; have Hk := Lib.hid hk; clear hk))
  · go_ret
    exact Told.some (by rw [toldS_arith A0.out]; unfold doM; simp_all [floatBits]) rfl
  · go_ret
    exact Told.some (by rw [toldS_arith A1.out]; unfold doM; simp_all [floatBits]) rfl
  · go_ret
    exact Told.some (by rw [toldS_arith A2.out]; unfold doM; simp_all [floatBits]) rfl
  · go_ret
    exact Told.some (by rw [toldS_arith A3.out]; unfold doM; simp_all [floatBits]) rfl
  · go_ret
    exact Told.some (by unfold doM; simp_all) Hk.out
  · go_ret
    exact Told.same (by unfold doM; simp_all)
  · go_ret
    exact Told.same (by unfold doM; simp_all)
  · go_ret
    exact Told.same (by rw [doM_end (by assumption) (by assumption) (by assumption) (by assumption) (by assumption) (by assumption) (by assumption)]; rfl)

set_option maxRecDepth 100000 in
set_option maxHeartbeats 1600000 in
theorem refDo_of (m : Nat) (op : Int) (a b : Nat) (hA : a < 18446744073709551616) (hB : b < 18446744073709551616) (w : World)
    (hm : (op == 4) = true → Calls Tryz.prog 103 #[.int .u64 a, .int .u64 b] w (Told m w)) :
    Calls Tryz.prog 68 #[.int .i64 op, .int .u64 a, .int .u64 b] w (Told (doM m op a b) w) := by
  obtain ⟨r0, k0, h0, a0⟩ := arith_run .add (Or.inl rfl) 107 a b w
  obtain ⟨r1, k1, h1, a1⟩ := arith_run .sub (Or.inr (Or.inl rfl)) 107 a b w
  obtain ⟨r2, k2, h2, a2⟩ := arith_run .mul (Or.inr (Or.inr (Or.inl rfl))) 107 a b w
  obtain ⟨r3, k3, h3, a3⟩ := arith_run .quo (Or.inr (Or.inr (Or.inr rfl))) 107 a b w
  have A0 := Lib.hid a0
  have A1 := Lib.hid a1
  have A2 := Lib.hid a2
  have A3 := Lib.hid a3
  have Hm := Lib.hid hm
  clear a0 a1 a2 a3 hm
  go_enter Tryz.func68, Tryz.ntmps68
  go_wp2_with (first | (go_at_call 74; refine (Num_any _ _).mono ?_; rintro e w' ⟨rfl, rfl⟩) | (go_at_call 102; refine (Bits_any _ _).mono ?_; rintro e w' ⟨rfl, rfl⟩) | (go_at_call 104; refine (one_any _ _ hA hB _ _).mono ?_; rintro e w' ⟨rfl, rfl⟩) | (go_at_call 103; refine (Hm.out (by assumption)).mono ?_; rintro e w' ⟨rfl, k, hk⟩; have Hk := Lib.hid hk; clear hk))
  · go_ret
    exact Told.some (by rw [toldS_arith A0.out]; unfold doM; simp_all [floatBits]) rfl
  · go_ret
    exact Told.some (by rw [toldS_arith A1.out]; unfold doM; simp_all [floatBits]) rfl
  · go_ret
    exact Told.some (by rw [toldS_arith A2.out]; unfold doM; simp_all [floatBits]) rfl
  · go_ret
    exact Told.some (by rw [toldS_arith A3.out]; unfold doM; simp_all [floatBits]) rfl
  · go_ret
    exact Told.some (by unfold doM; simp_all) Hk.out
  · go_ret
    exact Told.same (by unfold doM oneS; simp_all)
  · go_ret
    exact Told.same (by unfold doM oneS; simp_all)
  · go_ret
    exact Told.same (by rw [doM_end (by assumption) (by assumption) (by assumption) (by assumption) (by assumption) (by assumption) (by assumption)]; rfl)
end Go.Proofs.YthhbbmebfmfgjaaGreatDoor

/- Words for laws: true, some draws later; what is known of a uint64. -/
namespace Go.Proofs.YthhbbmebfmfgjaaGreatDoor
open Go.RowKit

/-- a law's end: true, some draws later -/
def Yes (w : World) (e : Ending) (w' : World) : Prop := e = .returned (.bool true) ∧ ∃ k, w' = w.drewN k

theorem grown_drewN {w w' : World} (h : ∃ k, w' = w.drewN k) : Grown w w' := by
  obtain ⟨k, rfl⟩ := h
  have h : Grown w w := Grown.refl w
  exact h

theorem below_some {w w' : World} (h : ∃ k, w' = w.drewN k) : Below w.heap.size w w' := by
  obtain ⟨k, rfl⟩ := h
  exact below_drewN (Below.refl _ _) k

theorem u64_nat {a : Int} (h : (Lit.int .u64 a).wf = true) : ∃ n : Nat, a = n ∧ n < 18446744073709551616 := by
  have := Go.bounds_u64 h
  obtain ⟨n, rfl⟩ := Int.eq_ofNat_of_zero_le this.1
  exact ⟨n, rfl, by omega⟩

theorem int_beq_self {k : Int} : (k == k) = true := by simp
theorem bool_beq_self {k : Bool} : (k == k) = true := by simp

end Go.Proofs.YthhbbmebfmfgjaaGreatDoor

/- Sum, Mean: both texts. -/
namespace Go.Proofs.YthhbbmebfmfgjaaGreatDoor
open Go.RowKit

theorem nanOf_lt (w : World) (x y : Nat) : nanOf w x y < 18446744073709551616 := by
  unfold nanOf Question.cut
  generalize w.tape w.drawn (Question.nanBits FloatKind.f64 x y) = t
  simp only [Nat.reducePow, Nat.reduceSub]
  have h1 : t % 2 = 0 ∨ t % 2 = 1 := by omega
  generalize t / 2 = q
  generalize t % 2 = r at h1
  rcases h1 with rfl | rfl <;> omega

theorem floatBits_lt {op : BinOp} {x y r : Nat} (h : floatBits op .f64 x y = some r) : r < 18446744073709551616 := by
  have := floatBits_wf h
  simp [Lit.wf] at this
  exact this

/-- an operation on floats, the world behind it under a name of its own -/
theorem arith_at (op : BinOp) (hop : op = .add ∨ op = .sub ∨ op = .mul ∨ op = .quo) (t : TypeId) (x y : Nat) (w : World) :
    ∃ r w1, Sem.run Tryz.prog (binOp op t (.float .f64 x) (.float .f64 y)) w = .ok (.float .f64 r) w1 ∧ Hid (Arith (floatBits op .f64 x y) r) ∧ r < 18446744073709551616 ∧ Hid (∃ k, w1 = w.drewN k) := by
  cases h : floatBits op .f64 x y with
  | some r => exact ⟨r, _, run_float_arith w op t .f64 x y r h, Lib.hid rfl, floatBits_lt h, Lib.hid ⟨0, rfl⟩⟩
  | none => exact ⟨_, _, run_arith op hop t x y w h, Lib.hid (fnan_nanOf w x y), nanOf_lt w x y, Lib.hid ⟨1, rfl⟩⟩

theorem fnan_nanC : fnan nanC = true := by unfold fnan rung nanC; simp
theorem fnan_told (x : Nat) : fnan (toldS x) = fnan x := by
  unfold toldS
  cases h : fnan x
  · simp [h]
  · simp [fnan_nanC]

theorem add_nan {x y : Nat} (h : fnan x = true ∨ fnan y = true) : D.add x y = none ∧ D.sub x y = none ∧ D.div x y = none := by
  rcases h with h | h
  · obtain ⟨s, t, hd⟩ := read_nan h
    unfold Ieee.Format.add Ieee.Format.sub Ieee.Format.div
    rw [hd]
    refine ⟨?_, ?_, ?_⟩ <;> cases D.read y <;> rfl
  · obtain ⟨s, t, hd⟩ := read_nan h
    unfold Ieee.Format.add Ieee.Format.sub Ieee.Format.div
    rw [hd]
    refine ⟨?_, ?_, ?_⟩ <;> cases D.read x <;> rfl

theorem told_cases (x : Nat) : fnan x = true ∨ toldS x = x := by
  cases h : fnan x
  · exact Or.inr (toldS_of_num h)
  · exact Or.inl rfl

theorem arith_told (x y : Nat) : D.add (toldS x) (toldS y) = D.add x y ∧ D.sub (toldS x) (toldS y) = D.sub x y ∧ D.div (toldS x) (toldS y) = D.div x y := by
  rcases told_cases x with hx | hx
  · obtain ⟨a1, a2, a3⟩ := @add_nan x y (Or.inl hx)
    obtain ⟨b1, b2, b3⟩ := @add_nan (toldS x) (toldS y) (Or.inl (by rw [fnan_told, hx]))
    rw [a1, a2, a3, b1, b2, b3]; exact ⟨rfl, rfl, rfl⟩
  · rcases told_cases y with hy | hy
    · obtain ⟨a1, a2, a3⟩ := @add_nan x y (Or.inr hy)
      obtain ⟨b1, b2, b3⟩ := @add_nan (toldS x) (toldS y) (Or.inr (by rw [fnan_told, hy]))
      rw [a1, a2, a3, b1, b2, b3]; exact ⟨rfl, rfl, rfl⟩
    · rw [hx, hy]; exact ⟨rfl, rfl, rfl⟩

theorem order_abs_told (x y : Nat) : D.order (rung (toldS x)) (rung (toldS y)) = D.order (rung x) (rung y) := by
  rcases told_cases x with hx | hx
  · rw [order_key, order_key, fnan_rung, fnan_rung, fnan_rung, fnan_told, hx]; simp
  · rcases told_cases y with hy | hy
    · rw [order_key, order_key, fnan_rung, fnan_rung, fnan_rung, fnan_rung, fnan_told, fnan_told, hy]; simp
    · rw [hx, hy]

theorem inf_told (x : Nat) : decide (rung (toldS x) = 9218868437227405312) = decide (rung x = 9218868437227405312) := by
  rcases told_cases x with hx | hx
  · rw [toldS_of_nan hx]
    unfold fnan at hx
    simp at hx
    have : rung nanC = 9221120237041090561 := by unfold rung nanC; omega
    rw [this]
    simp; omega
  · rw [hx]

theorem told_told (x : Nat) : toldS (toldS x) = toldS x := by
  unfold toldS
  cases h : fnan x
  · simp [h]
  · simp [fnan_nanC]

/-- 'Abs(s) >= Abs(x)' -/
def absGe (s x : Nat) : Bool := D.order (rung s) (rung x) == some .gt || D.order (rung s) (rung x) == some .eq

def sumStep (p : Nat × Nat) (x : Nat) : Nat × Nat :=
  let t := optT (D.add p.1 x)
  let c := if absGe p.1 x then optT (D.add p.2 (optT (D.add (optT (D.sub p.1 t)) x))) else optT (D.add p.2 (optT (D.add (optT (D.sub x t)) p.1)))
  (t, if rung t = 9218868437227405312 then 0 else c)
def sumFold (l : List Nat) : Nat × Nat := l.foldl sumStep (0, 0)
def sumS (l : List Nat) : Nat :=
  let p := sumFold l
  if rung p.1 = 9218868437227405312 then p.1 else optT (D.add p.1 p.2)

theorem sumFold_succ (l : List Nat) (k : Nat) (h : k < l.length) : sumFold (l.take (k + 1)) = sumStep (sumFold (l.take k)) (l.getD k 0) := by
  unfold sumFold
  rw [List.take_add_one, List.foldl_append]
  simp [List.getD, List.getElem?_eq_getElem h]

theorem optT_told {o : Option Nat} : toldS (optT o) = optT o := by
  cases o with
  | some v => exact told_told v
  | none => exact toldS_of_nan fnan_nanC

/-- one round, in the words of the floats that the walk has -/
theorem step_ge {s c x t d g u : Nat} (hge : absGe s x = true) (ht : Arith (D.add s x) t) (hd : Arith (D.sub s t) d) (hg : Arith (D.add d x) g) (hu : Arith (D.add c g) u) :
    sumStep (toldS s, toldS c) x = (toldS t, if decide (rung t = 9218868437227405312) = true then 0 else toldS u) := by
  have e1 : optT (D.add (toldS s) x) = toldS t := by rw [← (arith_told (toldS s) x).1, told_told, (arith_told s x).1, toldS_arith ht]
  have e2 : absGe (toldS s) x = true := by unfold absGe at hge ⊢; rw [← order_abs_told, told_told, order_abs_told]; exact hge
  have e3 : optT (D.sub (toldS s) (toldS t)) = toldS d := by rw [(arith_told s t).2.1, toldS_arith hd]
  have e4 : optT (D.add (toldS d) x) = toldS g := by rw [← (arith_told (toldS d) x).1, told_told, (arith_told d x).1, toldS_arith hg]
  have e5 : optT (D.add (toldS c) (toldS g)) = toldS u := by rw [(arith_told c g).1, toldS_arith hu]
  have e6 := inf_told t
  unfold sumStep
  dsimp only
  rw [e1, e2, e3, if_pos rfl, e4, e5]
  simp only [decide_eq_decide] at e6
  simp only [e6, decide_eq_true_eq]

theorem step_lt {s c x t d g u : Nat} (hge : absGe s x = false) (ht : Arith (D.add s x) t) (hd : Arith (D.sub x t) d) (hg : Arith (D.add d s) g) (hu : Arith (D.add c g) u) :
    sumStep (toldS s, toldS c) x = (toldS t, if decide (rung t = 9218868437227405312) = true then 0 else toldS u) := by
  have e1 : optT (D.add (toldS s) x) = toldS t := by rw [← (arith_told (toldS s) x).1, told_told, (arith_told s x).1, toldS_arith ht]
  have e2 : absGe (toldS s) x = false := by unfold absGe at hge ⊢; rw [← order_abs_told, told_told, order_abs_told]; exact hge
  have e3 : optT (D.sub x (toldS t)) = toldS d := by rw [← (arith_told x (toldS t)).2.1, told_told, (arith_told x t).2.1, toldS_arith hd]
  have e4 : optT (D.add (toldS d) (toldS s)) = toldS g := by rw [(arith_told d s).1, toldS_arith hg]
  have e5 : optT (D.add (toldS c) (toldS g)) = toldS u := by rw [(arith_told c g).1, toldS_arith hu]
  have e6 := inf_told t
  unfold sumStep
  dsimp only
  rw [e1, e2, e3, e4, e5]
  simp only [decide_eq_decide] at e6
  simp only [e6, decide_eq_true_eq, Bool.false_eq_true, if_false]

theorem toldS_zero : toldS 0 = 0 := by unfold toldS fnan rung; simp

/-- a slice of words in memory -/
def Words (w : World) (a : Option Addr) (ns : List Nat) : Prop :=
  ∀ j, j < ns.length → ∃ b off, a = some ⟨b, off, none⟩ ∧ w.cell? ⟨b, off + j, none⟩ = some (.int .u64 ((ns.getD j 0 : Nat) : Int))

theorem chain1 {w w1 wr : World} (h : ∃ q, wr = w.drewN q) (h1 : ∃ k, w1 = wr.drewN k) : ∃ q, w1 = w.drewN q := by
  obtain ⟨q, rfl⟩ := h
  obtain ⟨k, rfl⟩ := h1
  exact ⟨q + k, by rw [World.drewN_drewN]⟩
theorem chain4 {w wr w1 w2 w3 w4 : World} (h : ∃ q, wr = w.drewN q) (h1 : ∃ k, w1 = wr.drewN k) (h2 : ∃ k, w2 = w1.drewN k) (h3 : ∃ k, w3 = w2.drewN k) (h4 : ∃ k, w4 = w3.drewN k) : ∃ q, w4 = w.drewN q :=
  chain1 (chain1 (chain1 (chain1 h h1) h2) h3) h4

theorem sum_end_inf {ns : List Nat} {s c : Nat} (h : (toldS s, toldS c) = sumFold ns) (hi : decide (rung s = 9218868437227405312) = true) : toldS s = sumS ns := by
  unfold sumS
  rw [← h]
  have := inf_told s
  rw [hi] at this
  dsimp only
  rw [if_pos (by simpa using this)]
theorem sum_end_add {ns : List Nat} {s c t : Nat} (h : (toldS s, toldS c) = sumFold ns) (hi : decide (rung s = 9218868437227405312) = false) (ht : Arith (D.add s c) t) : toldS t = sumS ns := by
  unfold sumS
  rw [← h]
  have := inf_told s
  rw [hi] at this
  dsimp only
  rw [if_neg (by simpa using this), (arith_told s c).1, toldS_arith ht]

/-- the relation of Sum's loop -/
def SumAt (w : World) (ns : List Nat) (s c i : Value) (wr : World) : Prop :=
  ∃ k s' c' : Nat, k ≤ ns.length ∧ i = .int .i64 k ∧ s = .float .f64 s' ∧ c = .float .f64 c' ∧ s' < 18446744073709551616 ∧ (toldS s', toldS c') = sumFold (ns.take k) ∧ ∃ q, wr = w.drewN q

set_option maxRecDepth 100000 in
set_option maxHeartbeats 1600000 in
theorem realSum_any (a : Option Addr) (cap : Nat) (ns : List Nat) (hbig : ns.length ≤ 9223372036854775807) (hlt : ∀ x ∈ ns, x < 18446744073709551616) (w : World) (hc : Words w a ns) :
    Calls Tryz.prog 53 #[.slice a ns.length cap] w (Told (sumS ns) w) := by
  go_enter Tryz.func53, Tryz.ntmps53
  go_wp2
  go_loopw [3, 4, 11] (fun s c i wr => SumAt w ns s c i wr) (fun _ _ i _ => ns.length - (intOf i).toNat)
  case atStart => exact ⟨0, 0, 0, Nat.zero_le _, rfl, rfl, rfl, by omega, by rw [toldS_zero]; rfl, 0, rfl⟩
  case round =>
    obtain ⟨k, s', c', hk, rfl, rfl, rfl, hs, hf, hw⟩ := hrel
    by_cases hkl : k < ns.length
    · obtain ⟨b, off, rfl, hcell⟩ := hc k hkl
      have hx : ns.getD k 0 < 18446744073709551616 := by
        rw [List.getD_eq_getElem?_getD, List.getElem?_eq_getElem hkl]; exact hlt _ (List.getElem_mem hkl)
      have hf2 := sumFold_succ ns k hkl
      rw [← hf] at hf2
      have hcell2 : wr.cell? ⟨b, off + k, none⟩ = some (.int .u64 ((ns.getD k 0 : Nat) : Int)) := by obtain ⟨q, rfl⟩ := hw; exact hcell
      have HF := Lib.hid hf2
      have HW := Lib.hid hw
      have HK := Lib.hid hc
      clear hf hf2 hw hcell hc
      generalize ns.getD k 0 = x at *
      obtain ⟨t, w1, h1, a1, b1, q1⟩ := arith_at .add (Or.inl rfl) 107 s' x wr
      cases hge : absGe s' x
      · obtain ⟨d, w2, h2, a2, b2, q2⟩ := arith_at .sub (Or.inr (Or.inl rfl)) 107 x t w1
        obtain ⟨g, w3, h3, a3, b3, q3⟩ := arith_at .add (Or.inl rfl) 107 d s' w2
        obtain ⟨u, w4, h4, a4, b4, q4⟩ := arith_at .add (Or.inl rfl) 107 c' g w3
        have HS := Lib.hid (HF.out.trans (step_lt hge a1.out a2.out a3.out a4.out))
        unfold absGe at hge
        have hw4 : Hid (∃ q, w4 = w.drewN q) := Lib.hid (chain4 HW.out q1.out q2.out q3.out q4.out)
        clear HF
        cases hi : decide (rung t = 9218868437227405312)
        · have ci := fun w => hi ▸ isInf_any t b1 w
          rw [hi] at HS
          clear hi
          go_wp2_with (first | (go_at_call 96; refine (num_any _ _).mono ?_; rintro e w' ⟨rfl, rfl⟩) | (go_at_call 97; (first | (with_reducible refine (abs_any s' hs _).mono ?_) | (with_reducible refine (abs_any x hx _).mono ?_)); rintro e w' ⟨rfl, rfl⟩) | (go_at_call 98; refine (ci _).mono ?_; rintro e w' ⟨rfl, rfl⟩))
          go_roundw
          case rel => exact ⟨k + 1, t, u, by omega, by go_num, rfl, rfl, b1, by rw [HS.out]; rfl, hw4.out⟩
          case measure => simp [intOf]; omega
        · have ci := fun w => hi ▸ isInf_any t b1 w
          rw [hi] at HS
          clear hi
          go_wp2_with (first | (go_at_call 96; refine (num_any _ _).mono ?_; rintro e w' ⟨rfl, rfl⟩) | (go_at_call 97; (first | (with_reducible refine (abs_any s' hs _).mono ?_) | (with_reducible refine (abs_any x hx _).mono ?_)); rintro e w' ⟨rfl, rfl⟩) | (go_at_call 98; refine (ci _).mono ?_; rintro e w' ⟨rfl, rfl⟩))
          go_roundw
          case rel => exact ⟨k + 1, t, 0, by omega, by go_num, rfl, rfl, b1, by rw [HS.out, toldS_zero]; rfl, hw4.out⟩
          case measure => simp [intOf]; omega
      · obtain ⟨d, w2, h2, a2, b2, q2⟩ := arith_at .sub (Or.inr (Or.inl rfl)) 107 s' t w1
        obtain ⟨g, w3, h3, a3, b3, q3⟩ := arith_at .add (Or.inl rfl) 107 d x w2
        obtain ⟨u, w4, h4, a4, b4, q4⟩ := arith_at .add (Or.inl rfl) 107 c' g w3
        have HS := Lib.hid (HF.out.trans (step_ge hge a1.out a2.out a3.out a4.out))
        unfold absGe at hge
        have hw4 : Hid (∃ q, w4 = w.drewN q) := Lib.hid (chain4 HW.out q1.out q2.out q3.out q4.out)
        clear HF
        cases hi : decide (rung t = 9218868437227405312)
        · have ci := fun w => hi ▸ isInf_any t b1 w
          rw [hi] at HS
          clear hi
          go_wp2_with (first | (go_at_call 96; refine (num_any _ _).mono ?_; rintro e w' ⟨rfl, rfl⟩) | (go_at_call 97; (first | (with_reducible refine (abs_any s' hs _).mono ?_) | (with_reducible refine (abs_any x hx _).mono ?_)); rintro e w' ⟨rfl, rfl⟩) | (go_at_call 98; refine (ci _).mono ?_; rintro e w' ⟨rfl, rfl⟩))
          go_roundw
          case rel => exact ⟨k + 1, t, u, by omega, by go_num, rfl, rfl, b1, by rw [HS.out]; rfl, hw4.out⟩
          case measure => simp [intOf]; omega
        · have ci := fun w => hi ▸ isInf_any t b1 w
          rw [hi] at HS
          clear hi
          go_wp2_with (first | (go_at_call 96; refine (num_any _ _).mono ?_; rintro e w' ⟨rfl, rfl⟩) | (go_at_call 97; (first | (with_reducible refine (abs_any s' hs _).mono ?_) | (with_reducible refine (abs_any x hx _).mono ?_)); rintro e w' ⟨rfl, rfl⟩) | (go_at_call 98; refine (ci _).mono ?_; rintro e w' ⟨rfl, rfl⟩))
          go_roundw
          case rel => exact ⟨k + 1, t, 0, by omega, by go_num, rfl, rfl, b1, by rw [HS.out, toldS_zero]; rfl, hw4.out⟩
          case measure => simp [intOf]; omega
    · obtain rfl : k = ns.length := by omega
      rw [List.take_length] at hf
      have HF := Lib.hid hf
      have HW := Lib.hid hw
      clear hf hw hc
      cases hi : decide (rung s' = 9218868437227405312)
      · have ci := fun w => hi ▸ isInf_any s' hs w
        obtain ⟨t, w1, h1, a1, b1, q1⟩ := arith_at .add (Or.inl rfl) 107 s' c' wr
        have HR : Hid (toldS t = sumS ns) := Lib.hid (sum_end_add HF.out hi a1.out)
        have hw1 : Hid (∃ q, w1 = w.drewN q) := Lib.hid (chain1 HW.out q1.out)
        clear hi HF
        go_wp2_with (first | (go_at_call 98; refine (ci _).mono ?_; rintro e w' ⟨rfl, rfl⟩) | (go_at_call 99; refine (told_any _ _).mono ?_; rintro e w' ⟨rfl, rfl⟩))
        go_ret
        obtain ⟨q, hq⟩ := hw1.out
        exact Told.some HR.out hq
      · have ci := fun w => hi ▸ isInf_any s' hs w
        have HR : Hid (toldS s' = sumS ns) := Lib.hid (sum_end_inf HF.out hi)
        clear hi HF
        go_wp2_with (first | (go_at_call 98; refine (ci _).mono ?_; rintro e w' ⟨rfl, rfl⟩) | (go_at_call 99; refine (told_any _ _).mono ?_; rintro e w' ⟨rfl, rfl⟩))
        go_ret
        obtain ⟨q, hq⟩ := HW.out
        exact Told.some HR.out hq
end Go.Proofs.YthhbbmebfmfgjaaGreatDoor

/- Sum of the reference; Mean: both texts -/
namespace Go.Proofs.YthhbbmebfmfgjaaGreatDoor
open Go.RowKit

set_option maxRecDepth 100000 in
set_option maxHeartbeats 1600000 in
theorem refSum_any (a : Option Addr) (cap : Nat) (ns : List Nat) (hbig : ns.length ≤ 9223372036854775807) (hlt : ∀ x ∈ ns, x < 18446744073709551616) (w : World) (hc : Words w a ns) :
    Calls Tryz.prog 57 #[.slice a ns.length cap] w (Told (sumS ns) w) := by
  go_enter Tryz.func57, Tryz.ntmps57
  go_wp2
  go_loopw [3, 4, 13] (fun s c i wr => SumAt w ns s c i wr) (fun _ _ i _ => ns.length - (intOf i).toNat)
  case atStart => exact ⟨0, 0, 0, Nat.zero_le _, rfl, rfl, rfl, by omega, by rw [toldS_zero]; rfl, 0, rfl⟩
  case round =>
    obtain ⟨k, s', c', hk, rfl, rfl, rfl, hs, hf, hw⟩ := hrel
    by_cases hkl : k < ns.length
    · obtain ⟨b, off, rfl, hcell⟩ := hc k hkl
      have hx : ns.getD k 0 < 18446744073709551616 := by
        rw [List.getD_eq_getElem?_getD, List.getElem?_eq_getElem hkl]; exact hlt _ (List.getElem_mem hkl)
      have hf2 := sumFold_succ ns k hkl
      rw [← hf] at hf2
      have hcell2 : wr.cell? ⟨b, off + k, none⟩ = some (.int .u64 ((ns.getD k 0 : Nat) : Int)) := by obtain ⟨q, rfl⟩ := hw; exact hcell
      have HF := Lib.hid hf2
      have HW := Lib.hid hw
      have HK := Lib.hid hc
      clear hf hf2 hw hcell hc
      generalize ns.getD k 0 = x at *
      obtain ⟨t, w1, h1, a1, b1, q1⟩ := arith_at .add (Or.inl rfl) 107 s' x wr
      cases hge : absGe s' x
      · obtain ⟨d, w2, h2, a2, b2, q2⟩ := arith_at .sub (Or.inr (Or.inl rfl)) 107 x t w1
        obtain ⟨g, w3, h3, a3, b3, q3⟩ := arith_at .add (Or.inl rfl) 107 d s' w2
        obtain ⟨u, w4, h4, a4, b4, q4⟩ := arith_at .add (Or.inl rfl) 107 c' g w3
        have HS := Lib.hid (HF.out.trans (step_lt hge a1.out a2.out a3.out a4.out))
        unfold absGe at hge
        have hw4 : Hid (∃ q, w4 = w.drewN q) := Lib.hid (chain4 HW.out q1.out q2.out q3.out q4.out)
        clear HF
        cases hi : decide (rung t = 9218868437227405312)
        · have ci := fun w => hi ▸ inf_any t w
          rw [hi] at HS
          clear hi
          go_wp2_with (first | (go_at_call 74; refine (Num_any _ _).mono ?_; rintro e w' ⟨rfl, rfl⟩) | (go_at_call 97; (first | (with_reducible refine (abs_any s' hs _).mono ?_) | (with_reducible refine (abs_any x hx _).mono ?_)); rintro e w' ⟨rfl, rfl⟩) | (go_at_call 73; refine (ci _).mono ?_; rintro e w' ⟨rfl, rfl⟩))
          go_roundw
          case rel => exact ⟨k + 1, t, u, by omega, by go_num, rfl, rfl, b1, by rw [HS.out]; rfl, hw4.out⟩
          case measure => simp [intOf]; omega
        · have ci := fun w => hi ▸ inf_any t w
          rw [hi] at HS
          clear hi
          go_wp2_with (first | (go_at_call 74; refine (Num_any _ _).mono ?_; rintro e w' ⟨rfl, rfl⟩) | (go_at_call 97; (first | (with_reducible refine (abs_any s' hs _).mono ?_) | (with_reducible refine (abs_any x hx _).mono ?_)); rintro e w' ⟨rfl, rfl⟩) | (go_at_call 73; refine (ci _).mono ?_; rintro e w' ⟨rfl, rfl⟩))
          go_roundw
          case rel => exact ⟨k + 1, t, 0, by omega, by go_num, rfl, rfl, b1, by rw [HS.out, toldS_zero]; rfl, hw4.out⟩
          case measure => simp [intOf]; omega
      · obtain ⟨d, w2, h2, a2, b2, q2⟩ := arith_at .sub (Or.inr (Or.inl rfl)) 107 s' t w1
        obtain ⟨g, w3, h3, a3, b3, q3⟩ := arith_at .add (Or.inl rfl) 107 d x w2
        obtain ⟨u, w4, h4, a4, b4, q4⟩ := arith_at .add (Or.inl rfl) 107 c' g w3
        have HS := Lib.hid (HF.out.trans (step_ge hge a1.out a2.out a3.out a4.out))
        unfold absGe at hge
        have hw4 : Hid (∃ q, w4 = w.drewN q) := Lib.hid (chain4 HW.out q1.out q2.out q3.out q4.out)
        clear HF
        cases hi : decide (rung t = 9218868437227405312)
        · have ci := fun w => hi ▸ inf_any t w
          rw [hi] at HS
          clear hi
          go_wp2_with (first | (go_at_call 74; refine (Num_any _ _).mono ?_; rintro e w' ⟨rfl, rfl⟩) | (go_at_call 97; (first | (with_reducible refine (abs_any s' hs _).mono ?_) | (with_reducible refine (abs_any x hx _).mono ?_)); rintro e w' ⟨rfl, rfl⟩) | (go_at_call 73; refine (ci _).mono ?_; rintro e w' ⟨rfl, rfl⟩))
          go_roundw
          case rel => exact ⟨k + 1, t, u, by omega, by go_num, rfl, rfl, b1, by rw [HS.out]; rfl, hw4.out⟩
          case measure => simp [intOf]; omega
        · have ci := fun w => hi ▸ inf_any t w
          rw [hi] at HS
          clear hi
          go_wp2_with (first | (go_at_call 74; refine (Num_any _ _).mono ?_; rintro e w' ⟨rfl, rfl⟩) | (go_at_call 97; (first | (with_reducible refine (abs_any s' hs _).mono ?_) | (with_reducible refine (abs_any x hx _).mono ?_)); rintro e w' ⟨rfl, rfl⟩) | (go_at_call 73; refine (ci _).mono ?_; rintro e w' ⟨rfl, rfl⟩))
          go_roundw
          case rel => exact ⟨k + 1, t, 0, by omega, by go_num, rfl, rfl, b1, by rw [HS.out, toldS_zero]; rfl, hw4.out⟩
          case measure => simp [intOf]; omega
    · obtain rfl : k = ns.length := by omega
      rw [List.take_length] at hf
      have HF := Lib.hid hf
      have HW := Lib.hid hw
      clear hf hw hc
      cases hi : decide (rung s' = 9218868437227405312)
      · have ci := fun w => hi ▸ inf_any s' w
        obtain ⟨t, w1, h1, a1, b1, q1⟩ := arith_at .add (Or.inl rfl) 107 s' c' wr
        have HR : Hid (toldS t = sumS ns) := Lib.hid (sum_end_add HF.out hi a1.out)
        have hw1 : Hid (∃ q, w1 = w.drewN q) := Lib.hid (chain1 HW.out q1.out)
        clear hi HF
        go_wp2_with (first | (go_at_call 73; refine (ci _).mono ?_; rintro e w' ⟨rfl, rfl⟩) | (go_at_call 102; refine (Bits_any _ _).mono ?_; rintro e w' ⟨rfl, rfl⟩))
        go_ret
        obtain ⟨q, hq⟩ := hw1.out
        exact Told.some HR.out hq
      · have ci := fun w => hi ▸ inf_any s' w
        have HR : Hid (toldS s' = sumS ns) := Lib.hid (sum_end_inf HF.out hi)
        clear hi HF
        go_wp2_with (first | (go_at_call 73; refine (ci _).mono ?_; rintro e w' ⟨rfl, rfl⟩) | (go_at_call 102; refine (Bits_any _ _).mono ?_; rintro e w' ⟨rfl, rfl⟩))
        go_ret
        obtain ⟨q, hq⟩ := HW.out
        exact Told.some HR.out hq

def meanS (l : List Nat) : Nat := if l.length = 0 then nanC else optT (D.div (sumS l) (floatOfInt .f64 l.length))

set_option maxRecDepth 100000 in
set_option maxHeartbeats 1600000 in
theorem realMean_any (a : Option Addr) (cap : Nat) (ns : List Nat) (hbig : ns.length ≤ 9223372036854775807) (hlt : ∀ x ∈ ns, x < 18446744073709551616) (w : World) (hc : ∀ q, Words (w.drewN q) a ns) :
    Calls Tryz.prog 54 #[.slice a ns.length cap] w (Told (meanS ns) w) := by
  have cs := fun q => realSum_any a cap ns hbig hlt (w.drewN q) (hc q)
  clear hc hlt
  by_cases h0 : ns.length = 0
  · have hb : (((ns.length : Nat) : Int) == 0) = true := by simp [h0]
    have hm : Hid (meanS ns = nanC) := Lib.hid (by unfold meanS; rw [if_pos h0])
    clear h0 cs
    go_enter Tryz.func54, Tryz.ntmps54
    go_wp2
    go_ret
    exact Told.same hm.out.symm
  · have hb : (((ns.length : Nat) : Int) == 0) = false := by rw [beq_eq_false_iff_ne]; omega
    have hm : Hid (meanS ns = optT (D.div (sumS ns) (floatOfInt .f64 ns.length))) := Lib.hid (by unfold meanS; rw [if_neg h0])
    clear h0
    go_enter Tryz.func54, Tryz.ntmps54
    go_wp2_with (first | (go_at_call 53; refine (cs 0).mono ?_; rintro e w' ⟨rfl, q, rfl⟩; obtain ⟨r, w1, h1, a1, b1, q1⟩ := arith_at .quo (Or.inr (Or.inr (Or.inr rfl))) 107 (sumS ns) (floatOfInt .f64 ns.length) (World.drewN w q)) | (go_at_call 96; refine (num_any _ _).mono ?_; rintro e w' ⟨rfl, rfl⟩) | (go_at_call 99; refine (told_any _ _).mono ?_; rintro e w' ⟨rfl, rfl⟩))
    go_ret
    obtain ⟨k, hk⟩ := chain1 ⟨_, rfl⟩ q1.out
    exact Told.some ((toldS_arith a1.out).trans hm.out.symm) hk

set_option maxRecDepth 100000 in
set_option maxHeartbeats 1600000 in
theorem refMean_any (a : Option Addr) (cap : Nat) (ns : List Nat) (hbig : ns.length ≤ 9223372036854775807) (hlt : ∀ x ∈ ns, x < 18446744073709551616) (w : World) (hc : ∀ q, Words (w.drewN q) a ns) :
    Calls Tryz.prog 59 #[.slice a ns.length cap] w (Told (meanS ns) w) := by
  have cs := fun q => refSum_any a cap ns hbig hlt (w.drewN q) (hc q)
  clear hc hlt
  by_cases h0 : ns.length = 0
  · have hb : (((ns.length : Nat) : Int) == 0) = true := by simp [h0]
    have hm : Hid (meanS ns = nanC) := Lib.hid (by unfold meanS; rw [if_pos h0])
    clear h0 cs
    go_enter Tryz.func59, Tryz.ntmps59
    go_wp2
    go_ret
    exact Told.same hm.out.symm
  · have hb : (((ns.length : Nat) : Int) == 0) = false := by rw [beq_eq_false_iff_ne]; omega
    have hm : Hid (meanS ns = optT (D.div (sumS ns) (floatOfInt .f64 ns.length))) := Lib.hid (by unfold meanS; rw [if_neg h0])
    clear h0
    go_enter Tryz.func59, Tryz.ntmps59
    go_wp2_with (first | (go_at_call 57; refine (cs 0).mono ?_; rintro e w' ⟨rfl, q, rfl⟩; obtain ⟨r, w1, h1, a1, b1, q1⟩ := arith_at .quo (Or.inr (Or.inr (Or.inr rfl))) 107 (sumS ns) (floatOfInt .f64 ns.length) (World.drewN w q)) | (go_at_call 74; refine (Num_any _ _).mono ?_; rintro e w' ⟨rfl, rfl⟩) | (go_at_call 102; refine (Bits_any _ _).mono ?_; rintro e w' ⟨rfl, rfl⟩))
    go_ret
    obtain ⟨k, hk⟩ := chain1 ⟨_, rfl⟩ q1.out
    exact Told.some ((toldS_arith a1.out).trans hm.out.symm) hk

end Go.Proofs.YthhbbmebfmfgjaaGreatDoor
