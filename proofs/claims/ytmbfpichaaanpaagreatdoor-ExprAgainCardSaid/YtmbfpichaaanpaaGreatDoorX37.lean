import Derived.Test.YtmbfpichaaanpaaGreatDoorX36
/- Package math's bodiless functions under contract; better, One, Of: both texts. -/
namespace Go.Proofs.YtmbfpichaaanpaaGreatDoor
open Go.RowKit

theorem drewN_zero (w : World) : w.drewN 0 = w := rfl
theorem drew_drewN (w : World) : w.drew = w.drewN 1 := rfl

/-- what an operation on floats gives: the word, or some NaN -/
def Arith (o : Option Nat) (r : Nat) : Prop := match o with | some v => r = v | none => fnan r = true

theorem arith_run (op : BinOp) (hop : op = .add ∨ op = .sub ∨ op = .mul ∨ op = .quo) (t : TypeId) (x y : Nat) (w : World) :
    ∃ r k, Sem.run Tryz.prog (binOp op t (.float .f64 x) (.float .f64 y)) w = .ok (.float .f64 r) (w.drewN k) ∧ Arith (floatBits op .f64 x y) r := by
  cases h : floatBits op .f64 x y with
  | some r => exact ⟨r, 0, run_float_arith w op t .f64 x y r h, rfl⟩
  | none => exact ⟨_, 1, run_arith op hop t x y w h, fnan_nanOf w x y⟩

theorem toldS_arith {o : Option Nat} {r : Nat} (h : Arith o r) : toldS r = optT o := by
  cases o with
  | some v => cases h; rfl
  | none => unfold toldS; rw [show fnan r = true from h]; rfl

/-- a number made whole, as a word -/
def intg (way : Ieee.Toward) (n : Nat) : Nat := D.write ((D.read n).integral way)

theorem read_nan {n : Nat} (h : fnan n = true) : ∃ s t, D.read n = .nan s t := by
  rw [read_word]
  unfold fnan at h
  simp at h
  rw [if_neg (by omega), if_neg (by omega)]
  exact ⟨_, _, rfl⟩
theorem read_num {n : Nat} (h : fnan n = false) : (D.read n).isNaN = false := by
  rw [read_word]
  unfold fnan at h
  simp at h
  by_cases g : rung n < 9218868437227405312
  · rw [if_pos g]; rfl
  · rw [if_neg g, if_pos (by omega)]; rfl

/-- what the bodiless function does at a float, by what the float reads as -/
def integ (way : Ieee.Toward) (x : Nat) (d : Ieee.Datum) : Sem Value :=
  match d with
  | .nan s t =>
    if FloatKind.f64.format.quiet t = t then pure (.float .f64 x) else do
    let kept ← choose (.extern "math.Floor,Ceil,Trunc,RoundToEven.signallingNaN kept" 2)
    pure (.float .f64 (if kept == 1 then x else FloatKind.f64.encode (.nan s (FloatKind.f64.format.quiet t))))
  | d => pure (.float .f64 (FloatKind.f64.encode (d.integral way)))
theorem toIntegral_eq (name : String) (way : Ieee.Toward) (x : Nat) : Extern.MathFloor.toIntegral name way #[.float .f64 x] = integ way x (D.read x) := rfl

theorem integral_num (name : String) (way : Ieee.Toward) (n : Nat) (h : fnan n = false) (w : World) :
    Sem.run Tryz.prog (Extern.MathFloor.toIntegral name way #[.float .f64 n]) w = .ok (.float .f64 (intg way n)) w := by
  have g := read_num h
  rw [toIntegral_eq]
  unfold intg
  cases hd : D.read n with
  | number s m p => rfl
  | infinity s => rfl
  | nan s t => rw [hd] at g; cases g

theorem write_nan (s : Bool) (t : Nat) (ht : t % 4503599627370496 ≠ 0) : fnan (D.write (.nan s t)) = true := by
  unfold Ieee.Format.write
  dsimp only
  rw [D_inf, D_binade]
  obtain ⟨_, h⟩ := word_sgn s (9218868437227405312 + t % 4503599627370496) (by omega)
  unfold fnan
  rw [h]
  simp; omega

theorem quiet_ne (t : Nat) : (Ieee.Format.quiet D t) % 4503599627370496 ≠ 0 := by
  unfold Ieee.Format.quiet
  rw [D_frac]
  intro h
  have h1 : (t ||| 2 ^ (52 - 1)).testBit 51 = true := by rw [Nat.testBit_or, Nat.testBit_two_pow]; simp
  have h2 : ((t ||| 2 ^ (52 - 1)) % 2 ^ 52).testBit 51 = true := by rw [Nat.testBit_mod_two_pow, h1]; rfl
  rw [show (2 : Nat) ^ 52 = 4503599627370496 from rfl, h] at h2
  simp at h2

theorem integral_nan (name : String) (way : Ieee.Toward) (n : Nat) (h : fnan n = true) (w : World) :
    ∃ r k, Sem.run Tryz.prog (Extern.MathFloor.toIntegral name way #[.float .f64 n]) w = .ok (.float .f64 r) (w.drewN k) ∧ fnan r = true := by
  obtain ⟨s, t, hd⟩ := read_nan h
  rw [toIntegral_eq, hd]
  unfold integ
  dsimp only
  by_cases q : FloatKind.f64.format.quiet t = t
  · rw [if_pos q]
    exact ⟨n, 0, rfl, h⟩
  · rw [if_neg q]
    simp only [Sem.run_bind, choose, Sem.run, Question.forced, Result.andThen]
    simp
    by_cases g : Question.cut (.extern "math.Floor,Ceil,Trunc,RoundToEven.signallingNaN kept" 2) (w.tape w.drawn (.extern "math.Floor,Ceil,Trunc,RoundToEven.signallingNaN kept" 2)) = 1
    · exact ⟨n, ⟨by rw [if_pos g], 1, rfl⟩, h⟩
    · exact ⟨_, ⟨by rw [if_neg g]; rfl, 1, rfl⟩, write_nan s _ (quiet_ne t)⟩
def SomeNaN (w : World) (e : Ending) (w' : World) : Prop := ∃ r, e = .returned (.float .f64 r) ∧ fnan r = true ∧ ∃ k, w' = w.drewN k

theorem trunc_run (n : Nat) (h : fnan n = false) (w : World) :
    Sem.run Tryz.prog (callFunc 110 #[Value.float .f64 n]) w = .ok (.value (.float .f64 (intg .zero n))) w := by
  rw [run_callFunc_extern Tryz.func110 (by kernel_rfl) (by kernel_rfl) (by kernel_rfl) (e := Extern.MathFloor.toIntegral "math.archTrunc" .zero) (by kernel_rfl), integral_num _ _ _ h]
  rfl
theorem trunc_runN (n : Nat) (h : fnan n = true) (w : World) :
    ∃ r k, Sem.run Tryz.prog (callFunc 110 #[Value.float .f64 n]) w = .ok (.value (.float .f64 r)) (w.drewN k) ∧ fnan r = true := by
  obtain ⟨r, k, h1, h2⟩ := integral_nan "math.archTrunc" .zero n h w
  refine ⟨r, k, ?_, h2⟩
  rw [run_callFunc_extern Tryz.func110 (by kernel_rfl) (by kernel_rfl) (by kernel_rfl) (e := Extern.MathFloor.toIntegral "math.archTrunc" .zero) (by kernel_rfl), h1]
  rfl
set_option maxRecDepth 100000 in
set_option maxHeartbeats 400000 in
theorem trunc_any (n : Nat) (h : fnan n = false) (w : World) :
    Calls Tryz.prog 89 #[.float .f64 n] w fun e w' => e = .returned (.float .f64 (intg .zero n)) ∧ w = w' := by
  have hr := trunc_run n h
  clear h
  go_enter Tryz.func89, Tryz.ntmps89
  go_wp2
  go_ret
  exact ⟨rfl, rfl⟩
set_option maxRecDepth 100000 in
set_option maxHeartbeats 400000 in
theorem trunc_nan (n : Nat) (h : fnan n = true) (w : World) :
    Calls Tryz.prog 89 #[.float .f64 n] w (SomeNaN w) := by
  obtain ⟨r, k, hr, h2⟩ := trunc_runN n h w
  clear h
  have H2 := Lib.hid h2
  clear h2
  go_enter Tryz.func89, Tryz.ntmps89
  go_wp2
  go_ret
  exact ⟨r, rfl, H2.out, k, rfl⟩

theorem floor_run (n : Nat) (h : fnan n = false) (w : World) :
    Sem.run Tryz.prog (callFunc 124 #[Value.float .f64 n]) w = .ok (.value (.float .f64 (intg .down n))) w := by
  rw [run_callFunc_extern Tryz.func124 (by kernel_rfl) (by kernel_rfl) (by kernel_rfl) (e := Extern.MathFloor.toIntegral "math.archFloor" .down) (by kernel_rfl), integral_num _ _ _ h]
  rfl
theorem floor_runN (n : Nat) (h : fnan n = true) (w : World) :
    ∃ r k, Sem.run Tryz.prog (callFunc 124 #[Value.float .f64 n]) w = .ok (.value (.float .f64 r)) (w.drewN k) ∧ fnan r = true := by
  obtain ⟨r, k, h1, h2⟩ := integral_nan "math.archFloor" .down n h w
  refine ⟨r, k, ?_, h2⟩
  rw [run_callFunc_extern Tryz.func124 (by kernel_rfl) (by kernel_rfl) (by kernel_rfl) (e := Extern.MathFloor.toIntegral "math.archFloor" .down) (by kernel_rfl), h1]
  rfl
set_option maxRecDepth 100000 in
set_option maxHeartbeats 400000 in
theorem floor_any (n : Nat) (h : fnan n = false) (w : World) :
    Calls Tryz.prog 103 #[.float .f64 n] w fun e w' => e = .returned (.float .f64 (intg .down n)) ∧ w = w' := by
  have hr := floor_run n h
  clear h
  go_enter Tryz.func103, Tryz.ntmps103
  go_wp2
  go_ret
  exact ⟨rfl, rfl⟩
set_option maxRecDepth 100000 in
set_option maxHeartbeats 400000 in
theorem floor_nan (n : Nat) (h : fnan n = true) (w : World) :
    Calls Tryz.prog 103 #[.float .f64 n] w (SomeNaN w) := by
  obtain ⟨r, k, hr, h2⟩ := floor_runN n h w
  clear h
  have H2 := Lib.hid h2
  clear h2
  go_enter Tryz.func103, Tryz.ntmps103
  go_wp2
  go_ret
  exact ⟨r, rfl, H2.out, k, rfl⟩





/-- a float of an operation, some draws later -/
def SomeArith (o : Option Nat) (w : World) (e : Ending) (w' : World) : Prop := ∃ r, e = .returned (.float .f64 r) ∧ Arith o r ∧ ∃ k, w' = w.drewN k



end Go.Proofs.YtmbfpichaaanpaaGreatDoor

/- Plain facts on numbers made whole. -/
namespace Go.Proofs.YtmbfpichaaanpaaGreatDoor
open Ieee

theorem cut_le (way : Toward) (neg : Bool) (n d : Nat) : ∃ b, way.cut neg n d = n / 2 ^ d + b ∧ b ≤ 1 ∧ (b = 1 → n % 2 ^ d ≠ 0) ∧ (way = .zero → b = 0) := by
  have hgap : ∀ g, g = 1 <<< min d (n.log2 + 2) → n / g = n / 2 ^ d ∧ (n % g ≠ 0 → n % 2 ^ d ≠ 0) ∧ 0 < g := by
    intro g hg
    rw [Nat.shiftLeft_eq, Nat.one_mul] at hg
    rcases Nat.le_total d (n.log2 + 2) with h | h
    · rw [Nat.min_eq_left h] at hg
      subst hg
      exact ⟨rfl, id, Nat.two_pow_pos d⟩
    · rw [Nat.min_eq_right h] at hg
      have h1 : n < 2 ^ (n.log2 + 2) := Nat.lt_of_lt_of_le (Nat.lt_log2_self (n := n)) (Nat.pow_le_pow_right (by decide) (by omega))
      have h2 : n < 2 ^ d := Nat.lt_of_lt_of_le h1 (Nat.pow_le_pow_right (by decide) h)
      rw [hg, Nat.div_eq_of_lt h1, Nat.div_eq_of_lt h2, Nat.mod_eq_of_lt h1, Nat.mod_eq_of_lt h2]
      exact ⟨rfl, id, Nat.two_pow_pos _⟩
  unfold Toward.cut
  obtain ⟨h1, h2, h3⟩ := hgap _ rfl
  dsimp only
  generalize 1 <<< min d (n.log2 + 2) = g at h1 h2 h3 ⊢
  rw [← h1]
  refine ⟨_, rfl, ?_, ?_, ?_⟩
  · exact Bool.toNat_le _
  · intro hb
    apply h2
    intro h0
    rw [h0] at hb
    cases way <;> simp at hb
    omega
  · rintro rfl; rfl

theorem cut_whole (way : Toward) (neg : Bool) (n d : Nat) (h : n % 2 ^ d = 0) : way.cut neg n d = n / 2 ^ d := by
  obtain ⟨b, h1, h2, h3, _⟩ := cut_le way neg n d
  have : b = 0 := by
    rcases Nat.lt_or_ge b 1 with g | g
    · omega
    · exact absurd h (h3 (by omega))
  rw [h1, this, Nat.add_zero]

/-- is a rung a whole number? -/
def intB (r : Nat) : Bool := units r % 2 ^ B74 == 0
/-- the whole part -/
def wholePart (r : Nat) : Nat := units r / 2 ^ B74

theorem read_fin {n : Nat} (h : rung n < 9218868437227405312) : D.read n = .number (sgn n) (mant (rung n)) (-1074 + (lift (rung n) : Int)) := by
  rw [read_word, if_pos h]

theorem div_split (m l : Nat) (h : l ≤ B74) : m * 2 ^ l / 2 ^ B74 = m / 2 ^ (B74 - l) ∧ (m * 2 ^ l % 2 ^ B74 = 0 ↔ m % 2 ^ (B74 - l) = 0) := by
  have e : (2 : Nat) ^ B74 = 2 ^ (B74 - l) * 2 ^ l := by rw [← Nat.pow_add, Nat.sub_add_cancel h]
  generalize (2 : Nat) ^ B74 = P at e ⊢
  rw [e, Nat.mul_div_mul_right _ _ (Nat.two_pow_pos l), Nat.mul_mod_mul_right]
  have hp := Nat.two_pow_pos l
  refine ⟨rfl, ?_⟩
  rw [Nat.mul_eq_zero]
  constructor
  · rintro (h | h)
    · exact h
    · omega
  · intro h; exact Or.inl h

theorem split_pow (m l k : Nat) (h : k ≤ l) : m * 2 ^ l = m * 2 ^ (l - k) * 2 ^ k := by
  rw [Nat.mul_assoc, ← Nat.pow_add, Nat.sub_add_cancel h]

/-- what is left of a finite number that is made whole: a whole number not far from its whole part -/
theorem integral_fin (way : Toward) {n : Nat} (h : rung n < 9218868437227405312) :
    ∃ k b, (D.read n).integral way = .number (sgn n) k 0 ∧ k = wholePart (rung n) + b ∧ b ≤ 1 ∧ (b = 1 → intB (rung n) = false) ∧ (way = .zero → b = 0)
      ∧ (lift (rung n) < B74 → k ≤ 9007199254740992) ∧ (B74 ≤ lift (rung n) → intB (rung n) = true) := by
  have hB := B74_eq
  rw [read_fin h]
  unfold Datum.integral
  dsimp only
  rcases Nat.lt_or_ge (lift (rung n)) B74 with hl | hl
  · have e1 : (-1074 + (lift (rung n) : Int)).toNat = 0 := by omega
    have e2 : (-(-1074 + (lift (rung n) : Int))).toNat = B74 - lift (rung n) := by omega
    rw [e1, e2, Nat.shiftLeft_zero]
    obtain ⟨b, h1, h2, h3, h4⟩ := cut_le way (sgn n) (mant (rung n)) (B74 - lift (rung n))
    obtain ⟨d1, d2⟩ := div_split (mant (rung n)) (lift (rung n)) (by omega)
    refine ⟨_, b, rfl, ?_, h2, ?_, h4, ?_, by omega⟩
    · rw [h1]; unfold wholePart units; rw [d1]
    · intro hb
      unfold intB units
      have := h3 hb
      rw [beq_eq_false_iff_ne]
      exact fun g => this (d2.1 g)
    · intro _
      rw [h1]
      have hm := mant_lt (rung n)
      obtain ⟨q, hq⟩ : ∃ q, B74 - lift (rung n) = q + 1 := ⟨B74 - 1 - lift (rung n), by omega⟩
      rw [hq, Nat.pow_succ, Nat.mul_comm, ← Nat.div_div_eq_div_mul]
      have : mant (rung n) / 2 / 2 ^ q ≤ mant (rung n) / 2 := Nat.div_le_self _ _
      omega
  · have e1 : (-1074 + (lift (rung n) : Int)).toNat = lift (rung n) - B74 := by omega
    have e2 : (-(-1074 + (lift (rung n) : Int))).toNat = 0 := by omega
    rw [e1, e2, cut_zero, Nat.shiftLeft_eq]
    have hu : units (rung n) = mant (rung n) * 2 ^ (lift (rung n) - B74) * 2 ^ B74 := by
      exact split_pow _ _ _ hl
    have hi : intB (rung n) = true := by unfold intB; rw [hu, Nat.mul_mod_left]; rfl
    refine ⟨_, 0, rfl, ?_, by omega, by omega, fun _ => rfl, by omega, fun _ => hi⟩
    unfold wholePart
    rw [hu, Nat.mul_div_cancel _ (Nat.two_pow_pos _), Nat.add_zero]

theorem fnan_fin {n : Nat} (h : rung n < 9218868437227405312) : fnan n = false := by unfold fnan; simp; omega

theorem intg_of (way : Toward) {n k r : Nat} (hd : (D.read n).integral way = .number (sgn n) k 0) (hr : r < 9218868437227405312) (h : units r = k * 2 ^ B74) : intg way n = D.word (sgn n) r := by
  unfold intg
  rw [hd]
  unfold Format.write
  dsimp only
  have h3 := nearest_units (sgn n) k r B74 0 hr (by rw [h, Nat.pow_zero, Nat.mul_one])
  rw [show ((B74 : Nat) : Int) - ((0 : Nat) : Int) - 1074 = 0 by rw [B74_eq]; omega] at h3
  exact h3

theorem intg_whole (way : Toward) {n : Nat} (hn : n < 18446744073709551616) (h : rung n < 9218868437227405312) (hi : intB (rung n) = true) : intg way n = n := by
  obtain ⟨k, b, hd, hk, hb, hb1, _, _, _⟩ := integral_fin way h
  have b0 : b = 0 := by
    rcases Nat.lt_or_ge b 1 with g | g
    · omega
    · have := hb1 (by omega); rw [hi] at this; cases this
  rw [intg_of way hd h (by
    rw [hk, b0, Nat.add_zero]
    unfold wholePart
    unfold intB at hi
    rw [beq_iff_eq] at hi
    exact (Nat.div_mul_cancel (Nat.dvd_of_mod_eq_zero hi)).symm), word_self n hn]

theorem intg_part (way : Toward) {n : Nat} (h : rung n < 9218868437227405312) (hi : intB (rung n) = false) :
    ∃ r, r < 9218868437227405312 ∧ intg way n = D.word (sgn n) r ∧ units r ≠ units (rung n) := by
  obtain ⟨k, b, hd, _, _, _, _, hl, hl2⟩ := integral_fin way h
  have hlt : lift (rung n) < B74 := by
    rcases Nat.lt_or_ge (lift (rung n)) B74 with g | g
    · exact g
    · have := hl2 g; rw [hi] at this; cases this
  obtain ⟨r, h1, h2, _⟩ := nearest_int (sgn n) k (hl hlt)
  refine ⟨r, h1, intg_of way hd h1 h2, ?_⟩
  intro e
  unfold intB at hi
  rw [← e, h2, Nat.mul_mod_left] at hi
  cases hi

/-- IS A FINITE NUMBER THE SAME AS ITSELF MADE WHOLE? If it is whole: whichever way. -/
theorem whole_test (way : Toward) {n : Nat} (hn : n < 18446744073709551616) (h : rung n < 9218868437227405312) :
    (D.order n (intg way n) == some .eq) = intB (rung n) ∧ (D.order (intg way n) n == some .eq) = intB (rung n) := by
  cases hi : intB (rung n)
  · obtain ⟨r, h1, h2, h3⟩ := intg_part way h hi
    obtain ⟨s1, s2⟩ := word_sgn (sgn n) r (by omega)
    have hne : r ≠ rung n := fun e => h3 (by rw [e])
    have hf : fnan (intg way n) = false := fnan_fin (by rw [h2, s2]; exact h1)
    have hk : skey n ≠ skey (intg way n) := by
      unfold skey
      rw [h2, s1, s2]
      cases sgn n <;> simp <;> omega
    rw [order_key, order_key, hf, fnan_fin h]
    constructor
    · rw [beq_eq_false_iff_ne]
      intro e
      simp only [Bool.or_self, Bool.false_eq_true, if_false, Option.some.injEq] at e
      exact hk ((cmp_eq_iff _ _).1 e)
    · rw [beq_eq_false_iff_ne]
      intro e
      simp only [Bool.or_self, Bool.false_eq_true, if_false, Option.some.injEq] at e
      exact hk ((cmp_eq_iff _ _).1 e).symm
  · rw [intg_whole way hn h hi, order_key, fnan_fin h]
    simp

theorem intg_inf (way : Toward) {n : Nat} (hn : n < 18446744073709551616) (h : rung n = 9218868437227405312) : intg way n = n := by
  unfold intg
  rw [read_word, if_neg (by omega), if_pos h]
  unfold Datum.integral Format.write
  dsimp only
  rw [D_inf, ← h]
  exact word_self n hn

/-- the whole number that a word is, cut off -/
def wholeN (n : Nat) : Int := if sgn n then -(wholePart (rung n) : Int) else wholePart (rung n)
/-- IS A WORD A WHOLE NUMBER, FROM -2^63 ON AND BELOW 2^63? -/
def wholeB (n : Nat) : Bool := decide (rung n < 9218868437227405312) && intB (rung n) && decide (-4890909195324358656 ≤ skey n) && decide (skey n < 4890909195324358656)

theorem edge_pow (k : Nat) : 4503599627370496 * 2 ^ (11 + k) = 9223372036854775808 * 2 ^ k := by
  rw [Nat.pow_add, ← Nat.mul_assoc]

theorem units_edge : units 4890909195324358656 = 9223372036854775808 * 2 ^ B74 := by
  have h1 : mant 4890909195324358656 = 4503599627370496 := by unfold mant; rw [if_neg (by omega)]
  have h2 : lift 4890909195324358656 = 1085 := by unfold lift; rw [if_neg (by omega)]
  unfold units
  rw [h1, h2, show 1085 = 11 + B74 by rw [B74_eq]]
  exact edge_pow B74

theorem whole_range {n : Nat} (h1 : -4890909195324358656 ≤ skey n) (h2 : skey n < 4890909195324358656) : -9223372036854775808 ≤ wholeN n ∧ wholeN n ≤ 9223372036854775807 := by
  unfold wholeN wholePart
  have hp := Nat.two_pow_pos B74
  have he := units_edge
  unfold skey at h1 h2
  cases hs : sgn n
  · rw [hs] at h1 h2
    simp only [Bool.false_eq_true, if_false] at *
    have := @units_lt (rung n) 4890909195324358656 (by omega)
    rw [he] at this
    have := (Nat.div_lt_iff_lt_mul hp).2 this
    generalize units (rung n) / 2 ^ B74 = q at *
    omega
  · rw [hs] at h1 h2
    simp only [if_true] at *
    have := @units_le (rung n) 4890909195324358656 (by omega)
    rw [he] at this
    have : units (rung n) / 2 ^ B74 ≤ 9223372036854775808 := by
      have g := Nat.div_le_div_right (c := 2 ^ B74) this
      rw [Nat.mul_div_cancel _ hp] at g
      exact g
    generalize units (rung n) / 2 ^ B74 = q at *
    omega

theorem toInt_fin {n : Nat} (h : rung n < 9218868437227405312) : (D.read n).toInt .zero = some (wholeN n) := by
  obtain ⟨k, b, hd, hk, _, _, hz, _, _⟩ := integral_fin .zero h
  unfold Datum.toInt
  rw [hd]
  dsimp only
  have := hz rfl
  subst this
  unfold signed wholeN
  rw [hk]
  cases sgn n <;> simp

theorem whole_val {n : Nat} (h : wholeB n = true) : floatToIntVal .f64 n .i64 = some (wholeN n) := by
  unfold wholeB at h
  simp only [Bool.and_eq_true, decide_eq_true_eq] at h
  obtain ⟨⟨⟨h1, _⟩, h3⟩, h4⟩ := h
  have hr := whole_range h3 h4
  unfold floatToIntVal
  have e : (FloatKind.f64.decode n).toInt .zero = some (wholeN n) := toInt_fin h1
  rw [e]
  dsimp only
  rw [if_pos]
  exact ⟨hr.1, hr.2⟩

theorem lo_test (n : Nat) : (D.order n 14114281232179134464 == some .lt) = (!fnan n && decide (skey n < -4890909195324358656)) := by
  rw [order_key, show fnan 14114281232179134464 = false by simp [fnan, rung], show skey 14114281232179134464 = -4890909195324358656 by simp [skey, sgn, rung]]
  cases fnan n
  · rw [Bool.eq_iff_iff]; simp [cmp_lt_iff]
  · simp
theorem hi_test (n : Nat) : (D.order n 4890909195324358656 == some .gt || D.order n 4890909195324358656 == some .eq) = (!fnan n && decide (4890909195324358656 ≤ skey n)) := by
  rw [order_key, show fnan 4890909195324358656 = false by simp [fnan, rung], show skey 4890909195324358656 = 4890909195324358656 by simp [skey, sgn, rung]]
  cases fnan n
  · rw [Bool.eq_iff_iff]; simp [cmp_gt_iff]; omega
  · simp

end Go.Proofs.YtmbfpichaaanpaaGreatDoor

/- better, One, Of: both texts. -/
namespace Go.Proofs.YtmbfpichaaanpaaGreatDoor
open Go.RowKit

theorem order_lt_zero (a b : Nat) : decide (orderS a b < 0) = (orderS a b == -1) := by
  unfold orderS
  split
  · rfl
  · split
    · split
      · split <;> rfl
      · rfl
    · split
      · rfl
      · split <;> rfl

def betterS (a b : Nat) (want : Int) : Nat := if fnan a then toldS b else if fnan b then a else if orderS a b = want then a else b



theorem order_three (a b : Nat) : orderS a b = -1 ∨ orderS a b = 0 ∨ orderS a b = 1 := by
  unfold orderS
  split
  · simp
  · split
    · split
      · split <;> simp
      · simp
    · split
      · simp
      · split <;> simp

theorem order_zero {a b : Nat} (h : orderS a b = 0) : a = b := by
  unfold orderS at h
  split at h
  · assumption
  · split at h
    · split at h
      · split at h <;> simp at h
      · simp at h
    · split at h
      · simp at h
      · split at h <;> simp at h

/-- 'one' of the reference, ahead or not -/
def oneS (a b : Nat) (ahead : Bool) : Nat := betterS a b (if ahead then -1 else 1)

theorem one_pick (a b : Nat) (ahead : Bool) (ha : fnan a = false) (hb : fnan b = false) (h : (decide (orderS a b < 0) == ahead) = true) : oneS a b ahead = a := by
  unfold oneS betterS
  rw [ha, hb]
  rw [order_lt_zero] at h
  rcases order_three a b with e | e | e <;> cases ahead <;> simp_all
  exact (order_zero e).symm
theorem one_leave (a b : Nat) (ahead : Bool) (ha : fnan a = false) (hb : fnan b = false) (h : (decide (orderS a b < 0) == ahead) = false) : oneS a b ahead = b := by
  unfold oneS betterS
  rw [ha, hb]
  rw [order_lt_zero] at h
  rcases order_three a b with e | e | e <;> cases ahead <;> simp_all



def ofS (n : Int) : Nat := toldS (floatOfInt .f64 n)

set_option maxRecDepth 100000 in
set_option maxHeartbeats 400000 in
theorem of_any (n : Int) (w : World) :
    Calls Tryz.prog 69 #[.int .i64 n] w fun e w' => e = .returned (.int .u64 (ofS n : Nat)) ∧ w = w' := by
  go_enter Tryz.func69, Tryz.ntmps69
  go_wp2_with (first | (go_at_call 90; refine (told_any _ _).mono ?_; rintro e w' ⟨rfl, rfl⟩))
  go_ret
  exact ⟨rfl, rfl⟩


end Go.Proofs.YtmbfpichaaanpaaGreatDoor

/- One: both texts. -/
namespace Go.Proofs.YtmbfpichaaanpaaGreatDoor
open Go.RowKit

/-- the opposite word -/
def oppW (n : Nat) : Nat := D.word (!sgn n) (rung n)

def oneOpS (op : Int) (v : Nat) : Nat :=
  if fnan v then nanC else if op = 0 then rung v else if op = 1 then oppW v else if op = 2 then toldS (intg .down v)
  else if op = 3 then toldS (intg .up v) else if op = 4 then optT (D.sqrt v) else nanC

theorem fnan_oppW (v : Nat) : fnan (oppW v) = fnan v := by
  unfold fnan oppW; rw [(word_sgn _ _ (rung_lt v)).2]

theorem toldS_of_num {v : Nat} (h : fnan v = false) : toldS v = v := by unfold toldS; rw [h]; rfl
theorem toldS_of_nan {v : Nat} (h : fnan v = true) : toldS v = nanC := by unfold toldS; rw [h]; rfl

/-- a value, some draws later -/
def Told (v : Nat) (w : World) (e : Ending) (w' : World) : Prop := e = .returned (.int .u64 (v : Nat)) ∧ ∃ k, w' = w.drewN k

theorem Told.same {u v : Nat} {w : World} (h : u = v) : Told v w (.returned (.int .u64 (u : Nat))) w := ⟨by rw [h], 0, rfl⟩
theorem Told.some {u v : Nat} {w w' : World} {k : Nat} (h : u = v) (hw : w' = w.drewN k) : Told v w (.returned (.int .u64 (u : Nat))) w' := ⟨by rw [h], k, hw⟩

theorem sqrt_nan {v : Nat} (h : fnan v = true) : D.sqrt v = none := by
  obtain ⟨s, t, hd⟩ := read_nan h
  unfold Ieee.Format.sqrt
  rw [hd]; rfl

theorem one_end {op : Int} {v : Nat} (_ : (op == 0) = false) (_ : (op == 1) = false) (_ : (op == 2) = false) (_ : (op == 3) = false) (_ : (op == 4) = false) : oneOpS op v = nanC := by
  unfold oneOpS; simp_all







theorem mod_sign (v : Nat) : (v : Int) % 9223372036854775808 = ((rung v : Nat) : Int) := by unfold rung; omega


end Go.Proofs.YtmbfpichaaanpaaGreatDoor
