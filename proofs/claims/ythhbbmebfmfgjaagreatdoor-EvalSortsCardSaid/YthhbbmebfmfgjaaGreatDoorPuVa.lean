import Derived.Test.YthhbbmebfmfgjaaGreatDoorPDx11
import Derived.Lib.ValidLaws
/-! EvalSorts: names and values, plainly. -/
namespace Go.Proofs.YthhbbmebfmfgjaaGreatDoor.PD
open Go.RowKit Go.Proofs.YthhbbmebfmfgjaaGreatDoorW.PrintWords Go.Proofs.YthhbbmebfmfgjaaGreatDoorW.PrintLast Go.Lib Ut

theorem bt_drop (s : ByteArray) (p j : Nat) : bt s ((p + j : Nat) : Int) = (((s.data.toList.drop p).getD j 0).toNat : Int) := by
  unfold bt
  simp only [Int.toNat_natCast]
  rw [List.getD_eq_getElem?_getD, List.getElem?_drop]
  by_cases h : p + j < s.size
  · rw [dif_pos h, List.getElem?_eq_getElem (by rw [tl_len]; exact h), Option.getD_some, tl_get s (p + j) h]
  · rw [dif_neg h, List.getElem?_eq_none (by rw [tl_len]; omega)]; rfl
def ct (s : ByteArray) (q : Nat) : Bool := decide ((bt s (q : Int)).toNat / 64 = 2)
theorem more_step (s : ByteArray) (a n i : Nat) (hi : i < n) (hb : a + i < s.size) (hs : s.size ≤ 1000) (k : Nat) : manometerref05_more.l0 (k + 1) s a n i = if ct s (a + i) = true then manometerref05_more.l0 k s a n ((i + 1 : Nat) : Int) else some false := by
  have hr := bt_range s ((a + i : Nat) : Int)
  have e1 : wrap64 ((a : Int) + (i : Int)) = ((a + i : Nat) : Int) := by unfold wrap64; omega
  have e2 : wrap64 ((i : Int) + 1) = ((i + 1 : Nat) : Int) := by unfold wrap64; omega
  simp only [manometerref05_more.l0]
  rw [if_pos (by omega), e1, e2, if_pos (by omega), if_pos (by omega)]
  have e3 : (Int.tdiv (bt s ((a + i : Nat) : Int)) 64 % 256 = 2) = (ct s (a + i) = true) := by
    unfold ct
    rw [Int.tdiv_eq_ediv_of_nonneg hr.1, decide_eq_true_eq]
    exact propext ⟨fun h => by omega, fun h => by omega⟩
  simp only [e3]
theorem more_end (s : ByteArray) (a n : Nat) (k : Nat) : manometerref05_more.l0 (k + 1) s a n n = some true := by
  simp only [manometerref05_more.l0]
  rw [if_neg (by omega)]
theorem more_val1 (s : ByteArray) (a k : Nat) (hs : s.size ≤ 1000) : manometerref05_more.f (k + 2) s a 1 = some (decide (a + 1 ≤ s.size) && ct s a) := by
  unfold manometerref05_more.f
  have e : wrap64 ((s.size : Int) - 1) = (s.size : Int) - 1 := by unfold wrap64; omega
  rw [e]
  by_cases h : a + 1 ≤ s.size
  · have m : manometerref05_more.l0 (k + 2) s a 1 0 = if ct s a = true then manometerref05_more.l0 (k + 1) s a 1 1 else some false := more_step s a 1 0 (by omega) (by omega) hs (k + 1)
    have m1 : manometerref05_more.l0 (k + 1) s a 1 1 = some true := more_end s a 1 k
    rw [if_neg (by omega), decide_eq_true h, m, m1]
    cases ct s a <;> rfl
  · rw [if_pos (by omega), decide_eq_false h]; rfl
theorem more_val2 (s : ByteArray) (a k : Nat) (hs : s.size ≤ 1000) : manometerref05_more.f (k + 3) s a 2 = some (decide (a + 2 ≤ s.size) && ct s a && ct s (a + 1)) := by
  unfold manometerref05_more.f
  have e : wrap64 ((s.size : Int) - 2) = (s.size : Int) - 2 := by unfold wrap64; omega
  rw [e]
  by_cases h : a + 2 ≤ s.size
  · have m : manometerref05_more.l0 (k + 3) s a 2 0 = if ct s a = true then manometerref05_more.l0 (k + 2) s a 2 1 else some false := more_step s a 2 0 (by omega) (by omega) hs (k + 2)
    have m1 : manometerref05_more.l0 (k + 2) s a 2 1 = if ct s (a + 1) = true then manometerref05_more.l0 (k + 1) s a 2 2 else some false := more_step s a 2 1 (by omega) (by omega) hs (k + 1)
    have m2 : manometerref05_more.l0 (k + 1) s a 2 2 = some true := more_end s a 2 k
    rw [if_neg (by omega), decide_eq_true h, m, m1, m2]
    cases ct s a <;> cases ct s (a + 1) <;> rfl
  · rw [if_pos (by omega), decide_eq_false h]; rfl
theorem more_val3 (s : ByteArray) (a k : Nat) (hs : s.size ≤ 1000) : manometerref05_more.f (k + 4) s a 3 = some (decide (a + 3 ≤ s.size) && ct s a && ct s (a + 1) && ct s (a + 2)) := by
  unfold manometerref05_more.f
  have e : wrap64 ((s.size : Int) - 3) = (s.size : Int) - 3 := by unfold wrap64; omega
  rw [e]
  by_cases h : a + 3 ≤ s.size
  · have m : manometerref05_more.l0 (k + 4) s a 3 0 = if ct s a = true then manometerref05_more.l0 (k + 3) s a 3 1 else some false := more_step s a 3 0 (by omega) (by omega) hs (k + 3)
    have m1 : manometerref05_more.l0 (k + 3) s a 3 1 = if ct s (a + 1) = true then manometerref05_more.l0 (k + 2) s a 3 2 else some false := more_step s a 3 1 (by omega) (by omega) hs (k + 2)
    have m2 : manometerref05_more.l0 (k + 2) s a 3 2 = if ct s (a + 2) = true then manometerref05_more.l0 (k + 1) s a 3 3 else some false := more_step s a 3 2 (by omega) (by omega) hs (k + 1)
    have m3 : manometerref05_more.l0 (k + 1) s a 3 3 = some true := more_end s a 3 k
    rw [if_neg (by omega), decide_eq_true h, m, m1, m2, m3]
    cases ct s a <;> cases ct s (a + 1) <;> cases ct s (a + 2) <;> rfl
  · rw [if_pos (by omega), decide_eq_false h]; rfl

theorem tm (b c : Nat) : Int.tmod (b : Int) (c : Int) = ((b % c : Nat) : Int) := by rw [Int.tmod_eq_emod_of_nonneg (by omega)]; omega
theorem wn (x : Nat) (h : x < 1000000000) : wrap64 (x : Int) = (x : Int) := by unfold wrap64; omega
theorem wm (x c : Nat) (h : x < 1000) (hc : c < 1000000) : wrap64 (wrap64 (x : Int) * (c : Int)) = ((x * c : Nat) : Int) := by
  have h2 : x * c ≤ 1000 * 1000000 := Nat.mul_le_mul (by omega) (by omega)
  have e : (x : Int) * (c : Int) = ((x * c : Nat) : Int) := by push_cast; rfl
  rw [wn x (by omega), e]
  generalize x * c = y at *
  unfold wrap64; omega
theorem wa (x y : Nat) (h : x + y < 1000000000) : wrap64 ((x : Int) + (y : Int)) = ((x + y : Nat) : Int) := by unfold wrap64; omega
/-- how far the reference goes on: 0 where decoding fails -/
def stp (d : Nat × Nat) : Int := if d.1 = 65533 ∧ d.2 = 1 then 0 else (d.2 : Int)

theorem stp_bad : stp (65533, 1) = 0 := rfl
theorem stp_two (v : Nat) : stp (v, 2) = 2 := by unfold stp; rw [if_neg (by simp)]; rfl
theorem stp_three (v : Nat) : stp (v, 3) = 3 := by unfold stp; rw [if_neg (by simp)]; rfl
theorem stp_four (v : Nat) : stp (v, 4) = 4 := by unfold stp; rw [if_neg (by simp)]; rfl
theorem dB (n b0 b1 b2 b3 : Nat) (h1 : 128 ≤ b0) (h2 : b0 < 194) : stp (decodeN n b0 b1 b2 b3) = 0 := by
  have e : decodeN n b0 b1 b2 b3 = (65533, 1) := by
    unfold decodeN
    rw [if_neg (by omega : ¬ b0 < 128), if_neg (by omega : ¬ (b0 / 16 = 14 ∧ _)), if_neg (by omega : ¬ (b0 / 8 = 30 ∧ _))]
    by_cases h : b0 / 32 = 6 ∧ (1 < n ∧ b1 / 64 = 2)
    · rw [if_pos h, if_neg (by omega)]
    · rw [if_neg h]
  rw [e, stp_bad]
theorem dF (n b0 b1 b2 b3 : Nat) (h1 : 245 ≤ b0) : stp (decodeN n b0 b1 b2 b3) = 0 := by
  have e : decodeN n b0 b1 b2 b3 = (65533, 1) := by
    unfold decodeN
    rw [if_neg (by omega : ¬ b0 < 128), if_neg (by omega : ¬ (b0 / 32 = 6 ∧ _)), if_neg (by omega : ¬ (b0 / 16 = 14 ∧ _))]
    by_cases h : b0 / 8 = 30 ∧ (1 < n ∧ b1 / 64 = 2) ∧ (2 < n ∧ b2 / 64 = 2) ∧ (3 < n ∧ b3 / 64 = 2)
    · rw [if_pos h, if_neg (by omega)]
    · rw [if_neg h]
  rw [e, stp_bad]
theorem dC (n b0 b1 b2 b3 : Nat) (h1 : 194 ≤ b0) (h2 : b0 < 224) : stp (decodeN n b0 b1 b2 b3) = if 1 < n ∧ b1 / 64 = 2 then 2 else 0 := by
  by_cases h : 1 < n ∧ b1 / 64 = 2
  · have e : ∃ v, decodeN n b0 b1 b2 b3 = (v, 2) := by
      unfold decodeN
      rw [if_neg (by omega : ¬ b0 < 128), if_pos ⟨by omega, h⟩, if_pos (by omega)]; exact ⟨_, rfl⟩
    obtain ⟨v, e⟩ := e
    rw [e, stp_two, if_pos h]
  · have e : decodeN n b0 b1 b2 b3 = (65533, 1) := by
      unfold decodeN
      rw [if_neg (by omega : ¬ b0 < 128), if_neg (fun e => h e.2), if_neg (by omega : ¬ (b0 / 16 = 14 ∧ _)), if_neg (by omega : ¬ (b0 / 8 = 30 ∧ _))]
    rw [e, stp_bad, if_neg h]
theorem dD (n b0 b1 b2 b3 : Nat) (h1 : 224 ≤ b0) (h2 : b0 < 240) : stp (decodeN n b0 b1 b2 b3) = if ((1 < n ∧ b1 / 64 = 2) ∧ (2 < n ∧ b2 / 64 = 2)) ∧ (2048 ≤ b0 % 16 * 4096 + b1 % 64 * 64 + b2 % 64 ∧ (b0 % 16 * 4096 + b1 % 64 * 64 + b2 % 64 < 55296 ∨ 57343 < b0 % 16 * 4096 + b1 % 64 * 64 + b2 % 64)) then 3 else 0 := by
  have d : decodeN n b0 b1 b2 b3 = if b0 / 16 = 14 ∧ (1 < n ∧ b1 / 64 = 2) ∧ (2 < n ∧ b2 / 64 = 2) then (if b0 % 16 * 4096 + b1 % 64 * 64 + b2 % 64 ≥ 2048 ∧ (b0 % 16 * 4096 + b1 % 64 * 64 + b2 % 64 < 55296 ∨ (57344 ≤ b0 % 16 * 4096 + b1 % 64 * 64 + b2 % 64 ∧ b0 % 16 * 4096 + b1 % 64 * 64 + b2 % 64 ≤ 1114111)) then (b0 % 16 * 4096 + b1 % 64 * 64 + b2 % 64, 3) else (65533, 1)) else (65533, 1) := by
    unfold decodeN
    rw [if_neg (by omega : ¬ b0 < 128), if_neg (by omega : ¬ (b0 / 32 = 6 ∧ _)), if_neg (by omega : ¬ (b0 / 8 = 30 ∧ _))]
  have hm : b0 % 16 * 4096 + b1 % 64 * 64 + b2 % 64 ≤ 1114111 := by omega
  rw [d]
  generalize b0 % 16 * 4096 + b1 % 64 * 64 + b2 % 64 = v at *
  by_cases h : (1 < n ∧ b1 / 64 = 2) ∧ (2 < n ∧ b2 / 64 = 2)
  · rw [if_pos ⟨by omega, h⟩]
    by_cases k : 2048 ≤ v ∧ (v < 55296 ∨ 57343 < v)
    · rw [if_pos (by omega), if_pos ⟨h, k⟩, stp_three]
    · rw [if_neg (by omega), if_neg (fun e => k e.2), stp_bad]
  · rw [if_neg (fun e => h e.2), if_neg (fun e => h e.1), stp_bad]
theorem dE (n b0 b1 b2 b3 : Nat) (h1 : 240 ≤ b0) (h2 : b0 < 245) : stp (decodeN n b0 b1 b2 b3) = if ((1 < n ∧ b1 / 64 = 2) ∧ (2 < n ∧ b2 / 64 = 2) ∧ (3 < n ∧ b3 / 64 = 2)) ∧ (65536 ≤ b0 % 8 * 262144 + b1 % 64 * 4096 + b2 % 64 * 64 + b3 % 64 ∧ b0 % 8 * 262144 + b1 % 64 * 4096 + b2 % 64 * 64 + b3 % 64 ≤ 1114111) then 4 else 0 := by
  have d : decodeN n b0 b1 b2 b3 = if b0 / 8 = 30 ∧ (1 < n ∧ b1 / 64 = 2) ∧ (2 < n ∧ b2 / 64 = 2) ∧ (3 < n ∧ b3 / 64 = 2) then (if b0 % 8 * 262144 + b1 % 64 * 4096 + b2 % 64 * 64 + b3 % 64 ≥ 65536 ∧ (b0 % 8 * 262144 + b1 % 64 * 4096 + b2 % 64 * 64 + b3 % 64 < 55296 ∨ (57344 ≤ b0 % 8 * 262144 + b1 % 64 * 4096 + b2 % 64 * 64 + b3 % 64 ∧ b0 % 8 * 262144 + b1 % 64 * 4096 + b2 % 64 * 64 + b3 % 64 ≤ 1114111)) then (b0 % 8 * 262144 + b1 % 64 * 4096 + b2 % 64 * 64 + b3 % 64, 4) else (65533, 1)) else (65533, 1) := by
    unfold decodeN
    rw [if_neg (by omega : ¬ b0 < 128), if_neg (by omega : ¬ (b0 / 32 = 6 ∧ _)), if_neg (by omega : ¬ (b0 / 16 = 14 ∧ _))]
  rw [d]
  generalize b0 % 8 * 262144 + b1 % 64 * 4096 + b2 % 64 * 64 + b3 % 64 = v at *
  by_cases h : (1 < n ∧ b1 / 64 = 2) ∧ (2 < n ∧ b2 / 64 = 2) ∧ (3 < n ∧ b3 / 64 = 2)
  · rw [if_pos ⟨by omega, h⟩]
    by_cases k : 65536 ≤ v ∧ v ≤ 1114111
    · rw [if_pos (by omega), if_pos ⟨h, k⟩, stp_four]
    · rw [if_neg (by omega), if_neg (fun e => k e.2), stp_bad]
  · rw [if_neg (fun e => h e.2), if_neg (fun e => h e.1), stp_bad]

theorem j2_no (k : Nat) (s : ByteArray) (p c : Int) : manometerref05_step.j2 (k + 1) s p c false = some 0 := by
  simp only [manometerref05_step.j2]; rw [if_neg (by decide)]
theorem j2_yes (k : Nat) (s : ByteArray) (p b0 b1 b2 b3 : Nat) (hp : p + 3 < s.size) (hs : s.size ≤ 900) (e1 : bt s ((p + 1 : Nat) : Int) = b1) (e2 : bt s ((p + 2 : Nat) : Int) = b2) (e3 : bt s ((p + 3 : Nat) : Int) = b3) : manometerref05_step.j2 (k + 1) s p (b0 : Int) true = if 65536 ≤ b0 % 8 * 262144 + b1 % 64 * 4096 + b2 % 64 * 64 + b3 % 64 ∧ b0 % 8 * 262144 + b1 % 64 * 4096 + b2 % 64 * 64 + b3 % 64 ≤ 1114111 then some 4 else some 0 := by
  have w1 : wrap64 ((p : Int) + 1) = ((p + 1 : Nat) : Int) := wa p 1 (by clear e1 e2 e3; omega)
  have w2 : wrap64 ((p : Int) + 2) = ((p + 2 : Nat) : Int) := wa p 2 (by clear e1 e2 e3; omega)
  have w3 : wrap64 ((p : Int) + 3) = ((p + 3 : Nat) : Int) := wa p 3 (by clear e1 e2 e3; omega)
  have z1 : ((p + 1 : Nat) : Int) < s.size := by clear e1 e2 e3; omega
  have z2 : ((p + 2 : Nat) : Int) < s.size := by clear e1 e2 e3; omega
  have z3 : ((p + 3 : Nat) : Int) < s.size := by clear e1 e2 e3; omega
  have u1 : b0 % 8 < 8 := Nat.mod_lt _ (by decide)
  have u2 : b1 % 64 < 64 := Nat.mod_lt _ (by decide)
  have u3 : b2 % 64 < 64 := Nat.mod_lt _ (by decide)
  have u4 : b3 % 64 < 64 := Nat.mod_lt _ (by decide)
  have t0 : Int.tmod (b0 : Int) 8 = ((b0 % 8 : Nat) : Int) := tm b0 8
  have t1 : Int.tmod (b1 : Int) 64 = ((b1 % 64 : Nat) : Int) := tm b1 64
  have t2 : Int.tmod (b2 : Int) 64 = ((b2 % 64 : Nat) : Int) := tm b2 64
  have t3 : Int.tmod (b3 : Int) 64 = ((b3 % 64 : Nat) : Int) := tm b3 64
  simp only [manometerref05_step.j2, w1, w2, w3, e1, e2, e3, t0, t1, t2, t3]
  rw [if_pos trivial, if_pos (Int.natCast_nonneg _), if_pos z1, if_pos (Int.natCast_nonneg _), if_pos z2, if_pos (Int.natCast_nonneg _), if_pos z3]
  clear w1 w2 w3 z1 z2 z3 t0 t1 t2 t3 e1 e2 e3 hp hs
  generalize b0 % 8 = y0 at *
  generalize b1 % 64 = y1 at *
  generalize b2 % 64 = y2 at *
  generalize b3 % 64 = y3 at *
  have m0 : wrap64 (wrap64 (y0 : Int) * 262144) = ((y0 * 262144 : Nat) : Int) := wm y0 262144 (by omega) (by omega)
  have m1 : wrap64 (wrap64 (y1 : Int) * 4096) = ((y1 * 4096 : Nat) : Int) := wm y1 4096 (by omega) (by omega)
  have m2 : wrap64 (wrap64 (y2 : Int) * 64) = ((y2 * 64 : Nat) : Int) := wm y2 64 (by omega) (by omega)
  have m3 : wrap64 (y3 : Int) = (y3 : Int) := wn y3 (by omega)
  have a1 : wrap64 (((y0 * 262144 : Nat) : Int) + ((y1 * 4096 : Nat) : Int)) = ((y0 * 262144 + y1 * 4096 : Nat) : Int) := wa _ _ (by omega)
  have a2 : wrap64 (((y0 * 262144 + y1 * 4096 : Nat) : Int) + ((y2 * 64 : Nat) : Int)) = ((y0 * 262144 + y1 * 4096 + y2 * 64 : Nat) : Int) := wa _ _ (by omega)
  have a3 : wrap64 (((y0 * 262144 + y1 * 4096 + y2 * 64 : Nat) : Int) + (y3 : Int)) = ((y0 * 262144 + y1 * 4096 + y2 * 64 + y3 : Nat) : Int) := wa _ _ (by omega)
  rw [m0, m1, m2, m3, a1, a2, a3]
  generalize y0 * 262144 + y1 * 4096 + y2 * 64 + y3 = v
  by_cases h1 : 65536 ≤ v
  · by_cases h2 : v ≤ 1114111
    · rw [if_pos (by omega), if_pos (by omega), if_pos ⟨h1, h2⟩]
    · rw [if_pos (by omega), if_neg (by omega), if_neg (fun e => h2 e.2)]
  · rw [if_neg (by omega), if_neg (fun e => h1 e.1)]
theorem j1_yes (k : Nat) (s : ByteArray) (p b0 b1 b2 : Nat) (hp : p + 2 < s.size) (hs : s.size ≤ 900) (e1 : bt s ((p + 1 : Nat) : Int) = b1) (e2 : bt s ((p + 2 : Nat) : Int) = b2) : manometerref05_step.j1 (k + 1) s p (b0 : Int) true = if 2048 ≤ b0 % 16 * 4096 + b1 % 64 * 64 + b2 % 64 ∧ (b0 % 16 * 4096 + b1 % 64 * 64 + b2 % 64 < 55296 ∨ 57343 < b0 % 16 * 4096 + b1 % 64 * 64 + b2 % 64) then some 3 else some 0 := by
  have w1 : wrap64 ((p : Int) + 1) = ((p + 1 : Nat) : Int) := wa p 1 (by clear e1 e2; omega)
  have w2 : wrap64 ((p : Int) + 2) = ((p + 2 : Nat) : Int) := wa p 2 (by clear e1 e2; omega)
  have z1 : ((p + 1 : Nat) : Int) < s.size := by clear e1 e2; omega
  have z2 : ((p + 2 : Nat) : Int) < s.size := by clear e1 e2; omega
  have u1 : b0 % 16 < 16 := Nat.mod_lt _ (by decide)
  have u2 : b1 % 64 < 64 := Nat.mod_lt _ (by decide)
  have u3 : b2 % 64 < 64 := Nat.mod_lt _ (by decide)
  have t0 : Int.tmod (b0 : Int) 16 = ((b0 % 16 : Nat) : Int) := tm b0 16
  have t1 : Int.tmod (b1 : Int) 64 = ((b1 % 64 : Nat) : Int) := tm b1 64
  have t2 : Int.tmod (b2 : Int) 64 = ((b2 % 64 : Nat) : Int) := tm b2 64
  rw [manometerref05_step.j1, if_pos rfl, w1, w2, if_pos (Int.natCast_nonneg _), if_pos z1, if_pos (Int.natCast_nonneg _), if_pos z2, e1, e2, t0, t1, t2]
  clear w1 w2 z1 z2 t0 t1 t2 e1 e2 hp hs
  generalize b0 % 16 = y0 at *
  generalize b1 % 64 = y1 at *
  generalize b2 % 64 = y2 at *
  have m0 : wrap64 (wrap64 (y0 : Int) * 4096) = ((y0 * 4096 : Nat) : Int) := wm y0 4096 (by omega) (by omega)
  have m1 : wrap64 (wrap64 (y1 : Int) * 64) = ((y1 * 64 : Nat) : Int) := wm y1 64 (by omega) (by omega)
  have m3 : wrap64 (y2 : Int) = (y2 : Int) := wn y2 (by omega)
  have a1 : wrap64 (((y0 * 4096 : Nat) : Int) + ((y1 * 64 : Nat) : Int)) = ((y0 * 4096 + y1 * 64 : Nat) : Int) := wa _ _ (by omega)
  have a3 : wrap64 (((y0 * 4096 + y1 * 64 : Nat) : Int) + (y2 : Int)) = ((y0 * 4096 + y1 * 64 + y2 : Nat) : Int) := wa _ _ (by omega)
  rw [m0, m1, m3, a1, a3]
  generalize y0 * 4096 + y1 * 64 + y2 = v
  by_cases h1 : 2048 ≤ v
  · by_cases h2 : v < 55296
    · rw [if_pos (by omega), if_pos (by omega), if_pos ⟨h1, .inl h2⟩]
    · by_cases h3 : 57343 < v
      · rw [if_pos (by omega), if_neg (by omega), if_pos (by omega), if_pos ⟨h1, .inr h3⟩]
      · rw [if_pos (by omega), if_neg (by omega), if_neg (by omega), if_neg (fun e => by omega)]
  · rw [if_neg (by omega), if_neg (fun e => h1 e.1)]
theorem j1_no (k : Nat) (s : ByteArray) (p c : Int) : manometerref05_step.j1 (k + 1) s p c false = if c ≥ 240 then (if c < 245 then ((manometerref05_more.f k s (wrap64 (p + 1)) 3).bind fun t => manometerref05_step.j2 k s p c t) else manometerref05_step.j2 k s p c false) else manometerref05_step.j2 k s p c false := by
  rw [manometerref05_step.j1, if_neg (by decide)]
theorem j0_no (k : Nat) (s : ByteArray) (p c : Int) : manometerref05_step.j0 (k + 1) s p c false = if c ≥ 224 then (if c < 240 then ((manometerref05_more.f k s (wrap64 (p + 1)) 2).bind fun t => manometerref05_step.j1 k s p c t) else manometerref05_step.j1 k s p c false) else manometerref05_step.j1 k s p c false := by
  rw [manometerref05_step.j0, if_neg (by decide)]
theorem j0_yes (k : Nat) (s : ByteArray) (p c : Int) : manometerref05_step.j0 (k + 1) s p c true = some 2 := by
  rw [manometerref05_step.j0, if_pos rfl]

theorem step_val (s : ByteArray) (p k : Nat) (hp : p < s.size) (hs : s.size ≤ 900) : manometerref05_step.f (k + 9) s p = some (stp (decodeL (s.data.toList.drop p))) := by
  have hl : (s.data.toList.drop p).length = s.size - p := by rw [List.length_drop, tl_len]
  have w1 : wrap64 ((p : Int) + 1) = ((p + 1 : Nat) : Int) := wa p 1 (by omega)
  have m1 := more_val1 s (p + 1) (k + 7) (by omega)
  have m2 := more_val2 s (p + 1) (k + 5) (by omega)
  have m3 := more_val3 s (p + 1) (k + 3) (by omega)
  have z1 : (p : Int) < s.size := by omega
  have hk1 : (1 < s.size - p) = (p + 1 + 1 ≤ s.size) := propext ⟨fun h => by omega, fun h => by omega⟩
  have hk2 : (2 < s.size - p) = (p + 1 + 2 ≤ s.size) := propext ⟨fun h => by omega, fun h => by omega⟩
  have hk3 : (3 < s.size - p) = (p + 1 + 3 ≤ s.size) := propext ⟨fun h => by omega, fun h => by omega⟩
  have q0 := bt_drop s p 0
  have q1 := bt_drop s p 1
  have q2 := bt_drop s p 2
  have q3 := bt_drop s p 3
  have c1 : ct s (p + 1) = decide (((s.data.toList.drop p).getD 1 0).toNat / 64 = 2) := by unfold ct; rw [q1]; rfl
  have c2 : ct s (p + 1 + 1) = decide (((s.data.toList.drop p).getD 2 0).toNat / 64 = 2) := by unfold ct; rw [q2]; rfl
  have c3 : ct s (p + 1 + 2) = decide (((s.data.toList.drop p).getD 3 0).toNat / 64 = 2) := by unfold ct; rw [q3]; rfl
  rw [c1] at m1
  rw [c1, c2] at m2
  rw [c1, c2, c3] at m3
  rw [decodeL_N, hl]
  clear c1 c2 c3 hl
  rw [Nat.add_zero] at q0
  generalize ((s.data.toList.drop p).getD 0 0).toNat = b0 at *
  generalize ((s.data.toList.drop p).getD 1 0).toNat = b1 at *
  generalize ((s.data.toList.drop p).getD 2 0).toNat = b2 at *
  generalize ((s.data.toList.drop p).getD 3 0).toNat = b3 at *
  rw [manometerref05_step.f, if_pos (Int.natCast_nonneg _), if_pos z1, q0, w1]
  have Q1 := Aside0.mk q1
  have Q2 := Aside0.mk q2
  have Q3 := Aside0.mk q3
  clear q0 q1 q2 q3
  by_cases h0 : b0 < 128
  · rw [if_pos (by omega)]
    unfold decodeN stp
    rw [if_pos h0, if_neg (by simp; omega)]; rfl
  rw [if_neg (by omega)]
  by_cases h1 : b0 < 194
  · rw [if_neg (by omega), j0_no, if_neg (by omega), j1_no, if_neg (by omega), j2_no, dB _ _ _ _ _ (by omega) h1]
  rw [if_pos (by omega)]
  by_cases h2 : b0 < 224
  · rw [if_pos (by omega), dC _ _ _ _ _ (by omega) h2, m1, Option.bind_some]
    simp only [hk1]
    by_cases h : p + 1 + 1 ≤ s.size ∧ b1 / 64 = 2
    · rw [if_pos h, decide_eq_true h.1, decide_eq_true h.2]; exact j0_yes _ _ _ _
    · have e : (decide (p + 1 + 1 ≤ s.size) && decide (b1 / 64 = 2)) = false := by
        rw [← Bool.decide_and, decide_eq_false h]
      rw [if_neg h, e, j0_no, if_neg (by omega), j1_no, if_neg (by omega), j2_no]
  rw [if_neg (by omega), j0_no, if_pos (by omega)]
  by_cases h3 : b0 < 240
  · rw [if_pos (by omega), dD _ _ _ _ _ (by omega) h3, w1, m2, Option.bind_some]
    simp only [hk1, hk2]
    by_cases h : (p + 1 + 1 ≤ s.size ∧ b1 / 64 = 2) ∧ (p + 1 + 2 ≤ s.size ∧ b2 / 64 = 2)
    · have e : (decide (p + 1 + 2 ≤ s.size) && decide (b1 / 64 = 2) && decide (b2 / 64 = 2)) = true := by
        rw [decide_eq_true h.2.1, decide_eq_true h.1.2, decide_eq_true h.2.2]; rfl
      rw [e, j1_yes _ s p b0 b1 b2 (by omega) hs Q1.out Q2.out]
      by_cases c : 2048 ≤ b0 % 16 * 4096 + b1 % 64 * 64 + b2 % 64 ∧ (b0 % 16 * 4096 + b1 % 64 * 64 + b2 % 64 < 55296 ∨ 57343 < b0 % 16 * 4096 + b1 % 64 * 64 + b2 % 64)
      · rw [if_pos c, if_pos ⟨h, c⟩]
      · rw [if_neg c, if_neg (fun e => c e.2)]
    · have e : (decide (p + 1 + 2 ≤ s.size) && decide (b1 / 64 = 2) && decide (b2 / 64 = 2)) = false := by
        rw [← Bool.decide_and, ← Bool.decide_and, decide_eq_false (fun e => h ⟨⟨by omega, e.1.2⟩, e.1.1, e.2⟩)]
      rw [if_neg (fun e => h e.1), e, j1_no, if_neg (by omega), j2_no]
  rw [if_neg (by omega), j1_no, if_pos (by omega)]
  by_cases h4 : b0 < 245
  · rw [if_pos (by omega), dE _ _ _ _ _ (by omega) h4, w1, m3, Option.bind_some]
    simp only [hk1, hk2, hk3]
    by_cases h : (p + 1 + 1 ≤ s.size ∧ b1 / 64 = 2) ∧ (p + 1 + 2 ≤ s.size ∧ b2 / 64 = 2) ∧ (p + 1 + 3 ≤ s.size ∧ b3 / 64 = 2)
    · have e : (decide (p + 1 + 3 ≤ s.size) && decide (b1 / 64 = 2) && decide (b2 / 64 = 2) && decide (b3 / 64 = 2)) = true := by
        rw [decide_eq_true h.2.2.1, decide_eq_true h.1.2, decide_eq_true h.2.1.2, decide_eq_true h.2.2.2]; rfl
      rw [e, j2_yes _ s p b0 b1 b2 b3 (by omega) hs Q1.out Q2.out Q3.out]
      by_cases c : 65536 ≤ b0 % 8 * 262144 + b1 % 64 * 4096 + b2 % 64 * 64 + b3 % 64 ∧ b0 % 8 * 262144 + b1 % 64 * 4096 + b2 % 64 * 64 + b3 % 64 ≤ 1114111
      · rw [if_pos c, if_pos ⟨h, c⟩]
      · rw [if_neg c, if_neg (fun e => c e.2)]
    · have e : (decide (p + 1 + 3 ≤ s.size) && decide (b1 / 64 = 2) && decide (b2 / 64 = 2) && decide (b3 / 64 = 2)) = false := by
        rw [← Bool.decide_and, ← Bool.decide_and, ← Bool.decide_and, decide_eq_false (fun e => h ⟨⟨by omega, e.1.1.2⟩, ⟨by omega, e.1.2⟩, e.1.1.1, e.2⟩)]
      rw [if_neg (fun e => h e.1), e, j2_no]
  · rw [if_neg (by omega), j2_no, dF _ _ _ _ _ (by omega)]
end Go.Proofs.YthhbbmebfmfgjaaGreatDoor.PD
