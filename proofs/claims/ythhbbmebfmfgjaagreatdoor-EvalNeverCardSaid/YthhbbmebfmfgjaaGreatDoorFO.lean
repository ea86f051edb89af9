import Derived.Test.YthhbbmebfmfgjaaGreatDoorFN
/-! Not below 0: a difference, and what brings it back. -/
namespace Go.Proofs.YthhbbmebfmfgjaaGreatDoor
open Ieee

theorem sum_num (s t : Bool) (p q : Nat) : ∃ (total : Int) (m : Nat),
    (Datum.number s (mant p) (-1074 + (lift p : Int))).sum (.number t (mant q) (-1074 + (lift q : Int))) = some (.number (if total = 0 then s && t else decide (total < 0)) total.natAbs ((m : Int) - 1074)) ∧
    total * (2 : Int) ^ m = (if s then -(units p : Int) else units p) + (if t then -(units q : Int) else units q) := by
  refine ⟨signed s (mant p) (lift p - min (lift p) (lift q)) + signed t (mant q) (lift q - min (lift p) (lift q)), min (lift p) (lift q), ?_, ?_⟩
  · have hbase : min (-1074 + (lift p : Int)) (-1074 + (lift q : Int)) = ((min (lift p) (lift q) : Nat) : Int) - 1074 := by omega
    unfold Datum.sum
    dsimp only
    rw [hbase]
    have e1 : ((-1074 + (lift p : Int)) - (((min (lift p) (lift q) : Nat) : Int) - 1074)).toNat = lift p - min (lift p) (lift q) := by omega
    have e2 : ((-1074 + (lift q : Int)) - (((min (lift p) (lift q) : Nat) : Int) - 1074)).toNat = lift q - min (lift p) (lift q) := by omega
    rw [e1, e2]
  · rw [Int.add_mul, ← signed_mul, ← signed_mul, ← signed_units, ← signed_units]
    have e1 : lift p - min (lift p) (lift q) + min (lift p) (lift q) = lift p := by omega
    have e2 : lift q - min (lift p) (lift q) + min (lift p) (lift q) = lift q := by omega
    rw [e1, e2]
theorem pow_pos' (m : Nat) : (0 : Int) < (2 : Int) ^ m := Int.pow_pos (by decide)
theorem total_nonneg {t v : Int} {m : Nat} (h : t * (2 : Int) ^ m = v) (hv : 0 ≤ v) : 0 ≤ t := by
  rcases Int.lt_or_le t 0 with g | g
  · have := Int.mul_neg_of_neg_of_pos g (pow_pos' m)
    omega
  · exact g
theorem low_total {t : Int} {s u : Bool} {m : Nat} (h : 0 ≤ t) : lowR (.number (if t = 0 then s && u else decide (t < 0)) t.natAbs ((m : Int) - 1074)) := by
  show _ ∨ _
  by_cases h0 : t = 0
  · right; rw [h0]; rfl
  · left; rw [if_neg h0]; simp; exact h

theorem skey_nonneg_eq {x : Nat} (h : 0 ≤ skey x) : skey x = rung x := by
  rcases skey_sgn h with h1 | h1
  · unfold skey; rw [h1]; rfl
  · unfold skey; rw [h1]; split <;> rfl
theorem skey_neg {x : Nat} (h : skey x < 0) : sgn x = true ∧ skey x = -(rung x : Int) := by
  unfold skey at h ⊢
  cases hs : sgn x with
  | true => exact ⟨rfl, rfl⟩
  | false => rw [hs] at h; simp at h; omega
theorem sval_of (x : Nat) : (if sgn x then -(units (rung x) : Int) else units (rung x)) = sval x := rfl

theorem add_neg {x p : Nat} (hp : 0 ≤ skey p) (hx : -skey p ≤ skey x) : 0 ≤ skey (optT (D.add x p)) := by
  by_cases h0 : 0 ≤ skey x
  · exact low_add h0 hp
  have hn := skey_neg (x := x) (by omega)
  have ep := skey_nonneg_eq hp
  have hle : rung x ≤ rung p := by omega
  have hs : sgn p = false := by
    rcases skey_sgn hp with g | g
    · exact g
    · omega
  refine optT_map fun d h => write_low ?_
  have h : (D.read x).sum (D.read p) = some d := h
  rw [read_word, read_word] at h
  by_cases c1 : rung p < 9218868437227405312
  · rw [if_pos c1, if_pos (by omega)] at h
    obtain ⟨t, m, e1, e2⟩ := sum_num (sgn x) (sgn p) (rung x) (rung p)
    rw [e1] at h
    cases h
    refine low_total (total_nonneg e2 ?_)
    rw [hn.1, hs]
    have := units_le hle
    simp
    omega
  · rw [if_neg c1] at h
    by_cases c2 : rung p = 9218868437227405312
    · rw [if_pos c2] at h
      split at h
      · cases h; exact hs
      · split at h
        · unfold Datum.sum at h
          dsimp only at h
          rw [hn.1, hs] at h
          cases h
        · cases h
    · rw [if_neg c2] at h
      unfold Datum.sum at h
      split at h
      · cases h
      · cases h
      · rename_i hq; cases hq
      · rename_i hq; cases hq
      · rename_i hq; cases hq
      · rename_i hq; cases hq

theorem sub_low {a b : Nat} (hb : 0 ≤ skey b) (hab : skey b ≤ skey a) (na : fnan a = false) (nb : fnan b = false) : 0 ≤ skey (optT (D.sub a b)) := by
  have ha : 0 ≤ skey a := by omega
  have ea := skey_nonneg_eq ha
  have eb := skey_nonneg_eq hb
  unfold fnan at na nb
  simp at na nb
  refine optT_map fun d h => write_low ?_
  have h : (D.read a).sum (D.read b).opposite = some d := h
  rw [read_word, read_word] at h
  by_cases c1 : rung b < 9218868437227405312
  · rw [if_pos c1] at h
    by_cases c2 : rung a < 9218868437227405312
    · rw [if_pos c2] at h
      obtain ⟨t, m, e1, e2⟩ := sum_num (sgn a) (!sgn b) (rung a) (rung b)
      have h : (Datum.number (sgn a) (mant (rung a)) (-1074 + (lift (rung a) : Int))).sum (.number (!sgn b) (mant (rung b)) (-1074 + (lift (rung b) : Int))) = some d := h
      rw [e1] at h
      cases h
      refine low_total (total_nonneg e2 ?_)
      have hv : ¬ sval a < sval b := fun g => by have := (rung_sval_lt a b).1 g; omega
      unfold sval at hv
      cases hsb : sgn b <;> rw [hsb] at hv <;> simp at hv ⊢ <;> omega
    · rw [if_neg c2, if_pos (by omega)] at h
      cases h
      show sgn a = false
      rcases skey_sgn ha with g | g
      · exact g
      · omega
  · have e3 : rung b = 9218868437227405312 := by omega
    have e4 : rung a = 9218868437227405312 := by omega
    have sb : sgn b = false := by rcases skey_sgn hb with g | g; exact g; omega
    have sa : sgn a = false := by rcases skey_sgn ha with g | g; exact g; omega
    rw [if_neg c1, if_pos e3, if_neg (by omega), if_pos e4, sa, sb] at h
    unfold Datum.opposite Datum.sum at h
    simp at h

theorem toldS_word {s : Bool} {q : Nat} (hq : q ≤ 9218868437227405312) : skey (toldS (D.word s q)) = if s then -(q : Int) else q := by
  have hn : fnan (D.word s q) = false := by
    unfold fnan
    rw [(word_sgn s q (by omega)).2]
    simp; omega
  unfold toldS
  rw [hn]
  exact skey_word s q hq

theorem sub_bound {a b : Nat} (ha : 0 ≤ skey a) (hb : 0 ≤ skey b) (na : fnan a = false) (nb : fnan b = false) : -skey b ≤ skey (optT (D.sub a b)) := by
  by_cases hab : skey b ≤ skey a
  · have := sub_low hb hab na nb
    omega
  have ea := skey_nonneg_eq ha
  have eb := skey_nonneg_eq hb
  unfold fnan at na nb
  simp at na nb
  have sb : sgn b = false := by rcases skey_sgn hb with g | g; exact g; omega
  have hlt : rung a < rung b := by omega
  have c2 : rung a < 9218868437227405312 := by omega
  have key : ∀ d, (D.read a).sum (D.read b).opposite = some d → -skey b ≤ skey (toldS (D.write d)) := by
    intro d h
    rw [read_word, read_word, if_pos c2] at h
    by_cases c1 : rung b < 9218868437227405312
    · rw [if_pos c1] at h
      obtain ⟨t, m, e1, e2⟩ := sum_num (sgn a) (!sgn b) (rung a) (rung b)
      have h : (Datum.number (sgn a) (mant (rung a)) (-1074 + (lift (rung a) : Int))).sum (.number (!sgn b) (mant (rung b)) (-1074 + (lift (rung b) : Int))) = some d := h
      rw [e1] at h
      cases h
      have hle := units_le (Nat.le_of_lt hlt)
      have hmag : t.natAbs * 2 ^ m ≤ units (rung b) := by
        have e3 : ((t.natAbs * 2 ^ m : Nat) : Int) = (t * (2 : Int) ^ m).natAbs := by
          rw [Int.natAbs_mul, Int.natAbs_pow]
          rfl
        have e4 : (t * (2 : Int) ^ m).natAbs ≤ units (rung b) := by
          rw [e2, sb]
          rcases skey_sgn ha with g | g
          · rw [g]; simp; omega
          · rw [g, units_zero]; split <;> simp
        omega
      obtain ⟨q, hq, e⟩ := nearest_le (if t = 0 then sgn a && !sgn b else decide (t < 0)) t.natAbs m (rung b) c1 hmag
      show -skey b ≤ skey (toldS (D.nearest _ _ _))
      rw [e, toldS_word (by omega), eb]
      split <;> omega
    · have e3 : rung b = 9218868437227405312 := by omega
      rw [if_neg c1, if_pos e3, sb] at h
      cases h
      show -skey b ≤ skey (toldS (D.word true D.infRung))
      rw [D_inf, toldS_word (Nat.le_refl _), eb, e3]
      simp
  show -skey b ≤ skey (optT (((D.read a).sum (D.read b).opposite).map D.write))
  cases ho : (D.read a).sum (D.read b).opposite with
  | none => have := skey_nanC; show -skey b ≤ skey nanC; omega
  | some d => exact key d ho
end Go.Proofs.YthhbbmebfmfgjaaGreatDoor
