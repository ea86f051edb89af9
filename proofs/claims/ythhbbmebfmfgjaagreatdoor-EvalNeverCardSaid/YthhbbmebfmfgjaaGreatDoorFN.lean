import Derived.Test.YthhbbmebfmfgjaaGreatDoorFM
/-! Not below 0: sums, products, quotients. -/
namespace Go.Proofs.YthhbbmebfmfgjaaGreatDoor
open Ieee

def lowD : Datum → Prop
  | .nan _ _ => True
  | .infinity s => s = false
  | .number s m _ => s = false ∨ m = 0
def lowR : Datum → Prop
  | .nan _ _ => False
  | .infinity s => s = false
  | .number s m _ => s = false ∨ m = 0
def posD : Datum → Prop
  | .nan _ _ => False
  | .infinity s => s = false
  | .number s m _ => s = false ∧ m ≠ 0

theorem skey_sgn {x : Nat} (h : 0 ≤ skey x) : sgn x = false ∨ rung x = 0 := by
  unfold skey at h
  cases hs : sgn x with
  | false => exact .inl rfl
  | true => rw [hs] at h; simp at h; exact .inr (by omega)
theorem mant_zero : mant 0 = 0 := by decide
theorem read_low {x : Nat} (h : 0 ≤ skey x) : lowD (D.read x) := by
  rw [read_word]
  split
  · rcases skey_sgn h with h1 | h1
    · exact .inl h1
    · right; rw [h1]; exact mant_zero
  · split
    · rename_i h2
      rcases skey_sgn h with h1 | h1
      · exact h1
      · omega
    · trivial
theorem read_pos' {x : Nat} (h : 0 < skey x) (hn : fnan x = false) : posD (D.read x) := by
  have h0 : 0 ≤ skey x := by omega
  have hr : rung x ≠ 0 := by
    intro e
    unfold skey at h
    rw [e] at h
    split at h <;> simp at h
  have hs : sgn x = false := by rcases skey_sgn h0 with h1 | h1; exact h1; exact absurd h1 hr
  rw [read_word]
  split
  · exact ⟨hs, mant_ne hr⟩
  · split
    · exact hs
    · unfold fnan at hn; simp at hn; omega

theorem nearest_any (neg : Bool) (m : Nat) (place : Int) : ∃ q, q ≤ 9218868437227405312 ∧ D.nearest neg m place = D.word neg q ∧ (m = 0 → q = 0) := by
  unfold Format.nearest
  split
  · exact ⟨0, by omega, rfl, fun _ => rfl⟩
  · rename_i h
    exact ⟨_, by rw [← D_inf]; exact Nat.min_le_right _ _, rfl, fun h' => absurd h' h⟩
theorem skey_word (s : Bool) (q : Nat) (hq : q ≤ 9218868437227405312) : skey (D.word s q) = if s then -(q : Int) else q := by
  have := word_sgn s q (by omega)
  unfold skey
  rw [this.1, this.2]
theorem skey_nanC : 0 ≤ skey nanC := by decide
theorem toldS_low {w : Nat} (h : 0 ≤ skey w) : 0 ≤ skey (toldS w) := by
  unfold toldS
  split
  · exact skey_nanC
  · exact h
theorem write_low {d : Datum} (h : lowR d) : 0 ≤ skey (toldS (D.write d)) := by
  apply toldS_low
  cases d with
  | nan s t => exact absurd h id
  | infinity s =>
    have hs : s = false := h
    subst hs
    show 0 ≤ skey (D.word false D.infRung)
    rw [D_inf, skey_word _ _ (Nat.le_refl _)]
    simp
  | number s m i =>
    show 0 ≤ skey (D.nearest s m i)
    obtain ⟨q, hq, e, h0⟩ := nearest_any s m i
    rw [e, skey_word _ _ hq]
    rcases h with h | h
    · subst h; simp
    · rw [h0 h]; simp
theorem optT_map {o : Option Datum} (h : ∀ d, o = some d → 0 ≤ skey (toldS (D.write d))) : 0 ≤ skey (optT (o.map D.write)) := by
  cases o with
  | none => exact skey_nanC
  | some d => exact h d rfl

theorem signed_nonneg {s : Bool} {m n : Nat} (h : s = false ∨ m = 0) : 0 ≤ signed s m n := by
  unfold signed
  rcases h with h | h
  · subst h
    rw [if_neg (by decide)]
    exact Int.natCast_nonneg _
  · subst h
    rw [Nat.zero_shiftLeft]
    split <;> decide
theorem sum_low {a b d : Datum} (ha : lowD a) (hb : lowD b) (h : a.sum b = some d) : lowR d := by
  unfold Datum.sum at h
  split at h
  · cases h
  · cases h
  · split at h
    · cases h; exact ha
    · cases h
  · cases h; exact ha
  · cases h; exact hb
  · rename_i s m i t n j
    cases h
    have h1 := signed_nonneg (n := (i - min i j).toNat) ha
    have h2 := signed_nonneg (n := (j - min i j).toNat) hb
    show _ ∨ _
    by_cases hz : signed s m (i - min i j).toNat + signed t n (j - min i j).toNat = 0
    · right; rw [hz]; rfl
    · left
      rw [if_neg hz]
      simp
      omega
theorem product_low {a b d : Datum} (ha : lowD a) (hb : lowD b) (h : a.product b = some d) : lowR d := by
  unfold Datum.product at h
  split at h
  · cases h
  · cases h
  · rename_i s t
    cases h
    have h1 : s = false := ha
    have h2 : t = false := hb
    subst h1 h2
    rfl
  · rename_i s t n i
    split at h
    · cases h
    · rename_i hn
      cases h
      have h1 : s = false := ha
      have h2 : t = false ∨ n = 0 := hb
      have h3 : t = false := h2.resolve_right hn
      subst h1 h3
      rfl
  · rename_i t n i s
    split at h
    · cases h
    · rename_i hn
      cases h
      have h1 : s = false := hb
      have h2 : t = false ∨ n = 0 := ha
      have h3 : t = false := h2.resolve_right hn
      subst h1 h3
      rfl
  · rename_i s m i t n j
    cases h
    have h1 : s = false ∨ m = 0 := ha
    have h2 : t = false ∨ n = 0 := hb
    show _ ∨ _
    rcases h1 with h1 | h1
    · rcases h2 with h2 | h2
      · left; subst h1 h2; rfl
      · right; rw [h2]; simp
    · right; rw [h1]; simp
theorem quotient_low {k : Nat} {a b d : Datum} (ha : lowD a) (hb : posD b) (h : a.quotient k b = some d) : lowR d := by
  unfold Datum.quotient at h
  split at h
  · cases h
  · cases h
  · cases h
  · rename_i s t n j
    cases h
    have h1 : s = false := ha
    have h2 : t = false := hb.1
    subst h1 h2
    rfl
  · cases h; exact .inr rfl
  · rename_i s m i t n j
    have h2 : t = false := hb.1
    rw [if_neg hb.2] at h
    cases h
    have h1 : s = false ∨ m = 0 := ha
    show _ ∨ _
    rcases h1 with h1 | h1
    · left; subst h1 h2; rfl
    · right; rw [h1]; simp

theorem low_add {x y : Nat} (hx : 0 ≤ skey x) (hy : 0 ≤ skey y) : 0 ≤ skey (optT (D.add x y)) :=
  optT_map fun _ h => write_low (sum_low (read_low hx) (read_low hy) h)
theorem low_mul {x y : Nat} (hx : 0 ≤ skey x) (hy : 0 ≤ skey y) : 0 ≤ skey (optT (D.mul x y)) :=
  optT_map fun _ h => write_low (product_low (read_low hx) (read_low hy) h)
theorem low_div {x y : Nat} (hx : 0 ≤ skey x) (hy : posD (D.read y)) : 0 ≤ skey (optT (D.div x y)) :=
  optT_map fun _ h => write_low (quotient_low (read_low hx) hy h)
end Go.Proofs.YthhbbmebfmfgjaaGreatDoor
