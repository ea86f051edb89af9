/- Plain facts on sorting by insertion. -/
import Derived.Test.YtiieppaalffgjaaW12
namespace Go.Proofs.Ytiieppaalffgjaa

theorem le_trans3 {a b c : Nat} (h1 : orderS a b ≤ 0) (h2 : orderS b c ≤ 0) : orderS a c ≤ 0 := by
  have := order_trans a b c
  have f := order_flip a b
  rcases this with h | h | h
  · have hz : orderS a b = 0 ∨ orderS a b < 0 := by omega
    rcases hz with hz | hz
    · have e := order_zero hz
      subst e
      exact h2
    · omega
  · omega
  · exact h

theorem le_of_not_lt {a b : Nat} (h : ¬ orderS b a < 0) : orderS a b ≤ 0 := by
  rw [order_flip]; omega
theorem le_of_lt {a b : Nat} (h : orderS a b < 0) : orderS a b ≤ 0 := by omega

def SortedPre (A : List Nat) (m : Nat) : Prop := ∀ i j, i < j → j < m → orderS (A.getD i 0) (A.getD j 0) ≤ 0
def SortedBut (A : List Nat) (m k : Nat) : Prop :=
  (∀ i j, i < j → j ≤ m → i ≠ k → j ≠ k → orderS (A.getD i 0) (A.getD j 0) ≤ 0) ∧ (∀ j, k < j → j ≤ m → orderS (A.getD k 0) (A.getD j 0) ≤ 0)

theorem but_start {A : List Nat} {m : Nat} (h : SortedPre A m) : SortedBut A m m :=
  ⟨fun i j h1 h2 _ h4 => h i j h1 (by omega), fun j h1 h2 => by omega⟩
theorem but_done0 {A : List Nat} {m : Nat} (h : SortedBut A m 0) : SortedPre A (m + 1) := by
  intro i j h1 h2
  by_cases e : i = 0
  · subst e; exact h.2 j (by omega) (by omega)
  · exact h.1 i j h1 (by omega) e (by omega)
theorem but_done {A : List Nat} {m q : Nat} (h : SortedBut A m (q + 1)) (hq : q + 1 ≤ m) (hl : ¬ orderS (A.getD (q + 1) 0) (A.getD q 0) < 0) : SortedPre A (m + 1) := by
  have hl := le_of_not_lt hl
  intro i j h1 h2
  by_cases e : i = q + 1
  · subst e; exact h.2 j h1 (by omega)
  · by_cases f : j = q + 1
    · subst f
      by_cases g : i = q
      · subst g; exact hl
      · exact le_trans3 (h.1 i q (by omega) (by omega) e (by omega)) hl
    · exact h.1 i j h1 (by omega) e f

def swap (A : List Nat) (q : Nat) : List Nat := (A.set (q + 1) (A.getD q 0)).set q (A.getD (q + 1) 0)

theorem swap_get (A : List Nat) (q i : Nat) (hq : q + 1 < A.length) : (swap A q).getD i 0 = if i = q then A.getD (q + 1) 0 else if i = q + 1 then A.getD q 0 else A.getD i 0 := by
  unfold swap
  simp only [List.getD_eq_getElem?_getD, List.getElem?_set, List.length_set]
  by_cases h1 : i = q
  · subst h1; simp; rw [if_pos (by omega)]; rfl
  · by_cases h2 : i = q + 1
    · subst h2; simp; rw [if_pos (by omega)]; rfl
    · rw [if_neg (by omega), if_neg (by omega), if_neg h1, if_neg h2]

theorem but_swap {A : List Nat} {m q : Nat} (h : SortedBut A m (q + 1)) (hq : q + 1 ≤ m) (hm : m < A.length) (hl : orderS (A.getD (q + 1) 0) (A.getD q 0) < 0) : SortedBut (swap A q) m q := by
  constructor
  · intro i j h1 h2 h3 h4
    rw [swap_get A q i (by omega), swap_get A q j (by omega), if_neg h3, if_neg h4]
    by_cases e : i = q + 1
    · rw [if_pos e, if_neg (by omega)]
      exact h.1 q j (by omega) h2 (by omega) (by omega)
    · rw [if_neg e]
      by_cases f : j = q + 1
      · rw [if_pos f]; exact h.1 i q (by omega) (by omega) e (by omega)
      · rw [if_neg f]; exact h.1 i j h1 h2 e f
  · intro j h1 h2
    rw [swap_get A q q (by omega), swap_get A q j (by omega), if_pos rfl, if_neg (by omega)]
    by_cases f : j = q + 1
    · rw [if_pos f]; exact le_of_lt hl
    · rw [if_neg f]; exact h.2 j (by omega) h2

theorem swap_perm (A : List Nat) (q : Nat) (hq : q + 1 < A.length) : (swap A q).Perm A := by
  have h := @List.set_set_perm _ A (q + 1) q hq (by omega)
  unfold swap
  rw [List.getD_eq_getElem?_getD, List.getElem?_eq_getElem (by omega), List.getD_eq_getElem?_getD, List.getElem?_eq_getElem (by omega)]
  exact h
theorem swap_length (A : List Nat) (q : Nat) : (swap A q).length = A.length := by unfold swap; simp
end Go.Proofs.Ytiieppaalffgjaa
