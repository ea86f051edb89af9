import Derived.Sort.Walk0
import Derived.Sort.LotA
import GoSem.Op.String
/-! The order of labels, plainly; and rows in order by a key. No program in sight. -/
namespace Go.Proofs.YthhbbmebfmfgjaaGreatDoor
open Go.Sort
namespace Lab
abbrev B := List UInt8

theorem bl_irrefl (a : B) : Op.bytesLess a a = false := by rw [bytesLess_eq]; simp [List.lt_irrefl]
theorem bl_trans {a b c : B} (h : Op.bytesLess a b = true) (k : Op.bytesLess b c = true) : Op.bytesLess a c = true := by
  rw [bytesLess_eq, decide_eq_true_eq] at *; exact List.lt_trans h k
theorem bl_total (a b : B) : Op.bytesLess a b = true ∨ a = b ∨ Op.bytesLess b a = true := by
  simp only [bytesLess_eq, decide_eq_true_eq]
  rcases List.le_total a b with h | h
  · by_cases e : a = b
    · exact Or.inr (Or.inl e)
    · refine Or.inl ?_
      exact (List.not_le.1 fun h2 => e (List.le_antisymm h h2))
  · by_cases e : a = b
    · exact Or.inr (Or.inl e)
    · refine Or.inr (Or.inr ?_)
      exact (List.not_le.1 fun h2 => e (List.le_antisymm h2 h))
theorem bl_asymm {a b : B} (h : Op.bytesLess a b = true) : Op.bytesLess b a = false := by
  cases e : Op.bytesLess b a with
  | false => rfl
  | true => have := bl_trans h e; rw [bl_irrefl] at this; cases this

/-- a label's order -/
def lessL (x y : B × B) : Bool := Op.bytesLess x.1 y.1 || (x.1 == y.1 && Op.bytesLess x.2 y.2)
theorem lessL_irrefl (x : B × B) : lessL x x = false := by simp [lessL, bl_irrefl]
theorem lessL_trans {x y z : B × B} (h : lessL x y = true) (k : lessL y z = true) : lessL x z = true := by
  simp only [lessL, Bool.or_eq_true, Bool.and_eq_true, beq_iff_eq] at *
  rcases h with h | ⟨h, h'⟩ <;> rcases k with k | ⟨k, k'⟩
  · exact Or.inl (bl_trans h k)
  · exact Or.inl (k ▸ h)
  · exact Or.inl (h ▸ k)
  · exact Or.inr ⟨h.trans k, bl_trans h' k'⟩
theorem lessL_total (x y : B × B) : lessL x y = true ∨ x = y ∨ lessL y x = true := by
  simp only [lessL, Bool.or_eq_true, Bool.and_eq_true, beq_iff_eq]
  rcases bl_total x.1 y.1 with h | h | h
  · exact Or.inl (Or.inl h)
  · rcases bl_total x.2 y.2 with k | k | k
    · exact Or.inl (Or.inr ⟨h, k⟩)
    · exact Or.inr (Or.inl (Prod.ext h k))
    · exact Or.inr (Or.inr (Or.inr ⟨h.symm, k⟩))
  · exact Or.inr (Or.inr (Or.inl h))
theorem lessL_asymm {x y : B × B} (h : lessL x y = true) : lessL y x = false := by
  cases e : lessL y x with
  | false => rfl
  | true => have := lessL_trans h e; rw [lessL_irrefl] at this; cases this

/-- labels held against each other -/
def cmpP : List (B × B) → List (B × B) → Int
  | [], [] => 0
  | [], _ :: _ => -1
  | _ :: _, [] => 1
  | x :: a, y :: b => if lessL x y = true then -1 else if x = y then cmpP a b else 1

theorem cmpP_cases : ∀ a b, (cmpP a b = -1 ∧ cmpP b a = 1 ∧ a ≠ b) ∨ (cmpP a b = 0 ∧ a = b) ∨ (cmpP a b = 1 ∧ cmpP b a = -1 ∧ a ≠ b)
  | [], [] => Or.inr (Or.inl ⟨rfl, rfl⟩)
  | [], _ :: _ => Or.inl ⟨rfl, rfl, by simp⟩
  | _ :: _, [] => Or.inr (Or.inr ⟨rfl, rfl, by simp⟩)
  | x :: a, y :: b => by
    have ih := cmpP_cases a b
    rcases lessL_total x y with h | h | h
    · left
      have h2 := lessL_asymm h
      have ne : x ≠ y := fun e => by rw [e, lessL_irrefl] at h; cases h
      have ne' : y ≠ x := fun e => ne e.symm
      simp [cmpP, h, h2, ne, ne']
    · subst h
      simp [cmpP, lessL_irrefl]
      omega
    · right; right
      have h2 := lessL_asymm h
      have ne : x ≠ y := fun e => by rw [e, lessL_irrefl] at h; cases h
      simp [cmpP, h, h2, ne]
theorem cmpP_zero (a b : List (B × B)) : cmpP a b = 0 ↔ a = b := by
  rcases cmpP_cases a b with ⟨h, _, k⟩ | ⟨h, k⟩ | ⟨h, _, k⟩
  · simp [h, k]
  · exact ⟨fun _ => k, fun _ => h⟩
  · simp [h, k]
theorem cmpP_self (a : List (B × B)) : cmpP a a = 0 := (cmpP_zero a a).2 rfl
theorem cmpP_flip (a b : List (B × B)) : cmpP a b < 0 ↔ 0 < cmpP b a := by
  rcases cmpP_cases a b with ⟨h, h2, k⟩ | ⟨h, k⟩ | ⟨h, h2, k⟩
  · simp [h, h2]
  · subst k; simp [cmpP_self]
  · simp [h, h2]
theorem cmpP_trans : ∀ a b c, cmpP a b < 0 → cmpP b c < 0 → cmpP a c < 0
  | _, [], [], _, h => by simp [cmpP] at h
  | _ :: _, [], _ :: _, h, _ => by simp [cmpP] at h
  | [], [], _ :: _, h, _ => by simp [cmpP] at h
  | [], _ :: _, [], _, h => by simp [cmpP] at h
  | [], _ :: _, _ :: _, _, _ => by simp [cmpP]
  | _ :: _, _ :: _, [], _, h => by simp [cmpP] at h
  | x :: a, y :: b, z :: c, h, k => by
    have ih := cmpP_trans a b c
    simp only [cmpP] at *
    by_cases h1 : lessL x y = true
    · by_cases k1 : lessL y z = true
      · rw [if_pos (lessL_trans h1 k1)]; omega
      · rw [if_neg k1] at k
        by_cases k2 : y = z
        · subst k2; rw [if_pos h1]; omega
        · rw [if_neg k2] at k; omega
    · rw [if_neg h1] at h
      by_cases h2 : x = y
      · subst h2
        rw [if_pos rfl] at h
        by_cases k1 : lessL x z = true
        · rw [if_pos k1]; omega
        · rw [if_neg k1] at k ⊢
          by_cases k2 : x = z
          · subst k2; rw [if_pos rfl] at k ⊢; exact ih h k
          · rw [if_neg k2] at k; omega
      · rw [if_neg h2] at h; omega
theorem swo_cmp : SWO (fun a b : List (B × B) => decide (cmpP a b < 0)) where
  irrefl a := by simp [cmpP_self]
  trans a b c h k := by simp only [decide_eq_true_eq] at *; exact cmpP_trans a b c h k
  ntrans a b c h k := by
    simp only [decide_eq_false_iff_not] at *
    intro hac
    rcases cmpP_cases a b with ⟨e, _, _⟩ | ⟨_, rfl⟩ | ⟨e, e2, _⟩
    · omega
    · exact k hac
    · exact k (cmpP_trans b a c (by omega) hac)

/-! ### rows in order by a key -/
variable {α : Type} (key : α → List (B × B))
def insK (x : α) : List α → List α
  | [] => [x]
  | y :: l => if cmpP (key y) (key x) < 0 then y :: insK x l else x :: y :: l
def sortK (l : List α) : List α := l.foldr (insK key) []
/-- no two have the same key -/
def Free (l : List α) : Prop := l.Pairwise fun x y => cmpP (key x) (key y) ≠ 0
instance (l : List α) : Decidable (Free key l) := by unfold Free; infer_instance
def Asc (l : List α) : Prop := l.Pairwise fun x y => cmpP (key x) (key y) < 0
def Weak (l : List α) : Prop := l.Pairwise fun x y => ¬ cmpP (key y) (key x) < 0

theorem insK_perm (x : α) : ∀ l, (insK key x l).Perm (x :: l)
  | [] => List.Perm.refl _
  | y :: l => by
    unfold insK
    by_cases h : cmpP (key y) (key x) < 0
    · rw [if_pos h]; exact ((insK_perm x l).cons y).trans (List.Perm.swap _ _ _)
    · rw [if_neg h]
theorem sortK_perm : ∀ l, (sortK key l).Perm l
  | [] => List.Perm.refl _
  | x :: l => (insK_perm key x _).trans ((sortK_perm l).cons x)
variable {key}
theorem free_perm {l l' : List α} (h : l.Perm l') : Free key l ↔ Free key l' :=
  h.pairwise_iff fun {x y} k e => k (by rw [(cmpP_zero _ _).1 e]; exact cmpP_self _)
theorem insK_weak (x : α) : ∀ l, Weak key l → Weak key (insK key x l)
  | [], _ => by simp [insK, Weak]
  | y :: l, h => by
    unfold insK
    obtain ⟨h1, h2⟩ := List.pairwise_cons.1 h
    by_cases e : cmpP (key y) (key x) < 0
    · rw [if_pos e]
      refine List.pairwise_cons.2 ⟨fun z hz => ?_, insK_weak x l h2⟩
      rcases List.mem_cons.1 ((insK_perm key x l).mem_iff.1 hz) with rfl | hz
      · have := (cmpP_flip _ _).1 e; omega
      · exact h1 z hz
    · rw [if_neg e]
      refine List.pairwise_cons.2 ⟨fun z hz => ?_, h⟩
      rcases List.mem_cons.1 hz with rfl | hz
      · exact e
      · have := h1 z hz
        have n := swo_cmp.ntrans (key z) (key y) (key x) (decide_eq_false this) (decide_eq_false e)
        exact of_decide_eq_false n
theorem sortK_weak : ∀ l, Weak key (sortK key l)
  | [] => List.Pairwise.nil
  | x :: l => insK_weak x _ (sortK_weak l)
theorem asc_of {l : List α} (h : Weak key l) (f : Free key l) : Asc key l := by
  unfold Weak Free Asc at *
  refine (h.and f).imp fun {x y} k => ?_
  rcases cmpP_cases (key x) (key y) with ⟨e, _, _⟩ | ⟨e, _⟩ | ⟨e, e2, _⟩
  · omega
  · exact absurd e k.2
  · exact absurd (by omega) k.1
theorem asc_unique : ∀ {l l' : List α}, Asc key l → Asc key l' → l.Perm l' → l = l'
  | [], l', _, _, p => (List.Perm.nil_eq p)
  | x :: l, [], _, _, p => absurd p.length_eq (by simp)
  | x :: l, y :: l', h, k, p => by
    obtain ⟨h1, h2⟩ := List.pairwise_cons.1 h
    obtain ⟨k1, k2⟩ := List.pairwise_cons.1 k
    have e : x = y := by
      rcases List.mem_cons.1 (p.mem_iff.1 (List.mem_cons_self (a := x) (l := l))) with e | hx
      · exact e
      · rcases List.mem_cons.1 (p.mem_iff.2 (List.mem_cons_self (a := y) (l := l'))) with e | hy
        · exact e.symm
        · have a := k1 x hx
          have b := h1 y hy
          have := (cmpP_flip _ _).1 a
          omega
    subst e
    rw [asc_unique h2 k2 ((List.perm_cons x).1 p)]
theorem sortK_of_weak {l l' : List α} (h : Weak key l') (p : l'.Perm l) (f : Free key l) : l' = sortK key l :=
  asc_unique (asc_of h ((free_perm p).2 f)) (asc_of (sortK_weak l) ((free_perm (sortK_perm key l)).2 f)) (p.trans (sortK_perm key l).symm)
/-- a row in order with no tie from one to the next has none at all -/
theorem free_of_next {l : List α} (h : Weak key l) (k : ∀ i (hi : i + 1 < l.length), cmpP (key l[i]) (key l[i + 1]) ≠ 0) : Free key l := by
  have asc : ∀ i j (hi : i < j) (hj : j < l.length), cmpP (key l[i]) (key l[j]) < 0 := by
    intro i j hi
    induction hi with
    | refl =>
      intro hj
      have w := List.pairwise_iff_getElem.1 h i (i + 1) (by omega) hj (by omega)
      have q := k i hj
      have := (cmpP_flip (key l[i + 1]) (key l[i]))
      show cmpP (key l[i]) (key l[i + 1]) < 0
      omega
    | @step m hm ih =>
      intro hj
      have a := ih (by omega)
      have w := List.pairwise_iff_getElem.1 h m (m + 1) (by omega) hj (by omega)
      have q := k m hj
      have := (cmpP_flip (key l[m + 1]) (key l[m]))
      have b : cmpP (key l[m]) (key l[m + 1]) < 0 := by omega
      exact cmpP_trans _ _ _ a b
  refine List.pairwise_iff_getElem.2 fun i j hi hj hij => ?_
  have := asc i j hij hj
  omega
end Lab
end Go.Proofs.YthhbbmebfmfgjaaGreatDoor
