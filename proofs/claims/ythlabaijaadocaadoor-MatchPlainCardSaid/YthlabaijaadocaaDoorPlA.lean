import Derived.Test.YthlabaijaadocaaDoorMtA
/-! A form of letters and digits alone is the text itself, plainly. No program in sight. -/
namespace Go.Proofs.YthlabaijaadocaaDoor
namespace Mt
open Ut Rx Go.Lib

def alnB (c : Int) : Bool := (decide (c ≥ 97) && decide (c ≤ 122)) || (decide (c ≥ 65) && decide (c ≤ 90)) || (decide (c ≥ 48) && decide (c ≤ 57))
theorem alnB_iff (c : Int) : alnB c = true ↔ (97 ≤ c ∧ c ≤ 122) ∨ (65 ≤ c ∧ c ≤ 90) ∨ (48 ≤ c ∧ c ≤ 57) := by
  unfold alnB
  simp only [Bool.or_eq_true, Bool.and_eq_true, decide_eq_true_eq]
  omega

/-! ### the runes of a text of small bytes -/
theorem rn_ascii : ∀ (l : List UInt8), (∀ b ∈ l, b.toNat < 128) → rn l = l.map fun b => (b.toNat : Int)
  | [], _ => rfl
  | b :: t, h => by
    have hb := h b (by simp)
    rw [rn_step _ (by simp), decodeL_ascii b t hb]
    simp only [List.drop_succ_cons, List.drop_zero, List.map_cons]
    rw [rn_ascii t fun x hx => h x (List.mem_cons_of_mem _ hx)]
theorem decode_small {l : List UInt8} (hne : l ≠ []) (h : (decodeL l).1 < 128) : ∃ b t, l = b :: t ∧ b.toNat < 128 := by
  cases l with
  | nil => exact absurd rfl hne
  | cons b t =>
    refine ⟨b, t, rfl, ?_⟩
    rw [decodeL_N] at h
    simp only [List.getD_cons_zero] at h
    have hb := b.toNat_lt
    generalize b.toNat = x0 at *
    generalize (b :: t).length = n at *
    generalize ((b :: t).getD 1 0).toNat = x1 at *
    generalize ((b :: t).getD 2 0).toNat = x2 at *
    generalize ((b :: t).getD 3 0).toNat = x3 at *
    unfold decodeN at h
    (repeat' split at h) <;> simp at * <;> omega
theorem rn_small : ∀ (n : Nat) (l : List UInt8), l.length ≤ n → (∀ c ∈ rn l, c < 128) → ∀ b ∈ l, b.toNat < 128
  | 0, l, hn, _ => by
    obtain rfl := List.eq_nil_of_length_eq_zero (Nat.le_zero.1 hn)
    intro b hb; cases hb
  | n + 1, l, hn, h => by
    by_cases hne : l = []
    · subst hne; intro b hb; cases hb
    · rw [rn_step l hne] at h
      obtain ⟨b, t, rfl, hb⟩ := decode_small hne (by have := h _ (List.mem_cons_self ..); omega)
      rw [decodeL_ascii b t hb] at h
      intro x hx
      rcases List.mem_cons.1 hx with rfl | hx
      · exact hb
      · exact rn_small n t (by simpa using hn) (fun c hc => h c (List.mem_cons_of_mem _ (by simpa using hc))) x hx
theorem rn_inj {a b : List UInt8} (hb : ∀ x ∈ b, x.toNat < 128) (h : rn a = rn b) : a = b := by
  have e := rn_ascii b hb
  have ha : ∀ x ∈ a, x.toNat < 128 := rn_small _ a (Nat.le_refl _) (by
    rw [h, e]
    intro c hc
    obtain ⟨x, hx, rfl⟩ := List.mem_map.1 hc
    have := hb x hx
    omega)
  rw [rn_ascii a ha, e] at h
  have : ∀ (a b : List UInt8), a.map (fun b => (b.toNat : Int)) = b.map (fun b => (b.toNat : Int)) → a = b := by
    intro a
    induction a with
    | nil => intro b h; cases b with | nil => rfl | cons _ _ => cases h
    | cons x t ih =>
      intro b h
      cases b with
      | nil => cases h
      | cons y u =>
        simp only [List.map_cons, List.cons.injEq] at h
        rw [ih u h.2]
        congr 1
        exact UInt8.toNat_inj.1 (by omega)
  exact this a b h

/-! ### how such a pattern is read -/
def catL (acc : Pat) : List Int → Pat
  | [] => acc
  | c :: t => catL (.cat acc (.one [(c, c)] false)) t
theorem aln_spec {c : Int} (h : alnB c = true) : specB c = false ∧ signB c = false ∧ (c == 40) = false ∧ (c == 91) = false ∧ (c == 46) = false ∧ (c == 92) = false ∧ (c == 124) = false ∧ (c == 41) = false ∧ decide (c ≥ 0) = true := by
  rw [alnB_iff] at h
  refine ⟨?_, ?_, ?_, ?_, ?_, ?_, ?_, ?_, ?_⟩
  · unfold specB
    rw [← Bool.not_eq_true, List.contains_iff_mem]
    intro hm
    simp only [List.mem_cons, List.not_mem_nil, or_false] at hm
    omega
  · unfold signB
    simp only [Bool.or_eq_false_iff, beq_eq_false_iff_ne, ne_eq]
    omega
  all_goals first
    | (simp only [beq_eq_false_iff_ne, ne_eq]; omega)
    | (rw [decide_eq_true_eq]; omega)
theorem sign_head {t : List Int} (h : ∀ c ∈ t, alnB c = true) : signB (pk t) = false := by
  cases t with
  | nil => rfl
  | cons c u => exact (aln_spec (h c (by simp))).2.1
theorem bra_aln : ∀ (n : Nat) (l : List Int) (acc : Pat) (d : Nat), 2 * l.length + 1 ≤ n → (∀ c ∈ l, alnB c = true) → parF n (.bra acc) d l = some (.ok (catL acc l, []))
  | 0, l, acc, d, hn, _ => by omega
  | n + 1, [], acc, d, hn, _ => by
    rw [parF]
    rw [if_neg (by decide)]
    rfl
  | n + 1, c :: t, acc, d, hn, h => by
    obtain ⟨h1, h2, h3, h4, h5, h6, h7, h8, h9⟩ := aln_spec (h c (by simp))
    have ht : ∀ c ∈ t, alnB c = true := fun x hx => h x (List.mem_cons_of_mem _ hx)
    have hp : pk (c :: t) = c := rfl
    obtain ⟨m, rfl⟩ : ∃ m, n = m + 1 := ⟨n - 1, by simp at hn; omega⟩
    rw [parF]
    rw [if_pos (by rw [hp, h9]; unfold bne; rw [h7, h8]; rfl)]
    rw [parF, hp, h3, h4, h5, h6, h1]
    simp only [thenF, Bool.false_eq_true, if_false]
    rw [if_neg (by rw [show (c :: t).tail = t from rfl, sign_head ht]; simp)]
    exact bra_aln (m + 1) t _ d (by simp at hn; omega) ht
theorem rex_aln {l : List Int} (h : ∀ c ∈ l, alnB c = true) : rexF l = .ok (catL .nil l) := by
  unfold rexF
  have e : parF (3 * l.length + 4) .pat 0 l = some (.ok (catL .nil l, [])) := by
    rw [parF, bra_aln _ l .nil 0 (by omega) h]
    simp only [thenF]
    rw [parF, if_neg (by decide)]
  rw [e]

/-! ### what it matches -/
def endB (s : List Int) : List Int → Nat → Bool
  | [], j => decide (j = 0)
  | c :: r, j => match j with | 0 => false | j + 1 => endB s r j && decide (s[j]? = some c)
theorem one_get (s : List Int) (c : Int) (v : List Bool) (hv : v.length = s.length + 1) (j : Nat) (hj : j ≤ s.length) :
    (oneF [(c, c)] false s v).getD j false = match j with | 0 => false | j + 1 => v.getD j false && decide (s[j]? = some c) := by
  cases j with
  | zero => rfl
  | succ j =>
    unfold oneF
    simp only [List.getD_cons_succ]
    rw [List.getD_eq_getElem?_getD, List.getElem?_zipWith, List.getElem?_eq_getElem (show j < s.length by omega), List.getElem?_eq_getElem (show j < v.length by omega)]
    simp only [Option.getD_some]
    rw [List.getD_eq_getElem?_getD, List.getElem?_eq_getElem (show j < v.length by omega), Option.getD_some]
    congr 1
    unfold hasS
    simp only [List.any_cons, List.any_nil, Bool.or_false]
    by_cases e : s[j] = c
    · subst e; simp
    · simp only [Option.some.injEq, e, decide_false]
      have : ¬ (s[j] ≥ c ∧ s[j] ≤ c) := by omega
      rw [← Bool.decide_and, decide_eq_false this]
      rfl
theorem one_len (s : List Int) (c : Int) (v : List Bool) (hv : v.length = s.length + 1) : (oneF [(c, c)] false s v).length = s.length + 1 := by
  unfold oneF; simp; omega
theorem catL_snoc : ∀ (l : List Int) (acc : Pat) (c : Int), catL acc (l ++ [c]) = .cat (catL acc l) (.one [(c, c)] false)
  | [], _, _ => rfl
  | x :: t, acc, c => by simp only [List.cons_append, catL]; exact catL_snoc t _ c
theorem start_get (n j : Nat) : (true :: List.replicate n false).getD j false = decide (j = 0) := by
  cases j with
  | zero => rfl
  | succ j =>
    simp only [List.getD_cons_succ, Nat.succ_ne_zero, decide_false]
    rw [List.getD_eq_getElem?_getD, List.getElem?_replicate]
    split <;> rfl
theorem den_catL (s : List Int) : ∀ (r : List Int), (den (catL .nil r.reverse) s (true :: List.replicate s.length false)).length = s.length + 1 ∧
    ∀ j, j ≤ s.length → (den (catL .nil r.reverse) s (true :: List.replicate s.length false)).getD j false = endB s r j
  | [] => ⟨by simp [catL, den], fun j _ => start_get _ _⟩
  | c :: r => by
    obtain ⟨h1, h2⟩ := den_catL s r
    rw [List.reverse_cons, catL_snoc]
    simp only [den]
    refine ⟨one_len s c _ h1, fun j hj => ?_⟩
    rw [one_get s c _ h1 j hj]
    cases j with
    | zero => rfl
    | succ j => simp only [endB]; rw [h2 j (by omega)]
theorem endB_iff (s : List Int) : ∀ (r : List Int) (j : Nat), j ≤ s.length → (endB s r j = true ↔ (s.take j).reverse = r)
  | [], j, hj => by
    simp only [endB, decide_eq_true_eq, List.reverse_eq_nil_iff, List.take_eq_nil_iff]
    constructor
    · exact Or.inl
    · rintro (h | h)
      · exact h
      · subst h; simpa using hj
  | c :: r, 0, hj => by simp [endB]
  | c :: r, j + 1, hj => by
    simp only [endB, Bool.and_eq_true, decide_eq_true_eq]
    rw [endB_iff s r j (by omega), List.take_succ_eq_append_getElem (by omega), List.reverse_append, List.getElem?_eq_getElem (by omega)]
    simp only [List.reverse_cons, List.reverse_nil, List.nil_append, List.singleton_append, List.cons.injEq, Option.some.injEq]
    exact And.comm
theorem full_aln (l s : List Int) : fullB (catL .nil l) s = decide (s = l) := by
  have h := (den_catL s l.reverse).2 s.length (Nat.le_refl _)
  rw [List.reverse_reverse] at h
  unfold fullB
  rw [h, Bool.eq_iff_iff, endB_iff s _ _ (Nat.le_refl _), decide_eq_true_eq, List.take_length]
  constructor
  · intro e; simpa using congrArg List.reverse e
  · intro e; rw [e]

theorem plain_check {n t : ByteArray} (h : ∀ b ∈ by_ t, alnB b.toNat = true) : checkF ⟨3, n, t⟩ = checkF ⟨1, n, t⟩ := by
  have ha : ∀ b ∈ by_ t, b.toNat < 128 := fun b hb => by
    have := (alnB_iff _).1 (h b hb)
    omega
  have hr : rexF (rn (by_ t)) = .ok (catL .nil (rn (by_ t))) := rex_aln (by
    rw [rn_ascii _ ha]
    intro c hc
    obtain ⟨b, hb, rfl⟩ := List.mem_map.1 hc
    exact h b hb)
  unfold checkF
  simp only [hr, errF]
  simp
theorem plain_one {n t : ByteArray} (v : ByteArray) (h : ∀ b ∈ by_ t, alnB b.toNat = true) : oneB ⟨3, n, t⟩ v = oneB ⟨1, n, t⟩ v := by
  have ha : ∀ b ∈ by_ t, b.toNat < 128 := fun b hb => by
    have := (alnB_iff _).1 (h b hb)
    omega
  have hr : rexF (rn (by_ t)) = .ok (catL .nil (rn (by_ t))) := rex_aln (by
    rw [rn_ascii _ ha]
    intro c hc
    obtain ⟨b, hb, rfl⟩ := List.mem_map.1 hc
    exact h b hb)
  unfold oneB
  rw [plain_check h]
  congr 1
  show matchB (rexF (rn (by_ t))) (rn (by_ v)) = (by_ v == by_ t)
  rw [hr]
  unfold matchB
  simp only
  rw [full_aln, Bool.eq_iff_iff, decide_eq_true_eq, beq_iff_eq]
  exact ⟨fun e => rn_inj ha e, fun e => by rw [e]⟩
end Mt
end Go.Proofs.YthlabaijaadocaaDoor
