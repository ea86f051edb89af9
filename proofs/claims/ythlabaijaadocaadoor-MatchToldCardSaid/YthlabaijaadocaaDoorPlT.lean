import Derived.Test.YthlabaijaadocaaDoorNl
/-! Right matchers are got again of their text, plainly. -/
namespace Go.Proofs.YthlabaijaadocaaDoor
open Ut Rx Mt

theorem unq_quo : ∀ (v rest : List UInt8), unqF (quoGo v ++ rest) = .ok (v, rest)
  | [], rest => by
    show unqF (34 :: rest) = _
    exact unq_34 rfl
  | c :: t, rest => by
    have ih := unq_quo t rest
    unfold quoGo
    by_cases h1 : (c == 34 || c == 92) = true
    · rw [if_pos h1]
      show unqF (92 :: c :: (quoGo t ++ rest)) = _
      rw [unq_esc (by decide) (by decide) (by decide) h1, ih, consF]
    · rw [if_neg h1]
      simp only [Bool.or_eq_true, not_or] at h1
      by_cases h2 : (c == 10) = true
      · rw [if_pos h2]
        show unqF (92 :: 110 :: (quoGo t ++ rest)) = _
        rw [unq_n (by decide) (by decide) (by decide) (by decide) (by decide), ih]
        have : c = 10 := by simpa using h2
        subst this; rfl
      · rw [if_neg h2]
        show unqF (c :: (quoGo t ++ rest)) = _
        rw [unq_one h1.1 h2 h1.2, ih, consF]
theorem unquote_quote (v rest : List UInt8) : unquoteF (quoteF v ++ rest) = .ok (v, rest) := unq_quo v rest

/-- a name's letters -/
theorem named_letters {l : List UInt8} (h : namedF l = true) : l ≠ [] ∧ (∀ b ∈ l, letU b = true) ∧ headDig l = false := by
  unfold namedF at h
  simp only [Bool.and_eq_true, decide_eq_true_eq, List.all_eq_true] at h
  obtain ⟨⟨⟨h1, _⟩, h3⟩, h4⟩ := h
  refine ⟨fun e => by subst e; simp at h1, h3, ?_⟩
  cases l with
  | nil => rfl
  | cons c t =>
    simp only [List.getD_cons_zero] at h4
    unfold headDig digU
    unfold firB at h4
    simp only [Bool.or_eq_true, Bool.and_eq_true, decide_eq_true_eq] at h4
    simp only [Bool.and_eq_false_iff, decide_eq_false_iff_not]
    omega
theorem take_letters : ∀ (l r : List UInt8), (∀ b ∈ l, letU b = true) → (∀ c ∈ r.head?, letU c = false) → (l ++ r).takeWhile letU = l ∧ (l ++ r).dropWhile letU = r
  | [], r, _, hr => by
    cases r with
    | nil => exact ⟨rfl, rfl⟩
    | cons c t =>
      have hc := hr c rfl
      simp [hc]
  | b :: t, r, h, hr => by
    have hb := h b (by simp)
    obtain ⟨h1, h2⟩ := take_letters t r (fun x hx => h x (List.mem_cons_of_mem _ hx)) hr
    simp only [List.cons_append, List.takeWhile_cons, List.dropWhile_cons, hb, if_true]
    exact ⟨by rw [h1], h2⟩
theorem letU_vals {c : UInt8} (h : letU c = true) : c ≠ 32 ∧ c ≠ 125 ∧ c ≠ 123 ∧ c ≠ 44 := by
  refine ⟨?_, ?_, ?_, ?_⟩ <;> (rintro rfl; revert h; decide)
theorem bare_let {c : UInt8} {t : List UInt8} (h : letU c = true) : bareF (c :: t) = c :: t := bare_no (letU_vals h).1
theorem eat1_no {p c : UInt8} {t : List UInt8} (h : c ≠ p) : eatF [p] (c :: t) = none := eat_no (by simpa using h)
theorem eat1_yes (p : UInt8) (t : List UInt8) : eatF [p] (p :: t) = some t := eat_yes rfl

theorem sign_at {k : Int} (h1 : 1 ≤ k) (h4 : k ≤ 4) (z : List UInt8) : signP (signT k ++ 34 :: z) = (k, 34 :: z) ∧ bareF (signT k ++ 34 :: z) = signT k ++ 34 :: z ∧ (∀ c ∈ (signT k ++ 34 :: z).head?, letU c = false) := by
  have hk : k = 1 ∨ k = 2 ∨ k = 3 ∨ k = 4 := by omega
  rcases hk with rfl | rfl | rfl | rfl
  all_goals
    refine ⟨rfl, rfl, ?_⟩
    intro c hc
    cases hc
    decide

/-- a matcher that is printed is read -/
theorem one_told {m : M} {rest : List UInt8} (hn : namedF (by_ m.n) = true) (h1 : 1 ≤ m.k) (h4 : m.k ≤ 4) (hr : bareF rest = rest) :
    oneP (by_ m.n ++ signT m.k ++ quoteF (by_ m.v) ++ rest) = some (m, rest) := by
  obtain ⟨hne, hl, _⟩ := named_letters hn
  obtain ⟨s1, s2, s3⟩ := sign_at h1 h4 (quoGo (by_ m.v) ++ rest)
  have e : by_ m.n ++ signT m.k ++ quoteF (by_ m.v) ++ rest = by_ m.n ++ (signT m.k ++ 34 :: (quoGo (by_ m.v) ++ rest)) := by simp [quoteF]
  rw [e]
  obtain ⟨t1, t2⟩ := take_letters (by_ m.n) _ hl s3
  have b : bareF (34 :: (quoGo (by_ m.v) ++ rest)) = 34 :: (quoGo (by_ m.v) ++ rest) := rfl
  unfold oneP
  rw [t1, t2, s2, s1]
  simp only
  rw [b, show unquoteF (34 :: (quoGo (by_ m.v) ++ rest)) = .ok (by_ m.v, rest) from unquote_quote (by_ m.v) rest]
  simp only
  rw [if_neg (by rintro (h | h); · exact hne h
                 · omega), hr]
theorem braces_told : ∀ (l : List M) (n : Nat), l.length + 1 ≤ n → (∀ m ∈ l, namedF (by_ m.n) = true ∧ 1 ≤ m.k ∧ m.k ≤ 4) → allP n (braGo true l) = some (l, [])
  | l, 0, hn, _ => by omega
  | [], n + 1, _, _ => rfl
  | m :: t, n + 1, hn, h => by
    obtain ⟨hm, h1, h4⟩ := h m (by simp)
    have ht : ∀ m ∈ t, namedF (by_ m.n) = true ∧ 1 ≤ m.k ∧ m.k ≤ 4 := fun x hx => h x (List.mem_cons_of_mem _ hx)
    have ih := braces_told t n (by simpa using hn) ht
    obtain ⟨hne, hl, _⟩ := named_letters hm
    have hbra : braGo true (m :: t) = by_ m.n ++ signT m.k ++ quoteF (by_ m.v) ++ braGo false t := by simp [braGo]
    have hr : bareF (braGo false t) = braGo false t := by cases t <;> rfl
    have e1 : eatF [125] (braGo true (m :: t)) = none := by
      rw [hbra]
      cases hq : by_ m.n with
      | nil => exact absurd hq hne
      | cons c u =>
        rw [hq] at hl
        exact eat1_no (letU_vals (hl c (by simp))).2.1
    rw [allP, e1]
    simp only
    rw [hbra, one_told hm h1 h4 hr]
    simp only
    cases t with
    | nil =>
      show (match eatF [44] [125] with
        | some r2 => consO m (allP n (bareF r2))
        | none => if ([125] : List UInt8).head? = some 125 then consO m (allP n [125]) else none) = _
      rw [show eatF [44] ([125] : List UInt8) = none from rfl]
      simp only [List.head?_cons, if_true]
      rw [show allP n [125] = some ([], []) from ih]; rfl
    | cons m2 t2 =>
      have hb2 : braGo false (m2 :: t2) = 44 :: 32 :: braGo true (m2 :: t2) := by simp [braGo]
      rw [hb2, eat1_yes]
      simp only
      have hb3 : bareF (32 :: braGo true (m2 :: t2)) = braGo true (m2 :: t2) := by
        rw [bare_yes rfl]
        obtain ⟨hm2, _, _⟩ := ht m2 (by simp)
        obtain ⟨hne2, hl2, _⟩ := named_letters hm2
        have : braGo true (m2 :: t2) = by_ m2.n ++ (signT m2.k ++ quoteF (by_ m2.v) ++ braGo false t2) := by simp [braGo]
        rw [this]
        cases hq : by_ m2.n with
        | nil => exact absurd hq hne2
        | cons c u =>
          rw [hq] at hl2
          exact bare_let (hl2 c (by simp))
      rw [hb3, ih]; rfl

theorem braGo_pos : ∀ (l : List M), (∀ m ∈ l, by_ m.n ≠ []) → l.length + 1 ≤ (braGo true l).length
  | [], _ => by simp [braGo]
  | m :: t, h => by
    have h1 := List.length_pos_iff.2 (h m (by simp))
    have h2 : t.length + 1 ≤ (braGo false t).length := by
      cases t with
      | nil => simp [braGo]
      | cons m2 t2 =>
        have := braGo_pos (m2 :: t2) fun x hx => h x (List.mem_cons_of_mem _ hx)
        have hb2 : braGo false (m2 :: t2) = 44 :: 32 :: braGo true (m2 :: t2) := by simp [braGo]
        rw [hb2]
        simp only [List.length_cons] at *
        omega
    have hbra : braGo true (m :: t) = by_ m.n ++ signT m.k ++ quoteF (by_ m.v) ++ braGo false t := by simp [braGo]
    rw [hbra]
    simp only [List.length_append, List.length_cons] at *
    omega

theorem checkF_named {k : Int} {n v : ByteArray} (h : checkF ⟨k, n, v⟩ = 0) : namedF (by_ n) = true := by
  cases hn : namedF (by_ n) with
  | true => rfl
  | false =>
    exfalso
    obtain ⟨h1, h4, _⟩ := checkF_ok h
    unfold checkF at h
    rw [if_neg (by simp; omega), hn] at h
    simp at h

theorem told {l : List M} (hr : rightF l = 0) : parseP (printF l) = .ok l := by
  have hall : ∀ m ∈ l, namedF (by_ m.n) = true ∧ 1 ≤ m.k ∧ m.k ≤ 4 := fun m hm => by
    have h := right_ok hr m hm
    obtain ⟨k, n, v⟩ := m
    obtain ⟨h1, h4, _⟩ := checkF_ok h
    exact ⟨checkF_named h, h1, h4⟩
  have bodyB : ∀ (nm : List UInt8) (t : List M), (∀ m ∈ t, namedF (by_ m.n) = true ∧ 1 ≤ m.k ∧ m.k ≤ 4) → rightF (baseP nm ++ t) = 0 → bodyP nm (bracesF t) = .ok (baseP nm ++ t) := fun nm t ht h0 => by
    have hb : bareF (braGo true t) = braGo true t := by
      cases t with
      | nil => rfl
      | cons m u =>
        obtain ⟨hm, _, _⟩ := ht m (by simp)
        obtain ⟨hne, hl, _⟩ := named_letters hm
        have : braGo true (m :: u) = by_ m.n ++ (signT m.k ++ quoteF (by_ m.v) ++ braGo false u) := by simp [braGo]
        rw [this]
        cases hq : by_ m.n with
        | nil => exact absurd hq hne
        | cons c z =>
          rw [hq] at hl
          exact bare_let (hl c (by simp))
    unfold bodyP bracesF
    rw [eat1_yes]
    simp only
    rw [hb, braces_told t _ (by have := braGo_pos t (fun m hm => (named_letters (ht m hm).1).1); omega) ht]
    simp only
    unfold tailP
    rw [if_pos (show bareF [] = [] from rfl), if_pos h0]
  have whole : printF l = bracesF l → parseP (printF l) = .ok l := fun e => by
    rw [e]
    unfold parseP
    have b0 : bareF (bracesF l) = bracesF l := rfl
    have t0 : (bracesF l).takeWhile letU = [] := rfl
    have d0 : (bracesF l).dropWhile letU = bracesF l := rfl
    rw [b0, t0, d0, b0, if_neg (by decide)]
    have := bodyB [] l hall (by show rightF ([] ++ l) = 0; exact hr)
    exact this
  cases l with
  | nil => exact whole rfl
  | cons m t =>
    by_cases hh : headB m = true
    · have hh2 := hh
      unfold headB at hh2
      simp only [Bool.and_eq_true, decide_eq_true_eq] at hh2
      obtain ⟨⟨hk, hn⟩, hv⟩ := hh2
      obtain ⟨hne, hl, hd⟩ := named_letters hv
      have ht : ∀ m ∈ t, namedF (by_ m.n) = true ∧ 1 ≤ m.k ∧ m.k ≤ 4 := fun x hx => hall x (List.mem_cons_of_mem _ hx)
      have hm : baseP (by_ m.v) = [m] := by
        unfold baseP
        rw [if_neg hne]
        obtain ⟨k, n, v⟩ := m
        simp only at hk hn
        subst hk
        rw [show n = ⟨nameL.toArray⟩ from by_inj (by rw [hn])]
      have fir : ∀ r, bareF (by_ m.v ++ r) = by_ m.v ++ r := fun r => by
        cases hq : by_ m.v with
        | nil => exact absurd hq hne
        | cons c z => rw [hq] at hl; exact bare_let (hl c (by simp))
      have go : ∀ r, (∀ c ∈ r.head?, letU c = false) → parseP (by_ m.v ++ r) = bodyP (by_ m.v) (bareF r) := fun r hr' => by
        obtain ⟨t1, t2⟩ := take_letters (by_ m.v) r hl hr'
        unfold parseP
        rw [fir, t1, t2, hd]
        rfl
      by_cases h0 : t = []
      · subst h0
        have e : printF [m] = by_ m.v ++ [] := by unfold printF; simp [hh]
        rw [e, go [] (by simp)]
        unfold bodyP
        rw [show eatF [123] (bareF []) = none from rfl]
        simp only
        rw [if_neg hne, hm]
        unfold tailP
        rw [if_pos (show bareF (bareF []) = [] from rfl), if_pos hr]
      · have e : printF (m :: t) = by_ m.v ++ bracesF t := by unfold printF; simp [hh, h0]
        rw [e, go (bracesF t) (by intro c hc; cases hc; decide)]
        have := bodyB (by_ m.v) t ht (by rw [hm]; exact hr)
        rw [hm] at this
        exact this
    · exact whole (by unfold printF; simp only; rw [if_neg hh])
end Go.Proofs.YthlabaijaadocaaDoor
