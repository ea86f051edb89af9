import Derived.Test.YthlabaijaadocaaDoorRxA
/-! Patterns: their parts, what they match, how they are read, plainly. No program in sight. -/
namespace Go.Proofs.YthlabaijaadocaaDoor
namespace Rx
/-- a pattern -/
inductive Pat where
  | one (set : List Span) (but : Bool)
  | nil
  | cat (a b : Pat)
  | alt (a b : Pat)
  | again (a : Pat) (sign : Int)

def den : Pat → Fi
  | .one s b => oneF s b
  | .nil => fun _ v => v
  | .cat a b => fun l v => den b l (den a l v)
  | .alt a b => fun l v => orF (den a l v) (den b l v)
  | .again a s => oftenF (den a) s

theorem den_lin (l : List Int) : ∀ p : Pat, Lin (l.length + 1) (den p l)
  | .one s b => oneF_lin s b l
  | .nil => id_lin _
  | .cat a b => comp_lin (p := den a l) (q := den b l) (den_lin l a) (den_lin l b)
  | .alt a b => or_lin (p := den a l) (q := den b l) (den_lin l a) (den_lin l b)
  | .again a s => oftenF_lin (den a) s l (den_lin l a)

/-- the rune that stands next; -1: the end -/
def pk : List Int → Int
  | [] => -1
  | c :: _ => c

def specB (c : Int) : Bool := [46, 42, 43, 63, 40, 41, 91, 93, 123, 125, 124, 94, 36, 92].contains c
def shortF (c : Int) : Option (List Span) :=
  if c = 100 then some [(48, 57)] else if c = 119 then some [(48, 57), (65, 90), (97, 122), (95, 95)] else if c = 115 then some [(32, 32), (9, 9), (10, 10)] else none
/-- behind a backslash: the runes; is it one by itself; what is left -/
def escF : List Int → Except Int (List Span × Bool × List Int)
  | [] => .error 8
  | c :: t => match shortF c with
    | some s => .ok (s, false, t)
    | none => if specB c || c == 45 || c == 47 then .ok ([(c, c)], true, t) else .error 8
/-- of a class -/
def memF : List Int → Except Int (List Span × Bool × List Int)
  | [] => .error 8
  | c :: t => if c == 91 || c == 93 || c == 94 || c == 45 then .error 8 else if c == 92 then escF t else .ok ([(c, c)], true, t)
def lowF (s : List Span) : Int := (s.headD (0, 0)).1
def uppF (lo : Int) (l : List Int) : Except Int (Int × List Int) :=
  if pk l == 92 && decide (lo > 125) then .error 8 else
  match memF l with
  | .error e => .error e
  | .ok (s, single, t) => if !single || decide (lowF s < lo) then .error 8 else .ok (lowF s, t)
def itemF (l : List Int) : Except Int (List Span × List Int) :=
  match memF l with
  | .error e => .error e
  | .ok (s, single, t) => if single && pk t == 45 then
      (match uppF (lowF s) t.tail with
      | .error e => .error e
      | .ok (hi, u) => .ok ([(lowF s, hi)], u))
    else .ok (s, t)
def clsF : Nat → Bool → List Span → List Int → Option (Except Int (List Span × List Int))
  | 0, _, _, _ => none
  | n + 1, first, acc, l => if first || pk l != 93 then
      (match itemF l with
      | .error e => some (.error e)
      | .ok (s, t) => clsF n false (acc ++ s) t)
    else some (.ok (acc, l.tail))

/-- which function reads -/
inductive Md where
  | pat
  | alt (acc : Pat)
  | bra (acc : Pat)
  | atom

abbrev Out := Except Int (Pat × List Int)
def thenF (r : Option Out) (k : Pat → List Int → Option Out) : Option Out :=
  match r with
  | none => none
  | some (.error e) => some (.error e)
  | some (.ok (p, l)) => k p l
def signB (c : Int) : Bool := c == 42 || c == 43 || c == 63
def butF (l : List Int) : List Int := if pk l == 94 then l.tail else l
def parF : Nat → Md → Nat → List Int → Option Out
  | 0, _, _, _ => none
  | n + 1, .pat, d, l => thenF (parF n (.bra .nil) d l) fun p l => parF n (.alt p) d l
  | n + 1, .alt acc, d, l => if pk l == 124 then thenF (parF n (.bra .nil) d l.tail) fun p l => parF n (.alt (.alt acc p)) d l else some (.ok (acc, l))
  | n + 1, .bra acc, d, l => if decide (pk l ≥ 0) && pk l != 124 && pk l != 41 then
      thenF (parF n .atom d l) fun p l => if signB (pk l) then parF n (.bra (.cat acc (.again p (pk l)))) d l.tail else parF n (.bra (.cat acc p)) d l
    else some (.ok (acc, l))
  | n + 1, .atom, d, l =>
    if pk l == 40 then (if d ≥ 20 then some (.error 60) else thenF (parF n .pat (d + 1) l.tail) fun p l => if pk l == 41 then some (.ok (p, l.tail)) else some (.error 8))
    else if pk l == 91 then (match clsF n true [] (butF l.tail) with
      | none => none
      | some (.error e) => some (.error e)
      | some (.ok (s, t)) => some (.ok (.one s (pk l.tail == 94), t)))
    else if pk l == 46 then some (.ok (.one [] true, l.tail))
    else if pk l == 92 then (match escF l.tail with
      | .error e => some (.error e)
      | .ok (s, _, t) => some (.ok (.one s false, t)))
    else if specB (pk l) then some (.error 8)
    else some (.ok (.one [(pk l, pk l)] false, l.tail))

/-! ### the reading ends -/
theorem escF_le {l : List Int} {s : List Span} {b : Bool} {t : List Int} (h : escF l = .ok (s, b, t)) : t.length < l.length := by
  cases l with
  | nil => cases h
  | cons c u =>
    unfold escF at h
    simp only at h
    split at h
    · cases h; simp
    · split at h
      · cases h; simp
      · cases h
theorem memF_le {l : List Int} {s : List Span} {b : Bool} {t : List Int} (h : memF l = .ok (s, b, t)) : t.length < l.length := by
  cases l with
  | nil => cases h
  | cons c u =>
    simp only [memF] at h
    split at h
    · cases h
    · split at h
      · have := escF_le h; simp; omega
      · cases h; simp
theorem uppF_le {lo : Int} {l : List Int} {c : Int} {t : List Int} (h : uppF lo l = .ok (c, t)) : t.length < l.length := by
  unfold uppF at h
  split at h
  · cases h
  · split at h
    · cases h
    · rename_i s b t' hm
      split at h
      · cases h
      · cases h; exact memF_le hm
theorem itemF_le {l : List Int} {s : List Span} {t : List Int} (h : itemF l = .ok (s, t)) : t.length < l.length := by
  unfold itemF at h
  split at h
  · cases h
  · rename_i s' b t' hm
    have := memF_le hm
    split at h
    · split at h
      · cases h
      · rename_i hi u hu
        have := uppF_le hu
        cases h
        have : t'.tail.length ≤ t'.length := by simp
        omega
    · cases h; exact this
theorem clsF_ends : ∀ (n : Nat) (first : Bool) (acc : List Span) (l : List Int), l.length < n → ∃ r, (∀ k, clsF (n + k) first acc l = some r) ∧ ∀ s t, r = .ok (s, t) → t.length ≤ l.length
  | 0, _, _, _, h => by omega
  | n + 1, first, acc, l, h => by
    have e : ∀ k, n + 1 + k = n + k + 1 := fun k => by omega
    by_cases c : (first || pk l != 93) = true
    · cases hi : itemF l with
      | error er => exact ⟨.error er, fun k => by rw [e]; unfold clsF; rw [if_pos c, hi], fun s t h => by cases h⟩
      | ok st =>
        obtain ⟨s, t⟩ := st
        have hl := itemF_le hi
        obtain ⟨r, hr, ht⟩ := clsF_ends n false (acc ++ s) t (by omega)
        exact ⟨r, fun k => by rw [e]; unfold clsF; rw [if_pos c, hi]; exact hr k, fun s' t' h' => by have := ht s' t' h'; omega⟩
    · exact ⟨.ok (acc, l.tail), fun k => by rw [e]; unfold clsF; rw [if_neg c], fun s t h => by cases h; simp⟩

theorem butF_le (l : List Int) : (butF l).length ≤ l.length := by unfold butF; split <;> simp
theorem pk_pos {l : List Int} (h : pk l ≥ 0) : l.tail.length < l.length := by
  cases l with
  | nil => simp [pk] at h
  | cons c t => simp

/-- how many rounds are enough -/
def need : Md → Nat → Nat
  | .atom, m => 3 * m + 2
  | .bra _, m => 3 * m + 3
  | .alt _, m => 3 * m + 2
  | .pat, m => 3 * m + 4
def shrinks : Md → List Int → List Int → Prop
  | .atom, l, t => t.length < l.length
  | _, l, t => t.length ≤ l.length
def EndsM (n : Nat) (md : Md) (d : Nat) (l : List Int) : Prop := ∃ r, (∀ k, parF (n + k) md d l = some r) ∧ ∀ p t, r = .ok (p, t) → shrinks md l t

theorem parF_ends : ∀ (n : Nat) (md : Md) (d : Nat) (l : List Int), (md = .atom → pk l ≥ 0) → need md l.length ≤ n → EndsM n md d l
  | 0, md, d, l, _, h => by cases md <;> simp [need] at h
  | n + 1, .pat, d, l, _, h => by
    have e : ∀ k, n + 1 + k = n + k + 1 := fun k => by omega
    simp only [need] at h
    obtain ⟨r, hr, ht⟩ := parF_ends n (.bra .nil) d l (fun h => by cases h) (by simp only [need]; omega)
    cases r with
    | error er => exact ⟨.error er, fun k => by rw [e, parF, hr k]; rfl, fun _ _ h => by cases h⟩
    | ok pt =>
      obtain ⟨p, t⟩ := pt
      have h1 : t.length ≤ l.length := ht p t rfl
      obtain ⟨r2, hr2, ht2⟩ := parF_ends n (.alt p) d t (fun h => by cases h) (by simp only [need]; omega)
      exact ⟨r2, fun k => by rw [e, parF, hr k]; exact hr2 k, fun p' t' h' => by have h2 : t'.length ≤ t.length := ht2 p' t' h'; show t'.length ≤ l.length; omega⟩
  | n + 1, .alt acc, d, l, _, h => by
    have e : ∀ k, n + 1 + k = n + k + 1 := fun k => by omega
    simp only [need] at h
    by_cases c : (pk l == 124) = true
    · have hl : l.tail.length < l.length := pk_pos (by have : pk l = 124 := (by simpa using c); omega)
      obtain ⟨r, hr, ht⟩ := parF_ends n (.bra .nil) d l.tail (fun h => by cases h) (by simp only [need]; omega)
      cases r with
      | error er => exact ⟨.error er, fun k => by rw [e, parF, if_pos c, hr k]; rfl, fun _ _ h => by cases h⟩
      | ok pt =>
        obtain ⟨p, t⟩ := pt
        have h1 : t.length ≤ l.tail.length := ht p t rfl
        obtain ⟨r2, hr2, ht2⟩ := parF_ends n (.alt (.alt acc p)) d t (fun h => by cases h) (by simp only [need]; omega)
        exact ⟨r2, fun k => by rw [e, parF, if_pos c, hr k]; exact hr2 k, fun p' t' h' => by have h2 : t'.length ≤ t.length := ht2 p' t' h'; show t'.length ≤ l.length; omega⟩
    · exact ⟨.ok (acc, l), fun k => by rw [e, parF, if_neg c], fun _ _ h => by cases h; exact Nat.le_refl _⟩
  | n + 1, .bra acc, d, l, _, h => by
    have e : ∀ k, n + 1 + k = n + k + 1 := fun k => by omega
    simp only [need] at h
    by_cases c : (decide (pk l ≥ 0) && pk l != 124 && pk l != 41) = true
    · have hp : pk l ≥ 0 := by simp only [Bool.and_eq_true, decide_eq_true_eq] at c; exact c.1.1
      obtain ⟨r, hr, ht⟩ := parF_ends n .atom d l (fun _ => hp) (by simp only [need]; omega)
      cases r with
      | error er => exact ⟨.error er, fun k => by rw [e, parF, if_pos c, hr k]; rfl, fun _ _ h => by cases h⟩
      | ok pt =>
        obtain ⟨p, t⟩ := pt
        have h1 : t.length < l.length := ht p t rfl
        have h1' : t.tail.length ≤ t.length := by simp
        by_cases cs : signB (pk t) = true
        · obtain ⟨r2, hr2, ht2⟩ := parF_ends n (.bra (.cat acc (.again p (pk t)))) d t.tail (fun h => by cases h) (by simp only [need]; omega)
          exact ⟨r2, fun k => by rw [e, parF, if_pos c, hr k]; simp only [thenF]; rw [if_pos cs]; exact hr2 k, fun p' t' h' => by have h2 : t'.length ≤ t.tail.length := ht2 p' t' h'; show t'.length ≤ l.length; omega⟩
        · obtain ⟨r2, hr2, ht2⟩ := parF_ends n (.bra (.cat acc p)) d t (fun h => by cases h) (by simp only [need]; omega)
          exact ⟨r2, fun k => by rw [e, parF, if_pos c, hr k]; simp only [thenF]; rw [if_neg cs]; exact hr2 k, fun p' t' h' => by have h2 : t'.length ≤ t.length := ht2 p' t' h'; show t'.length ≤ l.length; omega⟩
    · exact ⟨.ok (acc, l), fun k => by rw [e, parF, if_neg c], fun _ _ h => by cases h; exact Nat.le_refl _⟩
  | n + 1, .atom, d, l, hp, h => by
    have e : ∀ k, n + 1 + k = n + k + 1 := fun k => by omega
    simp only [need] at h
    have hl := pk_pos (hp rfl)
    by_cases c0 : (pk l == 40) = true
    · by_cases cd : d ≥ 20
      · exact ⟨.error 60, fun k => by rw [e, parF, if_pos c0, if_pos cd], fun _ _ h => by cases h⟩
      · obtain ⟨r, hr, ht⟩ := parF_ends n .pat (d + 1) l.tail (fun h => by cases h) (by simp only [need]; omega)
        cases r with
        | error er => exact ⟨.error er, fun k => by rw [e, parF, if_pos c0, if_neg cd, hr k]; rfl, fun _ _ h => by cases h⟩
        | ok pt =>
          obtain ⟨p, t⟩ := pt
          have h1 : t.length ≤ l.tail.length := ht p t rfl
          have h1' : t.tail.length ≤ t.length := by simp
          by_cases c1 : (pk t == 41) = true
          · exact ⟨.ok (p, t.tail), fun k => by rw [e, parF, if_pos c0, if_neg cd, hr k]; simp only [thenF]; rw [if_pos c1], fun _ _ h => by cases h; show t.tail.length < l.length; omega⟩
          · exact ⟨.error 8, fun k => by rw [e, parF, if_pos c0, if_neg cd, hr k]; simp only [thenF]; rw [if_neg c1], fun _ _ h => by cases h⟩
    · by_cases c1 : (pk l == 91) = true
      · have hb := butF_le l.tail
        obtain ⟨r, hr, ht⟩ := clsF_ends n true [] (butF l.tail) (by omega)
        cases r with
        | error er => exact ⟨.error er, fun k => by rw [e, parF, if_neg c0, if_pos c1, hr k], fun _ _ h => by cases h⟩
        | ok st =>
          obtain ⟨s, t⟩ := st
          have h1 := ht s t rfl
          exact ⟨.ok (.one s (pk l.tail == 94), t), fun k => by rw [e, parF, if_neg c0, if_pos c1, hr k], fun _ _ h => by cases h; show t.length < l.length; omega⟩
      · by_cases c2 : (pk l == 46) = true
        · exact ⟨_, fun k => by rw [e, parF, if_neg c0, if_neg c1, if_pos c2], fun _ _ h => by cases h; exact hl⟩
        · by_cases c3 : (pk l == 92) = true
          · cases he : escF l.tail with
            | error er => exact ⟨.error er, fun k => by rw [e, parF, if_neg c0, if_neg c1, if_neg c2, if_pos c3, he], fun _ _ h => by cases h⟩
            | ok sbt =>
              obtain ⟨s, b, t⟩ := sbt
              have := escF_le he
              exact ⟨.ok (.one s false, t), fun k => by rw [e, parF, if_neg c0, if_neg c1, if_neg c2, if_pos c3, he], fun _ _ h => by cases h; show t.length < l.length; omega⟩
          · by_cases c4 : specB (pk l) = true
            · exact ⟨.error 8, fun k => by rw [e, parF, if_neg c0, if_neg c1, if_neg c2, if_neg c3, if_pos c4], fun _ _ h => by cases h⟩
            · exact ⟨_, fun k => by rw [e, parF, if_neg c0, if_neg c1, if_neg c2, if_neg c3, if_neg c4], fun _ _ h => by cases h; exact hl⟩

/-- a whole text as a pattern; the number is what is wrong -/
def rexF (l : List Int) : Except Int Pat :=
  match parF (3 * l.length + 4) .pat 0 l with
  | some (.ok (p, [])) => .ok p
  | some (.ok (_, _ :: _)) => .error 8
  | some (.error e) => .error e
  | none => .error 8
theorem parF_more {l : List Int} {n : Nat} (h : 3 * l.length + 4 ≤ n) : ∃ r, parF n .pat 0 l = some r ∧ parF (3 * l.length + 4) .pat 0 l = some r := by
  obtain ⟨r, hr, _⟩ := parF_ends (3 * l.length + 4) .pat 0 l (fun h => by cases h) (Nat.le_refl _)
  obtain ⟨k, rfl⟩ : ∃ k, n = 3 * l.length + 4 + k := ⟨n - (3 * l.length + 4), by omega⟩
  exact ⟨r, hr k, hr 0⟩
/-- which texts are of it -/
def fullB (p : Pat) (s : List Int) : Bool := (den p s (true :: List.replicate s.length false)).getD s.length false
end Rx
end Go.Proofs.YthlabaijaadocaaDoor
