
/-! What patterns match, plainly: from which places of a text one comes to which. No program in sight. -/
namespace Go.Proofs.YtmbfpichaaanpaaGreatDoor
namespace Rx
/-- a pattern's part: of a text's runes, and of some places, the places to which it leads -/
abbrev Fi := List Int → List Bool → List Bool
abbrev Span := Int × Int

def hasS (set : List Span) (c : Int) : Bool := set.any fun x => decide (c ≥ x.1) && decide (c ≤ x.2)
def oneF (set : List Span) (but : Bool) : Fi := fun l v => false :: List.zipWith (fun c f => f && (hasS set c != but)) l v
def manyF (ps : List Fi) : Fi := fun l v => ps.foldl (fun v p => p l v) v
def orF (a b : List Bool) : List Bool := List.zipWith (fun x y => x || y) a b
def alikeF (ps : List Fi) : Fi := fun l v => ps.foldl (fun out p => orF out (p l v)) (List.replicate v.length false)
/-- `for join(out, x.ends(l, out))` -/
def clos (p : List Bool → List Bool) : Nat → List Bool → List Bool
  | 0, out => out
  | k + 1, out => if orF out (p out) = out then out else clos p k (orF out (p out))
def oftenF (x : Fi) (sign : Int) : Fi := fun l v =>
  let once := x l v
  let out := if sign = 43 then once else orF once v
  if sign = 63 then out else clos (x l) (v.length + 1) out

/-- the other text's: only what is new goes on -/
def fresh (next out : List Bool) : List Bool := List.zipWith (fun a b => a && !b) next out
def cloR (p : List Bool → List Bool) : Nat → List Bool → List Bool → List Bool
  | 0, _, out => out
  | k + 1, now, out => let f := fresh (p now) out; if f.any id then cloR p k f (orF out f) else orF out f

/-! ### sets of places -/
def sub (a b : List Bool) : Prop := ∀ i, a.getD i false = true → b.getD i false = true
theorem sub_refl (a : List Bool) : sub a a := fun _ h => h
theorem sub_trans {a b c : List Bool} (h : sub a b) (k : sub b c) : sub a c := fun i hi => k i (h i hi)
theorem sub_antisymm {a b : List Bool} (hl : a.length = b.length) (h : sub a b) (k : sub b a) : a = b := by
  apply List.ext_getElem hl
  intro i h1 h2
  have e1 : a.getD i false = a[i] := by simp [List.getD_eq_getElem?_getD, h1]
  have e2 : b.getD i false = b[i] := by simp [List.getD_eq_getElem?_getD, h2]
  have := h i; have := k i
  rw [e1, e2] at *
  cases ha : a[i] <;> cases hb : b[i] <;> simp_all

theorem orF_length {a b : List Bool} (h : a.length = b.length) : (orF a b).length = a.length := by simp [orF, h]
theorem orF_get {a b : List Bool} (h : a.length = b.length) (i : Nat) : (orF a b).getD i false = (a.getD i false || b.getD i false) := by
  unfold orF
  simp only [List.getD_eq_getElem?_getD, List.getElem?_zipWith]
  by_cases hi : i < a.length
  · simp [hi, show i < b.length by omega]
  · simp [List.getElem?_eq_none (show a.length ≤ i by omega), List.getElem?_eq_none (show b.length ≤ i by omega)]
theorem sub_or_left {a b : List Bool} (h : a.length = b.length) : sub a (orF a b) := fun i hi => by rw [orF_get h, hi]; rfl
theorem sub_or_right {a b : List Bool} (h : a.length = b.length) : sub b (orF a b) := fun i hi => by rw [orF_get h, hi]; simp
theorem or_sub {a b c : List Bool} (h : a.length = b.length) (h1 : sub a c) (h2 : sub b c) : sub (orF a b) c := fun i hi => by
  rw [orF_get h] at hi
  rcases Bool.or_eq_true _ _ ▸ hi with e | e
  · exact h1 i e
  · exact h2 i e
theorem or_same {a b : List Bool} (h : a.length = b.length) (k : sub b a) : orF a b = a := sub_antisymm (orF_length h) (or_sub h (sub_refl _) k) (sub_or_left h)
theorem sub_of_or_same {a b : List Bool} (h : a.length = b.length) (k : orF a b = a) : sub b a := k ▸ sub_or_right h

theorem fresh_length {a b : List Bool} (h : a.length = b.length) : (fresh a b).length = b.length := by simp [fresh, h]
theorem fresh_get {a b : List Bool} (h : a.length = b.length) (i : Nat) : (fresh a b).getD i false = (a.getD i false && !b.getD i false) := by
  unfold fresh
  simp only [List.getD_eq_getElem?_getD, List.getElem?_zipWith]
  by_cases hi : i < a.length
  · simp [hi, show i < b.length by omega]
  · simp [List.getElem?_eq_none (show a.length ≤ i by omega), List.getElem?_eq_none (show b.length ≤ i by omega)]
theorem any_get {a : List Bool} : a.any id = false ↔ ∀ i, a.getD i false = false := by
  constructor
  · intro h i
    rw [List.any_eq_false] at h
    by_cases hi : i < a.length
    · have := h a[i] (List.getElem_mem hi)
      simp [List.getD_eq_getElem?_getD, hi]; simpa using this
    · simp [List.getD_eq_getElem?_getD, List.getElem?_eq_none (show a.length ≤ i by omega)]
  · intro h
    rw [List.any_eq_false]
    intro x hx
    obtain ⟨i, hi, rfl⟩ := List.getElem_of_mem hx
    have := h i
    simp [List.getD_eq_getElem?_getD, hi] at this
    simpa using this

/-- how many places a set has -/
def cnt (a : List Bool) : Nat := (a.filter id).length
theorem cnt_le (a : List Bool) : cnt a ≤ a.length := List.length_filter_le _ _
theorem cnt_sub : ∀ {a b : List Bool}, a.length = b.length → sub a b → cnt a ≤ cnt b
  | [], [], _, _ => Nat.le_refl _
  | x :: a, y :: b, h, k => by
    have k' : sub a b := fun i hi => by have := k (i + 1); simpa using this (by simpa using hi)
    have e := cnt_sub (by simpa using h) k'
    have k0 := k 0
    unfold cnt at *
    cases x <;> cases y <;> simp_all <;> omega
theorem cnt_lt : ∀ {a b : List Bool}, a.length = b.length → sub a b → a ≠ b → cnt a < cnt b
  | [], [], _, _, h => absurd rfl h
  | x :: a, y :: b, h, k, ne => by
    have k' : sub a b := fun i hi => by have := k (i + 1); simpa using this (by simpa using hi)
    have e := cnt_sub (by simpa using h) k'
    have k0 := k 0
    by_cases hab : a = b
    · subst hab
      unfold cnt
      cases x <;> cases y <;> simp_all
    · have e2 := cnt_lt (by simpa using h) k' hab
      unfold cnt at *
      cases x <;> cases y <;> simp_all <;> omega

/-- a step from places to places: keeps the length, and goes from each place by itself -/
structure Lin (n : Nat) (p : List Bool → List Bool) : Prop where
  len : ∀ v, v.length = n → (p v).length = n
  mono : ∀ a b, a.length = n → b.length = n → sub a b → sub (p a) (p b)
  dist : ∀ a b, a.length = n → b.length = n → sub (p (orF a b)) (orF (p a) (p b))

/-! ### the first text's loop comes to the least set that holds where it began and is closed -/
theorem clos_spec {n : Nat} {p : List Bool → List Bool} (L : Lin n p) : ∀ (k : Nat) (out : List Bool), out.length = n → n < cnt out + k →
    (clos p k out).length = n ∧ sub out (clos p k out) ∧ sub (p (clos p k out)) (clos p k out) ∧ ∀ S, S.length = n → sub out S → sub (p S) S → sub (clos p k out) S
  | 0, out, h, hk => by have := cnt_le out; omega
  | k + 1, out, h, hk => by
    have hp := L.len out h
    unfold clos
    by_cases e : orF out (p out) = out
    · rw [if_pos e]
      exact ⟨h, sub_refl _, sub_of_or_same (by omega) e, fun S _ hS _ => hS⟩
    · rw [if_neg e]
      have hl : (orF out (p out)).length = n := by rw [orF_length (by omega)]; exact h
      have hc := cnt_lt (a := out) (b := orF out (p out)) (by omega) (sub_or_left (by omega)) (fun e' => e e'.symm)
      obtain ⟨a1, a2, a3, a4⟩ := clos_spec L k (orF out (p out)) hl (by omega)
      refine ⟨a1, sub_trans (sub_or_left (by omega)) a2, a3, fun S hS hout hc => a4 S hS (or_sub (by omega) hout (sub_trans (L.mono _ _ h hS hout) hc)) hc⟩

theorem zero_of_any {f : List Bool} (h : f.any id = false) (S : List Bool) : sub f S := fun i hi => by rw [any_get.1 h i] at hi; cases hi

theorem fresh_sub {a b : List Bool} (h : a.length = b.length) : sub (fresh a b) a := fun i hi => by
  rw [fresh_get h] at hi
  cases e : a.getD i false with
  | true => rfl
  | false => rw [e] at hi; cases hi

/-- all of next is in out or is new -/
theorem next_sub {a b : List Bool} (h : a.length = b.length) : sub a (orF b (fresh a b)) := fun i hi => by
  rw [orF_get (by rw [fresh_length h]), fresh_get h, hi]
  cases b.getD i false <;> rfl

/-- the second text's loop: what it comes to is closed, and within every closed set that holds where it began and what comes next -/
theorem cloR_spec {n : Nat} {p : List Bool → List Bool} (L : Lin n p) : ∀ (k : Nat) (now out : List Bool), now.length = n → out.length = n → n < cnt out + k →
    sub (p out) (orF out (p now)) →
    (cloR p k now out).length = n ∧ sub out (cloR p k now out) ∧ sub (p now) (cloR p k now out) ∧ sub (p (cloR p k now out)) (cloR p k now out) ∧ ∀ S, S.length = n → sub out S → sub (p now) S → sub (p S) S → sub (cloR p k now out) S
  | 0, now, out, h1, h2, hk, _ => by have := cnt_le out; omega
  | k + 1, now, out, h1, h2, hk, hr => by
    have hp := L.len now h1
    have hf : (fresh (p now) out).length = n := by rw [fresh_length (by omega)]; exact h2
    have hpf := L.len _ hf
    have ho : (orF out (fresh (p now) out)).length = n := by rw [orF_length (by omega)]; exact h2
    have hn : sub (p now) (orF out (fresh (p now) out)) := next_sub (by omega)
    have hpo : sub (p out) (orF out (fresh (p now) out)) := sub_trans hr (or_sub (by omega) (sub_or_left (by omega)) hn)
    unfold cloR
    by_cases e : (fresh (p now) out).any id = true
    · rw [if_pos e]
      have hne : out ≠ orF out (fresh (p now) out) := by
        intro e'
        have hz : (fresh (p now) out).any id = false := any_get.2 fun i => by
          cases hi : (fresh (p now) out).getD i false with
          | false => rfl
          | true =>
            have h5 := sub_or_right (a := out) (b := fresh (p now) out) (by omega) i hi
            rw [← e'] at h5
            rw [fresh_get (by omega), h5] at hi
            simp at hi
        rw [hz] at e; cases e
      have hc := cnt_lt (a := out) (b := orF out (fresh (p now) out)) (by omega) (sub_or_left (by omega)) hne
      have hr' : sub (p (orF out (fresh (p now) out))) (orF (orF out (fresh (p now) out)) (p (fresh (p now) out))) :=
        sub_trans (L.dist _ _ h2 hf) (or_sub (by rw [L.len _ h2, hpf]) (sub_trans hpo (sub_or_left (by omega))) (sub_or_right (by omega)))
      obtain ⟨a1, a2, a3, a4, a5⟩ := cloR_spec L k (fresh (p now) out) (orF out (fresh (p now) out)) hf ho (by omega) hr'
      refine ⟨a1, sub_trans (sub_or_left (by omega)) a2, sub_trans hn a2, a4, fun S hS hout hnow hcS => ?_⟩
      have hfS : sub (fresh (p now) out) S := sub_trans (fresh_sub (by omega)) hnow
      exact a5 S hS (or_sub (by omega) hout hfS) (sub_trans (L.mono _ _ hf hS hfS) hcS) hcS
    · have e0 : (fresh (p now) out).any id = false := by simpa using e
      rw [if_neg e]
      have hz := zero_of_any e0
      exact ⟨ho, sub_or_left (by omega), hn, sub_trans (L.mono _ _ ho h2 (or_sub (by omega) (sub_refl _) (hz out))) hpo, fun S hS hout hnow hcS => or_sub (by omega) hout (hz S)⟩

/-! ### each kind of part is such a step -/
theorem oneF_lin (set : List Span) (but : Bool) (l : List Int) : Lin (l.length + 1) (oneF set but l) := by
  have g : ∀ v : List Bool, v.length = l.length + 1 → ∀ i, (oneF set but l v).getD i false = if i = 0 then false else (v.getD (i - 1) false && (decide (i - 1 < l.length) && (hasS set (l.getD (i - 1) 0) != but))) := by
    intro v hv i
    unfold oneF
    cases i with
    | zero => rfl
    | succ i =>
      rw [if_neg (by omega)]
      simp only [List.getD_cons_succ, Nat.add_sub_cancel]
      by_cases hi : i < l.length
      · have hv' : i < v.length := by omega
        simp [List.getD_eq_getElem?_getD, List.getElem?_zipWith, hi, hv']
      · simp [List.getD_eq_getElem?_getD, List.getElem?_zipWith, hi]
  refine ⟨fun v hv => by simp [oneF]; omega, fun a b ha hb h i hi => ?_, fun a b ha hb i hi => ?_⟩
  · rw [g a ha] at hi; rw [g b hb]
    by_cases h0 : i = 0
    · rw [if_pos h0] at hi; cases hi
    · rw [if_neg h0] at *
      simp only [Bool.and_eq_true] at *
      exact ⟨h _ hi.1, hi.2⟩
  · have hab : (orF a b).length = l.length + 1 := by rw [orF_length (by omega)]; exact ha
    rw [g _ hab] at hi
    rw [orF_get (by simp [oneF]; omega), g a ha, g b hb]
    by_cases h0 : i = 0
    · rw [if_pos h0] at hi; cases hi
    · rw [if_neg h0] at *
      rw [orF_get (by omega)] at hi
      rw [if_neg h0]
      simp only [Bool.and_eq_true, Bool.or_eq_true] at *
      rcases hi with ⟨h1 | h1, h2⟩
      · exact Or.inl ⟨h1, h2⟩
      · exact Or.inr ⟨h1, h2⟩

theorem id_lin (n : Nat) : Lin n (fun v => v) := ⟨fun _ h => h, fun _ _ _ _ h => h, fun _ _ _ _ => sub_refl _⟩
theorem comp_lin {n : Nat} {p q : List Bool → List Bool} (hp : Lin n p) (hq : Lin n q) : Lin n (fun v => q (p v)) :=
  ⟨fun v h => hq.len _ (hp.len _ h), fun a b ha hb h => hq.mono _ _ (hp.len _ ha) (hp.len _ hb) (hp.mono _ _ ha hb h),
   fun a b ha hb => sub_trans (hq.mono _ _ (hp.len _ (by rw [orF_length (by omega)]; exact ha)) (by rw [orF_length (by rw [hp.len _ ha, hp.len _ hb])]; exact hp.len _ ha) (hp.dist a b ha hb)) (hq.dist _ _ (hp.len _ ha) (hp.len _ hb))⟩
theorem or_mono {n : Nat} {a b c d : List Bool} (ha : a.length = n) (hb : b.length = n) (hc : c.length = n) (hd : d.length = n) (h : sub a c) (k : sub b d) : sub (orF a b) (orF c d) :=
  or_sub (by omega) (sub_trans h (sub_or_left (by omega))) (sub_trans k (sub_or_right (by omega)))
theorem or_lin {n : Nat} {p q : List Bool → List Bool} (hp : Lin n p) (hq : Lin n q) : Lin n (fun v => orF (p v) (q v)) := by
  have len : ∀ v, v.length = n → (orF (p v) (q v)).length = n := fun v h => by rw [orF_length (by rw [hp.len _ h, hq.len _ h])]; exact hp.len _ h
  refine ⟨len, fun a b ha hb h => or_mono (hp.len _ ha) (hq.len _ ha) (hp.len _ hb) (hq.len _ hb) (hp.mono _ _ ha hb h) (hq.mono _ _ ha hb h), fun a b ha hb => ?_⟩
  have ho : (orF a b).length = n := by rw [orF_length (by omega)]; exact ha
  have lpa := hp.len _ ha; have lpb := hp.len _ hb; have lqa := hq.len _ ha; have lqb := hq.len _ hb
  refine or_sub (by rw [hp.len _ ho, hq.len _ ho]) (sub_trans (hp.dist a b ha hb) ?_) (sub_trans (hq.dist a b ha hb) ?_)
  · exact or_mono lpa lpb (len _ ha) (len _ hb) (sub_or_left (by omega)) (sub_or_left (by omega))
  · exact or_mono lqa lqb (len _ ha) (len _ hb) (sub_or_right (by omega)) (sub_or_right (by omega))
theorem zero_lin (n : Nat) : Lin n (fun v : List Bool => List.replicate v.length false) := by
  have z : ∀ m S, sub (List.replicate m false) S := fun m S i hi => by simp [List.getD_eq_getElem?_getD, List.getElem?_replicate] at hi; split at hi <;> simp at hi
  exact ⟨fun v h => by simpa using h, fun _ _ _ _ _ => z _ _, fun _ _ _ _ => z _ _⟩

theorem manyF_lin (l : List Int) (n : Nat) : ∀ (ps : List Fi), (∀ p ∈ ps, Lin n (p l)) → Lin n (manyF ps l)
  | [], _ => id_lin n
  | p :: ps, h => comp_lin (p := p l) (h p (by simp)) (manyF_lin l n ps fun q hq => h q (by simp [hq]))

theorem alikeF_aux (l : List Int) (n : Nat) : ∀ (ps : List Fi) (q : List Bool → List Bool), Lin n q → (∀ p ∈ ps, Lin n (p l)) → Lin n (fun v => ps.foldl (fun out p => orF out (p l v)) (q v))
  | [], q, hq, _ => hq
  | p :: ps, q, hq, h => alikeF_aux l n ps (fun v => orF (q v) (p l v)) (or_lin hq (h p (by simp))) fun r hr => h r (by simp [hr])
theorem alikeF_lin (l : List Int) (n : Nat) (ps : List Fi) (h : ∀ p ∈ ps, Lin n (p l)) : Lin n (alikeF ps l) := alikeF_aux l n ps (fun v : List Bool => List.replicate v.length false) (zero_lin n) h

theorem clos_lin {n : Nat} {p q : List Bool → List Bool} (hp : Lin n p) (hq : Lin n q) : Lin n (fun v => clos p (n + 1) (q v)) := by
  have sp := fun (v : List Bool) (hv : v.length = n) => clos_spec hp (n + 1) (q v) (hq.len _ hv) (by omega)
  refine ⟨fun v hv => (sp v hv).1, fun a b ha hb h => ?_, fun a b ha hb => ?_⟩
  · obtain ⟨a1, a2, a3, a4⟩ := sp a ha
    obtain ⟨b1, b2, b3, b4⟩ := sp b hb
    exact a4 _ b1 (sub_trans (hq.mono _ _ ha hb h) b2) b3
  · have ho : (orF a b).length = n := by rw [orF_length (by omega)]; exact ha
    obtain ⟨a1, a2, a3, a4⟩ := sp a ha
    obtain ⟨b1, b2, b3, b4⟩ := sp b hb
    obtain ⟨c1, c2, c3, c4⟩ := sp _ ho
    refine c4 _ (by rw [orF_length (by omega)]; exact a1) (sub_trans (hq.dist a b ha hb) (or_mono (hq.len _ ha) (hq.len _ hb) a1 b1 a2 b2)) ?_
    exact sub_trans (hp.dist _ _ a1 b1) (or_mono (hp.len _ a1) (hp.len _ b1) a1 b1 a3 b3)

theorem oftenF_lin (x : Fi) (sign : Int) (l : List Int) (h : Lin (l.length + 1) (x l)) : Lin (l.length + 1) (oftenF x sign l) := by
  have hb : Lin (l.length + 1) (fun v => if sign = 43 then x l v else orF (x l v) v) := by
    by_cases e : sign = 43
    · simp only [e, if_true]; exact h
    · simp only [e, if_false]; exact or_lin h (id_lin _)
  by_cases e : sign = 63
  · refine ⟨fun v hv => ?_, fun a b ha hb' hs => ?_, fun a b ha hb' => ?_⟩
    all_goals unfold oftenF; simp only [e, if_true]; rw [e] at hb
    · exact hb.len v hv
    · exact hb.mono a b ha hb' hs
    · exact hb.dist a b ha hb'
  · have hc := clos_lin h hb
    have eq : ∀ v, v.length = l.length + 1 → oftenF x sign l v = clos (x l) (l.length + 1 + 1) ((fun v => if sign = 43 then x l v else orF (x l v) v) v) := fun v hv => by
      unfold oftenF; simp only [e, if_false]; rw [hv]
    refine ⟨fun v hv => by rw [eq v hv]; exact hc.len v hv, fun a b ha hb' hs => by rw [eq a ha, eq b hb']; exact hc.mono a b ha hb' hs, fun a b ha hb' => ?_⟩
    rw [eq _ (by rw [orF_length (by omega)]; exact ha), eq a ha, eq b hb']
    exact hc.dist a b ha hb'

/-- the two texts' ways of going round come to the same -/
theorem star_same {n : Nat} {p : List Bool → List Bool} (L : Lin n p) (v : List Bool) (hv : v.length = n) (plus : Bool) :
    clos p (n + 1) (if plus then p v else orF (p v) v) = cloR p (n + 1) v (if plus then List.replicate n false else v) := by
  have hz : sub (List.replicate n false) v := fun i hi => by simp [List.getD_eq_getElem?_getD, List.getElem?_replicate] at hi; split at hi <;> simp at hi
  have hz' : ∀ S, sub (List.replicate n false) S := fun S i hi => by simp [List.getD_eq_getElem?_getD, List.getElem?_replicate] at hi; split at hi <;> simp at hi
  have hpv := L.len v hv
  cases plus with
  | true =>
    simp only [if_true]
    obtain ⟨a1, a2, a3, a4⟩ := clos_spec L (n + 1) (p v) hpv (by omega)
    obtain ⟨b1, b2, b3, b4, b5⟩ := cloR_spec L (n + 1) v (List.replicate n false) hv (by simp) (by omega) (sub_trans (L.mono _ _ (by simp) hv hz) (sub_or_right (by simp [hpv])))
    exact sub_antisymm (by omega) (a4 _ b1 b3 b4) (b5 _ a1 (hz' _) a2 a3)
  | false =>
    simp only [Bool.false_eq_true, if_false]
    obtain ⟨a1, a2, a3, a4⟩ := clos_spec L (n + 1) (orF (p v) v) (by rw [orF_length (by omega)]; exact hpv) (by omega)
    obtain ⟨b1, b2, b3, b4, b5⟩ := cloR_spec L (n + 1) v v hv hv (by omega) (sub_or_right (by omega))
    exact sub_antisymm (by omega) (a4 _ b1 (or_sub (by omega) b3 b2) b4) (b5 _ a1 (sub_trans (sub_or_right (by omega)) a2) (sub_trans (sub_or_left (by omega)) a2) a3)
end Rx
end Go.Proofs.YtmbfpichaaanpaaGreatDoor
