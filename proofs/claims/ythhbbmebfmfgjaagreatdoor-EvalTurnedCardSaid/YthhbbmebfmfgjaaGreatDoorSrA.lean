import Derived.Sort.LotA
/-! The plain law of Go's stable sort: exchanges of ranges, rotations, the merge in place, the blocks. No program in sight. -/
namespace Go.Proofs.YthhbbmebfmfgjaaGreatDoor
open Go.Sort
namespace Stb
variable {α : Type} [Inhabited α]

/-- places a, a+1, .. and b, b+1, .. exchanged, n of them -/
def sw (a b n : Nat) (f : Nat → α) (t : Nat) : α := if a ≤ t ∧ t < a + n then f (t - a + b) else if b ≤ t ∧ t < b + n then f (t - b + a) else f t
/-- [a, m) and [m, b) in the other order -/
def ro (a m b : Nat) (f : Nat → α) (t : Nat) : α := if a ≤ t ∧ t < a + (b - m) then f (t + (m - a)) else if a + (b - m) ≤ t ∧ t < b then f (t - (b - m)) else f t

omit [Inhabited α] in
theorem sw_zero (a b : Nat) (f : Nat → α) : sw a b 0 f = f := by
  funext t; unfold sw; rw [if_neg (by omega), if_neg (by omega)]

omit [Inhabited α] in
theorem sw_succ (a b n : Nat) (f : Nat → α) (g : Nat → α) (h : a + n < b) (hg : ∀ t, g t = if t = a + n then sw a b n f (b + n) else if t = b + n then sw a b n f (a + n) else sw a b n f t) : g = sw a b (n + 1) f := by
  funext t
  rw [hg]
  unfold sw
  by_cases h1 : t = a + n
  · subst h1
    rw [if_pos rfl, if_neg (by omega), if_neg (by omega), if_pos (by omega)]
    congr 1; omega
  · rw [if_neg h1]
    by_cases h2 : t = b + n
    · subst h2
      rw [if_pos rfl, if_neg (by omega), if_neg (by omega), if_neg (by omega), if_pos (by omega)]
      congr 1; omega
    · rw [if_neg h2]
      by_cases h3 : a ≤ t ∧ t < a + n
      · rw [if_pos h3, if_pos (by omega)]
      · rw [if_neg h3]
        by_cases h4 : b ≤ t ∧ t < b + n
        · rw [if_pos h4, if_neg (by omega), if_pos (by omega)]
        · rw [if_neg h4, if_neg (by omega), if_neg (by omega)]

omit [Inhabited α] in
theorem ro_more (m i j : Nat) (f : Nat → α) (hi : i ≤ m) (h : j < i) : ro (m - (i - j)) m (m + j) (sw (m - i) m j f) = ro (m - i) m (m + j) f := by
  funext t
  unfold ro sw
  repeat' split
  all_goals first | (exfalso; omega) | (congr 1; omega) | rfl

omit [Inhabited α] in
theorem ro_less (m i j : Nat) (f : Nat → α) (hi : i ≤ m) (h : i < j) : ro (m - i) m (m + (j - i)) (sw (m - i) (m + j - i) i f) = ro (m - i) m (m + j) f := by
  funext t
  unfold ro sw
  repeat' split
  all_goals first | (exfalso; omega) | (congr 1; omega) | rfl

omit [Inhabited α] in
theorem ro_same (m i : Nat) (f : Nat → α) (hi : i ≤ m) : sw (m - i) m i f = ro (m - i) m (m + i) f := by
  funext t
  unfold ro sw
  repeat' split
  all_goals first | (exfalso; omega) | (congr 1; omega) | rfl

/-- a swap, read at any place -/
theorem swp_at (d : Array α) (i j t : Nat) (hi : i < d.size) (hj : j < d.size) : (swp d i j)[t]! = if t = j then d[i]! else if t = i then d[j]! else d[t]! := by
  by_cases h1 : t = j
  · subst h1; rw [if_pos rfl]; exact swp_right d i t hj
  · rw [if_neg h1]
    by_cases h2 : t = i
    · subst h2; rw [if_pos rfl]; exact swp_left d t j hi h1
    · rw [if_neg h2]; exact swp_other d i j t h2 h1

/-- what is known of an array whose elements were moved within [a, b) -/
structure Mv (a b : Nat) (d d' : Array α) (f : Nat → α) : Prop where
  perm : PermIn a b d d'
  val : ∀ t, d'[t]! = f t

theorem Mv.start (a b : Nat) (d : Array α) : Mv a b d d (fun t => d[t]!) := ⟨permIn_refl _ _ _, fun _ => rfl⟩

theorem Mv.step {a b : Nat} {d d' : Array α} {f : Nat → α} (h : Mv a b d d' f) (i j : Nat) (hi : a ≤ i) (hi2 : i < b) (hj : a ≤ j) (hj2 : j < b) (hb : b ≤ d.size) : Mv a b d (swp d' i j) (fun t => if t = j then f i else if t = i then f j else f t) := by
  have hs := h.perm.1
  refine ⟨permIn_trans _ _ _ _ _ h.perm (swp_permIn _ _ _ _ _ hi hi2 hj hj2 (by omega)), fun t => ?_⟩
  rw [swp_at _ _ _ _ (by omega) (by omega), h.val, h.val, h.val]

theorem Mv.congr {a b : Nat} {d d' : Array α} {f g : Nat → α} (h : Mv a b d d' f) (e : f = g) : Mv a b d d' g := e ▸ h

theorem Mv.size {a b : Nat} {d d' : Array α} {f : Nat → α} (h : Mv a b d d' f) : d'.size = d.size := h.perm.1

theorem Mv.trans {a b : Nat} {d d' d'' : Array α} {f g : Nat → α} (h : Mv a b d d' f) (k : Mv a b d' d'' g) : Mv a b d d'' g := ⟨permIn_trans _ _ _ _ _ h.perm k.perm, k.val⟩

theorem Mv.mono {a b a' b' : Nat} {d d' : Array α} {f : Nat → α} (h : Mv a b d d' f) (ha : a' ≤ a) (hb : b ≤ b') (hb' : b' ≤ d.size) : Mv a' b' d d' f := ⟨permIn_mono _ _ _ _ _ _ ha hb hb' h.perm, h.val⟩

/-! ### the merge in place -/
variable {lt : α → α → Bool}

/-- x is not behind y -/
def le (lt : α → α → Bool) (x y : α) : Prop := lt y x = false

omit [Inhabited α] in
theorem le_trans (h : SWO lt) {x y z : α} (a : le lt x y) (b : le lt y z) : le lt x z := h.ntrans _ _ _ b a
omit [Inhabited α] in
theorem le_of_lt (h : SWO lt) {x y : α} (a : lt x y = true) : le lt x y := by
  unfold le
  cases e : lt y x with
  | false => rfl
  | true => have := h.trans _ _ _ a e; rw [h.irrefl] at this; cases this
omit [Inhabited α] in
theorem le_refl (h : SWO lt) (x : α) : le lt x x := h.irrefl x

theorem SortedIn.le' (h : SWO lt) {a b : Nat} {d : Array α} (s : SortedIn lt a b d) {i j : Nat} (hi : a ≤ i) (hij : i ≤ j) (hj : j < b) : le lt d[i]! d[j]! := by
  by_cases e : i = j
  · subst e; exact le_refl h _
  · exact s i j hi (by omega) hj

/-- everything of [a, c) is not behind everything of [c, b) -/
def Apart (lt : α → α → Bool) (a c b : Nat) (d : Array α) : Prop := ∀ i j, a ≤ i → i < c → c ≤ j → j < b → le lt d[i]! d[j]!

theorem sorted_join {a c b : Nat} {d : Array α} (h1 : SortedIn lt a c d) (h2 : SortedIn lt c b d) (h : Apart lt a c b d) : SortedIn lt a b d := by
  intro i j hi hij hj
  by_cases h3 : j < c
  · exact h1 i j hi hij h3
  · by_cases h4 : i < c
    · exact h i j hi h4 (by omega) hj
    · exact h2 i j (by omega) hij hj

theorem Apart.left {a c b : Nat} {d d' : Array α} (h : Apart lt a c b d) (hc : c ≤ d.size) (p : PermIn a c d d') : Apart lt a c b d' := by
  intro i j hi hi2 hj hj2
  rw [p.2.1 j (Or.inr hj)]
  exact permIn_all d d' a c (fun x => le lt x d[j]!) hc p (fun k hk hk2 => h k j hk hk2 hj hj2) i hi hi2

theorem Apart.right {a c b : Nat} {d d' : Array α} (h : Apart lt a c b d) (hb : b ≤ d.size) (p : PermIn c b d d') : Apart lt a c b d' := by
  intro i j hi hi2 hj hj2
  rw [p.2.1 i (Or.inl hi2)]
  exact permIn_all d d' c b (fun x => le lt d[i]! x) hb p (fun k hk hk2 => h i k hi hi2 hk hk2) j hj hj2

theorem sorted_keep {a b c e : Nat} {d d' : Array α} (h : SortedIn lt a b d) (p : PermIn c e d d') (h2 : b ≤ c ∨ e ≤ a) : SortedIn lt a b d' := by
  intro i j hi hij hj
  rw [p.2.1 i (by omega), p.2.1 j (by omega)]
  exact h i j hi hij hj

/-- where the search of the merge stands: everything before `s` goes left, from `r` on right -/
structure Cut (lt : α → α → Bool) (d : Array α) (s0 r0 p s r : Nat) : Prop where
  lo : s0 ≤ s
  mid : s ≤ r
  hi : r ≤ r0
  yes : ∀ c, s0 ≤ c → c < s → le lt d[c]! d[p - c]!
  no : ∀ c, r ≤ c → c < r0 → lt d[p - c]! d[c]! = true

/-- the middle of the merge: its two halves, apart, each of two sorted parts -/
structure Halves (lt : α → α → Bool) (a s q e b : Nat) (d : Array α) : Prop where
  l1 : SortedIn lt a s d
  l2 : SortedIn lt s q d
  r1 : SortedIn lt q e d
  r2 : SortedIn lt e b d
  ap : Apart lt a q b d

theorem halves (h : SWO lt) {a m b : Nat} {d d' : Array α} (ham : a < m) (hmb : m < b) (hA : SortedIn lt a m d) (hB : SortedIn lt m b d) (q s0 r0 s : Nat) (hq : q = (a + b) / 2)
    (h0 : (q < m ∧ s0 = q + m - b ∧ r0 = q) ∨ (m ≤ q ∧ s0 = a ∧ r0 = m)) (c : Cut lt d s0 r0 (q + m - 1) s s) (hv : ∀ t, d'[t]! = ro s m (q + m - s) (fun t => d[t]!) t) : Halves lt a s q (q + m - s) b d' ∧ a ≤ s ∧ s ≤ m ∧ s ≤ q ∧ m ≤ q + m - s ∧ q ≤ q + m - s ∧ q + m - s ≤ b := by
  obtain ⟨c1, c2, c3, c4, c5⟩ := c
  have hb1 : a ≤ s ∧ s ≤ m ∧ s ≤ q ∧ m ≤ q + m - s ∧ q ≤ q + m - s ∧ q + m - s ≤ b := by omega
  obtain ⟨g1, g2, g3, g4, g5, g6⟩ := hb1
  obtain ⟨e, he⟩ : ∃ e, e = q + m - s := ⟨_, rfl⟩
  rw [← he] at hv g4 g5 g6 ⊢
  -- the cut's two sides
  have k1 : ∀ i j, a ≤ i → i < s → e ≤ j → j < b → le lt d[i]! d[j]! := by
    intro i j hi hi2 hj hj2
    by_cases hs : s0 < s
    · have y := c4 (s - 1) (by omega) (by omega)
      rw [show q + m - 1 - (s - 1) = e by omega] at y
      exact le_trans h (SortedIn.le' h hA hi (show i ≤ s - 1 by omega) (by omega)) (le_trans h y (SortedIn.le' h hB (by omega) hj hj2))
    · rcases h0 with ⟨u1, u2, u3⟩ | ⟨u1, u2, u3⟩ <;> omega
  have k2 : ∀ i j, m ≤ i → i < e → s ≤ j → j < m → le lt d[i]! d[j]! := by
    intro i j hi hi2 hj hj2
    by_cases hs : s < r0
    · have y := le_of_lt h (c5 s (Nat.le_refl _) hs)
      rw [show q + m - 1 - s = e - 1 by omega] at y
      exact le_trans h (SortedIn.le' h hB hi (show i ≤ e - 1 by omega) (by omega)) (le_trans h y (SortedIn.le' h hA (by omega) hj hj2))
    · rcases h0 with ⟨u1, u2, u3⟩ | ⟨u1, u2, u3⟩ <;> omega
  have v1 : ∀ t, t < s → d'[t]! = d[t]! := fun t ht => by rw [hv]; unfold ro; rw [if_neg (by omega), if_neg (by omega)]
  have v2 : ∀ t, s ≤ t → t < q → d'[t]! = d[t + (m - s)]! := fun t ht ht2 => by rw [hv]; unfold ro; rw [if_pos (by omega)]
  have v3 : ∀ t, q ≤ t → t < e → d'[t]! = d[t - (e - m)]! := fun t ht ht2 => by rw [hv]; unfold ro; rw [if_neg (by omega), if_pos (by omega)]
  have v4 : ∀ t, e ≤ t → d'[t]! = d[t]! := fun t ht => by rw [hv]; unfold ro; rw [if_neg (by omega), if_neg (by omega)]
  refine ⟨⟨?_, ?_, ?_, ?_, ?_⟩, by omega⟩
  · intro i j hi hij hj; rw [v1 i (by omega), v1 j hj]; exact hA i j hi hij (by omega)
  · intro i j hi hij hj; rw [v2 i (by omega) (by omega), v2 j (by omega) hj]; exact hB _ _ (by omega) (by omega) (by omega)
  · intro i j hi hij hj; rw [v3 i (by omega) (by omega), v3 j (by omega) hj]; exact hA _ _ (by omega) (by omega) (by omega)
  · intro i j hi hij hj; rw [v4 i (by omega), v4 j (by omega)]; exact hB _ _ (by omega) (by omega) (by omega)
  · intro i j hi hi2 hj hj2
    by_cases w1 : i < s
    · rw [v1 i w1]
      by_cases w2 : j < e
      · rw [v3 j hj w2]; exact SortedIn.le' h hA hi (by omega) (by omega)
      · rw [v4 j (by omega)]; exact k1 i j hi w1 (by omega) hj2
    · rw [v2 i (by omega) hi2]
      by_cases w2 : j < e
      · rw [v3 j hj w2]; exact k2 _ _ (by omega) (by omega) (by omega) (by omega)
      · rw [v4 j (by omega)]; exact SortedIn.le' h hB (by omega) (by omega) hj2

/-- the halves, each put in order, are in order -/
theorem halves_done {a s q e b : Nat} {d d1 d2 : Array α} (H : Halves lt a s q e b d) (hq : a ≤ q) (hqb : q ≤ b) (hb : b ≤ d.size)
    (p1 : PermIn a q d d1) (s1 : SortedIn lt a q d1) (p2 : PermIn q b d1 d2) (s2 : SortedIn lt q b d2) : PermIn a b d d2 ∧ SortedIn lt a b d2 := by
  refine ⟨permIn_trans _ _ _ _ _ (permIn_mono _ _ _ _ _ _ (Nat.le_refl _) hqb hb p1) (permIn_mono _ _ _ _ _ _ hq (Nat.le_refl _) (by rw [p1.1]; exact hb) p2), ?_⟩
  exact sorted_join (sorted_keep s1 p2 (Or.inl (Nat.le_refl _))) s2 ((H.ap.left (by omega) p1).right (by rw [p1.1]; exact hb) p2)

theorem sorted_trivial {a b : Nat} {d : Array α} (h : b ≤ a + 1) : SortedIn lt a b d := fun i j hi hij hj => by omega

/-! ### one element put into its place -/
/-- data[a] to the right, up to the place before i -/
def upTo (a i : Nat) (f : Nat → α) (t : Nat) : α := if a ≤ t ∧ t + 1 < i then f (t + 1) else if t + 1 = i ∧ a ≤ t then f a else f t

omit [Inhabited α] in
theorem upTo_start (a : Nat) (f : Nat → α) : (fun t => f t) = upTo a (a + 1) f := by
  funext t; unfold upTo; rw [if_neg (by omega)]
  by_cases h : t + 1 = a + 1 ∧ a ≤ t
  · rw [if_pos h, show t = a by omega]
  · rw [if_neg h]

omit [Inhabited α] in
theorem upTo_step (a k : Nat) (f : Nat → α) (h : a ≤ k) : (fun t => if t = k + 1 then upTo a (k + 1) f k else if t = k then upTo a (k + 1) f (k + 1) else upTo a (k + 1) f t) = upTo a (k + 2) f := by
  funext t
  unfold upTo
  repeat' split
  all_goals first | (exfalso; omega) | (congr 1; omega) | rfl

theorem up_sorted (h : SWO lt) {a b i : Nat} {d d' : Array α} (hi : a + 1 ≤ i) (hib : i ≤ b) (hB : SortedIn lt (a + 1) b d) (hy : ∀ t, a + 1 ≤ t → t < i → lt d[t]! d[a]! = true) (hn : ∀ t, i ≤ t → t < b → lt d[t]! d[a]! = false) (hv : ∀ t, d'[t]! = upTo a i (fun t => d[t]!) t) : SortedIn lt a b d' := by
  have v1 : ∀ t, a ≤ t → t + 1 < i → d'[t]! = d[t + 1]! := fun t h1 h2 => by rw [hv]; unfold upTo; rw [if_pos ⟨h1, h2⟩]
  have v2 : d'[i - 1]! = d[a]! := by rw [hv]; unfold upTo; rw [if_neg (by omega), if_pos (by omega)]
  have v3 : ∀ t, i ≤ t → d'[t]! = d[t]! := fun t h1 => by rw [hv]; unfold upTo; rw [if_neg (by omega), if_neg (by omega)]
  intro x y hx hxy hy2
  by_cases w1 : x + 1 < i
  · rw [v1 x hx w1]
    by_cases w2 : y + 1 < i
    · rw [v1 y (by omega) w2]; exact hB _ _ (by omega) (by omega) (by omega)
    · by_cases w3 : y + 1 = i
      · rw [show y = i - 1 by omega, v2]; exact le_of_lt h (hy _ (by omega) w1)
      · rw [v3 y (by omega)]; exact hB _ _ (by omega) (by omega) (by omega)
  · by_cases w4 : x + 1 = i
    · rw [show x = i - 1 by omega, v2, v3 y (by omega)]; exact hn y (by omega) hy2
    · rw [v3 x (by omega), v3 y (by omega)]; exact hB _ _ (by omega) (by omega) (by omega)

/-- data[m] to the left, down to place i -/
def dnTo (m i : Nat) (f : Nat → α) (t : Nat) : α := if t = i ∧ i ≤ m then f m else if i < t ∧ t ≤ m then f (t - 1) else f t

omit [Inhabited α] in
theorem dnTo_start (m : Nat) (f : Nat → α) : (fun t => f t) = dnTo m m f := by
  funext t; unfold dnTo
  by_cases h : t = m ∧ m ≤ m
  · rw [if_pos h, h.1]
  · rw [if_neg h, if_neg (by omega)]

omit [Inhabited α] in
theorem dnTo_step (m k : Nat) (f : Nat → α) (h : k + 1 ≤ m) : (fun t => if t = k then dnTo m (k + 1) f (k + 1) else if t = k + 1 then dnTo m (k + 1) f k else dnTo m (k + 1) f t) = dnTo m k f := by
  funext t
  unfold dnTo
  repeat' split
  all_goals first | (exfalso; omega) | (congr 1; omega) | rfl

theorem dn_sorted (h : SWO lt) {a m i : Nat} {d d' : Array α} (hi : a ≤ i) (him : i ≤ m) (hA : SortedIn lt a m d) (hy : ∀ t, a ≤ t → t < i → lt d[m]! d[t]! = false) (hn : ∀ t, i ≤ t → t < m → lt d[m]! d[t]! = true) (hv : ∀ t, d'[t]! = dnTo m i (fun t => d[t]!) t) : SortedIn lt a (m + 1) d' := by
  have v1 : ∀ t, t < i → d'[t]! = d[t]! := fun t h1 => by rw [hv]; unfold dnTo; rw [if_neg (by omega), if_neg (by omega)]
  have v2 : d'[i]! = d[m]! := by rw [hv]; unfold dnTo; rw [if_pos ⟨rfl, him⟩]
  have v3 : ∀ t, i < t → t ≤ m → d'[t]! = d[t - 1]! := fun t h1 h2 => by rw [hv]; unfold dnTo; rw [if_neg (by omega), if_pos ⟨h1, h2⟩]
  intro x y hx hxy hy2
  by_cases w1 : x < i
  · rw [v1 x w1]
    by_cases w2 : y < i
    · rw [v1 y w2]; exact hA _ _ hx hxy (by omega)
    · by_cases w3 : y = i
      · rw [w3, v2]; exact hy x hx w1
      · rw [v3 y (by omega) (by omega)]; exact hA _ _ hx (by omega) (by omega)
  · by_cases w4 : x = i
    · rw [w4, v2, v3 y (by omega) (by omega)]; exact le_of_lt h (hn _ (by omega) (by omega))
    · rw [v3 x (by omega) (by omega), v3 y (by omega) (by omega)]; exact hA _ _ (by omega) (by omega) (by omega)

/-- a sorted part: once it says no it says no -/
theorem up_mono (h : SWO lt) {m b c : Nat} {d : Array α} {x : α} (hB : SortedIn lt m b d) (_hm : m ≤ c) (hc : c < b) (hy : lt d[c]! x = true) : ∀ t, m ≤ t → t ≤ c → lt d[t]! x = true := by
  intro t h1 h2
  have k := SortedIn.le' h hB h1 h2 hc
  cases e : lt d[t]! x with
  | true => rfl
  | false => have := h.ntrans _ _ _ k e; rw [hy] at this; cases this

theorem up_mono_no (h : SWO lt) {m b c : Nat} {d : Array α} {x : α} (hB : SortedIn lt m b d) (hm : m ≤ c) (hn : lt d[c]! x = false) : ∀ t, c ≤ t → t < b → lt d[t]! x = false := by
  intro t h1 h2
  have k := SortedIn.le' h hB hm h1 h2
  exact h.ntrans _ _ _ k hn

theorem dn_mono (h : SWO lt) {a m c : Nat} {d : Array α} {x : α} (hA : SortedIn lt a m d) (hc : c < m) (hy : lt x d[c]! = false) : ∀ t, a ≤ t → t ≤ c → lt x d[t]! = false := by
  intro t h1 h2
  have k := SortedIn.le' h hA h1 h2 hc
  exact h.ntrans _ _ _ hy k

theorem dn_mono_no (h : SWO lt) {a m c : Nat} {d : Array α} {x : α} (hA : SortedIn lt a m d) (hac : a ≤ c) (hn : lt x d[c]! = true) : ∀ t, c ≤ t → t < m → lt x d[t]! = true := by
  intro t h1 h2
  have k := SortedIn.le' h hA hac h1 h2
  cases e : lt x d[t]! with
  | true => rfl
  | false => have := h.ntrans _ _ _ e k; rw [hn] at this; cases this

theorem Cut.start {d : Array α} {s0 r0 p : Nat} (h : s0 ≤ r0) : Cut lt d s0 r0 p s0 r0 := ⟨Nat.le_refl _, h, Nat.le_refl _, fun _ _ _ => by omega, fun _ _ _ => by omega⟩

theorem Cut.yes' (h : SWO lt) {a m b : Nat} {d : Array α} (hA : SortedIn lt a m d) (hB : SortedIn lt m b d) {s0 r0 p s r c : Nat} (k : Cut lt d s0 r0 p s r) (hs : s ≤ c) (hc : c < r) (ha : a ≤ s0) (hr : r0 ≤ m) (hp : m + r0 ≤ p + 1) (hp2 : p < b + s0) (hy : lt d[p - c]! d[c]! = false) : Cut lt d s0 r0 p (c + 1) r := by
  have k1 := k.lo; have k2 := k.mid; have k3 := k.hi
  refine ⟨by omega, by omega, k3, fun x hx hx2 => ?_, k.no⟩
  have y1 := SortedIn.le' h hA (show a ≤ x by omega) (show x ≤ c by omega) (by omega)
  have y2 := SortedIn.le' h hB (show m ≤ p - c by omega) (show p - c ≤ p - x by omega) (by omega)
  exact le_trans h y1 (le_trans h hy y2)

theorem Cut.no' (h : SWO lt) {a m b : Nat} {d : Array α} (hA : SortedIn lt a m d) (hB : SortedIn lt m b d) {s0 r0 p s r c : Nat} (k : Cut lt d s0 r0 p s r) (hs : s ≤ c) (hc : c < r) (ha : a ≤ s0) (hr : r0 ≤ m) (hp : m + r0 ≤ p + 1) (hp2 : p < b + s0) (hn : lt d[p - c]! d[c]! = true) : Cut lt d s0 r0 p s c := by
  have k1 := k.lo; have k2 := k.mid; have k3 := k.hi
  refine ⟨k1, hs, by omega, k.yes, fun x hx hx2 => ?_⟩
  have y1 := SortedIn.le' h hA (show a ≤ c by omega) hx (by omega)
  have y2 := SortedIn.le' h hB (show m ≤ p - x by omega) (show p - x ≤ p - c by omega) (by omega)
  cases e : lt d[p - x]! d[x]! with
  | true => rfl
  | false =>
    have z1 : le lt d[c]! d[p - c]! := le_trans h y1 (le_trans h e y2)
    rw [show lt d[p - c]! d[c]! = false from z1] at hn
    cases hn

/-! ### the blocks -/
/-- every block of k elements is in order, up to n; before `a` all blocks of 2k -/
def Blocks (lt : α → α → Bool) (k n : Nat) (d : Array α) : Prop := ∀ q, SortedIn lt (q * k) (min (q * k + k) n) d

theorem blocks_all {k n : Nat} {d : Array α} (h : Blocks lt k n d) (hk : n ≤ k) : SortedIn lt 0 n d := by
  have := h 0
  rw [Nat.zero_mul, Nat.zero_add, show min k n = n by omega] at this
  exact this

end Stb
end Go.Proofs.YthhbbmebfmfgjaaGreatDoor
