import Derived.Sort.LotA
import Derived.Shelf.SlSortCmp.KitK
import Derived.Deep.QuietTactic
import Derived.Test.YthhbbmebfmfgjaaGreatDoorRows
import Derived.WalkSpells
import Derived.WalkLawsBesides
import Derived.Outline
import Derived.BigRegion
import Derived.BigQuiet
import Derived.Deep.LoopGhost
import Derived.Lib.Hide
/-! The plain law of Go's stable sort: exchanges of ranges, rotations, the merge in place, the blocks. No program in sight. -/
namespace Go.Proofs.YthhbbmebfmfgjaaGreatDoor
open Go.Sort
namespace Stb
variable {α : Type} [Inhabited α]

/-- places a, a+1, .. and b, b+1, .. exchanged, n of them -/
def sw (a b n : Nat) (f : Nat → α) (t : Nat) : α := if a ≤ t ∧ t < a + n then f (t - a + b) else if b ≤ t ∧ t < b + n then f (t - b + a) else f t
/-- [a, m) and [m, b) in the other order -/
def ro (a m b : Nat) (f : Nat → α) (t : Nat) : α := if a ≤ t ∧ t < a + (b - m) then f (t + (m - a)) else if a + (b - m) ≤ t ∧ t < b then f (t - (b - m)) else f t

omit [Inhabited α] in
theorem sw_zero (a b : Nat) (f : Nat → α) : sw a b 0 f = f := by
  funext t; unfold sw; rw [if_neg (by omega), if_neg (by omega)]

omit [Inhabited α] in
theorem sw_succ (a b n : Nat) (f : Nat → α) (g : Nat → α) (h : a + n < b) (hg : ∀ t, g t = if t = a + n then sw a b n f (b + n) else if t = b + n then sw a b n f (a + n) else sw a b n f t) : g = sw a b (n + 1) f := by
  funext t
  rw [hg]
  unfold sw
  by_cases h1 : t = a + n
  · subst h1
    rw [if_pos rfl, if_neg (by omega), if_neg (by omega), if_pos (by omega)]
    congr 1; omega
  · rw [if_neg h1]
    by_cases h2 : t = b + n
    · subst h2
      rw [if_pos rfl, if_neg (by omega), if_neg (by omega), if_neg (by omega), if_pos (by omega)]
      congr 1; omega
    · rw [if_neg h2]
      by_cases h3 : a ≤ t ∧ t < a + n
      · rw [if_pos h3, if_pos (by omega)]
      · rw [if_neg h3]
        by_cases h4 : b ≤ t ∧ t < b + n
        · rw [if_pos h4, if_neg (by omega), if_pos (by omega)]
        · rw [if_neg h4, if_neg (by omega), if_neg (by omega)]

omit [Inhabited α] in
theorem ro_more (m i j : Nat) (f : Nat → α) (hi : i ≤ m) (h : j < i) : ro (m - (i - j)) m (m + j) (sw (m - i) m j f) = ro (m - i) m (m + j) f := by
  funext t
  unfold ro sw
  repeat' split
  all_goals first | (exfalso; omega) | (congr 1; omega) | rfl

omit [Inhabited α] in
theorem ro_less (m i j : Nat) (f : Nat → α) (hi : i ≤ m) (h : i < j) : ro (m - i) m (m + (j - i)) (sw (m - i) (m + j - i) i f) = ro (m - i) m (m + j) f := by
  funext t
  unfold ro sw
  repeat' split
  all_goals first | (exfalso; omega) | (congr 1; omega) | rfl

omit [Inhabited α] in
theorem ro_same (m i : Nat) (f : Nat → α) (hi : i ≤ m) : sw (m - i) m i f = ro (m - i) m (m + i) f := by
  funext t
  unfold ro sw
  repeat' split
  all_goals first | (exfalso; omega) | (congr 1; omega) | rfl

/-- a swap, read at any place -/
theorem swp_at (d : Array α) (i j t : Nat) (hi : i < d.size) (hj : j < d.size) : (swp d i j)[t]! = if t = j then d[i]! else if t = i then d[j]! else d[t]! := by
  by_cases h1 : t = j
  · subst h1; rw [if_pos rfl]; exact swp_right d i t hj
  · rw [if_neg h1]
    by_cases h2 : t = i
    · subst h2; rw [if_pos rfl]; exact swp_left d t j hi h1
    · rw [if_neg h2]; exact swp_other d i j t h2 h1

/-- what is known of an array whose elements were moved within [a, b) -/
structure Mv (a b : Nat) (d d' : Array α) (f : Nat → α) : Prop where
  perm : PermIn a b d d'
  val : ∀ t, d'[t]! = f t

theorem Mv.start (a b : Nat) (d : Array α) : Mv a b d d (fun t => d[t]!) := ⟨permIn_refl _ _ _, fun _ => rfl⟩

theorem Mv.step {a b : Nat} {d d' : Array α} {f : Nat → α} (h : Mv a b d d' f) (i j : Nat) (hi : a ≤ i) (hi2 : i < b) (hj : a ≤ j) (hj2 : j < b) (hb : b ≤ d.size) : Mv a b d (swp d' i j) (fun t => if t = j then f i else if t = i then f j else f t) := by
  have hs := h.perm.1
  refine ⟨permIn_trans _ _ _ _ _ h.perm (swp_permIn _ _ _ _ _ hi hi2 hj hj2 (by omega)), fun t => ?_⟩
  rw [swp_at _ _ _ _ (by omega) (by omega), h.val, h.val, h.val]

theorem Mv.congr {a b : Nat} {d d' : Array α} {f g : Nat → α} (h : Mv a b d d' f) (e : f = g) : Mv a b d d' g := e ▸ h

theorem Mv.size {a b : Nat} {d d' : Array α} {f : Nat → α} (h : Mv a b d d' f) : d'.size = d.size := h.perm.1

theorem Mv.trans {a b : Nat} {d d' d'' : Array α} {f g : Nat → α} (h : Mv a b d d' f) (k : Mv a b d' d'' g) : Mv a b d d'' g := ⟨permIn_trans _ _ _ _ _ h.perm k.perm, k.val⟩

theorem Mv.mono {a b a' b' : Nat} {d d' : Array α} {f : Nat → α} (h : Mv a b d d' f) (ha : a' ≤ a) (hb : b ≤ b') (hb' : b' ≤ d.size) : Mv a' b' d d' f := ⟨permIn_mono _ _ _ _ _ _ ha hb hb' h.perm, h.val⟩

/-! ### the merge in place -/
variable {lt : α → α → Bool}

/-- x is not behind y -/
def le (lt : α → α → Bool) (x y : α) : Prop := lt y x = false

omit [Inhabited α] in
theorem le_trans (h : SWO lt) {x y z : α} (a : le lt x y) (b : le lt y z) : le lt x z := h.ntrans _ _ _ b a
omit [Inhabited α] in
theorem le_of_lt (h : SWO lt) {x y : α} (a : lt x y = true) : le lt x y := by
  unfold le
  cases e : lt y x with
  | false => rfl
  | true => have := h.trans _ _ _ a e; rw [h.irrefl] at this; cases this
omit [Inhabited α] in
theorem le_refl (h : SWO lt) (x : α) : le lt x x := h.irrefl x

theorem SortedIn.le' (h : SWO lt) {a b : Nat} {d : Array α} (s : SortedIn lt a b d) {i j : Nat} (hi : a ≤ i) (hij : i ≤ j) (hj : j < b) : le lt d[i]! d[j]! := by
  by_cases e : i = j
  · subst e; exact le_refl h _
  · exact s i j hi (by omega) hj

/-- everything of [a, c) is not behind everything of [c, b) -/
def Apart (lt : α → α → Bool) (a c b : Nat) (d : Array α) : Prop := ∀ i j, a ≤ i → i < c → c ≤ j → j < b → le lt d[i]! d[j]!

theorem sorted_join {a c b : Nat} {d : Array α} (h1 : SortedIn lt a c d) (h2 : SortedIn lt c b d) (h : Apart lt a c b d) : SortedIn lt a b d := by
  intro i j hi hij hj
  by_cases h3 : j < c
  · exact h1 i j hi hij h3
  · by_cases h4 : i < c
    · exact h i j hi h4 (by omega) hj
    · exact h2 i j (by omega) hij hj

theorem Apart.left {a c b : Nat} {d d' : Array α} (h : Apart lt a c b d) (hc : c ≤ d.size) (p : PermIn a c d d') : Apart lt a c b d' := by
  intro i j hi hi2 hj hj2
  rw [p.2.1 j (Or.inr hj)]
  exact permIn_all d d' a c (fun x => le lt x d[j]!) hc p (fun k hk hk2 => h k j hk hk2 hj hj2) i hi hi2

theorem Apart.right {a c b : Nat} {d d' : Array α} (h : Apart lt a c b d) (hb : b ≤ d.size) (p : PermIn c b d d') : Apart lt a c b d' := by
  intro i j hi hi2 hj hj2
  rw [p.2.1 i (Or.inl hi2)]
  exact permIn_all d d' c b (fun x => le lt d[i]! x) hb p (fun k hk hk2 => h i k hi hi2 hk hk2) j hj hj2

theorem sorted_keep {a b c e : Nat} {d d' : Array α} (h : SortedIn lt a b d) (p : PermIn c e d d') (h2 : b ≤ c ∨ e ≤ a) : SortedIn lt a b d' := by
  intro i j hi hij hj
  rw [p.2.1 i (by omega), p.2.1 j (by omega)]
  exact h i j hi hij hj

/-- where the search of the merge stands: everything before `s` goes left, from `r` on right -/
structure Cut (lt : α → α → Bool) (d : Array α) (s0 r0 p s r : Nat) : Prop where
  lo : s0 ≤ s
  mid : s ≤ r
  hi : r ≤ r0
  yes : ∀ c, s0 ≤ c → c < s → le lt d[c]! d[p - c]!
  no : ∀ c, r ≤ c → c < r0 → lt d[p - c]! d[c]! = true

/-- the middle of the merge: its two halves, apart, each of two sorted parts -/
structure Halves (lt : α → α → Bool) (a s q e b : Nat) (d : Array α) : Prop where
  l1 : SortedIn lt a s d
  l2 : SortedIn lt s q d
  r1 : SortedIn lt q e d
  r2 : SortedIn lt e b d
  ap : Apart lt a q b d

theorem halves (h : SWO lt) {a m b : Nat} {d d' : Array α} (ham : a < m) (hmb : m < b) (hA : SortedIn lt a m d) (hB : SortedIn lt m b d) (q s0 r0 s : Nat) (hq : q = (a + b) / 2)
    (h0 : (q < m ∧ s0 = q + m - b ∧ r0 = q) ∨ (m ≤ q ∧ s0 = a ∧ r0 = m)) (c : Cut lt d s0 r0 (q + m - 1) s s) (hv : ∀ t, d'[t]! = ro s m (q + m - s) (fun t => d[t]!) t) : Halves lt a s q (q + m - s) b d' ∧ a ≤ s ∧ s ≤ m ∧ s ≤ q ∧ m ≤ q + m - s ∧ q ≤ q + m - s ∧ q + m - s ≤ b := by
  obtain ⟨c1, c2, c3, c4, c5⟩ := c
  have hb1 : a ≤ s ∧ s ≤ m ∧ s ≤ q ∧ m ≤ q + m - s ∧ q ≤ q + m - s ∧ q + m - s ≤ b := by omega
  obtain ⟨g1, g2, g3, g4, g5, g6⟩ := hb1
  obtain ⟨e, he⟩ : ∃ e, e = q + m - s := ⟨_, rfl⟩
  rw [← he] at hv g4 g5 g6 ⊢
  -- the cut's two sides
  have k1 : ∀ i j, a ≤ i → i < s → e ≤ j → j < b → le lt d[i]! d[j]! := by
    intro i j hi hi2 hj hj2
    by_cases hs : s0 < s
    · have y := c4 (s - 1) (by omega) (by omega)
      rw [show q + m - 1 - (s - 1) = e by omega] at y
      exact le_trans h (SortedIn.le' h hA hi (show i ≤ s - 1 by omega) (by omega)) (le_trans h y (SortedIn.le' h hB (by omega) hj hj2))
    · rcases h0 with ⟨u1, u2, u3⟩ | ⟨u1, u2, u3⟩ <;> omega
  have k2 : ∀ i j, m ≤ i → i < e → s ≤ j → j < m → le lt d[i]! d[j]! := by
    intro i j hi hi2 hj hj2
    by_cases hs : s < r0
    · have y := le_of_lt h (c5 s (Nat.le_refl _) hs)
      rw [show q + m - 1 - s = e - 1 by omega] at y
      exact le_trans h (SortedIn.le' h hB hi (show i ≤ e - 1 by omega) (by omega)) (le_trans h y (SortedIn.le' h hA (by omega) hj hj2))
    · rcases h0 with ⟨u1, u2, u3⟩ | ⟨u1, u2, u3⟩ <;> omega
  have v1 : ∀ t, t < s → d'[t]! = d[t]! := fun t ht => by rw [hv]; unfold ro; rw [if_neg (by omega), if_neg (by omega)]
  have v2 : ∀ t, s ≤ t → t < q → d'[t]! = d[t + (m - s)]! := fun t ht ht2 => by rw [hv]; unfold ro; rw [if_pos (by omega)]
  have v3 : ∀ t, q ≤ t → t < e → d'[t]! = d[t - (e - m)]! := fun t ht ht2 => by rw [hv]; unfold ro; rw [if_neg (by omega), if_pos (by omega)]
  have v4 : ∀ t, e ≤ t → d'[t]! = d[t]! := fun t ht => by rw [hv]; unfold ro; rw [if_neg (by omega), if_neg (by omega)]
  refine ⟨⟨?_, ?_, ?_, ?_, ?_⟩, by omega⟩
  · intro i j hi hij hj; rw [v1 i (by omega), v1 j hj]; exact hA i j hi hij (by omega)
  · intro i j hi hij hj; rw [v2 i (by omega) (by omega), v2 j (by omega) hj]; exact hB _ _ (by omega) (by omega) (by omega)
  · intro i j hi hij hj; rw [v3 i (by omega) (by omega), v3 j (by omega) hj]; exact hA _ _ (by omega) (by omega) (by omega)
  · intro i j hi hij hj; rw [v4 i (by omega), v4 j (by omega)]; exact hB _ _ (by omega) (by omega) (by omega)
  · intro i j hi hi2 hj hj2
    by_cases w1 : i < s
    · rw [v1 i w1]
      by_cases w2 : j < e
      · rw [v3 j hj w2]; exact SortedIn.le' h hA hi (by omega) (by omega)
      · rw [v4 j (by omega)]; exact k1 i j hi w1 (by omega) hj2
    · rw [v2 i (by omega) hi2]
      by_cases w2 : j < e
      · rw [v3 j hj w2]; exact k2 _ _ (by omega) (by omega) (by omega) (by omega)
      · rw [v4 j (by omega)]; exact SortedIn.le' h hB (by omega) (by omega) hj2

/-- the halves, each put in order, are in order -/
theorem halves_done {a s q e b : Nat} {d d1 d2 : Array α} (H : Halves lt a s q e b d) (hq : a ≤ q) (hqb : q ≤ b) (hb : b ≤ d.size)
    (p1 : PermIn a q d d1) (s1 : SortedIn lt a q d1) (p2 : PermIn q b d1 d2) (s2 : SortedIn lt q b d2) : PermIn a b d d2 ∧ SortedIn lt a b d2 := by
  refine ⟨permIn_trans _ _ _ _ _ (permIn_mono _ _ _ _ _ _ (Nat.le_refl _) hqb hb p1) (permIn_mono _ _ _ _ _ _ hq (Nat.le_refl _) (by rw [p1.1]; exact hb) p2), ?_⟩
  exact sorted_join (sorted_keep s1 p2 (Or.inl (Nat.le_refl _))) s2 ((H.ap.left (by omega) p1).right (by rw [p1.1]; exact hb) p2)

theorem sorted_trivial {a b : Nat} {d : Array α} (h : b ≤ a + 1) : SortedIn lt a b d := fun i j hi hij hj => by omega

/-! ### one element put into its place -/
/-- data[a] to the right, up to the place before i -/
def upTo (a i : Nat) (f : Nat → α) (t : Nat) : α := if a ≤ t ∧ t + 1 < i then f (t + 1) else if t + 1 = i ∧ a ≤ t then f a else f t

omit [Inhabited α] in
theorem upTo_start (a : Nat) (f : Nat → α) : (fun t => f t) = upTo a (a + 1) f := by
  funext t; unfold upTo; rw [if_neg (by omega)]
  by_cases h : t + 1 = a + 1 ∧ a ≤ t
  · rw [if_pos h, show t = a by omega]
  · rw [if_neg h]

omit [Inhabited α] in
theorem upTo_step (a k : Nat) (f : Nat → α) (h : a ≤ k) : (fun t => if t = k + 1 then upTo a (k + 1) f k else if t = k then upTo a (k + 1) f (k + 1) else upTo a (k + 1) f t) = upTo a (k + 2) f := by
  funext t
  unfold upTo
  repeat' split
  all_goals first | (exfalso; omega) | (congr 1; omega) | rfl

theorem up_sorted (h : SWO lt) {a b i : Nat} {d d' : Array α} (hi : a + 1 ≤ i) (hib : i ≤ b) (hB : SortedIn lt (a + 1) b d) (hy : ∀ t, a + 1 ≤ t → t < i → lt d[t]! d[a]! = true) (hn : ∀ t, i ≤ t → t < b → lt d[t]! d[a]! = false) (hv : ∀ t, d'[t]! = upTo a i (fun t => d[t]!) t) : SortedIn lt a b d' := by
  have v1 : ∀ t, a ≤ t → t + 1 < i → d'[t]! = d[t + 1]! := fun t h1 h2 => by rw [hv]; unfold upTo; rw [if_pos ⟨h1, h2⟩]
  have v2 : d'[i - 1]! = d[a]! := by rw [hv]; unfold upTo; rw [if_neg (by omega), if_pos (by omega)]
  have v3 : ∀ t, i ≤ t → d'[t]! = d[t]! := fun t h1 => by rw [hv]; unfold upTo; rw [if_neg (by omega), if_neg (by omega)]
  intro x y hx hxy hy2
  by_cases w1 : x + 1 < i
  · rw [v1 x hx w1]
    by_cases w2 : y + 1 < i
    · rw [v1 y (by omega) w2]; exact hB _ _ (by omega) (by omega) (by omega)
    · by_cases w3 : y + 1 = i
      · rw [show y = i - 1 by omega, v2]; exact le_of_lt h (hy _ (by omega) w1)
      · rw [v3 y (by omega)]; exact hB _ _ (by omega) (by omega) (by omega)
  · by_cases w4 : x + 1 = i
    · rw [show x = i - 1 by omega, v2, v3 y (by omega)]; exact hn y (by omega) hy2
    · rw [v3 x (by omega), v3 y (by omega)]; exact hB _ _ (by omega) (by omega) (by omega)

/-- data[m] to the left, down to place i -/
def dnTo (m i : Nat) (f : Nat → α) (t : Nat) : α := if t = i ∧ i ≤ m then f m else if i < t ∧ t ≤ m then f (t - 1) else f t

omit [Inhabited α] in
theorem dnTo_start (m : Nat) (f : Nat → α) : (fun t => f t) = dnTo m m f := by
  funext t; unfold dnTo
  by_cases h : t = m ∧ m ≤ m
  · rw [if_pos h, h.1]
  · rw [if_neg h, if_neg (by omega)]

omit [Inhabited α] in
theorem dnTo_step (m k : Nat) (f : Nat → α) (h : k + 1 ≤ m) : (fun t => if t = k then dnTo m (k + 1) f (k + 1) else if t = k + 1 then dnTo m (k + 1) f k else dnTo m (k + 1) f t) = dnTo m k f := by
  funext t
  unfold dnTo
  repeat' split
  all_goals first | (exfalso; omega) | (congr 1; omega) | rfl

theorem dn_sorted (h : SWO lt) {a m i : Nat} {d d' : Array α} (hi : a ≤ i) (him : i ≤ m) (hA : SortedIn lt a m d) (hy : ∀ t, a ≤ t → t < i → lt d[m]! d[t]! = false) (hn : ∀ t, i ≤ t → t < m → lt d[m]! d[t]! = true) (hv : ∀ t, d'[t]! = dnTo m i (fun t => d[t]!) t) : SortedIn lt a (m + 1) d' := by
  have v1 : ∀ t, t < i → d'[t]! = d[t]! := fun t h1 => by rw [hv]; unfold dnTo; rw [if_neg (by omega), if_neg (by omega)]
  have v2 : d'[i]! = d[m]! := by rw [hv]; unfold dnTo; rw [if_pos ⟨rfl, him⟩]
  have v3 : ∀ t, i < t → t ≤ m → d'[t]! = d[t - 1]! := fun t h1 h2 => by rw [hv]; unfold dnTo; rw [if_neg (by omega), if_pos ⟨h1, h2⟩]
  intro x y hx hxy hy2
  by_cases w1 : x < i
  · rw [v1 x w1]
    by_cases w2 : y < i
    · rw [v1 y w2]; exact hA _ _ hx hxy (by omega)
    · by_cases w3 : y = i
      · rw [w3, v2]; exact hy x hx w1
      · rw [v3 y (by omega) (by omega)]; exact hA _ _ hx (by omega) (by omega)
  · by_cases w4 : x = i
    · rw [w4, v2, v3 y (by omega) (by omega)]; exact le_of_lt h (hn _ (by omega) (by omega))
    · rw [v3 x (by omega) (by omega), v3 y (by omega) (by omega)]; exact hA _ _ (by omega) (by omega) (by omega)

/-- a sorted part: once it says no it says no -/
theorem up_mono (h : SWO lt) {m b c : Nat} {d : Array α} {x : α} (hB : SortedIn lt m b d) (_hm : m ≤ c) (hc : c < b) (hy : lt d[c]! x = true) : ∀ t, m ≤ t → t ≤ c → lt d[t]! x = true := by
  intro t h1 h2
  have k := SortedIn.le' h hB h1 h2 hc
  cases e : lt d[t]! x with
  | true => rfl
  | false => have := h.ntrans _ _ _ k e; rw [hy] at this; cases this

theorem up_mono_no (h : SWO lt) {m b c : Nat} {d : Array α} {x : α} (hB : SortedIn lt m b d) (hm : m ≤ c) (hn : lt d[c]! x = false) : ∀ t, c ≤ t → t < b → lt d[t]! x = false := by
  intro t h1 h2
  have k := SortedIn.le' h hB hm h1 h2
  exact h.ntrans _ _ _ k hn

theorem dn_mono (h : SWO lt) {a m c : Nat} {d : Array α} {x : α} (hA : SortedIn lt a m d) (hc : c < m) (hy : lt x d[c]! = false) : ∀ t, a ≤ t → t ≤ c → lt x d[t]! = false := by
  intro t h1 h2
  have k := SortedIn.le' h hA h1 h2 hc
  exact h.ntrans _ _ _ hy k

theorem dn_mono_no (h : SWO lt) {a m c : Nat} {d : Array α} {x : α} (hA : SortedIn lt a m d) (hac : a ≤ c) (hn : lt x d[c]! = true) : ∀ t, c ≤ t → t < m → lt x d[t]! = true := by
  intro t h1 h2
  have k := SortedIn.le' h hA hac h1 h2
  cases e : lt x d[t]! with
  | true => rfl
  | false => have := h.ntrans _ _ _ e k; rw [hn] at this; cases this

theorem Cut.start {d : Array α} {s0 r0 p : Nat} (h : s0 ≤ r0) : Cut lt d s0 r0 p s0 r0 := ⟨Nat.le_refl _, h, Nat.le_refl _, fun _ _ _ => by omega, fun _ _ _ => by omega⟩

theorem Cut.yes' (h : SWO lt) {a m b : Nat} {d : Array α} (hA : SortedIn lt a m d) (hB : SortedIn lt m b d) {s0 r0 p s r c : Nat} (k : Cut lt d s0 r0 p s r) (hs : s ≤ c) (hc : c < r) (ha : a ≤ s0) (hr : r0 ≤ m) (hp : m + r0 ≤ p + 1) (hp2 : p < b + s0) (hy : lt d[p - c]! d[c]! = false) : Cut lt d s0 r0 p (c + 1) r := by
  have k1 := k.lo; have k2 := k.mid; have k3 := k.hi
  refine ⟨by omega, by omega, k3, fun x hx hx2 => ?_, k.no⟩
  have y1 := SortedIn.le' h hA (show a ≤ x by omega) (show x ≤ c by omega) (by omega)
  have y2 := SortedIn.le' h hB (show m ≤ p - c by omega) (show p - c ≤ p - x by omega) (by omega)
  exact le_trans h y1 (le_trans h hy y2)

theorem Cut.no' (h : SWO lt) {a m b : Nat} {d : Array α} (hA : SortedIn lt a m d) (hB : SortedIn lt m b d) {s0 r0 p s r c : Nat} (k : Cut lt d s0 r0 p s r) (hs : s ≤ c) (hc : c < r) (ha : a ≤ s0) (hr : r0 ≤ m) (hp : m + r0 ≤ p + 1) (hp2 : p < b + s0) (hn : lt d[p - c]! d[c]! = true) : Cut lt d s0 r0 p s c := by
  have k1 := k.lo; have k2 := k.mid; have k3 := k.hi
  refine ⟨k1, hs, by omega, k.yes, fun x hx hx2 => ?_⟩
  have y1 := SortedIn.le' h hA (show a ≤ c by omega) hx (by omega)
  have y2 := SortedIn.le' h hB (show m ≤ p - x by omega) (show p - x ≤ p - c by omega) (by omega)
  cases e : lt d[p - x]! d[x]! with
  | true => rfl
  | false =>
    have z1 : le lt d[c]! d[p - c]! := le_trans h y1 (le_trans h e y2)
    rw [show lt d[p - c]! d[c]! = false from z1] at hn
    cases hn

/-! ### the blocks -/
/-- every block of k elements is in order, up to n; before `a` all blocks of 2k -/
def Blocks (lt : α → α → Bool) (k n : Nat) (d : Array α) : Prop := ∀ q, SortedIn lt (q * k) (min (q * k + k) n) d

theorem blocks_all {k n : Nat} {d : Array α} (h : Blocks lt k n d) (hk : n ≤ k) : SortedIn lt 0 n d := by
  have := h 0
  rw [Nat.zero_mul, Nat.zero_add, show min k n = n by omega] at this
  exact this

end Stb
end Go.Proofs.YthhbbmebfmfgjaaGreatDoor

/-! The worlds that a sort passes through when its comparison lays blocks: the row holds the elements in some order, all else that was there is as it was. -/
namespace Go.Proofs.YthhbbmebfmfgjaaGreatDoor
open Go.RowKit Go.Sort
namespace Stb

/-- a world behind w: all that was there is as it was -/
structure BW (w : World) where
  world : World
  h : Go.RowKit.Below w.heap.size w world

instance (w : World) : Inhabited (BW w) := ⟨⟨w, Go.RowKit.Below.refl _ _⟩⟩

theorem wp_region_below {P : Program} {id : Nat} {Q : Exit → Act → World → Prop} {a : Act} {w : World} {l : List Oper} (hm : P.follows .mixedOrders = true) (hB : Region.lexB .any l.toArray = true)
    (h : wpQuiet P l.toArray (fun w' => ∃ p : BW w, w' = p.world) (fun a' => ∀ w', (∃ p : BW w, w' = p.world) → Q .normal a' w') l a) : (Code.region id l.toArray true).wp P Q a w :=
  wp_region_quiet (C := fun w' => ∃ p : BW w, w' = p.world) hm hB ⟨⟨_, (Go.RowKit.Below.refl _ _).drew⟩, rfl⟩ (by simpa using h)

theorem Calls.below_of {P : Program} {f : FuncId} {args : Array Value} {w : World} {v : Value} (p : BW w)
    (h : Calls P f args p.world fun e w' => e = .returned v ∧ Go.RowKit.Below p.world.heap.size p.world w') : Calls P f args p.world fun e w'' => e = .returned v ∧ ∃ q : BW w, w'' = q.world :=
  h.mono fun _ w' ⟨he, hq⟩ => ⟨he, ⟨w', p.h.trans (hq.mono p.h.size)⟩, rfl⟩

variable {P : Program} {α : Type} [Inhabited α] {enc : α → List Value} {k : Nat} {w0 W : World} {blk off : Nat} {dk : Array α}

/-- the row at blk holds dk; all else is as in w0 -/
structure SB (enc : α → List Value) (k : Nat) (w0 : World) (blk off : Nat) (dk : Array α) (W : World) : Prop where
  holds : HoldsK enc k W blk off dk
  gb : w0.grownBy W (some blk)
  tag : ∀ c e fr, w0.heap[blk]? = some (.cells c e fr) → ∃ c', W.heap[blk]? = some (.cells c' e fr) ∧ c'.size = c.size

theorem tag_setCell (w : World) (b o : Nat) (u : Value) {c : Array Value} {e : TypeId} {fr : Nat × Nat} (h : w.heap[b]? = some (.cells c e fr)) : ∃ c', (w.setCell ⟨b, o, none⟩ u).heap[b]? = some (.cells c' e fr) ∧ c'.size = c.size := by
  simp only [World.setCell, Array.getElem?_modify, if_true, h, Option.map_some]
  exact ⟨_, rfl, by simp⟩

theorem tag_setCells (b : Nat) : ∀ (vs : List Value) (o : Nat) (w : World) {c : Array Value} {e : TypeId} {fr : Nat × Nat}, w.heap[b]? = some (.cells c e fr) → ∃ c', (w.setCells b o vs).heap[b]? = some (.cells c' e fr) ∧ c'.size = c.size
  | [], _, _, c, _, _, h => ⟨c, h, rfl⟩
  | v :: r, o, w, c, e, fr, h => by
    obtain ⟨c1, h1, s1⟩ := tag_setCell w b o v h
    obtain ⟨c2, h2, s2⟩ := tag_setCells b r (o + 1) _ h1
    exact ⟨c2, h2, s2.trans s1⟩

theorem SB.start (h : HoldsK enc k w0 blk off dk) : SB enc k w0 blk off dk w0 := ⟨h, ⟨rfl, rfl, rfl, Nat.le_refl _, fun _ _ _ => rfl⟩, fun c _e _fr h => ⟨c, h, rfl⟩⟩

theorem SB.behind {W' : World} (h : SB enc k w0 blk off dk W) (hb : blk < w0.heap.size) (b : Go.RowKit.Below W.heap.size W W') : SB enc k w0 blk off dk W' := by
  have hs := h.gb.size
  refine ⟨fun j hj => ?_, ⟨b.os.trans h.gb.os, b.tape.trans h.gb.tape, b.output.trans h.gb.output, Nat.le_trans hs b.size, fun q hq hne => (b.block q (by omega)).trans (h.gb.block q hq hne)⟩, fun c e fr hc => by rw [b.block blk (by omega)]; exact h.tag c e fr hc⟩
  have := h.holds j hj
  rw [b.cell (show blk < W.heap.size by omega), b.frozen (show blk < W.heap.size by omega)]
  exact this

theorem SB.bw (h : SB enc k w0 blk off dk W) (hb : blk < w0.heap.size) (p : BW W) : SB enc k w0 blk off dk p.world := h.behind hb p.h
theorem SB.drew (h : SB enc k w0 blk off dk W) : SB enc k w0 blk off dk W.drew := ⟨h.holds, ⟨h.gb.os, h.gb.tape, h.gb.output, h.gb.size, h.gb.block⟩, h.tag⟩

theorem heap_setCells (b : Nat) : ∀ (vs : List Value) (o : Nat) (w : World) (q : Nat), q ≠ b → (w.setCells b o vs).heap[q]? = w.heap[q]?
  | [], _, _, _, _ => rfl
  | v :: r, o, w, q, h => by rw [World.setCells, heap_setCells b r _ _ _ h]; exact Go.RowKit.Below.heap_setCell _ _ _ _ h

theorem same_setCells (b : Nat) : ∀ (vs : List Value) (o : Nat) (w : World), (w.setCells b o vs).os = w.os ∧ (w.setCells b o vs).tape = w.tape ∧ (w.setCells b o vs).output = w.output
  | [], _, _ => ⟨rfl, rfl, rfl⟩
  | v :: r, o, w => by rw [World.setCells]; exact same_setCells b r _ _

theorem grownBy_setCells {b : Nat} (vs : List Value) (o : Nat) (h : w0.grownBy W (some b)) : w0.grownBy (W.setCells b o vs) (some b) := by
  obtain ⟨e1, e2, e3⟩ := same_setCells b vs o W
  exact ⟨e1.trans h.os, e2.trans h.tape, e3.trans h.output, by rw [size_setCells]; exact h.size, fun q hq hne => (heap_setCells b vs o W q (fun e => hne (by rw [e]))).trans (h.block q hq hne)⟩

theorem SB.swap (h : SB enc k w0 blk off dk W) (hk : ∀ x, (enc x).length = k) (i j : Nat) (hi : i < dk.size) (hj : j < dk.size) :
    SB enc k w0 blk off (swp dk i j) ((W.setCells blk (off + i * k) (enc dk[j]!)).setCells blk (off + j * k) (enc dk[i]!)) := by
  refine ⟨?_, grownBy_setCells _ _ (grownBy_setCells _ _ h.gb), fun c e fr hc => by
    obtain ⟨c1, h1, s1⟩ := h.tag c e fr hc
    obtain ⟨c2, h2, s2⟩ := tag_setCells blk (enc dk[j]!) (off + i * k) W h1
    obtain ⟨c3, h3, s3⟩ := tag_setCells blk (enc dk[i]!) (off + j * k) _ h2
    exact ⟨c3, h3, s3.trans (s2.trans s1)⟩⟩
  have e1 := holds_setCells_c h.holds (i * k) (enc dk[j]!) (by rw [hk, size_flatK]; exact rowK_bnd dk k i hi)
  have e2 := holds_setCells_c e1 (j * k) (enc dk[i]!) (by rw [hk, size_setMany, size_flatK]; exact rowK_bnd dk k j hj)
  rw [setMany_swp enc k hk dk i j hi hj] at e2
  exact e2

/-- What the sort is told of the row and of the comparison, once. -/
structure RowB (P : Program) (enc : α → List Value) (k : Nat) (g : Nat) (cb : Array Value) (cf : α → α → Int) (w0 : World) (blk off size : Nat) : Prop where
  hk : ∀ x, (enc x).length = k
  h1 : ∀ x, ∀ v ∈ enc x, v.oneCell' = true
  hblk : blk < w0.heap.size
  cmp : ∀ (W : World) (dk : Array α), dk.size = size → SB enc k w0 blk off dk W → ∀ x y : α,
    Calls P g (#[.agg (enc x).toArray, .agg (enc y).toArray] ++ cb) W fun e w' => e = .returned (.int .i64 (cf x y)) ∧ Go.RowKit.Below W.heap.size W w'

variable {g : Nat} {cb : Array Value} {cf : α → α → Int} {size : Nat}

theorem SB.load (h : SB enc k w0 blk off dk W) (R : RowB P enc k g cb cf w0 blk off size) (i : Nat) (hi : i < dk.size) :
    Sem.run P (loadCellsFrom ⟨blk, off + i * k, none⟩ 0 k #[]) W = .ok (enc dk[i]!).toArray W :=
  run_loadCellsFrom_list P _ _ _ k (R.hk _) (HoldsK.cells h.holds R.hk hi)

theorem SB.ld (h : SB enc k w0 blk off dk W) (R : RowB P enc k g cb cf w0 blk off size) (i : Nat) (hi : i < dk.size) (p : BW W) :
    Sem.run P (loadCellsFrom ⟨blk, off + i * k, none⟩ 0 k #[]) p.world = .ok (enc dk[i]!).toArray p.world := (h.bw R.hblk p).load R i hi

theorem SB.ld1 (h : SB enc k w0 blk off dk W) (R : RowB P enc k g cb cf w0 blk off size) (i : Nat) (hi : i < dk.size) :
    Sem.run P (loadCellsFrom ⟨blk, off + i * k, none⟩ 0 k #[]) W.drew = .ok (enc dk[i]!).toArray W.drew := h.drew.load R i hi

theorem SB.cmp (h : SB enc k w0 blk off dk W) (R : RowB P enc k g cb cf w0 blk off size) (hs : dk.size = size) (x y : α) (p : BW W) :
    Calls P g (#[.agg (enc x).toArray, .agg (enc y).toArray] ++ cb) p.world fun e w'' => e = .returned (.int .i64 (cf x y)) ∧ ∃ q : BW W, w'' = q.world :=
  Calls.below_of p (R.cmp p.world dk hs (h.bw R.hblk p) x y)

theorem SB.st1 (h : SB enc k w0 blk off dk W) (R : RowB P enc k g cb cf w0 blk off size) (i : Nat) (hi : i < dk.size) (y : α) :
    Sem.run P (storeCells ⟨blk, off + i * k, none⟩ (enc y) 0) W.drew = .ok () (W.drew.setCells blk (off + i * k) (enc y)) :=
  stores_of_holds P h.drew.holds (i * k) _ (by rw [R.hk, size_flatK]; exact rowK_bnd dk k i hi) (R.h1 _)

theorem SB.st2 (h : SB enc k w0 blk off dk W) (R : RowB P enc k g cb cf w0 blk off size) (i j : Nat) (hi : i < dk.size) (hj : j < dk.size) (y x : α) :
    Sem.run P (storeCells ⟨blk, off + j * k, none⟩ (enc x) 0) (W.drew.setCells blk (off + i * k) (enc y)) = .ok () ((W.drew.setCells blk (off + i * k) (enc y)).setCells blk (off + j * k) (enc x)) :=
  stores_of_holds P (holds_setCells_c h.drew.holds (i * k) _ (by rw [R.hk, size_flatK]; exact rowK_bnd dk k i hi)) (j * k) _ (by rw [R.hk, size_setMany, size_flatK]; exact rowK_bnd dk k j hj) (R.h1 _)

theorem SB.swapped (h : SB enc k w0 blk off dk W) (R : RowB P enc k g cb cf w0 blk off size) (i j : Nat) (hi : i < dk.size) (hj : j < dk.size) :
    SB enc k w0 blk off (swp dk i j) ((W.drew.setCells blk (off + i * k) (enc dk[j]!)).setCells blk (off + j * k) (enc dk[i]!)) := h.drew.swap R.hk i j hi hj

end Stb
end Go.Proofs.YthhbbmebfmfgjaaGreatDoor

/-! The walks of Go's stable sort of elements of two cells, at a comparison that lays blocks. -/
namespace Go.Proofs.YthhbbmebfmfgjaaGreatDoor
open Go.RowKit Go.Sort Stb
variable {α : Type} [Inhabited α]

set_option maxRecDepth 1000000 in
set_option maxHeartbeats 4000000 in
theorem swapRange_any (enc : α → List Value) (k : Nat) (hk2 : k = 2) (g : Nat) (cb : Array Value) (cf : α → α → Int) (blk off cap size a b n lo hi : Nat) (d : Array α) (w0 w : World)
    (R : RowB Tryz.prog enc k g cb cf w0 blk off size) (hs : d.size = size) (S : SB enc k w0 blk off d w) (hlo : lo ≤ a) (hab : a + n ≤ b) (hb : b + n ≤ hi) (hhi : hi ≤ size) (hsz : size < 4611686018427387904) :
    Calls Tryz.prog 223 #[.slice (some ⟨blk, off, none⟩) size cap, .int .i64 a, .int .i64 b, .int .i64 n, .func (.func g) #[] cb] w fun e w' =>
      e = .returned (.tuple #[]) ∧ ∃ d', Mv lo hi d d' (sw a b n fun t => d[t]!) ∧ SB enc k w0 blk off d' w' := by
  have S0 : Aside (SB enc k w0 blk off d w) := S
  have aE : ∀ w, (isAgg 33).run Tryz.prog w = .ok true w := fun _ => by kernel_rfl
  have zE : ∀ w, (Go.sizeOf 33).run Tryz.prog w = .ok k w := fun _ => by rw [hk2]; kernel_rfl
  clear S hk2
  go_enter Tryz.func223, Tryz.ntmps223
  go_wp2
  go_loopw [10] (fun vi wr => ∃ (i : Nat) (dk : Array α), vi = .int .i64 i ∧ i ≤ n ∧ Aside (Mv lo hi d dk (sw a b i fun t => d[t]!)) ∧ Aside (SB enc k w0 blk off dk wr)) (fun vi _ => n - (intOf vi).toNat)
  case atStart => exact ⟨0, d, rfl, Nat.zero_le _, by rw [sw_zero]; exact Mv.start _ _ _, S0⟩
  case round =>
    clear S0
    obtain ⟨i, dk, rfl, hin, M, S1⟩ := hrel
    have hds : dk.size = size := M.out.size.trans hs
    by_cases hlt : i < n
    · have M2 : Aside (Mv lo hi d (swp dk (a + i) (b + i)) (sw a b (i + 1) fun t => d[t]!)) :=
        (M.out.step (a + i) (b + i) (by omega) (by omega) (by omega) (by omega) (by omega)).congr (by
          refine sw_succ a b i _ _ (by omega) fun t => ?_
          by_cases h1 : t = b + i
          · subst h1; rw [if_pos rfl, if_neg (by omega), if_pos rfl]
          · rw [if_neg h1]
            by_cases h2 : t = a + i
            · rw [if_pos h2, if_pos h2]
            · rw [if_neg h2, if_neg h2, if_neg h1])
      have ea : ((a : Int) + (i : Int)).toNat = a + i := by omega
      have pa : (0 : Int) ≤ (a : Int) + (i : Int) := by omega
      have ba : (a : Int) + (i : Int) < (size : Int) := by omega
      have ra : IntKind.i64.wrap ((a : Int) + (i : Int)) = (a : Int) + (i : Int) := by rw [IntKind.wrap_i64]; omega
      have ec : ((b : Int) + (i : Int)).toNat = b + i := by omega
      have pc : (0 : Int) ≤ (b : Int) + (i : Int) := by omega
      have bc : (b : Int) + (i : Int) < (size : Int) := by omega
      have rc : IntKind.i64.wrap ((b : Int) + (i : Int)) = (b : Int) + (i : Int) := by rw [IntKind.wrap_i64]; omega
      have S2 : Aside (SB enc k w0 blk off (swp dk (a + i) (b + i)) ((wr.drew.setCells blk (off + (a + i) * k) (enc dk[b + i]!)).setCells blk (off + (b + i) * k) (enc dk[a + i]!))) := S1.out.swapped R (a + i) (b + i) (by omega) (by omega)
      have la := S1.out.ld1 R (a + i) (by omega)
      have lb := S1.out.ld1 R (b + i) (by omega)
      have sa := S1.out.st1 R (a + i) (by omega) dk[b + i]!
      have sb := S1.out.st2 R (a + i) (b + i) (by omega) (by omega) dk[b + i]! dk[a + i]!
      have na : (enc dk[a + i]!).length = k := R.hk _
      have nb : (enc dk[b + i]!).length = k := R.hk _
      generalize enc dk[a + i]! = cI at S2 la sb na
      generalize enc dk[b + i]! = cJ at S2 lb sa sb nb
      clear S1
      go_wp2_with fail
      go_big_region
      clear la lb sa sb
      generalize (wr.drew.setCells blk (off + (a + i) * k) cJ).setCells blk (off + (b + i) * k) cI = w2 at S2 ⊢
      go_wp2
      go_roundw
      case rel => exact ⟨i + 1, _, by go_num, by omega, M2, S2⟩
      case measure => simp [intOf]; omega
    · have : i = n := by omega
      subst this
      go_wp2
      go_end0
      exact ⟨rfl, dk, M.out, S1.out⟩

end Go.Proofs.YthhbbmebfmfgjaaGreatDoor

/-! Go's stable sort: the rotation. -/
namespace Go.Proofs.YthhbbmebfmfgjaaGreatDoor
open Go.RowKit Go.Sort Stb
variable {α : Type} [Inhabited α]

set_option maxRecDepth 1000000 in
set_option maxHeartbeats 4000000 in
theorem rotate_any (enc : α → List Value) (k : Nat) (hk2 : k = 2) (g : Nat) (cb : Array Value) (cf : α → α → Int) (blk off cap size a m b lo hi : Nat) (d : Array α) (w0 w : World)
    (R : RowB Tryz.prog enc k g cb cf w0 blk off size) (hs : d.size = size) (S : SB enc k w0 blk off d w) (hlo : lo ≤ a) (ham : a < m) (hmb : m < b) (hb : b ≤ hi) (hhi : hi ≤ size) (hsz : size < 4611686018427387904) :
    Calls Tryz.prog 202 #[.slice (some ⟨blk, off, none⟩) size cap, .int .i64 a, .int .i64 m, .int .i64 b, .func (.func g) #[] cb] w fun e w' =>
      e = .returned (.tuple #[]) ∧ ∃ d', Mv lo hi d d' (ro a m b fun t => d[t]!) ∧ SB enc k w0 blk off d' w' := by
  have S0 : Aside (SB enc k w0 blk off d w) := S
  clear S
  go_enter Tryz.func202, Tryz.ntmps202
  go_wp2
  go_loopw [10, 11] (fun vi vj wr => ∃ (i j : Nat) (dk : Array α), vi = .int .i64 i ∧ vj = .int .i64 j ∧ 0 < i ∧ 0 < j ∧ i ≤ m - a ∧ j ≤ b - m ∧ dk.size = size ∧ Hid (PermIn lo hi d dk) ∧ Hid (ro (m - i) m (m + j) (fun t => dk[t]!) = ro a m b (fun t => d[t]!)) ∧ Aside (SB enc k w0 blk off dk wr)) (fun vi vj _ => (intOf vi).toNat + (intOf vj).toNat)
  case atStart => exact ⟨m - a, b - m, d, by congr 1; omega, by congr 1; omega, by omega, by omega, Nat.le_refl _, Nat.le_refl _, hs, permIn_refl _ _ _, by rw [show m - (m - a) = a by omega, show m + (b - m) = b by omega]; rfl, S0⟩
  case round =>
    clear S0
    obtain ⟨i, j, dk, rfl, rfl, hi0, hj0, hil, hj, hds, PM, RO, S1⟩ := hrel
    have e1 : (m : Int) - (i : Int) = ((m - i : Nat) : Int) := by omega
    have e2 : (m : Int) + (j : Int) - (i : Int) = ((m + j - i : Nat) : Int) := by omega
    rcases Nat.lt_trichotomy i j with h | h | h
    · have hij : (i : Int) < (j : Int) := by omega
      have hne : ((i : Int) == (j : Int)) = false := by simp; omega
      have hne' : ((i : Int) != (j : Int)) = true := by simp; omega
      have hgt : ¬ ((j : Int) < (i : Int)) := by omega
      go_wp2_with fail
      refine (swapRange_any enc k hk2 g cb cf blk off cap size (m - i) (m + j - i) i lo hi dk w0 _ R hds S1.out (by omega) (by omega) (by omega) hhi hsz).mono ?_
      rintro e w1 ⟨rfl, d1, M1, S2⟩
      have SS2 : Aside (SB enc k w0 blk off d1 w1) := S2
      have MM : Aside (Mv lo hi dk d1 (sw (m - i) (m + j - i) i fun t => dk[t]!)) := M1
      clear S2 M1
      go_wp2
      go_roundw
      case rel => exact ⟨i, j - i, d1, rfl, by congr 1; omega, hi0, by omega, hil, by omega, MM.out.size.trans hds, permIn_trans _ _ _ _ _ PM.out MM.out.perm, by rw [← RO.out, ← ro_less m i j _ (by omega) h]; congr 1; funext t; exact MM.out.val t, SS2⟩
      case measure => simp [intOf]; omega
    · subst h
      go_wp2_with fail
      refine (swapRange_any enc k hk2 g cb cf blk off cap size (m - i) m i lo hi dk w0 _ R hds S1.out (by omega) (by omega) (by omega) hhi hsz).mono ?_
      rintro e w1 ⟨rfl, d1, M1, S2⟩
      have SS2 : Aside (SB enc k w0 blk off d1 w1) := S2
      have MM : Aside (Mv lo hi dk d1 (sw (m - i) m i fun t => dk[t]!)) := M1
      clear S2 M1
      go_wp2
      go_end0
      refine ⟨rfl, d1, ⟨permIn_trans _ _ _ _ _ PM.out MM.out.perm, fun t => ?_⟩, SS2.out⟩
      rw [← RO.out, ← ro_same m i _ (by omega)]
      exact MM.out.val t
    · have hij : (j : Int) < (i : Int) := by omega
      have hne : ((i : Int) == (j : Int)) = false := by simp; omega
      have hne' : ((i : Int) != (j : Int)) = true := by simp; omega
      go_wp2_with fail
      refine (swapRange_any enc k hk2 g cb cf blk off cap size (m - i) m j lo hi dk w0 _ R hds S1.out (by omega) (by omega) (by omega) hhi hsz).mono ?_
      rintro e w1 ⟨rfl, d1, M1, S2⟩
      have SS2 : Aside (SB enc k w0 blk off d1 w1) := S2
      have MM : Aside (Mv lo hi dk d1 (sw (m - i) m j fun t => dk[t]!)) := M1
      clear S2 M1
      go_wp2
      go_roundw
      case rel => exact ⟨i - j, j, d1, by congr 1; omega, rfl, by omega, hj0, by omega, hj, MM.out.size.trans hds, permIn_trans _ _ _ _ _ PM.out MM.out.perm, by rw [← RO.out, ← ro_more m i j _ (by omega) h]; congr 1; funext t; exact MM.out.val t, SS2⟩
      case measure => simp [intOf]; omega

end Go.Proofs.YthhbbmebfmfgjaaGreatDoor

/-! Go's stable sort: the insertion sort of a block. -/
namespace Go.Proofs.YthhbbmebfmfgjaaGreatDoor
open Go.RowKit Go.Sort Stb
variable {α : Type} [Inhabited α]

set_option maxRecDepth 1000000 in
set_option maxHeartbeats 4000000 in
theorem insertion_any (enc : α → List Value) (k : Nat) (hk2 : k = 2) (g : Nat) (cb : Array Value) (cf : α → α → Int) (blk off cap size a b : Nat) (d : Array α) (w0 w : World)
    (eg : ∀ args w, (callFunc g args).run Tryz.prog w = .ok (.enter g args) w)
    (R : RowB Tryz.prog enc k g cb cf w0 blk off size) (hs : d.size = size) (S : SB enc k w0 blk off d w) (hab : a ≤ b) (hb : b ≤ size) (hsz : size < 4611686018427387904) :
    Calls Tryz.prog 165 #[.slice (some ⟨blk, off, none⟩) size cap, .int .i64 a, .int .i64 b, .func (.func g) #[] cb] w fun e w' =>
      e = .returned (.tuple #[]) ∧ SB enc k w0 blk off (Sort.insertionSort (ltOf cf) d a b) w' := by
  have S0 : Aside (SB enc k w0 blk off d w) := S
  have aE : ∀ w, (isAgg 33).run Tryz.prog w = .ok true w := fun _ => by kernel_rfl
  have zE : ∀ w, (Go.sizeOf 33).run Tryz.prog w = .ok k w := fun _ => by rw [hk2]; kernel_rfl
  clear S hk2
  go_enter Tryz.func165, Tryz.ntmps165
  go_wp2
  go_loopg [8] (b - a) (fun g1 vi wr => ∃ (i : Nat) (dk : Array α), vi = .int .i64 i ∧ a < i ∧ i ≤ b + 1 ∧ b + 1 - i ≤ g1 + 1 ∧ dk.size = size ∧ Aside (SB enc k w0 blk off dk wr) ∧ Hid (insOuter (ltOf cf) a b i dk = insOuter (ltOf cf) a b (a + 1) d))
  case atStart => exact ⟨a + 1, d, by go_num, by omega, by omega, by omega, hs, S0, rfl⟩
  case round =>
    clear S0
    obtain ⟨i, dk, rfl, hai, hib, hg1, hsk, S1, HO⟩ := hrel
    by_cases hlt : i < b
    · have hltz : (i : Int) < (b : Int) := by omega
      go_wp2
      go_loopg [9] i (fun g2 vj wr2 => ∃ (j : Nat) (dj : Array α), vj = .int .i64 j ∧ a ≤ j ∧ j ≤ i ∧ j ≤ g2 ∧ dj.size = size ∧ Aside (SB enc k w0 blk off dj wr2) ∧ Hid (insInner (ltOf cf) a j dj = insInner (ltOf cf) a i dk))
      case atStart => exact ⟨i, dk, rfl, by omega, Nat.le_refl _, Nat.le_refl _, hsk, S1, rfl⟩
      case round =>
        clear S1
        obtain ⟨j, dj, rfl, haj, hji, hg2, hsj, S1, HI⟩ := hrel
        have out : (j ≤ a ∨ ltOf cf dj[j]! dj[j - 1]! = false) → Hid (insOuter (ltOf cf) a b (i + 1) dj = insOuter (ltOf cf) a b (a + 1) d) := fun hs => by
          show _ = _
          rw [← HO.out, insOuter_go _ _ _ _ _ hlt, ← HI.out, insInner_stop _ _ _ _ hs]
        have OUT : Aside _ := out
        clear out
        by_cases hja : a < j
        · have hjaz : (a : Int) < (j : Int) := by omega
          obtain ⟨jp, rfl⟩ : ∃ jp, j = jp + 1 := ⟨j - 1, by omega⟩
          obtain ⟨xj, hxj⟩ : ∃ x, dj[jp + 1]! = x := ⟨_, rfl⟩
          obtain ⟨xp, hxp⟩ : ∃ x, dj[jp]! = x := ⟨_, rfl⟩
          have hwp : IntKind.i64.wrap (jp : Int) = (jp : Int) := by rw [IntKind.wrap_i64]; omega
          have jz : (jp : Int) + 1 < (size : Int) := by omega
          have jz1 : (jp : Int) < (size : Int) := by omega
          have hjaz' : (a : Int) < (jp : Int) + 1 := by omega
          have p0 : (0 : Int) ≤ (jp : Int) + 1 := by omega
          have e0 : ((jp : Int) + 1).toNat = jp + 1 := by omega
          have lj := S1.out.ld R (jp + 1) (by omega)
          have lp := S1.out.ld R jp (by omega)
          rw [hxj] at lj
          rw [hxp] at lp
          have hcg := S1.out.cmp R hsj xj xp
          by_cases hlv : cf xj xp < 0
          · have hlv' : decide (cf xj xp < 0) = true := decide_eq_true hlv
            go_wp2_with fail
            refine wp_region_below (by kernel_rfl) (by kernel_rfl) ?_
            repeat (quiet_step ((go_at_fn g; exact hcg _)))
            refine wpQuiet_nil ?_
            intro _ hw'
            obtain ⟨pq, hw''⟩ := hw'
            subst hw''
            have S2 : Aside (SB enc k w0 blk off dj pq.world) := S1.out.bw R.hblk pq
            clear lj lp hcg S1
            generalize pq.world = wq at S2 ⊢
            clear pq
            have S3 : Aside (SB enc k w0 blk off (swp dj (jp + 1) jp) ((wq.drew.setCells blk (off + (jp + 1) * k) (enc dj[jp]!)).setCells blk (off + jp * k) (enc dj[jp + 1]!))) := S2.out.swapped R (jp + 1) jp (by omega) (by omega)
            have la := S2.out.ld1 R (jp + 1) (by omega)
            have lb := S2.out.ld1 R jp (by omega)
            have sa := S2.out.st1 R (jp + 1) (by omega) dj[jp]!
            have sb := S2.out.st2 R (jp + 1) jp (by omega) (by omega) dj[jp]! dj[jp + 1]!
            have na : (enc dj[jp + 1]!).length = k := R.hk _
            have nb : (enc dj[jp]!).length = k := R.hk _
            rw [hxj] at la sb na
            rw [hxj] at S3
            rw [hxp] at lb sa sb nb
            rw [hxp] at S3
            have HX : Aside (dj[jp + 1]! = xj ∧ dj[jp]! = xp) := ⟨hxj, hxp⟩
            clear hxj hxp
            generalize enc xj = cI at S3 la sb na
            generalize enc xp = cJ at S3 lb sa sb nb
            clear S2 hlv'
            go_wp2_with fail
            go_big_region
            clear la lb sa sb
            generalize (wq.drew.setCells blk (off + (jp + 1) * k) cJ).setCells blk (off + jp * k) cI = w2 at S3 ⊢
            go_wp2
            go_roundg jp
            case measure => omega
            case rel =>
              refine ⟨jp, swp dj (jp + 1) jp, by first | rfl | go_num | (congr 1; omega), by omega, by omega, Nat.le_refl _, by rw [size_swp]; exact hsj, S3, (show Hid _ from ?_)⟩
              show _ = _
              have := insInner_go (ltOf cf) a (jp + 1) dj hja (by simp only [Nat.add_sub_cancel]; rw [HX.out.1, HX.out.2]; exact decide_eq_true hlv)
              simp only [Nat.add_sub_cancel] at this
              rw [← HI.out, this]
          · have hlv' : decide (cf xj xp < 0) = false := decide_eq_false hlv
            go_wp2_with fail
            refine wp_region_below (by kernel_rfl) (by kernel_rfl) ?_
            repeat (quiet_step ((go_at_fn g; exact hcg _)))
            refine wpQuiet_nil ?_
            intro _ hw'
            obtain ⟨pq, hw''⟩ := hw'
            subst hw''
            have S2 : Aside (SB enc k w0 blk off dj pq.world) := S1.out.bw R.hblk pq
            have OO := OUT.out (Or.inr (by simp only [Nat.add_sub_cancel]; rw [hxj, hxp]; exact decide_eq_false (by omega)))
            clear lj lp hcg S1 hxj hxp OUT
            generalize pq.world = wq at S2 ⊢
            clear pq
            go_wp2
            go_roundg (b - (i + 1))
            case measure => omega
            case rel => exact ⟨i + 1, dj, by go_num, by omega, by omega, by omega, hsj, S2, OO⟩
        · have hjaz : decide ((j : Int) > (a : Int)) = false := decide_eq_false (by omega)
          have hjaz' : ¬ (a : Int) < (j : Int) := by omega
          have S2 : Aside _ := S1.out.drew
          clear S1
          go_wp2_with fail
          go_big_region
          all_goals go_wp2
          go_roundg (b - (i + 1))
          case measure => omega
          case rel => exact ⟨i + 1, dj, by go_num, by omega, by omega, by omega, hsj, S2, OUT.out (Or.inl (by omega))⟩
    · have hltz : ¬ (i : Int) < (b : Int) := by omega
      go_wp2
      go_end0
      refine ⟨rfl, ?_⟩
      unfold Sort.insertionSort
      rw [← HO.out, insOuter_stop _ _ _ _ _ hlt]
      exact S1.out

end Go.Proofs.YthhbbmebfmfgjaaGreatDoor
