import Derived.Test.YthhbbmebfmfgjaaGreatDoorPvN
import Derived.Test.YthhbbmebfmfgjaaGreatDoorLN2
/-! EvalNever: plain law. -/
namespace Go.Proofs.YthhbbmebfmfgjaaGreatDoor.PB
open Go.RowKit Go.Proofs.YthhbbmebfmfgjaaGreatDoorW.PrintWords Go.Proofs.YthhbbmebfmfgjaaGreatDoorW.PrintLast

theorem live3_20 : manometerlaw27_live.f 20 = some true := by kernel_rfl
theorem live3_some {k : Nat} (hk : 20 ≤ k) : manometerlaw27_live.f k = some true := by
  induction hk with
  | refl => exact live3_20
  | step _ ih => exact manometerlaw27_live.mono _ _ ih

theorem right_told (l : List S44) (hl : l.length ≤ 200) : ∀ (m k : Nat) (i : Int), 0 ≤ i → i ≤ l.length → ((l.length : Int) - i).toNat ≤ m → m < k →
    ∃ r, manometerref09_Right.l0 k l l l.length i = some r ∧ (r = true → ∀ j : Int, i ≤ j → j < l.length → 0 < j → (rd_T44 l (j - 1)).f0 < (rd_T44 l j).f0) := by
  intro m
  induction m with
  | zero =>
    intro k i h0 h1 hm hk
    obtain ⟨k, rfl⟩ : ∃ q, k = q + 1 := ⟨k - 1, by omega⟩
    rw [manometerref09_Right.l0]
    rw [if_neg (by omega)]
    exact ⟨_, rfl, fun _ j h2 h3 => by omega⟩
  | succ m ih =>
    intro k i h0 h1 hm hk
    obtain ⟨k, rfl⟩ : ∃ q, k = q + 1 := ⟨k - 1, by omega⟩
    rw [manometerref09_Right.l0]
    by_cases hi : i < l.length
    · have e2 : wrap64 (i + 1) = i + 1 := wrap64_of (by omega) (by omega)
      have e1 : wrap64 (i - 1) = i - 1 := wrap64_of (by omega) (by omega)
      obtain ⟨r, hr, next⟩ := ih k (i + 1) (by omega) (by omega) (by omega) (by omega)
      rw [if_pos hi, if_pos h0, if_pos hi, e1, e2]
      by_cases c1 : (rd_T44 l i).f2 = 0
      · rw [if_pos c1]; exact ⟨_, rfl, fun h => by cases h⟩
      · rw [if_neg c1]
        by_cases c2 : i > 0
        · rw [if_pos c2, if_pos (by omega), if_pos (by omega)]
          by_cases c3 : (rd_T44 l i).f0 ≤ (rd_T44 l (i - 1)).f0
          · rw [if_pos c3]; exact ⟨_, rfl, fun h => by cases h⟩
          · rw [if_neg c3]
            refine ⟨r, hr, fun h j h2 h3 h4 => ?_⟩
            by_cases hj : j = i
            · subst hj; omega
            · exact next h j (by omega) h3 h4
        · rw [if_neg c2]
          refine ⟨r, hr, fun h j h2 h3 h4 => ?_⟩
          by_cases hj : j = i
          · omega
          · exact next h j (by omega) h3 h4
    · rw [if_neg hi]
      exact ⟨_, rfl, fun _ j h2 h3 => by omega⟩

def inWindow (t w : Int) (x : S44) : Prop := x.f0 ≤ t ∧ IntKind.u64.wrap (IntKind.u64.wrap t - IntKind.u64.wrap x.f0) < w
theorem window_told (t w : Int) (l : List S44) (hl : l.length ≤ 200) : ∀ (m k : Nat) (acc : List S44) (i : Int), 0 ≤ i → i ≤ l.length → acc.length ≤ i.toNat → ((l.length : Int) - i).toNat ≤ m → m < k →
    ∃ r, manometerref09_Window.l0 k t w acc l l.length i = some r ∧ (r.length : Int) ≤ acc.length + (l.length - i) ∧ ((r.length : Int) = acc.length + (l.length - i) → ∀ j : Int, i ≤ j → j < l.length → inWindow t w (rd_T44 l j)) := by
  intro m
  induction m with
  | zero =>
    intro k acc i h0 h1 ha hm hk
    obtain ⟨k, rfl⟩ : ∃ q, k = q + 1 := ⟨k - 1, by omega⟩
    rw [manometerref09_Window.l0]
    rw [if_neg (by omega)]
    exact ⟨_, rfl, by omega, fun _ j h2 h3 => by omega⟩
  | succ m ih =>
    intro k acc i h0 h1 ha hm hk
    obtain ⟨k, rfl⟩ : ∃ q, k = q + 1 := ⟨k - 1, by omega⟩
    rw [manometerref09_Window.l0]
    by_cases hi : i < l.length
    · have e2 : wrap64 (i + 1) = i + 1 := wrap64_of (by omega) (by omega)
      rw [if_pos hi, if_pos h0, if_pos hi, e2]
      obtain ⟨r, hr, hle, next⟩ := ih k acc (i + 1) (by omega) (by omega) (by omega) (by omega) (by omega)
      by_cases c1 : (rd_T44 l i).f0 ≤ t
      · rw [if_pos c1]
        by_cases c2 : IntKind.u64.wrap (IntKind.u64.wrap t - IntKind.u64.wrap (rd_T44 l i).f0) < w
        · rw [if_pos c2, if_pos (by omega)]
          obtain ⟨r, hr, hle, next⟩ := ih k (acc ++ [(⟨(rd_T44 l i).f0, (rd_T44 l i).f1, (rd_T44 l i).f2⟩ : S44)]) (i + 1) (by omega) (by omega) (by rw [List.length_append]; simp; omega) (by omega) (by omega)
          rw [List.length_append] at hle next
          simp only [List.length_cons, List.length_nil] at hle next
          refine ⟨r, hr, by omega, fun h j h2 h3 => ?_⟩
          by_cases hj : j = i
          · subst hj; exact ⟨c1, c2⟩
          · exact next (by omega) j (by omega) h3
        · rw [if_neg c2]
          exact ⟨r, hr, by omega, fun h => by omega⟩
      · rw [if_neg c1]
        exact ⟨r, hr, by omega, fun h => by omega⟩
    · rw [if_neg hi]
      exact ⟨_, rfl, by omega, fun _ j h2 h3 => by omega⟩

def tailN (k : Nat) (x0 : List S44) (x1 x2 : Int) : Option Bool := (eval_Grown.f k 1 x0 x1 x2).bind fun bt299 => ((eval_Grown.f k 0 x0 x1 x2).bind fun bt301 => (if (bt299.2 == (decide ((x0.length : Int) > 1))) = true then (if (bt301.2 == bt299.2) = true then ((manometerref04_Holds.f 3 bt299.1 0).bind fun t303 => (if t303 = true then (some false) else ((manometerref04_Holds.f 3 bt301.1 0).bind fun t304 => (some (!t304))))) else (some false)) else (some false)))

theorem scan {l : List S44} {t w : Int} (hw : (l.map S44.f1).all word = true) (hl : l.length ≤ 200) (hfin : (∀ i : Int, 0 ≤ i → i < l.length → good l i) → ∀ k, 300 ≤ k → tailN k l t w = some true) :
    ∀ (m k : Nat) (i : Int), 0 ≤ i → i ≤ l.length → (∀ j : Int, 0 ≤ j → j < i → good l j) → ((l.length : Int) - i).toNat ≤ m → 301 + m ≤ k → manometerlaw27_EvalNever.l0 k l t w l l.length i = some true := by
  intro m
  induction m with
  | zero =>
    intro k i h0 h1 hg hm hk
    obtain ⟨k, rfl⟩ : ∃ q, k = q + 1 := ⟨k - 1, by omega⟩
    rw [manometerlaw27_EvalNever.l0]
    rw [if_neg (by omega)]
    exact hfin (fun j h2 h3 => hg j h2 (by omega)) k (by omega)
  | succ m ih =>
    intro k i h0 h1 hg hm hk
    obtain ⟨k, rfl⟩ : ∃ q, k = q + 1 := ⟨k - 1, by omega⟩
    rw [manometerlaw27_EvalNever.l0]
    by_cases hi : i < l.length
    · have hv := rdT_word' hw (i := i) (by omega)
      have e2 : wrap64 (i + 1) = i + 1 := wrap64_of (by omega) (by omega)
      have ek : manometerref04_Kind.f (rd_T44 l i).f1 = some (kindS (rd_T44 l i).f1.toNat) := by unfold manometerref04_Kind.f; rw [if_pos hv]
      rw [if_pos hi, if_pos h0, if_pos hi, ek, Option.bind_some]
      by_cases c0 : kindS (rd_T44 l i).f1.toNat = 0
      · rw [if_pos c0]
      · rw [if_neg c0, Option.bind_some]
        by_cases c1 : kindS (rd_T44 l i).f1.toNat = 1
        · rw [if_pos c1]
        · rw [if_neg c1, holds_eq, holds_val hv word0, Option.bind_some]
          by_cases c2 : holdsI 3 (rd_T44 l i).f1 0 = true
          · rw [if_pos c2]
          · rw [if_neg c2, e2]
            refine ih k (i + 1) (by omega) (by omega) (fun j h2 h3 => ?_) (by omega) (by omega)
            by_cases hj : j = i
            · subst hj
              have hn := kind_num c0 c1
              refine ⟨hn, ?_⟩
              unfold holdsI at c2
              have e0 : (0 : Int).toNat = 0 := rfl
              rw [holds3, hn, e0, fnan0, skey0] at c2
              simp at c2
              exact c2
            · exact hg j h2 (by omega)
    · rw [if_neg hi]
      exact hfin (fun j h2 h3 => hg j h2 (by omega)) k (by omega)

theorem first_last {l : List S44} (h : ∀ j : Int, 0 ≤ j → j < l.length → 0 < j → (rd_T44 l (j - 1)).f0 < (rd_T44 l j).f0) : ∀ n : Nat, (n : Int) + 1 < l.length → (rd_T44 l 0).f0 < (rd_T44 l ((n : Int) + 1)).f0 := by
  intro n
  induction n with
  | zero =>
    intro hn
    have := h 1 (by omega) (by omega) (by omega)
    exact this
  | succ n ih =>
    intro hn
    have h1 := ih (by omega)
    have h2 := h (((n + 1 : Nat) : Int) + 1) (by omega) hn (by omega)
    rw [show ((n + 1 : Nat) : Int) + 1 - 1 = (n : Int) + 1 by omega] at h2
    omega

theorem evalNever_pure (l : List S44) (t w : Int) (hw : (l.map S44.f1).all word = true) (hb : ∀ i : Int, 0 ≤ i → i < l.length → -9223372036854775808 ≤ (rd_T44 l i).f0 ∧ (rd_T44 l i).f0 ≤ 9223372036854775807) (ht : -9223372036854775808 ≤ t ∧ t ≤ 9223372036854775807) : ∃ k, manometerlaw27_EvalNever.f k l t w = some true := by
  refine ⟨600, ?_⟩
  have jt : manometerlaw27_EvalNever.j0 600 l t w true = some true := by
    rw [show (600 : Nat) = 599 + 1 from rfl, manometerlaw27_EvalNever.j0]
    rw [if_pos rfl, live3_some (by omega), Option.bind_some]
  unfold manometerlaw27_EvalNever.f
  rw [live3_some (by omega), Option.bind_some, if_pos rfl]
  by_cases h : (l.length : Int) > 200
  · rw [if_pos h]; exact jt
  rw [if_neg h]
  by_cases hwd : w ≥ 4611686018427387904
  · rw [if_pos hwd]; exact jt
  rw [if_neg hwd]
  obtain ⟨r1, e1, g1⟩ := right_told l (by omega) 200 600 0 (by omega) (by omega) (by omega) (by omega)
  obtain ⟨r2, e2, _, g2⟩ := window_told t w l (by omega) 200 600 [] 0 (by omega) (by omega) (by simp) (by omega) (by omega)
  have e1 : manometerref09_Right.f 600 l = some r1 := e1
  have e2 : manometerref09_Window.f 600 l t w = some r2 := e2
  rw [e1, Option.bind_some]
  by_cases c1 : r1 = true
  · rw [if_pos c1, e2, Option.bind_some]
    by_cases c2 : (r2.length : Int) = l.length
    · have hf : ((r2.length : Int) != (l.length : Int)) = false := by simpa using c2
      rw [hf, show (600 : Nat) = 599 + 1 from rfl, manometerlaw27_EvalNever.j0]
      rw [if_neg (by decide)]
      refine scan hw (by omega) (fun hg k hk => ?_) 200 599 0 (by omega) (by omega) (fun j h2 h3 => by omega) (by omega) (by omega)
      have win := g2 (by simp; omega)
      have inc := g1 c1
      unfold tailN
      by_cases h2 : (l.length : Int) < 2
      · have en : ∀ fn, eval_Grown.f k fn l t w = some (0, false) := by
          intro fn
          obtain ⟨q, rfl⟩ : ∃ q, k = q + 1 := ⟨k - 1, by omega⟩
          unfold eval_Grown.f
          rw [if_pos h2, eval_Grown.j0]
          rw [if_pos rfl]
        rw [en, en, Option.bind_some, Option.bind_some]
        have hd : decide ((l.length : Int) > 1) = false := by simp; omega
        have hz : holdsI 3 0 0 = false := not_below (by rw [show (0 : Int).toNat = 0 from rfl, skey0]; exact Int.le_refl _)
        dsimp only
        rw [hd, if_pos (by decide), if_pos (by decide), holds_eq, holds_val word0 word0, Option.bind_some, hz, if_neg (by decide)]
        rfl
      · have hlen : 2 ≤ l.length := by omega
        have fl := first_last (l := l) inc (l.length - 2) (by omega)
        rw [show ((l.length - 2 : Nat) : Int) + 1 = (l.length : Int) - 1 by omega] at fl
        have w0 := win 0 (by omega) (by omega)
        have w1 := win ((l.length : Int) - 1) (by omega) (by omega)
        have b0 := hb 0 (by omega) (by omega)
        have hwr : IntKind.u64.wrap (IntKind.u64.wrap t - IntKind.u64.wrap (rd_T44 l 0).f0) = t - (rd_T44 l 0).f0 := by
          have := w0.1
          simp [IntKind.wrap, IntKind.bits, IntKind.signed]
          omega
        have hlt := w0.2
        rw [hwr] at hlt
        obtain ⟨v1, lv1, wv1, ev1⟩ := grown_low 1 (.inr rfl) l t w hw (by omega) hlen hg fl w1.1 hlt (by omega)
        obtain ⟨v0, lv0, wv0, ev0⟩ := grown_low 0 (.inl rfl) l t w hw (by omega) hlen hg fl w1.1 hlt (by omega)
        rw [ev1 k hk, ev0 k hk, Option.bind_some, Option.bind_some]
        have hd : decide ((l.length : Int) > 1) = true := by simp; omega
        have hz1 : holdsI 3 v1 0 = false := not_below lv1
        have hz0 : holdsI 3 v0 0 = false := not_below lv0
        dsimp only
        rw [hd, if_pos (by decide), if_pos (by decide), holds_eq, holds_val wv1 word0, Option.bind_some, hz1, if_neg (by decide), holds_eq, holds_val wv0 word0, Option.bind_some, hz0]
        rfl
    · have hf : ((r2.length : Int) != (l.length : Int)) = true := by simpa using c2
      rw [hf]; exact jt
  · rw [if_neg c1]; exact jt
end Go.Proofs.YthhbbmebfmfgjaaGreatDoor.PB
