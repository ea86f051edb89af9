import Derived.Test.YthhbbmebfmfgjaaGreatDoorPDx14
import Derived.Test.YthhbbmebfmfgjaaGreatDoorPuVa
/-! EvalSorts: plain law. -/
namespace Go.Proofs.YthhbbmebfmfgjaaGreatDoor.PD
open Go.RowKit Go.Proofs.YthhbbmebfmfgjaaGreatDoorW.PrintWords Go.Proofs.YthhbbmebfmfgjaaGreatDoorW.PrintLast

theorem live4_20 : manometerlaw27_live.f 20 = some true := by kernel_rfl
theorem live4_some {k : Nat} (hk : 20 ≤ k) : manometerlaw27_live.f k = some true := by
  induction hk with
  | refl => exact live4_20
  | step _ ih => exact manometerlaw27_live.mono _ _ ih

theorem short_loop (x0 y : List S128) : ∀ (m k : Nat) (i : Int), 0 ≤ i → i ≤ y.length → y.length ≤ 20 → ((y.length : Int) - i).toNat ≤ m → m < k → ∃ b, manometerlaw27_short.l0 k x0 y y.length i = some b ∧ (b = true → x0.length ≤ 20) := by
  intro m
  induction m with
  | zero =>
    intro k i h0 h1 hb hm hk
    obtain ⟨k, rfl⟩ : ∃ q, k = q + 1 := ⟨k - 1, by omega⟩
    simp only [manometerlaw27_short.l0]
    rw [if_neg (by omega)]
    exact ⟨_, rfl, fun h => by have := of_decide_eq_true h; omega⟩
  | succ m ih =>
    intro k i h0 h1 hb hm hk
    obtain ⟨k, rfl⟩ : ∃ q, k = q + 1 := ⟨k - 1, by omega⟩
    simp only [manometerlaw27_short.l0]
    by_cases hi : i < y.length
    · have hw : wrap64 (i + 1) = i + 1 := by unfold wrap64; omega
      rw [if_pos hi, if_pos h0, if_pos hi, hw]
      split
      · exact ⟨_, rfl, fun h => by cases h⟩
      · exact ih k (i + 1) (by omega) (by omega) hb (by omega) (by omega)
    · rw [if_neg hi]
      exact ⟨_, rfl, fun h => by have := of_decide_eq_true h; omega⟩

theorem short_val (l : List S128) (k : Nat) (hk : 20 < k) : ∃ b, manometerlaw27_short.f k l = some b ∧ (b = true → l.length ≤ 20) := by
  unfold manometerlaw27_short.f
  rw [if_pos (by unfold mn; omega), if_pos (by unfold mn; omega)]
  simp only [Option.bind_some]
  have hl : (l.take (mn (l.length : Int) 20).toNat).length ≤ 20 := by rw [List.length_take]; unfold mn; omega
  exact short_loop l _ 20 k 0 (by omega) (by omega) hl (by omega) hk

theorem few_loop (x0 y : List S33) : ∀ (m k : Nat) (i : Nat), i ≤ y.length → y.length ≤ 24 → y.length - i ≤ m → m + 21 < k →
    ∃ b, manometerlaw27_few.l0 k x0 y y.length (i : Int) = some b ∧ (b = true → x0.length ≤ 24 ∧ ∀ j, i ≤ j → (hj : j < y.length) → (y[j]).f0.length ≤ 20) := by
  intro m
  induction m with
  | zero =>
    intro k i h1 hb hm hk
    obtain ⟨k, rfl⟩ : ∃ q, k = q + 1 := ⟨k - 1, by omega⟩
    simp only [manometerlaw27_few.l0]
    rw [if_neg (by omega)]
    exact ⟨_, rfl, fun h => ⟨by have := of_decide_eq_true h; omega, fun j h2 h3 => by omega⟩⟩
  | succ m ih =>
    intro k i h1 hb hm hk
    obtain ⟨k, rfl⟩ : ∃ q, k = q + 1 := ⟨k - 1, by omega⟩
    simp only [manometerlaw27_few.l0]
    by_cases hi : i < y.length
    · have hw : wrap64 ((i : Int) + 1) = ((i + 1 : Nat) : Int) := by unfold wrap64; omega
      have hr : rd_T33 y (i : Int) = y[i] := by unfold rd_T33; simp [List.getD_eq_getElem?_getD, hi]
      obtain ⟨b, e, hb2⟩ := short_val (y[i]).f0 k (by omega)
      rw [if_pos (by omega), if_pos (by omega), if_pos (by omega), hw, hr, e, Option.bind_some]
      cases b with
      | false => exact ⟨_, rfl, fun h => by cases h⟩
      | true =>
        rw [if_pos rfl]
        obtain ⟨b, e, h⟩ := ih k (i + 1) (by omega) hb (by omega) (by omega)
        refine ⟨b, e, fun hb => ⟨(h hb).1, fun j h2 h3 => ?_⟩⟩
        by_cases hij : j = i
        · subst hij; exact hb2 rfl
        · exact (h hb).2 j (by omega) h3
    · rw [if_neg (by omega)]
      exact ⟨_, rfl, fun h => ⟨by have := of_decide_eq_true h; omega, fun j h2 h3 => by omega⟩⟩

theorem few_val (l : List S33) (k : Nat) (hk : 50 < k) : ∃ b, manometerlaw27_few.f k l = some b ∧ (b = true → l.length ≤ 24 ∧ ∀ x ∈ l, x.f0.length ≤ 20) := by
  unfold manometerlaw27_few.f
  rw [if_pos (by unfold mn; omega), if_pos (by unfold mn; omega)]
  simp only [Option.bind_some]
  have hl : (l.take (mn (l.length : Int) 24).toNat).length ≤ 24 := by rw [List.length_take]; unfold mn; omega
  obtain ⟨b, e, h⟩ := few_loop l (l.take (mn (l.length : Int) 24).toNat) 24 k 0 (by omega) hl (by omega) (by omega)
  refine ⟨b, e, fun hb => ⟨(h hb).1, fun x hx => ?_⟩⟩
  obtain ⟨h1, h2⟩ := h hb
  rw [List.take_of_length_le (by unfold mn; omega)] at h2
  obtain ⟨j, hj, rfl⟩ := List.getElem_of_mem hx
  exact h2 j (by omega) hj

theorem same5_refl (l : List S128) (hb : l.length ≤ 1000) : ∀ (m k i : Nat), i ≤ l.length → l.length - i ≤ m → m < k → manometerref05_Same.l0 k l l (l.length : Int) (i : Int) = some true := by
  intro m
  induction m with
  | zero =>
    intro k i hi hm hk
    obtain ⟨k, rfl⟩ : ∃ q, k = q + 1 := ⟨k - 1, by omega⟩
    simp only [manometerref05_Same.l0]
    rw [if_neg (by omega)]
  | succ m ih =>
    intro k i hi hm hk
    obtain ⟨k, rfl⟩ : ∃ q, k = q + 1 := ⟨k - 1, by omega⟩
    simp only [manometerref05_Same.l0]
    by_cases hlt : i < l.length
    · have hw : wrap64 ((i : Int) + 1) = ((i + 1 : Nat) : Int) := by unfold wrap64; omega
      rw [if_pos (by omega), if_pos (by omega), if_pos (by omega), if_pos (by omega), if_neg (by simp), hw]
      exact ih k (i + 1) (by omega) (by omega) (by omega)
    · rw [if_neg (by omega)]

theorem same27_refl (l : List S33) (hb : l.length ≤ 1000) (hx : ∀ x ∈ l, x.f0.length ≤ 1000) : ∀ (m k i : Nat), i ≤ l.length → l.length - i ≤ m → m + 1001 < k → manometerref27_Same.l0 k l l (l.length : Int) (i : Int) = some true := by
  intro m
  induction m with
  | zero =>
    intro k i hi hm hk
    obtain ⟨k, rfl⟩ : ∃ q, k = q + 1 := ⟨k - 1, by omega⟩
    simp only [manometerref27_Same.l0]
    rw [if_neg (by omega)]
  | succ m ih =>
    intro k i hi hm hk
    obtain ⟨k, rfl⟩ : ∃ q, k = q + 1 := ⟨k - 1, by omega⟩
    simp only [manometerref27_Same.l0]
    by_cases hlt : i < l.length
    · have hw : wrap64 ((i : Int) + 1) = ((i + 1 : Nat) : Int) := by unfold wrap64; omega
      have hr : rd_T33 l (i : Int) = l[i] := by unfold rd_T33; simp [List.getD_eq_getElem?_getD, hlt]
      have hs : manometerref05_Same.f k (l[i]).f0 (l[i]).f0 = some true := by
        unfold manometerref05_Same.f
        rw [if_pos rfl]
        have h1 := hx _ (List.getElem_mem hlt)
        exact same5_refl _ h1 (l[i]).f0.length k 0 (by omega) (by omega) (by omega)
      rw [if_pos (by omega), if_pos (by omega), if_pos (by omega), if_pos (by omega), if_pos trivial, hr, hs, Option.bind_some, if_pos rfl, hw]
      exact ih k (i + 1) (by omega) (by omega) (by omega)
    · rw [if_neg (by omega)]

theorem same27_self (l : List S33) (hb : l.length ≤ 1000) (hx : ∀ x ∈ l, x.f0.length ≤ 1000) (k : Nat) (hk : l.length + 1001 < k) : manometerref27_Same.f k l l = some true := by
  unfold manometerref27_Same.f
  rw [if_pos rfl]
  exact same27_refl l hb hx l.length k 0 (by omega) (by omega) hk

theorem sort_val (l : List S33) (hb : l.length ≤ 24) (hx : ∀ x ∈ l, x.f0.length ≤ 20) : eval_Sort.f l = some ((ordV l).1, if (ordV l).2 = true then 0 else 52) := by
  unfold eval_Sort.f
  rw [if_pos]
  simp only [Bool.and_eq_true, decide_eq_true_eq, List.all_eq_true]
  exact ⟨by omega, fun x h => by have := hx x h; omega⟩


open Ut
/-- a text that can be walked: no longer than the machine's numbers go -/
def szOk (l : List S33) : Prop := ∀ x ∈ l, ∀ y ∈ x.f0, y.f0.size ≤ 9223372036854775807
theorem letter_val (c : Int) : manometerref05_Letter.f c = some (letB c) := by
  unfold manometerref05_Letter.f letB firB digB
  by_cases h1 : c ≥ 97 <;> by_cases h2 : c ≤ 122 <;> by_cases h3 : c ≥ 65 <;> by_cases h4 : c ≤ 90 <;> by_cases h5 : c ≥ 48 <;> by_cases h6 : c ≤ 57 <;> by_cases h7 : c = 95 <;> simp [h1, h2, h3, h4, h5, h6, h7] <;> omega
theorem bt_getD (s : ByteArray) (j : Nat) (hj : j < s.size) : bt s (j : Int) = ((s[j]'hj).toNat : Int) := by
  unfold bt; simp only [Int.toNat_natCast]; rw [dif_pos hj]
theorem named_go (s : ByteArray) (hs : s.size ≤ 9223372036854775807) : ∀ (m k i : Nat), i ≤ s.size → s.size - i ≤ m → m < k → (∀ j (hj : j < s.size), j < i → letB (s[j]'hj).toNat = true) → manometerref05_Named.l0 k s (s.size : Int) (i : Int) = some (namedF s.data.toList) := by
  intro m
  induction m with
  | zero =>
    intro k i hi hm hk hl
    obtain ⟨k, rfl⟩ : ∃ q, k = q + 1 := ⟨k - 1, by omega⟩
    simp only [manometerref05_Named.l0]
    rw [if_neg (by omega)]
    by_cases h1 : 1 ≤ s.size
    · rw [if_pos (by omega)]
      by_cases h2 : s.size ≤ 64
      · rw [if_pos (by omega), if_pos (by omega)]
        have e : bt s 0 = ((s[0]'h1).toNat : Int) := bt_getD s 0 h1
        have hl0 := hl 0 h1 (by omega)
        rw [e]
        have hn := (s[0]'h1).toNat_lt
        by_cases hf : firB ((s[0]'h1).toNat : Int) = true
        · rw [namedF_yes h1 h2 (fun j hj => hl j hj (by omega)) hf]
          generalize (s[0]'h1).toNat = c at *
          by_cases h3 : (c : Int) < 48
          · rw [if_pos h3]
          · rw [if_neg h3]
            simp [firB] at hf
            simp; omega
        · have hf2 : firB ((s[0]'h1).toNat : Int) = false := by simpa using hf
          rw [namedF_no_first h1 hf2]
          have hd : digB ((s[0]'h1).toNat : Int) = true := by
            have := hl0
            unfold letB at this
            rw [hf2] at this; simpa using this
          generalize (s[0]'h1).toNat = c at *
          simp [digB] at hd
          rw [if_neg (by omega)]
          simp; omega
      · rw [if_neg (by omega)]
        have : namedF s.data.toList = false := by unfold namedF; rw [tl_len, decide_eq_false h2]; simp
        rw [this]
    · rw [if_neg (by omega)]
      have : namedF s.data.toList = false := by unfold namedF; rw [tl_len, decide_eq_false h1]; simp
      rw [this]
  | succ m ih =>
    intro k i hi hm hk hl
    by_cases hlt : i < s.size
    · obtain ⟨k, rfl⟩ : ∃ q, k = q + 1 := ⟨k - 1, by omega⟩
      have hw : wrap64 ((i : Int) + 1) = ((i + 1 : Nat) : Int) := by unfold wrap64; omega
      simp only [manometerref05_Named.l0]
      rw [if_pos (by omega), if_pos (by omega), if_pos (by omega), letter_val, Option.bind_some, bt_getD s i hlt, hw]
      by_cases h : letB ((s[i]'hlt).toNat : Int) = true
      · rw [if_pos h]
        refine ih k (i + 1) (by omega) (by omega) (by omega) fun j hj hji => ?_
        by_cases e : j = i
        · subst e; exact h
        · exact hl j hj (by omega)
      · rw [if_neg h, namedF_no_letter hlt (by simpa using h)]
    · exact ih k i hi (by omega) (by omega) hl
theorem named_val (s : ByteArray) (hs : s.size ≤ 9223372036854775807) (k : Nat) (hk : s.size < k) : manometerref05_Named.f k s = some (namedF s.data.toList) := by
  unfold manometerref05_Named.f
  exact named_go s hs s.size k 0 (by omega) (by omega) hk (fun j _ h => by omega)

theorem valid_go (s : ByteArray) (hs : s.size ≤ 128) : ∀ (m k p : Nat), p ≤ s.size → s.size - p ≤ m → m + 10 < k → manometerref05_Valid.l0 k s (p : Int) = some (Lib.validD (s.data.toList.drop p)) := by
  intro m
  induction m with
  | zero =>
    intro k p hi hm hk
    obtain ⟨k, rfl⟩ : ∃ q, k = q + 1 := ⟨k - 1, by omega⟩
    simp only [manometerref05_Valid.l0]
    rw [if_neg (by omega), List.drop_eq_nil_of_le (by rw [tl_len]; omega), Lib.validD_nil]
  | succ m ih =>
    intro k p hi hm hk
    by_cases hlt : p < s.size
    · obtain ⟨k, rfl⟩ : ∃ q, k = q + 1 := ⟨k - 1, by omega⟩
      have st := step_val s p (k - 9) hlt (by omega)
      rw [show k - 9 + 9 = k by omega] at st
      have hne : s.data.toList.drop p ≠ [] := fun e => by have := congrArg List.length e; rw [List.length_drop, tl_len] at this; simp at this; omega
      simp only [manometerref05_Valid.l0]
      rw [if_pos (by omega), st, Option.bind_some, Lib.validD_step _ hne]
      have hw := Lib.decodeL_width (s.data.toList.drop p)
      have hle := Lib.decodeL_le _ hne
      rw [List.length_drop, tl_len] at hle
      unfold stp
      by_cases h : (Lib.decodeL (s.data.toList.drop p)).1 = 65533 ∧ (Lib.decodeL (s.data.toList.drop p)).2 = 1
      · rw [if_pos h, if_pos h, if_pos rfl]
      · rw [if_neg h, if_neg h, if_neg (by omega)]
        have hw2 : wrap64 ((p : Int) + ((Lib.decodeL (s.data.toList.drop p)).2 : Int)) = ((p + (Lib.decodeL (s.data.toList.drop p)).2 : Nat) : Int) := wa _ _ (by omega)
        rw [hw2, ih k _ (by omega) (by omega) (by omega), List.drop_drop]
    · exact ih k p hi (by omega) (by omega)
theorem valued_val (s : ByteArray) (k : Nat) (hk : 150 < k) : manometerref05_Valued.f k s = some (valuedF s) := by
  unfold manometerref05_Valued.f valuedF
  by_cases h : s.size ≤ 128
  · have := valid_go s h s.size k 0 (by omega) (by omega) (by omega)
    rw [if_pos (by omega), decide_eq_true h]
    unfold manometerref05_Valid.f
    rw [show (0 : Int) = ((0 : Nat) : Int) from rfl, this]; rfl
  · rw [if_neg (by omega), decide_eq_false h]; rfl

theorem rd128_get {l : List S128} {i : Nat} (h : i < l.length) : rd_T128 l (i : Int) = l[i] := by unfold rd_T128; simp [List.getD_eq_getElem?_getD, h]
theorem rd33_get {l : List S33} {i : Nat} (h : i < l.length) : rd_T33 l (i : Int) = l[i] := by unfold rd_T33; simp [List.getD_eq_getElem?_getD, h]

/-- both tell the same of labels -/
theorem right5_go (l : List S128) (hl : l.length ≤ 16) (B : Nat) (hs : ∀ y ∈ l, y.f0.size ≤ 9223372036854775807 ∧ y.f0.size ≤ B) : ∀ (m k k2 i : Nat), i ≤ l.length → l.length - i ≤ m → m < k → 2 * m + B + 200 < k2 → ∃ c, labels_Right.l0 k l l (l.length : Int) (i : Int) = some c ∧ manometerref05_Right.l0 k2 l l (l.length : Int) (i : Int) = some c := by
  intro m
  induction m with
  | zero =>
    intro k k2 i hi hm hk hk2
    obtain ⟨k, rfl⟩ : ∃ q, k = q + 1 := ⟨k - 1, by omega⟩
    obtain ⟨k2, rfl⟩ : ∃ q, k2 = q + 1 := ⟨k2 - 1, by omega⟩
    simp only [labels_Right.l0, manometerref05_Right.l0]
    rw [if_neg (by omega), if_neg (by omega)]
    exact ⟨_, rfl, rfl⟩
  | succ m ih =>
    intro k k2 i hi hm hk hk2
    by_cases hlt : i < l.length
    · obtain ⟨k, rfl⟩ : ∃ q, k = q + 1 := ⟨k - 1, by omega⟩
      obtain ⟨k2, rfl⟩ : ∃ q, k2 = q + 2 := ⟨k2 - 2, by omega⟩
      have hw : wrap64 ((i : Int) + 1) = ((i + 1 : Nat) : Int) := by unfold wrap64; omega
      obtain ⟨c, g1, g2⟩ := ih k k2 (i + 1) (by omega) (by omega) (by omega) (by omega)
      obtain ⟨s1, s2⟩ := hs _ (List.getElem_mem hlt)
      have n1 := named_val (l[i]).f0 s1 (k2 + 1) (by omega)
      have v1 := valued_val (l[i]).f1 (k2 + 1) (by omega)
      simp only [labels_Right.l0, manometerref05_Right.l0, manometerref05_Right.j1, labels_wrong.f, labels_Named.f, labels_Valued.f]
      have f1 : (i : Int) < (l.length : Int) := by omega
      have f2 : (0 : Int) ≤ (i : Int) := by omega
      simp only [f1, f2, if_true, rd128_get hlt, hw, n1, v1, Option.bind_some]
      by_cases a1 : namedF (l[i]).f0.data.toList = true
      · rw [if_pos a1, if_pos a1]
        by_cases a2 : valuedF (l[i]).f1 = true
        · rw [if_pos a2, if_pos a2, if_neg (by decide)]
          by_cases a3 : (l[i]).f1.toList = []
          · have b3 : ((l[i]).f1.toList == ([] : List UInt8)) = true := by rw [a3]; rfl
            rw [if_pos a3, if_pos b3]
            exact ⟨51, rfl, rfl⟩
          · have b3 : ((l[i]).f1.toList == ([] : List UInt8)) = false := beq_eq_false_iff_ne.mpr a3
            rw [if_neg a3, b3]
            simp only [Option.bind_some, if_true, Bool.false_eq_true, if_false]
            by_cases a4 : (i : Int) > 0
            · have hw2 : wrap64 ((i : Int) - 1) = ((i - 1 : Nat) : Int) := by unfold wrap64; omega
              have f3 : ((i - 1 : Nat) : Int) < (l.length : Int) := by omega
              have f4 : (0 : Int) ≤ ((i - 1 : Nat) : Int) := by omega
              simp only [a4, hw2, f3, f4, if_true]
              by_cases a5 : Op.bytesLess (rd_T128 l ((i - 1 : Nat) : Int)).f0.toList (l[i]).f0.toList = true
              · rw [if_pos a5, if_pos a5]; exact ⟨c, g1, g2⟩
              · rw [if_neg a5, if_neg a5]; exact ⟨53, rfl, rfl⟩
            · rw [if_neg a4, if_neg a4]; exact ⟨c, g1, g2⟩
        · rw [if_neg a2, if_neg a2]; exact ⟨51, rfl, rfl⟩
      · rw [if_neg a1, if_neg a1]; exact ⟨50, rfl, rfl⟩
    · exact ih k k2 i hi (by omega) (by omega) (by omega)
theorem right5_val (l : List S128) (B : Nat) (hs : ∀ y ∈ l, y.f0.size ≤ 9223372036854775807 ∧ y.f0.size ≤ B) (k : Nat) (hk : B + 300 < k) : ∃ c, labels_Right.f k l = some c ∧ manometerref05_Right.f k l = some c := by
  unfold labels_Right.f manometerref05_Right.f
  by_cases h : (l.length : Int) > 16
  · rw [if_pos h, if_pos h]; exact ⟨3, rfl, rfl⟩
  · rw [if_neg h, if_neg h]
    exact right5_go l (by omega) B hs 16 k k 0 (by omega) (by omega) (by omega) (by omega)
end Go.Proofs.YthhbbmebfmfgjaaGreatDoor.PD
