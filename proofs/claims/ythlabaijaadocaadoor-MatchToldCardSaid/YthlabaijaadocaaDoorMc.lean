import Derived.Lib.ValidLaws
import Derived.Lib.Small
import Derived.Shelf.Unicode.DecodeSlow
import Derived.Test.YthlabaijaadocaaDoorMa
/-! The runes of a text, plainly. No program in sight. -/
namespace Go.Proofs.YthlabaijaadocaaDoor
namespace Ut
open Go.Lib

def rnGo : Nat → List UInt8 → List Int
  | 0, _ => []
  | k + 1, l => if l = [] then [] else ((decodeL l).1 : Int) :: rnGo k (l.drop (decodeL l).2)
/-- the runes that bytes spell -/
def rn (l : List UInt8) : List Int := rnGo l.length l

theorem rnGo_nil : ∀ k, rnGo k [] = []
  | 0 => rfl
  | _ + 1 => by simp [rnGo]
theorem rnGo_fuel : ∀ (n m : Nat) (l : List UInt8), l.length ≤ n → l.length ≤ m → rnGo n l = rnGo m l
  | 0, m, l, hn, _ => by
    have : l = [] := List.eq_nil_of_length_eq_zero (by omega)
    subst this; rw [rnGo_nil, rnGo_nil]
  | n + 1, 0, l, _, hm => by
    have : l = [] := List.eq_nil_of_length_eq_zero (by omega)
    subst this; rw [rnGo_nil, rnGo_nil]
  | n + 1, m + 1, l, hn, hm => by
    unfold rnGo
    by_cases hne : l = []
    · simp [hne]
    · have hw := decodeL_width l
      have hl : 0 < l.length := List.length_pos_iff.2 hne
      rw [if_neg hne, if_neg hne, rnGo_fuel n m (l.drop (decodeL l).2) (by rw [List.length_drop]; omega) (by rw [List.length_drop]; omega)]
theorem rn_nil : rn [] = [] := rfl
theorem rn_step (l : List UInt8) (hne : l ≠ []) : rn l = ((decodeL l).1 : Int) :: rn (l.drop (decodeL l).2) := by
  have hl : 0 < l.length := List.length_pos_iff.2 hne
  have hw := decodeL_width l
  obtain ⟨n, hn⟩ : ∃ n, l.length = n + 1 := ⟨l.length - 1, by omega⟩
  unfold rn
  rw [hn]
  show (if l = [] then [] else _) = _
  rw [if_neg hne, rnGo_fuel n (l.drop (decodeL l).2).length _ (by rw [List.length_drop]; omega) (Nat.le_refl _)]
theorem rn_eq_nil {l : List UInt8} (h : rn l = []) : l = [] := by
  by_cases hne : l = []
  · exact hne
  · rw [rn_step l hne] at h; cases h

/-- what is decoded, and is no fault, is as long as RuneLen says -/
theorem decode_len {l : List UInt8} (_hne : l ≠ []) (hv : ¬ ((decodeL l).1 = 65533 ∧ (decodeL l).2 = 1)) : runeLen ((decodeL l).1 : Int) = ((decodeL l).2 : Int) := by
  rw [decodeL_N] at *
  generalize l.length = n at *
  have b0 := (l.getD 0 0).toNat_lt
  have b1 := (l.getD 1 0).toNat_lt
  have b2 := (l.getD 2 0).toNat_lt
  have b3 := (l.getD 3 0).toNat_lt
  generalize (l.getD 0 0).toNat = x0 at *
  generalize (l.getD 1 0).toNat = x1 at *
  generalize (l.getD 2 0).toNat = x2 at *
  generalize (l.getD 3 0).toNat = x3 at *
  unfold decodeN at *
  unfold runeLen
  split at hv
  · rename_i h; simp only [h, if_true]; split <;> (repeat' split) <;> simp at * <;> omega
  · rename_i h
    simp only [h, if_false]
    split at hv
    · rename_i h2
      simp only [h2, and_self, if_true]
      split at hv
      · rename_i h3; simp only [h3, if_true]; (repeat' split) <;> simp at * <;> omega
      · exact absurd ⟨rfl, rfl⟩ hv
    · rename_i h2
      simp only [h2, if_false]
      split at hv
      · rename_i h3
        simp only [h3, and_self, if_true]
        split at hv
        · rename_i h4; simp only [h4, and_self, if_true]; (repeat' split) <;> simp at * <;> omega
        · exact absurd ⟨rfl, rfl⟩ hv
      · rename_i h3
        simp only [h3, if_false]
        split at hv
        · rename_i h4
          simp only [h4, and_self, if_true]
          split at hv
          · rename_i h5; simp only [h5, and_self, if_true]; (repeat' split) <;> simp at * <;> omega
          · exact absurd ⟨rfl, rfl⟩ hv
        · exact absurd ⟨rfl, rfl⟩ hv

/-- at a place of a text whose rest is valid the runes l are left -/
structure Pos (s : ByteArray) (p : Nat) (l : List Int) : Prop where
  le : p ≤ s.size
  valid : validD (s.data.toList.drop p) = true
  runes : rn (s.data.toList.drop p) = l

theorem Pos.start {s : ByteArray} (h : validD s.data.toList = true) : Pos s 0 (rn s.data.toList) := ⟨Nat.zero_le _, by simpa using h, by simp⟩
theorem Pos.nil {s : ByteArray} {p : Nat} (h : Pos s p []) : p = s.size := by
  have := rn_eq_nil h.runes
  have h2 := congrArg List.length this
  rw [List.length_drop, tl_len] at h2
  have := h.le
  simp at h2; omega
theorem Pos.cons {s : ByteArray} {p : Nat} {c : Int} {l : List Int} (h : Pos s p (c :: l)) : p < s.size ∧ ∃ n : Nat, (decodeGo (s.extract p s.size)).1 = c.toNat ∧ (decodeGo (s.extract p s.size)).2 = n ∧ 0 ≤ c ∧ c ≤ 1114111 ∧ ¬ (c = 65533 ∧ n = 1) ∧ 1 ≤ n ∧ runeLen c = n ∧ Pos s (p + n) l := by
  have hne : s.data.toList.drop p ≠ [] := fun e => by have := h.runes; rw [e, rn_nil] at this; cases this
  have hlt : p < s.size := by
    have := List.length_pos_iff.2 hne
    rw [List.length_drop, tl_len] at this; omega
  have hr := h.runes
  rw [rn_step _ hne] at hr
  obtain ⟨hc, hl⟩ := List.cons.inj hr
  have hv := h.valid
  rw [validD_step _ hne] at hv
  have hv1 : ¬ ((decodeL (s.data.toList.drop p)).1 = 65533 ∧ (decodeL (s.data.toList.drop p)).2 = 1) := fun e => by rw [if_pos e] at hv; cases hv
  rw [if_neg hv1] at hv
  have hlen := decode_len hne hv1
  have hrune := decodeL_rune (s.data.toList.drop p)
  have hw := decodeL_width (s.data.toList.drop p)
  have hle := decodeL_le _ hne
  rw [List.length_drop, tl_len] at hle
  have hd : decodeGo (s.extract p s.size) = decodeL (s.data.toList.drop p) := by
    unfold decodeGo
    have e : (s.extract p s.size).data.toList = s.data.toList.drop p := Lib.extract_to_end s p
    rw [if_neg (by
      intro e2
      have := congrArg List.length e
      rw [tl_len, e2, List.length_drop, tl_len] at this; omega), ← decodeL_drop (s.extract p s.size) 0, List.drop_zero, e]
  refine ⟨hlt, (decodeL (s.data.toList.drop p)).2, by rw [hd, ← hc]; simp, by rw [hd], by omega, by omega, fun e => hv1 ⟨by omega, e.2⟩, hw, by rw [← hc]; exact hlen, ⟨by omega, ?_, ?_⟩⟩
  · rw [List.drop_drop] at hv; exact hv
  · rw [List.drop_drop] at hl; exact hl
end Ut
end Go.Proofs.YthlabaijaadocaaDoor
