import Derived.Lib.RuneCount
import Derived.Lib.ValidLaws
import Derived.Test.YtmbfpichaaanpaaGreatDoorRows
import Derived.WalkSpells
import Derived.WalkLawsBesides
import Derived.Outline
import Derived.Deep.QuietTactic
import Derived.BigQuiet
import Derived.Below
import Derived.Lib.Hide
import Derived.Laws.RangeString
import Derived.Laws.RangeAny
import Derived.LoopTactic
import Derived.Lib.Small
import Derived.Shelf.Unicode.DecodeSlow
/-! Runes of a text, plainly; names. No program in sight. -/
namespace Go.Proofs.YtmbfpichaaanpaaGreatDoor
namespace Ut
open Go.Lib

/-- a letter of a name, a digit -/
def digB (c : Int) : Bool := decide (c ≥ 48) && decide (c ≤ 57)
def firB (c : Int) : Bool := (decide (c ≥ 97) && decide (c ≤ 122)) || (decide (c ≥ 65) && decide (c ≤ 90)) || decide (c = 95)
def letB (c : Int) : Bool := firB c || digB c
/-- is a text a name? -/
def namedF (l : List UInt8) : Bool := decide (1 ≤ l.length) && decide (l.length ≤ 64) && l.all (fun b => letB b.toNat) && firB (l.getD 0 0).toNat

theorem letB_high {c : Int} (h : 128 ≤ c) : letB c = false := by
  unfold letB firB digB
  rw [decide_eq_false (show ¬ c ≤ 122 by omega), decide_eq_false (show ¬ c ≤ 90 by omega), decide_eq_false (show ¬ c = 95 by omega), decide_eq_false (show ¬ c ≤ 57 by omega)]
  simp
theorem firB_letB {c : Int} (h : firB c = true) : letB c = true := by unfold letB; rw [h]; rfl

theorem tl_get (s : ByteArray) (j : Nat) (hj : j < s.size) (h : j < s.data.toList.length) : s.data.toList[j]'h = s[j]'hj := Array.getElem_toList _
theorem tl_len (s : ByteArray) : s.data.toList.length = s.size := by simp
theorem tl_getD (s : ByteArray) (hj : 0 < s.size) : s.data.toList.getD 0 0 = s[0]'hj := by
  rw [List.getD_eq_getElem?_getD, List.getElem?_eq_getElem (by rw [tl_len]; exact hj), Option.getD_some, tl_get s 0 hj]
theorem namedF_no_letter {s : ByteArray} {pos : Nat} (hp : pos < s.size) (h : letB (s[pos]'hp).toNat = false) : namedF s.data.toList = false := by
  unfold namedF
  have : (s.data.toList.all fun b => letB b.toNat) = false := by
    rw [List.all_eq_false]
    exact ⟨s.data.toList[pos]'(by rw [tl_len]; exact hp), List.getElem_mem _, by rw [tl_get s pos hp, h]; simp⟩
  rw [this]; simp
theorem namedF_no_first {s : ByteArray} (hp : 0 < s.size) (h : firB (s[0]'hp).toNat = false) : namedF s.data.toList = false := by
  unfold namedF
  rw [tl_getD s hp, h]; simp
theorem namedF_yes {s : ByteArray} (h1 : 1 ≤ s.size) (h2 : s.size ≤ 64) (hl : ∀ j (hj : j < s.size), letB (s[j]'hj).toNat = true) (hf : firB (s[0]'h1).toNat = true) : namedF s.data.toList = true := by
  unfold namedF
  have : (s.data.toList.all fun b => letB b.toNat) = true := by
    rw [List.all_eq_true]
    intro b hb
    obtain ⟨j, hj, rfl⟩ := List.getElem_of_mem hb
    rw [tl_get s j (by rw [← tl_len]; exact hj)]
    exact hl j _
  rw [this, tl_getD s h1, hf, tl_len, decide_eq_true h1, decide_eq_true h2]; rfl
/-- the rune that stands at a place, and its first byte -/
theorem dec_letB {s : ByteArray} {pos : Nat} (hp : pos < s.size) : letB ((Utf8.decode s pos).1 : Int) = letB ((s[pos]'hp).toNat : Int) ∧ firB ((Utf8.decode s pos).1 : Int) = firB ((s[pos]'hp).toNat : Int) ∧ (letB ((s[pos]'hp).toNat : Int) = true → (Utf8.decode s pos).2 = 1) := by
  by_cases ha : (s[pos]'hp).toNat < 128
  · rw [decode_ascii s pos hp ha]; exact ⟨rfl, rfl, fun _ => rfl⟩
  · have h := decode_high s pos hp (by omega)
    have e1 := letB_high (c := ((Utf8.decode s pos).1 : Int)) (by omega)
    have e2 := letB_high (c := ((s[pos]'hp).toNat : Int)) (by omega)
    have f1 : firB ((Utf8.decode s pos).1 : Int) = false := by cases e : firB ((Utf8.decode s pos).1 : Int) with | false => rfl | true => rw [firB_letB e] at e1; cases e1
    have f2 : firB ((s[pos]'hp).toNat : Int) = false := by cases e : firB ((s[pos]'hp).toNat : Int) with | false => rfl | true => rw [firB_letB e] at e2; cases e2
    rw [e1, e2, f1, f2]
    exact ⟨rfl, rfl, fun h => by cases h⟩
end Ut
end Go.Proofs.YtmbfpichaaanpaaGreatDoor

/-! Walks: a letter, a name. -/
namespace Go.Proofs.YtmbfpichaaanpaaGreatDoor
open Go.RowKit Ut

theorem ret_bb {a b c d : Bool} (h : a = c) (k : b = d) : Ending.returned (.tuple #[.bool a, .bool b]) = Ending.returned (.tuple #[.bool c, .bool d]) := by rw [h, k]
def LetPost (c : Int) (w : World) (e : Ending) (w' : World) : Prop := e = .returned (.tuple #[.bool (letB c), .bool (firB c)]) ∧ w = w'
set_option maxRecDepth 100000 in
theorem letter_any (c : Int) (w : World) : Calls Tryz.prog 67 #[.int .i32 c] w (LetPost c w) := by
  go_enter Tryz.func67, Tryz.ntmps67
  go_wp2_with fail
  all_goals
    go_ret2
    refine ⟨ret_bb ?_ ?_, rfl⟩
    all_goals (rw [Bool.eq_iff_iff]; simp [letB, firB, digB]; try omega)

set_option maxRecDepth 100000 in
set_option maxHeartbeats 2000000 in
theorem named_any (s : ByteArray) (w : World) :
    Calls Tryz.prog 46 #[.string s] w fun e w' => e = .returned (.bool (namedF s.data.toList)) ∧ Below w.heap.size w w' := by
  have hlen := tl_len s
  by_cases h1 : 1 ≤ s.size
  · have hne : s.toList.isEmpty = false := by
      rw [ByteArray.toList_eq]
      cases e : s.data.toList with
      | nil => rw [e] at hlen; simp at hlen; omega
      | cons a b => rfl
    by_cases h64 : s.size ≤ 64
    · have hz : (s.size : Int) ≤ 64 := by omega
      have HL := Lib.hid hlen
      clear hlen
      go_enter Tryz.func46, Tryz.ntmps46
      go_wp2_with fail
      go_loopw [3, 4] (fun _ _ w' => ∃ pos, w' = w.iter s pos ∧ pos ≤ s.size ∧ Hid (∀ j (hj : j < s.size), j < pos → letB (s[j]'hj).toNat = true) ∧ Hid (0 < pos → firB (s[0]'h1).toNat = true)) (fun _ _ w' => s.size - w'.iterPos w.heap.size)
      case atStart => exact ⟨0, rfl, Nat.zero_le _, fun j hj h => by omega, fun h => by omega⟩
      case round =>
        obtain ⟨pos, rfl, hps, HA, HF⟩ := hrel
        by_cases hp : pos < s.size
        · obtain ⟨d1, d2, d3⟩ := dec_letB hp
          have hwd := Lib.decode_width_pos s pos hp
          have hnx : ∀ ty, (Instr.next (.pointer (some ⟨w.heap.size, 0, none⟩)) true ty).run Tryz.prog (w.iter s pos) = _ := fun ty => run_next_any w s pos ty hp
          have hle := decode_le s pos
          generalize (Utf8.decode s pos).1 = r at d1 d2 hnx hle
          generalize (Utf8.decode s pos).2 = wd at d3 hwd hnx
          have D3 := Lib.hid d3
          clear d3
          have C : Hid (∀ w, Calls Tryz.prog 67 #[.int .i32 r] w (LetPost r w)) := fun w => letter_any r w
          cases hL : letB (r : Int) with
          | false =>
            have NN := Lib.hid (namedF_no_letter hp (by rw [← d1]; exact hL))
            have HL2 := Lib.hid hL
            clear d1 d2 hL
            go_wp2_with fail
            refine (C.out _).mono ?_
            rintro e w1 ⟨rfl, rfl⟩
            rw [HL2.out]
            go_wp2_with fail
            go_ret
            rw [NN.out]
            exact ⟨rfl, ((Below.refl _ _).alloc (Nat.le_refl _) _)⟩
          | true =>
            have hb : letB ((s[pos]'hp).toNat : Int) = true := by rw [← d1]; exact hL
            have H1 := Lib.hid (D3.out hb)
            have HA2 : Hid (∀ j (hj : j < s.size), j < pos + 1 → letB (s[j]'hj).toNat = true) := fun j hj h => by
              by_cases e : j = pos
              · subst e; exact hb
              · exact HA.out j hj (by omega)
            have HL2 := Lib.hid hL
            clear hb hL d1
            cases hF : firB (r : Int) with
            | true =>
              have HF2 := Lib.hid hF
              have HFF : Hid (0 < pos + 1 → firB (s[0]'h1).toNat = true) := fun _ => by
                by_cases e : pos = 0
                · subst e; rw [← d2]; exact hF
                · exact HF.out (by omega)
              clear hF d2
              go_wp2_with fail
              refine (C.out _).mono ?_
              rintro e w1 ⟨rfl, rfl⟩
              rw [HL2.out, HF2.out]
              go_wp2_with fail
              all_goals
                go_roundw
                case rel => exact ⟨pos + 1, by rw [H1.out] <;> (congr 1; omega), by omega, HA2, HFF⟩
                case measure => simp; omega
            | false =>
              by_cases e : pos = 0
              · subst e
                have NN := Lib.hid (namedF_no_first hp (by rw [← d2]; exact hF))
                have HF2 := Lib.hid hF
                clear hF d2
                go_wp2_with fail
                refine (C.out _).mono ?_
                rintro e w1 ⟨rfl, rfl⟩
                rw [HL2.out, HF2.out]
                go_wp2_with fail
                go_ret
                rw [NN.out]
                exact ⟨rfl, ((Below.refl _ _).alloc (Nat.le_refl _) _)⟩
              · have HFF : Hid (0 < pos + 1 → firB (s[0]'h1).toNat = true) := fun _ => HF.out (by omega)
                have ez : ((pos : Int) == 0) = false := by simp; omega
                have HF2 := Lib.hid hF
                clear hF d2
                go_wp2_with fail
                refine (C.out _).mono ?_
                rintro e w1 ⟨rfl, rfl⟩
                rw [HL2.out, HF2.out]
                go_wp2_with fail
                go_roundw
                case rel => exact ⟨pos + 1, by rw [H1.out], by omega, HA2, HFF⟩
                case measure => simp; omega
        · have hnx : ∀ ty, (Instr.next (.pointer (some ⟨w.heap.size, 0, none⟩)) true ty).run Tryz.prog (w.iter s pos) = _ := fun ty => run_next_end w s pos ty hp
          have NN := Lib.hid (namedF_yes h1 h64 (fun j hj => HA.out j hj (by omega)) (HF.out (by omega)))
          go_wp2_with fail
          go_ret
          rw [NN.out]
          exact ⟨rfl, ((Below.refl _ _).alloc (Nat.le_refl _) _)⟩
    · have hz : ¬ (s.size : Int) ≤ 64 := by omega
      have NN : namedF s.data.toList = false := by unfold namedF; rw [hlen, decide_eq_false h64]; simp
      rw [NN]
      clear hlen
      go_enter Tryz.func46, Tryz.ntmps46
      go_wp2_with fail
      go_ret
      exact ⟨rfl, Below.refl _ _⟩
  · have NN : namedF s.data.toList = false := by unfold namedF; rw [hlen, decide_eq_false h1]; simp
    have hne : s.toList.isEmpty = true := by
      rw [ByteArray.toList_eq]
      cases e : s.data.toList with
      | nil => rfl
      | cons a b => rw [e] at hlen; simp at hlen; omega
    rw [NN]
    clear hlen
    go_enter Tryz.func46, Tryz.ntmps46
    go_wp2_with fail
    go_ret
    exact ⟨rfl, Below.refl _ _⟩
end Go.Proofs.YtmbfpichaaanpaaGreatDoor

/-! The runes of a text, plainly. No program in sight. -/
namespace Go.Proofs.YtmbfpichaaanpaaGreatDoor
namespace Ut
open Go.Lib

def rnGo : Nat → List UInt8 → List Int
  | 0, _ => []
  | k + 1, l => if l = [] then [] else ((decodeL l).1 : Int) :: rnGo k (l.drop (decodeL l).2)
/-- the runes that bytes spell -/
def rn (l : List UInt8) : List Int := rnGo l.length l

theorem rnGo_nil : ∀ k, rnGo k [] = []
  | 0 => rfl
  | _ + 1 => by simp [rnGo]
theorem rnGo_fuel : ∀ (n m : Nat) (l : List UInt8), l.length ≤ n → l.length ≤ m → rnGo n l = rnGo m l
  | 0, m, l, hn, _ => by
    have : l = [] := List.eq_nil_of_length_eq_zero (by omega)
    subst this; rw [rnGo_nil, rnGo_nil]
  | n + 1, 0, l, _, hm => by
    have : l = [] := List.eq_nil_of_length_eq_zero (by omega)
    subst this; rw [rnGo_nil, rnGo_nil]
  | n + 1, m + 1, l, hn, hm => by
    unfold rnGo
    by_cases hne : l = []
    · simp [hne]
    · have hw := decodeL_width l
      have hl : 0 < l.length := List.length_pos_iff.2 hne
      rw [if_neg hne, if_neg hne, rnGo_fuel n m (l.drop (decodeL l).2) (by rw [List.length_drop]; omega) (by rw [List.length_drop]; omega)]
theorem rn_nil : rn [] = [] := rfl
theorem rn_step (l : List UInt8) (hne : l ≠ []) : rn l = ((decodeL l).1 : Int) :: rn (l.drop (decodeL l).2) := by
  have hl : 0 < l.length := List.length_pos_iff.2 hne
  have hw := decodeL_width l
  obtain ⟨n, hn⟩ : ∃ n, l.length = n + 1 := ⟨l.length - 1, by omega⟩
  unfold rn
  rw [hn]
  show (if l = [] then [] else _) = _
  rw [if_neg hne, rnGo_fuel n (l.drop (decodeL l).2).length _ (by rw [List.length_drop]; omega) (Nat.le_refl _)]
theorem rn_eq_nil {l : List UInt8} (h : rn l = []) : l = [] := by
  by_cases hne : l = []
  · exact hne
  · rw [rn_step l hne] at h; cases h

/-- what is decoded, and is no fault, is as long as RuneLen says -/
theorem decode_len {l : List UInt8} (_hne : l ≠ []) (hv : ¬ ((decodeL l).1 = 65533 ∧ (decodeL l).2 = 1)) : runeLen ((decodeL l).1 : Int) = ((decodeL l).2 : Int) := by
  rw [decodeL_N] at *
  generalize l.length = n at *
  have b0 := (l.getD 0 0).toNat_lt
  have b1 := (l.getD 1 0).toNat_lt
  have b2 := (l.getD 2 0).toNat_lt
  have b3 := (l.getD 3 0).toNat_lt
  generalize (l.getD 0 0).toNat = x0 at *
  generalize (l.getD 1 0).toNat = x1 at *
  generalize (l.getD 2 0).toNat = x2 at *
  generalize (l.getD 3 0).toNat = x3 at *
  unfold decodeN at *
  unfold runeLen
  split at hv
  · rename_i h; simp only [h, if_true]; split <;> (repeat' split) <;> simp at * <;> omega
  · rename_i h
    simp only [h, if_false]
    split at hv
    · rename_i h2
      simp only [h2, and_self, if_true]
      split at hv
      · rename_i h3; simp only [h3, if_true]; (repeat' split) <;> simp at * <;> omega
      · exact absurd ⟨rfl, rfl⟩ hv
    · rename_i h2
      simp only [h2, if_false]
      split at hv
      · rename_i h3
        simp only [h3, and_self, if_true]
        split at hv
        · rename_i h4; simp only [h4, and_self, if_true]; (repeat' split) <;> simp at * <;> omega
        · exact absurd ⟨rfl, rfl⟩ hv
      · rename_i h3
        simp only [h3, if_false]
        split at hv
        · rename_i h4
          simp only [h4, and_self, if_true]
          split at hv
          · rename_i h5; simp only [h5, and_self, if_true]; (repeat' split) <;> simp at * <;> omega
          · exact absurd ⟨rfl, rfl⟩ hv
        · exact absurd ⟨rfl, rfl⟩ hv

/-- at a place of a text whose rest is valid the runes l are left -/
structure Pos (s : ByteArray) (p : Nat) (l : List Int) : Prop where
  le : p ≤ s.size
  valid : validD (s.data.toList.drop p) = true
  runes : rn (s.data.toList.drop p) = l

theorem Pos.start {s : ByteArray} (h : validD s.data.toList = true) : Pos s 0 (rn s.data.toList) := ⟨Nat.zero_le _, by simpa using h, by simp⟩
theorem Pos.nil {s : ByteArray} {p : Nat} (h : Pos s p []) : p = s.size := by
  have := rn_eq_nil h.runes
  have h2 := congrArg List.length this
  rw [List.length_drop, tl_len] at h2
  have := h.le
  simp at h2; omega
theorem Pos.cons {s : ByteArray} {p : Nat} {c : Int} {l : List Int} (h : Pos s p (c :: l)) : p < s.size ∧ ∃ n : Nat, (decodeGo (s.extract p s.size)).1 = c.toNat ∧ (decodeGo (s.extract p s.size)).2 = n ∧ 0 ≤ c ∧ c ≤ 1114111 ∧ ¬ (c = 65533 ∧ n = 1) ∧ 1 ≤ n ∧ runeLen c = n ∧ Pos s (p + n) l := by
  have hne : s.data.toList.drop p ≠ [] := fun e => by have := h.runes; rw [e, rn_nil] at this; cases this
  have hlt : p < s.size := by
    have := List.length_pos_iff.2 hne
    rw [List.length_drop, tl_len] at this; omega
  have hr := h.runes
  rw [rn_step _ hne] at hr
  obtain ⟨hc, hl⟩ := List.cons.inj hr
  have hv := h.valid
  rw [validD_step _ hne] at hv
  have hv1 : ¬ ((decodeL (s.data.toList.drop p)).1 = 65533 ∧ (decodeL (s.data.toList.drop p)).2 = 1) := fun e => by rw [if_pos e] at hv; cases hv
  rw [if_neg hv1] at hv
  have hlen := decode_len hne hv1
  have hrune := decodeL_rune (s.data.toList.drop p)
  have hw := decodeL_width (s.data.toList.drop p)
  have hle := decodeL_le _ hne
  rw [List.length_drop, tl_len] at hle
  have hd : decodeGo (s.extract p s.size) = decodeL (s.data.toList.drop p) := by
    unfold decodeGo
    have e : (s.extract p s.size).data.toList = s.data.toList.drop p := Lib.extract_to_end s p
    rw [if_neg (by
      intro e2
      have := congrArg List.length e
      rw [tl_len, e2, List.length_drop, tl_len] at this; omega), ← decodeL_drop (s.extract p s.size) 0, List.drop_zero, e]
  refine ⟨hlt, (decodeL (s.data.toList.drop p)).2, by rw [hd, ← hc]; simp, by rw [hd], by omega, by omega, fun e => hv1 ⟨by omega, e.2⟩, hw, by rw [← hc]; exact hlen, ⟨by omega, ?_, ?_⟩⟩
  · rw [List.drop_drop] at hv; exact hv
  · rw [List.drop_drop] at hl; exact hl
end Ut
end Go.Proofs.YtmbfpichaaanpaaGreatDoor
