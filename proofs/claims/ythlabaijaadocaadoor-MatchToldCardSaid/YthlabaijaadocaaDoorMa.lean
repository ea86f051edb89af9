import Derived.Lib.RuneCount
import Derived.Lib.ValidLaws
/-! Runes of a text, plainly; names. No program in sight. -/
namespace Go.Proofs.YthlabaijaadocaaDoor
namespace Ut
open Go.Lib

/-- a letter of a name, a digit -/
def digB (c : Int) : Bool := decide (c ≥ 48) && decide (c ≤ 57)
def firB (c : Int) : Bool := (decide (c ≥ 97) && decide (c ≤ 122)) || (decide (c ≥ 65) && decide (c ≤ 90)) || decide (c = 95)
def letB (c : Int) : Bool := firB c || digB c
/-- is a text a name? -/
def namedF (l : List UInt8) : Bool := decide (1 ≤ l.length) && decide (l.length ≤ 64) && l.all (fun b => letB b.toNat) && firB (l.getD 0 0).toNat

theorem letB_high {c : Int} (h : 128 ≤ c) : letB c = false := by
  unfold letB firB digB
  rw [decide_eq_false (show ¬ c ≤ 122 by omega), decide_eq_false (show ¬ c ≤ 90 by omega), decide_eq_false (show ¬ c = 95 by omega), decide_eq_false (show ¬ c ≤ 57 by omega)]
  simp
theorem firB_letB {c : Int} (h : firB c = true) : letB c = true := by unfold letB; rw [h]; rfl

theorem tl_get (s : ByteArray) (j : Nat) (hj : j < s.size) (h : j < s.data.toList.length) : s.data.toList[j]'h = s[j]'hj := Array.getElem_toList _
theorem tl_len (s : ByteArray) : s.data.toList.length = s.size := by simp
theorem tl_getD (s : ByteArray) (hj : 0 < s.size) : s.data.toList.getD 0 0 = s[0]'hj := by
  rw [List.getD_eq_getElem?_getD, List.getElem?_eq_getElem (by rw [tl_len]; exact hj), Option.getD_some, tl_get s 0 hj]
theorem namedF_no_letter {s : ByteArray} {pos : Nat} (hp : pos < s.size) (h : letB (s[pos]'hp).toNat = false) : namedF s.data.toList = false := by
  unfold namedF
  have : (s.data.toList.all fun b => letB b.toNat) = false := by
    rw [List.all_eq_false]
    exact ⟨s.data.toList[pos]'(by rw [tl_len]; exact hp), List.getElem_mem _, by rw [tl_get s pos hp, h]; simp⟩
  rw [this]; simp
theorem namedF_no_first {s : ByteArray} (hp : 0 < s.size) (h : firB (s[0]'hp).toNat = false) : namedF s.data.toList = false := by
  unfold namedF
  rw [tl_getD s hp, h]; simp
theorem namedF_yes {s : ByteArray} (h1 : 1 ≤ s.size) (h2 : s.size ≤ 64) (hl : ∀ j (hj : j < s.size), letB (s[j]'hj).toNat = true) (hf : firB (s[0]'h1).toNat = true) : namedF s.data.toList = true := by
  unfold namedF
  have : (s.data.toList.all fun b => letB b.toNat) = true := by
    rw [List.all_eq_true]
    intro b hb
    obtain ⟨j, hj, rfl⟩ := List.getElem_of_mem hb
    rw [tl_get s j (by rw [← tl_len]; exact hj)]
    exact hl j _
  rw [this, tl_getD s h1, hf, tl_len, decide_eq_true h1, decide_eq_true h2]; rfl
/-- the rune that stands at a place, and its first byte -/
theorem dec_letB {s : ByteArray} {pos : Nat} (hp : pos < s.size) : letB ((Utf8.decode s pos).1 : Int) = letB ((s[pos]'hp).toNat : Int) ∧ firB ((Utf8.decode s pos).1 : Int) = firB ((s[pos]'hp).toNat : Int) ∧ (letB ((s[pos]'hp).toNat : Int) = true → (Utf8.decode s pos).2 = 1) := by
  by_cases ha : (s[pos]'hp).toNat < 128
  · rw [decode_ascii s pos hp ha]; exact ⟨rfl, rfl, fun _ => rfl⟩
  · have h := decode_high s pos hp (by omega)
    have e1 := letB_high (c := ((Utf8.decode s pos).1 : Int)) (by omega)
    have e2 := letB_high (c := ((s[pos]'hp).toNat : Int)) (by omega)
    have f1 : firB ((Utf8.decode s pos).1 : Int) = false := by cases e : firB ((Utf8.decode s pos).1 : Int) with | false => rfl | true => rw [firB_letB e] at e1; cases e1
    have f2 : firB ((s[pos]'hp).toNat : Int) = false := by cases e : firB ((s[pos]'hp).toNat : Int) with | false => rfl | true => rw [firB_letB e] at e2; cases e2
    rw [e1, e2, f1, f2]
    exact ⟨rfl, rfl, fun h => by cases h⟩
end Ut
end Go.Proofs.YthlabaijaadocaaDoor
