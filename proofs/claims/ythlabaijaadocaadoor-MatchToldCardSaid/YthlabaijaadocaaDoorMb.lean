import Derived.Test.YthlabaijaadocaaDoorRows
import Derived.Test.YthlabaijaadocaaDoorMa
import Derived.WalkSpells
import Derived.WalkLawsBesides
import Derived.Outline
import Derived.Deep.QuietTactic
import Derived.BigQuiet
import Derived.Below
import Derived.Lib.Hide
import Derived.Laws.RangeString
import Derived.Laws.RangeAny
import Derived.LoopTactic
/-! Walks: a letter, a name. -/
namespace Go.Proofs.YthlabaijaadocaaDoor
open Go.RowKit Ut

theorem ret_bb {a b c d : Bool} (h : a = c) (k : b = d) : Ending.returned (.tuple #[.bool a, .bool b]) = Ending.returned (.tuple #[.bool c, .bool d]) := by rw [h, k]
def LetPost (c : Int) (w : World) (e : Ending) (w' : World) : Prop := e = .returned (.tuple #[.bool (letB c), .bool (firB c)]) ∧ w = w'
set_option maxRecDepth 100000 in
theorem letter_any (c : Int) (w : World) : Calls Tryd.prog 51 #[.int .i32 c] w (LetPost c w) := by
  go_enter Tryd.func51, Tryd.ntmps51
  go_wp2_with fail
  all_goals
    go_ret2
    refine ⟨ret_bb ?_ ?_, rfl⟩
    all_goals (rw [Bool.eq_iff_iff]; simp [letB, firB, digB]; try omega)

set_option maxRecDepth 100000 in
set_option maxHeartbeats 2000000 in
theorem named_any (s : ByteArray) (w : World) :
    Calls Tryd.prog 31 #[.string s] w fun e w' => e = .returned (.bool (namedF s.data.toList)) ∧ Below w.heap.size w w' := by
  have hlen := tl_len s
  by_cases h1 : 1 ≤ s.size
  · have hne : s.toList.isEmpty = false := by
      rw [ByteArray.toList_eq]
      cases e : s.data.toList with
      | nil => rw [e] at hlen; simp at hlen; omega
      | cons a b => rfl
    by_cases h64 : s.size ≤ 64
    · have hz : (s.size : Int) ≤ 64 := by omega
      have HL := Lib.hid hlen
      clear hlen
      go_enter Tryd.func31, Tryd.ntmps31
      go_wp2_with fail
      go_loopw [3, 4] (fun _ _ w' => ∃ pos, w' = w.iter s pos ∧ pos ≤ s.size ∧ Hid (∀ j (hj : j < s.size), j < pos → letB (s[j]'hj).toNat = true) ∧ Hid (0 < pos → firB (s[0]'h1).toNat = true)) (fun _ _ w' => s.size - w'.iterPos w.heap.size)
      case atStart => exact ⟨0, rfl, Nat.zero_le _, fun j hj h => by omega, fun h => by omega⟩
      case round =>
        obtain ⟨pos, rfl, hps, HA, HF⟩ := hrel
        by_cases hp : pos < s.size
        · obtain ⟨d1, d2, d3⟩ := dec_letB hp
          have hwd := Lib.decode_width_pos s pos hp
          have hnx : ∀ ty, (Instr.next (.pointer (some ⟨w.heap.size, 0, none⟩)) true ty).run Tryd.prog (w.iter s pos) = _ := fun ty => run_next_any w s pos ty hp
          have hle := decode_le s pos
          generalize (Utf8.decode s pos).1 = r at d1 d2 hnx hle
          generalize (Utf8.decode s pos).2 = wd at d3 hwd hnx
          have D3 := Lib.hid d3
          clear d3
          have C : Hid (∀ w, Calls Tryd.prog 51 #[.int .i32 r] w (LetPost r w)) := fun w => letter_any r w
          cases hL : letB (r : Int) with
          | false =>
            have NN := Lib.hid (namedF_no_letter hp (by rw [← d1]; exact hL))
            have HL2 := Lib.hid hL
            clear d1 d2 hL
            go_wp2_with fail
            refine (C.out _).mono ?_
            rintro e w1 ⟨rfl, rfl⟩
            rw [HL2.out]
            go_wp2_with fail
            go_ret
            rw [NN.out]
            exact ⟨rfl, ((Below.refl _ _).alloc (Nat.le_refl _) _)⟩
          | true =>
            have hb : letB ((s[pos]'hp).toNat : Int) = true := by rw [← d1]; exact hL
            have H1 := Lib.hid (D3.out hb)
            have HA2 : Hid (∀ j (hj : j < s.size), j < pos + 1 → letB (s[j]'hj).toNat = true) := fun j hj h => by
              by_cases e : j = pos
              · subst e; exact hb
              · exact HA.out j hj (by omega)
            have HL2 := Lib.hid hL
            clear hb hL d1
            cases hF : firB (r : Int) with
            | true =>
              have HF2 := Lib.hid hF
              have HFF : Hid (0 < pos + 1 → firB (s[0]'h1).toNat = true) := fun _ => by
                by_cases e : pos = 0
                · subst e; rw [← d2]; exact hF
                · exact HF.out (by omega)
              clear hF d2
              go_wp2_with fail
              refine (C.out _).mono ?_
              rintro e w1 ⟨rfl, rfl⟩
              rw [HL2.out, HF2.out]
              go_wp2_with fail
              all_goals
                go_roundw
                case rel => exact ⟨pos + 1, by rw [H1.out] <;> (congr 1; omega), by omega, HA2, HFF⟩
                case measure => simp; omega
            | false =>
              by_cases e : pos = 0
              · subst e
                have NN := Lib.hid (namedF_no_first hp (by rw [← d2]; exact hF))
                have HF2 := Lib.hid hF
                clear hF d2
                go_wp2_with fail
                refine (C.out _).mono ?_
                rintro e w1 ⟨rfl, rfl⟩
                rw [HL2.out, HF2.out]
                go_wp2_with fail
                go_ret
                rw [NN.out]
                exact ⟨rfl, ((Below.refl _ _).alloc (Nat.le_refl _) _)⟩
              · have HFF : Hid (0 < pos + 1 → firB (s[0]'h1).toNat = true) := fun _ => HF.out (by omega)
                have ez : ((pos : Int) == 0) = false := by simp; omega
                have HF2 := Lib.hid hF
                clear hF d2
                go_wp2_with fail
                refine (C.out _).mono ?_
                rintro e w1 ⟨rfl, rfl⟩
                rw [HL2.out, HF2.out]
                go_wp2_with fail
                go_roundw
                case rel => exact ⟨pos + 1, by rw [H1.out], by omega, HA2, HFF⟩
                case measure => simp; omega
        · have hnx : ∀ ty, (Instr.next (.pointer (some ⟨w.heap.size, 0, none⟩)) true ty).run Tryd.prog (w.iter s pos) = _ := fun ty => run_next_end w s pos ty hp
          have NN := Lib.hid (namedF_yes h1 h64 (fun j hj => HA.out j hj (by omega)) (HF.out (by omega)))
          go_wp2_with fail
          go_ret
          rw [NN.out]
          exact ⟨rfl, ((Below.refl _ _).alloc (Nat.le_refl _) _)⟩
    · have hz : ¬ (s.size : Int) ≤ 64 := by omega
      have NN : namedF s.data.toList = false := by unfold namedF; rw [hlen, decide_eq_false h64]; simp
      rw [NN]
      clear hlen
      go_enter Tryd.func31, Tryd.ntmps31
      go_wp2_with fail
      go_ret
      exact ⟨rfl, Below.refl _ _⟩
  · have NN : namedF s.data.toList = false := by unfold namedF; rw [hlen, decide_eq_false h1]; simp
    have hne : s.toList.isEmpty = true := by
      rw [ByteArray.toList_eq]
      cases e : s.data.toList with
      | nil => rfl
      | cons a b => rw [e] at hlen; simp at hlen; omega
    rw [NN]
    clear hlen
    go_enter Tryd.func31, Tryd.ntmps31
    go_wp2_with fail
    go_ret
    exact ⟨rfl, Below.refl _ _⟩
end Go.Proofs.YthlabaijaadocaaDoor
