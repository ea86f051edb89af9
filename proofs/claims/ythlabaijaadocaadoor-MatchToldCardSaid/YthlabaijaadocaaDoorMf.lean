import Derived.Test.YthlabaijaadocaaDoorMe
/-! Runes with a meaning; the runes of an escape. -/
namespace Go.Proofs.YthlabaijaadocaaDoor
open Go.RowKit Ut Rx

def spS : ByteArray := ⟨#[46, 42, 43, 63, 40, 41, 91, 93, 123, 125, 124, 94, 36, 92]⟩
def spN (i : Nat) : Int := [46, 42, 43, 63, 40, 41, 91, 93, 123, 125, 124, 94, 36, 92].getD i 0
theorem spS_size : spS.size = 14 := rfl
theorem spS_get : ∀ i (h : i < spS.size), ((spS[i]'h).toNat : Int) = spN i ∧ (spS[i]'h).toNat < 128 := by
  have : ∀ i, i < 14 → ∀ (h : i < spS.size), ((spS[i]'h).toNat : Int) = spN i ∧ (spS[i]'h).toNat < 128 := by decide
  exact fun i h => this i h h
theorem spec_yes (i : Nat) (h : i < 14) : specB (spN i) = true := by
  have : ∀ i, i < 14 → specB (spN i) = true := by decide
  exact this i h
theorem spec_no (c : Int) (h : ∀ j, j < 14 → spN j ≠ c) : specB c = false := by
  have h0 := h 0 (by omega); have h1 := h 1 (by omega); have h2 := h 2 (by omega); have h3 := h 3 (by omega); have h4 := h 4 (by omega); have h5 := h 5 (by omega); have h6 := h 6 (by omega)
  have h7 := h 7 (by omega); have h8 := h 8 (by omega); have h9 := h 9 (by omega); have h10 := h 10 (by omega); have h11 := h 11 (by omega); have h12 := h 12 (by omega); have h13 := h 13 (by omega)
  simp [spN] at *
  unfold specB
  simp [Ne.symm h0, Ne.symm h1, Ne.symm h2, Ne.symm h3, Ne.symm h4, Ne.symm h5, Ne.symm h6, Ne.symm h7, Ne.symm h8, Ne.symm h9, Ne.symm h10, Ne.symm h11, Ne.symm h12, Ne.symm h13]
def BoolBelow (w : World) (b : Bool) (e : Ending) (w' : World) : Prop := e = .returned (.bool b) ∧ Below w.heap.size w w'
set_option maxRecDepth 100000 in
set_option maxHeartbeats 1000000 in
theorem special_any (c : Int) (w : World) : Calls Tryd.prog 98 #[.int .i32 c] w (BoolBelow w (specB c)) := by
  have e0 : (⟨#[46, 42, 43, 63, 40, 41, 91, 93, 123, 125, 124, 94, 36, 92]⟩ : ByteArray) = spS := rfl
  have hz := spS_size
  have HD : Hid (∀ pos, pos < spS.size → Utf8.decode spS pos = ((spN pos).toNat, 1) ∧ 0 ≤ spN pos) := fun pos hp => by
    have := spS_get pos hp
    rw [decode_ascii spS pos hp this.2]
    exact ⟨by rw [← this.1]; simp, by omega⟩
  have HZ := Lib.hid hz
  clear hz
  go_enter Tryd.func98, Tryd.ntmps98
  rw [e0]
  generalize spS = s at *
  go_wp2_with fail
  go_loopw [4] (fun _ w' => ∃ pos, w' = w.iter s pos ∧ pos ≤ s.size ∧ Hid (∀ j, j < pos → spN j ≠ c)) (fun _ w' => s.size - w'.iterPos w.heap.size)
  case atStart => exact ⟨0, rfl, Nat.zero_le _, fun j h => by omega⟩
  case round =>
    obtain ⟨pos, rfl, hps, HA⟩ := hrel
    by_cases hp : pos < s.size
    · have hnx : ∀ ty, (Instr.next (.pointer (some ⟨w.heap.size, 0, none⟩)) true ty).run Tryd.prog (w.iter s pos) = _ := fun ty => run_next_any w s pos ty hp
      obtain ⟨d1, d2⟩ := HD.out pos hp
      rw [d1] at hnx
      have d3 : (((spN pos).toNat : Nat) : Int) = spN pos := by omega
      simp only [d3] at hnx
      by_cases hc : spN pos = c
      · have Y : Hid (specB c = true) := (congrArg specB hc).symm.trans (spec_yes pos (by have := HZ.out; omega))
        have hc2 : (spN pos == c) = true := by simpa using hc
        clear hc d1 d3
        go_wp2_with fail
        go_ret
        rw [Y.out]
        exact ⟨rfl, (Below.refl _ _).alloc (Nat.le_refl _) _⟩
      · have HA2 : Hid (∀ j, j < pos + 1 → spN j ≠ c) := fun j hj => by
          by_cases e : j = pos
          · subst e; exact hc
          · exact HA.out j (by omega)
        have hc2 : (spN pos == c) = false := by simpa using hc
        clear hc d1 d3
        go_wp2_with fail
        go_roundw
        case rel => exact ⟨pos + 1, rfl, by omega, HA2⟩
        case measure => simp; omega
    · have hnx : ∀ ty, (Instr.next (.pointer (some ⟨w.heap.size, 0, none⟩)) true ty).run Tryd.prog (w.iter s pos) = _ := fun ty => run_next_end w s pos ty hp
      have NN := Lib.hid (spec_no c (fun j hj => HA.out j (by have := HZ.out; omega)))
      go_wp2_with fail
      go_ret
      rw [NN.out]
      exact ⟨rfl, (Below.refl _ _).alloc (Nat.le_refl _) _⟩

/-- a slice of spans of the call's own -/
def spC (s : List Span) : List Value := s.flatMap fun x => [.int .i32 x.1, .int .i32 x.2]
def ShPost (c : Int) (w : World) (e : Ending) (w' : World) : Prop :=
  match shortF c with
  | none => e = .returned (.slice none 0 0) ∧ w = w'
  | some s => e = .returned (.slice (some ⟨w.heap.size, 0, none⟩) s.length s.length) ∧ w' = w.alloc (.cells (spC s).toArray 149)
set_option maxRecDepth 100000 in
theorem shorts_any (c : Int) (w : World) : Calls Tryd.prog 104 #[.int .i32 c] w (ShPost c w) := by
  go_enter Tryd.func104, Tryd.ntmps104
  go_wp2_with fail
  · have h : c = 100 := by have : (c == 100) = true := by assumption
                           simpa using this
    go_ret
    subst h
    exact ⟨rfl, rfl⟩
  · have h : c = 119 := by have : (c == 119) = true := by assumption
                           simpa using this
    go_ret
    subst h
    exact ⟨rfl, rfl⟩
  · have h : c = 115 := by have : (c == 115) = true := by assumption
                           simpa using this
    go_ret
    subst h
    exact ⟨rfl, rfl⟩
  · have h1 : ¬ c = 100 := by have : (c == 100) = false := by assumption
                              simpa using this
    have h2 : ¬ c = 119 := by have : (c == 119) = false := by assumption
                              simpa using this
    have h3 : ¬ c = 115 := by have : (c == 115) = false := by assumption
                              simpa using this
    go_ret
    have e : shortF c = none := by unfold shortF; rw [if_neg h1, if_neg h2, if_neg h3]
    unfold ShPost
    rw [e]
    exact ⟨rfl, rfl⟩
end Go.Proofs.YthlabaijaadocaaDoor
