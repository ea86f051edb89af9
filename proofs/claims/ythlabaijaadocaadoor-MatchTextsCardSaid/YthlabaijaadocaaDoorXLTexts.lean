import Derived.Test.YthlabaijaadocaaDoorXC5
import Derived.Test.YthlabaijaadocaaDoorXNp
/-! The text of matchers, and the matchers of a text, are the document's. -/
namespace Go.Proofs.YthlabaijaadocaaDoor
open Go.RowKit Ut Rx Mt

theorem parse_few {l : List UInt8} {ms : List M} (h : parseP l = .ok ms) : ms.length ≤ 16 := by
  have key : rightF ms = 0 := by
    rw [parse_head] at h
    split at h
    · cases h
    · unfold tailP at h
      split at h
      · split at h
        · rename_i h0; cases h; exact h0
        · cases h
      · cases h
  unfold rightF at key
  split at key
  · cases key
  · omega
theorem ms_nil (w : World) : Ms w (.slice none 0 0) [] := ⟨none, 0, rfl, by simp, fun h => absurd rfl h⟩

set_option maxRecDepth 100000 in
set_option maxHeartbeats 8000000 in
theorem texts_any (l : List M) (va : Value) (s : ByteArray) (w : World) (ha : Ms0 w va l) (hT : Lib.Utf8Tabs 0 1 w) (hw : 2 ≤ w.heap.size) :
    Calls Tryd.prog 4 #[va, .string s] w (BoolBelow w true) := by
  have HT := Lib.hid hT
  have LV := Lib.hid (fun w' (b : Below w.heap.size w w') => live_any w' (tabs_below HT.out b) (Nat.le_trans hw b.size))
  have FA := Lib.hid (fun w' (h : Below w.heap.size w w') => few_any l va w' (ha.below h))
  have HA := Lib.hid ha
  clear hT ha
  go_enter Tryd.func4, Tryd.ntmps4
  go_wp2_with fail
  refine (LV.out _ (Below.refl _ _)).mono ?_
  rintro e w1 ⟨rfl, hb1⟩
  have B1 := Lib.hid hb1
  clear hb1
  go_wp2_with fail
  refine (FA.out _ B1.out).mono ?_
  rintro e w2 ⟨rfl, hb2⟩
  have B2 := Lib.hid (B1.out.trans (hb2.mono B1.out.size))
  clear hb2 B1
  cases hfa : fewB l with
  | false =>
    clear hfa
    go_wp2_with fail
    refine (LV.out _ B2.out).mono ?_
    rintro e w3 ⟨rfl, hb3⟩
    go_wp2_with fail
    go_ret
    exact ⟨rfl, B2.out.trans (hb3.mono B2.out.size)⟩
  | true =>
    by_cases hs : s.size > 2000
    · have hsi : (2000 : Int) < s.size := by omega
      clear hfa hs
      go_wp2_with fail
      refine (LV.out _ B2.out).mono ?_
      rintro e w3 ⟨rfl, hb3⟩
      go_wp2_with fail
      go_ret
      exact ⟨rfl, B2.out.trans (hb3.mono B2.out.size)⟩
    · have hsi : ¬ (2000 : Int) < s.size := by omega
      have hsz := Lib.hid (few_of hfa).2
      have hln := (few_of hfa).1
      have MA := Lib.hid (HA.out.ms hfa)
      obtain ⟨A, c, rfl, hcap, _⟩ := HA.out
      have PA := Lib.hid (parseT_any s w2 (by omega) (tabs_below HT.out B2.out) (Nat.le_trans hw B2.out.size))
      have RP := Lib.hid (fun w' => rParseT_any s w' (by omega))
      have HS : Hid (∀ m ∈ l, m.n.size ≤ 100000 ∧ m.v.size ≤ 100000) := fun m hm => ⟨by have := (hsz.out m hm).1; omega, by have := (hsz.out m hm).2; omega⟩
      have P1 := Lib.hid (fun w' (b : Below w.heap.size w w') => print_any l A c w' (MA.out.below b) hcap (by omega) HS.out)
      have P2 := Lib.hid (fun w' (b : Below w.heap.size w w') => rPrint_any l A c w' (MA.out.below b) hcap (by omega) HS.out)
      generalize (⟨(printF l).toArray⟩ : ByteArray) = pr at *
      have PE : Hid (∀ (w' w3 : World) e, PrPost w' l e w3 → ∃ x : ByteArray, x = ⟨(printF l).toArray⟩ ∧ e = .returned (.string x) ∧ Below w'.heap.size w' w3) := fun w' w3 e h => ⟨_, rfl, h.1, h.2⟩
      clear hfa hs HA FA LV hsz HS hcap
      go_wp2_with fail
      refine PA.out.mono ?_
      rintro e w3 ⟨hb3, h3⟩
      have B3 := Lib.hid (B2.out.trans (hb3.mono B2.out.size))
      clear hb3 PA
      cases hp : parseP (by_ s) with
      | ok ms =>
        have hm16 := parse_few hp
        rw [hp] at h3
        obtain ⟨v, rfl, hms⟩ := h3
        have M3 := Lib.hid (MsR.ms hms (by omega))
        have R4 := Lib.hid (RP.out w3)
        clear hms
        go_wp2_with fail
        refine R4.out.mono ?_
        rintro e w4 ⟨hb4, h4⟩
        have B4 := Lib.hid (B3.out.trans (hb4.mono B3.out.size))
        rw [hp] at h4
        obtain ⟨v2, rfl, hms2⟩ := h4
        have M4 := Lib.hid (M3.out.below hb4)
        have N4 := Lib.hid (MsR.ms hms2 (by omega))
        have Q5 := Lib.hid (P1.out w4 B4.out)
        clear hms2 hb4 R4 M3 hp
        go_wp2_with fail
        refine Q5.out.mono ?_
        intro e w5 h5
        obtain ⟨x, hx, rfl, hb5⟩ := PE.out _ _ _ h5
        have HX := Lib.hid hx
        have B5 := Lib.hid (B4.out.trans (hb5.mono B4.out.size))
        have M5 := Lib.hid (M4.out.below hb5)
        have N5 := Lib.hid (N4.out.below hb5)
        have Q6 := Lib.hid (P2.out w5 B5.out)
        clear hx h5 hb5 Q5 M4 N4
        go_wp2_with fail
        refine Q6.out.mono ?_
        intro e w6 h6
        obtain ⟨x2, hx2, rfl, hb6⟩ := PE.out _ _ _ h6
        obtain rfl : x2 = x := hx2.trans HX.out.symm
        have B6 := Lib.hid (B5.out.trans (hb6.mono B5.out.size))
        have S := Lib.hid (same_any ms ms v v2 w6 (M5.out.below hb6) (N5.out.below hb6))
        rw [eqMs_refl] at S
        clear hx2 h6 hb6 Q6 M5 N5 HX
        go_wp2_with fail
        refine S.out.mono ?_
        rintro e w7 ⟨rfl, hb7⟩
        go_wp2_with fail
        go_ret
        exact ⟨rfl, B6.out.trans (hb7.mono B6.out.size)⟩
      | error er =>
        rw [hp] at h3
        obtain ⟨h0, rfl⟩ := h3
        have R4 := Lib.hid (RP.out w3)
        clear h0
        go_wp2_with fail
        refine R4.out.mono ?_
        rintro e w4 ⟨hb4, h4⟩
        have B4 := Lib.hid (B3.out.trans (hb4.mono B3.out.size))
        rw [hp] at h4
        obtain ⟨h0, rfl⟩ := h4
        have Q5 := Lib.hid (P1.out w4 B4.out)
        clear hb4 R4 hp h0
        go_wp2_with fail
        refine Q5.out.mono ?_
        intro e w5 h5
        obtain ⟨x, hx, rfl, hb5⟩ := PE.out _ _ _ h5
        have HX := Lib.hid hx
        have B5 := Lib.hid (B4.out.trans (hb5.mono B4.out.size))
        have Q6 := Lib.hid (P2.out w5 B5.out)
        clear hx h5 hb5 Q5
        go_wp2_with fail
        refine Q6.out.mono ?_
        intro e w6 h6
        obtain ⟨x2, hx2, rfl, hb6⟩ := PE.out _ _ _ h6
        obtain rfl : x2 = x := hx2.trans HX.out.symm
        have B6 := Lib.hid (B5.out.trans (hb6.mono B5.out.size))
        have S := Lib.hid (same_any [] [] _ _ w6 (ms_nil w6) (ms_nil w6))
        rw [eqMs_refl] at S
        clear hx2 h6 hb6 Q6 HX
        go_wp2_with fail
        refine S.out.mono ?_
        rintro e w7 ⟨rfl, hb7⟩
        go_wp2_with fail
        go_ret
        exact ⟨rfl, B6.out.trans (hb7.mono B6.out.size)⟩
end Go.Proofs.YthlabaijaadocaaDoor
