import Derived.Test.YthlabaijaadocaaDoorNp
import Derived.Test.YthlabaijaadocaaDoorPlT
/-! Right matchers are got again of their text. -/
namespace Go.Proofs.YthlabaijaadocaaDoor
open Go.RowKit Ut Rx Mt

theorem braGo_few : ∀ (l : List M) (b : Bool), (∀ m ∈ l, m.n.size ≤ 300 ∧ m.v.size ≤ 300) → (braGo b l).length ≤ 1 + l.length * 1000
  | [], _, _ => by simp [braGo]
  | m :: t, b, h => by
    have ih := braGo_few t false fun x hx => h x (List.mem_cons_of_mem _ hx)
    obtain ⟨h1, h2⟩ := h m (by simp)
    have hs := signT_len m.k
    have hq := quoteF_len (by_ m.v)
    rw [tl_len] at hq
    have hn : (by_ m.n).length = m.n.size := tl_len _
    unfold braGo
    simp only [List.length_append, List.length_cons]
    rw [hn]
    have : (if b then ([] : List UInt8) else [44, 32]).length ≤ 2 := by cases b <;> simp
    omega
theorem printF_few {l : List M} (h : ∀ m ∈ l, m.n.size ≤ 300 ∧ m.v.size ≤ 300) : (printF l).length ≤ 400 + l.length * 1000 := by
  unfold printF bracesF
  split
  · decide
  · rename_i m t
    have h1 := h m (by simp)
    have hv : (by_ m.v).length = m.v.size := tl_len _
    have ht := braGo_few t true fun x hx => h x (List.mem_cons_of_mem _ hx)
    have hl := braGo_few (m :: t) true h
    split
    · split
      · rw [hv]; omega
      · simp only [List.length_append, List.length_cons]; rw [hv]; omega
    · simp only [List.length_cons] at *; omega

set_option maxRecDepth 100000 in
set_option maxHeartbeats 8000000 in
theorem told_any (l : List M) (va : Value) (w : World) (ha : Ms0 w va l) (hT : Lib.Utf8Tabs 0 1 w) (hw : 2 ≤ w.heap.size) :
    Calls Tryd.prog 5 #[va] w (BoolBelow w true) := by
  have HT := Lib.hid hT
  have LV := Lib.hid (fun w' (b : Below w.heap.size w w') => live_any w' (tabs_below HT.out b) (Nat.le_trans hw b.size))
  have FA := Lib.hid (fun w' (h : Below w.heap.size w w') => few_any l va w' (ha.below h))
  have HA := Lib.hid ha
  clear hT ha
  go_enter Tryd.func5, Tryd.ntmps5
  go_wp2_with fail
  refine (LV.out _ (Below.refl _ _)).mono ?_
  rintro e w1 ⟨rfl, hb1⟩
  have B1 := Lib.hid hb1
  clear hb1
  go_wp2_with fail
  refine (FA.out _ B1.out).mono ?_
  rintro e w2 ⟨rfl, hb2⟩
  have B2 := Lib.hid (B1.out.trans (hb2.mono B1.out.size))
  clear hb2 B1
  cases hfa : fewB l with
  | false =>
    clear hfa
    go_wp2_with fail
    refine (LV.out _ B2.out).mono ?_
    rintro e w3 ⟨rfl, hb3⟩
    go_wp2_with fail
    go_ret
    exact ⟨rfl, B2.out.trans (hb3.mono B2.out.size)⟩
  | true =>
    have HFA := Lib.hid hfa
    have hsz := (few_of hfa).2
    have hln := (few_of hfa).1
    have MA := Lib.hid (HA.out.ms hfa)
    have R := Lib.hid (right_any l va w2 (MA.out.below B2.out) (tabs_below HT.out B2.out) (Nat.le_trans hw B2.out.size))
    clear hfa
    go_wp2_with fail
    refine R.out.mono ?_
    rintro e w3 ⟨rfl, hb3⟩
    have B3 := Lib.hid (B2.out.trans (hb3.mono B2.out.size))
    clear hb3 B2 R
    by_cases h0 : rightF l = 0
    · have TO := Lib.hid (told h0)
      have PZ := Lib.hid (printF_few hsz)
      obtain ⟨A, c, rfl, hcap, _⟩ := HA.out
      have PR := Lib.hid (print_any l A c w3 (MA.out.below B3.out) hcap (by omega) (fun m hm => ⟨by have := (hsz m hm).1; omega, by have := (hsz m hm).2; omega⟩))
      rw [h0]
      clear h0 hsz HFA FA HA hcap
      go_wp2_with fail
      refine PR.out.mono ?_
      rintro e w4 ⟨rfl, hb4⟩
      have B4 := Lib.hid (B3.out.trans (hb4.mono B3.out.size))
      have PA := Lib.hid (parseT_any ⟨(printF l).toArray⟩ w4 (by have := PZ.out; show (printF l).toArray.size ≤ _; simp; omega) (tabs_below HT.out B4.out) (Nat.le_trans hw B4.out.size))
      clear hb4 B3 PR
      go_wp2_with fail
      refine PA.out.mono ?_
      rintro e w5 ⟨hb5, h5⟩
      rw [by_mk, TO.out] at h5
      obtain ⟨v, rfl, hms⟩ := h5
      have B5 := Lib.hid (B4.out.trans (hb5.mono B4.out.size))
      have S := Lib.hid (same_any l l _ v w5 (MA.out.below B5.out) (MsR.ms hms (by omega)))
      rw [eqMs_refl] at S
      obtain ⟨A2, c2, rfl, _⟩ := hms.slice
      clear hb5 hms B4 TO PZ PA
      go_wp2_with fail
      refine S.out.mono ?_
      rintro e w6 ⟨rfl, hb6⟩
      go_wp2_with fail
      go_ret
      exact ⟨rfl, B5.out.trans (hb6.mono B5.out.size)⟩
    · have hne : (rightF l != 0) = true := by simpa using h0
      clear h0
      generalize rightF l = r at *
      go_wp2_with fail
      refine (LV.out _ B3.out).mono ?_
      rintro e w4 ⟨rfl, hb4⟩
      go_wp2_with fail
      go_ret
      exact ⟨rfl, B3.out.trans (hb4.mono B3.out.size)⟩
end Go.Proofs.YthlabaijaadocaaDoor
