import Derived.Test.YthlabaijaadocaaDoorXB9
import Derived.Test.YthlabaijaadocaaDoorXB2
/-! What is wrong with any matcher, and with any matchers, is the document's. -/
namespace Go.Proofs.YthlabaijaadocaaDoor
open Go.RowKit Ut Rx Mt

set_option maxRecDepth 100000 in
set_option maxHeartbeats 8000000 in
theorem checks_any (l : List M) (va : Value) (w : World) (ha : Ms0 w va l) (hT : Lib.Utf8Tabs 0 1 w) (hw : 2 ≤ w.heap.size) :
    Calls Tryd.prog 3 #[va] w (BoolBelow w true) := by
  have HT := Lib.hid hT
  have LV := Lib.hid (fun w' (b : Below w.heap.size w w') => live_any w' (tabs_below HT.out b) (Nat.le_trans hw b.size))
  have FA := Lib.hid (fun w' (h : Below w.heap.size w w') => few_any l va w' (ha.below h))
  have HA := Lib.hid ha
  clear hT ha
  go_enter Tryd.func3, Tryd.ntmps3
  go_wp2_with fail
  refine (LV.out _ (Below.refl _ _)).mono ?_
  rintro e w1 ⟨rfl, hb1⟩
  have B1 := Lib.hid hb1
  clear hb1
  go_wp2_with fail
  refine (FA.out _ B1.out).mono ?_
  rintro e w2 ⟨rfl, hb2⟩
  have B2 := Lib.hid (B1.out.trans (hb2.mono B1.out.size))
  clear hb2 B1
  cases hfa : fewB l with
  | false =>
    clear hfa
    go_wp2_with fail
    refine (LV.out _ B2.out).mono ?_
    rintro e w3 ⟨rfl, hb3⟩
    go_wp2_with fail
    go_ret
    exact ⟨rfl, B2.out.trans (hb3.mono B2.out.size)⟩
  | true =>
    have hsz := Lib.hid (few_of hfa).2
    have hln := (few_of hfa).1
    have MA := Lib.hid (HA.out.ms hfa)
    obtain ⟨A, c, rfl, hcap, _⟩ := HA.out
    have HC : Hid (l ≠ [] → ∃ b off, A = some ⟨b, off, none⟩ ∧ ∀ i (h : i < l.length), w.cell? ⟨b, off + i * 3, none⟩ = some (.int .i64 (l[i]'h).k) ∧ w.cell? ⟨b, off + i * 3 + 1, none⟩ = some (.string (l[i]'h).n) ∧ w.cell? ⟨b, off + i * 3 + 2, none⟩ = some (.string (l[i]'h).v)) := by
      obtain ⟨A', c', e, _, h⟩ := MA.out
      simp only [Value.slice.injEq, true_and] at e
      obtain ⟨rfl, rfl⟩ := e
      exact h
    clear hfa FA LV
    go_wp2_with fail
    go_loopg [15] l.length (fun gk vk wr => ∃ k : Nat, vk = .int .i64 k ∧ k + gk = l.length ∧ Hid (Below w.heap.size w wr))
    case atStart => exact ⟨0, rfl, by omega, B2⟩
    case round =>
      obtain ⟨k, rfl, hk, HB⟩ := hrel
      clear B2
      by_cases hlt : k < l.length
      · obtain ⟨b, off, rfl, hc⟩ := HC.out (fun e => by rw [e] at hlt; simp at hlt)
        obtain ⟨c0', c1', c2'⟩ := hc k hlt
        have lb : b < w.heap.size := World.block_lt_of_cell? w _ c0'
        have c0 := (HB.out.cell (p := ⟨b, off + k * 3, none⟩) lb).trans c0'
        have c1 := (HB.out.cell (p := ⟨b, off + k * 3 + 1, none⟩) lb).trans c1'
        have c2 := (HB.out.cell (p := ⟨b, off + k * 3 + 2, none⟩) lb).trans c2'
        have NS := Lib.hid (hsz.out _ (List.getElem_mem hlt))
        clear hc c0' c1' c2' HC hsz
        generalize (l[k]'hlt).k = mk at *
        generalize (l[k]'hlt).n = mn at *
        generalize (l[k]'hlt).v = mv at *
        have C0 := Lib.hid (mBox_at wr mk mn mv)
        obtain ⟨w3, hw3⟩ : ∃ x, x = mBox wr mk mn mv := ⟨_, rfl⟩
        rw [← hw3] at C0
        obtain ⟨a0, a1, a2, ba⟩ := C0.out w3 (Below.refl _ _)
        have B3 := Lib.hid (HB.out.trans (ba.mono HB.out.size))
        unfold mBox at hw3
        rw [hw3] at a0 a1 a2
        clear ba
        go_upto_region 6 with fail
        rw [← hw3]
        rw [← hw3] at a0 a1 a2
        clear hw3 c0 c1 c2
        have KP : Hid (∀ w', Below w3.heap.size w3 w' → w'.cell? ⟨wr.heap.size, 0, none⟩ = some (.int .i64 mk) ∧ w'.cell? ⟨wr.heap.size, 1, none⟩ = some (.string mn) ∧ w'.cell? ⟨wr.heap.size, 2, none⟩ = some (.string mv) ∧ Below w3.heap.size w3 w') := fun w' hb => ⟨(C0.out w' hb).1, (C0.out w' hb).2.1, (C0.out w' hb).2.2.1, hb⟩
        obtain ⟨cf, hcf⟩ : ∃ x, checkF ⟨mk, mn, mv⟩ = x := ⟨_, rfl⟩
        have CE : Hid (∀ w', Below w3.heap.size w3 w' → Calls Tryd.prog 14 #[.agg #[.int .i64 mk, .string mn, .string mv]] w' (fun e w4 => e = .returned (.int .i64 cf) ∧ Below w3.heap.size w3 w4)) := fun w' hb =>
          (check_any mk mn mv w' (tabs_below HT.out (B3.out.trans (hb.mono B3.out.size))) (Nat.le_trans hw (B3.out.trans (hb.mono B3.out.size)).size)).mono fun e w4 h => ⟨by rw [← hcf]; exact h.1, hb.trans (h.2.mono hb.size)⟩
        have RE : Hid (∀ w', Below w3.heap.size w3 w' → Calls Tryd.prog 15 #[.agg #[.int .i64 mk, .string mn, .string mv]] w' (fun e w4 => e = .returned (.int .i64 cf) ∧ Below w3.heap.size w3 w4)) := fun w' hb =>
          (rCheck_any mk mn mv w' (by have := NS.out.1; unfold maxLen; omega)).mono fun e w4 h => ⟨by rw [← hcf]; exact h.1, hb.trans (h.2.mono hb.size)⟩
        have hb0 : Below w3.heap.size w3 w3 := Below.refl _ _
        clear hcf C0
        go_region_held3 (fun w' => w'.cell? ⟨wr.heap.size, 0, none⟩ = some (.int .i64 mk) ∧ w'.cell? ⟨wr.heap.size, 1, none⟩ = some (.string mn) ∧ w'.cell? ⟨wr.heap.size, 2, none⟩ = some (.string mv) ∧ Below w3.heap.size w3 w')
          ((refine KP.out _ ?_; (try go_split_ands); (repeat (first | refine Below.drew ?_ | refine below_drewN ?_ _)); assumption))
          (first
            | (go_at_call 14; refine Calls.mono (CE.out _ ?_) ?_; (repeat (first | refine Below.drew ?_ | refine below_drewN ?_ _)); assumption; rintro e w' ⟨rfl, hb9⟩)
            | (go_at_call 15; refine Calls.mono (RE.out _ ?_) ?_; (repeat (first | refine Below.drew ?_ | refine below_drewN ?_ _)); assumption; rintro e w' ⟨rfl, hb9⟩))
        all_goals
          have B4 := Lib.hid (B3.out.trans (hb9.mono B3.out.size))
          clear KP CE RE hb9 a0 a1 a2
          go_wp2_with fail
          go_roundg (l.length - (k + 1))
          case measure => omega
          case rel => exact ⟨k + 1, by go_num, by omega, B4⟩
      · have hkl : ¬ (k : Int) < l.length := by omega
        have R := Lib.hid (right_any l _ wr (MA.out.below HB.out) (tabs_below HT.out HB.out) (Nat.le_trans hw HB.out.size))
        go_wp2_with fail
        refine R.out.mono ?_
        rintro e w3 ⟨rfl, hb3⟩
        have B3 := Lib.hid (HB.out.trans (hb3.mono HB.out.size))
        have RR := Lib.hid (rRight_any l _ w3 (MA.out.below B3.out) (fun m hm => by have := (hsz.out m hm).1; unfold maxLen; omega))
        clear hb3 R
        generalize rightF l = r at *
        go_wp2_with fail
        refine RR.out.mono ?_
        rintro e w4 ⟨rfl, hb4⟩
        go_wp2_with fail
        go_ret
        exact ⟨rfl, B3.out.trans (hb4.mono B3.out.size)⟩
end Go.Proofs.YthlabaijaadocaaDoor
