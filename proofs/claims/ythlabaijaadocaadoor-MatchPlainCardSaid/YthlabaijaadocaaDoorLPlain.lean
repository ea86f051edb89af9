import Derived.Test.YthlabaijaadocaaDoorNo
import Derived.Test.YthlabaijaadocaaDoorPlA
/-! A form of letters and digits alone is the text itself. -/
namespace Go.Proofs.YthlabaijaadocaaDoor
open Go.RowKit Ut Rx Mt

set_option maxRecDepth 100000 in
set_option maxHeartbeats 8000000 in
theorem plain_any (nm t a : ByteArray) (w : World) (hT : Lib.Utf8Tabs 0 1 w) (hw : 2 ≤ w.heap.size) (ht : t.size ≤ maxLen) : Calls Tryd.prog 9 #[.string nm, .string t, .string a] w (BoolBelow w true) := by
  unfold maxLen at ht
  have HT := Lib.hid hT
  have LV := Lib.hid (fun w' (b : Below w.heap.size w w') => live_any w' (tabs_below HT.out b) (Nat.le_trans hw b.size))
  clear hT
  go_enter Tryd.func9, Tryd.ntmps9
  go_wp2_with fail
  refine (LV.out _ (Below.refl _ _)).mono ?_
  rintro e w1 ⟨rfl, hb1⟩
  have B1 := Lib.hid hb1
  clear hb1
  by_cases h60 : t.size > 60
  · have h60' : (60 : Int) < t.size := by omega
    clear h60
    go_wp2_with fail
    refine (LV.out _ B1.out).mono ?_
    rintro e w3 ⟨rfl, hb3⟩
    go_wp2_with fail
    go_ret
    exact ⟨rfl, B1.out.trans (hb3.mono B1.out.size)⟩
  · have h60' : ¬ (60 : Int) < t.size := by omega
    by_cases ha : a.size > 200
    · have ha' : (200 : Int) < a.size := by omega
      clear ha h60
      go_wp2_with fail
      refine (LV.out _ B1.out).mono ?_
      rintro e w3 ⟨rfl, hb3⟩
      go_wp2_with fail
      go_ret
      exact ⟨rfl, B1.out.trans (hb3.mono B1.out.size)⟩
    · have ha' : ¬ (200 : Int) < a.size := by omega
      have ha2 : a.size ≤ 900000 := by omega
      clear ha h60
      have R0 : Hid (∀ j (h : j < t.size), j < 0 → alnB (t[j]'h).toNat = true) := fun j h h0 => by omega
      go_wp2_with fail
      go_loopg [26] t.size (fun gk vk wr => ∃ k : Nat, vk = .int .i64 k ∧ k + gk = t.size ∧ Hid (∀ j (h : j < t.size), j < k → alnB (t[j]'h).toNat = true) ∧ wr = w1)
      case atStart => exact ⟨0, rfl, by omega, R0, rfl⟩
      case round =>
        obtain ⟨k, rfl, hk, HR, rfl⟩ := hrel
        clear R0
        by_cases hlt : k < t.size
        · have hcs : ((t[k]'hlt).toNat : Int) < 48 ∨ ((48 : Int) ≤ (t[k]'hlt).toNat ∧ ((t[k]'hlt).toNat : Int) ≤ 57) ∨ ((57 : Int) < (t[k]'hlt).toNat ∧ ((t[k]'hlt).toNat : Int) < 65) ∨ ((65 : Int) ≤ (t[k]'hlt).toNat ∧ ((t[k]'hlt).toNat : Int) ≤ 90) ∨ ((90 : Int) < (t[k]'hlt).toNat ∧ ((t[k]'hlt).toNat : Int) < 97) ∨ ((97 : Int) ≤ (t[k]'hlt).toNat ∧ ((t[k]'hlt).toNat : Int) ≤ 122) ∨ (122 : Int) < (t[k]'hlt).toNat := by omega
          have HS : Hid (alnB (t[k]'hlt).toNat = true → ∀ j (h : j < t.size), j < k + 1 → alnB (t[j]'h).toNat = true) := fun h0 j h hj => by
            by_cases e : j = k
            · subst e; exact h0
            · exact HR.out j h (by omega)
          clear HR
          rcases hcs with h1 | ⟨h1, h2⟩ | ⟨h1, h2⟩ | ⟨h1, h2⟩ | ⟨h1, h2⟩ | ⟨h1, h2⟩ | h1
          · clear HS
            go_wp2_with fail
            go_ret
            exact ⟨rfl, B1.out⟩
          · have R2 := Lib.hid (HS.out ((alnB_iff _).2 (by omega)))
            clear HS
            go_wp2_with fail
            go_roundg (t.size - (k + 1))
            case measure => omega
            case rel => exact ⟨k + 1, by simp, by omega, R2, rfl⟩
          · clear HS
            go_wp2_with fail
            go_ret
            exact ⟨rfl, B1.out⟩
          · have R2 := Lib.hid (HS.out ((alnB_iff _).2 (by omega)))
            clear HS
            go_wp2_with fail
            go_roundg (t.size - (k + 1))
            case measure => omega
            case rel => exact ⟨k + 1, by simp, by omega, R2, rfl⟩
          · clear HS
            go_wp2_with fail
            go_ret
            exact ⟨rfl, B1.out⟩
          · have R2 := Lib.hid (HS.out ((alnB_iff _).2 (by omega)))
            clear HS
            go_wp2_with fail
            go_roundg (t.size - (k + 1))
            case measure => omega
            case rel => exact ⟨k + 1, by simp, by omega, R2, rfl⟩
          · clear HS
            go_wp2_with fail
            go_ret
            exact ⟨rfl, B1.out⟩
        · have hkl : k = t.size := by omega
          subst hkl
          have AL : ∀ b ∈ by_ t, alnB b.toNat = true := fun b hb => by
            obtain ⟨j, hj, rfl⟩ := List.getElem_of_mem hb
            rw [tl_get t j (by rw [← tl_len]; exact hj)]
            exact HR.out j _ (by rw [← tl_len]; exact hj)
          have X1 := Lib.hid (plain_check (n := nm) AL)
          have X2 := Lib.hid (plain_one (n := nm) a AL)
          have B4 : Hid (Below w.heap.size w ((wr.alloc (.cells #[.int .i64 1, .string nm, .string t] 26)).alloc (.cells #[.int .i64 3, .string nm, .string t] 26))) := (B1.out.alloc B1.out.size _).alloc (by have := B1.out.size; simp; omega) _
          have C0 : Hid (∀ w', Below ((wr.alloc (.cells #[.int .i64 1, .string nm, .string t] 26)).alloc (.cells #[.int .i64 3, .string nm, .string t] 26)).heap.size ((wr.alloc (.cells #[.int .i64 1, .string nm, .string t] 26)).alloc (.cells #[.int .i64 3, .string nm, .string t] 26)) w' →
              w'.cell? ⟨wr.heap.size, 0, none⟩ = some (.int .i64 1) ∧ w'.cell? ⟨wr.heap.size, 1, none⟩ = some (.string nm) ∧ w'.cell? ⟨wr.heap.size, 2, none⟩ = some (.string t) ∧ w'.cell? ⟨wr.heap.size + 1, 0, none⟩ = some (.int .i64 3) ∧ w'.cell? ⟨wr.heap.size + 1, 1, none⟩ = some (.string nm) ∧ w'.cell? ⟨wr.heap.size + 1, 2, none⟩ = some (.string t)) := fun w' b => by
            have l1 : wr.heap.size < ((wr.alloc (.cells #[.int .i64 1, .string nm, .string t] 26)).alloc (.cells #[.int .i64 3, .string nm, .string t] 26)).heap.size := by simp; omega
            have l2 : wr.heap.size + 1 < ((wr.alloc (.cells #[.int .i64 1, .string nm, .string t] 26)).alloc (.cells #[.int .i64 3, .string nm, .string t] 26)).heap.size := by simp
            have a1 := heap_alloc_new wr (.cells #[.int .i64 1, .string nm, .string t] 26)
            have a2 := heap_alloc_new (wr.alloc (.cells #[.int .i64 1, .string nm, .string t] 26)) (.cells #[.int .i64 3, .string nm, .string t] 26)
            rw [show (wr.alloc (.cells #[.int .i64 1, .string nm, .string t] 26)).heap.size = wr.heap.size + 1 by simp] at a2
            obtain ⟨d0, d1, d2, _⟩ := cells3 ((b.block _ l1).trans ((Below.heap_alloc _ _ _ (by simp)).trans a1))
            obtain ⟨f0, f1, f2, _⟩ := cells3 ((b.block _ l2).trans a2)
            exact ⟨d0, d1, d2, f0, f1, f2⟩
          clear HR AL
          go_upto_region 11 with fail
          generalize ((wr.alloc (.cells #[.int .i64 1, .string nm, .string t] 26)).alloc (.cells #[.int .i64 3, .string nm, .string t] 26)) = w4 at *
          have KP : Hid (∀ w', Below w4.heap.size w4 w' → w'.cell? ⟨wr.heap.size, 0, none⟩ = some (.int .i64 1) ∧ w'.cell? ⟨wr.heap.size, 1, none⟩ = some (.string nm) ∧ w'.cell? ⟨wr.heap.size, 2, none⟩ = some (.string t) ∧ w'.cell? ⟨wr.heap.size + 1, 0, none⟩ = some (.int .i64 3) ∧ w'.cell? ⟨wr.heap.size + 1, 1, none⟩ = some (.string nm) ∧ w'.cell? ⟨wr.heap.size + 1, 2, none⟩ = some (.string t) ∧ Below w4.heap.size w4 w') := fun w' b => by
            obtain ⟨d0, d1, d2, f0, f1, f2⟩ := C0.out w' b
            exact ⟨d0, d1, d2, f0, f1, f2, b⟩
          obtain ⟨er, her⟩ : ∃ er, er = checkF ⟨1, nm, t⟩ := ⟨_, rfl⟩
          obtain ⟨ob, hob⟩ : ∃ ob, ob = oneB ⟨1, nm, t⟩ a := ⟨_, rfl⟩
          have CE : Hid (∀ (k' : Int) w', (k' = 1 ∨ k' = 3) → Below w4.heap.size w4 w' → Calls Tryd.prog 14 #[.agg #[.int .i64 k', .string nm, .string t]] w' (fun e w2 => e = .returned (.int .i64 er) ∧ Below w4.heap.size w4 w2)) := fun k' w' hk' b =>
            (check_any k' nm t w' (tabs_below HT.out (B4.out.trans (b.mono B4.out.size))) (Nat.le_trans hw (Nat.le_trans B4.out.size b.size))).mono fun e w2 h => ⟨by (rcases hk' with rfl | rfl); (rw [her]; exact h.1); (rw [her, ← X1.out]; exact h.1), b.trans (h.2.mono b.size)⟩
          have OE : Hid (∀ (k' : Int) w', (k' = 1 ∨ k' = 3) → Below w4.heap.size w4 w' → Calls Tryd.prog 25 #[.agg #[.int .i64 k', .string nm, .string t], .string a] w' (fun e w2 => e = .returned (.bool ob) ∧ Below w4.heap.size w4 w2)) := fun k' w' hk' b =>
            (one_any k' nm t a w' ha2 (tabs_below HT.out (B4.out.trans (b.mono B4.out.size))) (Nat.le_trans hw (Nat.le_trans B4.out.size b.size))).mono fun e w2 h => ⟨by (rcases hk' with rfl | rfl); (rw [hob]; exact h.1); (rw [hob, ← X2.out]; exact h.1), b.trans (h.2.mono b.size)⟩
          have hb0 : Below w4.heap.size w4 w4 := Below.refl _ _
          obtain ⟨d0, d1, d2, f0, f1, f2, _⟩ := KP.out w4 hb0
          clear her hob X1 X2 C0
          go_region_held3 (fun w' => w'.cell? ⟨wr.heap.size, 0, none⟩ = some (.int .i64 1) ∧ w'.cell? ⟨wr.heap.size, 1, none⟩ = some (.string nm) ∧ w'.cell? ⟨wr.heap.size, 2, none⟩ = some (.string t) ∧ w'.cell? ⟨wr.heap.size + 1, 0, none⟩ = some (.int .i64 3) ∧ w'.cell? ⟨wr.heap.size + 1, 1, none⟩ = some (.string nm) ∧ w'.cell? ⟨wr.heap.size + 1, 2, none⟩ = some (.string t) ∧ Below w4.heap.size w4 w')
            ((refine KP.out _ ?_; (try go_split_ands); (repeat (first | refine Below.drew ?_ | refine below_drewN ?_ _)); assumption))
            (first
              | (go_at_call 14; (with_reducible refine Calls.mono (CE.out _ _ ?_ ?_) ?_); (first | exact Or.inl rfl | exact Or.inr rfl); (repeat (first | refine Below.drew ?_ | refine below_drewN ?_ _)); assumption; rintro e w' ⟨rfl, hb9⟩)
              | (go_at_call 25; (with_reducible refine Calls.mono (OE.out _ _ ?_ ?_) ?_); (first | exact Or.inl rfl | exact Or.inr rfl); (repeat (first | refine Below.drew ?_ | refine below_drewN ?_ _)); assumption; rintro e w' ⟨rfl, hb9⟩))
          all_goals
            have B9 := Lib.hid (B4.out.trans (hb9.mono B4.out.size))
            go_wp2_with fail
            go_ret
            exact ⟨by first | rfl | (show Ending.returned (.bool (ob == ob)) = _; rw [beq_self_eq_true]), B9.out⟩
end Go.Proofs.YthlabaijaadocaaDoor
