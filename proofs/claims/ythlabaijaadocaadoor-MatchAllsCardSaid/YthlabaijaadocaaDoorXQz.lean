import Derived.Test.YthlabaijaadocaaDoorXB9
/-! The reference's answer whether labels pass matchers. -/
namespace Go.Proofs.YthlabaijaadocaaDoor
open Go.RowKit Ut Rx Mt Go.Lib

set_option maxRecDepth 100000 in
set_option maxHeartbeats 4000000 in
theorem rAll_any (l : List M) (mv : Value) (x : List L) (lv : Value) (w : World) (hm : Ms w mv l) (hl : Lb w lv x) (hsz : ∀ m ∈ l, m.n.size ≤ maxLen) :
    Calls Tryd.prog 30 #[mv, lv] w (BoolBelow w (allF l x)) := by
  have R := Lib.hid (rRight_any l mv w hm hsz)
  have HL := Lib.hid hl
  have HM := Lib.hid hm
  have HSZ := Lib.hid hsz
  have HGS := Lib.hid (fun m => getF_size (l := x) (by obtain ⟨_, _, _, _, h, _⟩ := hl; exact h) m)
  clear hl hm hsz
  obtain ⟨A, c, rfl, hbig, hcells⟩ := HM.out
  have HC := Lib.hid hcells
  clear hcells
  go_enter Tryd.func30, Tryd.ntmps30
  go_wp2_with fail
  refine R.out.mono ?_
  rintro e w1 ⟨rfl, hb⟩
  have B1 := Lib.hid hb
  clear hb R
  by_cases h0 : rightF l = 0
  · have EA : Hid (allF l x = passAll l x) := by show _ = _; unfold allF; rw [h0]; simp
    have OK := Lib.hid (right_ok h0)
    rw [h0]
    clear h0
    go_wp2_with fail
    go_loopg [12] l.length (fun gk vk wr => ∃ k : Nat, vk = .int .i64 k ∧ k + gk = l.length ∧ Hid (passAll (l.drop k) x = passAll l x) ∧ Hid (Below w.heap.size w wr))
    case atStart => exact ⟨0, rfl, by omega, rfl, B1⟩
    case round =>
      obtain ⟨k, rfl, hk, HR, HB⟩ := hrel
      clear B1
      by_cases hlt : k < l.length
      · obtain ⟨b, off, rfl, hc⟩ := HC.out (fun e => by rw [e] at hlt; simp at hlt)
        obtain ⟨c0', c1', c2'⟩ := hc k hlt
        have lb : b < w.heap.size := World.block_lt_of_cell? w _ c0'
        have c0 := (HB.out.cell (p := ⟨b, off + k * 3, none⟩) lb).trans c0'
        have c1 := (HB.out.cell (p := ⟨b, off + k * 3 + 1, none⟩) lb).trans c1'
        have c2 := (HB.out.cell (p := ⟨b, off + k * 3 + 2, none⟩) lb).trans c2'
        have HD : Hid (l.drop k = ⟨(l[k]'hlt).k, (l[k]'hlt).n, (l[k]'hlt).v⟩ :: l.drop (k + 1)) := List.drop_eq_getElem_cons hlt
        have NS := Lib.hid (HSZ.out _ (List.getElem_mem hlt))
        have CK : Hid (checkF ⟨(l[k]'hlt).k, (l[k]'hlt).n, (l[k]'hlt).v⟩ = 0) := OK.out _ (List.getElem_mem hlt)
        clear hc c0' c1' c2' HC
        generalize (l[k]'hlt).k = mk at *
        generalize (l[k]'hlt).n = mn at *
        generalize (l[k]'hlt).v = mv at *
        have C0 := Lib.hid (mBox_at wr mk mn mv)
        obtain ⟨w3, hw3⟩ : ∃ x, x = mBox wr mk mn mv := ⟨_, rfl⟩
        rw [← hw3] at C0
        obtain ⟨a0, a1, a2, ba⟩ := C0.out w3 (Below.refl _ _)
        have B3 := Lib.hid (HB.out.trans (ba.mono HB.out.size))
        unfold mBox at hw3
        rw [hw3] at a0 a1 a2
        clear ba
        go_upto_region 6 with fail
        rw [← hw3]
        rw [← hw3] at a0 a1 a2
        clear hw3 c0 c1 c2
        have KP : Hid (∀ w', Below w3.heap.size w3 w' → w'.cell? ⟨wr.heap.size, 0, none⟩ = some (.int .i64 mk) ∧ w'.cell? ⟨wr.heap.size, 1, none⟩ = some (.string mn) ∧ w'.cell? ⟨wr.heap.size, 2, none⟩ = some (.string mv) ∧ Below w3.heap.size w3 w') := fun w' hb => ⟨(C0.out w' hb).1, (C0.out w' hb).2.1, (C0.out w' hb).2.2.1, hb⟩
        have GE : Hid (∀ w', Below w3.heap.size w3 w' → Calls Tryd.prog 50 #[lv, .string mn] w' (fun e w2 => e = .returned (.string (getF x (by_ mn))) ∧ Below w3.heap.size w3 w2)) := fun w' b =>
          (rGet_any x lv mn w' (HL.out.below (B3.out.trans (b.mono B3.out.size)))).mono fun e w2 h => ⟨h.1, b.trans (h.2.mono b.size)⟩
        have PE : Hid (∀ w', Below w3.heap.size w3 w' → Calls Tryd.prog 26 #[.agg #[.int .i64 mk, .string mn, .string mv], .string (getF x (by_ mn))] w' (fun e w2 => e = .returned (.bool (passF ⟨mk, mn, mv⟩ (getF x (by_ mn)))) ∧ Below w3.heap.size w3 w2)) := fun w' b =>
          (rOne_any mk mn mv (getF x (by_ mn)) w' NS.out (HGS.out _)).mono fun e w2 h => ⟨by rw [h.1]; unfold oneB; rw [CK.out]; rfl, b.trans (h.2.mono b.size)⟩
        have hb0 : Below w3.heap.size w3 w3 := Below.refl _ _
        clear C0 CK
        generalize hgv : getF x (by_ mn) = gv at *
        have HGV := Lib.hid hgv
        generalize hpv : passF ⟨mk, mn, mv⟩ gv = pv at *
        have HPV := Lib.hid hpv
        clear hgv hpv
        go_region_held3 (fun w' => w'.cell? ⟨wr.heap.size, 0, none⟩ = some (.int .i64 mk) ∧ w'.cell? ⟨wr.heap.size, 1, none⟩ = some (.string mn) ∧ w'.cell? ⟨wr.heap.size, 2, none⟩ = some (.string mv) ∧ Below w3.heap.size w3 w')
          ((refine KP.out _ ?_; (try go_split_ands); (repeat (first | refine Below.drew ?_ | refine below_drewN ?_ _)); assumption))
          (first
            | (go_at_call 50; refine Calls.mono (GE.out _ ?_) ?_; (repeat (first | refine Below.drew ?_ | refine below_drewN ?_ _)); assumption; rintro e w' ⟨rfl, hb9⟩)
            | (go_at_call 26; refine Calls.mono (PE.out _ ?_) ?_; (repeat (first | refine Below.drew ?_ | refine below_drewN ?_ _)); assumption; rintro e w' ⟨rfl, hb9⟩))
        all_goals
          have B4 := Lib.hid (B3.out.trans (hb9.mono B3.out.size))
          have HP : Hid (passAll l x = (pv && passAll (l.drop (k + 1)) x)) := by
            have := HR.out
            rw [HD.out] at this
            have e : passAll (⟨mk, mn, mv⟩ :: l.drop (k + 1)) x = (passF ⟨mk, mn, mv⟩ (getF x (by_ mn)) && passAll (l.drop (k + 1)) x) := rfl
            rw [e, HGV.out, HPV.out] at this
            exact this.symm
          clear KP GE PE hb9 a0 a1 a2 HR HD
          cases pv with
          | true =>
            go_wp2_with fail
            go_roundg (l.length - (k + 1))
            case measure => omega
            case rel => exact ⟨k + 1, by go_num, by omega, by show _ = _; rw [HP.out, Bool.true_and], B4⟩
          | false =>
            go_wp2_with fail
            go_ret
            rw [EA.out, HP.out]
            exact ⟨rfl, B4.out⟩
      · have hkl : k = l.length := by omega
        subst hkl
        have E : Hid (passAll l x = true) := by
          have := HR.out
          rw [List.drop_length] at this
          exact this.symm
        go_wp2_with fail
        go_ret
        rw [EA.out, E.out]
        exact ⟨rfl, HB.out⟩
  · have EA : Hid (allF l x = false) := by show _ = _; unfold allF; rw [decide_eq_false h0]; rfl
    have hne : (rightF l != 0) = true := by simpa using h0
    clear h0
    generalize rightF l = r at *
    go_wp2_with fail
    go_ret
    rw [EA.out]
    exact ⟨rfl, B1.out⟩
end Go.Proofs.YthlabaijaadocaaDoor
