import Derived.Test.YthlabaijaadocaaDoorMh
/-! The second rune of a span. -/
namespace Go.Proofs.YthlabaijaadocaaDoor
open Go.RowKit Ut Rx

theorem escF_single {l : List Int} {sp : List Span} {t : List Int} (h : escF l = .ok (sp, true, t)) : ∃ c, sp = [(c, c)] := by
  cases l with
  | nil => cases h
  | cons c u =>
    unfold escF at h
    simp only at h
    split at h
    · cases h
    · split at h
      · cases h; exact ⟨c, rfl⟩
      · cases h
theorem memF_single {l : List Int} {sp : List Span} {t : List Int} (h : memF l = .ok (sp, true, t)) : ∃ c, sp = [(c, c)] := by
  cases l with
  | nil => cases h
  | cons c u =>
    simp only [memF] at h
    split at h
    · cases h
    · split at h
      · exact escF_single h
      · cases h; exact ⟨c, rfl⟩

def UppPost (w : World) (r : Nat) (s : ByteArray) (d z : Int) (res : Except Int (Int × List Int)) (e : Ending) (w' : World) : Prop :=
  w.grownBy w' (some r) ∧ match res with
  | .error er => Bad er e
  | .ok (hi, t) => e = .returned (.int .i32 hi) ∧ At w' r s t d z

set_option maxRecDepth 100000 in
set_option maxHeartbeats 2000000 in
theorem upper_any (r : Nat) (s : ByteArray) (lo : Int) (l : List Int) (d z : Int) (w : World) (h : At w r s l d z) (hr : 2 ≤ r) (hT : Lib.Utf8Tabs 0 1 w) (hs : s.size ≤ 256) :
    Calls Tryd.prog 103 #[.pointer (some ⟨r, 0, none⟩), .int .i32 lo] w (UppPost w r s d z (uppF lo l)) := by
  have lt := h.lt
  obtain ⟨p, hrd, hpos⟩ := id h
  have k1 := hrd.p
  have hp0 : (0 : Int) ≤ (p : Int) := by omega
  have hp1 : (p : Int) ≤ 256 := by have := hpos.le; omega
  have P := Lib.hid (peek_at r s l d z w h hT)
  have H := Lib.hid h
  have HT := Lib.hid hT
  clear h hT hrd hpos
  by_cases hbad : (pk l == 92) = true ∧ lo > 125
  · obtain ⟨h1, h2⟩ := hbad
    have E : Hid (uppF lo l = .error 8) := by
      show uppF lo l = _
      unfold uppF
      rw [if_pos (by rw [h1, decide_eq_true h2]; rfl)]
    go_enter Tryd.func103, Tryd.ntmps103
    go_wp2_with fail
    refine P.out.mono ?_
    rintro e w1 ⟨rfl, hb1⟩
    go_wp2_with fail
    refine (bad_at r s l d z 8 w1 (H.out.below hb1)).mono ?_
    rintro e w3 ⟨⟨at_, rfl⟩, rfl⟩
    rw [E.out]
    exact ⟨rfl, grown_below hb1, ⟨_, rfl⟩⟩
  · have hw : (∃ h92 : (pk l == 92) = true, ¬ lo > 125) ∨ (pk l == 92) = false := by
      cases hx : (pk l == 92) with
      | false => exact Or.inr rfl
      | true => exact Or.inl ⟨rfl, fun h2 => hbad ⟨hx, h2⟩⟩
    have E : Hid (uppF lo l = match memF l with | .error e => .error e | .ok (s, single, t) => if !single || decide (lowF s < lo) then .error 8 else .ok (lowF s, t)) := by
      show uppF lo l = _
      unfold uppF
      rw [if_neg (by
        intro h2
        simp only [Bool.and_eq_true, decide_eq_true_eq] at h2
        exact hbad h2)]
      rfl
    clear hbad
    rcases hw with ⟨h92, hlo⟩ | h92
    all_goals
      go_enter Tryd.func103, Tryd.ntmps103
      go_wp2_with fail
      refine P.out.mono ?_
      rintro e w1 ⟨rfl, hb1⟩
      have HT1 := Lib.hid (tabs_below HT.out hb1)
      go_wp2_with fail
      refine (member_any r s l d z w1 (H.out.below hb1) hr HT1.out hs).mono ?_
      rintro e w2 h2
      have h2b := h2.after (grown_below hb1)
      have HT2 := Lib.hid (tabs_grown HT1.out hr h2.1)
      clear h2
      cases hm : memF l with
      | error er =>
        have E2 : Hid (uppF lo l = .error er) := by show uppF lo l = _; rw [E.out, hm]
        rw [hm] at h2b
        obtain ⟨g3, at_, rfl⟩ := id h2b
        rw [E2.out]
        exact ⟨rfl, h2b⟩
      | ok x =>
        obtain ⟨sp, single, u⟩ := x
        rw [hm] at h2b
        obtain ⟨g3, v, rfl, hsp, hat⟩ := h2b
        cases single with
        | false =>
          have E2 : Hid (uppF lo l = .error 8) := by show uppF lo l = _; rw [E.out, hm]; rfl
          obtain ⟨q, hrd, hpos⟩ := id hat
          have q1 := hrd.p
          have q2 := hrd.free 1
          have HR := Lib.hid hrd
          have G := Lib.hid g3
          clear hm hsp hrd hpos hat g3
          go_wp2_with fail
          (first
            | (refine (bad_any r s (p + 1) d z 8 _ (rd_set HR.out (p + 1) ((p : Int) + 1) (by omega))).mono ?_)
            | (refine (bad_any r s p d z 8 _ (rd_set HR.out p (p : Int) rfl)).mono ?_))
          rintro e w4 ⟨⟨at_, rfl⟩, rfl⟩
          rw [E2.out]
          exact ⟨rfl, grown_trans G.out (grown_setCell _ _ _ _), ⟨_, rfl⟩⟩
        | true =>
          obtain ⟨c, rfl⟩ := memF_single hm
          obtain ⟨g, rfl, hg1, hg2⟩ := hsp
          have cc : w2.cell? ⟨g, 0, none⟩ = some (.int .i32 c) := by unfold World.cell?; rw [hg2]; rfl
          have hlow : lowF [(c, c)] = c := rfl
          have HA := Lib.hid hat
          have G := Lib.hid g3
          by_cases hlt : c < lo
          · have E2 : Hid (uppF lo l = .error 8) := by show uppF lo l = _; rw [E.out, hm]; simp [hlow, hlt]
            obtain ⟨q, hrd, hpos⟩ := id hat
            have q1 := hrd.p
            have q2 := hrd.free 1
            have HR := Lib.hid hrd
            clear hm hrd hpos hat g3 hg2 hlow
            go_wp2_with fail
            (first
              | (refine (bad_any r s (p + 1) d z 8 _ (rd_set HR.out (p + 1) ((p : Int) + 1) (by omega))).mono ?_)
              | (refine (bad_any r s p d z 8 _ (rd_set HR.out p (p : Int) rfl)).mono ?_))
            rintro e w4 ⟨⟨at_, rfl⟩, rfl⟩
            rw [E2.out]
            exact ⟨rfl, grown_trans G.out (grown_setCell _ _ _ _), ⟨_, rfl⟩⟩
          · have E2 : Hid (uppF lo l = .ok (c, u)) := by show uppF lo l = _; rw [E.out, hm]; simp [hlow, hlt]
            clear hm hat g3 hg2 hlow
            go_wp2_with fail
            go_ret
            rw [E2.out]
            exact ⟨G.out, rfl, HA.out⟩
end Go.Proofs.YthlabaijaadocaaDoor
