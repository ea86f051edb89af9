import Derived.Test.YthlabaijaadocaaDoorMg
/-! A rune of a class; the second rune of a span. -/
namespace Go.Proofs.YthlabaijaadocaaDoor
open Go.RowKit Ut Rx

theorem EscPost.after {w w1 w2 : World} {r : Nat} {s : ByteArray} {d z : Int} {res : Except Int (List Span × Bool × List Int)} {e : Ending} (g : w.grownBy w1 (some r)) (h : EscPost w1 r s d z res e w2) : EscPost w r s d z res e w2 := by
  refine ⟨grown_trans g h.1, ?_⟩
  have h2 := h.2
  cases res with
  | error er => exact h2
  | ok x =>
    obtain ⟨v, e1, ⟨b, e2, e3, e4⟩, e5⟩ := h2
    exact ⟨v, e1, ⟨b, e2, Nat.le_trans g.size e3, e4⟩, e5⟩

set_option maxRecDepth 100000 in
set_option maxHeartbeats 1000000 in
theorem member_any (r : Nat) (s : ByteArray) (l : List Int) (d z : Int) (w : World) (h : At w r s l d z) (hr : 2 ≤ r) (hT : Lib.Utf8Tabs 0 1 w) (hs : s.size ≤ 256) :
    Calls Tryd.prog 102 #[.pointer (some ⟨r, 0, none⟩)] w (EscPost w r s d z (memF l)) := by
  have lt := h.lt
  have P := Lib.hid (peek_at r s l d z w h hT)
  have H := Lib.hid h
  have HT := Lib.hid hT
  clear hT
  by_cases hb : pk l = -1 ∨ pk l = 91 ∨ pk l = 93 ∨ pk l = 94 ∨ pk l = 45
  · have E : Hid (memF l = .error 8) := by
      show memF l = _
      cases l with
      | nil => rfl
      | cons c t =>
        have c0 := h.pos
        have : (c == 91 || c == 93 || c == 94 || c == 45) = true := by
          have e : pk (c :: t) = c := rfl
          rw [e] at hb
          rcases hb with e | e | e | e | e <;> first | omega | (subst e; rfl)
        simp [memF, this]
    clear h
    rcases hb with e | e | e | e | e
    all_goals
      have EP := Lib.hid e
      clear e
      go_enter Tryd.func102, Tryd.ntmps102
      go_wp2_with fail
      refine P.out.mono ?_
      rintro e w1 ⟨rfl, hb1⟩
      rw [EP.out]
      go_wp2_with fail
      refine (bad_at r s l d z 8 w1 (H.out.below hb1)).mono ?_
      rintro e w3 ⟨⟨at_, rfl⟩, rfl⟩
      rw [E.out]
      exact ⟨rfl, grown_below hb1, ⟨_, rfl⟩⟩
  · cases l with
    | nil => exact absurd (Or.inl rfl) hb
    | cons c t =>
      have c0 := h.pos
      have hp0 : pk (c :: t) = c := rfl
      rw [hp0] at hb
      have n1 : ¬ c = 91 := fun e => hb (by simp [e])
      have n2 : ¬ c = 93 := fun e => hb (by simp [e])
      have n3 : ¬ c = 94 := fun e => hb (by simp [e])
      have n4 : ¬ c = 45 := fun e => hb (by simp [e])
      have hm1 : (c == -1) = false := by simp; omega
      have h91 : (c == 91) = false := by simpa using n1
      have h93 : (c == 93) = false := by simpa using n2
      have h94 : (c == 94) = false := by simpa using n3
      have h45 : (c == 45) = false := by simpa using n4
      clear hb n1 n2 n3 n4
      by_cases h92 : c = 92
      · subst h92
        have E : Hid (memF (92 :: t) = escF t) := rfl
        clear h h91 h93 h94 h45 hm1 c0
        go_enter Tryd.func102, Tryd.ntmps102
        go_wp2_with fail
        refine P.out.mono ?_
        rintro e w1 ⟨rfl, hb1⟩
        rw [hp0]
        go_wp2_with fail
        refine (skip_any r s 92 t d z _ (H.out.below hb1) hs).mono ?_
        rintro e w2 ⟨rfl, h2, g2⟩
        have HT2 := Lib.hid (tabs_grown (tabs_below HT.out hb1) hr g2)
        go_wp2_with fail
        refine (escape_any r s t d z w2 h2 HT2.out hs).mono ?_
        rintro e w3 h3
        have h3b := h3.after (below_then hb1 g2)
        have H3 : Hid (EscPost w r s d z (memF (92 :: t)) e w3) := by rw [E.out]; exact h3b
        clear h3
        cases hx : escF t with
        | error er =>
          rw [hx] at h3b
          obtain ⟨g3, at_, rfl⟩ := id h3b
          exact ⟨rfl, H3.out⟩
        | ok x =>
          obtain ⟨sp, single, u⟩ := x
          rw [hx] at h3b
          obtain ⟨g3, v, rfl, _⟩ := id h3b
          clear h3b hx
          go_wp2_with fail
          go_ret2
          exact H3.out
      · have h92b : (c == 92) = false := by simpa using h92
        have E : Hid (memF (c :: t) = .ok ([(c, c)], true, t)) := by
          show memF (c :: t) = _
          simp [memF, h91, h93, h94, h45, h92]
        clear h92 h
        go_enter Tryd.func102, Tryd.ntmps102
        go_wp2_with fail
        refine P.out.mono ?_
        rintro e w1 ⟨rfl, hb1⟩
        rw [hp0]
        go_wp2_with fail
        refine (skip_any r s c t d z _ (H.out.below hb1) hs).mono ?_
        rintro e w2 ⟨rfl, h2, g2⟩
        have H2 := Lib.hid h2
        clear h2
        go_wp2_with fail
        go_ret2
        rw [E.out]
        have b3 : Below w2.heap.size w2 (w2.alloc (.cells #[.int .i32 c, .int .i32 c] 149)) := (Below.refl _ _).alloc (Nat.le_refl _) _
        have g : w.grownBy w2 (some r) := below_then hb1 g2
        exact ⟨grown_then g b3, _, rfl, SpanAt.new w2 [(c, c)] g.size, H2.out.below b3⟩
end Go.Proofs.YthlabaijaadocaaDoor
