import Derived.Test.YthlabaijaadocaaDoorMf
/-! What stands behind a backslash; a rune of a class; the second rune of a span. -/
namespace Go.Proofs.YthlabaijaadocaaDoor
open Go.RowKit Ut Rx

theorem At.below {w w' : World} {r : Nat} {s : ByteArray} {l : List Int} {d z : Int} (h : At w r s l d z) (b : Below w.heap.size w w') : At w' r s l d z :=
  let ⟨p, hr, hp⟩ := h; ⟨p, hr.below b, hp⟩
theorem At.lt {w : World} {r : Nat} {s : ByteArray} {l : List Int} {d z : Int} (h : At w r s l d z) : r < w.heap.size := let ⟨_, hr, _⟩ := h; hr.lt
theorem At.pos {w : World} {r : Nat} {s : ByteArray} {c : Int} {l : List Int} {d z : Int} (h : At w r s (c :: l) d z) : 0 ≤ c := let ⟨_, _, hp⟩ := h; let ⟨_, _, _, _, h0, _⟩ := hp.cons; h0
theorem peek_at (r : Nat) (s : ByteArray) (l : List Int) (d z : Int) (w : World) (h : At w r s l d z) (hT : Lib.Utf8Tabs 0 1 w) :
    Calls Tryd.prog 71 #[.pointer (some ⟨r, 0, none⟩)] w fun e w' => e = .returned (.int .i32 (pk l)) ∧ Below w.heap.size w w' :=
  let ⟨p, hr, hp⟩ := h; peek_any r s p d z l w hr hp hT
theorem bad_at (r : Nat) (s : ByteArray) (l : List Int) (d z : Int) (er : Int) (w : World) (h : At w r s l d z) :
    Calls Tryd.prog 55 #[.pointer (some ⟨r, 0, none⟩), .int .i64 er] w (BadPost w er) :=
  let ⟨p, hr, _⟩ := h; bad_any r s p d z er w hr

/-- spans in a block of their own -/
def SpanAt (w : World) (base : Nat) (v : Value) (sp : List Span) : Prop := ∃ g, v = .slice (some ⟨g, 0, none⟩) sp.length sp.length ∧ base ≤ g ∧ w.heap[g]? = some (.cells (spC sp).toArray 149 (0, 0))
theorem SpanAt.grown {w w' : World} {base : Nat} {v : Value} {sp : List Span} {r : Nat} (h : SpanAt w base v sp) (g : w.grownBy w' (some r)) (hr : r < base) : SpanAt w' base v sp := by
  obtain ⟨b, e, hb, hc⟩ := h
  refine ⟨b, e, hb, (g.block b (Array.getElem?_eq_some_iff.1 hc).1 ?_).trans hc⟩
  intro e'
  have : b = r := Option.some.inj e'
  omega
theorem SpanAt.new (w : World) (sp : List Span) {base : Nat} (h : base ≤ w.heap.size) : SpanAt (w.alloc (.cells (spC sp).toArray 149)) base (.slice (some ⟨w.heap.size, 0, none⟩) sp.length sp.length) sp :=
  ⟨w.heap.size, rfl, h, heap_alloc_new w _⟩

def EscPost (w : World) (r : Nat) (s : ByteArray) (d z : Int) (res : Except Int (List Span × Bool × List Int)) (e : Ending) (w' : World) : Prop :=
  w.grownBy w' (some r) ∧ match res with
  | .error er => Bad er e
  | .ok (sp, single, t) => ∃ v, e = .returned (.tuple #[v, .bool single]) ∧ SpanAt w' w.heap.size v sp ∧ At w' r s t d z

set_option maxRecDepth 100000 in
set_option maxHeartbeats 1000000 in
theorem escape_any (r : Nat) (s : ByteArray) (l : List Int) (d z : Int) (w : World) (h : At w r s l d z) (hT : Lib.Utf8Tabs 0 1 w) (hs : s.size ≤ 256) :
    Calls Tryd.prog 97 #[.pointer (some ⟨r, 0, none⟩)] w (EscPost w r s d z (escF l)) := by
  have lt := h.lt
  have P := Lib.hid (peek_at r s l d z w h hT)
  have H := Lib.hid h
  cases l with
  | nil =>
    have E : Hid (escF [] = .error 8) := rfl
    clear h hT
    go_enter Tryd.func97, Tryd.ntmps97
    go_wp2_with fail
    refine P.out.mono ?_
    rintro e w1 ⟨rfl, hb1⟩
    have H1 := Lib.hid (H.out.below hb1)
    have hp0 : pk [] = -1 := rfl
    rw [hp0]
    go_wp2_with fail
    refine (shorts_any (-1) w1).mono ?_
    rintro e w2 ⟨rfl, rfl⟩
    go_wp2_with fail
    refine (bad_at r s [] d z 8 w1 H1.out).mono ?_
    rintro e w3 ⟨⟨at_, rfl⟩, rfl⟩
    exact ⟨rfl, grown_below hb1, ⟨_, rfl⟩⟩
  | cons c t =>
    have c0 := h.pos
    have hp0 : pk (c :: t) = c := rfl
    cases hsh : shortF c with
    | some sp =>
      have E : Hid (escF (c :: t) = .ok (sp, false, t)) := by show escF (c :: t) = _; simp [escF, hsh]
      have C : Hid (∀ w, Calls Tryd.prog 104 #[.int .i32 c] w fun e w' => e = .returned (.slice (some ⟨w.heap.size, 0, none⟩) sp.length sp.length) ∧ w' = w.alloc (.cells (spC sp).toArray 149)) := fun w => by
        have := shorts_any c w
        unfold ShPost at this
        rw [hsh] at this
        exact this
      have S : Hid (∀ w1 w2 : World, Below w.heap.size w w1 → SkipPost (w1.alloc (.cells (spC sp).toArray 149)) r s t d z (.returned (.tuple #[])) w2 → EscPost w r s d z (.ok (sp, false, t)) (.returned (.tuple #[.slice (some ⟨w1.heap.size, 0, none⟩) sp.length sp.length, .bool false])) w2) := fun w1 w2 hb h2 => by
        refine ⟨below_then (hb.alloc hb.size _) h2.2.2, _, rfl, (SpanAt.new w1 sp hb.size).grown h2.2.2 lt, h2.2.1⟩
      have K : Hid (∀ w1 : World, Below w.heap.size w w1 → At (w1.alloc (.cells (spC sp).toArray 149)) r s (c :: t) d z) := fun w1 hb => h.below (hb.alloc hb.size _)
      clear h hT hsh H
      go_enter Tryd.func97, Tryd.ntmps97
      go_wp2_with fail
      refine P.out.mono ?_
      rintro e w1 ⟨rfl, hb1⟩
      rw [hp0]
      go_wp2_with fail
      refine (C.out w1).mono ?_
      rintro e w2 ⟨rfl, rfl⟩
      go_wp2_with fail
      refine (skip_any r s c t d z _ (K.out w1 hb1) hs).mono ?_
      rintro e w3 h3
      obtain ⟨rfl, h3b⟩ := id h3
      go_wp2_with fail
      go_ret2
      rw [E.out]
      exact S.out w1 w3 hb1 h3
    | none =>
      have C : Hid (∀ w, Calls Tryd.prog 104 #[.int .i32 c] w fun e w' => e = .returned (.slice none 0 0) ∧ w = w') := fun w => by
        have := shorts_any c w
        unfold ShPost at this
        rw [hsh] at this
        exact this
      have K : Hid (∀ w1 w2 : World, Below w.heap.size w w1 → Below w1.heap.size w1 w2 → At w2 r s (c :: t) d z ∧ w.grownBy w2 (some r)) := fun w1 w2 hb hb2 => ⟨(h.below hb).below hb2, grown_then (grown_below hb) hb2⟩
      have S : Hid (∀ w1 w2 w3 : World, Below w.heap.size w w1 → Below w1.heap.size w1 w2 → SkipPost w2 r s t d z (.returned (.tuple #[])) w3 → EscPost w r s d z (.ok ([(c, c)], true, t)) (.returned (.tuple #[.slice (some ⟨w3.heap.size, 0, none⟩) 1 1, .bool true])) (w3.alloc (.cells #[.int .i32 c, .int .i32 c] 149))) := fun w1 w2 w3 hb hb2 h3 => by
        have g : w.grownBy w3 (some r) := grown_trans (grown_then (grown_below hb) hb2) h3.2.2
        have b3 : Below w3.heap.size w3 (w3.alloc (.cells #[.int .i32 c, .int .i32 c] 149)) := (Below.refl _ _).alloc (Nat.le_refl _) _
        exact ⟨grown_then g b3, _, rfl, SpanAt.new w3 [(c, c)] g.size, h3.2.1.below b3⟩
      have N : Hid (∀ w1 w2 : World, Below w.heap.size w w1 → Below w1.heap.size w1 w2 → ∀ e w3, BadPost w2 8 e w3 → EscPost w r s d z (.error 8) e w3) := fun w1 w2 hb hb2 e w3 h3 => by
        obtain ⟨h3, rfl⟩ := h3
        exact ⟨grown_then (grown_below hb) hb2, h3⟩
      by_cases hok : (specB c || c == 45 || c == 47) = true
      · have E : Hid (escF (c :: t) = .ok ([(c, c)], true, t)) := by show escF (c :: t) = _; simp only [escF, hsh]; rw [if_pos hok]
        have hw : specB c = true ∨ (specB c = false ∧ (c != 45) = false) ∨ (specB c = false ∧ (c != 45) = true ∧ (c != 47) = false) := by
          cases h1 : specB c with
          | true => exact Or.inl rfl
          | false =>
            rw [h1] at hok
            by_cases h2 : c = 45
            · exact Or.inr (Or.inl ⟨rfl, by simp [h2]⟩)
            · have h3 : c = 47 := by simpa [h2] using hok
              exact Or.inr (Or.inr ⟨rfl, by simp [h2], by simp [h3]⟩)
        clear h hT hsh H hok
        rcases hw with hb | ⟨hb, h45⟩ | ⟨hb, h45, h47⟩
        all_goals
          have HB := Lib.hid hb
          clear hb
          go_enter Tryd.func97, Tryd.ntmps97
          go_wp2_with fail
          refine P.out.mono ?_
          rintro e w1 ⟨rfl, hb1⟩
          rw [hp0]
          go_wp2_with fail
          refine (C.out w1).mono ?_
          rintro e w2 ⟨rfl, rfl⟩
          go_wp2_with fail
          refine (special_any c w1).mono ?_
          rintro e w2 ⟨rfl, hb2⟩
          rw [HB.out]
          go_wp2_with fail
          refine (skip_any r s c t d z _ (K.out w1 w2 hb1 hb2).1 hs).mono ?_
          rintro e w3 h3
          obtain ⟨rfl, h3b⟩ := id h3
          go_wp2_with fail
          go_ret2
          rw [E.out]
          exact S.out w1 w2 w3 hb1 hb2 h3
      · have E : Hid (escF (c :: t) = .error 8) := by show escF (c :: t) = _; simp only [escF, hsh]; rw [if_neg hok]
        have hw : specB c = false ∧ (c != 45) = true ∧ (c != 47) = true := by
          cases h1 : specB c with
          | true => rw [h1] at hok; simp at hok
          | false =>
            rw [h1] at hok
            by_cases h2 : c = 45
            · simp [h2] at hok
            · by_cases h3 : c = 47
              · simp [h3] at hok
              · exact ⟨rfl, by simp [h2], by simp [h3]⟩
        obtain ⟨hb, h45, h47⟩ := hw
        have HB := Lib.hid hb
        clear h hT hsh H hok hb
        go_enter Tryd.func97, Tryd.ntmps97
        go_wp2_with fail
        refine P.out.mono ?_
        rintro e w1 ⟨rfl, hb1⟩
        rw [hp0]
        go_wp2_with fail
        refine (C.out w1).mono ?_
        rintro e w2 ⟨rfl, rfl⟩
        go_wp2_with fail
        refine (special_any c w1).mono ?_
        rintro e w2 ⟨rfl, hb2⟩
        rw [HB.out]
        go_wp2_with fail
        refine (bad_at r s (c :: t) d z 8 w2 (K.out w1 w2 hb1 hb2).1).mono ?_
        rintro e w3 h3
        obtain ⟨⟨at_, rfl⟩, _⟩ := id h3
        rw [E.out]
        exact ⟨rfl, N.out w1 w2 hb1 hb2 _ w3 h3⟩
end Go.Proofs.YthlabaijaadocaaDoor
