import Derived.Test.YthlabaijaadocaaDoorMz
import Derived.Test.YthlabaijaadocaaDoorMtA
/-! A value's text; what is wrong with a matcher. -/
namespace Go.Proofs.YthlabaijaadocaaDoor
open Go.RowKit Ut Rx Mt

set_option maxRecDepth 100000 in
theorem valued_any (s : ByteArray) (w : World) (hT : Lib.Utf8Tabs 0 1 w) :
    Calls Tryd.prog 32 #[.string s] w (BoolBelow w (valuedB s)) := by
  by_cases h : s.size ≤ 128
  · have hz : (s.size : Int) ≤ 128 := by omega
    have e : valuedB s = Lib.validD s.data.toList := by unfold valuedB; rw [decide_eq_true h, Bool.true_and]
    rw [e]
    have C := Lib.hid (Tryd.utf8_ValidString s w (by omega) hT)
    clear h e hT
    go_enter Tryd.func32, Tryd.ntmps32
    go_wp2_with fail
    refine C.out.mono ?_
    rintro e w1 ⟨rfl, hb⟩
    go_wp2_with fail
    go_ret
    exact ⟨rfl, hb⟩
  · have e : valuedB s = false := by unfold valuedB; rw [decide_eq_false h, Bool.false_and]
    rw [e]
    have hz : ¬ (s.size : Int) ≤ 128 := by omega
    clear hT
    go_enter Tryd.func32, Tryd.ntmps32
    go_wp2_with fail
    go_ret
    exact ⟨rfl, Below.refl _ _⟩

/-- a matcher as a value -/
def mV (m : M) : Value := .agg #[.int .i64 m.k, .string m.n, .string m.v]
def IntBelow (w : World) (n : Int) (e : Ending) (w' : World) : Prop := e = .returned (.int .i64 n) ∧ Below w.heap.size w w'
theorem valuedB_size {s : ByteArray} (h : valuedB s = true) : s.size ≤ 128 ∧ Lib.validD s.data.toList = true := by
  unfold valuedB at h
  simp only [Bool.and_eq_true, decide_eq_true_eq] at h
  exact h

set_option maxRecDepth 100000 in
set_option maxHeartbeats 2000000 in
theorem check_any (k : Int) (n v : ByteArray) (w : World) (hT : Lib.Utf8Tabs 0 1 w) (hw : 2 ≤ w.heap.size) :
    Calls Tryd.prog 14 #[.agg #[.int .i64 k, .string n, .string v]] w (IntBelow w (checkF ⟨k, n, v⟩)) := by
  have HT := Lib.hid hT
  have B0 : Hid (Below w.heap.size w (w.alloc (.cells #[.int .i64 k, .string n, .string v] 26))) := (Below.refl _ _).alloc (Nat.le_refl _) _
  have C0 : Hid (∀ w', Below (w.alloc (.cells #[.int .i64 k, .string n, .string v] 26)).heap.size (w.alloc (.cells #[.int .i64 k, .string n, .string v] 26)) w' →
      w'.cell? ⟨w.heap.size, 0, none⟩ = some (.int .i64 k) ∧ w'.cell? ⟨w.heap.size, 1, none⟩ = some (.string n) ∧ w'.cell? ⟨w.heap.size, 2, none⟩ = some (.string v) ∧ Below w.heap.size w w') := fun w' b => by
    have lt : w.heap.size < (w.alloc (.cells #[.int .i64 k, .string n, .string v] 26)).heap.size := by simp
    exact ⟨(b.cell (p := ⟨w.heap.size, 0, none⟩) lt).trans (World.cell?_alloc_at _ _ _ _ rfl), (b.cell (p := ⟨w.heap.size, 1, none⟩) lt).trans (World.cell?_alloc_at _ _ _ _ rfl), (b.cell (p := ⟨w.heap.size, 2, none⟩) lt).trans (World.cell?_alloc_at _ _ _ _ rfl), B0.out.trans (b.mono B0.out.size)⟩
  have N := Lib.hid (named_any n (w.alloc (.cells #[.int .i64 k, .string n, .string v] 26)))
  clear hT
  by_cases hk : k < 1 ∨ k > 4
  · have E : Hid (checkF ⟨k, n, v⟩ = 70) := by
      show checkF _ = _
      unfold checkF
      rcases hk with h | h <;> simp [h]
    have hw2 : k < 1 ∨ (¬ k < 1 ∧ k > 4) := by omega
    clear hk
    rcases hw2 with h | ⟨h, h2⟩
    · have hd : decide (k < 1) = true := by simpa using h
      go_enter Tryd.func14, Tryd.ntmps14
      go_wp2_with fail
      go_ret
      rw [E.out]
      exact ⟨rfl, B0.out⟩
    · have hd : decide (k < 1) = false := by simpa using h
      have hd2 : decide (4 < k) = true := by simpa using h2
      go_enter Tryd.func14, Tryd.ntmps14
      go_wp2_with fail
      go_ret
      rw [E.out]
      exact ⟨rfl, B0.out⟩
  · have h1 : ¬ k < 1 := fun h => hk (Or.inl h)
    have h4 : ¬ k > 4 := fun h => hk (Or.inr h)
    have hd : decide (k < 1) = false := by simpa using h1
    have hd2 : decide (4 < k) = false := by simpa using h4
    have E : Hid (checkF ⟨k, n, v⟩ = if !namedF n.data.toList then 50 else if !valuedB v then 51 else if k < 3 then 0 else errF (rexF (rn v.data.toList))) := by
      show checkF _ = _
      unfold checkF
      rw [if_neg (by simp [h1, h4])]
    clear hk h1 h4
    go_enter Tryd.func14, Tryd.ntmps14
    go_wp2_with fail
    refine N.out.mono ?_
    rintro e w1 ⟨rfl, hb1⟩
    obtain ⟨c0, c1, c2, bw1⟩ := C0.out w1 hb1
    have BW1 := Lib.hid bw1
    have V := Lib.hid (valued_any v w1 (tabs_below HT.out bw1))
    have HB1 := Lib.hid hb1
    clear hb1 bw1 N
    cases hn : namedF n.data.toList with
    | false =>
      have E2 : Hid (checkF ⟨k, n, v⟩ = 50) := by show _ = _; rw [E.out, hn]; rfl
      clear hn
      go_wp2_with fail
      go_ret
      rw [E2.out]
      exact ⟨rfl, BW1.out⟩
    | true =>
      have E2 : Hid (checkF ⟨k, n, v⟩ = if !valuedB v then 51 else if k < 3 then 0 else errF (rexF (rn v.data.toList))) := by show _ = _; rw [E.out, hn]; rfl
      clear hn E
      go_wp2_with fail
      refine V.out.mono ?_
      rintro e w2 ⟨rfl, hb2⟩
      obtain ⟨c0', c1', c2', bw2⟩ := C0.out w2 (HB1.out.trans (hb2.mono HB1.out.size))
      have BW2 := Lib.hid bw2
      clear c0 c1 c2 bw2 hb2 V HB1
      cases hv : valuedB v with
      | false =>
        have E3 : Hid (checkF ⟨k, n, v⟩ = 51) := by show _ = _; rw [E2.out, hv]; rfl
        clear hv
        go_wp2_with fail
        go_ret
        rw [E3.out]
        exact ⟨rfl, BW2.out⟩
      | true =>
        obtain ⟨hs, hvd⟩ := valuedB_size hv
        have E3 : Hid (checkF ⟨k, n, v⟩ = if k < 3 then 0 else errF (rexF (rn v.data.toList))) := by show _ = _; rw [E2.out, hv]; rfl
        have P := Lib.hid (parse_any v w2 (by omega) hvd (tabs_below HT.out BW2.out) (Nat.le_trans hw BW2.out.size))
        clear hv E2 hs hvd
        by_cases h3 : k < 3
        · have E4 : Hid (checkF ⟨k, n, v⟩ = 0) := by show _ = _; rw [E3.out, if_pos h3]
          go_wp2_with fail
          go_ret
          rw [E4.out]
          exact ⟨rfl, BW2.out⟩
        · have E4 : Hid (checkF ⟨k, n, v⟩ = errF (rexF (rn v.data.toList))) := by show _ = _; rw [E3.out, if_neg h3]
          clear E3
          go_wp2_with fail
          refine P.out.mono ?_
          rintro e w3 ⟨hb3, h3'⟩
          have BW3 : Hid (Below w.heap.size w w3) := BW2.out.trans (hb3.mono BW2.out.size)
          clear hb3 P
          cases hr : rexF (rn v.data.toList) with
          | ok p =>
            rw [hr] at h3'
            obtain ⟨x, rfl, _⟩ := h3'
            have E5 : Hid (checkF ⟨k, n, v⟩ = 0) := by show _ = _; rw [E4.out, hr]; rfl
            clear hr
            go_wp2_with fail
            go_ret
            rw [E5.out]
            exact ⟨rfl, BW3.out⟩
          | error er =>
            rw [hr] at h3'
            obtain ⟨q, rfl⟩ := h3'
            have E5 : Hid (checkF ⟨k, n, v⟩ = er) := by show _ = _; rw [E4.out, hr]; rfl
            clear hr
            go_wp2_with fail
            go_ret
            rw [E5.out]
            exact ⟨rfl, BW3.out⟩
end Go.Proofs.YthlabaijaadocaaDoor
