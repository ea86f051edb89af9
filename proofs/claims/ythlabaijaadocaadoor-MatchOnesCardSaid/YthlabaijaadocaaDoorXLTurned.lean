import Derived.Test.YthlabaijaadocaaDoorXB2
/-! Of a sign and its contrary just one lets a value pass. -/
namespace Go.Proofs.YthlabaijaadocaaDoor
open Go.RowKit Ut Rx Mt

def turnK (k : Int) : Int := if k = 1 then 2 else if k = 2 then 1 else if k = 3 then 4 else 3
theorem turned_check {k : Int} {n v : ByteArray} (h : checkF ⟨k, n, v⟩ = 0) : checkF ⟨turnK k, n, v⟩ = 0 := by
  obtain ⟨h1, h4, _, _⟩ := checkF_ok h
  have hk : k = 1 ∨ k = 2 ∨ k = 3 ∨ k = 4 := by omega
  unfold checkF at h ⊢
  rcases hk with rfl | rfl | rfl | rfl <;> simpa [turnK] using h
theorem turned_one {k : Int} {n v : ByteArray} (a : ByteArray) (h : checkF ⟨k, n, v⟩ = 0) : oneB ⟨turnK k, n, v⟩ a = !oneB ⟨k, n, v⟩ a := by
  obtain ⟨h1, h4, _, _⟩ := checkF_ok h
  have hk : k = 1 ∨ k = 2 ∨ k = 3 ∨ k = 4 := by omega
  unfold oneB
  rw [h, turned_check h, decide_eq_true rfl, Bool.true_and, Bool.true_and]
  unfold passF
  rcases hk with rfl | rfl | rfl | rfl
  · show (by_ a != by_ v) = !(by_ a == by_ v); rfl
  · show (by_ a == by_ v) = !(by_ a != by_ v); unfold bne; rw [Bool.not_not]
  · rfl
  · show matchB _ _ = !(!matchB _ _); rw [Bool.not_not]
theorem ms0_one (w : World) (k : Int) (n v : ByteArray) : Ms0 (w.alloc (.cells #[.int .i64 k, .string n, .string v] 26)) (.slice (some ⟨w.heap.size, 0, none⟩) 1 1) [⟨k, n, v⟩] := by
  refine ⟨_, _, rfl, Nat.le_refl _, fun _ => ⟨_, _, rfl, fun i hi => ?_⟩⟩
  obtain rfl : i = 0 := by simp at hi; exact hi
  exact ⟨World.cell?_alloc_at _ _ _ _ rfl, World.cell?_alloc_at _ _ _ _ rfl, World.cell?_alloc_at _ _ _ _ rfl⟩

set_option maxRecDepth 100000 in
set_option maxHeartbeats 4000000 in
theorem turned_any (k : Int) (n v a : ByteArray) (w : World) (hT : Lib.Utf8Tabs 0 1 w) (hw : 2 ≤ w.heap.size) : Calls Tryd.prog 8 #[.agg #[.int .i64 k, .string n, .string v], .string a] w (BoolBelow w true) := by
  have HT := Lib.hid hT
  have B0 : Hid (Below w.heap.size w (w.alloc (.cells #[.int .i64 k, .string n, .string v] 26))) := (Below.refl _ _).alloc (Nat.le_refl _) _
  have C0 : Hid (∀ w', Below (w.alloc (.cells #[.int .i64 k, .string n, .string v] 26)).heap.size (w.alloc (.cells #[.int .i64 k, .string n, .string v] 26)) w' →
      w'.cell? ⟨w.heap.size, 0, none⟩ = some (.int .i64 k) ∧ w'.cell? ⟨w.heap.size, 1, none⟩ = some (.string n) ∧ w'.cell? ⟨w.heap.size, 2, none⟩ = some (.string v) ∧ Below w.heap.size w w') := fun w' b => by
    have lt : w.heap.size < (w.alloc (.cells #[.int .i64 k, .string n, .string v] 26)).heap.size := by simp
    exact ⟨(b.cell (p := ⟨w.heap.size, 0, none⟩) lt).trans (World.cell?_alloc_at _ _ _ _ rfl), (b.cell (p := ⟨w.heap.size, 1, none⟩) lt).trans (World.cell?_alloc_at _ _ _ _ rfl), (b.cell (p := ⟨w.heap.size, 2, none⟩) lt).trans (World.cell?_alloc_at _ _ _ _ rfl), B0.out.trans (b.mono B0.out.size)⟩
  have LV := Lib.hid (fun w' (b : Below w.heap.size w w') => live_any w' (tabs_below HT.out b) (Nat.le_trans hw b.size))
  have CK := Lib.hid (fun (k' : Int) w' (b : Below w.heap.size w w') => check_any k' n v w' (tabs_below HT.out b) (Nat.le_trans hw b.size))
  clear hT
  have hk1 : k = 1 ∨ k = 2 ∨ k = 3 ∨ k = 4 ∨ ¬ (1 ≤ k ∧ k ≤ 4) := by omega
  go_enter Tryd.func8, Tryd.ntmps8
  go_wp2_with fail
  generalize (w.alloc (.cells #[.int .i64 k, .string n, .string v] 26)) = W0 at *
  refine (LV.out _ B0.out).mono ?_
  rintro e w1 ⟨rfl, hb1⟩
  obtain ⟨c0, c1, c2, bw1⟩ := C0.out w1 hb1
  have B1 := Lib.hid bw1
  have D1 := Lib.hid hb1
  clear hb1 bw1
  have M1 := Lib.hid (ms0_one w1 k n v)
  go_wp2_with fail
  refine (few_any _ _ _ M1.out).mono ?_
  rintro e w2 ⟨rfl, hb2'⟩
  have hb2 : Below W0.heap.size W0 w2 := (D1.out.alloc D1.out.size _).trans (hb2'.mono (by have := D1.out.size; simp; omega))
  obtain ⟨d0, d1, d2, bw2⟩ := C0.out w2 hb2
  have B2 := Lib.hid bw2
  have D2 := Lib.hid hb2
  clear hb2 hb2' bw2 c0 c1 c2 M1 B1 D1
  cases hf : fewB [⟨k, n, v⟩] with
  | false =>
    clear hf
    go_wp2_with fail
    refine (LV.out _ B2.out).mono ?_
    rintro e w3 ⟨rfl, hb3⟩
    go_wp2_with fail
    go_ret
    exact ⟨rfl, B2.out.trans (hb3.mono B2.out.size)⟩
  | true =>
    have HF := Lib.hid hf
    clear hf
    by_cases ha : a.size > 200
    · have ha' : (200 : Int) < a.size := by omega
      clear ha
      go_wp2_with fail
      refine (LV.out _ B2.out).mono ?_
      rintro e w3 ⟨rfl, hb3⟩
      go_wp2_with fail
      go_ret
      exact ⟨rfl, B2.out.trans (hb3.mono B2.out.size)⟩
    · have ha' : ¬ (200 : Int) < a.size := by omega
      have ha2 : a.size ≤ 900000 := by omega
      clear ha
      go_wp2_with fail
      refine (CK.out k _ B2.out).mono ?_
      rintro e w3 ⟨rfl, hb3'⟩
      have hb3 : Below W0.heap.size W0 w3 := D2.out.trans (hb3'.mono D2.out.size)
      obtain ⟨e0, e1, e2, bw3⟩ := C0.out w3 hb3
      have B3 := Lib.hid bw3
      have D3 := Lib.hid hb3
      clear hb3 hb3' bw3 d0 d1 d2 B2 D2
      by_cases h0 : checkF ⟨k, n, v⟩ = 0
      · have T1 := Lib.hid (turned_check h0)
        have T2 := Lib.hid (turned_one a h0)
        obtain ⟨k1, k4, _, _⟩ := checkF_ok h0
        rw [h0]
        have H0 := Lib.hid h0
        clear h0
        have hk : k = 1 ∨ k = 2 ∨ k = 3 ∨ k = 4 := by omega
        have lt3 : w.heap.size < w3.heap.size := World.block_lt_of_cell? w3 _ e0
        clear hk1 HF
        rcases hk with rfl | rfl | rfl | rfl
        · have X1 : Hid (checkF ⟨2, n, v⟩ = 0) := T1.out
          have X2 : Hid (oneB ⟨2, n, v⟩ a = !oneB ⟨1, n, v⟩ a) := T2.out
          clear T1 T2 k1 k4
          go_upto_region 13 with fail
          have B4 : Hid (Below w.heap.size w (w3.alloc (.cells #[.int .i64 2, .string n, .string v] 26))) := B3.out.alloc B3.out.size _
          have D4 : Hid (Below W0.heap.size W0 (w3.alloc (.cells #[.int .i64 2, .string n, .string v] 26))) := D3.out.alloc D3.out.size _
          have lt4 : w3.heap.size < (w3.alloc (.cells #[.int .i64 2, .string n, .string v] 26)).heap.size := by simp
          have hv := heap_alloc_new w3 (.cells #[.int .i64 2, .string n, .string v] 26)
          generalize (w3.alloc (.cells #[.int .i64 2, .string n, .string v] 26)) = w4 at *
          have KP : Hid (∀ w', Below w4.heap.size w4 w' → w'.cell? ⟨w3.heap.size, 0, none⟩ = some (.int .i64 2) ∧ w'.cell? ⟨w3.heap.size, 1, none⟩ = some (.string n) ∧ w'.cell? ⟨w3.heap.size, 2, none⟩ = some (.string v) ∧ w'.cell? ⟨w.heap.size, 0, none⟩ = some (.int .i64 1) ∧ w'.cell? ⟨w.heap.size, 1, none⟩ = some (.string n) ∧ w'.cell? ⟨w.heap.size, 2, none⟩ = some (.string v) ∧ Below w4.heap.size w4 w') := fun w' b => by
            obtain ⟨d0, d1, d2, _⟩ := cells3 ((b.block _ lt4).trans hv)
            obtain ⟨f0, f1, f2, _⟩ := C0.out w' (D4.out.trans (b.mono D4.out.size))
            exact ⟨d0, d1, d2, f0, f1, f2, b⟩
          have CE : Hid (∀ w', Below w4.heap.size w4 w' → Calls Tryd.prog 14 #[.agg #[.int .i64 2, .string n, .string v]] w' (fun e w2 => e = .returned (.int .i64 0) ∧ Below w4.heap.size w4 w2)) := fun w' b =>
            (CK.out 2 w' (B4.out.trans (b.mono B4.out.size))).mono fun e w2 h => ⟨by rw [← X1.out]; exact h.1, b.trans (h.2.mono b.size)⟩
          have OE : Hid (∀ (k' : Int) w', Below w4.heap.size w4 w' → Calls Tryd.prog 25 #[.agg #[.int .i64 k', .string n, .string v], .string a] w' (fun e w2 => e = .returned (.bool (oneB ⟨k', n, v⟩ a)) ∧ Below w4.heap.size w4 w2)) := fun k' w' b =>
            (one_any k' n v a w' ha2 (tabs_below HT.out (B4.out.trans (b.mono B4.out.size))) (Nat.le_trans hw (Nat.le_trans B4.out.size b.size))).mono fun e w2 h => ⟨h.1, b.trans (h.2.mono b.size)⟩
          have hb0 : Below w4.heap.size w4 w4 := Below.refl _ _
          obtain ⟨d0, d1, d2, f0, f1, f2, _⟩ := KP.out w4 hb0
          clear e0 e1 e2 hv
          go_region_held3 (fun w' => w'.cell? ⟨w3.heap.size, 0, none⟩ = some (.int .i64 2) ∧ w'.cell? ⟨w3.heap.size, 1, none⟩ = some (.string n) ∧ w'.cell? ⟨w3.heap.size, 2, none⟩ = some (.string v) ∧ w'.cell? ⟨w.heap.size, 0, none⟩ = some (.int .i64 1) ∧ w'.cell? ⟨w.heap.size, 1, none⟩ = some (.string n) ∧ w'.cell? ⟨w.heap.size, 2, none⟩ = some (.string v) ∧ Below w4.heap.size w4 w')
            ((refine KP.out _ ?_; (try go_split_ands); (repeat (first | refine Below.drew ?_ | refine below_drewN ?_ _)); assumption))
            (first
              | (go_at_call 14; (with_reducible refine Calls.mono (CE.out _ ?_) ?_); (repeat (first | refine Below.drew ?_ | refine below_drewN ?_ _)); assumption; rintro e w' ⟨rfl, hb9⟩)
              | (go_at_call 25; (with_reducible refine Calls.mono (OE.out _ _ ?_) ?_); (repeat (first | refine Below.drew ?_ | refine below_drewN ?_ _)); assumption; rintro e w' ⟨rfl, hb9⟩))
          all_goals
            have B9 := Lib.hid (B4.out.trans (hb9.mono B4.out.size))
            go_wp2_with fail
            go_ret
            exact ⟨by show Ending.returned (.bool (oneB ⟨1, n, v⟩ a != oneB ⟨2, n, v⟩ a)) = _; rw [X2.out]; cases oneB ⟨1, n, v⟩ a <;> rfl, B9.out⟩
        · have X1 : Hid (checkF ⟨1, n, v⟩ = 0) := T1.out
          have X2 : Hid (oneB ⟨1, n, v⟩ a = !oneB ⟨2, n, v⟩ a) := T2.out
          clear T1 T2 k1 k4
          go_upto_region 13 with fail
          have B4 : Hid (Below w.heap.size w (w3.alloc (.cells #[.int .i64 1, .string n, .string v] 26))) := B3.out.alloc B3.out.size _
          have D4 : Hid (Below W0.heap.size W0 (w3.alloc (.cells #[.int .i64 1, .string n, .string v] 26))) := D3.out.alloc D3.out.size _
          have lt4 : w3.heap.size < (w3.alloc (.cells #[.int .i64 1, .string n, .string v] 26)).heap.size := by simp
          have hv := heap_alloc_new w3 (.cells #[.int .i64 1, .string n, .string v] 26)
          generalize (w3.alloc (.cells #[.int .i64 1, .string n, .string v] 26)) = w4 at *
          have KP : Hid (∀ w', Below w4.heap.size w4 w' → w'.cell? ⟨w3.heap.size, 0, none⟩ = some (.int .i64 1) ∧ w'.cell? ⟨w3.heap.size, 1, none⟩ = some (.string n) ∧ w'.cell? ⟨w3.heap.size, 2, none⟩ = some (.string v) ∧ w'.cell? ⟨w.heap.size, 0, none⟩ = some (.int .i64 2) ∧ w'.cell? ⟨w.heap.size, 1, none⟩ = some (.string n) ∧ w'.cell? ⟨w.heap.size, 2, none⟩ = some (.string v) ∧ Below w4.heap.size w4 w') := fun w' b => by
            obtain ⟨d0, d1, d2, _⟩ := cells3 ((b.block _ lt4).trans hv)
            obtain ⟨f0, f1, f2, _⟩ := C0.out w' (D4.out.trans (b.mono D4.out.size))
            exact ⟨d0, d1, d2, f0, f1, f2, b⟩
          have CE : Hid (∀ w', Below w4.heap.size w4 w' → Calls Tryd.prog 14 #[.agg #[.int .i64 1, .string n, .string v]] w' (fun e w2 => e = .returned (.int .i64 0) ∧ Below w4.heap.size w4 w2)) := fun w' b =>
            (CK.out 1 w' (B4.out.trans (b.mono B4.out.size))).mono fun e w2 h => ⟨by rw [← X1.out]; exact h.1, b.trans (h.2.mono b.size)⟩
          have OE : Hid (∀ (k' : Int) w', Below w4.heap.size w4 w' → Calls Tryd.prog 25 #[.agg #[.int .i64 k', .string n, .string v], .string a] w' (fun e w2 => e = .returned (.bool (oneB ⟨k', n, v⟩ a)) ∧ Below w4.heap.size w4 w2)) := fun k' w' b =>
            (one_any k' n v a w' ha2 (tabs_below HT.out (B4.out.trans (b.mono B4.out.size))) (Nat.le_trans hw (Nat.le_trans B4.out.size b.size))).mono fun e w2 h => ⟨h.1, b.trans (h.2.mono b.size)⟩
          have hb0 : Below w4.heap.size w4 w4 := Below.refl _ _
          obtain ⟨d0, d1, d2, f0, f1, f2, _⟩ := KP.out w4 hb0
          clear e0 e1 e2 hv
          go_region_held3 (fun w' => w'.cell? ⟨w3.heap.size, 0, none⟩ = some (.int .i64 1) ∧ w'.cell? ⟨w3.heap.size, 1, none⟩ = some (.string n) ∧ w'.cell? ⟨w3.heap.size, 2, none⟩ = some (.string v) ∧ w'.cell? ⟨w.heap.size, 0, none⟩ = some (.int .i64 2) ∧ w'.cell? ⟨w.heap.size, 1, none⟩ = some (.string n) ∧ w'.cell? ⟨w.heap.size, 2, none⟩ = some (.string v) ∧ Below w4.heap.size w4 w')
            ((refine KP.out _ ?_; (try go_split_ands); (repeat (first | refine Below.drew ?_ | refine below_drewN ?_ _)); assumption))
            (first
              | (go_at_call 14; (with_reducible refine Calls.mono (CE.out _ ?_) ?_); (repeat (first | refine Below.drew ?_ | refine below_drewN ?_ _)); assumption; rintro e w' ⟨rfl, hb9⟩)
              | (go_at_call 25; (with_reducible refine Calls.mono (OE.out _ _ ?_) ?_); (repeat (first | refine Below.drew ?_ | refine below_drewN ?_ _)); assumption; rintro e w' ⟨rfl, hb9⟩))
          all_goals
            have B9 := Lib.hid (B4.out.trans (hb9.mono B4.out.size))
            go_wp2_with fail
            go_ret
            exact ⟨by show Ending.returned (.bool (oneB ⟨2, n, v⟩ a != oneB ⟨1, n, v⟩ a)) = _; rw [X2.out]; cases oneB ⟨2, n, v⟩ a <;> rfl, B9.out⟩
        · have X1 : Hid (checkF ⟨4, n, v⟩ = 0) := T1.out
          have X2 : Hid (oneB ⟨4, n, v⟩ a = !oneB ⟨3, n, v⟩ a) := T2.out
          clear T1 T2 k1 k4
          go_upto_region 13 with fail
          have B4 : Hid (Below w.heap.size w (w3.alloc (.cells #[.int .i64 4, .string n, .string v] 26))) := B3.out.alloc B3.out.size _
          have D4 : Hid (Below W0.heap.size W0 (w3.alloc (.cells #[.int .i64 4, .string n, .string v] 26))) := D3.out.alloc D3.out.size _
          have lt4 : w3.heap.size < (w3.alloc (.cells #[.int .i64 4, .string n, .string v] 26)).heap.size := by simp
          have hv := heap_alloc_new w3 (.cells #[.int .i64 4, .string n, .string v] 26)
          generalize (w3.alloc (.cells #[.int .i64 4, .string n, .string v] 26)) = w4 at *
          have KP : Hid (∀ w', Below w4.heap.size w4 w' → w'.cell? ⟨w3.heap.size, 0, none⟩ = some (.int .i64 4) ∧ w'.cell? ⟨w3.heap.size, 1, none⟩ = some (.string n) ∧ w'.cell? ⟨w3.heap.size, 2, none⟩ = some (.string v) ∧ w'.cell? ⟨w.heap.size, 0, none⟩ = some (.int .i64 3) ∧ w'.cell? ⟨w.heap.size, 1, none⟩ = some (.string n) ∧ w'.cell? ⟨w.heap.size, 2, none⟩ = some (.string v) ∧ Below w4.heap.size w4 w') := fun w' b => by
            obtain ⟨d0, d1, d2, _⟩ := cells3 ((b.block _ lt4).trans hv)
            obtain ⟨f0, f1, f2, _⟩ := C0.out w' (D4.out.trans (b.mono D4.out.size))
            exact ⟨d0, d1, d2, f0, f1, f2, b⟩
          have CE : Hid (∀ w', Below w4.heap.size w4 w' → Calls Tryd.prog 14 #[.agg #[.int .i64 4, .string n, .string v]] w' (fun e w2 => e = .returned (.int .i64 0) ∧ Below w4.heap.size w4 w2)) := fun w' b =>
            (CK.out 4 w' (B4.out.trans (b.mono B4.out.size))).mono fun e w2 h => ⟨by rw [← X1.out]; exact h.1, b.trans (h.2.mono b.size)⟩
          have OE : Hid (∀ (k' : Int) w', Below w4.heap.size w4 w' → Calls Tryd.prog 25 #[.agg #[.int .i64 k', .string n, .string v], .string a] w' (fun e w2 => e = .returned (.bool (oneB ⟨k', n, v⟩ a)) ∧ Below w4.heap.size w4 w2)) := fun k' w' b =>
            (one_any k' n v a w' ha2 (tabs_below HT.out (B4.out.trans (b.mono B4.out.size))) (Nat.le_trans hw (Nat.le_trans B4.out.size b.size))).mono fun e w2 h => ⟨h.1, b.trans (h.2.mono b.size)⟩
          have hb0 : Below w4.heap.size w4 w4 := Below.refl _ _
          obtain ⟨d0, d1, d2, f0, f1, f2, _⟩ := KP.out w4 hb0
          clear e0 e1 e2 hv
          go_region_held3 (fun w' => w'.cell? ⟨w3.heap.size, 0, none⟩ = some (.int .i64 4) ∧ w'.cell? ⟨w3.heap.size, 1, none⟩ = some (.string n) ∧ w'.cell? ⟨w3.heap.size, 2, none⟩ = some (.string v) ∧ w'.cell? ⟨w.heap.size, 0, none⟩ = some (.int .i64 3) ∧ w'.cell? ⟨w.heap.size, 1, none⟩ = some (.string n) ∧ w'.cell? ⟨w.heap.size, 2, none⟩ = some (.string v) ∧ Below w4.heap.size w4 w')
            ((refine KP.out _ ?_; (try go_split_ands); (repeat (first | refine Below.drew ?_ | refine below_drewN ?_ _)); assumption))
            (first
              | (go_at_call 14; (with_reducible refine Calls.mono (CE.out _ ?_) ?_); (repeat (first | refine Below.drew ?_ | refine below_drewN ?_ _)); assumption; rintro e w' ⟨rfl, hb9⟩)
              | (go_at_call 25; (with_reducible refine Calls.mono (OE.out _ _ ?_) ?_); (repeat (first | refine Below.drew ?_ | refine below_drewN ?_ _)); assumption; rintro e w' ⟨rfl, hb9⟩))
          all_goals
            have B9 := Lib.hid (B4.out.trans (hb9.mono B4.out.size))
            go_wp2_with fail
            go_ret
            exact ⟨by show Ending.returned (.bool (oneB ⟨3, n, v⟩ a != oneB ⟨4, n, v⟩ a)) = _; rw [X2.out]; cases oneB ⟨3, n, v⟩ a <;> rfl, B9.out⟩
        · have X1 : Hid (checkF ⟨3, n, v⟩ = 0) := T1.out
          have X2 : Hid (oneB ⟨3, n, v⟩ a = !oneB ⟨4, n, v⟩ a) := T2.out
          clear T1 T2 k1 k4
          go_upto_region 13 with fail
          have B4 : Hid (Below w.heap.size w (w3.alloc (.cells #[.int .i64 3, .string n, .string v] 26))) := B3.out.alloc B3.out.size _
          have D4 : Hid (Below W0.heap.size W0 (w3.alloc (.cells #[.int .i64 3, .string n, .string v] 26))) := D3.out.alloc D3.out.size _
          have lt4 : w3.heap.size < (w3.alloc (.cells #[.int .i64 3, .string n, .string v] 26)).heap.size := by simp
          have hv := heap_alloc_new w3 (.cells #[.int .i64 3, .string n, .string v] 26)
          generalize (w3.alloc (.cells #[.int .i64 3, .string n, .string v] 26)) = w4 at *
          have KP : Hid (∀ w', Below w4.heap.size w4 w' → w'.cell? ⟨w3.heap.size, 0, none⟩ = some (.int .i64 3) ∧ w'.cell? ⟨w3.heap.size, 1, none⟩ = some (.string n) ∧ w'.cell? ⟨w3.heap.size, 2, none⟩ = some (.string v) ∧ w'.cell? ⟨w.heap.size, 0, none⟩ = some (.int .i64 4) ∧ w'.cell? ⟨w.heap.size, 1, none⟩ = some (.string n) ∧ w'.cell? ⟨w.heap.size, 2, none⟩ = some (.string v) ∧ Below w4.heap.size w4 w') := fun w' b => by
            obtain ⟨d0, d1, d2, _⟩ := cells3 ((b.block _ lt4).trans hv)
            obtain ⟨f0, f1, f2, _⟩ := C0.out w' (D4.out.trans (b.mono D4.out.size))
            exact ⟨d0, d1, d2, f0, f1, f2, b⟩
          have CE : Hid (∀ w', Below w4.heap.size w4 w' → Calls Tryd.prog 14 #[.agg #[.int .i64 3, .string n, .string v]] w' (fun e w2 => e = .returned (.int .i64 0) ∧ Below w4.heap.size w4 w2)) := fun w' b =>
            (CK.out 3 w' (B4.out.trans (b.mono B4.out.size))).mono fun e w2 h => ⟨by rw [← X1.out]; exact h.1, b.trans (h.2.mono b.size)⟩
          have OE : Hid (∀ (k' : Int) w', Below w4.heap.size w4 w' → Calls Tryd.prog 25 #[.agg #[.int .i64 k', .string n, .string v], .string a] w' (fun e w2 => e = .returned (.bool (oneB ⟨k', n, v⟩ a)) ∧ Below w4.heap.size w4 w2)) := fun k' w' b =>
            (one_any k' n v a w' ha2 (tabs_below HT.out (B4.out.trans (b.mono B4.out.size))) (Nat.le_trans hw (Nat.le_trans B4.out.size b.size))).mono fun e w2 h => ⟨h.1, b.trans (h.2.mono b.size)⟩
          have hb0 : Below w4.heap.size w4 w4 := Below.refl _ _
          obtain ⟨d0, d1, d2, f0, f1, f2, _⟩ := KP.out w4 hb0
          clear e0 e1 e2 hv
          go_region_held3 (fun w' => w'.cell? ⟨w3.heap.size, 0, none⟩ = some (.int .i64 3) ∧ w'.cell? ⟨w3.heap.size, 1, none⟩ = some (.string n) ∧ w'.cell? ⟨w3.heap.size, 2, none⟩ = some (.string v) ∧ w'.cell? ⟨w.heap.size, 0, none⟩ = some (.int .i64 4) ∧ w'.cell? ⟨w.heap.size, 1, none⟩ = some (.string n) ∧ w'.cell? ⟨w.heap.size, 2, none⟩ = some (.string v) ∧ Below w4.heap.size w4 w')
            ((refine KP.out _ ?_; (try go_split_ands); (repeat (first | refine Below.drew ?_ | refine below_drewN ?_ _)); assumption))
            (first
              | (go_at_call 14; (with_reducible refine Calls.mono (CE.out _ ?_) ?_); (repeat (first | refine Below.drew ?_ | refine below_drewN ?_ _)); assumption; rintro e w' ⟨rfl, hb9⟩)
              | (go_at_call 25; (with_reducible refine Calls.mono (OE.out _ _ ?_) ?_); (repeat (first | refine Below.drew ?_ | refine below_drewN ?_ _)); assumption; rintro e w' ⟨rfl, hb9⟩))
          all_goals
            have B9 := Lib.hid (B4.out.trans (hb9.mono B4.out.size))
            go_wp2_with fail
            go_ret
            exact ⟨by show Ending.returned (.bool (oneB ⟨4, n, v⟩ a != oneB ⟨3, n, v⟩ a)) = _; rw [X2.out]; cases oneB ⟨4, n, v⟩ a <;> rfl, B9.out⟩
      · have hne : (checkF ⟨k, n, v⟩ != 0) = true := by simpa using h0
        clear h0
        generalize checkF ⟨k, n, v⟩ = er at *
        go_wp2_with fail
        refine (LV.out _ B3.out).mono ?_
        rintro e w4 ⟨rfl, hb4⟩
        go_wp2_with fail
        go_ret
        exact ⟨rfl, B3.out.trans (hb4.mono B3.out.size)⟩
end Go.Proofs.YthlabaijaadocaaDoor
