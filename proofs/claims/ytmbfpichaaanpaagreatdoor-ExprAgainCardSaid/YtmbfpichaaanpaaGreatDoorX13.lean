import Derived.Test.YtmbfpichaaanpaaGreatDoorX12
/-! A value's text; what is wrong with a matcher. -/
namespace Go.Proofs.YtmbfpichaaanpaaGreatDoor
open Go.RowKit Ut Rx Mt

set_option maxRecDepth 100000 in
theorem valued_any (s : ByteArray) (w : World) (hT : Lib.Utf8Tabs 6 7 w) :
    Calls Tryz.prog 127 #[.string s] w (BoolBelow w (valuedB s)) := by
  by_cases h : s.size ≤ 128
  · have hz : (s.size : Int) ≤ 128 := by omega
    have e : valuedB s = Lib.validD s.data.toList := by unfold valuedB; rw [decide_eq_true h, Bool.true_and]
    rw [e]
    have C := Lib.hid (Tryz.utf8_ValidString s w (by omega) hT)
    clear h e hT
    go_enter Tryz.func127, Tryz.ntmps127
    go_wp2_with fail
    refine C.out.mono ?_
    rintro e w1 ⟨rfl, hb⟩
    go_wp2_with fail
    go_ret
    exact ⟨rfl, hb⟩
  · have e : valuedB s = false := by unfold valuedB; rw [decide_eq_false h, Bool.false_and]
    rw [e]
    have hz : ¬ (s.size : Int) ≤ 128 := by omega
    clear hT
    go_enter Tryz.func127, Tryz.ntmps127
    go_wp2_with fail
    go_ret
    exact ⟨rfl, Below.refl _ _⟩

/-- a matcher as a value -/
def mV (m : M) : Value := .agg #[.int .i64 m.k, .string m.n, .string m.v]
def IntBelow (w : World) (n : Int) (e : Ending) (w' : World) : Prop := e = .returned (.int .i64 n) ∧ Below w.heap.size w w'
theorem valuedB_size {s : ByteArray} (h : valuedB s = true) : s.size ≤ 128 ∧ Lib.validD s.data.toList = true := by
  unfold valuedB at h
  simp only [Bool.and_eq_true, decide_eq_true_eq] at h
  exact h

set_option maxRecDepth 100000 in
set_option maxHeartbeats 2000000 in
theorem check_any (k : Int) (n v : ByteArray) (w : World) (hT : Lib.Utf8Tabs 6 7 w) (hw : 8 ≤ w.heap.size) :
    Calls Tryz.prog 106 #[.agg #[.int .i64 k, .string n, .string v]] w (IntBelow w (checkF ⟨k, n, v⟩)) := by
  have HT := Lib.hid hT
  have B0 : Hid (Below w.heap.size w (w.alloc (.cells #[.int .i64 k, .string n, .string v] 42))) := (Below.refl _ _).alloc (Nat.le_refl _) _
  have C0 : Hid (∀ w', Below (w.alloc (.cells #[.int .i64 k, .string n, .string v] 42)).heap.size (w.alloc (.cells #[.int .i64 k, .string n, .string v] 42)) w' →
      w'.cell? ⟨w.heap.size, 0, none⟩ = some (.int .i64 k) ∧ w'.cell? ⟨w.heap.size, 1, none⟩ = some (.string n) ∧ w'.cell? ⟨w.heap.size, 2, none⟩ = some (.string v) ∧ Below w.heap.size w w') := fun w' b => by
    have lt : w.heap.size < (w.alloc (.cells #[.int .i64 k, .string n, .string v] 42)).heap.size := by simp
    exact ⟨(b.cell (p := ⟨w.heap.size, 0, none⟩) lt).trans (World.cell?_alloc_at _ _ _ _ rfl), (b.cell (p := ⟨w.heap.size, 1, none⟩) lt).trans (World.cell?_alloc_at _ _ _ _ rfl), (b.cell (p := ⟨w.heap.size, 2, none⟩) lt).trans (World.cell?_alloc_at _ _ _ _ rfl), B0.out.trans (b.mono B0.out.size)⟩
  have N := Lib.hid (named_any n (w.alloc (.cells #[.int .i64 k, .string n, .string v] 42)))
  clear hT
  by_cases hk : k < 1 ∨ k > 4
  · have E : Hid (checkF ⟨k, n, v⟩ = 70) := by
      show checkF _ = _
      unfold checkF
      rcases hk with h | h <;> simp [h]
    have hw2 : k < 1 ∨ (¬ k < 1 ∧ k > 4) := by omega
    clear hk
    rcases hw2 with h | ⟨h, h2⟩
    · have hd : decide (k < 1) = true := by simpa using h
      go_enter Tryz.func106, Tryz.ntmps106
      go_wp2_with fail
      go_ret
      rw [E.out]
      exact ⟨rfl, B0.out⟩
    · have hd : decide (k < 1) = false := by simpa using h
      have hd2 : decide (4 < k) = true := by simpa using h2
      go_enter Tryz.func106, Tryz.ntmps106
      go_wp2_with fail
      go_ret
      rw [E.out]
      exact ⟨rfl, B0.out⟩
  · have h1 : ¬ k < 1 := fun h => hk (Or.inl h)
    have h4 : ¬ k > 4 := fun h => hk (Or.inr h)
    have hd : decide (k < 1) = false := by simpa using h1
    have hd2 : decide (4 < k) = false := by simpa using h4
    have E : Hid (checkF ⟨k, n, v⟩ = if !namedF n.data.toList then 50 else if !valuedB v then 51 else if k < 3 then 0 else errF (rexF (rn v.data.toList))) := by
      show checkF _ = _
      unfold checkF
      rw [if_neg (by simp [h1, h4])]
    clear hk h1 h4
    go_enter Tryz.func106, Tryz.ntmps106
    go_wp2_with fail
    refine N.out.mono ?_
    rintro e w1 ⟨rfl, hb1⟩
    obtain ⟨c0, c1, c2, bw1⟩ := C0.out w1 hb1
    have BW1 := Lib.hid bw1
    have V := Lib.hid (valued_any v w1 (tabs_below HT.out bw1))
    have HB1 := Lib.hid hb1
    clear hb1 bw1 N
    cases hn : namedF n.data.toList with
    | false =>
      have E2 : Hid (checkF ⟨k, n, v⟩ = 50) := by show _ = _; rw [E.out, hn]; rfl
      clear hn
      go_wp2_with fail
      go_ret
      rw [E2.out]
      exact ⟨rfl, BW1.out⟩
    | true =>
      have E2 : Hid (checkF ⟨k, n, v⟩ = if !valuedB v then 51 else if k < 3 then 0 else errF (rexF (rn v.data.toList))) := by show _ = _; rw [E.out, hn]; rfl
      clear hn E
      go_wp2_with fail
      refine V.out.mono ?_
      rintro e w2 ⟨rfl, hb2⟩
      obtain ⟨c0', c1', c2', bw2⟩ := C0.out w2 (HB1.out.trans (hb2.mono HB1.out.size))
      have BW2 := Lib.hid bw2
      clear c0 c1 c2 bw2 hb2 V HB1
      cases hv : valuedB v with
      | false =>
        have E3 : Hid (checkF ⟨k, n, v⟩ = 51) := by show _ = _; rw [E2.out, hv]; rfl
        clear hv
        go_wp2_with fail
        go_ret
        rw [E3.out]
        exact ⟨rfl, BW2.out⟩
      | true =>
        obtain ⟨hs, hvd⟩ := valuedB_size hv
        have E3 : Hid (checkF ⟨k, n, v⟩ = if k < 3 then 0 else errF (rexF (rn v.data.toList))) := by show _ = _; rw [E2.out, hv]; rfl
        have P := Lib.hid (parse_any v w2 (by omega) hvd (tabs_below HT.out BW2.out) (Nat.le_trans hw BW2.out.size))
        clear hv E2 hs hvd
        by_cases h3 : k < 3
        · have E4 : Hid (checkF ⟨k, n, v⟩ = 0) := by show _ = _; rw [E3.out, if_pos h3]
          go_wp2_with fail
          go_ret
          rw [E4.out]
          exact ⟨rfl, BW2.out⟩
        · have E4 : Hid (checkF ⟨k, n, v⟩ = errF (rexF (rn v.data.toList))) := by show _ = _; rw [E3.out, if_neg h3]
          clear E3
          go_wp2_with fail
          refine P.out.mono ?_
          rintro e w3 ⟨hb3, h3'⟩
          have BW3 : Hid (Below w.heap.size w w3) := BW2.out.trans (hb3.mono BW2.out.size)
          clear hb3 P
          cases hr : rexF (rn v.data.toList) with
          | ok p =>
            rw [hr] at h3'
            obtain ⟨x, rfl, _⟩ := h3'
            have E5 : Hid (checkF ⟨k, n, v⟩ = 0) := by show _ = _; rw [E4.out, hr]; rfl
            clear hr
            go_wp2_with fail
            go_ret
            rw [E5.out]
            exact ⟨rfl, BW3.out⟩
          | error er =>
            rw [hr] at h3'
            obtain ⟨q, rfl⟩ := h3'
            have E5 : Hid (checkF ⟨k, n, v⟩ = er) := by show _ = _; rw [E4.out, hr]; rfl
            clear hr
            go_wp2_with fail
            go_ret
            rw [E5.out]
            exact ⟨rfl, BW3.out⟩
end Go.Proofs.YtmbfpichaaanpaaGreatDoor

/-! A matcher made ready; whether a value passes it. -/
namespace Go.Proofs.YtmbfpichaaanpaaGreatDoor
open Go.RowKit Ut Rx Mt

/-- x is the pattern of a matcher, if it has one; no block of it is g -/
def AskAt (g : Nat) (w : World) (m : M) (x : Value) : Prop := (m.k < 3 → x = .pointer none) ∧ (3 ≤ m.k → ∃ p lo hi, rexF (rn m.v.data.toList) = .ok p ∧ RexAt lo hi w x p ∧ (g < lo ∨ hi ≤ g))
def AskOk (w : World) (m : M) (x : Value) : Prop := (m.k < 3 → x = .pointer none) ∧ (3 ≤ m.k → ∃ p lo hi, rexF (rn m.v.data.toList) = .ok p ∧ RexAt lo hi w x p)
theorem AskAt.ok {g : Nat} {w : World} {m : M} {x : Value} (h : AskAt g w m x) : AskOk w m x := ⟨h.1, fun h3 => let ⟨p, lo, hi, e, hx, _⟩ := h.2 h3; ⟨p, lo, hi, e, hx⟩⟩
theorem AskAt.below {g : Nat} {w w' : World} {m : M} {x : Value} (h : AskAt g w m x) (b : Below w.heap.size w w') : AskAt g w' m x :=
  ⟨h.1, fun h3 => let ⟨p, lo, hi, e, hx, a⟩ := h.2 h3; ⟨p, lo, hi, e, hx.below b, a⟩⟩
theorem AskAt.grown {g : Nat} {w w' : World} {m : M} {x : Value} (h : AskAt g w m x) (b : w.grownBy w' (some g)) : AskAt g w' m x :=
  ⟨h.1, fun h3 => let ⟨p, lo, hi, e, hx, a⟩ := h.2 h3; ⟨p, lo, hi, e, hx.grown b a, a⟩⟩
theorem AskAt.new {g : Nat} {w : World} {m : M} {x : Value} (h : AskAt g w m x) {g' : Nat} (hg : w.heap.size ≤ g') : AskAt g' w m x :=
  ⟨h.1, fun h3 => let ⟨p, lo, hi, e, hx, _⟩ := h.2 h3; ⟨p, lo, hi, e, hx, Or.inr (Nat.le_trans hx.1 hg)⟩⟩
theorem AskOk.below {w w' : World} {m : M} {x : Value} (h : AskOk w m x) (b : Below w.heap.size w w') : AskOk w' m x :=
  ⟨h.1, fun h3 => let ⟨p, lo, hi, e, hx⟩ := h.2 h3; ⟨p, lo, hi, e, hx.below b⟩⟩

theorem tl_eq (s : ByteArray) : s.toList = s.data.toList := ByteArray.toList_eq s

set_option maxRecDepth 100000 in
set_option maxHeartbeats 2000000 in
theorem passes_any (k : Int) (n v : ByteArray) (px : Option Addr) (a : ByteArray) (w : World) (hx : AskOk w ⟨k, n, v⟩ (.pointer px)) (ha : a.size ≤ 900000) (h1 : 1 ≤ k) (h4 : k ≤ 4) :
    Calls Tryz.prog 87 #[.agg #[.int .i64 k, .string n, .string v, .pointer px], .string a] w (BoolBelow w (passF ⟨k, n, v⟩ a)) := by
  have hk : k = 1 ∨ k = 2 ∨ k = 3 ∨ k = 4 := by omega
  have B0 : Hid (Below w.heap.size w (w.alloc (.cells #[.int .i64 k, .string n, .string v, .pointer px] 93))) := (Below.refl _ _).alloc (Nat.le_refl _) _
  clear h1 h4
  rcases hk with rfl | rfl | rfl | rfl
  · have E : Hid (passF ⟨1, n, v⟩ a = (a.toList == v.toList)) := by show _ = _; rw [tl_eq, tl_eq]; rfl
    clear hx
    go_enter Tryz.func87, Tryz.ntmps87
    go_wp2_with fail
    go_ret
    rw [E.out]
    exact ⟨rfl, B0.out⟩
  · have E : Hid (passF ⟨2, n, v⟩ a = (a.toList != v.toList)) := by show _ = _; rw [tl_eq, tl_eq]; rfl
    clear hx
    go_enter Tryz.func87, Tryz.ntmps87
    go_wp2_with fail
    go_ret
    rw [E.out]
    exact ⟨rfl, B0.out⟩
  · obtain ⟨p, lo, hi, hp, hrx⟩ := hx.2 (Int.le_refl _)
    have E : Hid (passF ⟨3, n, v⟩ a = fullB p (rn a.data.toList)) := by show passF _ _ = _; unfold passF; simp [hp, matchB]
    have MA := Lib.hid (match_any (.pointer px) p a (w.alloc (.cells #[.int .i64 3, .string n, .string v, .pointer px] 93)) (hrx.below B0.out) ha)
    clear hx hrx hp
    go_enter Tryz.func87, Tryz.ntmps87
    go_wp2_with fail
    refine MA.out.mono ?_
    rintro e w1 ⟨rfl, hb1⟩
    go_wp2_with fail
    go_ret
    rw [E.out]
    exact ⟨rfl, B0.out.trans (hb1.mono B0.out.size)⟩
  · obtain ⟨p, lo, hi, hp, hrx⟩ := hx.2 (by show (3 : Int) ≤ 4; omega)
    have E : Hid (passF ⟨4, n, v⟩ a = !fullB p (rn a.data.toList)) := by show passF _ _ = _; unfold passF; simp [hp, matchB]
    have MA := Lib.hid (match_any (.pointer px) p a (w.alloc (.cells #[.int .i64 4, .string n, .string v, .pointer px] 93)) (hrx.below B0.out) ha)
    clear hx hrx hp
    go_enter Tryz.func87, Tryz.ntmps87
    go_wp2_with fail
    refine MA.out.mono ?_
    rintro e w1 ⟨rfl, hb1⟩
    go_wp2_with fail
    go_ret
    rw [E.out]
    exact ⟨rfl, B0.out.trans (hb1.mono B0.out.size)⟩

theorem escF_err {l : List Int} {er : Int} (h : escF l = .error er) : er = 8 := by
  cases l with
  | nil => cases h; rfl
  | cons c u =>
    unfold escF at h
    simp only at h
    split at h
    · cases h
    · split at h
      · cases h
      · cases h; rfl
theorem memF_err {l : List Int} {er : Int} (h : memF l = .error er) : er = 8 := by
  cases l with
  | nil => cases h; rfl
  | cons c u =>
    simp only [memF] at h
    split at h
    · cases h; rfl
    · split at h
      · exact escF_err h
      · cases h
theorem uppF_err {lo : Int} {l : List Int} {er : Int} (h : uppF lo l = .error er) : er = 8 := by
  unfold uppF at h
  split at h
  · cases h; rfl
  · split at h
    · rename_i e he; cases h; exact memF_err he
    · split at h
      · cases h; rfl
      · cases h
theorem itemF_err {l : List Int} {er : Int} (h : itemF l = .error er) : er = 8 := by
  unfold itemF at h
  split at h
  · rename_i e he; cases h; exact memF_err he
  · split at h
    · split at h
      · rename_i e he; cases h; exact uppF_err he
      · cases h
    · cases h
theorem clsF_err : ∀ (n : Nat) (first : Bool) (acc : List Span) (l : List Int) (er : Int), clsF n first acc l = some (.error er) → er = 8
  | 0, _, _, _, _, h => by cases h
  | n + 1, first, acc, l, er, h => by
    unfold clsF at h
    split at h
    · split at h
      · rename_i e he; cases h; exact itemF_err he
      · exact clsF_err n _ _ _ _ h
    · cases h
theorem thenF_err {r : Option Out} {k : Pat → List Int → Option Out} {er : Int} (h : thenF r k = some (.error er)) : r = some (.error er) ∨ ∃ p l, r = some (.ok (p, l)) ∧ k p l = some (.error er) := by
  cases r with
  | none => cases h
  | some x =>
    cases x with
    | error e => left; exact h
    | ok y => obtain ⟨p, l⟩ := y; exact Or.inr ⟨p, l, rfl, h⟩
theorem parF_err : ∀ (n : Nat) (md : Md) (d : Nat) (l : List Int) (er : Int), parF n md d l = some (.error er) → er = 8 ∨ er = 60
  | 0, _, _, _, _, h => by cases h
  | n + 1, .pat, d, l, er, h => by
    rw [parF] at h
    rcases thenF_err h with h | ⟨p, l, _, h⟩
    · exact parF_err n _ _ _ _ h
    · exact parF_err n _ _ _ _ h
  | n + 1, .alt acc, d, l, er, h => by
    rw [parF] at h
    split at h
    · rcases thenF_err h with h | ⟨p, l, _, h⟩
      · exact parF_err n _ _ _ _ h
      · exact parF_err n _ _ _ _ h
    · cases h
  | n + 1, .bra acc, d, l, er, h => by
    rw [parF] at h
    split at h
    · rcases thenF_err h with h | ⟨p, l, _, h⟩
      · exact parF_err n _ _ _ _ h
      · split at h
        · exact parF_err n _ _ _ _ h
        · exact parF_err n _ _ _ _ h
    · cases h
  | n + 1, .atom, d, l, er, h => by
    rw [parF] at h
    split at h
    · split at h
      · cases h; exact Or.inr rfl
      · rcases thenF_err h with h | ⟨p, l, _, h⟩
        · exact parF_err n _ _ _ _ h
        · split at h
          · cases h
          · cases h; exact Or.inl rfl
    · split at h
      · split at h
        · cases h
        · rename_i e he; cases h; exact Or.inl (clsF_err _ _ _ _ _ he)
        · cases h
      · split at h
        · cases h
        · split at h
          · split at h
            · rename_i e he; cases h; exact Or.inl (escF_err he)
            · cases h
          · split at h
            · cases h; exact Or.inl rfl
            · cases h
theorem rexF_err {l : List Int} {er : Int} (h : rexF l = .error er) : er = 8 ∨ er = 60 := by
  unfold rexF at h
  split at h
  · cases h
  · cases h; exact Or.inl rfl
  · rename_i e he; cases h; exact parF_err _ _ _ _ _ he
  · cases h; exact Or.inl rfl

theorem checkF_ok {k : Int} {n v : ByteArray} (h : checkF ⟨k, n, v⟩ = 0) : 1 ≤ k ∧ k ≤ 4 ∧ valuedB v = true ∧ (3 ≤ k → ∃ p, rexF (rn v.data.toList) = .ok p) := by
  unfold checkF at h
  split at h
  · cases h
  · rename_i h1
    simp only [Bool.or_eq_true, decide_eq_true_eq, not_or] at h1
    split at h
    · cases h
    · split at h
      · cases h
      · rename_i h2
        refine ⟨by omega, by omega, by simpa using h2, fun h3 => ?_⟩
        rw [if_neg (show ¬ k < 3 by omega)] at h
        cases hr : rexF (rn v.data.toList) with
        | ok p => exact ⟨p, rfl⟩
        | error er =>
          have : errF (rexF (rn v.data.toList)) = 0 := h
          rw [hr] at this
          have h0 : er = 0 := this
          rcases rexF_err hr with h | h <;> omega

theorem cells3 {w : World} {b : Nat} {x y z : Value} {t : TypeId} (h : w.heap[b]? = some (.cells #[x, y, z] t (0, 0))) : w.cell? ⟨b, 0, none⟩ = some x ∧ w.cell? ⟨b, 1, none⟩ = some y ∧ w.cell? ⟨b, 2, none⟩ = some z ∧ w.frozen? ⟨b, 0, none⟩ = false ∧ w.frozen? ⟨b, 1, none⟩ = false ∧ w.frozen? ⟨b, 2, none⟩ = false := by
  unfold World.cell? World.frozen?; rw [h]; exact ⟨rfl, rfl, rfl, by simp, by simp, by simp⟩
theorem cells4 {w : World} {b : Nat} {x y z u : Value} {t : TypeId} (h : w.heap[b]? = some (.cells #[x, y, z, u] t (0, 0))) : w.cell? ⟨b, 0, none⟩ = some x ∧ w.cell? ⟨b, 1, none⟩ = some y ∧ w.cell? ⟨b, 2, none⟩ = some z ∧ w.cell? ⟨b, 3, none⟩ = some u ∧ w.frozen? ⟨b, 0, none⟩ = false ∧ w.frozen? ⟨b, 1, none⟩ = false ∧ w.frozen? ⟨b, 2, none⟩ = false ∧ w.frozen? ⟨b, 3, none⟩ = false := by
  unfold World.cell? World.frozen?; rw [h]; exact ⟨rfl, rfl, rfl, rfl, by simp, by simp, by simp, by simp⟩
theorem set1 {w : World} {b j : Nat} {c : Array Value} {t : TypeId} (h : w.heap[b]? = some (.cells c t (0, 0))) (x : Value) : (w.setCell ⟨b, j, none⟩ x).heap[b]? = some (.cells (c.setIfInBounds j x) t (0, 0)) := by
  unfold World.setCell
  simp only [Array.getElem?_modify, ↓reduceIte, h, Option.map_some]
  rfl
theorem set4 {w : World} {b : Nat} {x y z u : Value} {t : TypeId} (h : w.heap[b]? = some (.cells #[x, y, z, u] t (0, 0))) (x' y' z' u' : Value) :
    ((((w.setCell ⟨b, 0, none⟩ x').setCell ⟨b, 1, none⟩ y').setCell ⟨b, 2, none⟩ z').setCell ⟨b, 3, none⟩ u').heap[b]? = some (.cells #[x', y', z', u'] t (0, 0)) ∧
      w.grownBy ((((w.setCell ⟨b, 0, none⟩ x').setCell ⟨b, 1, none⟩ y').setCell ⟨b, 2, none⟩ z').setCell ⟨b, 3, none⟩ u') (some b) :=
  ⟨set1 (set1 (set1 (set1 h x') y') z') u', grown_trans (grown_trans (grown_trans (grown_setCell _ _ _ _) (grown_setCell _ _ _ _)) (grown_setCell _ _ _ _)) (grown_setCell _ _ _ _)⟩

def AskPost (w : World) (k : Int) (n v : ByteArray) (e : Ending) (w' : World) : Prop :=
  Below w.heap.size w w' ∧ ((checkF ⟨k, n, v⟩ = 0 ∧ ∃ px, e = .returned (.tuple #[.agg #[.int .i64 k, .string n, .string v, .pointer px], .int .i64 0]) ∧ ∀ g, g < w.heap.size → AskAt g w' ⟨k, n, v⟩ (.pointer px)) ∨
    (checkF ⟨k, n, v⟩ ≠ 0 ∧ e = .returned (.tuple #[.agg #[.int .i64 0, .string ⟨#[]⟩, .string ⟨#[]⟩, .pointer none], .int .i64 (checkF ⟨k, n, v⟩)])))
set_option maxRecDepth 100000 in
set_option maxHeartbeats 2000000 in
theorem ask_any (k : Int) (n v : ByteArray) (w : World) (hT : Lib.Utf8Tabs 6 7 w) (hw : 8 ≤ w.heap.size) :
    Calls Tryz.prog 86 #[.agg #[.int .i64 k, .string n, .string v]] w (AskPost w k n v) := by
  have HT := Lib.hid hT
  clear hT
  have B0 : Hid (Below w.heap.size w ((w.alloc (.cells #[.int .i64 k, .string n, .string v] 42)).alloc (.cells #[.int .i64 0, .string ⟨#[]⟩, .string ⟨#[]⟩, .pointer none] 93))) := ((Below.refl _ _).alloc (Nat.le_refl _) _).alloc (by simp) _
  have SZ : Hid (((w.alloc (.cells #[.int .i64 k, .string n, .string v] 42)).alloc (.cells #[.int .i64 0, .string ⟨#[]⟩, .string ⟨#[]⟩, .pointer none] 93)).heap.size = w.heap.size + 1 + 1) := by show _ = _; simp
  have C0 : Hid (∀ w', Below ((w.alloc (.cells #[.int .i64 k, .string n, .string v] 42)).alloc (.cells #[.int .i64 0, .string ⟨#[]⟩, .string ⟨#[]⟩, .pointer none] 93)).heap.size ((w.alloc (.cells #[.int .i64 k, .string n, .string v] 42)).alloc (.cells #[.int .i64 0, .string ⟨#[]⟩, .string ⟨#[]⟩, .pointer none] 93)) w' →
      w'.heap[w.heap.size]? = some (.cells #[.int .i64 k, .string n, .string v] 42 (0, 0)) ∧ w'.heap[w.heap.size + 1]? = some (.cells #[.int .i64 0, .string ⟨#[]⟩, .string ⟨#[]⟩, .pointer none] 93 (0, 0)) ∧ Below w.heap.size w w') := fun w' b => by
    have sz := SZ.out
    refine ⟨(b.block _ (by omega)).trans ?_, (b.block _ (by omega)).trans ?_, B0.out.trans (b.mono B0.out.size)⟩
    · rw [heap_alloc_old _ _ (by simp)]; exact heap_alloc_new w _
    · have e : w.heap.size + 1 = (w.alloc (.cells #[.int .i64 k, .string n, .string v] 42)).heap.size := by simp
      rw [e]; exact heap_alloc_new _ _
  have CH := Lib.hid (check_any k n v ((w.alloc (.cells #[.int .i64 k, .string n, .string v] 42)).alloc (.cells #[.int .i64 0, .string ⟨#[]⟩, .string ⟨#[]⟩, .pointer none] 93)) (tabs_below HT.out B0.out) (by rw [SZ.out]; omega))
  go_enter Tryz.func86, Tryz.ntmps86
  go_wp2_with fail
  refine CH.out.mono ?_
  rintro e w1 ⟨rfl, hb1⟩
  obtain ⟨hm, hr, hbw⟩ := C0.out w1 hb1
  have HM := Lib.hid hm
  have HR := Lib.hid hr
  have HB := Lib.hid hbw
  obtain ⟨m0, m1, m2, _⟩ := cells3 hm
  obtain ⟨r0, r1, r2, r3, rf0, rf1, rf2, rf3⟩ := cells4 hr
  clear hm hr hbw hb1 CH
  by_cases h0 : checkF ⟨k, n, v⟩ = 0
  · obtain ⟨k1, k4, hvd, hre⟩ := checkF_ok h0
    have E := Lib.hid h0
    rw [h0]
    clear h0
    have b3 : Below w1.heap.size w1 (w1.alloc (.cells #[.int .i64 k, .string n, .string v, .pointer none] 93)) := (Below.refl _ _).alloc (Nat.le_refl _) _
    have hm3 := (b3.block _ (Array.getElem?_eq_some_iff.1 HM.out).1).trans HM.out
    have hr3 := (b3.block _ (Array.getElem?_eq_some_iff.1 HR.out).1).trans HR.out
    obtain ⟨m0', m1', m2', _⟩ := cells3 hm3
    obtain ⟨r0', r1', r2', r3', rf0', rf1', rf2', rf3'⟩ := cells4 hr3
    have HM3 := Lib.hid hm3
    have HR3 := Lib.hid hr3
    have B3 := Lib.hid b3
    have HA3 : Hid ((w1.alloc (.cells #[.int .i64 k, .string n, .string v, .pointer none] 93)).heap[w1.heap.size]? = some (.cells #[.int .i64 k, .string n, .string v, .pointer none] 93 (0, 0))) := heap_alloc_new w1 _
    clear hm3 hr3 b3
    by_cases h3 : k < 3
    · have h3b : ¬ (3 : Int) ≤ k := by omega
      go_wp2_with fail
      obtain ⟨hf, gf⟩ := set4 HR3.out (.int .i64 k) (.string n) (.string v) (.pointer none)
      generalize (((((w1.alloc (.cells #[.int .i64 k, .string n, .string v, .pointer none] 93)).setCell ⟨w.heap.size + 1, 0, none⟩ (.int .i64 k)).setCell ⟨w.heap.size + 1, 1, none⟩ (.string n)).setCell ⟨w.heap.size + 1, 2, none⟩ (.string v)).setCell ⟨w.heap.size + 1, 3, none⟩ (.pointer none)) = wf at *
      obtain ⟨f0, f1, f2, f3, _⟩ := cells4 hf
      have bf : Below w.heap.size w wf := below_grown (HB.out.trans (B3.out.mono HB.out.size)) gf (Nat.le_succ _)
      exact bodyPost_ret (v := .tuple #[.agg #[.int .i64 k, .string n, .string v, .pointer none], .int .i64 0]) (by simp [results, Tryz.results86, go_sem, f0, f1, f2, f3]) rfl ⟨bf, Or.inl ⟨E.out, none, rfl, fun g _ => ⟨fun _ => rfl, fun h => absurd h (by show ¬ (3 : Int) ≤ k; omega)⟩⟩⟩
    · have h3b : (3 : Int) ≤ k := by omega
      obtain ⟨hs, hvv⟩ := valuedB_size hvd
      have P := Lib.hid (parse_any v (w1.alloc (.cells #[.int .i64 k, .string n, .string v, .pointer none] 93)) (by omega) hvv (tabs_below HT.out (HB.out.trans (B3.out.mono HB.out.size))) (Nat.le_trans hw (HB.out.trans (B3.out.mono HB.out.size)).size))
      have RE := Lib.hid (hre h3b)
      clear hs hvv hvd hre
      go_wp2_with fail
      refine P.out.mono ?_
      rintro e w4 ⟨hb4, h4⟩
      obtain ⟨p, hp⟩ := RE.out
      rw [hp] at h4
      obtain ⟨x, rfl, hrx⟩ := h4
      obtain ⟨px, rfl⟩ : ∃ px, x = .pointer px := by obtain ⟨_, rb, _, _, _, _, e, _⟩ := hrx; exact ⟨_, e⟩
      have ha4 := (hb4.block _ (Array.getElem?_eq_some_iff.1 HA3.out).1).trans HA3.out
      have hr4 := (hb4.block _ (Array.getElem?_eq_some_iff.1 HR3.out).1).trans HR3.out
      obtain ⟨a0, a1, a2, a3, af0, af1, af2, af3⟩ := cells4 ha4
      have HA4 := Lib.hid ha4
      have HR4 := Lib.hid hr4
      have HP := Lib.hid hp
      have HX := Lib.hid hrx
      have B4 : Hid (Below w.heap.size w w4) := (HB.out.trans (B3.out.mono HB.out.size)).trans (hb4.mono (HB.out.trans (B3.out.mono HB.out.size)).size)
      have l1 : w.heap.size + 1 < w1.heap.size := (Array.getElem?_eq_some_iff.1 HR.out).1
      clear ha4 hr4 hp hrx hb4 P RE m0' m1' m2' r0' r1' r2' r3' rf0' rf1' rf2' rf3'
      go_upto_region 7 with fail
      have g5 := grown_setCell w4 w1.heap.size 3 (.pointer px)
      have ha5 := set1 (j := 3) HA4.out (.pointer px)
      have hr5 := (g5.block (w.heap.size + 1) (Array.getElem?_eq_some_iff.1 HR4.out).1 (fun e => by have : w.heap.size + 1 = w1.heap.size := Option.some.inj e; omega)).trans HR4.out
      have B5 := Lib.hid (below_grown B4.out g5 (by omega))
      have HX5 := Lib.hid (HX.out.grown g5 (Or.inl (by simp)))
      generalize (w4.setCell ⟨w1.heap.size, 3, none⟩ (.pointer px)) = w5 at *
      obtain ⟨a0', a1', a2', a3', _⟩ := cells4 ha5
      obtain ⟨r0, r1, r2, r3, rf0, rf1, rf2, rf3⟩ := cells4 hr5
      have HR5 := Lib.hid hr5
      clear ha5 hr5 g5
      go_wp2_with fail
      obtain ⟨hf, gf⟩ := set4 HR5.out (.int .i64 k) (.string n) (.string v) (.pointer px)
      generalize ((((w5.setCell ⟨w.heap.size + 1, 0, none⟩ (.int .i64 k)).setCell ⟨w.heap.size + 1, 1, none⟩ (.string n)).setCell ⟨w.heap.size + 1, 2, none⟩ (.string v)).setCell ⟨w.heap.size + 1, 3, none⟩ (.pointer px)) = wf at *
      obtain ⟨f0, f1, f2, f3, _⟩ := cells4 hf
      have bf : Below w.heap.size w wf := below_grown B5.out gf (Nat.le_succ _)
      exact bodyPost_ret (v := .tuple #[.agg #[.int .i64 k, .string n, .string v, .pointer px], .int .i64 0]) (by simp [results, Tryz.results86, go_sem, f0, f1, f2, f3]) rfl ⟨bf, Or.inl ⟨E.out, px, rfl, fun g hg => ⟨fun h => absurd h (by show ¬ k < 3; omega), fun _ => ⟨p, _, _, HP.out, HX5.out.grown gf (Or.inl (by simp; omega)), Or.inl (by simp; omega)⟩⟩⟩⟩
  · have hne : (checkF ⟨k, n, v⟩ != 0) = true := by simpa using h0
    have E := Lib.hid h0
    clear h0
    obtain ⟨er, her⟩ : ∃ er, checkF ⟨k, n, v⟩ = er := ⟨_, rfl⟩
    have ER := Lib.hid her
    rw [her] at hne ⊢
    have E : Hid (er ≠ 0) := by show er ≠ 0; rw [← ER.out]; exact E.out
    clear her
    go_wp2_with fail
    obtain ⟨hf, gf⟩ := set4 HR.out (.int .i64 0) (.string ⟨#[]⟩) (.string ⟨#[]⟩) (.pointer none)
    generalize ((((w1.setCell ⟨w.heap.size + 1, 0, none⟩ (.int .i64 0)).setCell ⟨w.heap.size + 1, 1, none⟩ (.string ⟨#[]⟩)).setCell ⟨w.heap.size + 1, 2, none⟩ (.string ⟨#[]⟩)).setCell ⟨w.heap.size + 1, 3, none⟩ (.pointer none)) = wf at *
    obtain ⟨f0, f1, f2, f3, _⟩ := cells4 hf
    have bf : Below w.heap.size w wf := below_grown HB.out gf (Nat.le_succ _)
    exact bodyPost_ret (v := .tuple #[.agg #[.int .i64 0, .string ⟨#[]⟩, .string ⟨#[]⟩, .pointer none], .int .i64 er]) (by simp [results, Tryz.results86, go_sem, f0, f1, f2, f3]) rfl ⟨bf, Or.inr ⟨by rw [ER.out]; exact E.out, by rw [ER.out]⟩⟩
end Go.Proofs.YtmbfpichaaanpaaGreatDoor
