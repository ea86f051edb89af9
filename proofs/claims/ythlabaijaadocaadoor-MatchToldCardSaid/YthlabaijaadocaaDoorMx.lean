import Derived.Test.YthlabaijaadocaaDoorMw
/-! Whether a text is of a pattern. -/
namespace Go.Proofs.YthlabaijaadocaaDoor
open Go.RowKit Ut Rx

/-- x is a pattern that means p -/
def RexAt (lo hi : Nat) (w : World) (x : Value) (p : Pat) : Prop :=
  hi ≤ w.heap.size ∧ ∃ rb tb sz txt, ∃ F : Nat → Prop, x = .pointer (some ⟨rb, 0, none⟩) ∧ w.heap[rb]? = some (.cells #[.string txt, .pointer (some ⟨tb, 0, none⟩), .int .i64 sz] 87 (0, 0)) ∧ Den true F w tb (den p) ∧ (∀ k, F k → lo ≤ k ∧ k < hi) ∧ lo ≤ rb ∧ rb < hi
theorem RexAt.same {lo hi : Nat} {w w' : World} {x : Value} {p : Pat} (h : RexAt lo hi w x p) (hs : w.heap.size ≤ w'.heap.size) (g : ∀ k, lo ≤ k → k < hi → w'.heap[k]? = w.heap[k]?) : RexAt lo hi w' x p := by
  obtain ⟨hh, rb, tb, sz, txt, F, e, hb, hd, hf, hl, hr⟩ := h
  exact ⟨Nat.le_trans hh hs, rb, tb, sz, txt, F, e, (g rb hl hr).trans hb, hd.move hs (fun k hk => g k (hf k hk).1 (hf k hk).2) (fun _ h => h), hf, hl, hr⟩
theorem RexAt.below {lo hi : Nat} {w w' : World} {x : Value} {p : Pat} (h : RexAt lo hi w x p) (b : Below w.heap.size w w') : RexAt lo hi w' x p :=
  h.same b.size fun k _ h2 => b.block k (Nat.lt_of_lt_of_le h2 h.1)
theorem RexAt.grown {lo hi r : Nat} {w w' : World} {x : Value} {p : Pat} (h : RexAt lo hi w x p) (g : w.grownBy w' (some r)) (hr : r < lo ∨ hi ≤ r) : RexAt lo hi w' x p :=
  h.same g.size fun k h1 h2 => g.block k (Nat.lt_of_lt_of_le h2 h.1) (fun e => by have : k = r := Option.some.inj e; omega)

/-- the places at which a text begins: its begin alone -/
def firstB (n : Nat) : List Bool := true :: List.replicate n false
theorem firstB_length (n : Nat) : (firstB n).length = n + 1 := by simp [firstB]
theorem made_first (n : Nat) (hn : n + 1 ≤ 4000000) (w : World) : Bls (w.alloc (.cells ((bz (n + 1)).setIfInBounds 0 (.bool true)) 4)) (.slice (some ⟨w.heap.size, 0, none⟩) (n + 1) (n + 1)) (firstB n) := by
  unfold Bls
  rw [firstB_length]
  have hs : (bz (n + 1)).size = n + 1 := by
    have := congrArg List.length (bz_list (n + 1))
    simpa using this
  refine ⟨by simp [firstB], Or.inr ⟨w.heap.size, n + 1, _, rfl, Nat.zero_le _, heap_alloc_new w _, Nat.le_refl _, by unfold maxLen; omega, by simp [hs], ?_⟩⟩
  rw [Array.toList_setIfInBounds, bz_list]
  simp [firstB, List.replicate_succ]

theorem bz_zero (n : Nat) : (bz (n + 1))[0]? = some (.bool false) := by rw [← Array.getElem?_toList, bz_list]; rfl
set_option maxRecDepth 100000 in
set_option maxHeartbeats 2000000 in
theorem match_any {lo hi : Nat} (x : Value) (p : Pat) (s : ByteArray) (w : World) (hx : RexAt lo hi w x p) (hs : s.size ≤ 900000) :
    Calls Tryd.prog 67 #[x, .string s] w (BoolBelow w (fullB p (rn s.data.toList))) := by
  have HX := Lib.hid hx
  obtain ⟨hh, rb, tb, sz, txt, F, rfl, hb, _, _, _, _⟩ := hx
  have lrb := (Array.getElem?_eq_some_iff.1 hb).1
  have K1 : Hid (∀ w', Below w.heap.size w w' → w'.cell? ⟨rb, 1, none⟩ = some (.pointer (some ⟨tb, 0, none⟩))) := fun w' h => by
    rw [h.cell (p := ⟨rb, 1, none⟩) lrb]; unfold World.cell?; rw [hb]; rfl
  have k1 := K1.out w (Below.refl _ _)
  have DEN : Hid (∀ w', Below w.heap.size w w' → ∀ l lv v fv, Rns w' lv l → Bls w' fv v → v.length = l.length + 1 → l.length ≤ 1000000 → Calls Tryd.prog 81 #[.pointer (some ⟨tb, 0, none⟩), lv, fv] w' (EndsPost true w' fv (den p l v))) := fun w' h => by
    obtain ⟨_, rb', tb', sz', txt', F', e, hb', hd, hf, _⟩ := HX.out
    cases e
    rw [hb] at hb'
    cases hb'
    exact hd w' h.size (fun k hk => h.block k (Nat.lt_of_lt_of_le (hf k hk).2 hh))
  have LE := Lib.hid (rn_le s.data.toList)
  have LS := Lib.hid (tl_len s)
  clear HX hb
  go_enter Tryd.func67, Tryd.ntmps67
  go_wp2_with fail
  refine (runes_any s w (by omega)).mono ?_
  rintro e w1 ⟨v, rfl, hv, hb1⟩
  have HV := Lib.hid hv
  have HB := Lib.hid hb1
  generalize rn s.data.toList = l at *
  have hl9 : l.length ≤ 900000 := by have := LE.out; have := LS.out; omega
  have FB : Hid (fullB p l = (den p l (firstB l.length)).getD l.length false) := rfl
  clear hb1 k1 LE LS
  rcases row_kinds hv with ⟨rfl, hn⟩ | ⟨g, cap, rfl, hcap⟩
  · obtain rfl : l = [] := List.eq_nil_of_length_eq_zero hn
    have hmk : (Instr.makeSlice 129 (.int .i64 1) (.int .i64 1)).run Tryd.prog w1 = .ok (.slice (some ⟨w1.heap.size, 0, none⟩) 1 1) (w1.alloc (.cells (bz 1) 4)) := run_mk 1 (by omega) w1
    have hz0 : (bz 1)[0]? = some (.bool false) := bz_zero 0
    clear hv hn
    have B2 : Below w.heap.size w (w1.alloc (.cells ((bz (1)).setIfInBounds 0 (.bool true)) 4)) := HB.out.alloc HB.out.size _
    have k1 := K1.out _ B2
    have E := Lib.hid (DEN.out _ B2 [] _ (firstB 0) _ (HV.out.below ((Below.refl _ _).alloc (Nat.le_refl _) _)) (made_first 0 (by simp) w1) (firstB_length _) (by simp))
    have B2H := Lib.hid B2
    have OL := Lib.hid (den_keeps p [] (firstB 0) (firstB_length _))
    clear B2
    go_wp2_with fail
    refine E.out.mono ?_
    rintro e w3 ⟨rv, rfl, hrv, _, hb3⟩
    generalize den p [] (firstB 0) = out at *
    obtain ⟨go, co, rfl, hco⟩ : ∃ g c, rv = .slice (some ⟨g, 0, none⟩) out.length c ∧ out.length ≤ c := by
      rcases row_kinds hrv with ⟨_, hn⟩ | h
      · have := OL.out; omega
      · exact h
    have hlt : 0 < out.length := by have := OL.out; omega
    have hlti : ((0 : Nat) : Int) < out.length := by omega
    have cl : w3.cell? ⟨go, 0, none⟩ = some (.bool (out[0]'hlt)) := (row_cell hrv rfl).2.2 _ _ (by rw [List.getElem?_map, List.getElem?_eq_getElem hlt]; rfl)
    have R : Hid (fullB p [] = out[0]'hlt) := by
      show _ = _
      rw [FB.out]
      show out.getD _ false = _
      rw [List.getD_eq_getElem?_getD]
      exact (congrArg (fun o => o.getD false) (List.getElem?_eq_getElem hlt))
    have HB3 := Lib.hid hb3
    clear hrv hb3 E OL
    go_wp2_with fail
    go_ret
    rw [R.out]
    exact ⟨rfl, B2H.out.trans (HB3.out.mono B2H.out.size)⟩
  · have hmk := run_mk (l.length + 1) (by omega) w1
    have ec : ((l.length + 1 : Nat) : Int) = (l.length : Int) + 1 := by omega
    rw [ec] at hmk
    have hz0 := bz_zero l.length
    clear hv ec
    have B2 : Below w.heap.size w (w1.alloc (.cells ((bz (l.length + 1)).setIfInBounds 0 (.bool true)) 4)) := HB.out.alloc HB.out.size _
    have k1 := K1.out _ B2
    have E := Lib.hid (DEN.out _ B2 l _ (firstB (l).length) _ (HV.out.below ((Below.refl _ _).alloc (Nat.le_refl _) _)) (made_first (l).length (by omega) w1) (firstB_length _) (by omega))
    have B2H := Lib.hid B2
    have OL := Lib.hid (den_keeps p l (firstB (l).length) (firstB_length _))
    clear B2
    go_wp2_with fail
    refine E.out.mono ?_
    rintro e w3 ⟨rv, rfl, hrv, _, hb3⟩
    generalize den p l (firstB (l).length) = out at *
    obtain ⟨go, co, rfl, hco⟩ : ∃ g c, rv = .slice (some ⟨g, 0, none⟩) out.length c ∧ out.length ≤ c := by
      rcases row_kinds hrv with ⟨_, hn⟩ | h
      · have := OL.out; omega
      · exact h
    have hlt : (l).length < out.length := by have := OL.out; omega
    have hlti : (((l).length : Nat) : Int) < out.length := by omega
    have cl : w3.cell? ⟨go, (l).length, none⟩ = some (.bool (out[(l).length]'hlt)) := (row_cell hrv rfl).2.2 _ _ (by rw [List.getElem?_map, List.getElem?_eq_getElem hlt]; rfl)
    have R : Hid (fullB p l = out[(l).length]'hlt) := by
      show _ = _
      rw [FB.out]
      show out.getD _ false = _
      rw [List.getD_eq_getElem?_getD]
      exact (congrArg (fun o => o.getD false) (List.getElem?_eq_getElem hlt))
    have HB3 := Lib.hid hb3
    clear hrv hb3 E OL
    go_wp2_with fail
    go_ret
    rw [R.out]
    exact ⟨rfl, B2H.out.trans (HB3.out.mono B2H.out.size)⟩
end Go.Proofs.YthlabaijaadocaaDoor
