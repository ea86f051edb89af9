import Derived.Test.YthlabaijaadocaaDoorNl
/-! Few matchers, and short ones; few labels, and short ones. -/
namespace Go.Proofs.YthlabaijaadocaaDoor
open Go.RowKit Ut Rx Mt

def shortM (m : M) : Bool := decide (m.n.size ≤ 300) && decide (m.v.size ≤ 300)
def fewB (l : List M) : Bool := decide (l.length ≤ 40) && l.all shortM
def shortL (x : L) : Bool := decide (x.n.size ≤ 300) && decide (x.v.size ≤ 200)
def shortB (l : List L) : Bool := decide (l.length ≤ 40) && l.all shortL

/-- labels, in whatever memory, of any size -/
def Lb0 (w : World) (v : Value) (l : List L) : Prop :=
  ∃ A c, v = .slice A l.length c ∧ (l ≠ [] → ∃ b off, A = some ⟨b, off, none⟩ ∧ ∀ i (h : i < l.length), w.cell? ⟨b, off + i * 2, none⟩ = some (.string (l[i]'h).n) ∧ w.cell? ⟨b, off + i * 2 + 1, none⟩ = some (.string (l[i]'h).v))
theorem Lb0.below {w w' : World} {v : Value} {l : List L} (h : Lb0 w v l) (b : Below w.heap.size w w') : Lb0 w' v l := by
  obtain ⟨A, c, e, hl⟩ := h
  refine ⟨A, c, e, fun hne => ?_⟩
  obtain ⟨bb, off, ea, hc⟩ := hl hne
  refine ⟨bb, off, ea, fun i hi => ?_⟩
  obtain ⟨c0, c1⟩ := hc i hi
  have lt : bb < w.heap.size := World.block_lt_of_cell? w _ c0
  exact ⟨(b.cell (p := ⟨bb, off + i * 2, none⟩) lt).trans c0, (b.cell (p := ⟨bb, off + i * 2 + 1, none⟩) lt).trans c1⟩
theorem Lb0.lb {w : World} {v : Value} {l : List L} (h : Lb0 w v l) (hs : shortB l = true) : Lb w v l := by
  obtain ⟨A, c, e, hl⟩ := h
  unfold shortB at hs
  simp only [Bool.and_eq_true, List.all_eq_true, decide_eq_true_eq] at hs
  refine ⟨A, c, e, by omega, fun x hx => ?_, hl⟩
  have := hs.2 x hx
  unfold shortL at this
  simp only [Bool.and_eq_true, decide_eq_true_eq] at this
  omega
/-- matchers, in whatever memory, of any size -/
def Ms0 (w : World) (v : Value) (l : List M) : Prop :=
  ∃ A c, v = .slice A l.length c ∧ l.length ≤ c ∧ (l ≠ [] → ∃ b off, A = some ⟨b, off, none⟩ ∧ ∀ i (h : i < l.length), w.cell? ⟨b, off + i * 3, none⟩ = some (.int .i64 (l[i]'h).k) ∧ w.cell? ⟨b, off + i * 3 + 1, none⟩ = some (.string (l[i]'h).n) ∧ w.cell? ⟨b, off + i * 3 + 2, none⟩ = some (.string (l[i]'h).v))
theorem few_of {l : List M} (h : fewB l = true) : l.length ≤ 40 ∧ ∀ m ∈ l, m.n.size ≤ 300 ∧ m.v.size ≤ 300 := by
  unfold fewB at h
  simp only [Bool.and_eq_true, List.all_eq_true, decide_eq_true_eq] at h
  refine ⟨h.1, fun m hm => ?_⟩
  have := h.2 m hm
  unfold shortM at this
  simpa only [Bool.and_eq_true, decide_eq_true_eq] using this
theorem Ms0.ms {w : World} {v : Value} {l : List M} (h : Ms0 w v l) (hf : fewB l = true) : Ms w v l := by
  obtain ⟨A, c, e, _, hl⟩ := h
  have := (few_of hf).1
  exact ⟨A, c, e, by omega, hl⟩
theorem Ms0.below {w w' : World} {v : Value} {l : List M} (h : Ms0 w v l) (b : Below w.heap.size w w') : Ms0 w' v l := by
  obtain ⟨A, c, e, hb, hl⟩ := h
  refine ⟨A, c, e, hb, fun hne => ?_⟩
  obtain ⟨bb, off, ea, hc⟩ := hl hne
  refine ⟨bb, off, ea, fun i hi => ?_⟩
  obtain ⟨c0, c1, c2⟩ := hc i hi
  have lt : bb < w.heap.size := World.block_lt_of_cell? w _ c0
  exact ⟨(b.cell (p := ⟨bb, off + i * 3, none⟩) lt).trans c0, (b.cell (p := ⟨bb, off + i * 3 + 1, none⟩) lt).trans c1, (b.cell (p := ⟨bb, off + i * 3 + 2, none⟩) lt).trans c2⟩

set_option maxRecDepth 100000 in
set_option maxHeartbeats 4000000 in
theorem few_any (l : List M) (lv : Value) (w : World) (hl : Ms0 w lv l) : Calls Tryd.prog 13 #[lv] w (BoolBelow w (fewB l)) := by
  obtain ⟨A, c, rfl, hbig, hcells⟩ := hl
  have HC := Lib.hid hcells
  clear hcells
  by_cases h40 : l.length > 40
  · have E : Hid (fewB l = false) := by show _ = _; unfold fewB; rw [decide_eq_false (by omega), Bool.false_and]
    have h40' : (40 : Int) < l.length := by omega
    go_enter Tryd.func13, Tryd.ntmps13
    go_wp2_with fail
    go_ret
    rw [E.out]
    exact ⟨rfl, Below.refl _ _⟩
  · have E : Hid (fewB l = l.all shortM) := by show _ = _; unfold fewB; rw [decide_eq_true (by omega), Bool.true_and]
    have h40' : ¬ (40 : Int) < l.length := by omega
    have B0 : Hid (Below w.heap.size w w) := Below.refl _ _
    clear hbig
    go_enter Tryd.func13, Tryd.ntmps13
    go_wp2_with fail
    go_loopg [10] l.length (fun gk vk wr => ∃ k : Nat, vk = .int .i64 k ∧ k + gk = l.length ∧ Hid ((l.drop k).all shortM = fewB l) ∧ Hid (Below w.heap.size w wr))
    case atStart => exact ⟨0, rfl, by omega, by show _ = _; rw [E.out]; rfl, B0⟩
    case round =>
      obtain ⟨k, rfl, hk, HR, HB⟩ := hrel
      clear B0 E
      by_cases hlt : k < l.length
      · obtain ⟨b, off, rfl, hc⟩ := HC.out (fun e => by rw [e] at hlt; simp at hlt)
        obtain ⟨c0', c1', c2'⟩ := hc k hlt
        have lb : b < w.heap.size := World.block_lt_of_cell? w _ c0'
        have c0 := (HB.out.cell (p := ⟨b, off + k * 3, none⟩) lb).trans c0'
        have c1 := (HB.out.cell (p := ⟨b, off + k * 3 + 1, none⟩) lb).trans c1'
        have c2 := (HB.out.cell (p := ⟨b, off + k * 3 + 2, none⟩) lb).trans c2'
        have HD : Hid (l.drop k = l[k]'hlt :: l.drop (k + 1)) := List.drop_eq_getElem_cons hlt
        clear hc c0' c1' c2' HC
        generalize (l[k]'hlt) = m at *
        obtain ⟨mk, mn, mv⟩ := m
        simp only at c0 c1 c2
        by_cases hn : mn.size ≤ 300
        · have hn' : ¬ (300 : Int) < mn.size := by omega
          by_cases hv : mv.size ≤ 300
          · have hv' : ¬ (300 : Int) < mv.size := by omega
            have R2 : Hid ((l.drop (k + 1)).all shortM = fewB l) := by
              have := HR.out
              rw [HD.out, List.all_cons, show shortM ⟨mk, mn, mv⟩ = true from by unfold shortM; simp [hn, hv], Bool.true_and] at this
              exact this
            clear hn hv
            go_wp2_with fail
            go_roundg (l.length - (k + 1))
            case measure => omega
            case rel => exact ⟨k + 1, by simp, by omega, R2, HB.out.alloc HB.out.size _⟩
          · have hv' : (300 : Int) < mv.size := by omega
            have E : Hid (fewB l = false) := by
              have := HR.out
              rw [HD.out, List.all_cons, show shortM ⟨mk, mn, mv⟩ = false from by unfold shortM; simp [hv], Bool.false_and] at this
              exact this.symm
            clear hn hv
            go_wp2_with fail
            go_ret
            rw [E.out]
            exact ⟨rfl, HB.out.alloc HB.out.size _⟩
        · have hn' : (300 : Int) < mn.size := by omega
          have E : Hid (fewB l = false) := by
            have := HR.out
            rw [HD.out, List.all_cons, show shortM ⟨mk, mn, mv⟩ = false from by unfold shortM; simp [hn], Bool.false_and] at this
            exact this.symm
          clear hn
          go_wp2_with fail
          go_ret
          rw [E.out]
          exact ⟨rfl, HB.out.alloc HB.out.size _⟩
      · have hkl : k = l.length := by omega
        subst hkl
        have E : Hid (fewB l = true) := by
          have := HR.out
          rw [List.drop_length] at this
          exact this.symm
        go_wp2_with fail
        go_ret
        rw [E.out]
        exact ⟨rfl, HB.out⟩

set_option maxRecDepth 100000 in
set_option maxHeartbeats 4000000 in
theorem short_any (l : List L) (lv : Value) (w : World) (hl : Lb0 w lv l) : Calls Tryd.prog 23 #[lv] w (BoolBelow w (shortB l)) := by
  obtain ⟨A, c, rfl, hcells⟩ := hl
  have HC := Lib.hid hcells
  clear hcells
  by_cases h40 : l.length > 40
  · have E : Hid (shortB l = false) := by show _ = _; unfold shortB; rw [decide_eq_false (by omega), Bool.false_and]
    have h40' : (40 : Int) < l.length := by omega
    go_enter Tryd.func23, Tryd.ntmps23
    go_wp2_with fail
    go_ret
    rw [E.out]
    exact ⟨rfl, Below.refl _ _⟩
  · have E : Hid (shortB l = l.all shortL) := by show _ = _; unfold shortB; rw [decide_eq_true (by omega), Bool.true_and]
    have h40' : ¬ (40 : Int) < l.length := by omega
    have B0 : Hid (Below w.heap.size w w) := Below.refl _ _
    go_enter Tryd.func23, Tryd.ntmps23
    go_wp2_with fail
    go_loopg [10] l.length (fun gk vk wr => ∃ k : Nat, vk = .int .i64 k ∧ k + gk = l.length ∧ Hid ((l.drop k).all shortL = shortB l) ∧ Hid (Below w.heap.size w wr))
    case atStart => exact ⟨0, rfl, by omega, by show _ = _; rw [E.out]; rfl, B0⟩
    case round =>
      obtain ⟨k, rfl, hk, HR, HB⟩ := hrel
      clear B0 E
      by_cases hlt : k < l.length
      · obtain ⟨b, off, rfl, hc⟩ := HC.out (fun e => by rw [e] at hlt; simp at hlt)
        obtain ⟨c0', c1'⟩ := hc k hlt
        have lb : b < w.heap.size := World.block_lt_of_cell? w _ c0'
        have c0 := (HB.out.cell (p := ⟨b, off + k * 2, none⟩) lb).trans c0'
        have c1 := (HB.out.cell (p := ⟨b, off + k * 2 + 1, none⟩) lb).trans c1'
        have HD : Hid (l.drop k = l[k]'hlt :: l.drop (k + 1)) := List.drop_eq_getElem_cons hlt
        clear hc c0' c1' HC
        generalize (l[k]'hlt) = m at *
        obtain ⟨mn, mv⟩ := m
        simp only at c0 c1
        by_cases hn : mn.size ≤ 300
        · have hn' : ¬ (300 : Int) < mn.size := by omega
          by_cases hv : mv.size ≤ 200
          · have hv' : ¬ (200 : Int) < mv.size := by omega
            have R2 : Hid ((l.drop (k + 1)).all shortL = shortB l) := by
              have := HR.out
              rw [HD.out, List.all_cons, show shortL ⟨mn, mv⟩ = true from by unfold shortL; simp [hn, hv], Bool.true_and] at this
              exact this
            clear hn hv
            go_wp2_with fail
            go_roundg (l.length - (k + 1))
            case measure => omega
            case rel => exact ⟨k + 1, by simp, by omega, R2, HB.out.alloc HB.out.size _⟩
          · have hv' : (200 : Int) < mv.size := by omega
            have E : Hid (shortB l = false) := by
              have := HR.out
              rw [HD.out, List.all_cons, show shortL ⟨mn, mv⟩ = false from by unfold shortL; simp [hv], Bool.false_and] at this
              exact this.symm
            clear hn hv
            go_wp2_with fail
            go_ret
            rw [E.out]
            exact ⟨rfl, HB.out.alloc HB.out.size _⟩
        · have hn' : (300 : Int) < mn.size := by omega
          have E : Hid (shortB l = false) := by
            have := HR.out
            rw [HD.out, List.all_cons, show shortL ⟨mn, mv⟩ = false from by unfold shortL; simp [hn], Bool.false_and] at this
            exact this.symm
          clear hn
          go_wp2_with fail
          go_ret
          rw [E.out]
          exact ⟨rfl, HB.out.alloc HB.out.size _⟩
      · have hkl : k = l.length := by omega
        subst hkl
        have E : Hid (shortB l = true) := by
          have := HR.out
          rw [List.drop_length] at this
          exact this.symm
        go_wp2_with fail
        go_ret
        rw [E.out]
        exact ⟨rfl, HB.out⟩
end Go.Proofs.YthlabaijaadocaaDoor
