import Derived.Test.YthlabaijaadocaaDoorXB2
import Derived.Laws.StructEq
/-! Are matchers the same? (the reference's) -/
namespace Go.Proofs.YthlabaijaadocaaDoor
open Go.RowKit Ut Rx Mt

def eqM (a b : M) : Bool := decide (a.k = b.k) && decide (by_ a.n = by_ b.n) && decide (by_ a.v = by_ b.v)
def eqMs : List M → List M → Bool
  | [], [] => true
  | a :: s, b :: t => eqM a b && eqMs s t
  | _, _ => false
theorem eqM_refl (a : M) : eqM a a = true := by simp [eqM]
theorem eqMs_refl : ∀ l : List M, eqMs l l = true
  | [] => rfl
  | a :: t => by rw [eqMs, eqM_refl, eqMs_refl t]; rfl
theorem eqMs_len : ∀ {a b : List M}, a.length ≠ b.length → eqMs a b = false
  | [], [], h => absurd rfl h
  | [], _ :: _, _ => rfl
  | _ :: _, [], _ => rfl
  | a :: s, b :: t, h => by rw [eqMs, eqMs_len (by simpa using h), Bool.and_false]

set_option maxRecDepth 100000 in
set_option maxHeartbeats 4000000 in
theorem same_any (a b : List M) (va vb : Value) (w : World) (ha : Ms w va a) (hb : Ms w vb b) : Calls Tryd.prog 22 #[va, vb] w (BoolBelow w (eqMs a b)) := by
  obtain ⟨A1, c1, rfl, hbig, hc1⟩ := ha
  obtain ⟨A2, c2, rfl, hbig2, hc2⟩ := hb
  have HC1 := Lib.hid hc1
  have HC2 := Lib.hid hc2
  have B0 : Hid (Below w.heap.size w w) := Below.refl _ _
  clear hc1 hc2
  by_cases hl : a.length = b.length
  · have HL := Lib.hid hl
    have R0 : Hid (eqMs (a.drop 0) (b.drop 0) = eqMs a b) := rfl
    rw [← hl]
    clear hl hbig2
    go_enter Tryd.func22, Tryd.ntmps22
    go_wp2_with fail
    go_loopg [13] a.length (fun gk vk wr => ∃ k : Nat, vk = .int .i64 k ∧ k + gk = a.length ∧ Hid (eqMs (a.drop k) (b.drop k) = eqMs a b) ∧ Hid (Below w.heap.size w wr))
    case atStart => exact ⟨0, rfl, by omega, R0, B0⟩
    case round =>
      obtain ⟨k, rfl, hk, HR, HB⟩ := hrel
      clear B0 R0
      by_cases hlt : k < a.length
      · have hlt2 : k < b.length := by rw [← HL.out]; exact hlt
        obtain ⟨b1, o1, rfl, h1⟩ := HC1.out (fun e => by rw [e] at hlt; simp at hlt)
        obtain ⟨b2, o2, rfl, h2⟩ := HC2.out (fun e => by rw [e] at hlt2; simp at hlt2)
        obtain ⟨c0', c1', c2'⟩ := h1 k hlt
        obtain ⟨d0', d1', d2'⟩ := h2 k hlt2
        have lb1 : b1 < w.heap.size := World.block_lt_of_cell? w _ c0'
        have lb2 : b2 < w.heap.size := World.block_lt_of_cell? w _ d0'
        have c0 := (HB.out.cell (p := ⟨b1, o1 + k * 3, none⟩) lb1).trans c0'
        have c1 := (HB.out.cell (p := ⟨b1, o1 + k * 3 + 1, none⟩) lb1).trans c1'
        have c2 := (HB.out.cell (p := ⟨b1, o1 + k * 3 + 2, none⟩) lb1).trans c2'
        have d0 := (HB.out.cell (p := ⟨b2, o2 + k * 3, none⟩) lb2).trans d0'
        have d1 := (HB.out.cell (p := ⟨b2, o2 + k * 3 + 1, none⟩) lb2).trans d1'
        have d2 := (HB.out.cell (p := ⟨b2, o2 + k * 3 + 2, none⟩) lb2).trans d2'
        have HD : Hid (eqMs (a.drop k) (b.drop k) = (eqM (a[k]'hlt) (b[k]'hlt2) && eqMs (a.drop (k + 1)) (b.drop (k + 1)))) := by show _ = _; rw [List.drop_eq_getElem_cons hlt, List.drop_eq_getElem_cons hlt2]; rfl
        have hki : (0 : Int) ≤ k := by omega
        have hkj : (k : Int) < a.length := by omega
        clear h1 h2 c0' c1' c2' d0' d1' d2' HC1 HC2
        generalize (a[k]'hlt) = m1 at *
        generalize (b[k]'hlt2) = m2 at *
        clear hlt2
        obtain ⟨k1, n1, s1⟩ := m1
        obtain ⟨k2, n2, s2⟩ := m2
        simp only at c0 c1 c2 d0 d1 d2
        by_cases hk1 : k1 = k2
        · subst hk1
          by_cases hn1 : n1 = n2
          · subst hn1
            by_cases hs1 : s1 = s2
            · subst hs1
              have R2 : Hid (eqMs (a.drop (k + 1)) (b.drop (k + 1)) = eqMs a b) := by have := HR.out; rw [HD.out, eqM_refl, Bool.true_and] at this; exact this
              clear HR HD
              go_wp2_with fail
              go_quiet (fail)
              all_goals
                go_wp2_with fail
                go_roundg (a.length - (k + 1))
                case measure => omega
                case rel => exact ⟨k + 1, by simp, by omega, R2, below_drewN HB.out _⟩
            · have E : Hid (eqMs a b = false) := by have := HR.out; rw [HD.out, show eqM ⟨k1, n1, s1⟩ ⟨k1, n1, s2⟩ = false from by unfold eqM; simp only [decide_true, Bool.true_and, decide_eq_false_iff_not]; exact fun e => hs1 (by_inj e), Bool.false_and] at this; exact this.symm
              have hne : (s1.toList == s2.toList) = false := by rw [tl_eq, tl_eq, beq_eq_false_iff_ne]; exact fun e => hs1 (by_inj e)
              clear HR HD hs1
              go_wp2_with fail
              go_quiet (fail)
              all_goals
                go_wp2_with fail
                go_ret
                rw [E.out]
                exact ⟨rfl, below_drewN HB.out _⟩
          · have E : Hid (eqMs a b = false) := by have := HR.out; rw [HD.out, show eqM ⟨k1, n1, s1⟩ ⟨k1, n2, s2⟩ = false from by unfold eqM; simp only [decide_true, Bool.true_and]; rw [decide_eq_false (fun e => hn1 (by_inj e)), Bool.false_and], Bool.false_and] at this; exact this.symm
            have hne : (n1.toList == n2.toList) = false := by rw [tl_eq, tl_eq, beq_eq_false_iff_ne]; exact fun e => hn1 (by_inj e)
            clear HR HD hn1
            go_wp2_with fail
            go_quiet (fail)
            all_goals
              go_wp2_with fail
              go_ret
              rw [E.out]
              exact ⟨rfl, below_drewN HB.out _⟩
        · have E : Hid (eqMs a b = false) := by have := HR.out; rw [HD.out, show eqM ⟨k1, n1, s1⟩ ⟨k2, n2, s2⟩ = false from by unfold eqM; simp only [decide_eq_false hk1, Bool.false_and], Bool.false_and] at this; exact this.symm
          have hne : (k1 == k2) = false := by rw [beq_eq_false_iff_ne]; exact hk1
          clear HR HD hk1
          go_wp2_with fail
          go_quiet (fail)
          all_goals
            go_wp2_with fail
            go_ret
            rw [E.out]
            exact ⟨rfl, below_drewN HB.out _⟩
      · have hkl : k = a.length := by omega
        subst hkl
        have E : Hid (eqMs a b = true) := by have := HR.out; rw [List.drop_length, List.drop_of_length_le (by rw [HL.out]; exact Nat.le_refl _)] at this; exact this.symm
        go_wp2_with fail
        go_ret
        rw [E.out]
        exact ⟨rfl, HB.out⟩
  · have E : Hid (eqMs a b = false) := eqMs_len hl
    have hne : ¬ ((a.length : Int) = b.length) := by omega
    have hne2 : ((a.length : Int) != b.length) = true := by simpa using hne
    clear hl
    go_enter Tryd.func22, Tryd.ntmps22
    go_wp2_with fail
    go_ret
    rw [E.out]
    exact ⟨rfl, B0.out⟩
end Go.Proofs.YthlabaijaadocaaDoor
