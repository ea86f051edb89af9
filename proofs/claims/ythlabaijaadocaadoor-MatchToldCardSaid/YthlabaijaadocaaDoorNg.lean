import Derived.Test.YthlabaijaadocaaDoorNf
import Derived.WalkMore
/-! A text that is read: blanks, pieces, words. -/
namespace Go.Proofs.YthlabaijaadocaaDoor
open Go.RowKit Ut Rx Mt

/-- a text that is read stands in block t; its bytes that are left are l -/
def Tx (w : World) (t : Nat) (l : List UInt8) : Prop := ∃ s : ByteArray, w.heap[t]? = some (.cells #[.string s] 61 (0, 0)) ∧ by_ s = l
theorem cells1 {w : World} {b : Nat} {x : Value} {t : TypeId} (h : w.heap[b]? = some (.cells #[x] t (0, 0))) : w.cell? ⟨b, 0, none⟩ = some x ∧ w.frozen? ⟨b, 0, none⟩ = false := by
  unfold World.cell? World.frozen?; rw [h]; exact ⟨rfl, by simp⟩
theorem Tx.lt {w : World} {t : Nat} {l : List UInt8} (h : Tx w t l) : t < w.heap.size := by
  obtain ⟨s, h, _⟩ := h
  exact (Array.getElem?_eq_some_iff.1 h).1
theorem Tx.below {w w' : World} {t : Nat} {l : List UInt8} (h : Tx w t l) (b : Below w.heap.size w w') : Tx w' t l := by
  have lt := h.lt
  obtain ⟨s, h, e⟩ := h
  exact ⟨s, (b.block _ lt).trans h, e⟩
theorem by_drop (s : ByteArray) (k : Nat) : by_ (s.extract k s.size) = (by_ s).drop k := by
  exact Lib.extract_to_end s k
theorem by_take (s : ByteArray) (k : Nat) : by_ (s.extract 0 k) = (by_ s).take k := by
  show (s.extract 0 k).data.toList = _
  simp
theorem Tx.put {w : World} {t : Nat} {s s' : ByteArray} (h : w.heap[t]? = some (.cells #[.string s] 61 (0, 0))) : (w.setCell ⟨t, 0, none⟩ (.string s')).heap[t]? = some (.cells #[.string s'] 61 (0, 0)) := set1 h _

def UnitPost (w : World) (t : Nat) (l : List UInt8) (e : Ending) (w' : World) : Prop := e = .returned (.tuple #[]) ∧ w.grownBy w' (some t) ∧ Tx w' t l
def EatPost (w : World) (t : Nat) (b : Bool) (l : List UInt8) (e : Ending) (w' : World) : Prop := e = .returned (.bool b) ∧ w.grownBy w' (some t) ∧ Tx w' t l

theorem bare_yes {c : UInt8} {l : List UInt8} (h : c = 32) : bareF (c :: l) = bareF l := by subst h; rfl
theorem bare_no {c : UInt8} {l : List UInt8} (h : c ≠ 32) : bareF (c :: l) = c :: l := by
  unfold bareF
  rw [List.dropWhile_cons, if_neg (by simpa using h)]

set_option maxRecDepth 100000 in
set_option maxHeartbeats 2000000 in
theorem blanks_any (t : Nat) (l : List UInt8) (w : World) (h : Tx w t l) : Calls Tryd.prog 38 #[.pointer (some ⟨t, 0, none⟩)] w (UnitPost w t (bareF l)) := by
  obtain ⟨s0, h0, e0⟩ := h
  have H0 := Lib.hid h0
  have E0 := Lib.hid e0
  clear h0 e0
  go_enter Tryd.func38, Tryd.ntmps38
  go_wp2_with fail
  go_loopg [] s0.size (fun gk wr => ∃ s : ByteArray, gk = s.size ∧ Hid (wr.heap[t]? = some (.cells #[.string s] 61 (0, 0))) ∧ Hid (bareF (by_ s) = bareF l) ∧ Hid (w.grownBy wr (some t)))
  case atStart => exact ⟨s0, rfl, H0, by show _ = _; rw [E0.out], grown_refl _ _⟩
  case round =>
    obtain ⟨s, hgk, HS, HR, HG⟩ := hrel
    obtain ⟨c0, f0⟩ := cells1 HS.out
    clear H0
    by_cases hz : s.size = 0
    · have hem : s.toList.isEmpty = true := by rw [tl_eq, show s.data.toList = [] from by_empty hz]; rfl
      have FIN : Hid (Tx wr t (bareF l)) := ⟨s, HS.out, by rw [← HR.out, by_empty hz]; rfl⟩
      go_wp2_with fail
      exact bodyPost_ret (v := .tuple #[]) (by simp [results, Tryd.results38, go_sem]) rfl ⟨rfl, HG.out, FIN.out⟩
    · have hp : 0 < s.size := by omega
      have hem := string_ne hp
      have HD := Lib.hid (show by_ s = (s[0]'hp) :: (by_ s).drop 1 from drop_two hp)
      have u := ub_eq (s[0]'hp) 32 (by omega)
      by_cases h32 : (s[0]'hp) = 32
      · rw [decide_eq_true (show (s[0]'hp) = UInt8.ofNat 32 from h32)] at u
        have R2 : Hid (bareF (by_ (s.extract 1 s.size)) = bareF l) := by
          show _ = _
          rw [by_drop, ← HR.out, show bareF (by_ s) = bareF ((s[0]'hp) :: (by_ s).drop 1) from congrArg bareF HD.out, bare_yes h32]
        clear h32
        go_wp2_with fail
        go_roundg (s.size - 1)
        case measure => omega
        case rel => exact ⟨s.extract 1 s.size, by simp, Tx.put HS.out, R2, grown_trans HG.out (grown_setCell _ _ _ _)⟩
      · rw [decide_eq_false (show ¬ (s[0]'hp) = UInt8.ofNat 32 from h32)] at u
        have FIN : Hid (Tx wr t (bareF l)) := ⟨s, HS.out, by rw [← HR.out, show bareF (by_ s) = bareF ((s[0]'hp) :: (by_ s).drop 1) from congrArg bareF HD.out, bare_no h32]; exact HD.out⟩
        clear h32
        go_wp2_with fail
        exact bodyPost_ret (v := .tuple #[]) (by simp [results, Tryd.results38, go_sem]) rfl ⟨rfl, HG.out, FIN.out⟩

def eatF (p l : List UInt8) : Option (List UInt8) := if p.isPrefixOf l then some (l.drop p.length) else none
theorem eat_yes {p l : List UInt8} (h : l.take p.length = p) : eatF p l = some (l.drop p.length) := by
  unfold eatF
  rw [if_pos]
  rw [List.isPrefixOf_iff_prefix]
  have := List.take_append_drop p.length l
  rw [h] at this
  exact ⟨_, this⟩
theorem eat_no {p l : List UInt8} (h : l.take p.length ≠ p) : eatF p l = none := by
  unfold eatF
  rw [if_neg]
  rw [List.isPrefixOf_iff_prefix]
  rintro ⟨u, rfl⟩
  exact h (by simp)
set_option maxRecDepth 100000 in
set_option maxHeartbeats 2000000 in
theorem eat_any (t : Nat) (p : ByteArray) (l : List UInt8) (w : World) (h : Tx w t l) : Calls Tryd.prog 40 #[.pointer (some ⟨t, 0, none⟩), .string p] w (EatPost w t (eatF (by_ p) l).isSome ((eatF (by_ p) l).getD l)) := by
  obtain ⟨s, h0, e0⟩ := h
  have HS := Lib.hid h0
  obtain ⟨c0, f0⟩ := cells1 h0
  have hl : l.length = s.size := by rw [← e0, tl_len]
  have hpl : (by_ p).length = p.size := tl_len _
  clear h0
  by_cases hz : s.size < p.size
  · have hzi : ((s.size : Int) < p.size) := by omega
    have E : Hid (eatF (by_ p) l = none) := eat_no (fun e => by have := congrArg List.length e; rw [List.length_take] at this; omega)
    go_enter Tryd.func40, Tryd.ntmps40
    go_wp2_with fail
    go_ret
    rw [E.out]
    exact ⟨rfl, grown_refl _ _, s, HS.out, e0⟩
  · have hzi : ¬ ((s.size : Int) < p.size) := by omega
    have hle : p.size ≤ s.size := by omega
    by_cases hq : l.take p.size = by_ p
    · have E : Hid (eatF (by_ p) l = some (l.drop p.size)) := by
        have := eat_yes (p := by_ p) (l := l) (by rw [hpl]; exact hq)
        rw [hpl] at this
        exact this
      have hb : ((s.extract 0 p.size).toList == p.toList) = true := by rw [tl_eq, tl_eq, show (s.extract 0 p.size).data.toList = by_ p from by rw [show (s.extract 0 p.size).data.toList = (by_ s).take p.size from by_take s p.size, e0, hq]]; simp
      clear hq
      go_enter Tryd.func40, Tryd.ntmps40
      go_wp2_with fail
      go_ret
      rw [E.out]
      exact ⟨rfl, grown_setCell _ _ _ _, _, Tx.put HS.out, by rw [by_drop, e0]; rfl⟩
    · have E : Hid (eatF (by_ p) l = none) := eat_no (by rw [hpl]; exact hq)
      have hb : ((s.extract 0 p.size).toList == p.toList) = false := by
        rw [tl_eq, tl_eq]
        simp only [beq_eq_false_iff_ne, ne_eq]
        intro e
        exact hq (by rw [← e0, ← by_take]; exact e)
      clear hq
      go_enter Tryd.func40, Tryd.ntmps40
      go_wp2_with fail
      go_ret
      rw [E.out]
      exact ⟨rfl, grown_refl _ _, s, HS.out, e0⟩

theorem letU_iff (c : UInt8) : letU c = true ↔ ((97 ≤ (c.toNat : Int) ∧ (c.toNat : Int) ≤ 122) ∨ (65 ≤ (c.toNat : Int) ∧ (c.toNat : Int) ≤ 90) ∨ (48 ≤ (c.toNat : Int) ∧ (c.toNat : Int) ≤ 57) ∨ (c.toNat : Int) = 95) := by
  unfold letU letB firB digB
  simp only [Bool.or_eq_true, Bool.and_eq_true, decide_eq_true_eq, ge_iff_le]
  omega
def WordPost (w : World) (t : Nat) (l : List UInt8) (e : Ending) (w' : World) : Prop := (∃ s : ByteArray, e = .returned (.string s) ∧ by_ s = l.takeWhile letU) ∧ w.grownBy w' (some t) ∧ Tx w' t (l.dropWhile letU)
theorem Tx.cutAt {w : World} {t k : Nat} {s : ByteArray} {l : List UInt8} (h : w.heap[t]? = some (.cells #[.string s] 61 (0, 0))) (_e : by_ s = l) (_h1 : (by_ s).take k = l.takeWhile letU) (h2 : (by_ s).drop k = l.dropWhile letU) : Tx (w.setCell ⟨t, 0, none⟩ (.string (s.extract k s.size))) t (l.dropWhile letU) := ⟨_, Tx.put h, by rw [by_drop, h2]⟩

set_option maxRecDepth 100000 in
set_option maxHeartbeats 1000000 in
theorem word_any (t : Nat) (l : List UInt8) (w : World) (h : Tx w t l) (hll : l.length ≤ 1000000) : Calls Tryd.prog 39 #[.pointer (some ⟨t, 0, none⟩)] w (WordPost w t l) := by
  obtain ⟨s, h0, rfl⟩ := h
  have hs : s.size ≤ 1000000 := by rw [tl_len] at hll; exact hll
  clear hll
  have HS := Lib.hid h0
  obtain ⟨c0, f0⟩ := cells1 h0
  clear h0
  go_enter Tryd.func39, Tryd.ntmps39
  go_wp2_with fail
  go_step3
  go_wp2_with fail
  go_step3
  go_wp2_with fail
  go_loopg [3] s.size (fun gk vk wr => ∃ k : Nat, vk = .int .i64 k ∧ k + gk = s.size ∧ wr = w ∧ Hid ((by_ s).take k ++ ((by_ s).drop k).takeWhile letU = (by_ s).takeWhile letU) ∧ Hid (((by_ s).drop k).dropWhile letU = (by_ s).dropWhile letU))
  case atStart => exact ⟨0, rfl, by omega, rfl, by show _ = _; simp, by show _ = _; simp⟩
  case round =>
    obtain ⟨k, rfl, hk, rfl, HT, HD⟩ := hrel
    by_cases hlt : k < s.size
    · have HC := Lib.hid (drop_two hlt)
      have hle : (k : Int) ≤ s.size := by omega
      by_cases hL : letU (s[k]'hlt) = true
      · have T2 : Hid ((by_ s).take (k + 1) ++ ((by_ s).drop (k + 1)).takeWhile letU = (by_ s).takeWhile letU) := by
          have := HT.out
          rw [HC.out, List.takeWhile_cons, if_pos hL] at this
          have hl' : k < (by_ s).length := by rw [tl_len]; exact hlt
          show _ = _
          rw [← this, List.take_succ_eq_append_getElem hl', tl_get s k hlt hl']
          simp
        have D2 : Hid (((by_ s).drop (k + 1)).dropWhile letU = (by_ s).dropWhile letU) := by
          have := HD.out
          rw [HC.out, List.dropWhile_cons, if_pos hL] at this
          exact this
        rw [letU_iff] at hL
        go_wp2_with fail
        all_goals (first | (exfalso; omega) | skip)
        all_goals go_roundg (s.size - (k + 1))
        all_goals (first | exact ⟨k + 1, by simp, by omega, rfl, T2, D2⟩ | omega)
      · have T2 : Hid ((by_ s).take k = (by_ s).takeWhile letU) := by
          have := HT.out
          rw [HC.out, List.takeWhile_cons, if_neg hL, List.append_nil] at this
          exact this
        have D2 : Hid ((by_ s).drop k = (by_ s).dropWhile letU) := by
          have := HD.out
          rw [HC.out, List.dropWhile_cons, if_neg hL] at this
          rw [← HC.out] at this
          exact this
        rw [letU_iff] at hL
        go_wp2_with fail
        all_goals (first | (exfalso; omega) | skip)
        all_goals (exact bodyPost_ret (v := .string (s.extract 0 k)) (by simp [results, Tryd.results39, go_sem]) rfl ⟨⟨_, rfl, by rw [by_take]; exact T2.out⟩, grown_setCell _ _ _ _, Tx.cutAt HS.out rfl T2.out D2.out⟩)
    · have hkl : k = s.size := by omega
      have hki : ¬ (k : Int) < s.size := by omega
      have hle : (k : Int) ≤ s.size := by omega
      have T2 : Hid ((by_ s).take k = (by_ s).takeWhile letU) := by
        have := HT.out
        rw [List.drop_of_length_le (by rw [tl_len]; omega)] at this
        show _ = _
        simpa using this
      have D2 : Hid ((by_ s).drop k = (by_ s).dropWhile letU) := by
        have := HD.out
        rw [List.drop_of_length_le (by rw [tl_len]; omega)] at this
        rw [List.drop_of_length_le (by rw [tl_len]; omega)]
        exact this
      clear hkl HT HD
      go_wp2_with fail
      all_goals (exact bodyPost_ret (v := .string (s.extract 0 k)) (by simp [results, Tryd.results39, go_sem]) rfl ⟨⟨_, rfl, by rw [by_take]; exact T2.out⟩, grown_setCell _ _ _ _, Tx.cutAt HS.out rfl T2.out D2.out⟩)
end Go.Proofs.YthlabaijaadocaaDoor
