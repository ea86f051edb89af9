import Derived.Test.YtmbfpichaaanpaaGreatDoorX24
/-! Where the part that ends at a place begins. -/
namespace Go.Proofs.YtmbfpichaaanpaaGreatDoor
open Go.RowKit Ut Rx Mt

theorem takes_range (n : Ex.Nd) : -1 ≤ Ex.takesE n ∧ Ex.takesE n ≤ 2 := by
  unfold Ex.takesE
  repeat' split
  all_goals omega
theorem beginGo_step (l : List Ex.Nd) (k : Nat) (need : Int) (h : k < l.length) : Ex.beginGo l k need = if Ex.takesE (l[k]'h) < 0 then -1 else if need + (Ex.takesE (l[k]'h) - 1) = 0 then (k : Int) else if k = 0 then -1 else Ex.beginGo l (k - 1) (need + (Ex.takesE (l[k]'h) - 1)) := by
  conv => lhs; unfold Ex.beginGo
  rw [List.getElem?_eq_getElem h]
  simp only
  split
  · rfl
  · split
    · rfl
    · cases k <;> rfl

set_option maxRecDepth 100000 in
set_option maxHeartbeats 8000000 in
theorem begin_any (l : List Ex.Nd) (lv : Value) (i : Int) (w : World) (hl : Es0 w lv l) (hL : l.length ≤ 1000000) : Calls Tryz.prog 14 #[lv, .int .i64 i] w (IntBelow w (Ex.beginE l i)) := by
  obtain ⟨A, c, rfl, hcap, _⟩ := id hl
  have HC := Lib.hid hl.at_
  have B0 : Hid (Below w.heap.size w w) := Below.refl _ _
  clear hl
  by_cases h0 : i < 0
  · have E : Hid (Ex.beginE l i = -1) := by show _ = _; unfold Ex.beginE; rw [if_pos (Or.inl h0)]
    go_enter Tryz.func14, Tryz.ntmps14
    go_wp2_with fail
    go_ret
    rw [E.out]
    exact ⟨rfl, B0.out⟩
  · by_cases h1 : (l.length : Int) ≤ i
    · have E : Hid (Ex.beginE l i = -1) := by show _ = _; unfold Ex.beginE; rw [if_pos (Or.inr h1)]
      go_enter Tryz.func14, Tryz.ntmps14
      go_wp2_with fail
      go_ret
      rw [E.out]
      exact ⟨rfl, B0.out⟩
    · have EB : Hid ((if 0 ≤ i then Ex.beginGo l i.toNat 1 else -1) = Ex.beginE l i) := by show _ = _; unfold Ex.beginE; rw [if_pos (by omega), if_neg (by omega)]
      go_enter Tryz.func14, Tryz.ntmps14
      go_wp2_with fail
      go_loopg [1, 5] (i + 1).toNat (fun gk v1 v5 wr => ∃ (i2 need : Int), v1 = .int .i64 i2 ∧ v5 = .int .i64 need ∧ -1 ≤ i2 ∧ i2 ≤ i ∧ gk = (i2 + 1).toNat ∧ 1 ≤ need ∧ need + i2 ≤ 1 + i ∧ Hid ((if 0 ≤ i2 then Ex.beginGo l i2.toNat need else -1) = Ex.beginE l i) ∧ Hid (Below w.heap.size w wr))
      case atStart => exact ⟨i, 1, rfl, rfl, by omega, by omega, rfl, by omega, by omega, EB, B0⟩
      case round =>
        obtain ⟨i2, need, rfl, rfl, hi2, hi3, hg, hn1, hn2, HR, HB⟩ := hrel
        clear EB B0
        by_cases hp : 0 ≤ i2
        · obtain ⟨k, rfl⟩ : ∃ k : Nat, i2 = (k : Int) := ⟨i2.toNat, by omega⟩
          have hlt : k < l.length := by omega
          have hlti : (k : Int) < l.length := by omega
          obtain ⟨b, off, rfl, hc⟩ := HC.out (fun e => by rw [e] at hlt; simp at hlt)
          obtain ⟨sv, nv, hnd⟩ := hc k hlt
          have HS := Lib.hid (beginGo_step l k need hlt)
          have TR := takes_range (l[k]'hlt)
          generalize (l[k]'hlt) = n at *
          have hnr := hnd.below HB.out
          obtain ⟨q0, q1, q2, q3, q4, q5, q6, q7, _, _, _, _⟩ := hnr
          have TK := Lib.hid (takes_any n sv nv wr)
          unfold ndA at TK
          generalize Ex.takesE n = t at *
          have HE : Hid (Ex.beginE l i = if t < 0 then -1 else if need + (t - 1) = 0 then (k : Int) else if k = 0 then -1 else Ex.beginGo l (k - 1) (need + (t - 1))) := by
            show _ = _
            rw [← HR.out, if_pos hp, Int.toNat_natCast, HS.out]
          clear hc hnd HC HS HR hp
          go_wp2_with fail
          refine TK.out.mono ?_
          rintro e w2 ⟨rfl, hb2⟩
          have B2 := Lib.hid (HB.out.trans (hb2.mono HB.out.size))
          clear q0 q1 q2 q3 q4 q5 q6 q7 TK hb2 HB
          by_cases ht : t < 0
          · have E : Hid (Ex.beginE l i = -1) := by show _ = _; rw [HE.out, if_pos ht]
            clear HE
            go_wp2_with fail
            go_ret
            rw [E.out]
            exact ⟨rfl, B2.out⟩
          · have s1 : IntKind.i64.wrap (t - 1) = t - 1 := IntWalk.i64_in _ (by omega)
            have s2 : IntKind.i64.wrap (need + (t - 1)) = need + (t - 1) := IntWalk.i64_in _ (by omega)
            by_cases hz : need + (t - 1) = 0
            · have E : Hid (Ex.beginE l i = (k : Int)) := by show _ = _; rw [HE.out, if_neg ht, if_pos hz]
              have hzb : (need + (t - 1) == 0) = true := by simp [hz]
              clear HE
              go_wp2_with fail
              go_ret
              rw [E.out]
              exact ⟨rfl, B2.out⟩
            · have hzb : (need + (t - 1) == 0) = false := by simpa using hz
              have s3 : IntKind.i64.wrap ((k : Int) - 1) = (k : Int) - 1 := IntWalk.i64_in _ (by omega)
              have R2 : Hid ((if 0 ≤ (k : Int) - 1 then Ex.beginGo l ((k : Int) - 1).toNat (need + (t - 1)) else -1) = Ex.beginE l i) := by
                show _ = _
                rw [HE.out, if_neg ht, if_neg hz]
                by_cases hk : k = 0
                · rw [if_neg (by omega), if_pos hk]
                · rw [if_pos (by omega), if_neg hk, show ((k : Int) - 1).toNat = k - 1 by omega]
              clear HE
              go_wp2_with fail
              go_roundg (k : Nat)
              case measure => omega
              case rel => exact ⟨(k : Int) - 1, need + (t - 1), rfl, rfl, by omega, by omega, by omega, by omega, by omega, R2, B2⟩
        · have E : Hid (Ex.beginE l i = -1) := by show _ = _; rw [← HR.out, if_neg hp]
          clear HR
          go_wp2_with fail
          go_ret
          rw [E.out]
          exact ⟨rfl, HB.out⟩
end Go.Proofs.YtmbfpichaaanpaaGreatDoor

/-! The reader of expressions: blanks, pieces, words. -/
namespace Go.Proofs.YtmbfpichaaanpaaGreatDoor
open Go.RowKit Ut Rx Mt

/-- the reader stands in block t: its nodes lv, is it bad, what was wrong with a selector; what is left of the text is l -/
def pxC (s : ByteArray) (lv : Value) (bad : Bool) (e : Int) : Obj := .cells #[.string s, lv, .bool bad, .int .i64 e] 51 (0, 0)
def Px (w : World) (t : Nat) (lv : Value) (l : List UInt8) (bad : Bool) (e : Int) : Prop := ∃ s : ByteArray, w.heap[t]? = some (pxC s lv bad e) ∧ by_ s = l
theorem px_cells {w : World} {t : Nat} {s : ByteArray} {lv : Value} {bad : Bool} {e : Int} (h : w.heap[t]? = some (pxC s lv bad e)) :
    w.cell? ⟨t, 0, none⟩ = some (.string s) ∧ w.cell? ⟨t, 1, none⟩ = some lv ∧ w.cell? ⟨t, 2, none⟩ = some (.bool bad) ∧ w.cell? ⟨t, 3, none⟩ = some (.int .i64 e) ∧ w.frozen? ⟨t, 0, none⟩ = false ∧ w.frozen? ⟨t, 1, none⟩ = false ∧ w.frozen? ⟨t, 2, none⟩ = false ∧ w.frozen? ⟨t, 3, none⟩ = false := by
  unfold World.cell? World.frozen?; rw [h]; exact ⟨rfl, rfl, rfl, rfl, by simp [pxC], by simp [pxC], by simp [pxC], by simp [pxC]⟩
theorem Px.lt {w : World} {t : Nat} {lv : Value} {l : List UInt8} {bad : Bool} {e : Int} (h : Px w t lv l bad e) : t < w.heap.size := by
  obtain ⟨s, h, _⟩ := h
  exact (Array.getElem?_eq_some_iff.1 h).1
theorem Px.below {w w' : World} {t : Nat} {lv : Value} {l : List UInt8} {bad : Bool} {e : Int} (h : Px w t lv l bad e) (b : Below w.heap.size w w') : Px w' t lv l bad e := by
  have lt := h.lt
  obtain ⟨s, h, e⟩ := h
  exact ⟨s, (b.block _ lt).trans h, e⟩
theorem px_put0 {w : World} {t : Nat} {s s' : ByteArray} {lv : Value} {bad : Bool} {e : Int} (h : w.heap[t]? = some (pxC s lv bad e)) : (w.setCell ⟨t, 0, none⟩ (.string s')).heap[t]? = some (pxC s' lv bad e) := by
  unfold pxC at *
  exact set1 h _
theorem px_put1 {w : World} {t : Nat} {s : ByteArray} {lv lv' : Value} {bad : Bool} {e : Int} (h : w.heap[t]? = some (pxC s lv bad e)) : (w.setCell ⟨t, 1, none⟩ lv').heap[t]? = some (pxC s lv' bad e) := by
  unfold pxC at *
  exact set1 h _
theorem px_put2 {w : World} {t : Nat} {s : ByteArray} {lv : Value} {bad bad' : Bool} {e : Int} (h : w.heap[t]? = some (pxC s lv bad e)) : (w.setCell ⟨t, 2, none⟩ (.bool bad')).heap[t]? = some (pxC s lv bad' e) := by
  unfold pxC at *
  exact set1 h _
theorem px_put3 {w : World} {t : Nat} {s : ByteArray} {lv : Value} {bad : Bool} {e e' : Int} (h : w.heap[t]? = some (pxC s lv bad e)) : (w.setCell ⟨t, 3, none⟩ (.int .i64 e')).heap[t]? = some (pxC s lv bad e') := by
  unfold pxC at *
  exact set1 h _
def PUnit (w : World) (t : Nat) (lv : Value) (l : List UInt8) (bad : Bool) (n : Int) (e : Ending) (w' : World) : Prop := e = .returned (.tuple #[]) ∧ w.grownBy w' (some t) ∧ Px w' t lv l bad n
def PBool (w : World) (t : Nat) (lv : Value) (b : Bool) (l : List UInt8) (bad : Bool) (n : Int) (e : Ending) (w' : World) : Prop := e = .returned (.bool b) ∧ w.grownBy w' (some t) ∧ Px w' t lv l bad n

set_option maxRecDepth 100000 in
set_option maxHeartbeats 2000000 in
theorem bareX_any (t : Nat) (lv : Value) (l : List UInt8) (bad : Bool) (n : Int) (w : World) (h : Px w t lv l bad n) : Calls Tryz.prog 27 #[.pointer (some ⟨t, 0, none⟩)] w (PUnit w t lv (bareF l) bad n) := by
  obtain ⟨s0, h0, e0⟩ := h
  have H0 := Lib.hid h0
  have E0 := Lib.hid e0
  clear h0 e0
  go_enter Tryz.func27, Tryz.ntmps27
  go_wp2_with fail
  go_loopg [] s0.size (fun gk wr => ∃ s : ByteArray, gk = s.size ∧ Hid (wr.heap[t]? = some (pxC s lv bad n)) ∧ Hid (bareF (by_ s) = bareF l) ∧ Hid (w.grownBy wr (some t)))
  case atStart => exact ⟨s0, rfl, H0, by show _ = _; rw [E0.out], grown_refl _ _⟩
  case round =>
    obtain ⟨s, hgk, HS, HR, HG⟩ := hrel
    obtain ⟨c0, c1, c2, c3, f0, f1, f2, f3⟩ := px_cells HS.out
    clear H0
    by_cases hz : s.size = 0
    · have hem : s.toList.isEmpty = true := by rw [tl_eq, show s.data.toList = [] from by_empty hz]; rfl
      have FIN : Hid (Px wr t lv (bareF l) bad n) := ⟨s, HS.out, by rw [← HR.out, by_empty hz]; rfl⟩
      go_wp2_with fail
      exact bodyPost_ret (v := .tuple #[]) (by simp [results, Tryz.results27, go_sem]) rfl ⟨rfl, HG.out, FIN.out⟩
    · have hp : 0 < s.size := by omega
      have hem := string_ne hp
      have HD := Lib.hid (show by_ s = (s[0]'hp) :: (by_ s).drop 1 from drop_two hp)
      have u := ub_eq (s[0]'hp) 32 (by omega)
      by_cases h32 : (s[0]'hp) = 32
      · rw [decide_eq_true (show (s[0]'hp) = UInt8.ofNat 32 from h32)] at u
        have R2 : Hid (bareF (by_ (s.extract 1 s.size)) = bareF l) := by
          show _ = _
          rw [by_drop, ← HR.out, show bareF (by_ s) = bareF ((s[0]'hp) :: (by_ s).drop 1) from congrArg bareF HD.out, bare_yes h32]
        clear h32
        go_wp2_with fail
        go_roundg (s.size - 1)
        case measure => omega
        case rel => exact ⟨s.extract 1 s.size, by simp, px_put0 HS.out, R2, grown_trans HG.out (grown_setCell _ _ _ _)⟩
      · rw [decide_eq_false (show ¬ (s[0]'hp) = UInt8.ofNat 32 from h32)] at u
        have FIN : Hid (Px wr t lv (bareF l) bad n) := ⟨s, HS.out, by rw [← HR.out, show bareF (by_ s) = bareF ((s[0]'hp) :: (by_ s).drop 1) from congrArg bareF HD.out, bare_no h32]; exact HD.out⟩
        clear h32
        go_wp2_with fail
        exact bodyPost_ret (v := .tuple #[]) (by simp [results, Tryz.results27, go_sem]) rfl ⟨rfl, HG.out, FIN.out⟩

set_option maxRecDepth 100000 in
set_option maxHeartbeats 2000000 in
theorem hasX_any (t : Nat) (p : ByteArray) (lv : Value) (l0 : List UInt8) (bad : Bool) (n : Int) (w : World) (h : Px w t lv l0 bad n) : Calls Tryz.prog 72 #[.pointer (some ⟨t, 0, none⟩), .string p] w (PBool w t lv (eatF (by_ p) (bareF l0)).isSome ((eatF (by_ p) (bareF l0)).getD (bareF l0)) bad n) := by
  have BA := Lib.hid (bareX_any t lv l0 bad n w h)
  have hpl : (by_ p).length = p.size := tl_len _
  clear h
  generalize bareF l0 = l at *
  go_enter Tryz.func72, Tryz.ntmps72
  go_wp2_with fail
  refine BA.out.mono ?_
  rintro e1 w1 ⟨rfl, hg1, s, h0, e0⟩
  have HG := Lib.hid hg1
  have HS := Lib.hid h0
  have E0 := Lib.hid e0
  have hl : l.length = s.size := by rw [← e0, tl_len]
  obtain ⟨c0, c1, c2, c3, f0, f1, f2, f3⟩ := px_cells h0
  clear h0 BA e0 hg1
  by_cases hz : s.size < p.size
  · have hzi : ((s.size : Int) < p.size) := by omega
    have E : Hid (eatF (by_ p) l = none) := eat_no (fun e => by have := congrArg List.length e; rw [List.length_take] at this; omega)
    go_wp2_with fail
    go_ret
    rw [E.out]
    exact ⟨rfl, HG.out, s, HS.out, E0.out⟩
  · have hzi : ¬ ((s.size : Int) < p.size) := by omega
    have hle : p.size ≤ s.size := by omega
    by_cases hq : l.take p.size = by_ p
    · have E : Hid (eatF (by_ p) l = some (l.drop p.size)) := by
        have := eat_yes (p := by_ p) (l := l) (by rw [hpl]; exact hq)
        rw [hpl] at this
        exact this
      have hb : ((s.extract 0 p.size).toList == p.toList) = true := by rw [tl_eq, tl_eq, show (s.extract 0 p.size).data.toList = by_ p from by rw [show (s.extract 0 p.size).data.toList = (by_ s).take p.size from by_take s p.size, E0.out, hq]]; simp
      clear hq
      go_wp2_with fail
      go_ret
      rw [E.out]
      exact ⟨rfl, grown_trans HG.out (grown_setCell _ _ _ _), _, px_put0 HS.out, by rw [by_drop, E0.out]; rfl⟩
    · have E : Hid (eatF (by_ p) l = none) := eat_no (by rw [hpl]; exact hq)
      have hb : ((s.extract 0 p.size).toList == p.toList) = false := by
        rw [tl_eq, tl_eq]
        simp only [beq_eq_false_iff_ne, ne_eq]
        intro e
        exact hq (by rw [← E0.out, ← by_take]; exact e)
      clear hq
      go_wp2_with fail
      go_ret
      rw [E.out]
      exact ⟨rfl, HG.out, s, HS.out, E0.out⟩

set_option maxRecDepth 100000 in
set_option maxHeartbeats 2000000 in
theorem mustX_any (t : Nat) (p : ByteArray) (lv : Value) (l0 : List UInt8) (bad : Bool) (n : Int) (w : World) (h : Px w t lv l0 bad n) : Calls Tryz.prog 75 #[.pointer (some ⟨t, 0, none⟩), .string p] w (PUnit w t lv ((eatF (by_ p) (bareF l0)).getD (bareF l0)) (bad || !(eatF (by_ p) (bareF l0)).isSome) n) := by
  have HA := Lib.hid (hasX_any t p lv l0 bad n w h)
  clear h
  generalize hx : eatF (by_ p) (bareF l0) = x at *
  clear hx
  generalize bareF l0 = l at *
  go_enter Tryz.func75, Tryz.ntmps75
  go_wp2_with fail
  refine HA.out.mono ?_
  rintro e1 w1 ⟨rfl, hg1, s, h0, e0⟩
  have HG := Lib.hid hg1
  have HS := Lib.hid h0
  have E0 := Lib.hid e0
  obtain ⟨c0, c1, c2, c3, f0, f1, f2, f3⟩ := px_cells h0
  clear h0 HA e0 hg1
  cases x with
  | some u =>
    go_wp2_with fail
    exact bodyPost_ret (v := .tuple #[]) (by simp [results, Tryz.results75, go_sem]) rfl ⟨rfl, HG.out, s, by rw [show (bad || !(some u).isSome) = bad from by simp]; exact HS.out, E0.out⟩
  | none =>
    go_wp2_with fail
    exact bodyPost_ret (v := .tuple #[]) (by simp [results, Tryz.results75, go_sem]) rfl ⟨rfl, grown_trans HG.out (grown_setCell _ _ _ _), s, by rw [show (bad || !(none : Option (List UInt8)).isSome) = true from by simp]; exact px_put2 HS.out, E0.out⟩
end Go.Proofs.YtmbfpichaaanpaaGreatDoor

/-! The reader of expressions: letters, words. -/
namespace Go.Proofs.YtmbfpichaaanpaaGreatDoor
open Go.RowKit Ut Rx Mt

set_option maxRecDepth 100000 in
set_option maxHeartbeats 2000000 in
theorem letterX_any (c : UInt8) (w : World) : Calls Tryz.prog 92 #[.int .u8 c.toNat] w (BoolSame w (letU c)) := by
  have hc := c.toNat_lt
  by_cases hL : letU c = true
  · have E : Hid (letU c = true) := hL
    rw [letU_iff] at hL
    go_enter Tryz.func92, Tryz.ntmps92
    go_wp2_with fail
    all_goals (first | (exfalso; omega) | skip)
    all_goals (go_ret; rw [E.out]; first | exact ⟨rfl, rfl⟩ | (refine ⟨?_, rfl⟩; congr 2; simp; omega))
  · have E : Hid (letU c = false) := by show _ = _; simpa using hL
    rw [letU_iff] at hL
    go_enter Tryz.func92, Tryz.ntmps92
    go_wp2_with fail
    all_goals (first | (exfalso; omega) | skip)
    all_goals (go_ret; rw [E.out]; first | exact ⟨rfl, rfl⟩ | (refine ⟨?_, rfl⟩; congr 2; simp; omega))

def WordSame (w : World) (l : List UInt8) (e : Ending) (w' : World) : Prop := (∃ s : ByteArray, e = .returned (.string s) ∧ by_ s = l) ∧ w = w'
set_option maxRecDepth 100000 in
set_option maxHeartbeats 1000000 in
theorem wordX_any (s : ByteArray) (w : World) (hs : s.size ≤ 1000000) : Calls Tryz.prog 71 #[.string s] w (WordSame w (Ex.wordF (by_ s))) := by
  have LE := Lib.hid (fun c => letterX_any c w)
  go_enter Tryz.func71, Tryz.ntmps71
  go_wp2_with fail
  go_loopg [3] s.size (fun gk vk wr => ∃ k : Nat, vk = .int .i64 k ∧ k + gk = s.size ∧ wr = w ∧ Hid ((by_ s).take k ++ ((by_ s).drop k).takeWhile letU = (by_ s).takeWhile letU))
  case atStart => exact ⟨0, rfl, by omega, rfl, by show _ = _; simp⟩
  case round =>
    obtain ⟨k, rfl, hk, rfl, HT⟩ := hrel
    by_cases hlt : k < s.size
    · have HC := Lib.hid (drop_two hlt)
      have hle : (k : Int) ≤ s.size := by omega
      have L1 := Lib.hid (LE.out (s[k]'hlt))
      cases hL : letU (s[k]'hlt) with
      | true =>
        have T2 : Hid ((by_ s).take (k + 1) ++ ((by_ s).drop (k + 1)).takeWhile letU = (by_ s).takeWhile letU) := by
          have := HT.out
          rw [HC.out, List.takeWhile_cons, if_pos hL] at this
          have hl' : k < (by_ s).length := by rw [tl_len]; exact hlt
          show _ = _
          rw [← this, List.take_succ_eq_append_getElem hl', tl_get s k hlt hl']
          simp
        rw [hL] at L1
        clear hL
        go_wp2_with fail
        refine L1.out.mono ?_
        rintro e w1 ⟨rfl, rfl⟩
        go_wp2_with fail
        go_roundg (s.size - (k + 1))
        case measure => omega
        case rel => exact ⟨k + 1, by go_num, by omega, rfl, T2⟩
      | false =>
        have T2 : Hid ((by_ s).take k = (by_ s).takeWhile letU) := by
          have := HT.out
          rw [HC.out, List.takeWhile_cons, if_neg (by rw [hL]; simp), List.append_nil] at this
          exact this
        rw [hL] at L1
        clear hL
        go_wp2_with fail
        refine L1.out.mono ?_
        rintro e w1 ⟨rfl, rfl⟩
        go_wp2_with fail
        exact bodyPost_ret (v := .string (s.extract 0 k)) (by simp [results, Tryz.results71, go_sem]) rfl ⟨⟨_, rfl, by rw [by_take]; exact T2.out⟩, rfl⟩
    · have hkl : k = s.size := by omega
      have hki : ¬ (k : Int) < s.size := by omega
      have hle : (k : Int) ≤ s.size := by omega
      have T2 : Hid ((by_ s).take k = (by_ s).takeWhile letU) := by
        have := HT.out
        rw [List.drop_of_length_le (by rw [tl_len]; omega)] at this
        show _ = _
        simpa using this
      clear hkl HT
      go_wp2_with fail
      exact bodyPost_ret (v := .string (s.extract 0 k)) (by simp [results, Tryz.results71, go_sem]) rfl ⟨⟨_, rfl, by rw [by_take]; exact T2.out⟩, rfl⟩

def PWord (w : World) (t : Nat) (lv : Value) (v : List UInt8) (l : List UInt8) (bad : Bool) (n : Int) (e : Ending) (w' : World) : Prop := (∃ s : ByteArray, e = .returned (.string s) ∧ by_ s = v) ∧ w.grownBy w' (some t) ∧ Px w' t lv l bad n
set_option maxRecDepth 100000 in
set_option maxHeartbeats 2000000 in
theorem peekX_any (t : Nat) (lv : Value) (l0 : List UInt8) (bad : Bool) (n : Int) (w : World) (h : Px w t lv l0 bad n) (hll : l0.length ≤ 1000000) : Calls Tryz.prog 93 #[.pointer (some ⟨t, 0, none⟩)] w (PWord w t lv (Ex.peekW l0) (bareF l0) bad n) := by
  have BA := Lib.hid (bareX_any t lv l0 bad n w h)
  have EP : Hid (Ex.peekW l0 = if headDig (Ex.wordF (bareF l0)) then [] else Ex.wordF (bareF l0)) := rfl
  have hlb : (bareF l0).length ≤ 1000000 := Nat.le_trans (List.dropWhile_sublist _).length_le hll
  generalize Ex.peekW l0 = pk at *
  clear h hll
  generalize bareF l0 = l at *
  go_enter Tryz.func93, Tryz.ntmps93
  go_wp2_with fail
  refine BA.out.mono ?_
  rintro e1 w1 ⟨rfl, hg1, s, h0, e0⟩
  have HG := Lib.hid hg1
  have HS := Lib.hid h0
  have E0 := Lib.hid e0
  obtain ⟨c0, c1, c2, c3, f0, f1, f2, f3⟩ := px_cells h0
  have W0 := Lib.hid (wordX_any s w1 (by rw [show s.size = (by_ s).length from (tl_len s).symm, e0]; exact hlb))
  rw [e0] at W0
  clear h0 BA e0 hg1 hlb
  go_wp2_with fail
  refine W0.out.mono ?_
  rintro e2 w2 ⟨⟨v, rfl, hv⟩, rfl⟩
  have HV := Lib.hid hv
  clear W0 hv
  by_cases hz : v.size = 0
  · have hem : v.toList.isEmpty = true := by rw [tl_eq, show v.data.toList = [] from by_empty hz]; rfl
    have E : Hid (by_ v = pk) := by show _ = _; rw [EP.out, ← HV.out, by_empty hz]; rfl
    go_wp2_with fail
    go_ret
    exact ⟨⟨_, rfl, E.out⟩, HG.out, s, HS.out, E0.out⟩
  · have hp : 0 < v.size := by omega
    have hem := string_ne hp
    have HD := Lib.hid (show by_ v = (v[0]'hp) :: (by_ v).drop 1 from drop_two hp)
    have DG : Hid (headDig (Ex.wordF l) = digU (v[0]'hp)) := by show _ = _; rw [← HV.out, HD.out]; rfl
    by_cases hd : digU (v[0]'hp) = true
    · have E : Hid (by_ (⟨#[]⟩ : ByteArray) = pk) := by show _ = _; rw [EP.out, if_pos (by rw [DG.out]; exact hd)]
      unfold digU at hd
      simp only [Bool.and_eq_true, decide_eq_true_eq] at hd
      obtain ⟨hd1, hd2⟩ := hd
      go_wp2_with fail
      all_goals (first | (exfalso; omega) | skip)
      all_goals (go_ret; exact ⟨⟨_, rfl, E.out⟩, HG.out, s, HS.out, E0.out⟩)
    · have E : Hid (by_ v = pk) := by show _ = _; rw [EP.out, if_neg (by rw [DG.out]; exact hd)]; exact HV.out
      unfold digU at hd
      simp only [Bool.and_eq_true, decide_eq_true_eq] at hd
      go_wp2_with fail
      all_goals (first | (exfalso; omega) | skip)
      all_goals (go_ret; exact ⟨⟨_, rfl, E.out⟩, HG.out, s, HS.out, E0.out⟩)

theorem headC {s : ByteArray} (c : UInt8) : decide ((by_ s).head? = some c) = if h : 0 < s.size then decide ((s[0]'h) = c) else false := by
  by_cases h : 0 < s.size
  · rw [dif_pos h, show by_ s = (s[0]'h) :: (by_ s).drop 1 from drop_two h]
    simp
  · rw [dif_neg h, by_empty (by omega)]
    simp
set_option maxRecDepth 100000 in
set_option maxHeartbeats 2000000 in
theorem nextX_any (t : Nat) (c : UInt8) (lv : Value) (l0 : List UInt8) (bad : Bool) (n : Int) (w : World) (h : Px w t lv l0 bad n) : Calls Tryz.prog 94 #[.pointer (some ⟨t, 0, none⟩), .int .u8 c.toNat] w (PBool w t lv (decide ((bareF l0).head? = some c)) (bareF l0) bad n) := by
  have BA := Lib.hid (bareX_any t lv l0 bad n w h)
  clear h
  generalize bareF l0 = l at *
  have hc := c.toNat_lt
  go_enter Tryz.func94, Tryz.ntmps94
  go_wp2_with fail
  refine BA.out.mono ?_
  rintro e1 w1 ⟨rfl, hg1, s, h0, rfl⟩
  have HG := Lib.hid hg1
  have HS := Lib.hid h0
  obtain ⟨c0, c1, c2, c3, f0, f1, f2, f3⟩ := px_cells h0
  clear h0 BA hg1
  by_cases hz : s.size = 0
  · have hem : s.toList.isEmpty = true := by rw [tl_eq, show s.data.toList = [] from by_empty hz]; rfl
    have E : Hid (decide ((by_ s).head? = some c) = false) := by show _ = _; rw [headC, dif_neg (by omega)]
    go_wp2_with fail
    go_ret
    rw [E.out]
    exact ⟨rfl, HG.out, s, HS.out, rfl⟩
  · have hp : 0 < s.size := by omega
    have hem := string_ne hp
    by_cases he : (s[0]'hp) = c
    · have E : Hid (decide ((by_ s).head? = some c) = true) := by show _ = _; rw [headC, dif_pos hp]; exact decide_eq_true he
      have u : (((s[0]'hp).toNat : Int) == (c.toNat : Int)) = true := by rw [he]; simp
      clear he
      go_wp2_with fail
      go_ret
      rw [E.out]
      exact ⟨rfl, HG.out, s, HS.out, rfl⟩
    · have E : Hid (decide ((by_ s).head? = some c) = false) := by show _ = _; rw [headC, dif_pos hp]; exact decide_eq_false he
      have u : (((s[0]'hp).toNat : Int) == (c.toNat : Int)) = false := by
        have : ((s[0]'hp).toNat : Int) ≠ (c.toNat : Int) := fun e => he (UInt8.toNat_inj.1 (by omega))
        simpa using this
      clear he
      go_wp2_with fail
      go_ret
      rw [E.out]
      exact ⟨rfl, HG.out, s, HS.out, rfl⟩

theorem peek_pre (l : List UInt8) : (bareF l).take (Ex.peekW l).length = Ex.peekW l := by
  unfold Ex.peekW
  split
  · simp
  · unfold Ex.wordF
    exact List.prefix_iff_eq_take.1 (List.takeWhile_prefix _) |>.symm
set_option maxRecDepth 100000 in
set_option maxHeartbeats 2000000 in
theorem isX_any (t : Nat) (p : ByteArray) (lv : Value) (l0 : List UInt8) (bad : Bool) (n : Int) (w : World) (h : Px w t lv l0 bad n) (hll : l0.length ≤ 1000000) : Calls Tryz.prog 78 #[.pointer (some ⟨t, 0, none⟩), .string p] w (PBool w t lv (decide (Ex.peekW l0 = by_ p)) (if Ex.peekW l0 = by_ p then (bareF l0).drop p.size else bareF l0) bad n) := by
  have PK := Lib.hid (peekX_any t lv l0 bad n w h hll)
  have PP := peek_pre l0
  clear h
  generalize Ex.peekW l0 = pk at *
  generalize bareF l0 = l at *
  obtain ⟨r, hr⟩ : ∃ r, r = (if pk = by_ p then l.drop p.size else l) := ⟨_, rfl⟩
  obtain ⟨q, hq⟩ : ∃ q, q = decide (pk = by_ p) := ⟨_, rfl⟩
  rw [← hr, ← hq]
  have HR := Lib.hid hr
  have HQ := Lib.hid hq
  clear hr hq
  go_enter Tryz.func78, Tryz.ntmps78
  go_wp2_with fail
  refine PK.out.mono ?_
  rintro e1 w1 ⟨⟨v, rfl, rfl⟩, hg1, s, h0, rfl⟩
  have HG := Lib.hid hg1
  have HS := Lib.hid h0
  obtain ⟨c0, c1, c2, c3, f0, f1, f2, f3⟩ := px_cells h0
  clear h0 PK hg1
  by_cases he : by_ v = by_ p
  · have hb : (v.toList == p.toList) = true := by rw [tl_eq, tl_eq]; simpa using he
    have hle : p.size ≤ s.size := by
      have := congrArg List.length PP
      rw [List.length_take, he, tl_len, tl_len] at this
      omega
    have E : Hid (q = true) := HQ.out.trans (decide_eq_true he)
    have E2 : Hid (r = (by_ s).drop p.size) := HR.out.trans (if_pos he)
    clear he PP HQ HR
    go_wp2_with fail
    go_ret
    rw [E.out, E2.out]
    exact ⟨rfl, grown_trans HG.out (grown_setCell _ _ _ _), _, px_put0 HS.out, by rw [by_drop]⟩
  · have hb : (v.toList == p.toList) = false := by rw [tl_eq, tl_eq]; simpa using he
    have E : Hid (q = false) := HQ.out.trans (decide_eq_false he)
    have E2 : Hid (r = by_ s) := HR.out.trans (if_neg he)
    clear he PP HQ HR
    go_wp2_with fail
    go_ret
    rw [E.out, E2.out]
    exact ⟨rfl, HG.out, s, HS.out, rfl⟩
end Go.Proofs.YtmbfpichaaanpaaGreatDoor
