import Derived.Test.YthlabaijaadocaaDoorXB1
import Derived.Test.YthlabaijaadocaaDoorXB3
import Derived.BigQuiet
/-! The reference's texts: blanks, a word, a text between quotes. -/
namespace Go.Proofs.YthlabaijaadocaaDoor
open Go.RowKit Ut Rx Mt

def StrSame (w : World) (s : ByteArray) (e : Ending) (w' : World) : Prop := e = .returned (.string s) ∧ w = w'
set_option maxRecDepth 100000 in
set_option maxHeartbeats 2000000 in
theorem rBare_any (s : ByteArray) (w : World) : Calls Tryd.prog 43 #[.string s] w (StrSame w ⟨(bareF (by_ s)).toArray⟩) := by
  go_enter Tryd.func43, Tryd.ntmps43
  go_wp2_with fail
  go_loopg [0] s.size (fun gk v0 wr => ∃ x : ByteArray, v0 = .string x ∧ gk = x.size ∧ x.size ≤ s.size ∧ wr = w ∧ Hid (bareF (by_ x) = bareF (by_ s)))
  case atStart => exact ⟨s, rfl, rfl, Nat.le_refl _, rfl, rfl⟩
  case round =>
    obtain ⟨x, rfl, hgk, hxs, rfl, HR⟩ := hrel
    by_cases hz : x.size = 0
    · have hzi : ¬ (0 : Int) < x.size := by omega
      have FIN : Hid (x = ⟨(bareF (by_ s)).toArray⟩) := by
        show _ = _
        rw [← HR.out, by_empty hz]
        exact ByteArray.ext (Array.eq_empty_of_size_eq_zero hz)
      go_wp2_with fail
      go_ret
      exact ⟨by rw [← FIN.out]; rfl, rfl⟩
    · have hp : 0 < x.size := by omega
      have hzi : (0 : Int) < x.size := by omega
      have hzj : (1 : Int) ≤ x.size := by omega
      have HD := Lib.hid (show by_ x = (x[0]'hp) :: (by_ x).drop 1 from drop_two hp)
      have u := ub_eq (x[0]'hp) 32 (by omega)
      by_cases h32 : (x[0]'hp) = 32
      · rw [decide_eq_true (show (x[0]'hp) = UInt8.ofNat 32 from h32)] at u
        have R2 : Hid (bareF (by_ (x.extract 1 x.size)) = bareF (by_ s)) := by
          show _ = _
          rw [by_drop, ← HR.out, show bareF (by_ x) = bareF ((x[0]'hp) :: (by_ x).drop 1) from congrArg bareF HD.out, bare_yes h32]
        have hsz : (x.extract 1 x.size).size = x.size - 1 := by simp
        clear h32
        go_wp2_with fail
        go_roundg (x.size - 1)
        case measure => omega
        case rel => exact ⟨x.extract 1 x.size, rfl, hsz.symm, by omega, rfl, R2⟩
      · rw [decide_eq_false (show ¬ (x[0]'hp) = UInt8.ofNat 32 from h32)] at u
        have FIN : Hid (x = ⟨(bareF (by_ s)).toArray⟩) := by
          show _ = _
          rw [← HR.out, show bareF (by_ x) = bareF ((x[0]'hp) :: (by_ x).drop 1) from congrArg bareF HD.out, bare_no h32, ← HD.out]
        clear h32
        go_wp2_with fail
        go_ret
        exact ⟨by rw [← FIN.out]; rfl, rfl⟩

def WdPost (w : World) (l : List UInt8) (e : Ending) (w' : World) : Prop := e = .returned (.tuple #[.string ⟨(l.takeWhile letU).toArray⟩, .string ⟨(l.dropWhile letU).toArray⟩]) ∧ Below w.heap.size w w'
set_option maxRecDepth 100000 in
set_option maxHeartbeats 2000000 in
theorem rWord_any (s : ByteArray) (w : World) (hs : s.size ≤ 1000000) : Calls Tryd.prog 60 #[.string s] w (WdPost w (by_ s)) := by
  go_enter Tryd.func60, Tryd.ntmps60
  go_wp2_with fail
  go_loopg [4] s.size (fun gk vk wr => ∃ k : Nat, vk = .int .i64 k ∧ k + gk = s.size ∧ wr = w ∧ Hid ((by_ s).take k ++ ((by_ s).drop k).takeWhile letU = (by_ s).takeWhile letU) ∧ Hid (((by_ s).drop k).dropWhile letU = (by_ s).dropWhile letU))
  case atStart => exact ⟨0, rfl, by omega, rfl, by show _ = _; simp, by show _ = _; simp⟩
  case round =>
    obtain ⟨k, rfl, hk, rfl, HT, HD⟩ := hrel
    by_cases hlt : k < s.size
    · have HC := Lib.hid (drop_two hlt)
      have hle : (k : Int) ≤ s.size := by omega
      have hlti : (k : Int) < s.size := by omega
      have L := Lib.hid (rLetter_any ((s[k]'hlt).toNat : Int) wr)
      by_cases hL : letU (s[k]'hlt) = true
      · have T2 : Hid ((by_ s).take (k + 1) ++ ((by_ s).drop (k + 1)).takeWhile letU = (by_ s).takeWhile letU) := by
          have := HT.out
          rw [HC.out, List.takeWhile_cons, if_pos hL] at this
          have hl' : k < (by_ s).length := by rw [tl_len]; exact hlt
          show _ = _
          rw [← this, List.take_succ_eq_append_getElem hl', tl_get s k hlt hl']
          simp
        have D2 : Hid (((by_ s).drop (k + 1)).dropWhile letU = (by_ s).dropWhile letU) := by
          have := HD.out
          rw [HC.out, List.dropWhile_cons, if_pos hL] at this
          exact this
        have hB : letB ((s[k]'hlt).toNat : Int) = true := hL
        rw [hB] at L
        clear hL hB
        go_wp2_with fail
        refine L.out.mono ?_
        rintro e w1 ⟨rfl, rfl⟩
        clear L
        go_wp2_with fail
        go_roundg (s.size - (k + 1))
        case measure => omega
        case rel => exact ⟨k + 1, by go_num, by omega, rfl, T2, D2⟩
      · have T2 : Hid ((by_ s).take k = (by_ s).takeWhile letU) := by
          have := HT.out
          rw [HC.out, List.takeWhile_cons, if_neg hL, List.append_nil] at this
          exact this
        have D2 : Hid ((by_ s).drop k = (by_ s).dropWhile letU) := by
          have := HD.out
          rw [HC.out, List.dropWhile_cons, if_neg hL] at this
          rw [← HC.out] at this
          exact this
        have hB : letB ((s[k]'hlt).toNat : Int) = false := (by simpa using hL : letU (s[k]'hlt) = false)
        rw [hB] at L
        clear hL hB
        have V : Hid (∀ w', Below wr.heap.size wr w' → WdPost wr (by_ s) (.returned (.tuple #[.string (s.extract 0 k), .string (s.extract k s.size)])) w') := fun w' b => by
          refine ⟨?_, b⟩
          rw [← T2.out, ← D2.out, ← by_take, ← by_drop]
        go_wp2_with fail
        refine L.out.mono ?_
        rintro e w1 ⟨rfl, rfl⟩
        clear L
        go_wp2_with fail
        go_quiet (fail)
        go_wp2_with fail
        exact bodyPost_ret (v := .tuple #[.string (s.extract 0 k), .string (s.extract k s.size)]) (by simp [results, Tryd.results60, go_sem]) rfl (V.out _ (by repeat (first | exact Below.refl _ _ | refine below_drewN ?_ _)))
    · have hkl : k = s.size := by omega
      have hki : ¬ (k : Int) < s.size := by omega
      have hle : (k : Int) ≤ s.size := by omega
      have T2 : Hid ((by_ s).take k = (by_ s).takeWhile letU) := by
        have := HT.out
        rw [List.drop_of_length_le (by rw [tl_len]; omega)] at this
        show _ = _
        simpa using this
      have D2 : Hid ((by_ s).drop k = (by_ s).dropWhile letU) := by
        have := HD.out
        rw [List.drop_of_length_le (by rw [tl_len]; omega)] at this
        rw [List.drop_of_length_le (by rw [tl_len]; omega)]
        exact this
      have V : Hid (∀ w', Below wr.heap.size wr w' → WdPost wr (by_ s) (.returned (.tuple #[.string (s.extract 0 k), .string (s.extract k s.size)])) w') := fun w' b => by
        refine ⟨?_, b⟩
        rw [← T2.out, ← D2.out, ← by_take, ← by_drop]
      clear hkl
      go_wp2_with fail
      go_quiet (fail)
      go_wp2_with fail
      exact bodyPost_ret (v := .tuple #[.string (s.extract 0 k), .string (s.extract k s.size)]) (by simp [results, Tryd.results60, go_sem]) rfl (V.out _ (by repeat (first | exact Below.refl _ _ | refine below_drewN ?_ _)))

theorem by_one {s : ByteArray} {k : Nat} (hk : k < s.size) : by_ (s.extract k (k + 1)) = [s[k]'hk] := by
  have h : by_ (s.extract k (k + 1)) = ((by_ s).drop k).take 1 := by
    show (s.extract k (k + 1)).data.toList = _
    simp [List.take_drop]
  rw [h, drop_two hk]
  rfl
set_option maxRecDepth 100000 in
set_option maxHeartbeats 4000000 in
theorem rQuote_any (s : ByteArray) (w : World) (hs : s.size ≤ 1000000) : Calls Tryd.prog 65 #[.string s] w (StrBelow w ⟨(quoteF (by_ s)).toArray⟩) := by
  go_enter Tryd.func65, Tryd.ntmps65
  go_wp2_with fail
  go_loopg [3, 7] s.size (fun gk vo vk wr => ∃ (k : Nat) (out : ByteArray), vo = .string out ∧ vk = .int .i64 k ∧ k + gk = s.size ∧ out.size ≤ 1 + 2 * k ∧ wr = w ∧ Hid (by_ out ++ quoGo ((by_ s).drop k) = quoteF (by_ s)))
  case atStart => exact ⟨0, _, rfl, rfl, by omega, by decide, rfl, rfl⟩
  case round =>
    obtain ⟨k, out, rfl, rfl, hk, hos, rfl, HR⟩ := hrel
    by_cases hlt : k < s.size
    · have hlti : (k : Int) < s.size := by omega
      have hltj : (k : Int) + 1 ≤ s.size := by omega
      have hltk : (k : Int) ≤ (k : Int) + 1 := by omega
      have HD : Hid ((by_ s).drop k = (s[k]'hlt) :: (by_ s).drop (k + 1)) := drop_two hlt
      have B1 := Lib.hid (by_one hlt)
      have Z1 : (s.extract k (k + 1)).size = 1 := by simp; omega
      have u34 := ub_eq (s[k]'hlt) 34 (by omega)
      have u92 := ub_eq (s[k]'hlt) 92 (by omega)
      have u10 := ub_eq (s[k]'hlt) 10 (by omega)
      have zq : (⟨#[92]⟩ ++ s.extract k (k + 1) : ByteArray).size = 2 := by rw [ByteArray.size_append, Z1]; rfl
      have zo : (out ++ (⟨#[92]⟩ ++ s.extract k (k + 1)) : ByteArray).size = out.size + 2 := by rw [ByteArray.size_append, zq]
      have zp : (out ++ s.extract k (k + 1) : ByteArray).size = out.size + 1 := by rw [ByteArray.size_append, Z1]
      have zn : (out ++ ⟨#[92, 110]⟩ : ByteArray).size = out.size + 2 := by rw [ByteArray.size_append]; rfl
      by_cases hq : (s[k]'hlt) = 34 ∨ (s[k]'hlt) = 92
      · have R2 : Hid (by_ (out ++ (⟨#[92]⟩ ++ s.extract k (k + 1))) ++ quoGo ((by_ s).drop (k + 1)) = quoteF (by_ s)) := by
          have := HR.out
          rw [HD.out, quoGo, if_pos (by rcases hq with e | e <;> rw [e] <;> rfl)] at this
          show _ = _
          rw [← this, by_add, by_add, B1.out]; simp; rfl
        rcases hq with h34 | h92
        · rw [decide_eq_true (show (s[k]'hlt) = UInt8.ofNat 34 from h34)] at u34
          clear h34
          go_wp2_with fail
          go_roundg (s.size - (k + 1))
          case measure => omega
          case rel => exact ⟨k + 1, _, rfl, by go_num, by omega, by rw [zo]; omega, rfl, R2⟩
        · rw [decide_eq_true (show (s[k]'hlt) = UInt8.ofNat 92 from h92)] at u92
          have h34 : ¬ (s[k]'hlt) = UInt8.ofNat 34 := by rw [h92]; decide
          rw [decide_eq_false h34] at u34
          clear h34 h92
          go_wp2_with fail
          go_roundg (s.size - (k + 1))
          case measure => omega
          case rel => exact ⟨k + 1, _, rfl, by go_num, by omega, by rw [zo]; omega, rfl, R2⟩
      · have h34 : ¬ (s[k]'hlt) = 34 := fun e => hq (Or.inl e)
        have h92 : ¬ (s[k]'hlt) = 92 := fun e => hq (Or.inr e)
        rw [decide_eq_false (show ¬ (s[k]'hlt) = UInt8.ofNat 34 from h34)] at u34
        rw [decide_eq_false (show ¬ (s[k]'hlt) = UInt8.ofNat 92 from h92)] at u92
        have HN : Hid (¬ (((s[k]'hlt) == 34 || (s[k]'hlt) == 92) = true)) := by show ¬ _; simp [h34, h92]
        clear hq h34 h92
        by_cases h10 : (s[k]'hlt) = 10
        · rw [decide_eq_true (show (s[k]'hlt) = UInt8.ofNat 10 from h10)] at u10
          have R2 : Hid (by_ (out ++ ⟨#[92, 110]⟩) ++ quoGo ((by_ s).drop (k + 1)) = quoteF (by_ s)) := by
            have := HR.out
            rw [HD.out, quoGo, if_neg HN.out, if_pos (by rw [h10]; rfl)] at this
            show _ = _
            rw [← this, by_add]; simp; rfl
          clear h10
          go_wp2_with fail
          go_roundg (s.size - (k + 1))
          case measure => omega
          case rel => exact ⟨k + 1, _, rfl, by go_num, by omega, by rw [zn]; omega, rfl, R2⟩
        · rw [decide_eq_false (show ¬ (s[k]'hlt) = UInt8.ofNat 10 from h10)] at u10
          have R2 : Hid (by_ (out ++ s.extract k (k + 1)) ++ quoGo ((by_ s).drop (k + 1)) = quoteF (by_ s)) := by
            have := HR.out
            rw [HD.out, quoGo, if_neg HN.out, if_neg (by simpa using h10)] at this
            show _ = _
            rw [← this, by_add, B1.out]; simp
          clear h10
          go_wp2_with fail
          go_roundg (s.size - (k + 1))
          case measure => omega
          case rel => exact ⟨k + 1, _, rfl, by go_num, by omega, by rw [zp]; omega, rfl, R2⟩
    · have hkl : k = s.size := by omega
      subst hkl
      have E : Hid (by_ (out ++ ⟨#[34]⟩) = quoteF (by_ s)) := by
        have := HR.out
        rw [List.drop_of_length_le (by rw [tl_len]; exact Nat.le_refl _)] at this
        show _ = _
        rw [← this, by_add]; rfl
      go_wp2_with fail
      go_ret
      rw [← E.out]
      exact ⟨rfl, Below.refl _ _⟩
end Go.Proofs.YthlabaijaadocaaDoor

/-! The reference's texts: what stands between quotes. -/
namespace Go.Proofs.YthlabaijaadocaaDoor
open Go.RowKit Ut Rx Mt

set_option maxRecDepth 100000 in
set_option maxHeartbeats 4000000 in
theorem rUnquote_any (s : ByteArray) (w : World) (hs : s.size ≤ 1000000) : Calls Tryd.prog 79 #[.string s] w (UnqPost w s) := by
  obtain ⟨i0, hi, hz0, hz1, hz2⟩ := info_parts infoU8
  have I0 : Hid (i0.zero = some (.int .u8 0) ∧ i0.size = 1 ∧ i0.bytes = 1 ∧ Tryd.prog.info? 5 = some i0) := ⟨hz0, hz1, hz2, hi⟩
  have O0 : Hid (By (w.alloc (.cells #[] 5)) w.heap.size (.slice (some ⟨w.heap.size, 0, none⟩) 0 0) []) := World.ownsRow_lit w #[] 0 (Nat.le_refl _) (by unfold maxLen; omega) rfl
  have BB : Hid (Below w.heap.size w w) := Below.refl _ _
  have B0 : Hid (Below w.heap.size w (w.alloc (.cells #[] 5))) := (Below.refl _ _).alloc (Nat.le_refl _) _
  clear hz0 hz1 hz2 hi
  by_cases h0 : s.size = 0
  · have E : Hid (unquoteF (by_ s) = .error 6) := by show _ = _; rw [by_empty h0]; rfl
    obtain rfl : s = ⟨#[]⟩ := ByteArray.ext (Array.eq_empty_of_size_eq_zero h0)
    go_enter Tryd.func79, Tryd.ntmps79
    go_wp2_with fail
    exact bodyPost_ret (v := .tuple #[.string ⟨#[]⟩, .int .i64 0, .int .i64 6]) (by simp [results, Tryd.results79, go_sem]) rfl (UnqPost.err E.out BB.out)
  · have hp : 0 < s.size := by omega
    have hne := string_ne hp
    have HU := Lib.hid (show by_ s = (s[0]'hp) :: (by_ s).drop 1 from drop_two hp)
    have u0 : (((s[0]'hp).toNat : Int) != 34) = !decide ((s[0]'hp) = UInt8.ofNat 34) := by rw [← ub_eq (s[0]'hp) 34 (by omega)]; rfl
    by_cases hq : (s[0]'hp) = 34
    · have R0 : Hid (unqF ((by_ s).drop 1) = unquoteF (by_ s)) := by
        show _ = _
        rw [show unquoteF (by_ s) = unquoteF ((s[0]'hp) :: (by_ s).drop 1) from congrArg unquoteF HU.out, unquoteF, if_pos (by rw [hq]; rfl)]
      rw [decide_eq_true (show (s[0]'hp) = UInt8.ofNat 34 from hq)] at u0
      clear hq
      go_enter Tryd.func79, Tryd.ntmps79
      go_wp2_with fail
      go_loopg [5, 6] (s.size - 1) (fun gk vo vk wr => ∃ (k : Nat) (acc : List UInt8), vk = .int .i64 k ∧ 1 ≤ k ∧ k + gk = s.size ∧ acc.length ≤ k ∧ Hid (preF acc (unqF ((by_ s).drop k)) = unquoteF (by_ s)) ∧ Hid (Below w.heap.size w wr) ∧ Hid (By wr w.heap.size vo acc))
      case atStart => exact ⟨1, [], rfl, by omega, by omega, by simp, by show _ = _; rw [preF_nil]; exact R0.out, B0, O0⟩
      case round =>
        obtain ⟨k, acc, rfl, hk1, hk, hal, HR, HB, HO⟩ := hrel
        clear B0 O0 HU R0 hne u0
        by_cases hlt : k < s.size
        · have HD := Lib.hid (drop_two hlt)
          have OW := Lib.hid (fun (o : Obj) => World.ownsRow.alloc HO.out o)
          have u34 := ub_eq (s[k]'hlt) 34 (by omega)
          have u92 := ub_eq (s[k]'hlt) 92 (by omega)
          have u10 := ub_eq (s[k]'hlt) 10 (by omega)
          by_cases h34 : (s[k]'hlt) = 34
          · rw [decide_eq_true (show (s[k]'hlt) = UInt8.ofNat 34 from h34)] at u34
            have R2 : Hid (unquoteF (by_ s) = .ok (acc, (by_ s).drop (k + 1))) := by
              have := HR.out
              rw [HD.out, unq_34 (by rw [h34]; rfl)] at this
              show _ = _
              rw [← this]; simp [preF]
            have hcv := HO.out.back
            clear h34
            go_wp2_with fail
            exact bodyPost_ret (v := .tuple #[.string ⟨acc.toArray⟩, .int .i64 ((k : Int) + 1), .int .i64 0]) (by simp [results, Tryd.results79, go_sem]) rfl (⟨HB.out, by rw [R2.out]; exact ⟨k + 1, by omega, rfl, by simp⟩⟩)
          · rw [decide_eq_false (show ¬ (s[k]'hlt) = UInt8.ofNat 34 from h34)] at u34
            have H34 : Hid (¬ ((s[k]'hlt) == 34) = true) := by show ¬ _; simpa using h34
            by_cases h10 : (s[k]'hlt) = 10
            · rw [decide_eq_true (show (s[k]'hlt) = UInt8.ofNat 10 from h10)] at u10
              have E : Hid (unquoteF (by_ s) = .error 8) := by
                have := HR.out
                rw [HD.out, unq_10 H34.out (by rw [h10]; rfl)] at this
                exact this.symm
              clear h34 h10
              go_wp2_with fail
              exact bodyPost_ret (v := .tuple #[.string ⟨#[]⟩, .int .i64 0, .int .i64 8]) (by simp [results, Tryd.results79, go_sem]) rfl (UnqPost.err E.out HB.out)
            · rw [decide_eq_false (show ¬ (s[k]'hlt) = UInt8.ofNat 10 from h10)] at u10
              have H10 : Hid (¬ ((s[k]'hlt) == 10) = true) := by show ¬ _; simpa using h10
              by_cases h92 : (s[k]'hlt) = 92
              · rw [decide_eq_true (show (s[k]'hlt) = UInt8.ofNat 92 from h92)] at u92
                have H92 : Hid (((s[k]'hlt) == 92) = true) := by show _ = _; rw [h92]; rfl
                clear h34 h10 h92
                by_cases hl2 : k + 1 < s.size
                · have HD2 := Lib.hid (drop_two hl2)
                  have hl2i : ((k : Int) + 1 == (s.size : Int)) = false := by simp; omega
                  have v34 := ub_eq (s[k + 1]'hl2) 34 (by omega)
                  have v92 := ub_eq (s[k + 1]'hl2) 92 (by omega)
                  have v110 := ub_eq (s[k + 1]'hl2) 110 (by omega)
                  have x34 : (((s[k + 1]'hl2).toNat : Int) != 34) = !decide ((s[k + 1]'hl2) = UInt8.ofNat 34) := by rw [← ub_eq (s[k + 1]'hl2) 34 (by omega)]; rfl
                  have x92 : (((s[k + 1]'hl2).toNat : Int) != 92) = !decide ((s[k + 1]'hl2) = UInt8.ofNat 92) := by rw [← ub_eq (s[k + 1]'hl2) 92 (by omega)]; rfl
                  have x110 : (((s[k + 1]'hl2).toNat : Int) != 110) = !decide ((s[k + 1]'hl2) = UInt8.ofNat 110) := by rw [← ub_eq (s[k + 1]'hl2) 110 (by omega)]; rfl
                  by_cases k34 : (s[k + 1]'hl2) = 34
                  · rw [decide_eq_true (show (s[k + 1]'hl2) = UInt8.ofNat 34 from k34)] at v34 x34
                    have k110 : ¬ (s[k + 1]'hl2) = UInt8.ofNat 110 := by rw [k34]; decide
                    rw [decide_eq_false k110] at v110 x110
                    clear k110
                    have K : Hid (((s[k + 1]'hl2) == 34 || (s[k + 1]'hl2) == 92) = true) := by show _ = _; rw [k34]; rfl
                    clear k34
                    have R2 : Hid (preF (acc ++ [s[k + 1]'hl2]) (unqF ((by_ s).drop (k + 1 + 1))) = unquoteF (by_ s)) := by
                      have := HR.out
                      rw [HD.out, HD2.out, unq_esc H34.out H10.out H92.out K.out] at this
                      rw [preF_one] at this
                      exact this
                    go_wp2_with (at_builtin; refine wpList_append_own_at _ rfl (.tmp 55) (.tmp 57) 126 rfl w.heap.size 5 i0 (.int .u8 0) 1 1 Tryd.underlying126 I0.out.2.2.2 I0.out.1 I0.out.2.1 I0.out.2.2.1 rfl (by decide) _ acc.length _ rfl (OW.out _) _ 1 1 (byC [s[k + 1]'hl2]) rfl rfl ?c1 (byC_one _) (by unfold maxLen; omega) (by omega) ?c3 ?_)
                    case c1 => exact news_u8 _ _ #[.int .u8 ((s[k + 1]'hl2).toNat : Int)] _ rfl rfl
                    case c3 => have := HB.out.size; simp; omega
                    intro v' w5 own5 grow5 _ _
                    obtain ⟨o5, b5⟩ := HO.out.pushed (nw := [s[k + 1]'hl2]) HB.out own5 grow5
                    have O5 := Lib.hid o5
                    have B5 := Lib.hid b5
                    clear o5 b5 own5 grow5
                    go_wp2_with fail
                    go_roundg (s.size - (k + 1 + 1))
                    case measure => omega
                    case rel => exact ⟨k + 1 + 1, _, by simp; try omega, by omega, by omega, by simp; omega, R2, B5, O5⟩
                  · rw [decide_eq_false (show ¬ (s[k + 1]'hl2) = UInt8.ofNat 34 from k34)] at v34 x34
                    by_cases k92 : (s[k + 1]'hl2) = 92
                    · rw [decide_eq_true (show (s[k + 1]'hl2) = UInt8.ofNat 92 from k92)] at v92 x92
                      have k110 : ¬ (s[k + 1]'hl2) = UInt8.ofNat 110 := by rw [k92]; decide
                      rw [decide_eq_false k110] at v110 x110
                      clear k110
                      have K : Hid (((s[k + 1]'hl2) == 34 || (s[k + 1]'hl2) == 92) = true) := by show _ = _; rw [k92]; rfl
                      clear k34 k92
                      have R2 : Hid (preF (acc ++ [s[k + 1]'hl2]) (unqF ((by_ s).drop (k + 1 + 1))) = unquoteF (by_ s)) := by
                        have := HR.out
                        rw [HD.out, HD2.out, unq_esc H34.out H10.out H92.out K.out] at this
                        rw [preF_one] at this
                        exact this
                      go_wp2_with (at_builtin; refine wpList_append_own_at _ rfl (.tmp 55) (.tmp 57) 126 rfl w.heap.size 5 i0 (.int .u8 0) 1 1 Tryd.underlying126 I0.out.2.2.2 I0.out.1 I0.out.2.1 I0.out.2.2.1 rfl (by decide) _ acc.length _ rfl (OW.out _) _ 1 1 (byC [s[k + 1]'hl2]) rfl rfl ?c1 (byC_one _) (by unfold maxLen; omega) (by omega) ?c3 ?_)
                      case c1 => exact news_u8 _ _ #[.int .u8 ((s[k + 1]'hl2).toNat : Int)] _ rfl rfl
                      case c3 => have := HB.out.size; simp; omega
                      intro v' w5 own5 grow5 _ _
                      obtain ⟨o5, b5⟩ := HO.out.pushed (nw := [s[k + 1]'hl2]) HB.out own5 grow5
                      have O5 := Lib.hid o5
                      have B5 := Lib.hid b5
                      clear o5 b5 own5 grow5
                      go_wp2_with fail
                      go_roundg (s.size - (k + 1 + 1))
                      case measure => omega
                      case rel => exact ⟨k + 1 + 1, _, by simp; try omega, by omega, by omega, by simp; omega, R2, B5, O5⟩
                    · rw [decide_eq_false (show ¬ (s[k + 1]'hl2) = UInt8.ofNat 92 from k92)] at v92 x92
                      have K : Hid (¬ ((s[k + 1]'hl2) == 34 || (s[k + 1]'hl2) == 92) = true) := by show ¬ _; simp [k34, k92]
                      by_cases k110 : (s[k + 1]'hl2) = 110
                      · rw [decide_eq_true (show (s[k + 1]'hl2) = UInt8.ofNat 110 from k110)] at v110 x110
                        have K2 : Hid (((s[k + 1]'hl2) == 110) = true) := by show _ = _; rw [k110]; rfl
                        clear k34 k92 k110
                        have R2 : Hid (preF (acc ++ [10]) (unqF ((by_ s).drop (k + 1 + 1))) = unquoteF (by_ s)) := by
                          have := HR.out
                          rw [HD.out, HD2.out, unq_n H34.out H10.out H92.out K.out K2.out] at this
                          rw [preF_one] at this
                          exact this
                        go_wp2_with (at_builtin; refine wpList_append_own_at _ rfl (.tmp 55) (.tmp 57) 126 rfl w.heap.size 5 i0 (.int .u8 0) 1 1 Tryd.underlying126 I0.out.2.2.2 I0.out.1 I0.out.2.1 I0.out.2.2.1 rfl (by decide) _ acc.length _ rfl (OW.out _) _ 1 1 (byC [10]) rfl rfl ?c1 (byC_one _) (by unfold maxLen; omega) (by omega) ?c3 ?_)
                        case c1 => exact news_u8 _ _ #[.int .u8 10] _ rfl rfl
                        case c3 => have := HB.out.size; simp; omega
                        intro v' w5 own5 grow5 _ _
                        obtain ⟨o5, b5⟩ := HO.out.pushed (nw := [10]) HB.out own5 grow5
                        have O5 := Lib.hid o5
                        have B5 := Lib.hid b5
                        clear o5 b5 own5 grow5
                        go_wp2_with fail
                        go_roundg (s.size - (k + 1 + 1))
                        case measure => omega
                        case rel => exact ⟨k + 1 + 1, _, by simp; try omega, by omega, by omega, by simp; omega, R2, B5, O5⟩
                      · rw [decide_eq_false (show ¬ (s[k + 1]'hl2) = UInt8.ofNat 110 from k110)] at v110 x110
                        have K2 : Hid (¬ ((s[k + 1]'hl2) == 110) = true) := by show ¬ _; simpa using k110
                        clear k34 k92 k110
                        have E : Hid (unquoteF (by_ s) = .error 8) := by
                          have := HR.out
                          rw [HD.out, HD2.out, unq_bad H34.out H10.out H92.out K.out K2.out] at this
                          exact this.symm
                        go_wp2_with fail
                        exact bodyPost_ret (v := .tuple #[.string ⟨#[]⟩, .int .i64 0, .int .i64 8]) (by simp [results, Tryd.results79, go_sem]) rfl (UnqPost.err E.out HB.out)
                · have E : Hid (unquoteF (by_ s) = .error 6) := by
                    have := HR.out
                    rw [HD.out, List.drop_of_length_le (by rw [tl_len]; omega), unq_end H34.out H10.out H92.out] at this
                    exact this.symm
                  have hl2i : ((k : Int) + 1 == (s.size : Int)) = true := by simp; omega
                  go_wp2_with fail
                  exact bodyPost_ret (v := .tuple #[.string ⟨#[]⟩, .int .i64 0, .int .i64 6]) (by simp [results, Tryd.results79, go_sem]) rfl (UnqPost.err E.out HB.out)
              · rw [decide_eq_false (show ¬ (s[k]'hlt) = UInt8.ofNat 92 from h92)] at u92
                have H92 : Hid (¬ ((s[k]'hlt) == 92) = true) := by show ¬ _; simpa using h92
                clear h34 h10 h92
                have R2 : Hid (preF (acc ++ [s[k]'hlt]) (unqF ((by_ s).drop (k + 1))) = unquoteF (by_ s)) := by
                  have := HR.out
                  rw [HD.out, unq_one H34.out H10.out H92.out] at this
                  rw [preF_one] at this
                  exact this
                go_wp2_with (at_builtin; refine wpList_append_own_at _ rfl (.tmp 55) (.tmp 57) 126 rfl w.heap.size 5 i0 (.int .u8 0) 1 1 Tryd.underlying126 I0.out.2.2.2 I0.out.1 I0.out.2.1 I0.out.2.2.1 rfl (by decide) _ acc.length _ rfl (OW.out _) _ 1 1 (byC [s[k]'hlt]) rfl rfl ?c1 (byC_one _) (by unfold maxLen; omega) (by omega) ?c3 ?_)
                case c1 => exact news_u8 _ _ #[.int .u8 ((s[k]'hlt).toNat : Int)] _ rfl rfl
                case c3 => have := HB.out.size; simp; omega
                intro v' w5 own5 grow5 _ _
                obtain ⟨o5, b5⟩ := HO.out.pushed (nw := [s[k]'hlt]) HB.out own5 grow5
                have O5 := Lib.hid o5
                have B5 := Lib.hid b5
                clear o5 b5 own5 grow5
                go_wp2_with fail
                go_roundg (s.size - (k + 1))
                case measure => omega
                case rel => exact ⟨k + 1, _, by simp; try omega, by omega, by omega, by simp; omega, R2, B5, O5⟩
        · have hkl : k = s.size := by omega
          subst hkl
          have E : Hid (unquoteF (by_ s) = .error 6) := by
            have := HR.out
            rw [List.drop_of_length_le (by rw [tl_len]; exact Nat.le_refl _)] at this
            exact this.symm
          go_wp2_with fail
          exact bodyPost_ret (v := .tuple #[.string ⟨#[]⟩, .int .i64 0, .int .i64 6]) (by simp [results, Tryd.results79, go_sem]) rfl (UnqPost.err E.out HB.out)
    · have E : Hid (unquoteF (by_ s) = .error 8) := by
        show _ = _
        rw [HU.out, unquoteF, if_neg (by simpa using hq)]
      rw [decide_eq_false (show ¬ (s[0]'hp) = UInt8.ofNat 34 from hq)] at u0
      clear hq
      go_enter Tryd.func79, Tryd.ntmps79
      go_wp2_with fail
      exact bodyPost_ret (v := .tuple #[.string ⟨#[]⟩, .int .i64 0, .int .i64 8]) (by simp [results, Tryd.results79, go_sem]) rfl (UnqPost.err E.out BB.out)
end Go.Proofs.YthlabaijaadocaaDoor
