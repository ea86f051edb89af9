import Derived.Test.YtmbfpichaaanpaaGreatDoorX15
import Derived.WalkMore
/-! The text between quotes that a text begins with. -/
namespace Go.Proofs.YtmbfpichaaanpaaGreatDoor
open Go.RowKit Ut Rx Mt

def preF (acc : List UInt8) (r : Except Int (List UInt8 × List UInt8)) : Except Int (List UInt8 × List UInt8) := match r with | .ok (x, l) => .ok (acc ++ x, l) | .error e => .error e
abbrev consF (b : UInt8) (r : Except Int (List UInt8 × List UInt8)) : Except Int (List UInt8 × List UInt8) := match r with | .ok (s, l) => .ok (b :: s, l) | .error e => .error e
theorem unq_34 {c : UInt8} {t : List UInt8} (h : (c == 34) = true) : unqF (c :: t) = .ok ([], t) := by rw [unqF.eq_def]; simp only [h]; rfl
theorem unq_10 {c : UInt8} {t : List UInt8} (h : ¬ (c == 34) = true) (h1 : (c == 10) = true) : unqF (c :: t) = .error 8 := by rw [unqF.eq_def]; simp only [if_neg h, h1]; rfl
theorem unq_one {c : UInt8} {t : List UInt8} (h : ¬ (c == 34) = true) (h1 : ¬ (c == 10) = true) (h2 : ¬ (c == 92) = true) : unqF (c :: t) = consF c (unqF t) := by rw [unqF.eq_def]; simp only [if_neg h, if_neg h1, if_neg h2]; rfl
theorem unq_end {c : UInt8} (h : ¬ (c == 34) = true) (h1 : ¬ (c == 10) = true) (h2 : (c == 92) = true) : unqF [c] = .error 6 := by rw [unqF.eq_def]; simp only [if_neg h, if_neg h1, h2]; rfl
theorem unq_esc {c d : UInt8} {t : List UInt8} (h : ¬ (c == 34) = true) (h1 : ¬ (c == 10) = true) (h2 : (c == 92) = true) (h3 : (d == 34 || d == 92) = true) : unqF (c :: d :: t) = consF d (unqF t) := by rw [unqF.eq_def]; simp only [if_neg h, if_neg h1, h2, h3]; rfl
theorem unq_n {c d : UInt8} {t : List UInt8} (h : ¬ (c == 34) = true) (h1 : ¬ (c == 10) = true) (h2 : (c == 92) = true) (h3 : ¬ (d == 34 || d == 92) = true) (h4 : (d == 110) = true) : unqF (c :: d :: t) = consF 10 (unqF t) := by rw [unqF.eq_def]; simp only [if_neg h, if_neg h1, h2, if_neg h3, h4]; rfl
theorem unq_bad {c d : UInt8} {t : List UInt8} (h : ¬ (c == 34) = true) (h1 : ¬ (c == 10) = true) (h2 : (c == 92) = true) (h3 : ¬ (d == 34 || d == 92) = true) (h4 : ¬ (d == 110) = true) : unqF (c :: d :: t) = .error 8 := by rw [unqF.eq_def]; simp only [if_neg h, if_neg h1, h2, if_neg h3, if_neg h4]; rfl
theorem preF_nil (r : Except Int (List UInt8 × List UInt8)) : preF [] r = r := by cases r <;> rfl
theorem preF_one (acc : List UInt8) (b : UInt8) (r : Except Int (List UInt8 × List UInt8)) : preF acc (consF b r) = preF (acc ++ [b]) r := by
  cases r with
  | error e => rfl
  | ok p => obtain ⟨x, l⟩ := p; simp [preF]
def UnqPost (w : World) (s : ByteArray) (e : Ending) (w' : World) : Prop :=
  Below w.heap.size w w' ∧ match unquoteF (by_ s) with
    | .ok (x, r) => ∃ n : Nat, n ≤ s.size ∧ r = (by_ s).drop n ∧ e = .returned (.tuple #[.string ⟨x.toArray⟩, .int .i64 n, .int .i64 0])
    | .error er => e = .returned (.tuple #[.string ⟨#[]⟩, .int .i64 0, .int .i64 er])
theorem UnqPost.err {w w' : World} {s : ByteArray} {er : Int} (h : unquoteF (by_ s) = .error er) (b : Below w.heap.size w w') : UnqPost w s (.returned (.tuple #[.string ⟨#[]⟩, .int .i64 0, .int .i64 er])) w' := by
  refine ⟨b, ?_⟩
  rw [h]
theorem by_empty {s : ByteArray} (h : s.size = 0) : by_ s = [] := List.eq_nil_of_length_eq_zero (by rw [tl_len]; exact h)
theorem drop_two {s : ByteArray} {k : Nat} (h : k < s.size) : (by_ s).drop k = (s[k]'h) :: (by_ s).drop (k + 1) := by
  have h' : k < (by_ s).length := by rw [tl_len]; exact h
  rw [List.drop_eq_getElem_cons h', tl_get s k h h']
theorem string_ne {s : ByteArray} (h : 0 < s.size) : s.toList.isEmpty = false := by
  rw [tl_eq, List.isEmpty_eq_false_iff]
  intro e
  have := congrArg List.length e
  rw [tl_len] at this
  exact absurd this (by show ¬ s.size = 0; omega)

set_option maxRecDepth 100000 in
set_option maxHeartbeats 4000000 in
theorem unquote_any (s : ByteArray) (w : World) (hs : s.size ≤ 1000000) : Calls Tryz.prog 116 #[.string s] w (UnqPost w s) := by
  obtain ⟨i0, hi, hz0, hz1, hz2⟩ := info_parts infoU8
  have I0 : Hid (i0.zero = some (.int .u8 0) ∧ i0.size = 1 ∧ i0.bytes = 1 ∧ Tryz.prog.info? 5 = some i0) := ⟨hz0, hz1, hz2, hi⟩
  have O0 : Hid (By w w.heap.size (.slice none 0 0) []) := World.ownsRow_nil w _ _ _
  have B0 : Hid (Below w.heap.size w w) := Below.refl _ _
  clear hz0 hz1 hz2 hi
  by_cases h0 : s.size = 0
  · have E : Hid (unquoteF (by_ s) = .error 6) := by show _ = _; rw [by_empty h0]; rfl
    obtain rfl : s = ⟨#[]⟩ := ByteArray.ext (Array.eq_empty_of_size_eq_zero h0)
    go_enter Tryz.func116, Tryz.ntmps116
    go_wp2_with fail
    exact bodyPost_ret (v := .tuple #[.string ⟨#[]⟩, .int .i64 0, .int .i64 6]) (by simp [results, Tryz.results116, go_sem]) rfl (UnqPost.err E.out B0.out)
  · have hp : 0 < s.size := by omega
    have hne := string_ne hp
    have HU := Lib.hid (show by_ s = (s[0]'hp) :: (by_ s).drop 1 from drop_two hp)
    have u0 : (((s[0]'hp).toNat : Int) != 34) = !decide ((s[0]'hp) = UInt8.ofNat 34) := by rw [← ub_eq (s[0]'hp) 34 (by omega)]; rfl
    by_cases hq : (s[0]'hp) = 34
    · have R0 : Hid (unqF ((by_ s).drop 1) = unquoteF (by_ s)) := by
        show _ = _
        rw [show unquoteF (by_ s) = unquoteF ((s[0]'hp) :: (by_ s).drop 1) from congrArg unquoteF HU.out, unquoteF, if_pos (by rw [hq]; rfl)]
      rw [decide_eq_true (show (s[0]'hp) = UInt8.ofNat 34 from hq)] at u0
      clear hq
      go_enter Tryz.func116, Tryz.ntmps116
      go_wp2_with fail
      go_loopg [5, 6] (s.size - 1) (fun gk vo vk wr => ∃ (k : Nat) (acc : List UInt8), vk = .int .i64 k ∧ 1 ≤ k ∧ k + gk = s.size ∧ acc.length ≤ k ∧ Hid (preF acc (unqF ((by_ s).drop k)) = unquoteF (by_ s)) ∧ Hid (Below w.heap.size w wr) ∧ Hid (By wr w.heap.size vo acc))
      case atStart => exact ⟨1, [], rfl, by omega, by omega, by simp, by show _ = _; rw [preF_nil]; exact R0.out, B0, O0⟩
      case round =>
        obtain ⟨k, acc, rfl, hk1, hk, hal, HR, HB, HO⟩ := hrel
        clear B0 O0 HU R0 hne u0
        by_cases hlt : k < s.size
        · have HD := Lib.hid (drop_two hlt)
          have OW := Lib.hid (fun (o : Obj) => World.ownsRow.alloc HO.out o)
          have u34 := ub_eq (s[k]'hlt) 34 (by omega)
          have u92 := ub_eq (s[k]'hlt) 92 (by omega)
          have u10 := ub_eq (s[k]'hlt) 10 (by omega)
          by_cases h34 : (s[k]'hlt) = 34
          · rw [decide_eq_true (show (s[k]'hlt) = UInt8.ofNat 34 from h34)] at u34
            have R2 : Hid (unquoteF (by_ s) = .ok (acc, (by_ s).drop (k + 1))) := by
              have := HR.out
              rw [HD.out, unq_34 (by rw [h34]; rfl)] at this
              show _ = _
              rw [← this]; simp [preF]
            have hcv := HO.out.back
            clear h34
            go_wp2_with fail
            exact bodyPost_ret (v := .tuple #[.string ⟨acc.toArray⟩, .int .i64 ((k : Int) + 1), .int .i64 0]) (by simp [results, Tryz.results116, go_sem]) rfl (⟨HB.out, by rw [R2.out]; exact ⟨k + 1, by omega, rfl, by simp⟩⟩)
          · rw [decide_eq_false (show ¬ (s[k]'hlt) = UInt8.ofNat 34 from h34)] at u34
            have H34 : Hid (¬ ((s[k]'hlt) == 34) = true) := by show ¬ _; simpa using h34
            by_cases h10 : (s[k]'hlt) = 10
            · rw [decide_eq_true (show (s[k]'hlt) = UInt8.ofNat 10 from h10)] at u10
              have E : Hid (unquoteF (by_ s) = .error 8) := by
                have := HR.out
                rw [HD.out, unq_10 H34.out (by rw [h10]; rfl)] at this
                exact this.symm
              clear h34 h10
              go_wp2_with fail
              exact bodyPost_ret (v := .tuple #[.string ⟨#[]⟩, .int .i64 0, .int .i64 8]) (by simp [results, Tryz.results116, go_sem]) rfl (UnqPost.err E.out HB.out)
            · rw [decide_eq_false (show ¬ (s[k]'hlt) = UInt8.ofNat 10 from h10)] at u10
              have H10 : Hid (¬ ((s[k]'hlt) == 10) = true) := by show ¬ _; simpa using h10
              by_cases h92 : (s[k]'hlt) = 92
              · rw [decide_eq_true (show (s[k]'hlt) = UInt8.ofNat 92 from h92)] at u92
                have H92 : Hid (((s[k]'hlt) == 92) = true) := by show _ = _; rw [h92]; rfl
                clear h34 h10 h92
                by_cases hl2 : k + 1 < s.size
                · have HD2 := Lib.hid (drop_two hl2)
                  have hl2i : ((k : Int) + 1 == (s.size : Int)) = false := by simp; omega
                  have v34 := ub_eq (s[k + 1]'hl2) 34 (by omega)
                  have v92 := ub_eq (s[k + 1]'hl2) 92 (by omega)
                  have v110 := ub_eq (s[k + 1]'hl2) 110 (by omega)
                  by_cases k34 : (s[k + 1]'hl2) = 34
                  · rw [decide_eq_true (show (s[k + 1]'hl2) = UInt8.ofNat 34 from k34)] at v34
                    have K : Hid (((s[k + 1]'hl2) == 34 || (s[k + 1]'hl2) == 92) = true) := by show _ = _; rw [k34]; rfl
                    clear k34
                    have R2 : Hid (preF (acc ++ [s[k + 1]'hl2]) (unqF ((by_ s).drop (k + 1 + 1))) = unquoteF (by_ s)) := by
                      have := HR.out
                      rw [HD.out, HD2.out, unq_esc H34.out H10.out H92.out K.out] at this
                      rw [preF_one] at this
                      exact this
                    go_wp2_with (at_builtin; refine wpList_append_own_at _ rfl (.tmp 50) (.tmp 52) 81 rfl w.heap.size 5 i0 (.int .u8 0) 1 1 Tryz.underlying81 I0.out.2.2.2 I0.out.1 I0.out.2.1 I0.out.2.2.1 rfl (by decide) _ acc.length _ rfl (OW.out _) _ 1 1 (byC [s[k + 1]'hl2]) rfl rfl ?c1 (byC_one _) (by unfold maxLen; omega) (by omega) ?c3 ?_)
                    case c1 => exact news_u8 _ _ #[.int .u8 ((s[k + 1]'hl2).toNat : Int)] _ rfl rfl
                    case c3 => have := HB.out.size; simp; omega
                    intro v' w5 own5 grow5 _ _
                    obtain ⟨o5, b5⟩ := HO.out.pushed (nw := [s[k + 1]'hl2]) HB.out own5 grow5
                    have O5 := Lib.hid o5
                    have B5 := Lib.hid b5
                    clear o5 b5 own5 grow5
                    go_wp2_with fail
                    go_roundg (s.size - (k + 1 + 1))
                    case measure => omega
                    case rel => exact ⟨k + 1 + 1, _, by simp; try omega, by omega, by omega, by simp; omega, R2, B5, O5⟩
                  · rw [decide_eq_false (show ¬ (s[k + 1]'hl2) = UInt8.ofNat 34 from k34)] at v34
                    by_cases k92 : (s[k + 1]'hl2) = 92
                    · rw [decide_eq_true (show (s[k + 1]'hl2) = UInt8.ofNat 92 from k92)] at v92
                      have K : Hid (((s[k + 1]'hl2) == 34 || (s[k + 1]'hl2) == 92) = true) := by show _ = _; rw [k92]; rfl
                      clear k34 k92
                      have R2 : Hid (preF (acc ++ [s[k + 1]'hl2]) (unqF ((by_ s).drop (k + 1 + 1))) = unquoteF (by_ s)) := by
                        have := HR.out
                        rw [HD.out, HD2.out, unq_esc H34.out H10.out H92.out K.out] at this
                        rw [preF_one] at this
                        exact this
                      go_wp2_with (at_builtin; refine wpList_append_own_at _ rfl (.tmp 50) (.tmp 52) 81 rfl w.heap.size 5 i0 (.int .u8 0) 1 1 Tryz.underlying81 I0.out.2.2.2 I0.out.1 I0.out.2.1 I0.out.2.2.1 rfl (by decide) _ acc.length _ rfl (OW.out _) _ 1 1 (byC [s[k + 1]'hl2]) rfl rfl ?c1 (byC_one _) (by unfold maxLen; omega) (by omega) ?c3 ?_)
                      case c1 => exact news_u8 _ _ #[.int .u8 ((s[k + 1]'hl2).toNat : Int)] _ rfl rfl
                      case c3 => have := HB.out.size; simp; omega
                      intro v' w5 own5 grow5 _ _
                      obtain ⟨o5, b5⟩ := HO.out.pushed (nw := [s[k + 1]'hl2]) HB.out own5 grow5
                      have O5 := Lib.hid o5
                      have B5 := Lib.hid b5
                      clear o5 b5 own5 grow5
                      go_wp2_with fail
                      go_roundg (s.size - (k + 1 + 1))
                      case measure => omega
                      case rel => exact ⟨k + 1 + 1, _, by simp; try omega, by omega, by omega, by simp; omega, R2, B5, O5⟩
                    · rw [decide_eq_false (show ¬ (s[k + 1]'hl2) = UInt8.ofNat 92 from k92)] at v92
                      have K : Hid (¬ ((s[k + 1]'hl2) == 34 || (s[k + 1]'hl2) == 92) = true) := by show ¬ _; simp [k34, k92]
                      by_cases k110 : (s[k + 1]'hl2) = 110
                      · rw [decide_eq_true (show (s[k + 1]'hl2) = UInt8.ofNat 110 from k110)] at v110
                        have K2 : Hid (((s[k + 1]'hl2) == 110) = true) := by show _ = _; rw [k110]; rfl
                        clear k34 k92 k110
                        have R2 : Hid (preF (acc ++ [10]) (unqF ((by_ s).drop (k + 1 + 1))) = unquoteF (by_ s)) := by
                          have := HR.out
                          rw [HD.out, HD2.out, unq_n H34.out H10.out H92.out K.out K2.out] at this
                          rw [preF_one] at this
                          exact this
                        go_wp2_with (at_builtin; refine wpList_append_own_at _ rfl (.tmp 50) (.tmp 52) 81 rfl w.heap.size 5 i0 (.int .u8 0) 1 1 Tryz.underlying81 I0.out.2.2.2 I0.out.1 I0.out.2.1 I0.out.2.2.1 rfl (by decide) _ acc.length _ rfl (OW.out _) _ 1 1 (byC [10]) rfl rfl ?c1 (byC_one _) (by unfold maxLen; omega) (by omega) ?c3 ?_)
                        case c1 => exact news_u8 _ _ #[.int .u8 10] _ rfl rfl
                        case c3 => have := HB.out.size; simp; omega
                        intro v' w5 own5 grow5 _ _
                        obtain ⟨o5, b5⟩ := HO.out.pushed (nw := [10]) HB.out own5 grow5
                        have O5 := Lib.hid o5
                        have B5 := Lib.hid b5
                        clear o5 b5 own5 grow5
                        go_wp2_with fail
                        go_roundg (s.size - (k + 1 + 1))
                        case measure => omega
                        case rel => exact ⟨k + 1 + 1, _, by simp; try omega, by omega, by omega, by simp; omega, R2, B5, O5⟩
                      · rw [decide_eq_false (show ¬ (s[k + 1]'hl2) = UInt8.ofNat 110 from k110)] at v110
                        have K2 : Hid (¬ ((s[k + 1]'hl2) == 110) = true) := by show ¬ _; simpa using k110
                        clear k34 k92 k110
                        have E : Hid (unquoteF (by_ s) = .error 8) := by
                          have := HR.out
                          rw [HD.out, HD2.out, unq_bad H34.out H10.out H92.out K.out K2.out] at this
                          exact this.symm
                        go_wp2_with fail
                        exact bodyPost_ret (v := .tuple #[.string ⟨#[]⟩, .int .i64 0, .int .i64 8]) (by simp [results, Tryz.results116, go_sem]) rfl (UnqPost.err E.out HB.out)
                · have E : Hid (unquoteF (by_ s) = .error 6) := by
                    have := HR.out
                    rw [HD.out, List.drop_of_length_le (by rw [tl_len]; omega), unq_end H34.out H10.out H92.out] at this
                    exact this.symm
                  have hl2i : ((k : Int) + 1 == (s.size : Int)) = true := by simp; omega
                  go_wp2_with fail
                  exact bodyPost_ret (v := .tuple #[.string ⟨#[]⟩, .int .i64 0, .int .i64 6]) (by simp [results, Tryz.results116, go_sem]) rfl (UnqPost.err E.out HB.out)
              · rw [decide_eq_false (show ¬ (s[k]'hlt) = UInt8.ofNat 92 from h92)] at u92
                have H92 : Hid (¬ ((s[k]'hlt) == 92) = true) := by show ¬ _; simpa using h92
                clear h34 h10 h92
                have R2 : Hid (preF (acc ++ [s[k]'hlt]) (unqF ((by_ s).drop (k + 1))) = unquoteF (by_ s)) := by
                  have := HR.out
                  rw [HD.out, unq_one H34.out H10.out H92.out] at this
                  rw [preF_one] at this
                  exact this
                go_wp2_with (at_builtin; refine wpList_append_own_at _ rfl (.tmp 50) (.tmp 52) 81 rfl w.heap.size 5 i0 (.int .u8 0) 1 1 Tryz.underlying81 I0.out.2.2.2 I0.out.1 I0.out.2.1 I0.out.2.2.1 rfl (by decide) _ acc.length _ rfl (OW.out _) _ 1 1 (byC [s[k]'hlt]) rfl rfl ?c1 (byC_one _) (by unfold maxLen; omega) (by omega) ?c3 ?_)
                case c1 => exact news_u8 _ _ #[.int .u8 ((s[k]'hlt).toNat : Int)] _ rfl rfl
                case c3 => have := HB.out.size; simp; omega
                intro v' w5 own5 grow5 _ _
                obtain ⟨o5, b5⟩ := HO.out.pushed (nw := [s[k]'hlt]) HB.out own5 grow5
                have O5 := Lib.hid o5
                have B5 := Lib.hid b5
                clear o5 b5 own5 grow5
                go_wp2_with fail
                go_roundg (s.size - (k + 1))
                case measure => omega
                case rel => exact ⟨k + 1, _, by simp; try omega, by omega, by omega, by simp; omega, R2, B5, O5⟩
        · have hkl : k = s.size := by omega
          subst hkl
          have E : Hid (unquoteF (by_ s) = .error 6) := by
            have := HR.out
            rw [List.drop_of_length_le (by rw [tl_len]; exact Nat.le_refl _)] at this
            exact this.symm
          go_wp2_with fail
          exact bodyPost_ret (v := .tuple #[.string ⟨#[]⟩, .int .i64 0, .int .i64 6]) (by simp [results, Tryz.results116, go_sem]) rfl (UnqPost.err E.out HB.out)
    · have E : Hid (unquoteF (by_ s) = .error 8) := by
        show _ = _
        rw [HU.out, unquoteF, if_neg (by simpa using hq)]
      rw [decide_eq_false (show ¬ (s[0]'hp) = UInt8.ofNat 34 from hq)] at u0
      clear hq
      go_enter Tryz.func116, Tryz.ntmps116
      go_wp2_with fail
      exact bodyPost_ret (v := .tuple #[.string ⟨#[]⟩, .int .i64 0, .int .i64 8]) (by simp [results, Tryz.results116, go_sem]) rfl (UnqPost.err E.out B0.out)
end Go.Proofs.YtmbfpichaaanpaaGreatDoor

/-! A text that is read: blanks, pieces, words. -/
namespace Go.Proofs.YtmbfpichaaanpaaGreatDoor
open Go.RowKit Ut Rx Mt

/-- a text that is read stands in block t; its bytes that are left are l -/
def Tx (w : World) (t : Nat) (l : List UInt8) : Prop := ∃ s : ByteArray, w.heap[t]? = some (.cells #[.string s] 113 (0, 0)) ∧ by_ s = l
theorem cells1 {w : World} {b : Nat} {x : Value} {t : TypeId} (h : w.heap[b]? = some (.cells #[x] t (0, 0))) : w.cell? ⟨b, 0, none⟩ = some x ∧ w.frozen? ⟨b, 0, none⟩ = false := by
  unfold World.cell? World.frozen?; rw [h]; exact ⟨rfl, by simp⟩
theorem Tx.lt {w : World} {t : Nat} {l : List UInt8} (h : Tx w t l) : t < w.heap.size := by
  obtain ⟨s, h, _⟩ := h
  exact (Array.getElem?_eq_some_iff.1 h).1
theorem Tx.below {w w' : World} {t : Nat} {l : List UInt8} (h : Tx w t l) (b : Below w.heap.size w w') : Tx w' t l := by
  have lt := h.lt
  obtain ⟨s, h, e⟩ := h
  exact ⟨s, (b.block _ lt).trans h, e⟩
theorem by_drop (s : ByteArray) (k : Nat) : by_ (s.extract k s.size) = (by_ s).drop k := by
  exact Lib.extract_to_end s k
theorem by_take (s : ByteArray) (k : Nat) : by_ (s.extract 0 k) = (by_ s).take k := by
  show (s.extract 0 k).data.toList = _
  simp
theorem Tx.put {w : World} {t : Nat} {s s' : ByteArray} (h : w.heap[t]? = some (.cells #[.string s] 113 (0, 0))) : (w.setCell ⟨t, 0, none⟩ (.string s')).heap[t]? = some (.cells #[.string s'] 113 (0, 0)) := set1 h _

def UnitPost (w : World) (t : Nat) (l : List UInt8) (e : Ending) (w' : World) : Prop := e = .returned (.tuple #[]) ∧ w.grownBy w' (some t) ∧ Tx w' t l
def EatPost (w : World) (t : Nat) (b : Bool) (l : List UInt8) (e : Ending) (w' : World) : Prop := e = .returned (.bool b) ∧ w.grownBy w' (some t) ∧ Tx w' t l

theorem bare_yes {c : UInt8} {l : List UInt8} (h : c = 32) : bareF (c :: l) = bareF l := by subst h; rfl
theorem bare_no {c : UInt8} {l : List UInt8} (h : c ≠ 32) : bareF (c :: l) = c :: l := by
  unfold bareF
  rw [List.dropWhile_cons, if_neg (by simpa using h)]

set_option maxRecDepth 100000 in
set_option maxHeartbeats 2000000 in
theorem blanks_any (t : Nat) (l : List UInt8) (w : World) (h : Tx w t l) : Calls Tryz.prog 117 #[.pointer (some ⟨t, 0, none⟩)] w (UnitPost w t (bareF l)) := by
  obtain ⟨s0, h0, e0⟩ := h
  have H0 := Lib.hid h0
  have E0 := Lib.hid e0
  clear h0 e0
  go_enter Tryz.func117, Tryz.ntmps117
  go_wp2_with fail
  go_loopg [] s0.size (fun gk wr => ∃ s : ByteArray, gk = s.size ∧ Hid (wr.heap[t]? = some (.cells #[.string s] 113 (0, 0))) ∧ Hid (bareF (by_ s) = bareF l) ∧ Hid (w.grownBy wr (some t)))
  case atStart => exact ⟨s0, rfl, H0, by show _ = _; rw [E0.out], grown_refl _ _⟩
  case round =>
    obtain ⟨s, hgk, HS, HR, HG⟩ := hrel
    obtain ⟨c0, f0⟩ := cells1 HS.out
    clear H0
    by_cases hz : s.size = 0
    · have hem : s.toList.isEmpty = true := by rw [tl_eq, show s.data.toList = [] from by_empty hz]; rfl
      have FIN : Hid (Tx wr t (bareF l)) := ⟨s, HS.out, by rw [← HR.out, by_empty hz]; rfl⟩
      go_wp2_with fail
      exact bodyPost_ret (v := .tuple #[]) (by simp [results, Tryz.results117, go_sem]) rfl ⟨rfl, HG.out, FIN.out⟩
    · have hp : 0 < s.size := by omega
      have hem := string_ne hp
      have HD := Lib.hid (show by_ s = (s[0]'hp) :: (by_ s).drop 1 from drop_two hp)
      have u := ub_eq (s[0]'hp) 32 (by omega)
      by_cases h32 : (s[0]'hp) = 32
      · rw [decide_eq_true (show (s[0]'hp) = UInt8.ofNat 32 from h32)] at u
        have R2 : Hid (bareF (by_ (s.extract 1 s.size)) = bareF l) := by
          show _ = _
          rw [by_drop, ← HR.out, show bareF (by_ s) = bareF ((s[0]'hp) :: (by_ s).drop 1) from congrArg bareF HD.out, bare_yes h32]
        clear h32
        go_wp2_with fail
        go_roundg (s.size - 1)
        case measure => omega
        case rel => exact ⟨s.extract 1 s.size, by simp, Tx.put HS.out, R2, grown_trans HG.out (grown_setCell _ _ _ _)⟩
      · rw [decide_eq_false (show ¬ (s[0]'hp) = UInt8.ofNat 32 from h32)] at u
        have FIN : Hid (Tx wr t (bareF l)) := ⟨s, HS.out, by rw [← HR.out, show bareF (by_ s) = bareF ((s[0]'hp) :: (by_ s).drop 1) from congrArg bareF HD.out, bare_no h32]; exact HD.out⟩
        clear h32
        go_wp2_with fail
        exact bodyPost_ret (v := .tuple #[]) (by simp [results, Tryz.results117, go_sem]) rfl ⟨rfl, HG.out, FIN.out⟩

def eatF (p l : List UInt8) : Option (List UInt8) := if p.isPrefixOf l then some (l.drop p.length) else none
theorem eat_yes {p l : List UInt8} (h : l.take p.length = p) : eatF p l = some (l.drop p.length) := by
  unfold eatF
  rw [if_pos]
  rw [List.isPrefixOf_iff_prefix]
  have := List.take_append_drop p.length l
  rw [h] at this
  exact ⟨_, this⟩
theorem eat_no {p l : List UInt8} (h : l.take p.length ≠ p) : eatF p l = none := by
  unfold eatF
  rw [if_neg]
  rw [List.isPrefixOf_iff_prefix]
  rintro ⟨u, rfl⟩
  exact h (by simp)
set_option maxRecDepth 100000 in
set_option maxHeartbeats 2000000 in
theorem eat_any (t : Nat) (p : ByteArray) (l : List UInt8) (w : World) (h : Tx w t l) : Calls Tryz.prog 119 #[.pointer (some ⟨t, 0, none⟩), .string p] w (EatPost w t (eatF (by_ p) l).isSome ((eatF (by_ p) l).getD l)) := by
  obtain ⟨s, h0, e0⟩ := h
  have HS := Lib.hid h0
  obtain ⟨c0, f0⟩ := cells1 h0
  have hl : l.length = s.size := by rw [← e0, tl_len]
  have hpl : (by_ p).length = p.size := tl_len _
  clear h0
  by_cases hz : s.size < p.size
  · have hzi : ((s.size : Int) < p.size) := by omega
    have E : Hid (eatF (by_ p) l = none) := eat_no (fun e => by have := congrArg List.length e; rw [List.length_take] at this; omega)
    go_enter Tryz.func119, Tryz.ntmps119
    go_wp2_with fail
    go_ret
    rw [E.out]
    exact ⟨rfl, grown_refl _ _, s, HS.out, e0⟩
  · have hzi : ¬ ((s.size : Int) < p.size) := by omega
    have hle : p.size ≤ s.size := by omega
    by_cases hq : l.take p.size = by_ p
    · have E : Hid (eatF (by_ p) l = some (l.drop p.size)) := by
        have := eat_yes (p := by_ p) (l := l) (by rw [hpl]; exact hq)
        rw [hpl] at this
        exact this
      have hb : ((s.extract 0 p.size).toList == p.toList) = true := by rw [tl_eq, tl_eq, show (s.extract 0 p.size).data.toList = by_ p from by rw [show (s.extract 0 p.size).data.toList = (by_ s).take p.size from by_take s p.size, e0, hq]]; simp
      clear hq
      go_enter Tryz.func119, Tryz.ntmps119
      go_wp2_with fail
      go_ret
      rw [E.out]
      exact ⟨rfl, grown_setCell _ _ _ _, _, Tx.put HS.out, by rw [by_drop, e0]; rfl⟩
    · have E : Hid (eatF (by_ p) l = none) := eat_no (by rw [hpl]; exact hq)
      have hb : ((s.extract 0 p.size).toList == p.toList) = false := by
        rw [tl_eq, tl_eq]
        simp only [beq_eq_false_iff_ne, ne_eq]
        intro e
        exact hq (by rw [← e0, ← by_take]; exact e)
      clear hq
      go_enter Tryz.func119, Tryz.ntmps119
      go_wp2_with fail
      go_ret
      rw [E.out]
      exact ⟨rfl, grown_refl _ _, s, HS.out, e0⟩

theorem letU_iff (c : UInt8) : letU c = true ↔ ((97 ≤ (c.toNat : Int) ∧ (c.toNat : Int) ≤ 122) ∨ (65 ≤ (c.toNat : Int) ∧ (c.toNat : Int) ≤ 90) ∨ (48 ≤ (c.toNat : Int) ∧ (c.toNat : Int) ≤ 57) ∨ (c.toNat : Int) = 95) := by
  unfold letU letB firB digB
  simp only [Bool.or_eq_true, Bool.and_eq_true, decide_eq_true_eq, ge_iff_le]
  omega
def WordPost (w : World) (t : Nat) (l : List UInt8) (e : Ending) (w' : World) : Prop := (∃ s : ByteArray, e = .returned (.string s) ∧ by_ s = l.takeWhile letU) ∧ w.grownBy w' (some t) ∧ Tx w' t (l.dropWhile letU)
theorem Tx.cutAt {w : World} {t k : Nat} {s : ByteArray} {l : List UInt8} (h : w.heap[t]? = some (.cells #[.string s] 113 (0, 0))) (_e : by_ s = l) (_h1 : (by_ s).take k = l.takeWhile letU) (h2 : (by_ s).drop k = l.dropWhile letU) : Tx (w.setCell ⟨t, 0, none⟩ (.string (s.extract k s.size))) t (l.dropWhile letU) := ⟨_, Tx.put h, by rw [by_drop, h2]⟩

set_option maxRecDepth 100000 in
set_option maxHeartbeats 1000000 in
theorem word_any (t : Nat) (l : List UInt8) (w : World) (h : Tx w t l) (hll : l.length ≤ 1000000) : Calls Tryz.prog 118 #[.pointer (some ⟨t, 0, none⟩)] w (WordPost w t l) := by
  obtain ⟨s, h0, rfl⟩ := h
  have hs : s.size ≤ 1000000 := by rw [tl_len] at hll; exact hll
  clear hll
  have HS := Lib.hid h0
  obtain ⟨c0, f0⟩ := cells1 h0
  clear h0
  go_enter Tryz.func118, Tryz.ntmps118
  go_wp2_with fail
  go_step3
  go_wp2_with fail
  go_step3
  go_wp2_with fail
  go_loopg [3] s.size (fun gk vk wr => ∃ k : Nat, vk = .int .i64 k ∧ k + gk = s.size ∧ wr = w ∧ Hid ((by_ s).take k ++ ((by_ s).drop k).takeWhile letU = (by_ s).takeWhile letU) ∧ Hid (((by_ s).drop k).dropWhile letU = (by_ s).dropWhile letU))
  case atStart => exact ⟨0, rfl, by omega, rfl, by show _ = _; simp, by show _ = _; simp⟩
  case round =>
    obtain ⟨k, rfl, hk, rfl, HT, HD⟩ := hrel
    by_cases hlt : k < s.size
    · have HC := Lib.hid (drop_two hlt)
      have hle : (k : Int) ≤ s.size := by omega
      by_cases hL : letU (s[k]'hlt) = true
      · have T2 : Hid ((by_ s).take (k + 1) ++ ((by_ s).drop (k + 1)).takeWhile letU = (by_ s).takeWhile letU) := by
          have := HT.out
          rw [HC.out, List.takeWhile_cons, if_pos hL] at this
          have hl' : k < (by_ s).length := by rw [tl_len]; exact hlt
          show _ = _
          rw [← this, List.take_succ_eq_append_getElem hl', tl_get s k hlt hl']
          simp
        have D2 : Hid (((by_ s).drop (k + 1)).dropWhile letU = (by_ s).dropWhile letU) := by
          have := HD.out
          rw [HC.out, List.dropWhile_cons, if_pos hL] at this
          exact this
        rw [letU_iff] at hL
        go_wp2_with fail
        all_goals (first | (exfalso; omega) | skip)
        all_goals go_roundg (s.size - (k + 1))
        all_goals (first | exact ⟨k + 1, by simp, by omega, rfl, T2, D2⟩ | omega)
      · have T2 : Hid ((by_ s).take k = (by_ s).takeWhile letU) := by
          have := HT.out
          rw [HC.out, List.takeWhile_cons, if_neg hL, List.append_nil] at this
          exact this
        have D2 : Hid ((by_ s).drop k = (by_ s).dropWhile letU) := by
          have := HD.out
          rw [HC.out, List.dropWhile_cons, if_neg hL] at this
          rw [← HC.out] at this
          exact this
        rw [letU_iff] at hL
        go_wp2_with fail
        all_goals (first | (exfalso; omega) | skip)
        all_goals (exact bodyPost_ret (v := .string (s.extract 0 k)) (by simp [results, Tryz.results118, go_sem]) rfl ⟨⟨_, rfl, by rw [by_take]; exact T2.out⟩, grown_setCell _ _ _ _, Tx.cutAt HS.out rfl T2.out D2.out⟩)
    · have hkl : k = s.size := by omega
      have hki : ¬ (k : Int) < s.size := by omega
      have hle : (k : Int) ≤ s.size := by omega
      have T2 : Hid ((by_ s).take k = (by_ s).takeWhile letU) := by
        have := HT.out
        rw [List.drop_of_length_le (by rw [tl_len]; omega)] at this
        show _ = _
        simpa using this
      have D2 : Hid ((by_ s).drop k = (by_ s).dropWhile letU) := by
        have := HD.out
        rw [List.drop_of_length_le (by rw [tl_len]; omega)] at this
        rw [List.drop_of_length_le (by rw [tl_len]; omega)]
        exact this
      clear hkl HT HD
      go_wp2_with fail
      all_goals (exact bodyPost_ret (v := .string (s.extract 0 k)) (by simp [results, Tryz.results118, go_sem]) rfl ⟨⟨_, rfl, by rw [by_take]; exact T2.out⟩, grown_setCell _ _ _ _, Tx.cutAt HS.out rfl T2.out D2.out⟩)
end Go.Proofs.YtmbfpichaaanpaaGreatDoor
