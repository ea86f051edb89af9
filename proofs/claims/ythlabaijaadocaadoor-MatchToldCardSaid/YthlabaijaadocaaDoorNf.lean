import Derived.Test.YthlabaijaadocaaDoorNe
/-! The text between quotes that a text begins with. -/
namespace Go.Proofs.YthlabaijaadocaaDoor
open Go.RowKit Ut Rx Mt

def preF (acc : List UInt8) (r : Except Int (List UInt8 × List UInt8)) : Except Int (List UInt8 × List UInt8) := match r with | .ok (x, l) => .ok (acc ++ x, l) | .error e => .error e
abbrev consF (b : UInt8) (r : Except Int (List UInt8 × List UInt8)) : Except Int (List UInt8 × List UInt8) := match r with | .ok (s, l) => .ok (b :: s, l) | .error e => .error e
theorem unq_34 {c : UInt8} {t : List UInt8} (h : (c == 34) = true) : unqF (c :: t) = .ok ([], t) := by rw [unqF.eq_def]; simp only [h]; rfl
theorem unq_10 {c : UInt8} {t : List UInt8} (h : ¬ (c == 34) = true) (h1 : (c == 10) = true) : unqF (c :: t) = .error 8 := by rw [unqF.eq_def]; simp only [if_neg h, h1]; rfl
theorem unq_one {c : UInt8} {t : List UInt8} (h : ¬ (c == 34) = true) (h1 : ¬ (c == 10) = true) (h2 : ¬ (c == 92) = true) : unqF (c :: t) = consF c (unqF t) := by rw [unqF.eq_def]; simp only [if_neg h, if_neg h1, if_neg h2]; rfl
theorem unq_end {c : UInt8} (h : ¬ (c == 34) = true) (h1 : ¬ (c == 10) = true) (h2 : (c == 92) = true) : unqF [c] = .error 6 := by rw [unqF.eq_def]; simp only [if_neg h, if_neg h1, h2]; rfl
theorem unq_esc {c d : UInt8} {t : List UInt8} (h : ¬ (c == 34) = true) (h1 : ¬ (c == 10) = true) (h2 : (c == 92) = true) (h3 : (d == 34 || d == 92) = true) : unqF (c :: d :: t) = consF d (unqF t) := by rw [unqF.eq_def]; simp only [if_neg h, if_neg h1, h2, h3]; rfl
theorem unq_n {c d : UInt8} {t : List UInt8} (h : ¬ (c == 34) = true) (h1 : ¬ (c == 10) = true) (h2 : (c == 92) = true) (h3 : ¬ (d == 34 || d == 92) = true) (h4 : (d == 110) = true) : unqF (c :: d :: t) = consF 10 (unqF t) := by rw [unqF.eq_def]; simp only [if_neg h, if_neg h1, h2, if_neg h3, h4]; rfl
theorem unq_bad {c d : UInt8} {t : List UInt8} (h : ¬ (c == 34) = true) (h1 : ¬ (c == 10) = true) (h2 : (c == 92) = true) (h3 : ¬ (d == 34 || d == 92) = true) (h4 : ¬ (d == 110) = true) : unqF (c :: d :: t) = .error 8 := by rw [unqF.eq_def]; simp only [if_neg h, if_neg h1, h2, if_neg h3, if_neg h4]; rfl
theorem preF_nil (r : Except Int (List UInt8 × List UInt8)) : preF [] r = r := by cases r <;> rfl
theorem preF_one (acc : List UInt8) (b : UInt8) (r : Except Int (List UInt8 × List UInt8)) : preF acc (consF b r) = preF (acc ++ [b]) r := by
  cases r with
  | error e => rfl
  | ok p => obtain ⟨x, l⟩ := p; simp [preF]
def UnqPost (w : World) (s : ByteArray) (e : Ending) (w' : World) : Prop :=
  Below w.heap.size w w' ∧ match unquoteF (by_ s) with
    | .ok (x, r) => ∃ n : Nat, n ≤ s.size ∧ r = (by_ s).drop n ∧ e = .returned (.tuple #[.string ⟨x.toArray⟩, .int .i64 n, .int .i64 0])
    | .error er => e = .returned (.tuple #[.string ⟨#[]⟩, .int .i64 0, .int .i64 er])
theorem UnqPost.err {w w' : World} {s : ByteArray} {er : Int} (h : unquoteF (by_ s) = .error er) (b : Below w.heap.size w w') : UnqPost w s (.returned (.tuple #[.string ⟨#[]⟩, .int .i64 0, .int .i64 er])) w' := by
  refine ⟨b, ?_⟩
  rw [h]
theorem by_empty {s : ByteArray} (h : s.size = 0) : by_ s = [] := List.eq_nil_of_length_eq_zero (by rw [tl_len]; exact h)
theorem drop_two {s : ByteArray} {k : Nat} (h : k < s.size) : (by_ s).drop k = (s[k]'h) :: (by_ s).drop (k + 1) := by
  have h' : k < (by_ s).length := by rw [tl_len]; exact h
  rw [List.drop_eq_getElem_cons h', tl_get s k h h']
theorem string_ne {s : ByteArray} (h : 0 < s.size) : s.toList.isEmpty = false := by
  rw [tl_eq, List.isEmpty_eq_false_iff]
  intro e
  have := congrArg List.length e
  rw [tl_len] at this
  exact absurd this (by show ¬ s.size = 0; omega)

set_option maxRecDepth 100000 in
set_option maxHeartbeats 4000000 in
theorem unquote_any (s : ByteArray) (w : World) (hs : s.size ≤ 1000000) : Calls Tryd.prog 77 #[.string s] w (UnqPost w s) := by
  obtain ⟨i0, hi, hz0, hz1, hz2⟩ := info_parts infoU8
  have I0 : Hid (i0.zero = some (.int .u8 0) ∧ i0.size = 1 ∧ i0.bytes = 1 ∧ Tryd.prog.info? 5 = some i0) := ⟨hz0, hz1, hz2, hi⟩
  have O0 : Hid (By w w.heap.size (.slice none 0 0) []) := World.ownsRow_nil w _ _ _
  have B0 : Hid (Below w.heap.size w w) := Below.refl _ _
  clear hz0 hz1 hz2 hi
  by_cases h0 : s.size = 0
  · have E : Hid (unquoteF (by_ s) = .error 6) := by show _ = _; rw [by_empty h0]; rfl
    obtain rfl : s = ⟨#[]⟩ := ByteArray.ext (Array.eq_empty_of_size_eq_zero h0)
    go_enter Tryd.func77, Tryd.ntmps77
    go_wp2_with fail
    exact bodyPost_ret (v := .tuple #[.string ⟨#[]⟩, .int .i64 0, .int .i64 6]) (by simp [results, Tryd.results77, go_sem]) rfl (UnqPost.err E.out B0.out)
  · have hp : 0 < s.size := by omega
    have hne := string_ne hp
    have HU := Lib.hid (show by_ s = (s[0]'hp) :: (by_ s).drop 1 from drop_two hp)
    have u0 : (((s[0]'hp).toNat : Int) != 34) = !decide ((s[0]'hp) = UInt8.ofNat 34) := by rw [← ub_eq (s[0]'hp) 34 (by omega)]; rfl
    by_cases hq : (s[0]'hp) = 34
    · have R0 : Hid (unqF ((by_ s).drop 1) = unquoteF (by_ s)) := by
        show _ = _
        rw [show unquoteF (by_ s) = unquoteF ((s[0]'hp) :: (by_ s).drop 1) from congrArg unquoteF HU.out, unquoteF, if_pos (by rw [hq]; rfl)]
      rw [decide_eq_true (show (s[0]'hp) = UInt8.ofNat 34 from hq)] at u0
      clear hq
      go_enter Tryd.func77, Tryd.ntmps77
      go_wp2_with fail
      go_loopg [5, 6] (s.size - 1) (fun gk vo vk wr => ∃ (k : Nat) (acc : List UInt8), vk = .int .i64 k ∧ 1 ≤ k ∧ k + gk = s.size ∧ acc.length ≤ k ∧ Hid (preF acc (unqF ((by_ s).drop k)) = unquoteF (by_ s)) ∧ Hid (Below w.heap.size w wr) ∧ Hid (By wr w.heap.size vo acc))
      case atStart => exact ⟨1, [], rfl, by omega, by omega, by simp, by show _ = _; rw [preF_nil]; exact R0.out, B0, O0⟩
      case round =>
        obtain ⟨k, acc, rfl, hk1, hk, hal, HR, HB, HO⟩ := hrel
        clear B0 O0 HU R0 hne u0
        by_cases hlt : k < s.size
        · have HD := Lib.hid (drop_two hlt)
          have OW := Lib.hid (fun (o : Obj) => World.ownsRow.alloc HO.out o)
          have u34 := ub_eq (s[k]'hlt) 34 (by omega)
          have u92 := ub_eq (s[k]'hlt) 92 (by omega)
          have u10 := ub_eq (s[k]'hlt) 10 (by omega)
          by_cases h34 : (s[k]'hlt) = 34
          · rw [decide_eq_true (show (s[k]'hlt) = UInt8.ofNat 34 from h34)] at u34
            have R2 : Hid (unquoteF (by_ s) = .ok (acc, (by_ s).drop (k + 1))) := by
              have := HR.out
              rw [HD.out, unq_34 (by rw [h34]; rfl)] at this
              show _ = _
              rw [← this]; simp [preF]
            have hcv := HO.out.back
            clear h34
            go_wp2_with fail
            exact bodyPost_ret (v := .tuple #[.string ⟨acc.toArray⟩, .int .i64 ((k : Int) + 1), .int .i64 0]) (by simp [results, Tryd.results77, go_sem]) rfl (⟨HB.out, by rw [R2.out]; exact ⟨k + 1, by omega, rfl, by simp⟩⟩)
          · rw [decide_eq_false (show ¬ (s[k]'hlt) = UInt8.ofNat 34 from h34)] at u34
            have H34 : Hid (¬ ((s[k]'hlt) == 34) = true) := by show ¬ _; simpa using h34
            by_cases h10 : (s[k]'hlt) = 10
            · rw [decide_eq_true (show (s[k]'hlt) = UInt8.ofNat 10 from h10)] at u10
              have E : Hid (unquoteF (by_ s) = .error 8) := by
                have := HR.out
                rw [HD.out, unq_10 H34.out (by rw [h10]; rfl)] at this
                exact this.symm
              clear h34 h10
              go_wp2_with fail
              exact bodyPost_ret (v := .tuple #[.string ⟨#[]⟩, .int .i64 0, .int .i64 8]) (by simp [results, Tryd.results77, go_sem]) rfl (UnqPost.err E.out HB.out)
            · rw [decide_eq_false (show ¬ (s[k]'hlt) = UInt8.ofNat 10 from h10)] at u10
              have H10 : Hid (¬ ((s[k]'hlt) == 10) = true) := by show ¬ _; simpa using h10
              by_cases h92 : (s[k]'hlt) = 92
              · rw [decide_eq_true (show (s[k]'hlt) = UInt8.ofNat 92 from h92)] at u92
                have H92 : Hid (((s[k]'hlt) == 92) = true) := by show _ = _; rw [h92]; rfl
                clear h34 h10 h92
                by_cases hl2 : k + 1 < s.size
                · have HD2 := Lib.hid (drop_two hl2)
                  have hl2i : ((k : Int) + 1 == (s.size : Int)) = false := by simp; omega
                  have v34 := ub_eq (s[k + 1]'hl2) 34 (by omega)
                  have v92 := ub_eq (s[k + 1]'hl2) 92 (by omega)
                  have v110 := ub_eq (s[k + 1]'hl2) 110 (by omega)
                  by_cases k34 : (s[k + 1]'hl2) = 34
                  · rw [decide_eq_true (show (s[k + 1]'hl2) = UInt8.ofNat 34 from k34)] at v34
                    have K : Hid (((s[k + 1]'hl2) == 34 || (s[k + 1]'hl2) == 92) = true) := by show _ = _; rw [k34]; rfl
                    clear k34
                    have R2 : Hid (preF (acc ++ [s[k + 1]'hl2]) (unqF ((by_ s).drop (k + 1 + 1))) = unquoteF (by_ s)) := by
                      have := HR.out
                      rw [HD.out, HD2.out, unq_esc H34.out H10.out H92.out K.out] at this
                      rw [preF_one] at this
                      exact this
                    go_wp2_with (at_builtin; refine wpList_append_own_at _ rfl (.tmp 50) (.tmp 52) 126 rfl w.heap.size 5 i0 (.int .u8 0) 1 1 Tryd.underlying126 I0.out.2.2.2 I0.out.1 I0.out.2.1 I0.out.2.2.1 rfl (by decide) _ acc.length _ rfl (OW.out _) _ 1 1 (byC [s[k + 1]'hl2]) rfl rfl ?c1 (byC_one _) (by unfold maxLen; omega) (by omega) ?c3 ?_)
                    case c1 => exact news_u8 _ _ #[.int .u8 ((s[k + 1]'hl2).toNat : Int)] _ rfl rfl
                    case c3 => have := HB.out.size; simp; omega
                    intro v' w5 own5 grow5 _ _
                    obtain ⟨o5, b5⟩ := HO.out.pushed (nw := [s[k + 1]'hl2]) HB.out own5 grow5
                    have O5 := Lib.hid o5
                    have B5 := Lib.hid b5
                    clear o5 b5 own5 grow5
                    go_wp2_with fail
                    go_roundg (s.size - (k + 1 + 1))
                    case measure => omega
                    case rel => exact ⟨k + 1 + 1, _, by simp; try omega, by omega, by omega, by simp; omega, R2, B5, O5⟩
                  · rw [decide_eq_false (show ¬ (s[k + 1]'hl2) = UInt8.ofNat 34 from k34)] at v34
                    by_cases k92 : (s[k + 1]'hl2) = 92
                    · rw [decide_eq_true (show (s[k + 1]'hl2) = UInt8.ofNat 92 from k92)] at v92
                      have K : Hid (((s[k + 1]'hl2) == 34 || (s[k + 1]'hl2) == 92) = true) := by show _ = _; rw [k92]; rfl
                      clear k34 k92
                      have R2 : Hid (preF (acc ++ [s[k + 1]'hl2]) (unqF ((by_ s).drop (k + 1 + 1))) = unquoteF (by_ s)) := by
                        have := HR.out
                        rw [HD.out, HD2.out, unq_esc H34.out H10.out H92.out K.out] at this
                        rw [preF_one] at this
                        exact this
                      go_wp2_with (at_builtin; refine wpList_append_own_at _ rfl (.tmp 50) (.tmp 52) 126 rfl w.heap.size 5 i0 (.int .u8 0) 1 1 Tryd.underlying126 I0.out.2.2.2 I0.out.1 I0.out.2.1 I0.out.2.2.1 rfl (by decide) _ acc.length _ rfl (OW.out _) _ 1 1 (byC [s[k + 1]'hl2]) rfl rfl ?c1 (byC_one _) (by unfold maxLen; omega) (by omega) ?c3 ?_)
                      case c1 => exact news_u8 _ _ #[.int .u8 ((s[k + 1]'hl2).toNat : Int)] _ rfl rfl
                      case c3 => have := HB.out.size; simp; omega
                      intro v' w5 own5 grow5 _ _
                      obtain ⟨o5, b5⟩ := HO.out.pushed (nw := [s[k + 1]'hl2]) HB.out own5 grow5
                      have O5 := Lib.hid o5
                      have B5 := Lib.hid b5
                      clear o5 b5 own5 grow5
                      go_wp2_with fail
                      go_roundg (s.size - (k + 1 + 1))
                      case measure => omega
                      case rel => exact ⟨k + 1 + 1, _, by simp; try omega, by omega, by omega, by simp; omega, R2, B5, O5⟩
                    · rw [decide_eq_false (show ¬ (s[k + 1]'hl2) = UInt8.ofNat 92 from k92)] at v92
                      have K : Hid (¬ ((s[k + 1]'hl2) == 34 || (s[k + 1]'hl2) == 92) = true) := by show ¬ _; simp [k34, k92]
                      by_cases k110 : (s[k + 1]'hl2) = 110
                      · rw [decide_eq_true (show (s[k + 1]'hl2) = UInt8.ofNat 110 from k110)] at v110
                        have K2 : Hid (((s[k + 1]'hl2) == 110) = true) := by show _ = _; rw [k110]; rfl
                        clear k34 k92 k110
                        have R2 : Hid (preF (acc ++ [10]) (unqF ((by_ s).drop (k + 1 + 1))) = unquoteF (by_ s)) := by
                          have := HR.out
                          rw [HD.out, HD2.out, unq_n H34.out H10.out H92.out K.out K2.out] at this
                          rw [preF_one] at this
                          exact this
                        go_wp2_with (at_builtin; refine wpList_append_own_at _ rfl (.tmp 50) (.tmp 52) 126 rfl w.heap.size 5 i0 (.int .u8 0) 1 1 Tryd.underlying126 I0.out.2.2.2 I0.out.1 I0.out.2.1 I0.out.2.2.1 rfl (by decide) _ acc.length _ rfl (OW.out _) _ 1 1 (byC [10]) rfl rfl ?c1 (byC_one _) (by unfold maxLen; omega) (by omega) ?c3 ?_)
                        case c1 => exact news_u8 _ _ #[.int .u8 10] _ rfl rfl
                        case c3 => have := HB.out.size; simp; omega
                        intro v' w5 own5 grow5 _ _
                        obtain ⟨o5, b5⟩ := HO.out.pushed (nw := [10]) HB.out own5 grow5
                        have O5 := Lib.hid o5
                        have B5 := Lib.hid b5
                        clear o5 b5 own5 grow5
                        go_wp2_with fail
                        go_roundg (s.size - (k + 1 + 1))
                        case measure => omega
                        case rel => exact ⟨k + 1 + 1, _, by simp; try omega, by omega, by omega, by simp; omega, R2, B5, O5⟩
                      · rw [decide_eq_false (show ¬ (s[k + 1]'hl2) = UInt8.ofNat 110 from k110)] at v110
                        have K2 : Hid (¬ ((s[k + 1]'hl2) == 110) = true) := by show ¬ _; simpa using k110
                        clear k34 k92 k110
                        have E : Hid (unquoteF (by_ s) = .error 8) := by
                          have := HR.out
                          rw [HD.out, HD2.out, unq_bad H34.out H10.out H92.out K.out K2.out] at this
                          exact this.symm
                        go_wp2_with fail
                        exact bodyPost_ret (v := .tuple #[.string ⟨#[]⟩, .int .i64 0, .int .i64 8]) (by simp [results, Tryd.results77, go_sem]) rfl (UnqPost.err E.out HB.out)
                · have E : Hid (unquoteF (by_ s) = .error 6) := by
                    have := HR.out
                    rw [HD.out, List.drop_of_length_le (by rw [tl_len]; omega), unq_end H34.out H10.out H92.out] at this
                    exact this.symm
                  have hl2i : ((k : Int) + 1 == (s.size : Int)) = true := by simp; omega
                  go_wp2_with fail
                  exact bodyPost_ret (v := .tuple #[.string ⟨#[]⟩, .int .i64 0, .int .i64 6]) (by simp [results, Tryd.results77, go_sem]) rfl (UnqPost.err E.out HB.out)
              · rw [decide_eq_false (show ¬ (s[k]'hlt) = UInt8.ofNat 92 from h92)] at u92
                have H92 : Hid (¬ ((s[k]'hlt) == 92) = true) := by show ¬ _; simpa using h92
                clear h34 h10 h92
                have R2 : Hid (preF (acc ++ [s[k]'hlt]) (unqF ((by_ s).drop (k + 1))) = unquoteF (by_ s)) := by
                  have := HR.out
                  rw [HD.out, unq_one H34.out H10.out H92.out] at this
                  rw [preF_one] at this
                  exact this
                go_wp2_with (at_builtin; refine wpList_append_own_at _ rfl (.tmp 50) (.tmp 52) 126 rfl w.heap.size 5 i0 (.int .u8 0) 1 1 Tryd.underlying126 I0.out.2.2.2 I0.out.1 I0.out.2.1 I0.out.2.2.1 rfl (by decide) _ acc.length _ rfl (OW.out _) _ 1 1 (byC [s[k]'hlt]) rfl rfl ?c1 (byC_one _) (by unfold maxLen; omega) (by omega) ?c3 ?_)
                case c1 => exact news_u8 _ _ #[.int .u8 ((s[k]'hlt).toNat : Int)] _ rfl rfl
                case c3 => have := HB.out.size; simp; omega
                intro v' w5 own5 grow5 _ _
                obtain ⟨o5, b5⟩ := HO.out.pushed (nw := [s[k]'hlt]) HB.out own5 grow5
                have O5 := Lib.hid o5
                have B5 := Lib.hid b5
                clear o5 b5 own5 grow5
                go_wp2_with fail
                go_roundg (s.size - (k + 1))
                case measure => omega
                case rel => exact ⟨k + 1, _, by simp; try omega, by omega, by omega, by simp; omega, R2, B5, O5⟩
        · have hkl : k = s.size := by omega
          subst hkl
          have E : Hid (unquoteF (by_ s) = .error 6) := by
            have := HR.out
            rw [List.drop_of_length_le (by rw [tl_len]; exact Nat.le_refl _)] at this
            exact this.symm
          go_wp2_with fail
          exact bodyPost_ret (v := .tuple #[.string ⟨#[]⟩, .int .i64 0, .int .i64 6]) (by simp [results, Tryd.results77, go_sem]) rfl (UnqPost.err E.out HB.out)
    · have E : Hid (unquoteF (by_ s) = .error 8) := by
        show _ = _
        rw [HU.out, unquoteF, if_neg (by simpa using hq)]
      rw [decide_eq_false (show ¬ (s[0]'hp) = UInt8.ofNat 34 from hq)] at u0
      clear hq
      go_enter Tryd.func77, Tryd.ntmps77
      go_wp2_with fail
      exact bodyPost_ret (v := .tuple #[.string ⟨#[]⟩, .int .i64 0, .int .i64 8]) (by simp [results, Tryd.results77, go_sem]) rfl (UnqPost.err E.out B0.out)
end Go.Proofs.YthlabaijaadocaaDoor
