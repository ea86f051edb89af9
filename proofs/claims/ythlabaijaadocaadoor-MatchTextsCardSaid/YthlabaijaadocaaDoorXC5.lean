import Derived.Test.YthlabaijaadocaaDoorXC4
import Derived.Test.YthlabaijaadocaaDoorXB9
/-! The reference's texts: the matchers of a text. -/
namespace Go.Proofs.YthlabaijaadocaaDoor
open Go.RowKit Ut Rx Mt

theorem bareF_twice (l : List UInt8) : bareF (bareF l) = bareF l := by
  unfold bareF
  induction l with
  | nil => rfl
  | cons c t ih =>
    rw [List.dropWhile_cons]
    split
    · exact ih
    · rename_i h
      rw [List.dropWhile_cons, if_neg h]
theorem parse_head (l : List UInt8) : parseP l = match headF (bareF l) with | none => .error 8 | some (ms, r) => tailP ms (bareF r) := by
  unfold parseP headF
  by_cases hd : headDig ((bareF l).takeWhile letU) = true
  · rw [if_pos hd, if_pos hd]
  · rw [if_neg hd, if_neg hd]
    unfold bodyP
    cases eatF [123] (bareF ((bareF l).dropWhile letU)) with
    | none =>
      simp only
      by_cases hn : (bareF l).takeWhile letU = []
      · rw [if_pos hn, if_pos hn]
      · rw [if_neg hn, if_neg hn, bareF_twice]
    | some u =>
      simp only
      cases allP ((bareF u).length + 1) (bareF u) with
      | none => rfl
      | some p => obtain ⟨ms, r⟩ := p; rfl
theorem takeWhile_le (p : UInt8 → Bool) : ∀ l : List UInt8, (l.takeWhile p).length ≤ l.length
  | [] => Nat.le_refl _
  | c :: t => by
    rw [List.takeWhile_cons]
    split
    · have := takeWhile_le p t
      simp; omega
    · simp
theorem oneP_name {l r : List UInt8} {m : M} (h : oneP l = some (m, r)) : m.n.size ≤ l.length := by
  unfold oneP at h
  split at h
  · cases h
  · split at h
    · cases h
    · cases h
      show (l.takeWhile letU).toArray.size ≤ _
      rw [List.size_toArray]
      exact takeWhile_le _ _
theorem allP_names : ∀ (n : Nat) (l r : List UInt8) (ms : List M), allP n l = some (ms, r) → ∀ m ∈ ms, m.n.size ≤ l.length
  | 0, _, _, _, h => by cases h
  | n + 1, l, r, ms, h => by
    cases he : eatF [125] l with
    | some u =>
      rw [allP_stop he] at h
      cases h
      intro m hm; cases hm
    | none =>
      cases ho : oneP l with
      | none => rw [allP_none he ho] at h; cases h
      | some p =>
        obtain ⟨m0, r0⟩ := p
        rw [allP_go he ho] at h
        have h0 := oneP_name ho
        have hl := oneP_len ho
        have key : ∀ l2, l2.length ≤ l.length → consO m0 (allP n l2) = some (ms, r) → ∀ m ∈ ms, m.n.size ≤ l.length := by
          intro l2 hl2 hc
          cases ha : allP n l2 with
          | none => rw [ha] at hc; cases hc
          | some q =>
            obtain ⟨ms2, r2⟩ := q
            rw [ha] at hc
            cases hc
            intro m hm
            rcases List.mem_cons.1 hm with rfl | hm
            · exact h0
            · exact Nat.le_trans (allP_names n l2 _ ms2 ha m hm) hl2
        cases h44 : eatF [44] r0 with
        | some r2 =>
          rw [h44] at h
          have h1 := eatF_length h44
          have h2 : (bareF r2).length ≤ _ := dropWhile_le _ _
          exact key _ (by omega) h
        | none =>
          rw [h44] at h
          simp only at h
          split at h
          · exact key _ (by omega) h
          · cases h
theorem headF_names {l r : List UInt8} {ms : List M} (h : headF l = some (ms, r)) : ∀ m ∈ ms, m.n.size ≤ l.length + 8 := by
  have base : ∀ nm : List UInt8, ∀ m ∈ baseP nm, m.n.size ≤ 8 := by
    intro nm m hm
    unfold baseP at hm
    split at hm
    · cases hm
    · rw [List.mem_singleton] at hm
      rw [hm]
      show nameL.toArray.size ≤ 8
      decide
  unfold headF at h
  split at h
  · cases h
  · split at h
    · split at h
      · cases h
      · cases h
        intro m hm
        have := base _ m hm
        omega
    · rename_i u hu
      split at h
      · cases h
      · rename_i ms2 r2 ha
        cases h
        intro m hm
        rcases List.mem_append.1 hm with hm | hm
        · have := base _ m hm
          omega
        · have h1 := allP_names _ _ _ _ ha m hm
          have h2 : (bareF u).length ≤ _ := dropWhile_le _ _
          have h3 := eatF_length hu
          have h4 : (bareF (l.dropWhile letU)).length ≤ _ := dropWhile_le _ _
          have h5 := dropWhile_le letU l
          omega

set_option maxRecDepth 100000 in
set_option maxHeartbeats 4000000 in
theorem rParseT_any (s : ByteArray) (w : World) (hs : s.size ≤ 100000) : Calls Tryd.prog 19 #[.string s] w (ParseTPost w (by_ s)) := by
  have HP := Lib.hid (parse_head (by_ s))
  obtain ⟨s1, hs1⟩ : ∃ x : ByteArray, x = ⟨(bareF (by_ s)).toArray⟩ := ⟨_, rfl⟩
  have S1 : Hid (by_ s1 = bareF (by_ s)) := by show _ = _; rw [hs1]
  have Z1 : s1.size ≤ 100000 := size_of S1.out (Nat.le_trans (dropWhile_le _ _) (by_len hs))
  rw [← S1.out] at HP
  have BA := Lib.hid (rBare_any s w)
  rw [← hs1] at BA
  have HE := Lib.hid (rHead_any s1 w Z1)
  have ERR : Hid (∀ (w' : World) (er : Int), parseP (by_ s) = .error er → er ≠ 0 → Below w.heap.size w w' → ParseTPost w (by_ s) (.returned (.tuple #[.slice none 0 0, .int .i64 er])) w') := fun w' er h h0 b => ⟨b, by rw [h]; exact ⟨h0, rfl⟩⟩
  clear hs1 S1
  go_enter Tryd.func19, Tryd.ntmps19
  go_wp2_with fail
  refine BA.out.mono ?_
  rintro e wq ⟨rfl, rfl⟩
  clear BA
  go_wp2_with fail
  refine HE.out.mono ?_
  rintro e w1 ⟨hb1, h1⟩
  have B1 := Lib.hid hb1
  clear HE hb1
  cases hh : headF (by_ s1) with
  | none =>
    have E : Hid (parseP (by_ s) = .error 8) := by show _ = _; rw [HP.out, hh]
    rw [hh] at h1
    obtain ⟨v, x, rfl⟩ := h1
    clear hh HP
    go_wp2_with fail
    exact bodyPost_ret (v := .tuple #[.slice none 0 0, .int .i64 8]) (by simp [results, Tryd.results19, go_sem]) rfl (ERR.out _ _ E.out (by decide) B1.out)
  | some p =>
    obtain ⟨ms, r⟩ := p
    have NS := Lib.hid (headF_names hh)
    have E0 : Hid (parseP (by_ s) = tailP ms (bareF r)) := by show _ = _; rw [HP.out, hh]
    rw [hh] at h1
    obtain ⟨v, rfl, hms, hml⟩ := h1
    have MS := Lib.hid hms
    have MM := Lib.hid (MsR.ms hms (by omega))
    obtain ⟨s2, hs2⟩ : ∃ x : ByteArray, x = ⟨r.toArray⟩ := ⟨_, rfl⟩
    have S2 : Hid (by_ s2 = r) := by show _ = _; rw [hs2]
    obtain ⟨s3, hs3⟩ : ∃ x : ByteArray, x = ⟨(bareF r).toArray⟩ := ⟨_, rfl⟩
    have S3 : Hid (by_ s3 = bareF r) := by show _ = _; rw [hs3]
    have BA := Lib.hid (rBare_any s2 w1)
    rw [S2.out, ← hs3] at BA
    rw [← S3.out] at E0
    rw [← hs2]
    clear hs2 hs3 hh HP hms S2 S3
    go_wp2_with fail
    refine BA.out.mono ?_
    rintro e wq ⟨rfl, rfl⟩
    clear BA
    by_cases hz : s3.size = 0
    · have hem : s3.toList.isEmpty = true := by rw [tl_eq, show s3.data.toList = [] from by_empty hz]; rfl
      have hem2 : (!s3.toList.isEmpty) = false := by rw [hem]; rfl
      have E1 : Hid (parseP (by_ s) = if rightF ms = 0 then .ok ms else .error (rightF ms)) := by
        show _ = _
        rw [E0.out, by_empty hz]; rfl
      have RR := Lib.hid (rRight_any ms v w1 MM.out (fun m hm => by have h1 := NS.out m hm; have h2 : (by_ s1).length = s1.size := tl_len s1; unfold maxLen; omega))
      clear hz E0
      go_wp2_with fail
      refine RR.out.mono ?_
      rintro e w2 ⟨rfl, hb2⟩
      have B2 := Lib.hid (B1.out.trans (hb2.mono B1.out.size))
      have M2 := Lib.hid (MsR.below MS.out hb2)
      clear RR hb2
      by_cases h0 : rightF ms = 0
      · have E2 : Hid (parseP (by_ s) = .ok ms) := by show _ = _; rw [E1.out, if_pos h0]
        rw [h0]
        clear h0 E1
        go_wp2_with fail
        exact bodyPost_ret (v := .tuple #[v, .int .i64 0]) (by simp [results, Tryd.results19, go_sem]) rfl ⟨B2.out, by rw [E2.out]; exact ⟨v, rfl, M2.out⟩⟩
      · have E2 : Hid (parseP (by_ s) = .error (rightF ms)) := by show _ = _; rw [E1.out, if_neg h0]
        have hne : (rightF ms != 0) = true := by simpa using h0
        have H0 := Lib.hid h0
        clear h0 E1
        generalize rightF ms = er at *
        go_wp2_with fail
        exact bodyPost_ret (v := .tuple #[.slice none 0 0, .int .i64 er]) (by simp [results, Tryd.results19, go_sem]) rfl (ERR.out _ _ E2.out H0.out B2.out)
    · have hem := string_ne (Nat.pos_of_ne_zero hz)
      have hem2 : (!s3.toList.isEmpty) = true := by rw [hem]; rfl
      have E1 : Hid (parseP (by_ s) = .error 8) := by
        show _ = _
        rw [E0.out]
        unfold tailP
        rw [if_neg (fun h => hz (by rw [← tl_len s3]; show (by_ s3).length = 0; rw [h]; rfl))]
      clear hz E0
      go_wp2_with fail
      exact bodyPost_ret (v := .tuple #[.slice none 0 0, .int .i64 8]) (by simp [results, Tryd.results19, go_sem]) rfl (ERR.out _ _ E1.out (by decide) B1.out)
end Go.Proofs.YthlabaijaadocaaDoor
