import Derived.Test.YtmbfpichaaanpaaGreatDoorX39
/-! The reader of expressions: it always comes to its end. -/
namespace Go.Proofs.YtmbfpichaaanpaaGreatDoor
open Go.RowKit Ut Rx Mt

theorem names_s : ∀ (n : Nat) (first : Bool) (acc : List ByteArray) (p : Ex.P) (r : List ByteArray × Ex.P), Ex.namesGo n first acc p = some r → r.2.s.length ≤ p.s.length := by
  intro n
  induction n with
  | zero => intro first acc p r h; rw [Ex.namesGo] at h; cases h
  | succ n ih =>
    intro first acc p r h
    rw [names_step] at h
    split at h
    · cases h; exact Nat.le_refl _
    · split at h
      · cases h; exact bareF_le p.s
      · refine Nat.le_trans (ih _ _ _ _ h) ?_
        have h1 : (if first = true then Ex.bareP p else Ex.mustP [44] (Ex.bareP p)).s.length ≤ p.s.length := by
          split
          · exact bareF_le p.s
          · exact Nat.le_trans (mustP_le _ _) (bareF_le p.s)
        refine Nat.le_trans ?_ h1
        generalize (if first = true then Ex.bareP p else Ex.mustP [44] (Ex.bareP p)) = q
        have := bareF_le q.s
        simp only [List.length_drop]
        omega
theorem namesP_s {p : Ex.P} {r : List ByteArray × Ex.P} (h : Ex.namesP p = some r) : r.2.s.length ≤ p.s.length := by
  unfold Ex.namesP at h
  cases hg : Ex.namesGo (p.s.length + 3) true [] (Ex.mustP [40] p) with
  | none => rw [hg] at h; cases h
  | some x =>
    rw [hg] at h
    cases h
    exact Nat.le_trans (mustP_le _ _) (Nat.le_trans (names_s _ _ _ _ _ hg) (mustP_le _ _))
theorem by_s {op : Int} {p : Ex.P} {r : Ex.Nd × Ex.P} (h : Ex.byP op p = some r) : r.2.s.length ≤ p.s.length := by
  unfold Ex.byP at h
  split at h
  · cases hn : Ex.namesP (Ex.isP Ex.byT p).2 with
    | none => rw [hn] at h; cases h
    | some x => rw [hn] at h; cases h; exact Nat.le_trans (namesP_s hn) (isP_le _ _)
  · split at h
    · cases hn : Ex.namesP (Ex.isP Ex.withoutT (Ex.isP Ex.byT p).2).2 with
      | none => rw [hn] at h; cases h
      | some x => rw [hn] at h; cases h; exact Nat.le_trans (namesP_s hn) (Nat.le_trans (isP_le _ _) (isP_le _ _))
    · cases h; exact Nat.le_trans (isP_le _ _) (isP_le _ _)
theorem hexGo_s : ∀ (k v : Nat) (l : List UInt8), (Ex.hexGo k v l).2.2.length ≤ l.length := by
  intro k
  induction k with
  | zero => intro v l; rw [hexGo_zero]; exact Nat.le_refl _
  | succ k ih =>
    intro v l
    cases l with
    | nil => rw [hexGo_nil]; exact Nat.le_refl _
    | cons c t =>
      rw [hexGo_cons]
      split
      · exact Nat.le_trans (ih _ _) (by simp)
      · exact Nat.le_refl _
theorem whole_s (most : Nat) (p : Ex.P) : (Ex.wholeP most p).2.s.length ≤ p.s.length := by
  have hb := bareF_le p.s
  unfold Ex.wholeP
  cases h : Ex.whoGo most 0 0 (bareF p.s) with
  | none => exact hb
  | some x =>
    obtain ⟨m, k, r⟩ := x
    have := who_len most _ _ _ _ _ _ h
    simp only
    omega
theorem selA_s (p : Ex.P) : (selA p).s.length ≤ p.s.length := by
  have h1 := bareF_le p.s
  have h2 := bareF_le ((bareF p.s).drop (Ex.peekW p.s).length)
  simp only [List.length_drop] at h2
  unfold selA
  simp only
  omega
theorem putP_s (n : Ex.Nd) (p : Ex.P) : (Ex.putP n p).s = p.s := rfl
theorem selE_s (p : Ex.P) : (Ex.selE p).s.length ≤ p.s.length := by
  have h1 : (selP2 p).s = (selB p).s := by unfold selP2; cases parseP (Ex.selW p).1 <;> rfl
  have h2 : (selB p).s.length ≤ p.s.length := Nat.le_trans (selW_le p) (selA_s p)
  have h3 := hasP_le [91] (selP2 p)
  rw [h1] at h3
  rw [selE_eq2]
  generalize 9223372036854775807 = most
  split
  · rw [putP_s]
    have h4 := whole_s most (Ex.hasP [91] (selP2 p)).2
    have h5 := mustP_le [93] (Ex.wholeP most (Ex.hasP [91] (selP2 p)).2).2
    omega
  · rw [putP_s]
    omega
theorem tryP_bad : ∀ (l : List (Int × List UInt8)) (p : Ex.P), (Ex.tryP l p).2.bad = p.bad
  | [], p => rfl
  | (k, t) :: r, p => by
    rw [tryP_cons]
    split
    · exact hasP_bad _ _
    · rw [tryP_bad r]; exact hasP_bad _ _
theorem isP_bad (t : List UInt8) (p : Ex.P) : (Ex.isP t p).2.bad = p.bad := by unfold Ex.isP; split <;> rfl
theorem signE_bad (k : Int) (p : Ex.P) : (Ex.signE k p).2.bad = p.bad := by
  unfold Ex.signE
  split
  · simp only; split <;> exact isP_bad _ _
  · split
    · simp only
      split
      · exact isP_bad _ _
      · split <;> (simp only; rw [isP_bad, isP_bad])
    · split
      · have := tryP_bad Ex.cmpOrd p
        rcases h : Ex.tryP Ex.cmpOrd p with ⟨a, b⟩
        rw [h] at this
        cases a with
        | none => exact this
        | some o => exact (isP_bad _ _).trans this
      · split
        · simp only
          split
          · exact hasP_bad _ _
          · split <;> (simp only; rw [hasP_bad, hasP_bad])
        · have := tryP_bad Ex.binOrd p
          rcases h : Ex.tryP Ex.binOrd p with ⟨a, b⟩
          rw [h] at this
          cases a with
          | none => exact this
          | some o => exact this
theorem signE_s (k : Int) (p : Ex.P) : (∀ x, (Ex.signE k p).1 = some x → (Ex.signE k p).2.s.length + 1 ≤ p.s.length) ∧ (Ex.signE k p).2.s.length ≤ p.s.length := by
  have h := sign_wt k p
  have hl := signE_l k p
  have hb := signE_bad k p
  unfold SgOk wtP at h
  rw [hl, hb] at h
  refine ⟨fun x hx => ?_, ?_⟩
  · rw [hx] at h; simp only at h; omega
  · cases hx : (Ex.signE k p).1 with
    | none => rw [hx] at h; simp only at h; omega
    | some x => rw [hx] at h; simp only at h; omega
theorem par_s (of : Int → Nat) : ∀ (n : Nat) (md : Ex.Md) (p q : Ex.P), Ex.parE of n md p = some q → q.s.length ≤ p.s.length := by
  intro n
  induction n with
  | zero => intro md p q h; rw [Ex.parE] at h; cases h
  | succ n ih =>
    intro md p q h
    cases md with
    | level k =>
      rw [Ex.parE] at h
      obtain ⟨r, h1, h2⟩ := Option.bind_eq_some_iff.1 h
      exact Nat.le_trans (ih _ _ _ h2) (ih _ _ _ h1)
    | loop k =>
      rw [Ex.parE] at h
      split at h
      · cases h; exact Nat.le_refl _
      · have sg := (signE_s k p).2
        rcases hs : Ex.signE k p with ⟨a, b⟩
        rw [hs] at h sg
        cases a with
        | none => cases h; exact sg
        | some x =>
          obtain ⟨r, h1, h2⟩ := Option.bind_eq_some_iff.1 h
          have e1 := ih _ _ _ h1
          have e2 := ih _ _ _ h2
          rw [putP_s] at e2
          exact Nat.le_trans e2 (Nat.le_trans e1 sg)
    | term =>
      rw [Ex.parE] at h
      have hlen := bareF_le p.s
      cases hc : bareF p.s with
      | nil => rw [hc] at h; cases h; exact hlen
      | cons c t =>
        rw [hc] at h hlen
        simp only [List.length_cons] at hlen
        simp only at h
        split at h
        · cases h; exact bareF_le p.s
        · split at h
          · obtain ⟨r, h1, rfl⟩ := Option.map_eq_some_iff.1 h
            have := ih _ _ _ h1
            show r.s.length ≤ _
            simp only at this
            omega
          · split at h
            · cases h; exact Nat.le_trans (whole_s _ _) (bareF_le p.s)
            · split at h
              · cases h
                have := hexGo_s 16 0 t
                show (Ex.hexGo 16 0 t).2.2.length ≤ _
                omega
              · split at h
                · obtain ⟨r, h1, rfl⟩ := Option.map_eq_some_iff.1 h
                  have := ih _ _ _ h1
                  have h2 := mustP_le [41] r
                  simp only at this
                  omega
                · split at h
                  · have hp1 : ({ p with s := (c :: t).drop (Ex.peekW (c :: t)).length } : Ex.P).s.length ≤ p.s.length := by
                      simp only [List.length_drop, List.length_cons]; omega
                    generalize ({ p with s := (c :: t).drop (Ex.peekW (c :: t)).length } : Ex.P) = p1 at *
                    split at h
                    · obtain ⟨r, h1, h2⟩ := Option.bind_eq_some_iff.1 h
                      obtain ⟨q1, h3, h4⟩ := Option.bind_eq_some_iff.1 h2
                      have e1 := by_s h1
                      have e2 := ih _ _ _ h3
                      have e3 := mustP_le [40] r.2
                      split at h4
                      · obtain ⟨q2, h5, rfl⟩ := Option.map_eq_some_iff.1 h4
                        have e4 := ih _ _ _ h5
                        have e5 := mustP_le [44] q1
                        have e6 := mustP_le [41] q2
                        show (Ex.mustP [41] q2).s.length ≤ _
                        omega
                      · cases h4
                        have e6 := mustP_le [41] q1
                        show (Ex.mustP [41] q1).s.length ≤ _
                        omega
                    · obtain ⟨q1, h3, rfl⟩ := Option.map_eq_some_iff.1 h
                      have e2 := ih _ _ _ h3
                      have e3 := mustP_le [40] p1
                      have e6 := mustP_le [41] q1
                      show (Ex.mustP [41] q1).s.length ≤ _
                      omega
                  · cases h
                    exact Nat.le_trans (selE_s _) (bareF_le p.s)
def Fin (of : Int → Nat) (m : Nat) : Prop := ∀ p : Ex.P, p.s.length ≤ m → (∃ q, Ex.parE of (8 * m + 1) .term p = some q) ∧ (∀ k, k ≤ 4 → ∃ q, Ex.parE of (8 * m + 1) (.loop k) p = some q) ∧ (∀ k, k ≤ 4 → ∃ q, Ex.parE of (8 * m + 7 - k) (.level k) p = some q)
theorem level_fin (of : Int → Nat) (m : Nat) (ht : ∀ p : Ex.P, p.s.length ≤ m → ∃ q, Ex.parE of (8 * m + 1) .term p = some q) (hl : ∀ p : Ex.P, p.s.length ≤ m → ∀ k, k ≤ 4 → ∃ q, Ex.parE of (8 * m + 1) (.loop k) p = some q) :
    ∀ j, j ≤ 4 → ∀ p : Ex.P, p.s.length ≤ m → ∃ q, Ex.parE of (8 * m + 3 + j) (.level (4 - j)) p = some q := by
  intro j
  induction j with
  | zero =>
    intro _ p hp
    obtain ⟨q, hq⟩ := ht p hp
    obtain ⟨r, hr⟩ := hl q (Nat.le_trans (par_s of _ _ _ _ hq) hp) 4 (by decide)
    refine ⟨r, ?_⟩
    rw [show 8 * m + 3 + 0 = (8 * m + 2) + 1 from by omega, Ex.parE]
    exact Option.bind_eq_some_iff.2 ⟨q, par_mono (by omega) hq, par_mono (by omega) hr⟩
  | succ j ih =>
    intro hj p hp
    obtain ⟨q, hq⟩ := ih (by omega) p hp
    obtain ⟨r, hr⟩ := hl q (Nat.le_trans (par_s of _ _ _ _ hq) hp) (4 - (j + 1)) (by omega)
    refine ⟨r, ?_⟩
    rw [show 8 * m + 3 + (j + 1) = (8 * m + 3 + j) + 1 from by omega, Ex.parE]
    refine Option.bind_eq_some_iff.2 ⟨q, ?_, par_mono (by omega) hr⟩
    rw [if_neg (by omega), show 4 - (j + 1) + 1 = 4 - j from by omega]
    exact hq
theorem fin_all (of : Int → Nat) : ∀ m, Fin of m := by
  intro m
  induction m using Nat.strongRecOn with
  | _ m ih =>
    have low : ∀ p : Ex.P, p.s.length + 1 ≤ m → (∃ q, Ex.parE of (8 * m) .term p = some q) ∧ (∀ k, k ≤ 4 → ∃ q, Ex.parE of (8 * m) (.loop k) p = some q) ∧ (∀ k, k ≤ 4 → ∃ q, Ex.parE of (8 * m) (.level k) p = some q) := by
      intro p hp
      obtain ⟨m', rfl⟩ : ∃ m', m = m' + 1 := ⟨m - 1, by omega⟩
      obtain ⟨⟨a, ha⟩, hb, hc⟩ := ih m' (by omega) p (by omega)
      refine ⟨⟨a, par_mono (by omega) ha⟩, fun k hk => ?_, fun k hk => ?_⟩
      · obtain ⟨q, hq⟩ := hb k hk; exact ⟨q, par_mono (by omega) hq⟩
      · obtain ⟨q, hq⟩ := hc k hk; exact ⟨q, par_mono (by omega) hq⟩
    have hterm : ∀ p : Ex.P, p.s.length ≤ m → ∃ q, Ex.parE of (8 * m + 1) .term p = some q := by
      intro p hp
      rw [Ex.parE]
      have hlen := bareF_le p.s
      cases hc : bareF p.s with
      | nil => exact ⟨_, rfl⟩
      | cons c t =>
        rw [hc] at hlen
        simp only [List.length_cons] at hlen
        simp only
        split
        · exact ⟨_, rfl⟩
        · split
          · obtain ⟨q, hq⟩ := (low { p with s := t } (by simp only; omega)).1
            exact ⟨_, by rw [hq]; rfl⟩
          · split
            · exact ⟨_, rfl⟩
            · split
              · exact ⟨_, rfl⟩
              · split
                · obtain ⟨q, hq⟩ := (low { p with s := t } (by simp only; omega)).2.2 0 (by decide)
                  exact ⟨_, by rw [hq]; rfl⟩
                · split
                  · rename_i hca
                    have hw := List.length_pos_iff.2 (call_word hca)
                    have hp1 : ({ p with s := (c :: t).drop (Ex.peekW (c :: t)).length } : Ex.P).s.length + 1 ≤ m := by
                      simp only [List.length_drop, List.length_cons]; omega
                    generalize ({ p with s := (c :: t).drop (Ex.peekW (c :: t)).length } : Ex.P) = p1 at *
                    split
                    · obtain ⟨r, hr⟩ := byP_some (Ex.placeE Ex.aggsT (Ex.peekW (c :: t))) p1
                      have e1 := by_s hr
                      have e2 := mustP_le [40] r.2
                      obtain ⟨q1, h1⟩ := (low (Ex.mustP [40] r.2) (by omega)).2.2 0 (by decide)
                      have e3 := par_s of _ _ _ _ h1
                      have e4 := mustP_le [44] q1
                      obtain ⟨q2, h2⟩ := (low (Ex.mustP [44] q1) (by omega)).2.2 0 (by decide)
                      rw [hr]
                      simp only [Option.bind_some]
                      rw [h1]
                      simp only [Option.bind_some]
                      split
                      · rw [h2]; exact ⟨_, rfl⟩
                      · exact ⟨_, rfl⟩
                    · have e2 := mustP_le [40] p1
                      obtain ⟨q1, h1⟩ := (low (Ex.mustP [40] p1) (by omega)).2.2 0 (by decide)
                      exact ⟨_, by rw [h1]; rfl⟩
                  · exact ⟨_, rfl⟩
    have hloop : ∀ p : Ex.P, p.s.length ≤ m → ∀ k, k ≤ 4 → ∃ q, Ex.parE of (8 * m + 1) (.loop k) p = some q := by
      intro p hp k hk
      rw [loop_step]
      split
      · exact ⟨_, rfl⟩
      · have sg := (signE_s k p).1
        rcases hs : Ex.signE k p with ⟨a, b⟩
        rw [hs] at sg
        cases a with
        | none => exact ⟨_, rfl⟩
        | some x =>
          have hb := sg x rfl
          simp only at hb
          have hbel : ∃ r, Ex.parE of (8 * m) (belM k) b = some r := by
            unfold belM
            split
            · exact (low b (by omega)).1
            · exact (low b (by omega)).2.2 (k + 1) (by omega)
          obtain ⟨r, hr⟩ := hbel
          have e := par_s of _ _ _ _ hr
          obtain ⟨q, hq⟩ := (low (Ex.putP x r) (by show r.s.length + 1 ≤ m; omega)).2.1 k hk
          exact ⟨q, Option.bind_eq_some_iff.2 ⟨r, hr, hq⟩⟩
    intro p hp
    refine ⟨hterm p hp, hloop p hp, fun k hk => ?_⟩
    have := level_fin of m hterm hloop (4 - k) (by omega) p hp
    rw [show 4 - (4 - k) = k from by omega, show 8 * m + 3 + (4 - k) = 8 * m + 7 - k from by omega] at this
    exact this
theorem parse_some (of : Int → Nat) (p : Ex.P) : ∃ q, Ex.parE of (8 * p.s.length + 20) (.level 0) p = some q := by
  obtain ⟨q, hq⟩ := (fin_all of p.s.length p (Nat.le_refl _)).2.2 0 (by decide)
  exact ⟨q, par_mono (by omega) hq⟩
end Go.Proofs.YtmbfpichaaanpaaGreatDoor

/-! The reader of expressions: Parse. -/
namespace Go.Proofs.YtmbfpichaaanpaaGreatDoor
open Go.RowKit Ut Rx Mt

theorem nodeC_get : ∀ (R : List NdV) (i : Nat) (x : NdV) (j : Nat) (u : Value), R[i]? = some x → (ndV x.1 x.2.1 x.2.2)[j]? = some u → (nodeC R)[i * 8 + j]? = some u
  | [], i, x, j, u, h, _ => by simp at h
  | y :: R, 0, x, j, u, h, hu => by
    simp only [List.getElem?_cons_zero, Option.some.injEq] at h
    subst h
    show (ndV y.1 y.2.1 y.2.2 ++ nodeC R)[0 * 8 + j]? = some u
    rw [Nat.zero_mul, Nat.zero_add, List.getElem?_append_left (List.getElem?_eq_some_iff.1 hu).1]
    exact hu
  | y :: R, i + 1, x, j, u, h, hu => by
    simp only [List.getElem?_cons_succ] at h
    show (ndV y.1 y.2.1 y.2.2 ++ nodeC R)[(i + 1) * 8 + j]? = some u
    have hl : (ndV y.1 y.2.1 y.2.2).length = 8 := rfl
    rw [List.getElem?_append_right (by rw [hl]; omega), hl, show (i + 1) * 8 + j - 8 = i * 8 + j from by omega]
    exact nodeC_get R i x j u h hu
theorem Pn.es {w : World} {B t : Nat} {lv : Value} {R : List NdV} {p : Ex.P} (h : Pn w B t lv R p) : Es0 w lv p.l := by
  have hl : R.length = p.l.length := by
    have := congrArg List.length h.nds
    rwa [List.length_map] at this
  rcases row_kinds h.row with ⟨e, h0⟩ | ⟨g, c, e, hc⟩
  · refine ⟨none, 0, by rw [← hl, h0]; exact e, by rw [← hl, h0]; exact Nat.le_refl _, fun hne => ?_⟩
    exact absurd (List.length_pos_iff.2 hne) (by omega)
  · refine ⟨some ⟨g, 0, none⟩, c, by rw [← hl]; exact e, by rw [← hl]; exact hc, fun _ => ⟨g, 0, rfl, fun i hi => ?_⟩⟩
    have hiR : i < R.length := by omega
    obtain ⟨_, _, hcell⟩ := row_cell h.row e
    have hx : R[i]? = some (R[i]'hiR) := List.getElem?_eq_getElem hiR
    have hn : (R[i]'hiR).1 = p.l[i]'hi := by
      have : (R.map (·.1))[i]? = some (R[i]'hiR).1 := by rw [List.getElem?_map, hx]; rfl
      rw [h.nds, List.getElem?_eq_getElem hi] at this
      exact (Option.some.inj this).symm
    have hs := h.sub _ (List.getElem_mem hiR)
    rw [← hn]
    generalize R[i]'hiR = x at *
    have k := fun j u hu => hcell (i * 8 + j) u (nodeC_get R i x j u hx hu)
    refine ⟨x.2.1, x.2.2, ?_, ?_, ?_, ?_, ?_, ?_, ?_, ?_, hs.sel, hs.nm, hs.hv, hs.hw⟩
    · have := k 0 _ rfl; rw [Nat.zero_add]; exact this
    · have := k 1 _ rfl; rw [Nat.zero_add]; exact this
    · have := k 2 _ rfl; rw [Nat.zero_add]; exact this
    · have := k 3 _ rfl; rw [Nat.zero_add]; exact this
    · have := k 4 _ rfl; rw [Nat.zero_add]; exact this
    · have := k 5 _ rfl; rw [Nat.zero_add]; exact this
    · have := k 6 _ rfl; rw [Nat.zero_add]; exact this
    · have := k 7 _ rfl; rw [Nat.zero_add]; exact this
def PaPost (w : World) (r : Except Int (List Ex.Nd)) (e : Ending) (w' : World) : Prop := Below w.heap.size w w' ∧ match r with
  | .error x => e = .returned (.tuple #[.slice none 0 0, .int .i64 x]) ∧ x ≠ 0
  | .ok l => ∃ A c, e = .returned (.tuple #[.slice A l.length c, .int .i64 0]) ∧ Es0 w' (.slice A l.length c) l ∧ ∀ n ∈ l, n.sel.length ≤ 1000000
theorem parse_eq (s : List UInt8) (h : ¬ 1024 < s.length) : ∃ p, Ex.parE ofS (8 * s.length + 20) (.level 0) ⟨s, [], false, 0⟩ = some p ∧ wtP p ≤ s.length + 1 ∧
    Ex.parseE ofS s = (if p.bad || !(bareF p.s).isEmpty then .error 8 else if 64 < p.l.length then .error 3 else if p.e ≠ 0 then .error p.e else if (Ex.checkE p.l).2 ≠ 0 then .error (Ex.checkE p.l).2 else .ok p.l) := by
  obtain ⟨q, hq⟩ := parse_some ofS ⟨s, [], false, 0⟩
  refine ⟨q, hq, ?_, ?_⟩
  · have := parE_wt _ _ _ _ _ hq
    simpa [wtP] using this
  · unfold Ex.parseE
    rw [if_neg h, hq]
set_option maxRecDepth 100000 in
set_option maxHeartbeats 8000000 in
theorem parseX_any (s : ByteArray) (w : World) (hT : Lib.Utf8Tabs 6 7 w) (hW : Wt w) (hw : 8 ≤ w.heap.size) : Calls Tryz.prog 12 #[.string s] w (PaPost w (Ex.parseE ofS (by_ s))) := by
  by_cases hlen : 1024 < s.size
  · have E : Hid (Ex.parseE ofS (by_ s) = .error 3) := by show _ = _; unfold Ex.parseE; rw [if_pos (by rw [tl_len]; exact hlen)]
    have hli : (1024 : Int) < s.size := by omega
    go_enter Tryz.func12, Tryz.ntmps12
    go_wp2_with fail
    refine bodyPost_ret (v := .tuple #[.slice none 0 0, .int .i64 3]) (by simp [results, Tryz.results12, go_sem]) rfl ?_
    rw [E.out]
    exact ⟨Below.refl _ _, rfl, by decide⟩
  · have hli : ¬ (1024 : Int) < s.size := by omega
    obtain ⟨p, hp, hwt, heq⟩ := parse_eq (by_ s) (by rw [tl_len]; exact hlen)
    obtain ⟨res, hres⟩ : ∃ r, r = Ex.parseE ofS (by_ s) := ⟨_, rfl⟩
    rw [← hres]
    have HR := Lib.hid (hres.trans heq)
    clear hres
    have hsl : (by_ s).length = s.size := tl_len _
    have B1 : Below w.heap.size w (w.alloc (pxC s (.slice none 0 0) false 0)) := (Below.refl _ _).alloc (Nat.le_refl _) _
    have PQ : Pq (w.alloc (pxC s (.slice none 0 0) false 0)) w.heap.size (.slice none 0 0) ⟨by_ s, [], false, 0⟩ := ⟨s, heap_alloc_new w _, rfl⟩
    have PN : Pn (w.alloc (pxC s (.slice none 0 0) false 0)) (w.heap.size + 1) w.heap.size (.slice none 0 0) [] ⟨by_ s, [], false, 0⟩ :=
      ⟨PQ, World.ownsRow_nil _ _ _ _, rfl, (fun x hx => by cases hx), Nat.lt_succ_self _, by simp⟩
    have RR : Rdr (w.alloc (pxC s (.slice none 0 0) false 0)) (w.heap.size + 1) w.heap.size (.slice none 0 0) [] ⟨by_ s, [], false, 0⟩ :=
      ⟨PN, tabs_low hT hw B1, hW.low hw B1, hw, by unfold wtP; simp only [List.length_nil, Bool.false_eq_true, if_false]; omega⟩
    have LV := Lib.hid ((recs _).1 0 (by decide) _ _ _ _ _ _ RR p hp)
    rw [show ((0 : Nat) : Int) = 0 from rfl] at LV
    have RH := Lib.hid RR
    have BH := Lib.hid B1
    clear heq hp RR PN PQ B1 hT hW
    go_enter Tryz.func12, Tryz.ntmps12
    go_upto_region 4 with fail
    obtain ⟨t, ht⟩ : ∃ n, n = w.heap.size := ⟨_, rfl⟩
    obtain ⟨w1, hw1⟩ : ∃ x, x = w.alloc (pxC s (.slice none 0 0) false 0) := ⟨_, rfl⟩
    rw [← hw1] at LV RH BH
    unfold pxC at hw1
    rw [← hw1]
    clear hw1
    rw [← ht] at LV RH ⊢
    have HT := Lib.hid ht
    clear ht
    go_wp2_with fail
    refine LV.out.mono ?_
    rintro e w2 ⟨rfl, lv2, R2, pn2, fe2⟩
    have R2' := Lib.hid (RH.out.fe pn2 fe2 (by omega))
    have B2 : Hid (Below w.heap.size w w2) := by
      have := RH.out.pn.lowBelow fe2
      rw [HT.out] at this
      exact BH.out.trans (this.mono (Nat.le_refl _))
    have BA := Lib.hid (bareX_any t lv2 p.s p.bad p.e w2 pn2.px)
    clear LV pn2 fe2 RH BH
    go_wp2_with fail
    refine BA.out.mono ?_
    rintro e w3 ⟨rfl, g3, px3⟩
    obtain ⟨r3, ff3⟩ := R2'.out.small g3 (show Pq w3 t lv2 (Ex.bareP p) from px3) rfl (wt_bare p)
    have R3 := Lib.hid r3
    have B3 : Hid (Below w.heap.size w w3) := by
      have := R2'.out.pn.lowBelow ff3
      rw [HT.out] at this
      exact B2.out.trans (this.mono (Nat.le_refl _))
    obtain ⟨s3, h3, e3⟩ := px3
    obtain ⟨c0, c1, c2, c3, f0, f1, f2, f3⟩ := px_cells h3
    obtain ⟨A, m, c, hL⟩ := ownsRow_is r3.pn.row
    have HL := Lib.hid hL
    rw [hL] at c1
    have E3 := Lib.hid e3
    clear BA g3 h3 e3 r3 hL R2' B2 ff3
    cases hbad : p.bad with
    | true =>
      have E : Hid (res = .error 8) := by show _ = _; rw [HR.out, hbad]; rfl
      rw [hbad] at c2
      go_wp2_with fail
      refine bodyPost_ret (v := .tuple #[.slice none 0 0, .int .i64 8]) (by simp [results, Tryz.results12, go_sem]) rfl ?_
      rw [E.out]
      exact ⟨B3.out, rfl, by decide⟩
    | false =>
    rw [hbad] at c2
    cases hem : s3.toList.isEmpty with
    | false =>
      have E : Hid (res = .error 8) := by
        show _ = _
        rw [HR.out, if_pos]
        have : bareF p.s = s3.data.toList := E3.out.symm
        rw [this, ← tl_eq, hem]
        simp
      go_wp2_with fail
      refine bodyPost_ret (v := .tuple #[.slice none 0 0, .int .i64 8]) (by simp [results, Tryz.results12, go_sem]) rfl ?_
      rw [E.out]
      exact ⟨B3.out, rfl, by decide⟩
    | true =>
    have HR2 : Hid (res = if 64 < p.l.length then .error 3 else if p.e ≠ 0 then .error p.e else if (Ex.checkE p.l).2 ≠ 0 then .error (Ex.checkE p.l).2 else .ok p.l) := by
      show _ = _
      rw [HR.out, if_neg]
      have : bareF p.s = s3.data.toList := E3.out.symm
      rw [this, ← tl_eq, hem, hbad]
      simp
    have hlm : m = p.l.length := by
      have h1 := congrArg List.length R3.out.pn.nds
      rw [List.length_map] at h1
      rcases row_kinds R3.out.pn.row with ⟨e, h0⟩ | ⟨g, c', e, _⟩
      · rw [HL.out] at e; simp only [Value.slice.injEq] at e; rw [e.2.1, ← show (Ex.bareP p).l = p.l from rfl]; omega
      · rw [HL.out] at e; simp only [Value.slice.injEq] at e; rw [e.2.1, ← show (Ex.bareP p).l = p.l from rfl]; omega
    subst hlm
    have ES := Lib.hid R3.out.pn.es
    rw [HL.out, show (Ex.bareP p).l = p.l from rfl] at ES
    have HF : Hid (∀ n ∈ p.l, n.sel.length ≤ 1000000) := fun n hn => by
      have h1 := R3.out.pn.nds
      rw [show (Ex.bareP p).l = p.l from rfl] at h1
      rw [← h1] at hn
      obtain ⟨x, hx, rfl⟩ := List.mem_map.1 hn
      exact (R3.out.pn.sub x hx).few
    clear HR hbad
    by_cases h64 : 64 < p.l.length
    · have E : Hid (res = .error 3) := by show _ = _; rw [HR2.out, if_pos h64]
      have h64i : (64 : Int) < p.l.length := by omega
      clear HR2
      go_wp2_with fail
      refine bodyPost_ret (v := .tuple #[.slice none 0 0, .int .i64 3]) (by simp [results, Tryz.results12, go_sem]) rfl ?_
      rw [E.out]
      exact ⟨B3.out, rfl, by decide⟩
    · have h64i : ¬ (64 : Int) < p.l.length := by omega
      have HR3 : Hid (res = if p.e ≠ 0 then .error p.e else if (Ex.checkE p.l).2 ≠ 0 then .error (Ex.checkE p.l).2 else .ok p.l) := by show _ = _; rw [HR2.out, if_neg h64]
      clear HR2
      by_cases he : p.e = 0
      · have HR4 : Hid (res = if (Ex.checkE p.l).2 ≠ 0 then .error (Ex.checkE p.l).2 else .ok p.l) := by show _ = _; rw [HR3.out, if_neg (by simp [he])]
        rw [he] at c3
        have CK := Lib.hid (checkX_any p.l _ w3 ES.out HF.out R3.out.tabs (by have := R3.out.low; omega))
        clear HR3 he
        unfold CkPost at CK
        generalize Ex.checkE p.l = ck at *
        obtain ⟨ct, cx⟩ := ck
        go_wp2_with fail
        refine CK.out.mono ?_
        rintro e w4 ⟨rfl, b4⟩
        have B4 := Lib.hid (B3.out.trans (b4.mono B3.out.size))
        have ES4 := Lib.hid (ES.out.below b4)
        have k1 := (b4.cell (World.block_lt_of_cell? w3 _ c1)).trans c1
        clear CK b4
        by_cases hx : cx = 0
        · have E : Hid (res = .ok p.l) := by show _ = _; rw [HR4.out, if_neg (by simp [hx])]
          clear HR4
          subst hx
          go_wp2_with fail
          refine bodyPost_ret (v := .tuple #[.slice A p.l.length c, .int .i64 0]) (by simp [results, Tryz.results12, go_sem]) rfl ?_
          rw [E.out]
          exact ⟨B4.out, A, c, rfl, ES4.out, HF.out⟩
        · have E : Hid (res = .error cx) := by show _ = _; rw [HR4.out, if_pos hx]
          have HX := Lib.hid hx
          have hxb : (cx != 0) = true := by simpa using hx
          clear HR4
          go_wp2_with fail
          refine bodyPost_ret (v := .tuple #[.slice none 0 0, .int .i64 cx]) (by simp [results, Tryz.results12, go_sem]) rfl ?_
          rw [E.out]
          exact ⟨B4.out, rfl, HX.out⟩
      · have E : Hid (res = .error p.e) := by show _ = _; rw [HR3.out, if_pos he]
        have HX := Lib.hid he
        clear HR3
        go_upto_region 11 with fail
        go_quiet (fail)
        go_wp2_with fail
        refine bodyPost_ret (v := .tuple #[.slice none 0 0, .int .i64 p.e]) (by simp [results, Tryz.results12, go_sem]) rfl ?_
        rw [E.out]
        refine ⟨?_, rfl, HX.out⟩
        exact B3.out.trans ⟨rfl, rfl, rfl, Nat.le_refl _, fun _ _ => rfl⟩
end Go.Proofs.YtmbfpichaaanpaaGreatDoor
