import Derived.Test.YtmbfpichaaanpaaGreatDoorX30
/-! The reader of expressions: what its recursive functions keep. -/
namespace Go.Proofs.YtmbfpichaaanpaaGreatDoor
open Go.RowKit Ut Rx Mt

theorem Fe.below {w w' : World} {t n : Nat} {v v' : Value} (h : Fe w w' t v v') (hn : n ≤ w.heap.size) (hg : n ≤ t) (hv : ∀ q, v.ownBlock = some q → n ≤ q) : Below n w w' :=
  ⟨h.os, h.tape, h.output, h.size, fun q hq => h.block q (by omega) (by omega) (fun e => by have := hv q e.symm; omega)⟩
theorem Pn.lowBelow {w w' : World} {B t : Nat} {lv lv' : Value} {R : List NdV} {p : Ex.P} (h : Pn w B t lv R p) (f : Fe w w' t lv lv') : Below t w w' :=
  f.below (Nat.le_trans (Nat.le_of_lt h.low) h.size) (Nat.le_refl _) (fun q hq => by have := (World.ownsRow.lt h.row q hq).1; have := h.low; omega)
theorem tabs_low {w w' : World} {t : Nat} (h : Lib.Utf8Tabs 6 7 w) (ht : 8 ≤ t) (b : Below t w w') : Lib.Utf8Tabs 6 7 w' := by
  have k : ∀ {g : Nat} {o : Nat} {v : Value}, g < 8 → w.cell? ⟨g, o, none⟩ = some v → w'.cell? ⟨g, o, none⟩ = some v := by
    intro g o v hb h
    exact (World.cell?_of_block (a := ⟨g, o, none⟩) (b.block g (by omega))).trans h
  exact ⟨fun c hc => k (by omega) (h.1 c hc), fun i hi => ⟨k (by omega) (h.2 i hi).1, k (by omega) (h.2 i hi).2⟩⟩
/-- bytes left, nodes so far, and one for not being bad: what the reader never has more of -/
def wtP (p : Ex.P) : Nat := p.l.length + p.s.length + (if p.bad then 0 else 1)
theorem wt_must (t : List UInt8) (p : Ex.P) : wtP (Ex.mustP t p) ≤ wtP p := by
  unfold wtP
  have h := mustP_le t p
  rw [mustP_l, mustP_bad]
  cases p.bad
  · cases (eatF t (bareF p.s)).isSome <;> simp <;> omega
  · simp; omega
theorem wt_has (t : List UInt8) (p : Ex.P) : wtP (Ex.hasP t p).2 ≤ wtP p := by
  unfold wtP
  have h := hasP_le t p
  rw [hasP_l, hasP_bad]
  omega
theorem wt_is (t : List UInt8) (p : Ex.P) : wtP (Ex.isP t p).2 ≤ wtP p := by
  unfold wtP
  have h := isP_le t p
  have h1 : (Ex.isP t p).2.l = p.l := by unfold Ex.isP; split <;> rfl
  have h2 : (Ex.isP t p).2.bad = p.bad := by unfold Ex.isP; split <;> rfl
  rw [h1, h2]
  omega
theorem wt_has_yes {t : List UInt8} {p : Ex.P} (h : (Ex.hasP t p).1 = true) (ht : 1 ≤ t.length) : wtP (Ex.hasP t p).2 + 1 ≤ wtP p := by
  rw [hasP_1] at h
  unfold wtP
  rw [hasP_l, hasP_bad, hasP_s]
  have hb := bareF_le p.s
  unfold eatF at h ⊢
  split at h
  · rename_i hp
    rw [if_pos hp]
    have hl := (List.isPrefixOf_iff_prefix.1 hp).length_le
    simp only [Option.getD_some, List.length_drop]
    omega
  · simp at h
theorem wt_is_yes {t : List UInt8} {p : Ex.P} (h : (Ex.isP t p).1 = true) (ht : 1 ≤ t.length) : wtP (Ex.isP t p).2 + 1 ≤ wtP p := by
  unfold Ex.isP at h ⊢
  split at h
  · rename_i hp
    rw [if_pos hp]
    unfold wtP
    have hb := bareF_le p.s
    have hk := peek_le p.s
    rw [hp] at hk
    simp only [List.length_drop]
    omega
  · simp at h
theorem wt_put (n : Ex.Nd) (p : Ex.P) : wtP (Ex.putP n p) = wtP p + 1 := by
  unfold wtP Ex.putP
  simp only [List.length_append, List.length_cons, List.length_nil]
  omega
theorem try_wt : ∀ (l : List (Int × List UInt8)) (p : Ex.P), (∀ x ∈ l, 1 ≤ x.2.length) → (match (Ex.tryP l p).1 with | some _ => wtP (Ex.tryP l p).2 + 1 ≤ wtP p | none => wtP (Ex.tryP l p).2 ≤ wtP p)
  | [], p, _ => Nat.le_refl _
  | (k, t) :: r, p, hl => by
    unfold Ex.tryP
    by_cases h : (Ex.hasP t p).1 = true
    · rw [if_pos h]
      exact wt_has_yes h (hl _ (List.mem_cons_self ..))
    · rw [if_neg h]
      have h1 := wt_has t p
      have h2 := try_wt r (Ex.hasP t p).2 (fun x hx => hl x (List.mem_cons_of_mem _ hx))
      generalize Ex.tryP r (Ex.hasP t p).2 = z at *
      cases hz : z.1 <;> rw [hz] at h2 <;> simp only at h2 ⊢ <;> omega
def SgOk (p : Ex.P) (r : Option Ex.Nd × Ex.P) : Prop := match r.1 with | some _ => wtP r.2 + 1 ≤ wtP p | none => wtP r.2 ≤ wtP p
theorem sign_wt (k : Int) (p : Ex.P) : SgOk p (Ex.signE k p) := by
  unfold Ex.signE
  by_cases k0 : k = 0
  · rw [if_pos k0]
    by_cases h : (Ex.isP [111, 114] p).1 = true
    · simp only [h, if_true]
      exact wt_is_yes h (by decide)
    · simp only [h]
      exact wt_is _ _
  rw [if_neg k0]
  by_cases k1 : k = 1
  · rw [if_pos k1]
    by_cases h : (Ex.isP [97, 110, 100] p).1 = true
    · simp only [h, if_true]
      exact wt_is_yes h (by decide)
    · simp only [h]
      have h1 := wt_is [97, 110, 100] p
      by_cases h2 : (Ex.isP [117, 110, 108, 101, 115, 115] (Ex.isP [97, 110, 100] p).2).1 = true
      · simp only [h2, if_true]
        have := wt_is_yes h2 (by decide)
        exact Nat.le_trans this h1
      · simp only [h2]
        have := wt_is [117, 110, 108, 101, 115, 115] (Ex.isP [97, 110, 100] p).2
        show wtP _ ≤ wtP p
        exact Nat.le_trans this h1
  rw [if_neg k1]
  by_cases k2 : k = 2
  · rw [if_pos k2]
    have ht := try_wt Ex.cmpOrd p (by decide)
    rcases hz : Ex.tryP Ex.cmpOrd p with ⟨z1, z2⟩
    rw [hz] at ht
    cases z1 with
    | none => exact ht
    | some o =>
      have := wt_is Ex.boolT z2
      exact Nat.le_trans (Nat.succ_le_succ this) ht
  rw [if_neg k2]
  by_cases k3 : k = 3
  · rw [if_pos k3]
    by_cases h : (Ex.hasP [43] p).1 = true
    · simp only [h, if_true]
      exact wt_has_yes h (by decide)
    · simp only [h]
      have h1 := wt_has [43] p
      by_cases h2 : (Ex.hasP [45] (Ex.hasP [43] p).2).1 = true
      · simp only [h2, if_true]
        have := wt_has_yes h2 (by decide)
        exact Nat.le_trans this h1
      · simp only [h2]
        have := wt_has [45] (Ex.hasP [43] p).2
        show wtP _ ≤ wtP p
        exact Nat.le_trans this h1
  rw [if_neg k3]
  have ht := try_wt Ex.binOrd p (by decide)
  rcases hz : Ex.tryP Ex.binOrd p with ⟨z1, z2⟩
  rw [hz] at ht
  cases z1 with
  | none => exact ht
  | some o => exact ht
end Go.Proofs.YtmbfpichaaanpaaGreatDoor

/-! The reader of expressions: it never has more than it began with (nodes, bytes, one for not being bad). -/
namespace Go.Proofs.YtmbfpichaaanpaaGreatDoor
open Go.RowKit Ut Rx Mt

theorem wt_bare (p : Ex.P) : wtP (Ex.bareP p) ≤ wtP p := by
  have := bareF_le p.s
  unfold wtP Ex.bareP
  simp only
  omega
theorem names_wt : ∀ (n : Nat) (first : Bool) (acc : List ByteArray) (p : Ex.P) (r : List ByteArray × Ex.P), Ex.namesGo n first acc p = some r → wtP r.2 ≤ wtP p := by
  intro n
  induction n with
  | zero => intro first acc p r h; rw [Ex.namesGo] at h; cases h
  | succ n ih =>
    intro first acc p r h
    rw [names_step] at h
    split at h
    · cases h; exact Nat.le_refl _
    · split at h
      · cases h; exact wt_bare p
      · refine Nat.le_trans (ih _ _ _ _ h) ?_
        have h1 : wtP (if first = true then Ex.bareP p else Ex.mustP [44] (Ex.bareP p)) ≤ wtP p := by
          split
          · exact wt_bare p
          · exact Nat.le_trans (wt_must _ _) (wt_bare p)
        refine Nat.le_trans ?_ h1
        generalize (if first = true then Ex.bareP p else Ex.mustP [44] (Ex.bareP p)) = q
        unfold wtP
        have := bareF_le q.s
        simp only [List.length_drop]
        cases q.bad
        · cases (Ex.peekW q.s).isEmpty <;> simp <;> omega
        · simp; omega
theorem namesP_wt {p : Ex.P} {r : List ByteArray × Ex.P} (h : Ex.namesP p = some r) : wtP r.2 ≤ wtP p := by
  unfold Ex.namesP at h
  cases hg : Ex.namesGo (p.s.length + 3) true [] (Ex.mustP [40] p) with
  | none => rw [hg] at h; cases h
  | some x =>
    rw [hg] at h
    cases h
    exact Nat.le_trans (wt_must _ _) (Nat.le_trans (names_wt _ _ _ _ _ hg) (wt_must _ _))
theorem by_wt {op : Int} {p : Ex.P} {r : Ex.Nd × Ex.P} (h : Ex.byP op p = some r) : wtP r.2 ≤ wtP p := by
  unfold Ex.byP at h
  split at h
  · cases hn : Ex.namesP (Ex.isP Ex.byT p).2 with
    | none => rw [hn] at h; cases h
    | some x => rw [hn] at h; cases h; exact Nat.le_trans (namesP_wt hn) (wt_is _ _)
  · split at h
    · cases hn : Ex.namesP (Ex.isP Ex.withoutT (Ex.isP Ex.byT p).2).2 with
      | none => rw [hn] at h; cases h
      | some x => rw [hn] at h; cases h; exact Nat.le_trans (namesP_wt hn) (Nat.le_trans (wt_is _ _) (wt_is _ _))
    · cases h; exact Nat.le_trans (wt_is _ _) (wt_is _ _)
theorem bits_wt (p : Ex.P) (c : UInt8) (t : List UInt8) : wtP (Ex.bitsP { p with s := t }).2 + 1 ≤ wtP { p with s := c :: t } := by
  have key : ∀ (k v : Nat) (l : List UInt8), (Ex.hexGo k v l).2.2.length ≤ l.length := by
    intro k
    induction k with
    | zero => intro v l; rw [hexGo_zero]; exact Nat.le_refl _
    | succ k ih =>
      intro v l
      cases l with
      | nil => rw [hexGo_nil]; exact Nat.le_refl _
      | cons c t =>
        rw [hexGo_cons]
        split
        · exact Nat.le_trans (ih _ _) (by simp)
        · exact Nat.le_refl _
  have h := key 16 0 t
  unfold wtP Ex.bitsP
  simp only [List.length_cons]
  cases p.bad
  · simp only [Bool.false_or]
    split <;> simp <;> omega
  · simp; omega
theorem who_len (most : Nat) : ∀ (l : List UInt8) (n k m k2 : Nat) (r : List UInt8), Ex.whoGo most n k l = some (m, k2, r) → r.length + k2 = l.length + k ∧ k ≤ k2
  | [], n, k, m, k2, r, h => by
    rw [who_nil] at h
    simp only [Option.some.injEq, Prod.mk.injEq] at h
    obtain ⟨_, rfl, rfl⟩ := h
    simp
  | c :: t, n, k, m, k2, r, h => by
    rw [who_cons] at h
    split at h
    · split at h
      · cases h
      · have := who_len most t _ _ m k2 r h
        simp only [List.length_cons]
        omega
    · simp only [Option.some.injEq, Prod.mk.injEq] at h
      obtain ⟨_, rfl, rfl⟩ := h
      simp
theorem whole_wt (most : Nat) (p : Ex.P) : wtP (Ex.wholeP most p).2 ≤ wtP p := by
  have hb := bareF_le p.s
  unfold Ex.wholeP
  cases h : Ex.whoGo most 0 0 (bareF p.s) with
  | none =>
    unfold wtP Ex.bareP
    simp only [if_true]
    omega
  | some x =>
    obtain ⟨m, k, r⟩ := x
    have := who_len most _ _ _ _ _ _ h
    unfold wtP
    simp only
    cases p.bad
    · simp only [Bool.false_or]
      split <;> simp <;> omega
    · simp; omega
theorem whole_wt1 (most : Nat) (p : Ex.P) (c : UInt8) (t : List UInt8) (hc : bareF p.s = c :: t) (hd : Ex.digC c = true) (hb : p.bad = false) : wtP (Ex.wholeP most p).2 + 1 ≤ wtP p := by
  have hbl := bareF_le p.s
  have hcl := congrArg List.length hc
  simp only [List.length_cons] at hcl
  unfold Ex.wholeP
  cases h : Ex.whoGo most 0 0 (bareF p.s) with
  | none =>
    unfold wtP Ex.bareP
    simp only [if_true, hb]
    simp
    omega
  | some x =>
    obtain ⟨m, k, r⟩ := x
    have h1 := who_len most _ _ _ _ _ _ h
    have hk : 1 ≤ k := by
      rw [hc, who_cons, if_pos hd] at h
      split at h
      · cases h
      · exact (who_len most _ _ _ _ _ _ h).2
    unfold wtP
    simp only [hb, Bool.false_or]
    split <;> simp <;> omega
theorem peek_pos {p : Ex.P} (h : Ex.peekW p.s ≠ []) : 1 ≤ (Ex.peekW p.s).length := List.length_pos_iff.2 h
theorem braces_wt (p : Ex.P) : wtP (Ex.bracesE p).2 ≤ wtP p ∧ ((Ex.bracesE p).1 = [] → (Ex.bracesE p).2.bad = true) ∧ ((Ex.bracesE p).1 ≠ [] → wtP (Ex.bracesE p).2 + 1 ≤ wtP p) := by
  unfold Ex.bracesE
  cases h : Ex.scanF p.s.length (p.s.drop 1) with
  | none =>
    refine ⟨?_, fun _ => rfl, fun e => absurd rfl e⟩
    unfold wtP
    simp only [if_true]
    omega
  | some n =>
    have hne : 1 ≤ p.s.length := by
      rcases Nat.eq_zero_or_pos p.s.length with h0 | h0
      · rw [h0, Ex.scanF] at h; cases h
      · exact h0
    refine ⟨?_, fun e => ?_, fun _ => ?_⟩
    · unfold wtP; simp only [List.length_drop]; omega
    · exfalso
      have := congrArg List.length e
      simp only [List.length_take, List.length_nil] at this
      omega
    · unfold wtP; simp only [List.length_drop]; omega
theorem selA_wt (p : Ex.P) : wtP (selA p) + (Ex.peekW p.s).length ≤ wtP p := by
  have h1 := bareF_le p.s
  have h2 := bareF_le ((bareF p.s).drop (Ex.peekW p.s).length)
  have h3 := peek_le p.s
  simp only [List.length_drop] at h2
  unfold wtP selA
  simp only
  omega
theorem selB_wt (p : Ex.P) (hb : p.bad = false) : wtP (selB p) + 1 ≤ wtP p := by
  have hA := selA_wt p
  have hbw := braces_wt (selA p)
  have hw : wtP (Ex.selW p).2 ≤ wtP (selA p) := by
    rw [selW_eq]; split
    · exact hbw.1
    · exact Nat.le_refl _
  by_cases he : (Ex.selW p).1 = []
  · have hsb : (selB p).bad = true := by
      show ((Ex.selW p).2.bad || (Ex.selW p).1.isEmpty) = true
      rw [he]; simp
    have h1 : (selB p).l = p.l := (selW_l p).1
    have h2 : (selB p).s.length ≤ (selA p).s.length := selW_le p
    have h3 : (selA p).s.length ≤ p.s.length := by
      have a1 := bareF_le p.s
      have a2 := bareF_le ((bareF p.s).drop (Ex.peekW p.s).length)
      simp only [List.length_drop] at a2
      unfold selA; simp only; omega
    unfold wtP
    rw [hsb, hb, h1]
    simp
    omega
  · have hsb : wtP (selB p) ≤ wtP (Ex.selW p).2 := by
      unfold wtP selB
      simp only
      cases (Ex.selW p).2.bad
      · simp only [Bool.false_or]; split <;> simp
      · simp
    by_cases hp : Ex.peekW p.s = []
    · have hbr : (Ex.selW p).2 = (Ex.bracesE (selA p)).2 ∧ (Ex.bracesE (selA p)).1 ≠ [] := by
        rw [selW_eq] at he ⊢
        split at he
        · rename_i hh
          rw [if_pos hh]
          refine ⟨rfl, fun e => he ?_⟩
          show Ex.peekW p.s ++ _ = []
          rw [hp, e]; rfl
        · exact absurd hp he
      rw [hbr.1] at hsb
      have := hbw.2.2 hbr.2
      omega
    · have := peek_pos hp
      omega
def selP2 (p : Ex.P) : Ex.P := match parseP (Ex.selW p).1 with | .ok _ => selB p | .error x => { selB p with e := if (selB p).e = 0 then x else (selB p).e }
theorem selE_eq2 (p : Ex.P) : Ex.selE p = if (Ex.hasP [91] (selP2 p)).1 then
      Ex.putP { Ex.nd0 with k := 2, wd := (Ex.wholeP 9223372036854775807 (Ex.hasP [91] (selP2 p)).2).1, sel := selS p } (Ex.mustP [93] (Ex.wholeP 9223372036854775807 (Ex.hasP [91] (selP2 p)).2).2)
    else Ex.putP { Ex.nd0 with k := 1, sel := selS p } (Ex.hasP [91] (selP2 p)).2 := rfl
theorem selE_wt (p : Ex.P) (hb : p.bad = false) : wtP (Ex.selE p) ≤ wtP p := by
  have h1 := selB_wt p hb
  have h2 : wtP (selP2 p) = wtP (selB p) := by
    unfold selP2
    cases parseP (Ex.selW p).1 <;> rfl
  have h3 := wt_has [91] (selP2 p)
  rw [selE_eq2]
  split
  · rw [wt_put]
    have h4 := whole_wt 9223372036854775807 (Ex.hasP [91] (selP2 p)).2
    have h5 := wt_must [93] (Ex.wholeP 9223372036854775807 (Ex.hasP [91] (selP2 p)).2).2
    omega
  · rw [wt_put]
    omega
theorem call_word {s : List UInt8} (h : Ex.callAt s = true) : Ex.peekW s ≠ [] := by
  intro e
  unfold Ex.callAt at h
  rw [e] at h
  revert h
  have h1 : Ex.placeE Ex.callsT [] = -1 := by decide
  have h2 : Ex.placeE Ex.aggsT [] = -1 := by decide
  simp [h1, h2]
end Go.Proofs.YtmbfpichaaanpaaGreatDoor

/-! The reader of expressions never has more than it began with. -/
namespace Go.Proofs.YtmbfpichaaanpaaGreatDoor
open Go.RowKit Ut Rx Mt

theorem wt_cut {p : Ex.P} {c : UInt8} {t : List UInt8} (hc : bareF p.s = c :: t) : wtP { p with s := t } + 1 ≤ wtP p := by
  have h := bareF_le p.s
  rw [hc] at h
  unfold wtP
  simp only [List.length_cons] at *
  omega
theorem wt_drop {p : Ex.P} {s : List UInt8} (hs : s.length ≤ p.s.length) {k : Nat} (hk : 1 ≤ k) (hk2 : k ≤ s.length) : wtP { p with s := s.drop k } + 1 ≤ wtP p := by
  unfold wtP
  simp only [List.length_drop]
  omega
theorem parE_wt (of : Int → Nat) : ∀ (n : Nat) (md : Ex.Md) (p q : Ex.P), Ex.parE of n md p = some q → wtP q ≤ wtP p := by
  intro n
  induction n with
  | zero => intro md p q h; rw [Ex.parE] at h; cases h
  | succ n ih =>
    intro md p q h
    cases md with
    | level k =>
      rw [Ex.parE] at h
      obtain ⟨r, h1, h2⟩ := Option.bind_eq_some_iff.1 h
      exact Nat.le_trans (ih _ _ _ h2) (ih _ _ _ h1)
    | loop k =>
      rw [Ex.parE] at h
      split at h
      · cases h; exact Nat.le_refl _
      · have sg := sign_wt k p
        rcases hs : Ex.signE k p with ⟨a, b⟩
        rw [hs] at h sg
        cases a with
        | none => cases h; exact sg
        | some x =>
          obtain ⟨r, h1, h2⟩ := Option.bind_eq_some_iff.1 h
          have e1 := ih _ _ _ h1
          have e2 := ih _ _ _ h2
          rw [wt_put] at e2
          have sg2 : wtP b + 1 ≤ wtP p := sg
          omega
    | term =>
      rw [Ex.parE] at h
      cases hc : bareF p.s with
      | nil =>
        rw [hc] at h
        cases h
        have := wt_bare p
        unfold wtP Ex.bareP at *
        simp only [if_true] at *
        omega
      | cons c t =>
        rw [hc] at h
        simp only at h
        have hcut := wt_cut hc
        have hlen : (c :: t).length ≤ p.s.length := hc ▸ bareF_le p.s
        split at h
        · cases h; exact wt_bare p
        · rename_i hbad
          have hb : p.bad = false := by simpa using hbad
          split at h
          · obtain ⟨r, h1, rfl⟩ := Option.map_eq_some_iff.1 h
            have := ih _ _ _ h1
            rw [wt_put]; omega
          · split at h
            · rename_i hd
              cases h
              rw [wt_put]
              have hbb : bareF (Ex.bareP p).s = c :: t := by
                show bareF (bareF p.s) = _
                rw [hc]
                have hne : c ≠ 32 := by
                  intro e
                  rw [e] at hd
                  simp [Ex.digC] at hd
                exact bare_no hne
              exact Nat.le_trans (whole_wt1 _ _ c t hbb hd hb) (wt_bare p)
            · split at h
              · cases h
                rw [wt_put]
                refine Nat.le_trans (bits_wt p c t) ?_
                unfold wtP; simp only; omega
              · split at h
                · obtain ⟨r, h1, rfl⟩ := Option.map_eq_some_iff.1 h
                  have := ih _ _ _ h1
                  exact Nat.le_trans (wt_must _ _) (by omega)
                · split at h
                  · rename_i hca
                    have hw := List.length_pos_iff.2 (call_word hca)
                    have hw2 := Nat.le_trans (peek_le (c :: t)) (bareF_le (c :: t))
                    have hp1 := wt_drop hlen hw hw2
                    generalize ({ p with s := (c :: t).drop (Ex.peekW (c :: t)).length } : Ex.P) = p1 at *
                    split at h
                    · obtain ⟨r, h1, h2⟩ := Option.bind_eq_some_iff.1 h
                      obtain ⟨q1, h3, h4⟩ := Option.bind_eq_some_iff.1 h2
                      have e1 := by_wt h1
                      have e2 := ih _ _ _ h3
                      have e3 := wt_must [40] r.2
                      split at h4
                      · obtain ⟨q2, h5, rfl⟩ := Option.map_eq_some_iff.1 h4
                        have e4 := ih _ _ _ h5
                        have e5 := wt_must [44] q1
                        have e6 := wt_must [41] q2
                        rw [wt_put]
                        omega
                      · cases h4
                        have e6 := wt_must [41] q1
                        rw [wt_put]
                        omega
                    · obtain ⟨q1, h3, rfl⟩ := Option.map_eq_some_iff.1 h
                      have e2 := ih _ _ _ h3
                      have e3 := wt_must [40] p1
                      have e6 := wt_must [41] q1
                      rw [wt_put]
                      omega
                  · cases h
                    exact Nat.le_trans (selE_wt _ hb) (wt_bare p)
end Go.Proofs.YtmbfpichaaanpaaGreatDoor
