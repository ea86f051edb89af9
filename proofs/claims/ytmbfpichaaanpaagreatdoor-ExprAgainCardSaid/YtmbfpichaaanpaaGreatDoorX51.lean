import Derived.Test.YtmbfpichaaanpaaGreatDoorX50
import Derived.Test.YtmbfpichaaanpaaGreatDoorX48
import Derived.Test.YtmbfpichaaanpaaGreatDoorX49
/-! What is printed is read: every part. No program in sight. -/
namespace Go.Proofs.YtmbfpichaaanpaaGreatDoor
open Ut Rx Mt Go.Lib

/-- what may stand behind a part -/
structure Stp (r : List UInt8) : Prop where
  word : ∀ c ∈ r.head?, letU c = false
  n123 : (bareF r).head? ≠ some 123
  n91 : (bareF r).head? ≠ some 91
theorem stp_end (r : List UInt8) : Stp (41 :: r) := ⟨fun c hc => by
  obtain rfl : (41 : UInt8) = c := Option.some.inj hc
  decide, fun e => absurd (Option.some.inj e) (by decide), fun e => absurd (Option.some.inj e) (by decide)⟩
theorem stp_comma (r : List UInt8) : Stp (44 :: r) := ⟨fun c hc => by
  obtain rfl : (44 : UInt8) = c := Option.some.inj hc
  decide, fun e => absurd (Option.some.inj e) (by decide), fun e => absurd (Option.some.inj e) (by decide)⟩
theorem stp_nil : Stp [] := ⟨fun c hc => (by cases hc), fun e => (by cases e), fun e => (by cases e)⟩
theorem stp_sign {x : Ex.Nd} {o r t : List UInt8} (h : SgN x o r) : Stp (32 :: (o ++ t)) := ⟨head32 _, by
  rw [bare_yes rfl, h.bare]; exact (h.head t).1, by
  rw [bare_yes rfl, h.bare]; exact (h.head t).2⟩
theorem end_r (r : List UInt8) : EndS (41 :: r) := Or.inr ⟨r, Or.inl rfl⟩
theorem end_c (r : List UInt8) : EndS (44 :: r) := Or.inr ⟨r, Or.inr rfl⟩
theorem dig_let {c : UInt8} (h : Ex.digC c = true) : letU c = true := by
  unfold Ex.digC at h
  simp only [Bool.and_eq_true, decide_eq_true_eq] at h
  rw [letU_iff]
  omega
theorem dig_stop {r : List UInt8} (h : ∀ c ∈ r.head?, letU c = false) : ∀ c, r.head? = some c → Ex.digC c = false := fun c hc => by
  cases hd : Ex.digC c with
  | false => rfl
  | true =>
    have := h c hc
    rw [dig_let hd] at this
    cases this
theorem peek_dig {c : UInt8} {t : List UInt8} (h : Ex.digC c = true) : Ex.peekW (c :: t) = [] := by
  have hb : bareF (c :: t) = c :: t := bare_let (dig_let h)
  unfold Ex.peekW
  have hw : Ex.wordF (c :: t) = c :: Ex.wordF t := by
    unfold Ex.wordF
    rw [List.takeWhile_cons, if_pos (dig_let h)]
  rw [hb, hw, if_pos]
  unfold Ex.digC at h
  unfold headDig digU
  simp only [Bool.and_eq_true, decide_eq_true_eq] at h ⊢
  omega
theorem sel_named {t : List M} (X : List UInt8) (hX : ∀ c ∈ X.head?, letU c = false) : ∀ c ∈ ((if t = [] then ([] : List UInt8) else bracesF t) ++ X).head?, letU c = false := fun c hc => by
  split at hc
  · exact hX c hc
  · obtain rfl : (123 : UInt8) = c := Option.some.inj hc
    decide
theorem reserved_no {w : List UInt8} (h : Ex.reservedE w = false) : w ≠ Ex.boolT ∧ Ex.placeE Ex.callsT w < 0 ∧ Ex.placeE Ex.aggsT w < 0 := by
  unfold Ex.reservedE at h
  simp only [Bool.or_eq_false_iff, decide_eq_false_iff_not] at h
  exact ⟨h.1.1.1.1.1, by omega, by omega⟩
/-- a selector's text: neither a call nor a word of the signs -/
theorem sel_head (l : List M) (X : List UInt8) (hX : ∀ c ∈ X.head?, letU c = false) : Ex.peekW (Ex.selT l ++ X) ≠ Ex.boolT ∧ Ex.callAt (Ex.selT l ++ X) = false ∧ ∃ c t, Ex.selT l ++ X = c :: t ∧ c ≠ 45 ∧ Ex.digC c = false ∧ c ≠ 35 ∧ c ≠ 40 ∧ c ≠ 32 := by
  rcases sel_form l with h | ⟨m, t, rfl, hn, hres, hp, hf⟩
  · rw [h]
    have hw : Ex.peekW (bracesF l ++ X) = [] := rfl
    refine ⟨by rw [hw]; decide, ?_, 123, braGo true l ++ X, rfl, by decide, by decide, by decide, by decide, by decide⟩
    unfold Ex.callAt
    simp only [hw]
    rfl
  · rw [hp, hf, List.append_assoc]
    obtain ⟨h1, h2⟩ := peek_word hn (sel_named (t := t) X hX)
    obtain ⟨r1, r2, r3⟩ := reserved_no hres
    refine ⟨by rw [h2]; exact r1, ?_, ?_⟩
    · unfold Ex.callAt
      simp only [h2]
      rw [decide_eq_false (by omega), decide_eq_false (by omega)]
      rfl
    · obtain ⟨hne, hl, hd⟩ := named_letters hn
      cases hv : by_ m.v with
      | nil => exact absurd hv hne
      | cons c u =>
        rw [hv] at hl hd
        have hc := hl c (List.mem_cons_self ..)
        refine ⟨c, _, rfl, ?_, ?_, ?_, ?_, (letU_vals hc).1⟩
        · rintro rfl; revert hc; decide
        · unfold headDig digU at hd
          unfold Ex.digC
          simp only [Bool.and_eq_false_iff, decide_eq_false_iff_not] at hd ⊢
          omega
        · rintro rfl; revert hc; decide
        · rintro rfl; revert hc; decide
theorem num_form (f : Ex.Fl) (v : Nat) : (∃ z : Int, Ex.numE f v = Ex.digF z.toNat ∧ 0 ≤ z ∧ z ≤ 9007199254740992 ∧ f.of z = v) ∨ Ex.numE f v = 35 :: Ex.hexF 16 v := by
  unfold Ex.numE
  split
  · rename_i h
    exact Or.inl ⟨f.ws v, rfl, h.2.1, h.2.2.1, h.2.2.2⟩
  · exact Or.inr rfl
theorem dig_form (n : Nat) (X : List UInt8) : ∃ c t, Ex.digF n ++ X = c :: t ∧ Ex.digC c = true := by
  obtain ⟨c, t, h, hc⟩ := dig_first 20 n
  unfold Ex.digF
  exact ⟨c, t ++ X, by rw [h]; rfl, hc⟩
/-- the text of a part does not begin with the word bool, nor with a space -/
theorem peek_txt (f : Ex.Fl) (T : Ex.Tr) (ho : T.ok) (X : List UInt8) (hX : ∀ c ∈ X.head?, letU c = false) : Ex.peekW (Ex.txt f T ++ X) ≠ Ex.boolT ∧ bareF (Ex.txt f T ++ X) = Ex.txt f T ++ X := by
  have par : ∀ Y : List UInt8, Ex.peekW (40 :: Y) ≠ Ex.boolT ∧ bareF (40 :: Y) = 40 :: Y := fun Y => ⟨by show ([] : List UInt8) ≠ _; decide, rfl⟩
  have agg : ∀ (n : Ex.Nd) (Y : List UInt8) (o : Int), 0 ≤ o → o < 6 → Ex.peekW (Ex.nthT Ex.aggsT o ++ (Ex.groupT n ++ 40 :: Y)) ≠ Ex.boolT ∧ bareF (Ex.nthT Ex.aggsT o ++ (Ex.groupT n ++ 40 :: Y)) = Ex.nthT Ex.aggsT o ++ (Ex.groupT n ++ 40 :: Y) := fun n Y o h0 h6 => by
    obtain ⟨hw, _⟩ := agg_facts h0 h6
    obtain ⟨h1, h2, _⟩ := peek_drop hw (group_head n Y)
    exact ⟨by rw [h2]; exact hw.nbool, h1⟩
  have sel : ∀ (l : List M) (Y : List UInt8), (∀ c ∈ Y.head?, letU c = false) → Ex.peekW (Ex.selT l ++ Y) ≠ Ex.boolT ∧ bareF (Ex.selT l ++ Y) = Ex.selT l ++ Y := fun l Y hY => by
    obtain ⟨h1, _, c, t, h2, _, _, _, _, h3⟩ := sel_head l Y hY
    exact ⟨h1, by rw [h2]; exact bare_no h3⟩
  cases T with
  | lf n =>
    unfold Ex.txt
    split
    · rcases num_form f n.v with ⟨z, h, _⟩ | h
      · rw [h]
        obtain ⟨c, t, hc, hd⟩ := dig_form z.toNat X
        rw [hc]
        exact ⟨by rw [peek_dig hd]; decide, bare_let (dig_let hd)⟩
      · rw [h]
        exact ⟨by show ([] : List UInt8) ≠ _; decide, rfl⟩
    · split
      · exact sel n.sel X hX
      · have e : Ex.selT n.sel ++ [91] ++ Ex.digF n.wd ++ [93] ++ X = Ex.selT n.sel ++ (91 :: (Ex.digF n.wd ++ 93 :: X)) := by simp
        rw [e]
        exact sel n.sel _ fun c hc => by
          obtain rfl : (91 : UInt8) = c := Option.some.inj hc
          decide
  | un n b =>
    have hop := Ex.alone_op ho.2.1
    unfold Ex.txt
    split
    · rename_i hk
      have h15 : n.op < 15 := hop.2 (by rw [hk]; decide)|> fun h => by rw [hk] at h; exact h
      obtain ⟨hw, _⟩ := call_facts hop.1 h15
      have e : Ex.nthT Ex.callsT n.op ++ [40] ++ Ex.txt f b ++ [41] ++ X = Ex.nthT Ex.callsT n.op ++ 40 :: (Ex.txt f b ++ 41 :: X) := by simp
      rw [e]
      obtain ⟨h1, h2, _⟩ := peek_drop hw (head40 (Ex.txt f b ++ 41 :: X))
      exact ⟨by rw [h2]; exact hw.nbool, h1⟩
    · rename_i hk3
      split
      · have e : [40, 45] ++ Ex.txt f b ++ [41] ++ X = 40 :: (45 :: (Ex.txt f b ++ 41 :: X)) := by simp
        rw [e]
        exact par _
      · rename_i hk4
        have hk : n.k = 8 ∧ n.op ≠ 5 := by exact (Ex.takes_un ho.1).elim (fun h => absurd h hk3) fun h => h.elim (fun h => absurd h hk4) id
        have h6 : n.op < 6 := hop.2 (by rw [hk.1]; decide)|> fun h => by rw [hk.1] at h; exact h
        have e : Ex.nthT Ex.aggsT n.op ++ Ex.groupT n ++ [40] ++ Ex.txt f b ++ [41] ++ X = Ex.nthT Ex.aggsT n.op ++ (Ex.groupT n ++ 40 :: (Ex.txt f b ++ 41 :: X)) := by simp
        rw [e]
        exact agg n _ n.op hop.1 h6
  | bi n a b =>
    have hop := Ex.alone_op ho.2.1
    unfold Ex.txt
    split
    · have e : Ex.pairT (Ex.txt f a) (Ex.nthT Ex.binsT n.op) (Ex.txt f b) ++ X = 40 :: (Ex.txt f a ++ [32] ++ Ex.nthT Ex.binsT n.op ++ [32] ++ Ex.txt f b ++ [41] ++ X) := by simp [Ex.pairT]
      rw [e]
      exact par _
    · rename_i hk5
      split
      · exact par _
      · rename_i hk6
        split
        · exact par _
        · rename_i hk7
          have hk : n.k = 8 ∧ n.op = 5 := by exact (Ex.takes_bi ho.1).elim (fun h => absurd h hk5) fun h => h.elim (fun h => absurd h hk6) fun h => h.elim (fun h => absurd h hk7) id
          have e : Ex.nthT Ex.aggsT n.op ++ Ex.groupT n ++ [40] ++ Ex.txt f a ++ [44, 32] ++ Ex.txt f b ++ [41] ++ X = Ex.nthT Ex.aggsT n.op ++ (Ex.groupT n ++ 40 :: (Ex.txt f a ++ [44, 32] ++ Ex.txt f b ++ [41] ++ X)) := by simp
          rw [e]
          exact agg n _ n.op hop.1 (by omega)
end Go.Proofs.YtmbfpichaaanpaaGreatDoor

/-! What is printed is read: the whole. No program in sight. -/
namespace Go.Proofs.YtmbfpichaaanpaaGreatDoor
open Ut Rx Mt Go.Lib

theorem must_p {c : UInt8} {p q : Ex.P} {t : List UInt8} (h : Ex.bareP q = p) (hs : p.s = c :: t) : Ex.mustP [c] q = { p with s := t } := by
  subst h
  rw [must_eat c q t hs]
  rfl
/-- what a part's reading comes to -/
def TermB (f : Ex.Fl) (T : Ex.Tr) : Prop := ∀ (p : Ex.P) (rest : List UInt8), p.bad = false → bareF p.s = Ex.txt f T ++ rest → Stp rest → ∃ q, Trm f.of p q ∧ Ex.bareP q = ⟨bareF rest, p.l ++ T.nds, false, p.e⟩
/-- a part that ends -/
theorem full_of {f : Ex.Fl} {T : Ex.Tr} (h : TermB f T) {p : Ex.P} {rest : List UInt8} (hb : p.bad = false) (hs : bareF p.s = Ex.txt f T ++ rest) (hr : Stp rest) (he : EndS rest) : ∃ q, Lvl f.of 0 p q ∧ Ex.bareP q = ⟨bareF rest, p.l ++ T.nds, false, p.e⟩ := by
  obtain ⟨q, h1, h2⟩ := h p rest hb hs hr
  have hq : q.bad = false := by
    have : (Ex.bareP q).bad = false := by rw [h2]
    exact this
  have hqs : bareF q.s = bareF rest := by
    have : (Ex.bareP q).s = bareF rest := by rw [h2]
    exact this
  obtain ⟨q2, h3, h4⟩ := lvl_full h1 hq (by unfold EndS at he ⊢; rw [hqs]; exact he)
  exact ⟨q2, h3, h4.trans h2⟩
/-- two parts with a sign between -/
theorem pair_of {f : Ex.Fl} {A B : Ex.Tr} {x : Ex.Nd} {o : List UInt8} (ha : TermB f A) (hb : TermB f B) (hA : ∀ X : List UInt8, (∀ c ∈ X.head?, letU c = false) → bareF (Ex.txt f A ++ X) = Ex.txt f A ++ X) (hB : ∀ X : List UInt8, (∀ c ∈ X.head?, letU c = false) → bareF (Ex.txt f B ++ X) = Ex.txt f B ++ X) {p : Ex.P} {rest : List UInt8}
    (hg : SgN x o (Ex.txt f B ++ 41 :: rest)) (hbad : p.bad = false) (hs : bareF p.s = Ex.pairT (Ex.txt f A) o (Ex.txt f B) ++ rest) : ∃ q, Trm f.of p q ∧ Ex.bareP q = ⟨bareF rest, p.l ++ (A.nds ++ B.nds ++ [x]), false, p.e⟩ := by
  have e : Ex.pairT (Ex.txt f A) o (Ex.txt f B) ++ rest = 40 :: (Ex.txt f A ++ (32 :: (o ++ 32 :: (Ex.txt f B ++ 41 :: rest)))) := by simp [Ex.pairT]
  rw [e] at hs
  obtain ⟨p1, h1, e1⟩ := ha { p with s := Ex.txt f A ++ (32 :: (o ++ 32 :: (Ex.txt f B ++ 41 :: rest))) } (32 :: (o ++ 32 :: (Ex.txt f B ++ 41 :: rest))) hbad (hA _ (head32 _)) (stp_sign hg)
  rw [bare_yes rfl, hg.bare] at e1
  obtain ⟨k, hk, hsig⟩ := hg.sign
  obtain ⟨hmiss, s2, hs2, hhit⟩ := hsig (p.l ++ A.nds) false p.e
  have hb1 : p1.bad = false := by
    have : (Ex.bareP p1).bad = false := by rw [e1]
    exact this
  obtain ⟨p3, h3, e3⟩ := hb ⟨s2, p.l ++ A.nds, false, p.e⟩ (41 :: rest) rfl (hs2.trans (hB _ (stp_end rest).word)) (stp_end rest)
  have hb3 : p3.bad = false := by
    have : (Ex.bareP p3).bad = false := by rw [e3]
    exact this
  have he3 : bareF p3.s = 41 :: rest := by
    have : (Ex.bareP p3).s = 41 :: rest := by rw [e3]; rfl
    exact this
  obtain ⟨q, hq, eq⟩ := lvl_pair hk h1 hb1 (by rw [e1]; exact hmiss) (by rw [e1]; exact hhit) h3 hb3 (Or.inr ⟨rest, Or.inl he3⟩)
  refine ⟨Ex.mustP [41] q, term_paren hs hbad hq, ?_⟩
  have hl3 : p3.l = p.l ++ A.nds ++ B.nds := by
    have : (Ex.bareP p3).l = p.l ++ A.nds ++ B.nds := by rw [e3]
    exact this
  have hee : p3.e = p.e := by
    have : (Ex.bareP p3).e = p.e := by rw [e3]
    exact this
  have eq2 : Ex.bareP q = ⟨41 :: rest, p.l ++ (A.nds ++ B.nds ++ [x]), false, p.e⟩ := by
    rw [eq]
    unfold Ex.bareP Ex.putP
    simp only [he3, hl3, hb3, hee]
    simp
  rw [must_p eq2 rfl]
  rfl
theorem bare_put {x : Ex.Nd} {q : Ex.P} {s : List UInt8} {l : List Ex.Nd} {e : Int} (h : Ex.bareP q = ⟨s, l, false, e⟩) : Ex.bareP (Ex.putP x q) = ⟨s, l ++ [x], false, e⟩ := by
  have h1 : bareF q.s = s := by
    have : (Ex.bareP q).s = s := by rw [h]
    exact this
  have h2 : q.l = l := by
    have : (Ex.bareP q).l = l := by rw [h]
    exact this
  have h3 : q.bad = false := by
    have : (Ex.bareP q).bad = false := by rw [h]
    exact this
  have h4 : q.e = e := by
    have : (Ex.bareP q).e = e := by rw [h]
    exact this
  unfold Ex.bareP Ex.putP
  simp only [h1, h2, h3, h4]
theorem bare_rest {p : Ex.P} {rest : List UInt8} (hb : p.bad = false) : Ex.bareP { p with s := bareF rest } = ⟨bareF rest, p.l, false, p.e⟩ := by
  unfold Ex.bareP
  simp only [bare_bare, hb]
theorem bare_rest2 {p : Ex.P} {rest : List UInt8} (hb : p.bad = false) : Ex.bareP { p with s := rest } = ⟨bareF rest, p.l, false, p.e⟩ := by
  unfold Ex.bareP
  simp only [hb]
theorem nd_eq {n : Ex.Nd} (h : Ex.aloneE n = 0) : n = ⟨n.k, if Ex.opsE n.k = 0 then 0 else n.op, if n.k = 0 then n.v else 0, if n.k = 2 then n.wd else 0, if n.k = 1 ∨ n.k = 2 then n.sel else [], if n.k = 6 then n.bl else false, if n.k = 8 then n.gb else false, if n.k = 8 then n.nm else []⟩ := by
  obtain ⟨h1, h2, h3, h4, h5, h6⟩ := nd_facts h
  obtain ⟨k, op, v, wd, sel, bl, gb, nm⟩ := n
  simp only at h1 h2 h3 h4 h5 h6 ⊢
  congr 1
  · split
    · rename_i h; exact h6 h
    · rfl
  · split
    · rfl
    · rename_i h; exact h1 h
  · split
    · rfl
    · rename_i h; exact h2 h
  · split
    · rfl
    · rename_i h; exact h3 (fun e => h (Or.inl e)) (fun e => h (Or.inr e))
  · split
    · rfl
    · rename_i h; exact h4 h
  · split
    · rfl
    · rename_i h; exact (h5 h).1
  · split
    · rfl
    · rename_i h; exact (h5 h).2
theorem term_back (f : Ex.Fl) : ∀ T : Ex.Tr, T.ok → (∀ n ∈ T.nds, n.v < 18446744073709551616) → TermB f T := by
  intro T
  induction T with
  | lf n =>
    intro ho hv p rest hb hs hr
    have hne := nd_eq ho.2
    unfold Ex.txt at hs
    rcases Ex.takes_lf ho.1 with hk | hk | hk
    · rw [if_pos hk] at hs
      have hn : n = { Ex.nd0 with v := n.v } := by rw [hne]; simp [hk, Ex.opsE, Ex.nd0]
      rcases num_form f n.v with ⟨z, hz, z0, z1, zv⟩ | hz
      · rw [hz] at hs
        obtain ⟨c, t, hc, hd⟩ := dig_form z.toNat rest
        have hw := whole_back (most := 9007199254740992) (n := z.toNat) (p := Ex.bareP p) (rest := rest) (by show bareF (bareF p.s) = _; rw [bare_bare]; exact hs) (by omega) (Nat.lt_of_le_of_lt (show z.toNat ≤ 9007199254740992 by omega) (by decide)) (dig_stop hr.word)
        have ht := term_num (of := f.of) (hs.trans hc) hb hd
        rw [hw] at ht
        refine ⟨_, ht, ?_⟩
        rw [show f.of (((z.toNat, { Ex.bareP p with s := rest }) : Nat × Ex.P).1 : Int) = n.v from by rw [show (((z.toNat, { Ex.bareP p with s := rest }) : Nat × Ex.P).1 : Int) = z from Int.toNat_of_nonneg z0, zv]]
        rw [← hn]
        exact bare_put (bare_rest2 (p := Ex.bareP p) hb)
      · rw [hz, List.cons_append] at hs
        have hw := bits_back (p := { p with s := Ex.hexF 16 n.v ++ rest }) (v := n.v) (rest := rest) rfl (hv n (List.mem_singleton.2 rfl))
        have ht := term_hex (of := f.of) hs hb
        rw [hw] at ht
        refine ⟨_, ht, ?_⟩
        rw [← hn]
        exact bare_put (bare_rest2 (p := p) hb)
    · rw [if_neg (by omega), if_pos hk] at hs
      have hn : n = { Ex.nd0 with k := 1, sel := n.sel } := by rw [hne]; simp [hk, Ex.opsE, Ex.nd0]
      obtain ⟨_, hcall, c, t, hct, c1, c2, c3, c4, _⟩ := sel_head n.sel rest hr.word
      rw [hct] at hcall
      refine ⟨_, term_sel (hs.trans hct) hb c1 c2 c3 c4 hcall, ?_⟩
      rw [selE_one (nd_sel ho.2 (Or.inl hk)).1 (p := Ex.bareP p) (by show bareF (bareF p.s) = _; rw [bare_bare]; exact hs) hr.word hr.n123 hr.n91, ← hn]
      exact bare_put (bare_rest (p := Ex.bareP p) hb)
    · rw [if_neg (by omega), if_neg (by omega)] at hs
      have hn : n = { Ex.nd0 with k := 2, wd := n.wd, sel := n.sel } := by rw [hne]; simp [hk, Ex.opsE, Ex.nd0]
      have e : Ex.selT n.sel ++ [91] ++ Ex.digF n.wd ++ [93] ++ rest = Ex.selT n.sel ++ (91 :: (Ex.digF n.wd ++ 93 :: rest)) := by simp
      rw [e] at hs
      obtain ⟨_, hcall, c, t, hct, c1, c2, c3, c4, _⟩ := sel_head n.sel (91 :: (Ex.digF n.wd ++ 93 :: rest)) (fun c hc => by
        obtain rfl : (91 : UInt8) = c := Option.some.inj hc
        decide)
      rw [hct] at hcall
      refine ⟨_, term_sel (hs.trans hct) hb c1 c2 c3 c4 hcall, ?_⟩
      have hsel := nd_sel ho.2 (Or.inr hk)
      rw [selE_two hsel.1 (p := Ex.bareP p) (by show bareF (bareF p.s) = _; rw [bare_bare]; exact hs) (hsel.2 hk), ← hn]
      exact bare_put (bare_rest2 (p := Ex.bareP p) hb)
  | un n b ih =>
    intro ho hv p rest hb hs hr
    have ih := ih ho.2.2.2 (fun x hx => hv x (by simp [Ex.Tr.nds, hx]))
    have hne := nd_eq ho.2.1
    have hop := Ex.alone_op ho.2.1
    have hbB : ∀ X : List UInt8, (∀ c ∈ X.head?, letU c = false) → bareF (Ex.txt f b ++ X) = Ex.txt f b ++ X := fun X hX => (peek_txt f b ho.2.2.2 X hX).2
    unfold Ex.txt at hs
    rcases Ex.takes_un ho.1 with hk | hk | ⟨hk, h5⟩
    · rw [if_pos hk] at hs
      have h15 : n.op < 15 := by have := hop.2 (by rw [hk]; decide); rw [hk] at this; exact this
      have hn : n = { Ex.nd0 with k := 3, op := n.op } := by rw [hne]; simp [hk, Ex.opsE, Ex.nd0]
      have e : Ex.nthT Ex.callsT n.op ++ [40] ++ Ex.txt f b ++ [41] ++ rest = Ex.nthT Ex.callsT n.op ++ 40 :: (Ex.txt f b ++ 41 :: rest) := by simp
      rw [e] at hs
      obtain ⟨q, h1, h2⟩ := full_of ih (p := { p with s := Ex.txt f b ++ 41 :: rest }) hb (hbB _ (stp_end rest).word) (stp_end rest) (end_r rest)
      refine ⟨_, term_call hop.1 h15 hs hb h1, ?_⟩
      rw [must_p h2 rfl, ← hn]
      rw [show p.l ++ (Ex.Tr.un n b).nds = p.l ++ b.nds ++ [n] from by simp [Ex.Tr.nds]]
      exact bare_put rfl
    · rw [if_neg (by omega), if_pos hk] at hs
      have hn : n = { Ex.nd0 with k := 4 } := by rw [hne]; simp [hk, Ex.opsE, Ex.nd0]
      have e : [40, 45] ++ Ex.txt f b ++ [41] ++ rest = 40 :: (45 :: (Ex.txt f b ++ 41 :: rest)) := by simp
      rw [e] at hs
      obtain ⟨q, h1, h2⟩ := ih { p with s := Ex.txt f b ++ 41 :: rest } (41 :: rest) hb (hbB _ (stp_end rest).word) (stp_end rest)
      have h3 := term_min (p := { p with s := 45 :: (Ex.txt f b ++ 41 :: rest) }) rfl hb h1
      have h4 : Ex.bareP (Ex.putP { Ex.nd0 with k := 4 } q) = ⟨41 :: rest, p.l ++ b.nds ++ [n], false, p.e⟩ := by
        rw [← hn]
        exact bare_put h2
      have hq : (Ex.putP { Ex.nd0 with k := 4 } q).bad = false := by
        have : (Ex.bareP (Ex.putP { Ex.nd0 with k := 4 } q)).bad = false := by rw [h4]
        exact this
      have hqs : bareF (Ex.putP { Ex.nd0 with k := 4 } q).s = 41 :: rest := by
        have : (Ex.bareP (Ex.putP { Ex.nd0 with k := 4 } q)).s = 41 :: rest := by rw [h4]
        exact this
      obtain ⟨q2, h5, h6⟩ := lvl_full h3 hq (Or.inr ⟨rest, Or.inl hqs⟩)
      refine ⟨_, term_paren hs hb h5, ?_⟩
      rw [must_p (h6.trans h4) rfl]
      rw [show p.l ++ (Ex.Tr.un n b).nds = p.l ++ b.nds ++ [n] from by simp [Ex.Tr.nds]]
      rfl
    · rw [if_neg (by omega), if_neg (by omega)] at hs
      have h6 : n.op < 6 := by have := hop.2 (by rw [hk]; decide); rw [hk] at this; exact this
      have hn : n = { Ex.nd0 with k := 8, op := n.op, gb := n.gb, nm := n.nm } := by
        conv => lhs; rw [hne]
        simp [hk, Ex.opsE, Ex.nd0]
      have e : Ex.nthT Ex.aggsT n.op ++ Ex.groupT n ++ [40] ++ Ex.txt f b ++ [41] ++ rest = Ex.nthT Ex.aggsT n.op ++ (Ex.groupT n ++ 40 :: (Ex.txt f b ++ 41 :: rest)) := by simp
      rw [e] at hs
      obtain ⟨q, h1, h2⟩ := full_of ih (p := { p with s := Ex.txt f b ++ 41 :: rest }) hb (hbB _ (stp_end rest).word) (stp_end rest) (end_r rest)
      refine ⟨_, term_agg hop.1 (by omega) (nd_names ho.2.1 hk) hs hb h1, ?_⟩
      rw [must_p h2 rfl, ← hn]
      rw [show p.l ++ (Ex.Tr.un n b).nds = p.l ++ b.nds ++ [n] from by simp [Ex.Tr.nds]]
      exact bare_put rfl
  | bi n a b iha ihb =>
    intro ho hv p rest hb hs hr
    have iha := iha ho.2.2.2.1 (fun x hx => hv x (by simp [Ex.Tr.nds, hx]))
    have ihb := ihb ho.2.2.2.2 (fun x hx => hv x (by simp [Ex.Tr.nds, hx]))
    have hne := nd_eq ho.2.1
    have hop := Ex.alone_op ho.2.1
    have hbA : ∀ X : List UInt8, (∀ c ∈ X.head?, letU c = false) → bareF (Ex.txt f a ++ X) = Ex.txt f a ++ X := fun X hX => (peek_txt f a ho.2.2.2.1 X hX).2
    have hbB : ∀ X : List UInt8, (∀ c ∈ X.head?, letU c = false) → bareF (Ex.txt f b ++ X) = Ex.txt f b ++ X := fun X hX => (peek_txt f b ho.2.2.2.2 X hX).2
    unfold Ex.txt at hs
    rcases Ex.takes_bi ho.1 with hk | hk | hk | ⟨hk, h5⟩
    · rw [if_pos hk] at hs
      have h6 : n.op < 5 := by have := hop.2 (by rw [hk]; decide); rw [hk] at this; exact this
      have hn : n = ndE 5 n.op false := by rw [hne]; simp [hk, Ex.opsE, ndE]
      obtain ⟨q, h1, h2⟩ := pair_of iha ihb hbA hbB (sg_bin hop.1 h6 _) hb hs
      rw [← hn] at h2
      exact ⟨q, h1, h2⟩
    · rw [if_neg (by omega), if_pos hk] at hs
      have h6 : n.op < 6 := by have := hop.2 (by rw [hk]; decide); rw [hk] at this; exact this
      have hn : n = ndE 6 n.op n.bl := by
        conv => lhs; rw [hne]
        simp [hk, Ex.opsE, ndE]
      obtain ⟨q, h1, h2⟩ := pair_of iha ihb hbA hbB (sg_cmp hop.1 h6 n.bl (fun _ => (peek_txt f b ho.2.2.2.2 _ (stp_end rest).word).1)) hb hs
      rw [← hn] at h2
      exact ⟨q, h1, h2⟩
    · rw [if_neg (by omega), if_neg (by omega), if_pos hk] at hs
      have h6 : n.op < 3 := by have := hop.2 (by rw [hk]; decide); rw [hk] at this; exact this
      have hn : n = ndE 7 n.op false := by rw [hne]; simp [hk, Ex.opsE, ndE]
      obtain ⟨q, h1, h2⟩ := pair_of iha ihb hbA hbB (sg_set hop.1 h6 _) hb hs
      rw [← hn] at h2
      exact ⟨q, h1, h2⟩
    · rw [if_neg (by omega), if_neg (by omega), if_neg (by omega)] at hs
      have hn : n = { Ex.nd0 with k := 8, op := 5, gb := n.gb, nm := n.nm } := by
        conv => lhs; rw [hne]
        simp [hk, h5, Ex.opsE, Ex.nd0]
      rw [h5] at hs
      have e : Ex.nthT Ex.aggsT 5 ++ Ex.groupT n ++ [40] ++ Ex.txt f a ++ [44, 32] ++ Ex.txt f b ++ [41] ++ rest = Ex.nthT Ex.aggsT 5 ++ (Ex.groupT n ++ 40 :: (Ex.txt f a ++ 44 :: (32 :: (Ex.txt f b ++ 41 :: rest)))) := by simp
      rw [e] at hs
      obtain ⟨q, h1, h2⟩ := full_of iha (p := { p with s := Ex.txt f a ++ 44 :: (32 :: (Ex.txt f b ++ 41 :: rest)) }) hb (hbA _ (stp_comma _).word) (stp_comma _) (end_c _)
      have hm : Ex.mustP [44] q = ⟨32 :: (Ex.txt f b ++ 41 :: rest), p.l ++ a.nds, false, p.e⟩ := must_p h2 rfl
      obtain ⟨q2, h3, h4⟩ := full_of ihb (p := ⟨32 :: (Ex.txt f b ++ 41 :: rest), p.l ++ a.nds, false, p.e⟩) rfl (by rw [bare_yes rfl]; exact hbB _ (stp_end rest).word) (stp_end rest) (end_r rest)
      refine ⟨_, term_quant (nd_names ho.2.1 hk) hs hb h1 (by rw [hm]; exact h3), ?_⟩
      rw [must_p h4 rfl, ← hn]
      rw [show p.l ++ (Ex.Tr.bi n a b).nds = p.l ++ a.nds ++ b.nds ++ [n] from by simp [Ex.Tr.nds]]
      exact bare_put rfl
/-- what is printed is read -/
theorem parse_back (f : Ex.Fl) {T : Ex.Tr} (ho : T.ok) (h3 : T.ty ≠ 3) (hl : T.nds.length ≤ 64) (hv : ∀ n ∈ T.nds, n.v < 18446744073709551616) (hs : (Ex.txt f T).length ≤ 1024) : Ex.parseE f.of (Ex.txt f T) = .ok T.nds := by
  obtain ⟨q, ⟨n, h1⟩, h2⟩ := full_of (term_back f T ho hv) (p := ⟨Ex.txt f T, [], false, 0⟩) (rest := []) rfl (by
    have := (peek_txt f T ho [] stp_nil.word).2
    rw [List.append_nil] at this ⊢
    exact this) stp_nil (Or.inl rfl)
  obtain ⟨q', h4⟩ := parse_some f.of ⟨Ex.txt f T, [], false, 0⟩
  have e1 := par_mono (Nat.le_max_left n (8 * (Ex.txt f T).length + 20)) h1
  have e2 := par_mono (Nat.le_max_right n (8 * (Ex.txt f T).length + 20)) h4
  rw [e1] at e2
  obtain rfl := Option.some.inj e2
  have hq1 : q.bad = false := by
    have : (Ex.bareP q).bad = false := by rw [h2]
    exact this
  have hq2 : bareF q.s = [] := by
    have : (Ex.bareP q).s = [] := by rw [h2]; rfl
    exact this
  have hq3 : q.l = T.nds := by
    have : (Ex.bareP q).l = T.nds := by rw [h2]; rfl
    exact this
  have hq4 : q.e = 0 := by
    have : (Ex.bareP q).e = 0 := by rw [h2]
    exact this
  have hc : (Ex.checkE T.nds).2 = 0 := by rw [Ex.tree_check ho h3 hl]
  unfold Ex.parseE
  rw [if_neg (by omega), h4]
  simp only [hq1, hq2, hq3, hq4, hc]
  rw [if_neg (by decide), if_neg (by omega), if_neg (by decide), if_neg (by decide)]
end Go.Proofs.YtmbfpichaaanpaaGreatDoor

/-! ExprBack. -/
namespace Go.Proofs.YtmbfpichaaanpaaGreatDoor
open Go.RowKit Ut Rx Mt

theorem es_v {w : World} {lv : Value} {l : List Ex.Nd} (h : Es0 w lv l) : ∀ n ∈ l, n.v < 18446744073709551616 := by
  obtain ⟨A, c, _, _, hl⟩ := h
  intro n hn
  obtain ⟨i, hi, rfl⟩ := List.getElem_of_mem hn
  obtain ⟨b, off, _, hc⟩ := hl (fun e => by rw [e] at hi; simp at hi)
  obtain ⟨sv, nv, h⟩ := hc i hi
  exact h.hv
theorem check_none {e : List Ex.Nd} (h : (Ex.checkE e).2 ≠ 0) : (Ex.checkE e).1 = 0 := by
  unfold Ex.checkE at h ⊢
  split
  · rfl
  · split
    · rfl
    · rename_i h64 x t hg
      rw [if_neg h64, hg] at h
      simp only at h
      split
      · rfl
      · rename_i h3
        rw [if_neg h3] at h
        exact absurd rfl h
    · rfl
/-- the text of a tree, read again -/
theorem back_parse {T : Ex.Tr} (ho : T.ok) (h3 : T.ty ≠ 3) (hl : T.nds.length ≤ 64) (hv : ∀ n ∈ T.nds, n.v < 18446744073709551616) : Ex.parseE ofS (Ex.txt flX T) = if 1024 < (Ex.txt flX T).length then .error 3 else .ok T.nds := by
  split
  · rename_i h
    unfold Ex.parseE
    rw [if_pos h]
  · rename_i h
    exact parse_back flX ho h3 hl hv (by omega)
set_option maxRecDepth 100000 in
set_option maxHeartbeats 8000000 in
theorem back_any (l : List Ex.Nd) (va : Value) (w : World) (ha : NdsIn w va l) (hW : Wl w) : Calls Tryz.prog 3 #[va] w (BoB w true) := by
  have HA := Lib.hid ha
  have HW := Lib.hid hW
  obtain ⟨A1, c1, rfl, _⟩ := id ha.es
  have na := ha.n
  have LI := Lib.hid (fun w' (b' : Below w.heap.size w w') => (hW.below b').live)
  have FA := Lib.hid (fun w' (b' : Below w.heap.size w w') => (ha.below b').few)
  obtain ⟨fa, hfa⟩ : ∃ f, f = fewE l := ⟨_, rfl⟩
  rw [← hfa] at FA
  have SA := Lib.hid hfa
  clear ha hW hfa
  go_enter Tryz.func3, Tryz.ntmps3
  go_wp2_with fail
  refine (LI.out w (Below.refl _ _)).mono ?_
  rintro e w1 ⟨rfl, b1⟩
  have F1 := Lib.hid (FA.out w1 b1)
  have B1 := Lib.hid b1
  clear b1
  go_wp2_with fail
  refine F1.out.mono ?_
  rintro e w2 ⟨rfl, b2⟩
  have B2 := Lib.hid (B1.out.trans (b2.mono B1.out.size))
  have L2 := Lib.hid (LI.out w2 B2.out)
  clear b2 F1 B1 LI FA
  cases fa with
  | false =>
    go_wp2_with fail
    refine L2.out.mono ?_
    rintro e w3 ⟨rfl, b3⟩
    have B3 := Lib.hid (B2.out.trans (b3.mono B2.out.size))
    go_wp2_with fail
    exact bodyPost_ret (v := .bool true) (by simp [results, Tryz.results3, go_sem]) rfl ⟨rfl, B3.out⟩
  | true =>
    have ZA := Lib.hid (fewE_sz SA.out.symm)
    have CA := Lib.hid (checkX_any l _ w2 (HA.out.es.below B2.out) (fun n hn => by have := (ZA.out.1 n hn).sl; omega) (HW.out.below B2.out).tabs (by have := (HW.out.below B2.out).low; omega))
    unfold CkPost at CA
    have VA := Lib.hid (es_v HA.out.es)
    by_cases hx : (Ex.checkE l).2 = 0
    · obtain ⟨T, hT, ho, hty, h3, h64⟩ := Ex.check_tree hx
      have HT := Lib.hid hT
      have TY := Lib.hid hty
      rw [hx] at CA
      have PA := Lib.hid (fun w' (b' : Below w.heap.size w w') => printX_ok T (.slice A1 l.length c1) w' (by rw [hT]; exact HA.out.es.below b') (fun n hn => ZA.out.1 n (by rw [← hT]; exact hn)) ho (HW.out.below b').tabs (HW.out.below b').wt (HW.out.below b').low (by rw [hT]; exact hx) (by rw [hT]; omega))
      have QB := Lib.hid (back_parse ho h3 (by rw [hT]; exact h64) (by rw [hT]; exact VA.out))
      obtain ⟨tx, htx⟩ : ∃ x, x = Ex.txt flX T := ⟨_, rfl⟩
      unfold StBelow at PA
      rw [← htx] at PA QB
      rw [hT] at QB
      obtain ⟨s, hs⟩ : ∃ s : ByteArray, s = ⟨tx.toArray⟩ := ⟨_, rfl⟩
      have hby : by_ s = tx := by rw [hs]
      have hsz : s.size = tx.length := by rw [hs]; rfl
      rw [← hs] at PA
      rw [← hby] at QB
      rw [show (by_ s).length = s.size from tl_len _] at QB
      obtain ⟨ty, hty2⟩ : ∃ t, t = (Ex.checkE l).1 := ⟨_, rfl⟩
      rw [← hty2] at CA
      clear hx hT hty htx hs hby hsz hty2
      go_wp2_with fail
      refine CA.out.mono ?_
      rintro e w3 ⟨rfl, b3⟩
      have B3 := Lib.hid (B2.out.trans (b3.mono B2.out.size))
      have P3 := Lib.hid (PA.out w3 B3.out)
      clear b3 CA PA L2
      go_wp2_with fail
      refine P3.out.mono ?_
      rintro e w4 ⟨rfl, b4⟩
      have B4 := Lib.hid (B3.out.trans (b4.mono B3.out.size))
      have R4 := Lib.hid (parseX_any s w4 (HW.out.below B4.out).tabs (HW.out.below B4.out).wt (HW.out.below B4.out).low)
      clear b4 P3 B3 B2
      by_cases hlen : 1024 < s.size
      · have hli : (1024 : Int) < s.size := by omega
        have RR : Hid (Calls Tryz.prog 12 #[.string s] w4 (PaPost w4 (.error 3))) := by
          have r4 := R4.out
          rw [QB.out, if_pos hlen] at r4
          exact r4
        clear R4 QB hlen
        go_wp2_with fail
        refine RR.out.mono ?_
        rintro e w5 ⟨b5, rfl, _⟩
        have B5 := Lib.hid (B4.out.trans (b5.mono B4.out.size))
        go_wp2_with fail
        exact bodyPost_ret (v := .bool true) (by simp [results, Tryz.results3, go_sem]) rfl ⟨rfl, B5.out⟩
      · have hli : ¬ (1024 : Int) < s.size := by omega
        have RR : Hid (Calls Tryz.prog 12 #[.string s] w4 (PaPost w4 (.ok l))) := by
          have r4 := R4.out
          rw [QB.out, if_neg hlen] at r4
          exact r4
        clear R4 QB hlen
        go_wp2_with fail
        refine RR.out.mono ?_
        rintro e w5 ⟨b5, A5, c5, rfl, es5, _⟩
        have B5 := Lib.hid (B4.out.trans (b5.mono B4.out.size))
        have SM := Lib.hid (sameX_any l _ _ w5 (HA.out.es.below B5.out) es5 (by have := ZA.out.2; omega) (fun n hn => ⟨by have := (ZA.out.1 n hn).sl; omega, by have := (ZA.out.1 n hn).nl; omega⟩))
        clear b5 es5 RR
        go_wp2_with fail
        refine SM.out.mono ?_
        rintro e w6 ⟨rfl, b6⟩
        have B6 := Lib.hid (B5.out.trans (b6.mono B5.out.size))
        go_wp2_with fail
        exact bodyPost_ret (v := .bool true) (by simp [results, Tryz.results3, go_sem]) rfl ⟨rfl, B6.out⟩
    · have PA := Lib.hid (fun w' (b' : Below w.heap.size w w') => printX_err l (.slice A1 l.length c1) w' (HA.out.es.below b') (fun n hn => by have := (ZA.out.1 n hn).sl; omega) (HW.out.below b').tabs (HW.out.below b').low hx)
      unfold StBelow at PA
      rw [check_none hx] at CA
      obtain ⟨x, hx2⟩ : ∃ x, x = (Ex.checkE l).2 := ⟨_, rfl⟩
      rw [← hx2] at CA hx
      have hxb : (x != 0) = true := by simpa using hx
      clear hx2
      go_wp2_with fail
      refine CA.out.mono ?_
      rintro e w3 ⟨rfl, b3⟩
      have B3 := Lib.hid (B2.out.trans (b3.mono B2.out.size))
      have P3 := Lib.hid (PA.out w3 B3.out)
      clear b3 CA PA L2
      go_wp2_with fail
      refine P3.out.mono ?_
      rintro e w4 ⟨rfl, b4⟩
      have B4 := Lib.hid (B3.out.trans (b4.mono B3.out.size))
      go_wp2_with fail
      exact bodyPost_ret (v := .bool true) (by simp [results, Tryz.results3, go_sem]) rfl ⟨rfl, B4.out⟩
end Go.Proofs.YtmbfpichaaanpaaGreatDoor

/-! ExprAgain. -/
namespace Go.Proofs.YtmbfpichaaanpaaGreatDoor
open Go.RowKit Ut Rx Mt

theorem parse_check {of : Int → Nat} {s : List UInt8} {l : List Ex.Nd} (h : Ex.parseE of s = .ok l) : (Ex.checkE l).2 = 0 := by
  unfold Ex.parseE at h
  split at h
  · cases h
  · split at h
    · cases h
    · split at h
      · cases h
      · split at h
        · cases h
        · split at h
          · cases h
          · split at h
            · cases h
            · rename_i hc
              cases h
              exact Decidable.of_not_not hc
theorem named_len {l : List UInt8} (h : namedF l = true) : l.length ≤ 64 := by
  unfold namedF at h
  simp only [Bool.and_eq_true, decide_eq_true_eq] at h
  exact h.1.1.2
theorem nm_len {n : Ex.Nd} (h : Ex.aloneE n = 0) (hk : n.k = 8) : n.nm.length ≤ 16 := by
  have ha := Ex.alone_arg h
  unfold Ex.aloneE at h
  rw [ha, if_neg (by decide), if_neg (by omega), if_neg (by omega)] at h
  split at h
  · cases h
  · rename_i h16
    omega
/-- a right node is small -/
theorem alone_sz {n : Ex.Nd} (h : Ex.aloneE n = 0) : Ex.NdSz n := by
  obtain ⟨_, _, f3, _, f5, _⟩ := nd_facts h
  have hsel : n.sel.length ≤ 16 ∧ ∀ m ∈ n.sel, m.n.size ≤ 64 ∧ m.v.size ≤ 128 := by
    by_cases hk : n.k = 1 ∨ n.k = 2
    · have hr := (nd_sel h hk).1
      refine ⟨?_, fun m hm => ?_⟩
      · unfold rightF at hr
        split at hr
        · cases hr
        · rename_i h16; omega
      · have hc := right_ok hr m hm
        have hn := named_len (checkF_named (k := m.k) (n := m.n) (v := m.v) hc)
        rw [show (by_ m.n).length = m.n.size from tl_len _] at hn
        refine ⟨hn, ?_⟩
        obtain ⟨_, _, hv, _⟩ := checkF_ok (k := m.k) (n := m.n) (v := m.v) hc
        unfold valuedB at hv
        simp only [Bool.and_eq_true, decide_eq_true_eq] at hv
        exact hv.1
    · have : n.sel = [] := f3 (fun e => hk (Or.inl e)) (fun e => hk (Or.inr e))
      rw [this]
      exact ⟨by simp, fun m hm => by cases hm⟩
  have hnm : n.nm.length ≤ 16 ∧ ∀ s ∈ n.nm, s.size ≤ 64 := by
    by_cases hk : n.k = 8
    · refine ⟨nm_len h hk, fun s hs => ?_⟩
      have := named_len (nd_names h hk s hs)
      rw [show (by_ s).length = s.size from tl_len _] at this
      exact this
    · rw [(f5 hk).2]
      exact ⟨by simp, fun m hm => by cases hm⟩
  exact ⟨by omega, fun m hm => by have := hsel.2 m hm; omega, by omega, fun s hs => by have := hnm.2 s hs; omega⟩
theorem ok_alone : ∀ T : Ex.Tr, T.ok → ∀ n ∈ T.nds, Ex.aloneE n = 0
  | .lf n, ho, m, hm => by
    obtain rfl := List.mem_singleton.1 hm
    exact ho.2
  | .un n b, ho, m, hm => by
    rcases List.mem_append.1 hm with hm | hm
    · exact ok_alone b ho.2.2.2 m hm
    · obtain rfl := List.mem_singleton.1 hm
      exact ho.2.1
  | .bi n a b, ho, m, hm => by
    rcases List.mem_append.1 hm with hm | hm
    · rcases List.mem_append.1 hm with hm | hm
      · exact ok_alone a ho.2.2.2.1 m hm
      · exact ok_alone b ho.2.2.2.2 m hm
    · obtain rfl := List.mem_singleton.1 hm
      exact ho.2.1
set_option maxRecDepth 100000 in
set_option maxHeartbeats 8000000 in
theorem again_any (s : ByteArray) (w : World) (hW : Wl w) : Calls Tryz.prog 4 #[.string s] w (BoB w true) := by
  have HW := Lib.hid hW
  have LI := Lib.hid (fun w' (b' : Below w.heap.size w w') => (hW.below b').live)
  clear hW
  go_enter Tryz.func4, Tryz.ntmps4
  by_cases h2 : 2000 < s.size
  · have h2i : (2000 : Int) < s.size := by omega
    clear h2
    go_wp2_with fail
    refine (LI.out w (Below.refl _ _)).mono ?_
    rintro e w1 ⟨rfl, b1⟩
    have L1 := Lib.hid (LI.out w1 b1)
    have B1 := Lib.hid b1
    go_wp2_with fail
    refine L1.out.mono ?_
    rintro e w2 ⟨rfl, b2⟩
    have B2 := Lib.hid (B1.out.trans (b2.mono B1.out.size))
    go_wp2_with fail
    exact bodyPost_ret (v := .bool true) (by simp [results, Tryz.results4, go_sem]) rfl ⟨rfl, B2.out⟩
  · have h2i : ¬ (2000 : Int) < s.size := by omega
    clear h2
    go_wp2_with fail
    refine (LI.out w (Below.refl _ _)).mono ?_
    rintro e w1 ⟨rfl, b1⟩
    have B1 := Lib.hid b1
    have R1 := Lib.hid (parseX_any s w1 (HW.out.below b1).tabs (HW.out.below b1).wt (HW.out.below b1).low)
    clear b1 LI
    obtain ⟨r, hr⟩ : ∃ r, r = Ex.parseE ofS (by_ s) := ⟨_, rfl⟩
    rw [← hr] at R1
    have HR := Lib.hid hr
    clear hr
    cases r with
    | error x =>
      go_wp2_with fail
      refine R1.out.mono ?_
      rintro e w2 ⟨b2, rfl, hx⟩
      have B2 := Lib.hid (B1.out.trans (b2.mono B1.out.size))
      have hxb : (x != 0) = true := by simpa using hx
      clear b2 hx
      go_wp2_with fail
      exact bodyPost_ret (v := .bool true) (by simp [results, Tryz.results4, go_sem]) rfl ⟨rfl, B2.out⟩
    | ok l =>
      go_wp2_with fail
      refine R1.out.mono ?_
      rintro e w2 ⟨b2, A2, c2, rfl, es2, hz2⟩
      have B2 := Lib.hid (B1.out.trans (b2.mono B1.out.size))
      have W2 := Lib.hid (HW.out.below B2.out)
      have E2 := Lib.hid es2
      have hx := parse_check HR.out.symm
      have CA := Lib.hid (checkX_any l _ w2 es2 hz2 W2.out.tabs (by have := W2.out.low; omega))
      unfold CkPost at CA
      obtain ⟨T, hT, ho, hty, h3, h64⟩ := Ex.check_tree hx
      rw [hx] at CA
      have tyv : (Ex.checkE l).1 = 1 ∨ (Ex.checkE l).1 = 2 := by
        rcases Ex.ty_pos ho with h | h | h
        · exact Or.inl (hty.symm.trans h)
        · exact Or.inr (hty.symm.trans h)
        · exact absurd h h3
      have SZ := Lib.hid (fun n (hn : n ∈ l) => alone_sz (ok_alone T ho n (by rw [hT]; exact hn)))
      have PA := Lib.hid (fun w' (b' : Below w2.heap.size w2 w') => printX_ok T (.slice A2 l.length c2) w' (by rw [hT]; exact es2.below b') (fun n hn => SZ.out n (by rw [← hT]; exact hn)) ho (W2.out.below b').tabs (W2.out.below b').wt (W2.out.below b').low (by rw [hT]; exact hx) (by rw [hT]; omega))
      have QB := Lib.hid (back_parse ho h3 (by rw [hT]; exact h64) (by rw [hT]; exact es_v es2))
      obtain ⟨tx, htx⟩ : ∃ x, x = Ex.txt flX T := ⟨_, rfl⟩
      unfold StBelow at PA
      rw [← htx] at PA QB
      rw [hT] at QB
      obtain ⟨p, hp⟩ : ∃ s : ByteArray, s = ⟨tx.toArray⟩ := ⟨_, rfl⟩
      have hby : by_ p = tx := by rw [hp]
      rw [← hp] at PA
      rw [← hby] at QB
      rw [show (by_ p).length = p.size from tl_len _] at QB
      obtain ⟨ty, hty2⟩ : ∃ t, t = (Ex.checkE l).1 := ⟨_, rfl⟩
      rw [← hty2] at CA tyv
      have L64 := Lib.hid h64
      clear hx hT hty htx hp hby hty2 es2 hz2 b2 h64
      go_wp2_with fail
      refine CA.out.mono ?_
      rintro e w3 ⟨rfl, b3⟩
      have B3 := Lib.hid b3
      have P3 := Lib.hid (PA.out w3 B3.out)
      clear b3 CA PA
      go_wp2_with fail
      refine P3.out.mono ?_
      rintro e w4 ⟨rfl, b4⟩
      have B4 := Lib.hid (B3.out.trans (b4.mono B3.out.size))
      have R4 := Lib.hid (parseX_any p w4 (W2.out.below B4.out).tabs (W2.out.below B4.out).wt (W2.out.below B4.out).low)
      clear b4 P3 B3
      by_cases hlen : 1024 < p.size
      · have hli : (1024 : Int) < p.size := by omega
        have RR : Hid (Calls Tryz.prog 12 #[.string p] w4 (PaPost w4 (.error 3))) := by
          have r4 := R4.out
          rw [QB.out, if_pos hlen] at r4
          exact r4
        clear R4 QB hlen
        go_wp2_with fail
        refine RR.out.mono ?_
        rintro e w5 ⟨b5, rfl, _⟩
        have B5 := Lib.hid (B2.out.trans ((B4.out.trans (b5.mono B4.out.size)).mono B2.out.size))
        rcases tyv with rfl | rfl
        · go_wp2_with fail
          exact bodyPost_ret (v := .bool true) (by simp [results, Tryz.results4, go_sem]) rfl ⟨rfl, B5.out⟩
        · go_wp2_with fail
          exact bodyPost_ret (v := .bool true) (by simp [results, Tryz.results4, go_sem]) rfl ⟨rfl, B5.out⟩
      · have hli : ¬ (1024 : Int) < p.size := by omega
        have RR : Hid (Calls Tryz.prog 12 #[.string p] w4 (PaPost w4 (.ok l))) := by
          have r4 := R4.out
          rw [QB.out, if_neg hlen] at r4
          exact r4
        clear R4 QB hlen
        go_wp2_with fail
        refine RR.out.mono ?_
        rintro e w5 ⟨b5, A5, c5, rfl, es5, _⟩
        have B45 := Lib.hid (B4.out.trans (b5.mono B4.out.size))
        have B5 := Lib.hid (B2.out.trans (B45.out.mono B2.out.size))
        have SM := Lib.hid (sameX_any l _ _ w5 (E2.out.below B45.out) es5 (by have := L64.out; omega) (fun n hn => ⟨by have := (SZ.out n hn).sl; omega, by have := (SZ.out n hn).nl; omega⟩))
        clear b5 es5 RR
        rcases tyv with rfl | rfl
        · go_wp2_with fail
          refine SM.out.mono ?_
          rintro e w6 ⟨rfl, b6⟩
          have B6 := Lib.hid (B5.out.trans (b6.mono B5.out.size))
          go_wp2_with fail
          exact bodyPost_ret (v := .bool true) (by simp [results, Tryz.results4, go_sem]) rfl ⟨rfl, B6.out⟩
        · go_wp2_with fail
          refine SM.out.mono ?_
          rintro e w6 ⟨rfl, b6⟩
          have B6 := Lib.hid (B5.out.trans (b6.mono B5.out.size))
          go_wp2_with fail
          exact bodyPost_ret (v := .bool true) (by simp [results, Tryz.results4, go_sem]) rfl ⟨rfl, B6.out⟩
end Go.Proofs.YtmbfpichaaanpaaGreatDoor
