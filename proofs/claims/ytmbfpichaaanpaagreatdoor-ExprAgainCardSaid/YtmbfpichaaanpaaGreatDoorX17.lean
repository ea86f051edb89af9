import Derived.Test.YtmbfpichaaanpaaGreatDoorX16
/-! A matcher of a text. -/
namespace Go.Proofs.YtmbfpichaaanpaaGreatDoor
open Go.RowKit Ut Rx Mt

def eatS (k : Int) (p l : List UInt8) (r : Int × List UInt8) : Int × List UInt8 := match eatF p l with | some u => (k, u) | none => r
def signP (l : List UInt8) : Int × List UInt8 := eatS 3 [61, 126] l (eatS 4 [33, 126] l (eatS 2 [33, 61] l (eatS 1 [61] l (0, l))))
/-- a matcher that a text begins with -/
def oneP (l : List UInt8) : Option (M × List UInt8) :=
  match unquoteF (bareF (signP (bareF (l.dropWhile letU))).2) with
  | .error _ => none
  | .ok (v, r) => if l.takeWhile letU = [] ∨ (signP (bareF (l.dropWhile letU))).1 = 0 then none else some (⟨(signP (bareF (l.dropWhile letU))).1, ⟨(l.takeWhile letU).toArray⟩, ⟨v.toArray⟩⟩, bareF r)

theorem Tx.grown {w w' : World} {t : Nat} {l : List UInt8} {r : Option Nat} (h : Tx w t l) (g : w.grownBy w' r) (hr : some t ≠ r) : Tx w' t l := by
  have lt := h.lt
  obtain ⟨s, h, e⟩ := h
  exact ⟨s, (g.block _ lt hr).trans h, e⟩
theorem dropWhile_le (p : UInt8 → Bool) : ∀ l : List UInt8, (l.dropWhile p).length ≤ l.length
  | [] => Nat.le_refl _
  | c :: t => by
    rw [List.dropWhile_cons]
    split
    · exact Nat.le_trans (dropWhile_le p t) (by simp)
    · exact Nat.le_refl _
theorem eatF_length {p l u : List UInt8} (h : eatF p l = some u) : u.length ≤ l.length := by
  unfold eatF at h
  split at h
  · cases h; rw [List.length_drop]; omega
  · cases h
theorem eat_getD {p l : List UInt8} {k : Int} {r : Int × List UInt8} : (eatF p l).isSome = true → (k, (eatF p l).getD l) = eatS k p l r := by
  unfold eatS
  cases eatF p l with
  | none => intro h; cases h
  | some u => intro _; rfl
theorem eat_none {p l : List UInt8} {k : Int} {r : Int × List UInt8} (h : (eatF p l).isSome = false) : (eatF p l).getD l = l ∧ eatS k p l r = r := by
  unfold eatS
  cases h2 : eatF p l with
  | none => exact ⟨rfl, rfl⟩
  | some u => rw [h2] at h; cases h

/-- in the midst of a matcher: the text in block t stands at l; the matcher in block mb is x; the answer in block rb is still zero -/
structure Mi (w wr : World) (t rb mb : Nat) (l : List UInt8) (k : Int) (n v : ByteArray) : Prop where
  tx : Tx wr t l
  grown : w.grownBy wr (some t)
  rlo : w.heap.size ≤ rb
  mlo : rb < mb
  r : wr.heap[rb]? = some (.cells #[.int .i64 0, .string ⟨#[]⟩, .string ⟨#[]⟩] 42 (0, 0))
  m : wr.heap[mb]? = some (.cells #[.int .i64 k, .string n, .string v] 42 (0, 0))
  low : t < w.heap.size
theorem Mi.call {w wr w' : World} {t rb mb : Nat} {l l' : List UInt8} {k : Int} {n v : ByteArray} (h : Mi w wr t rb mb l k n v) (g : wr.grownBy w' (some t)) (tx : Tx w' t l') : Mi w w' t rb mb l' k n v :=
  ⟨tx, grown_trans h.grown g, h.rlo, h.mlo, (g.block _ (Array.getElem?_eq_some_iff.1 h.r).1 (fun e => by have : rb = t := Option.some.inj e; have := h.rlo; have := h.low; omega)).trans h.r,
    (g.block _ (Array.getElem?_eq_some_iff.1 h.m).1 (fun e => by have : mb = t := Option.some.inj e; have := h.rlo; have := h.mlo; have := h.low; omega)).trans h.m, h.low⟩
theorem Mi.below {w wr w' : World} {t rb mb : Nat} {l : List UInt8} {k : Int} {n v : ByteArray} (h : Mi w wr t rb mb l k n v) (b : Below wr.heap.size wr w') : Mi w w' t rb mb l k n v :=
  ⟨h.tx.below b, grown_then h.grown b, h.rlo, h.mlo, (b.block _ (Array.getElem?_eq_some_iff.1 h.r).1).trans h.r, (b.block _ (Array.getElem?_eq_some_iff.1 h.m).1).trans h.m, h.low⟩
theorem Mi.sign {w wr : World} {t rb mb : Nat} {l : List UInt8} {k : Int} {n v : ByteArray} (h : Mi w wr t rb mb l k n v) (k' : Int) : Mi w (wr.setCell ⟨mb, 0, none⟩ (.int .i64 k')) t rb mb l k' n v := by
  have g := grown_setCell wr mb 0 (.int .i64 k')
  have lm := (Array.getElem?_eq_some_iff.1 h.m).1
  refine ⟨h.tx.grown g (fun e => by have : t = mb := Option.some.inj e; have := h.rlo; have := h.mlo; have := h.low; omega), ?_, h.rlo, h.mlo, (g.block _ (Array.getElem?_eq_some_iff.1 h.r).1 (fun e => by have : rb = mb := Option.some.inj e; have := h.mlo; omega)).trans h.r, set1 h.m _, h.low⟩
  refine ⟨h.grown.os, h.grown.tape, h.grown.output, by rw [World.size_setCell]; exact h.grown.size, fun q hq hne => ?_⟩
  rw [g.block q (Nat.lt_of_lt_of_le hq h.grown.size) (fun e => by have : q = mb := Option.some.inj e; have := h.rlo; have := h.mlo; omega)]
  exact h.grown.block q hq hne

theorem set3 {w : World} {b : Nat} {x y z : Value} {t : TypeId} (h : w.heap[b]? = some (.cells #[x, y, z] t (0, 0))) (x' y' z' : Value) :
    (((w.setCell ⟨b, 0, none⟩ x').setCell ⟨b, 1, none⟩ y').setCell ⟨b, 2, none⟩ z').heap[b]? = some (.cells #[x', y', z'] t (0, 0)) ∧ w.grownBy (((w.setCell ⟨b, 0, none⟩ x').setCell ⟨b, 1, none⟩ y').setCell ⟨b, 2, none⟩ z') (some b) :=
  ⟨set1 (set1 (set1 h x') y') z', grown_trans (grown_trans (grown_setCell _ _ _ _) (grown_setCell _ _ _ _)) (grown_setCell _ _ _ _)⟩
theorem unqF_err : ∀ (n : Nat) (l : List UInt8) (er : Int), l.length ≤ n → unqF l = .error er → er = 6 ∨ er = 8
  | 0, l, er, hn, h => by
    obtain rfl := List.eq_nil_of_length_eq_zero (Nat.le_zero.1 hn)
    rw [unqF.eq_def] at h; cases h; exact Or.inl rfl
  | n + 1, l, er, hn, h => by
    cases l with
    | nil => rw [unqF.eq_def] at h; cases h; exact Or.inl rfl
    | cons c t =>
      simp at hn
      by_cases h34 : (c == 34) = true
      · rw [unq_34 h34] at h; cases h
      · by_cases h10 : (c == 10) = true
        · rw [unq_10 h34 h10] at h; cases h; exact Or.inr rfl
        · have ce : ∀ (b : UInt8) (u : List UInt8), u.length ≤ n → consF b (unqF u) = .error er → er = 6 ∨ er = 8 := fun b u hu h => by
            cases hq : unqF u with
            | error e2 => rw [hq] at h; cases h; exact unqF_err n u _ hu hq
            | ok p => rw [hq] at h; cases h
          by_cases h92 : (c == 92) = true
          · cases t with
            | nil => rw [unq_end h34 h10 h92] at h; cases h; exact Or.inl rfl
            | cons d u =>
              simp at hn
              by_cases k1 : (d == 34 || d == 92) = true
              · rw [unq_esc h34 h10 h92 k1] at h; exact ce _ _ (by omega) h
              · by_cases k2 : (d == 110) = true
                · rw [unq_n h34 h10 h92 k1 k2] at h; exact ce _ _ (by omega) h
                · rw [unq_bad h34 h10 h92 k1 k2] at h; cases h; exact Or.inr rfl
          · rw [unq_one h34 h10 h92] at h; exact ce _ _ hn h
theorem unquoteF_err {l : List UInt8} {er : Int} (h : unquoteF l = .error er) : er = 6 ∨ er = 8 := by
  unfold unquoteF at h
  split at h
  · cases h; exact Or.inl rfl
  · split at h
    · exact unqF_err _ _ _ (Nat.le_refl _) h
    · cases h; exact Or.inr rfl
theorem Mi.value {w wr : World} {t rb mb : Nat} {l : List UInt8} {k : Int} {n v : ByteArray} (h : Mi w wr t rb mb l k n v) (v' : ByteArray) : Mi w (wr.setCell ⟨mb, 2, none⟩ (.string v')) t rb mb l k n v' := by
  have g := grown_setCell wr mb 2 (.string v')
  refine ⟨h.tx.grown g (fun e => by have : t = mb := Option.some.inj e; have := h.rlo; have := h.mlo; have := h.low; omega), ?_, h.rlo, h.mlo, (g.block _ (Array.getElem?_eq_some_iff.1 h.r).1 (fun e => by have : rb = mb := Option.some.inj e; have := h.mlo; omega)).trans h.r, set1 h.m _, h.low⟩
  refine ⟨h.grown.os, h.grown.tape, h.grown.output, by rw [World.size_setCell]; exact h.grown.size, fun q hq hne => ?_⟩
  rw [g.block q (Nat.lt_of_lt_of_le hq h.grown.size) (fun e => by have : q = mb := Option.some.inj e; have := h.rlo; have := h.mlo; omega)]
  exact h.grown.block q hq hne
theorem Mi.apart {w wr : World} {t rb mb : Nat} {l : List UInt8} {k : Int} {n v : ByteArray} (h : Mi w wr t rb mb l k n v) : some t ≠ some rb ∧ some t ≠ some mb :=
  ⟨fun e => by have : t = rb := Option.some.inj e; have := h.rlo; have := h.low; omega, fun e => by have : t = mb := Option.some.inj e; have := h.rlo; have := h.mlo; have := h.low; omega⟩
theorem Mi.after {w wr w' : World} {t rb mb : Nat} {l : List UInt8} {k : Int} {n v : ByteArray} (h : Mi w wr t rb mb l k n v) (g : wr.grownBy w' (some rb)) : w.grownBy w' (some t) := by
  refine ⟨g.os.trans h.grown.os, g.tape.trans h.grown.tape, g.output.trans h.grown.output, Nat.le_trans h.grown.size g.size, fun q hq hne => ?_⟩
  rw [g.block q (Nat.lt_of_lt_of_le hq h.grown.size) (fun e => by have : q = rb := Option.some.inj e; have := h.rlo; omega)]
  exact h.grown.block q hq hne

def OnePost (w : World) (t : Nat) (l : List UInt8) (e : Ending) (w' : World) : Prop :=
  w.grownBy w' (some t) ∧ match oneP l with
    | some (m, r) => e = .returned (.tuple #[.agg #[.int .i64 m.k, .string m.n, .string m.v], .bool true]) ∧ Tx w' t r
    | none => e = .returned (.tuple #[.agg #[.int .i64 0, .string ⟨#[]⟩, .string ⟨#[]⟩], .bool false])

set_option maxRecDepth 100000 in
set_option maxHeartbeats 4000000 in
theorem one_of (t : Nat) (l : List UInt8) (w : World) (h : Tx w t l) (hll : l.length ≤ 1000000) : Calls Tryz.prog 135 #[.pointer (some ⟨t, 0, none⟩)] w (OnePost w t l) := by
  have lt := Lib.hid h.lt
  have B0 : Hid (Below w.heap.size w (w.alloc (.cells #[.int .i64 0, .string ⟨#[]⟩, .string ⟨#[]⟩] 42))) := (Below.refl _ _).alloc (Nat.le_refl _) _
  have R0 : Hid ((w.alloc (.cells #[.int .i64 0, .string ⟨#[]⟩, .string ⟨#[]⟩] 42)).heap[w.heap.size]? = some (.cells #[.int .i64 0, .string ⟨#[]⟩, .string ⟨#[]⟩] 42 (0, 0))) := heap_alloc_new w _
  have W := Lib.hid (word_any t l _ (h.below B0.out) hll)
  clear h
  go_enter Tryz.func135, Tryz.ntmps135
  go_wp2_with fail
  refine W.out.mono ?_
  rintro e w1 ⟨⟨nm, rfl, hnm⟩, g1, tx1⟩
  have M1 : Hid (Mi w (w1.alloc (.cells #[.int .i64 0, .string nm, .string ⟨#[]⟩] 42)) t w.heap.size w1.heap.size (l.dropWhile letU) 0 nm ⟨#[]⟩) := by
    have b1 : Below w1.heap.size w1 (w1.alloc (.cells #[.int .i64 0, .string nm, .string ⟨#[]⟩] 42)) := (Below.refl _ _).alloc (Nat.le_refl _) _
    have r1 := (g1.block _ (by simp) (fun e => by have : w.heap.size = t := Option.some.inj e; have := lt.out; omega)).trans R0.out
    have s1 := g1.size
    simp at s1
    exact ⟨tx1.below b1, grown_then (grown_trans (grown_below B0.out) g1) b1, Nat.le_refl _, by omega, (b1.block _ (by omega)).trans r1, heap_alloc_new w1 _, lt.out⟩
  have hll1 : (l.dropWhile letU).length ≤ 1000000 := Nat.le_trans (dropWhile_le _ _) hll
  clear g1 tx1 W R0 B0
  have hll2 : (bareF (l.dropWhile letU)).length ≤ 1000000 := Nat.le_trans (dropWhile_le _ _) hll1
  go_wp2_with fail
  refine (blanks_any t _ _ M1.out.tx).mono ?_
  rintro e w2 ⟨rfl, g2, tx2⟩
  have M2 := Lib.hid (M1.out.call g2 tx2)
  have HS : Hid (signP (bareF (l.dropWhile letU)) = signP (bareF (l.dropWhile letU))) := rfl
  clear M1 g2 tx2
  have HN : Hid (by_ nm = l.takeWhile letU) := hnm
  have HO : Hid (oneP l = match unquoteF (bareF (signP (bareF (l.dropWhile letU))).2) with
    | .error _ => none
    | .ok (v, r) => if l.takeWhile letU = [] ∨ (signP (bareF (l.dropWhile letU))).1 = 0 then none else some (⟨(signP (bareF (l.dropWhile letU))).1, ⟨(l.takeWhile letU).toArray⟩, ⟨v.toArray⟩⟩, bareF r)) := rfl
  clear HS hnm
  generalize bareF (l.dropWhile letU) = l1 at *
  go_wp2_with fail
  refine (eat_any t ⟨#[61, 126]⟩ l1 _ M2.out.tx).mono ?_
  rintro e w3 ⟨rfl, g3, tx3⟩
  have M3' := Lib.hid (M2.out.call g3 tx3)
  clear g3 tx3 M2
  generalize he : (eatF (by_ ⟨#[61, 126]⟩) l1).isSome = b1 at *
  cases b1 with
  | true =>
    have HG0 := Lib.hid (eat_getD (k := 3) (r := (eatS 4 [33, 126] l1 (eatS 2 [33, 61] l1 (eatS 1 [61] l1 (0, l1))))) he)
    have hl2 : ((eatF (by_ ⟨#[61, 126]⟩) l1).getD l1).length ≤ 1000000 := by
      cases hq : eatF (by_ ⟨#[61, 126]⟩) l1 with
      | none => exact hll2
      | some u => exact Nat.le_trans (eatF_length hq) hll2
    clear he
    generalize (eatF (by_ ⟨#[61, 126]⟩) l1).getD l1 = l2 at *
    have HG : Hid (signP l1 = ((3 : Int), l2)) := by show _ = _; unfold signP; rw [HG0.out]
    obtain ⟨c0, c1, c2, f0, f1, f2⟩ := cells3 M3'.out.m
    have M4 := Lib.hid (M3'.out.sign 3)
    clear HG0
    go_wp2_with fail
    clear c0 c1 c2 f0 f1 f2 M3'
    refine (blanks_any t l2 _ M4.out.tx).mono ?_
    rintro e w5 ⟨rfl, g5, tx5⟩
    have M5 := Lib.hid (M4.out.call g5 tx5)
    clear g5 tx5 M4
    obtain ⟨s5, hs5, es5⟩ := M5.out.tx
    obtain ⟨x0, xf⟩ := cells1 hs5
    have ES := Lib.hid es5
    have hl5 : s5.size ≤ 1000000 := by rw [← tl_len s5, show s5.data.toList = bareF l2 from es5]; exact Nat.le_trans (dropWhile_le _ _) hl2
    have U := Lib.hid (unquote_any s5 w5 hl5)
    have HO2 : Hid (oneP l = match unquoteF (by_ s5) with
        | .error _ => none
        | .ok (v, r) => if by_ nm = [] ∨ ((3) : Int) = 0 then none else some (⟨3, nm, ⟨v.toArray⟩⟩, bareF r)) := by
      show _ = _
      rw [HO.out, HG.out, ES.out, ← HN.out]
    clear es5 HO HG HN
    go_wp2_with fail
    refine U.out.mono ?_
    rintro e w6 ⟨hb6, h6⟩
    have M6 := Lib.hid (M5.out.below hb6)
    have hs6 := (hb6.block _ (Array.getElem?_eq_some_iff.1 hs5).1).trans hs5
    clear hs5 x0 xf M5 U hb6
    have HS6 := Lib.hid hs6
    obtain ⟨m0, m1, m2, n0, n1, n2⟩ := cells3 M6.out.m
    obtain ⟨r0, r1, r2, f0, f1, f2⟩ := cells3 M6.out.r
    obtain ⟨x0, xf⟩ := cells1 hs6
    clear hs6
    cases hu : unquoteF (by_ s5) with
    | error er =>
      have OU : Hid (oneP l = none) := by have := HO2.out; rw [hu] at this; exact this
      rw [hu] at h6
      obtain rfl := h6
      have hne : (er != 0) = true := by rcases unquoteF_err hu with rfl | rfl <;> rfl
      clear hu HO2
      go_wp2_with fail
      all_goals
        obtain ⟨hf, gf⟩ := set3 M6.out.r (.int .i64 0) (.string ⟨#[]⟩) (.string ⟨#[]⟩)
        generalize (((w6.setCell ⟨w.heap.size, 0, none⟩ (.int .i64 0)).setCell ⟨w.heap.size, 1, none⟩ (.string ⟨#[]⟩)).setCell ⟨w.heap.size, 2, none⟩ (.string ⟨#[]⟩)) = wf at *
        obtain ⟨y0, y1, y2, _⟩ := cells3 hf
        exact bodyPost_ret (v := .tuple #[.agg #[.int .i64 0, .string ⟨#[]⟩, .string ⟨#[]⟩], .bool false]) (by simp [results, Tryz.results135, go_sem, y0, y1, y2]) rfl ⟨M6.out.after gf, by simp only [OU.out]⟩
    | ok p =>
      obtain ⟨v, r⟩ := p
      rw [hu] at h6
      obtain ⟨n, hn, hr, rfl⟩ := h6
      by_cases hz : nm.size = 0
      · have hem : nm.toList.isEmpty = true := by rw [tl_eq, show nm.data.toList = [] from by_empty hz]; rfl
        have OU : Hid (oneP l = none) := by have := HO2.out; rw [hu] at this; exact this.trans (if_pos (Or.inl (by_empty hz)))
        clear hu HO2
        go_wp2_with fail
        obtain ⟨hf, gf⟩ := set3 M6.out.r (.int .i64 0) (.string ⟨#[]⟩) (.string ⟨#[]⟩)
        generalize (((w6.setCell ⟨w.heap.size, 0, none⟩ (.int .i64 0)).setCell ⟨w.heap.size, 1, none⟩ (.string ⟨#[]⟩)).setCell ⟨w.heap.size, 2, none⟩ (.string ⟨#[]⟩)) = wf at *
        obtain ⟨y0, y1, y2, _⟩ := cells3 hf
        exact bodyPost_ret (v := .tuple #[.agg #[.int .i64 0, .string ⟨#[]⟩, .string ⟨#[]⟩], .bool false]) (by simp [results, Tryz.results135, go_sem, y0, y1, y2]) rfl ⟨M6.out.after gf, by simp only [OU.out]⟩
      · have hem := string_ne (Nat.pos_of_ne_zero hz)
        have OU : Hid (oneP l = some (⟨3, nm, ⟨v.toArray⟩⟩, bareF r)) := by
          have := HO2.out
          rw [hu] at this
          refine this.trans (if_neg ?_)
          rintro (h | h)
          · exact hz (by rw [← tl_len nm, show nm.data.toList = [] from h]; rfl)
          · cases h
        clear hu HO2
        go_upto_region 16 with fail
        have M7 := Lib.hid (M6.out.value ⟨v.toArray⟩)
        have hs7 := ((grown_setCell w6 w1.heap.size 2 (.string ⟨v.toArray⟩)).block t (Array.getElem?_eq_some_iff.1 HS6.out).1 M6.out.apart.2).trans HS6.out
        generalize (w6.setCell ⟨w1.heap.size, 2, none⟩ (.string ⟨v.toArray⟩)) = w7 at *
        clear m0 m1 m2 n0 n1 n2 r0 r1 r2 f0 f1 f2 x0 xf
        obtain ⟨x0, xf⟩ := cells1 hs7
        have hni : (n : Int) ≤ s5.size := by omega
        have M8 := Lib.hid (M7.out.call (grown_setCell w7 t 0 (.string (s5.extract n s5.size))) ⟨_, Tx.put hs7, by_drop s5 n⟩)
        have B := Lib.hid (blanks_any t _ _ M8.out.tx)
        clear hs7
        go_wp2_with fail
        refine B.out.mono ?_
        rintro e w9 ⟨rfl, g9, tx9⟩
        have M9 := Lib.hid (M8.out.call g9 tx9)
        clear g9 tx9 x0 xf B M7
        obtain ⟨m0, m1, m2, n0, n1, n2⟩ := cells3 M9.out.m
        obtain ⟨r0, r1, r2, f0, f1, f2⟩ := cells3 M9.out.r
        go_wp2_with fail
        obtain ⟨hf, gf⟩ := set3 M9.out.r (.int .i64 3) (.string nm) (.string ⟨v.toArray⟩)
        have txf := M9.out.tx.grown gf M9.out.apart.1
        generalize (((w9.setCell ⟨w.heap.size, 0, none⟩ (.int .i64 3)).setCell ⟨w.heap.size, 1, none⟩ (.string nm)).setCell ⟨w.heap.size, 2, none⟩ (.string ⟨v.toArray⟩)) = wf at *
        obtain ⟨y0, y1, y2, _⟩ := cells3 hf
        exact bodyPost_ret (v := .tuple #[.agg #[.int .i64 3, .string nm, .string ⟨v.toArray⟩], .bool true]) (by simp [results, Tryz.results135, go_sem, y0, y1, y2]) rfl ⟨M9.out.after gf, by simp only [OU.out]; exact ⟨trivial, by rw [hr]; exact txf⟩⟩
  | false =>
    obtain ⟨hge, hf⟩ := eat_none (k := 3) (r := (eatS 4 [33, 126] l1 (eatS 2 [33, 61] l1 (eatS 1 [61] l1 (0, l1))))) he
    have HF0 := Lib.hid hf
    have M3 := M3'
    rw [hge] at M3
    clear he hge hf M3'
    have M2 := M3
    clear M3
    go_wp2_with fail
    refine (eat_any t ⟨#[33, 126]⟩ l1 _ M2.out.tx).mono ?_
    rintro e w3 ⟨rfl, g3, tx3⟩
    have M3' := Lib.hid (M2.out.call g3 tx3)
    clear g3 tx3 M2
    generalize he : (eatF (by_ ⟨#[33, 126]⟩) l1).isSome = b1 at *
    cases b1 with
    | true =>
      have HG0 := Lib.hid (eat_getD (k := 4) (r := (eatS 2 [33, 61] l1 (eatS 1 [61] l1 (0, l1)))) he)
      have hl2 : ((eatF (by_ ⟨#[33, 126]⟩) l1).getD l1).length ≤ 1000000 := by
        cases hq : eatF (by_ ⟨#[33, 126]⟩) l1 with
        | none => exact hll2
        | some u => exact Nat.le_trans (eatF_length hq) hll2
      clear he
      generalize (eatF (by_ ⟨#[33, 126]⟩) l1).getD l1 = l2 at *
      have HG : Hid (signP l1 = ((4 : Int), l2)) := by show _ = _; unfold signP; rw [HF0.out, HG0.out]
      obtain ⟨c0, c1, c2, f0, f1, f2⟩ := cells3 M3'.out.m
      have M4 := Lib.hid (M3'.out.sign 4)
      clear HG0
      go_wp2_with fail
      clear c0 c1 c2 f0 f1 f2 M3'
      refine (blanks_any t l2 _ M4.out.tx).mono ?_
      rintro e w5 ⟨rfl, g5, tx5⟩
      have M5 := Lib.hid (M4.out.call g5 tx5)
      clear g5 tx5 M4
      obtain ⟨s5, hs5, es5⟩ := M5.out.tx
      obtain ⟨x0, xf⟩ := cells1 hs5
      have ES := Lib.hid es5
      have hl5 : s5.size ≤ 1000000 := by rw [← tl_len s5, show s5.data.toList = bareF l2 from es5]; exact Nat.le_trans (dropWhile_le _ _) hl2
      have U := Lib.hid (unquote_any s5 w5 hl5)
      have HO2 : Hid (oneP l = match unquoteF (by_ s5) with
          | .error _ => none
          | .ok (v, r) => if by_ nm = [] ∨ ((4) : Int) = 0 then none else some (⟨4, nm, ⟨v.toArray⟩⟩, bareF r)) := by
        show _ = _
        rw [HO.out, HG.out, ES.out, ← HN.out]
      clear es5 HO HG HN
      go_wp2_with fail
      refine U.out.mono ?_
      rintro e w6 ⟨hb6, h6⟩
      have M6 := Lib.hid (M5.out.below hb6)
      have hs6 := (hb6.block _ (Array.getElem?_eq_some_iff.1 hs5).1).trans hs5
      clear hs5 x0 xf M5 U hb6
      have HS6 := Lib.hid hs6
      obtain ⟨m0, m1, m2, n0, n1, n2⟩ := cells3 M6.out.m
      obtain ⟨r0, r1, r2, f0, f1, f2⟩ := cells3 M6.out.r
      obtain ⟨x0, xf⟩ := cells1 hs6
      clear hs6
      cases hu : unquoteF (by_ s5) with
      | error er =>
        have OU : Hid (oneP l = none) := by have := HO2.out; rw [hu] at this; exact this
        rw [hu] at h6
        obtain rfl := h6
        have hne : (er != 0) = true := by rcases unquoteF_err hu with rfl | rfl <;> rfl
        clear hu HO2
        go_wp2_with fail
        all_goals
          obtain ⟨hf, gf⟩ := set3 M6.out.r (.int .i64 0) (.string ⟨#[]⟩) (.string ⟨#[]⟩)
          generalize (((w6.setCell ⟨w.heap.size, 0, none⟩ (.int .i64 0)).setCell ⟨w.heap.size, 1, none⟩ (.string ⟨#[]⟩)).setCell ⟨w.heap.size, 2, none⟩ (.string ⟨#[]⟩)) = wf at *
          obtain ⟨y0, y1, y2, _⟩ := cells3 hf
          exact bodyPost_ret (v := .tuple #[.agg #[.int .i64 0, .string ⟨#[]⟩, .string ⟨#[]⟩], .bool false]) (by simp [results, Tryz.results135, go_sem, y0, y1, y2]) rfl ⟨M6.out.after gf, by simp only [OU.out]⟩
      | ok p =>
        obtain ⟨v, r⟩ := p
        rw [hu] at h6
        obtain ⟨n, hn, hr, rfl⟩ := h6
        by_cases hz : nm.size = 0
        · have hem : nm.toList.isEmpty = true := by rw [tl_eq, show nm.data.toList = [] from by_empty hz]; rfl
          have OU : Hid (oneP l = none) := by have := HO2.out; rw [hu] at this; exact this.trans (if_pos (Or.inl (by_empty hz)))
          clear hu HO2
          go_wp2_with fail
          obtain ⟨hf, gf⟩ := set3 M6.out.r (.int .i64 0) (.string ⟨#[]⟩) (.string ⟨#[]⟩)
          generalize (((w6.setCell ⟨w.heap.size, 0, none⟩ (.int .i64 0)).setCell ⟨w.heap.size, 1, none⟩ (.string ⟨#[]⟩)).setCell ⟨w.heap.size, 2, none⟩ (.string ⟨#[]⟩)) = wf at *
          obtain ⟨y0, y1, y2, _⟩ := cells3 hf
          exact bodyPost_ret (v := .tuple #[.agg #[.int .i64 0, .string ⟨#[]⟩, .string ⟨#[]⟩], .bool false]) (by simp [results, Tryz.results135, go_sem, y0, y1, y2]) rfl ⟨M6.out.after gf, by simp only [OU.out]⟩
        · have hem := string_ne (Nat.pos_of_ne_zero hz)
          have OU : Hid (oneP l = some (⟨4, nm, ⟨v.toArray⟩⟩, bareF r)) := by
            have := HO2.out
            rw [hu] at this
            refine this.trans (if_neg ?_)
            rintro (h | h)
            · exact hz (by rw [← tl_len nm, show nm.data.toList = [] from h]; rfl)
            · cases h
          clear hu HO2
          go_upto_region 16 with fail
          have M7 := Lib.hid (M6.out.value ⟨v.toArray⟩)
          have hs7 := ((grown_setCell w6 w1.heap.size 2 (.string ⟨v.toArray⟩)).block t (Array.getElem?_eq_some_iff.1 HS6.out).1 M6.out.apart.2).trans HS6.out
          generalize (w6.setCell ⟨w1.heap.size, 2, none⟩ (.string ⟨v.toArray⟩)) = w7 at *
          clear m0 m1 m2 n0 n1 n2 r0 r1 r2 f0 f1 f2 x0 xf
          obtain ⟨x0, xf⟩ := cells1 hs7
          have hni : (n : Int) ≤ s5.size := by omega
          have M8 := Lib.hid (M7.out.call (grown_setCell w7 t 0 (.string (s5.extract n s5.size))) ⟨_, Tx.put hs7, by_drop s5 n⟩)
          have B := Lib.hid (blanks_any t _ _ M8.out.tx)
          clear hs7
          go_wp2_with fail
          refine B.out.mono ?_
          rintro e w9 ⟨rfl, g9, tx9⟩
          have M9 := Lib.hid (M8.out.call g9 tx9)
          clear g9 tx9 x0 xf B M7
          obtain ⟨m0, m1, m2, n0, n1, n2⟩ := cells3 M9.out.m
          obtain ⟨r0, r1, r2, f0, f1, f2⟩ := cells3 M9.out.r
          go_wp2_with fail
          obtain ⟨hf, gf⟩ := set3 M9.out.r (.int .i64 4) (.string nm) (.string ⟨v.toArray⟩)
          have txf := M9.out.tx.grown gf M9.out.apart.1
          generalize (((w9.setCell ⟨w.heap.size, 0, none⟩ (.int .i64 4)).setCell ⟨w.heap.size, 1, none⟩ (.string nm)).setCell ⟨w.heap.size, 2, none⟩ (.string ⟨v.toArray⟩)) = wf at *
          obtain ⟨y0, y1, y2, _⟩ := cells3 hf
          exact bodyPost_ret (v := .tuple #[.agg #[.int .i64 4, .string nm, .string ⟨v.toArray⟩], .bool true]) (by simp [results, Tryz.results135, go_sem, y0, y1, y2]) rfl ⟨M9.out.after gf, by simp only [OU.out]; exact ⟨trivial, by rw [hr]; exact txf⟩⟩
    | false =>
      obtain ⟨hge, hf⟩ := eat_none (k := 4) (r := (eatS 2 [33, 61] l1 (eatS 1 [61] l1 (0, l1)))) he
      have HF1 := Lib.hid hf
      have M3 := M3'
      rw [hge] at M3
      clear he hge hf M3'
      have M2 := M3
      clear M3
      go_wp2_with fail
      refine (eat_any t ⟨#[33, 61]⟩ l1 _ M2.out.tx).mono ?_
      rintro e w3 ⟨rfl, g3, tx3⟩
      have M3' := Lib.hid (M2.out.call g3 tx3)
      clear g3 tx3 M2
      generalize he : (eatF (by_ ⟨#[33, 61]⟩) l1).isSome = b1 at *
      cases b1 with
      | true =>
        have HG0 := Lib.hid (eat_getD (k := 2) (r := (eatS 1 [61] l1 (0, l1))) he)
        have hl2 : ((eatF (by_ ⟨#[33, 61]⟩) l1).getD l1).length ≤ 1000000 := by
          cases hq : eatF (by_ ⟨#[33, 61]⟩) l1 with
          | none => exact hll2
          | some u => exact Nat.le_trans (eatF_length hq) hll2
        clear he
        generalize (eatF (by_ ⟨#[33, 61]⟩) l1).getD l1 = l2 at *
        have HG : Hid (signP l1 = ((2 : Int), l2)) := by show _ = _; unfold signP; rw [HF0.out, HF1.out, HG0.out]
        obtain ⟨c0, c1, c2, f0, f1, f2⟩ := cells3 M3'.out.m
        have M4 := Lib.hid (M3'.out.sign 2)
        clear HG0
        go_wp2_with fail
        clear c0 c1 c2 f0 f1 f2 M3'
        refine (blanks_any t l2 _ M4.out.tx).mono ?_
        rintro e w5 ⟨rfl, g5, tx5⟩
        have M5 := Lib.hid (M4.out.call g5 tx5)
        clear g5 tx5 M4
        obtain ⟨s5, hs5, es5⟩ := M5.out.tx
        obtain ⟨x0, xf⟩ := cells1 hs5
        have ES := Lib.hid es5
        have hl5 : s5.size ≤ 1000000 := by rw [← tl_len s5, show s5.data.toList = bareF l2 from es5]; exact Nat.le_trans (dropWhile_le _ _) hl2
        have U := Lib.hid (unquote_any s5 w5 hl5)
        have HO2 : Hid (oneP l = match unquoteF (by_ s5) with
            | .error _ => none
            | .ok (v, r) => if by_ nm = [] ∨ ((2) : Int) = 0 then none else some (⟨2, nm, ⟨v.toArray⟩⟩, bareF r)) := by
          show _ = _
          rw [HO.out, HG.out, ES.out, ← HN.out]
        clear es5 HO HG HN
        go_wp2_with fail
        refine U.out.mono ?_
        rintro e w6 ⟨hb6, h6⟩
        have M6 := Lib.hid (M5.out.below hb6)
        have hs6 := (hb6.block _ (Array.getElem?_eq_some_iff.1 hs5).1).trans hs5
        clear hs5 x0 xf M5 U hb6
        have HS6 := Lib.hid hs6
        obtain ⟨m0, m1, m2, n0, n1, n2⟩ := cells3 M6.out.m
        obtain ⟨r0, r1, r2, f0, f1, f2⟩ := cells3 M6.out.r
        obtain ⟨x0, xf⟩ := cells1 hs6
        clear hs6
        cases hu : unquoteF (by_ s5) with
        | error er =>
          have OU : Hid (oneP l = none) := by have := HO2.out; rw [hu] at this; exact this
          rw [hu] at h6
          obtain rfl := h6
          have hne : (er != 0) = true := by rcases unquoteF_err hu with rfl | rfl <;> rfl
          clear hu HO2
          go_wp2_with fail
          all_goals
            obtain ⟨hf, gf⟩ := set3 M6.out.r (.int .i64 0) (.string ⟨#[]⟩) (.string ⟨#[]⟩)
            generalize (((w6.setCell ⟨w.heap.size, 0, none⟩ (.int .i64 0)).setCell ⟨w.heap.size, 1, none⟩ (.string ⟨#[]⟩)).setCell ⟨w.heap.size, 2, none⟩ (.string ⟨#[]⟩)) = wf at *
            obtain ⟨y0, y1, y2, _⟩ := cells3 hf
            exact bodyPost_ret (v := .tuple #[.agg #[.int .i64 0, .string ⟨#[]⟩, .string ⟨#[]⟩], .bool false]) (by simp [results, Tryz.results135, go_sem, y0, y1, y2]) rfl ⟨M6.out.after gf, by simp only [OU.out]⟩
        | ok p =>
          obtain ⟨v, r⟩ := p
          rw [hu] at h6
          obtain ⟨n, hn, hr, rfl⟩ := h6
          by_cases hz : nm.size = 0
          · have hem : nm.toList.isEmpty = true := by rw [tl_eq, show nm.data.toList = [] from by_empty hz]; rfl
            have OU : Hid (oneP l = none) := by have := HO2.out; rw [hu] at this; exact this.trans (if_pos (Or.inl (by_empty hz)))
            clear hu HO2
            go_wp2_with fail
            obtain ⟨hf, gf⟩ := set3 M6.out.r (.int .i64 0) (.string ⟨#[]⟩) (.string ⟨#[]⟩)
            generalize (((w6.setCell ⟨w.heap.size, 0, none⟩ (.int .i64 0)).setCell ⟨w.heap.size, 1, none⟩ (.string ⟨#[]⟩)).setCell ⟨w.heap.size, 2, none⟩ (.string ⟨#[]⟩)) = wf at *
            obtain ⟨y0, y1, y2, _⟩ := cells3 hf
            exact bodyPost_ret (v := .tuple #[.agg #[.int .i64 0, .string ⟨#[]⟩, .string ⟨#[]⟩], .bool false]) (by simp [results, Tryz.results135, go_sem, y0, y1, y2]) rfl ⟨M6.out.after gf, by simp only [OU.out]⟩
          · have hem := string_ne (Nat.pos_of_ne_zero hz)
            have OU : Hid (oneP l = some (⟨2, nm, ⟨v.toArray⟩⟩, bareF r)) := by
              have := HO2.out
              rw [hu] at this
              refine this.trans (if_neg ?_)
              rintro (h | h)
              · exact hz (by rw [← tl_len nm, show nm.data.toList = [] from h]; rfl)
              · cases h
            clear hu HO2
            go_upto_region 16 with fail
            have M7 := Lib.hid (M6.out.value ⟨v.toArray⟩)
            have hs7 := ((grown_setCell w6 w1.heap.size 2 (.string ⟨v.toArray⟩)).block t (Array.getElem?_eq_some_iff.1 HS6.out).1 M6.out.apart.2).trans HS6.out
            generalize (w6.setCell ⟨w1.heap.size, 2, none⟩ (.string ⟨v.toArray⟩)) = w7 at *
            clear m0 m1 m2 n0 n1 n2 r0 r1 r2 f0 f1 f2 x0 xf
            obtain ⟨x0, xf⟩ := cells1 hs7
            have hni : (n : Int) ≤ s5.size := by omega
            have M8 := Lib.hid (M7.out.call (grown_setCell w7 t 0 (.string (s5.extract n s5.size))) ⟨_, Tx.put hs7, by_drop s5 n⟩)
            have B := Lib.hid (blanks_any t _ _ M8.out.tx)
            clear hs7
            go_wp2_with fail
            refine B.out.mono ?_
            rintro e w9 ⟨rfl, g9, tx9⟩
            have M9 := Lib.hid (M8.out.call g9 tx9)
            clear g9 tx9 x0 xf B M7
            obtain ⟨m0, m1, m2, n0, n1, n2⟩ := cells3 M9.out.m
            obtain ⟨r0, r1, r2, f0, f1, f2⟩ := cells3 M9.out.r
            go_wp2_with fail
            obtain ⟨hf, gf⟩ := set3 M9.out.r (.int .i64 2) (.string nm) (.string ⟨v.toArray⟩)
            have txf := M9.out.tx.grown gf M9.out.apart.1
            generalize (((w9.setCell ⟨w.heap.size, 0, none⟩ (.int .i64 2)).setCell ⟨w.heap.size, 1, none⟩ (.string nm)).setCell ⟨w.heap.size, 2, none⟩ (.string ⟨v.toArray⟩)) = wf at *
            obtain ⟨y0, y1, y2, _⟩ := cells3 hf
            exact bodyPost_ret (v := .tuple #[.agg #[.int .i64 2, .string nm, .string ⟨v.toArray⟩], .bool true]) (by simp [results, Tryz.results135, go_sem, y0, y1, y2]) rfl ⟨M9.out.after gf, by simp only [OU.out]; exact ⟨trivial, by rw [hr]; exact txf⟩⟩
      | false =>
        obtain ⟨hge, hf⟩ := eat_none (k := 2) (r := (eatS 1 [61] l1 (0, l1))) he
        have HF2 := Lib.hid hf
        have M3 := M3'
        rw [hge] at M3
        clear he hge hf M3'
        have M2 := M3
        clear M3
        go_wp2_with fail
        refine (eat_any t ⟨#[61]⟩ l1 _ M2.out.tx).mono ?_
        rintro e w3 ⟨rfl, g3, tx3⟩
        have M3' := Lib.hid (M2.out.call g3 tx3)
        clear g3 tx3 M2
        generalize he : (eatF (by_ ⟨#[61]⟩) l1).isSome = b1 at *
        cases b1 with
        | true =>
          have HG0 := Lib.hid (eat_getD (k := 1) (r := (0, l1)) he)
          have hl2 : ((eatF (by_ ⟨#[61]⟩) l1).getD l1).length ≤ 1000000 := by
            cases hq : eatF (by_ ⟨#[61]⟩) l1 with
            | none => exact hll2
            | some u => exact Nat.le_trans (eatF_length hq) hll2
          clear he
          generalize (eatF (by_ ⟨#[61]⟩) l1).getD l1 = l2 at *
          have HG : Hid (signP l1 = ((1 : Int), l2)) := by show _ = _; unfold signP; rw [HF0.out, HF1.out, HF2.out, HG0.out]
          obtain ⟨c0, c1, c2, f0, f1, f2⟩ := cells3 M3'.out.m
          have M4 := Lib.hid (M3'.out.sign 1)
          clear HG0
          go_wp2_with fail
          clear c0 c1 c2 f0 f1 f2 M3'
          refine (blanks_any t l2 _ M4.out.tx).mono ?_
          rintro e w5 ⟨rfl, g5, tx5⟩
          have M5 := Lib.hid (M4.out.call g5 tx5)
          clear g5 tx5 M4
          obtain ⟨s5, hs5, es5⟩ := M5.out.tx
          obtain ⟨x0, xf⟩ := cells1 hs5
          have ES := Lib.hid es5
          have hl5 : s5.size ≤ 1000000 := by rw [← tl_len s5, show s5.data.toList = bareF l2 from es5]; exact Nat.le_trans (dropWhile_le _ _) hl2
          have U := Lib.hid (unquote_any s5 w5 hl5)
          have HO2 : Hid (oneP l = match unquoteF (by_ s5) with
              | .error _ => none
              | .ok (v, r) => if by_ nm = [] ∨ ((1) : Int) = 0 then none else some (⟨1, nm, ⟨v.toArray⟩⟩, bareF r)) := by
            show _ = _
            rw [HO.out, HG.out, ES.out, ← HN.out]
          clear es5 HO HG HN
          go_wp2_with fail
          refine U.out.mono ?_
          rintro e w6 ⟨hb6, h6⟩
          have M6 := Lib.hid (M5.out.below hb6)
          have hs6 := (hb6.block _ (Array.getElem?_eq_some_iff.1 hs5).1).trans hs5
          clear hs5 x0 xf M5 U hb6
          have HS6 := Lib.hid hs6
          obtain ⟨m0, m1, m2, n0, n1, n2⟩ := cells3 M6.out.m
          obtain ⟨r0, r1, r2, f0, f1, f2⟩ := cells3 M6.out.r
          obtain ⟨x0, xf⟩ := cells1 hs6
          clear hs6
          cases hu : unquoteF (by_ s5) with
          | error er =>
            have OU : Hid (oneP l = none) := by have := HO2.out; rw [hu] at this; exact this
            rw [hu] at h6
            obtain rfl := h6
            have hne : (er != 0) = true := by rcases unquoteF_err hu with rfl | rfl <;> rfl
            clear hu HO2
            go_wp2_with fail
            all_goals
              obtain ⟨hf, gf⟩ := set3 M6.out.r (.int .i64 0) (.string ⟨#[]⟩) (.string ⟨#[]⟩)
              generalize (((w6.setCell ⟨w.heap.size, 0, none⟩ (.int .i64 0)).setCell ⟨w.heap.size, 1, none⟩ (.string ⟨#[]⟩)).setCell ⟨w.heap.size, 2, none⟩ (.string ⟨#[]⟩)) = wf at *
              obtain ⟨y0, y1, y2, _⟩ := cells3 hf
              exact bodyPost_ret (v := .tuple #[.agg #[.int .i64 0, .string ⟨#[]⟩, .string ⟨#[]⟩], .bool false]) (by simp [results, Tryz.results135, go_sem, y0, y1, y2]) rfl ⟨M6.out.after gf, by simp only [OU.out]⟩
          | ok p =>
            obtain ⟨v, r⟩ := p
            rw [hu] at h6
            obtain ⟨n, hn, hr, rfl⟩ := h6
            by_cases hz : nm.size = 0
            · have hem : nm.toList.isEmpty = true := by rw [tl_eq, show nm.data.toList = [] from by_empty hz]; rfl
              have OU : Hid (oneP l = none) := by have := HO2.out; rw [hu] at this; exact this.trans (if_pos (Or.inl (by_empty hz)))
              clear hu HO2
              go_wp2_with fail
              obtain ⟨hf, gf⟩ := set3 M6.out.r (.int .i64 0) (.string ⟨#[]⟩) (.string ⟨#[]⟩)
              generalize (((w6.setCell ⟨w.heap.size, 0, none⟩ (.int .i64 0)).setCell ⟨w.heap.size, 1, none⟩ (.string ⟨#[]⟩)).setCell ⟨w.heap.size, 2, none⟩ (.string ⟨#[]⟩)) = wf at *
              obtain ⟨y0, y1, y2, _⟩ := cells3 hf
              exact bodyPost_ret (v := .tuple #[.agg #[.int .i64 0, .string ⟨#[]⟩, .string ⟨#[]⟩], .bool false]) (by simp [results, Tryz.results135, go_sem, y0, y1, y2]) rfl ⟨M6.out.after gf, by simp only [OU.out]⟩
            · have hem := string_ne (Nat.pos_of_ne_zero hz)
              have OU : Hid (oneP l = some (⟨1, nm, ⟨v.toArray⟩⟩, bareF r)) := by
                have := HO2.out
                rw [hu] at this
                refine this.trans (if_neg ?_)
                rintro (h | h)
                · exact hz (by rw [← tl_len nm, show nm.data.toList = [] from h]; rfl)
                · cases h
              clear hu HO2
              go_upto_region 16 with fail
              have M7 := Lib.hid (M6.out.value ⟨v.toArray⟩)
              have hs7 := ((grown_setCell w6 w1.heap.size 2 (.string ⟨v.toArray⟩)).block t (Array.getElem?_eq_some_iff.1 HS6.out).1 M6.out.apart.2).trans HS6.out
              generalize (w6.setCell ⟨w1.heap.size, 2, none⟩ (.string ⟨v.toArray⟩)) = w7 at *
              clear m0 m1 m2 n0 n1 n2 r0 r1 r2 f0 f1 f2 x0 xf
              obtain ⟨x0, xf⟩ := cells1 hs7
              have hni : (n : Int) ≤ s5.size := by omega
              have M8 := Lib.hid (M7.out.call (grown_setCell w7 t 0 (.string (s5.extract n s5.size))) ⟨_, Tx.put hs7, by_drop s5 n⟩)
              have B := Lib.hid (blanks_any t _ _ M8.out.tx)
              clear hs7
              go_wp2_with fail
              refine B.out.mono ?_
              rintro e w9 ⟨rfl, g9, tx9⟩
              have M9 := Lib.hid (M8.out.call g9 tx9)
              clear g9 tx9 x0 xf B M7
              obtain ⟨m0, m1, m2, n0, n1, n2⟩ := cells3 M9.out.m
              obtain ⟨r0, r1, r2, f0, f1, f2⟩ := cells3 M9.out.r
              go_wp2_with fail
              obtain ⟨hf, gf⟩ := set3 M9.out.r (.int .i64 1) (.string nm) (.string ⟨v.toArray⟩)
              have txf := M9.out.tx.grown gf M9.out.apart.1
              generalize (((w9.setCell ⟨w.heap.size, 0, none⟩ (.int .i64 1)).setCell ⟨w.heap.size, 1, none⟩ (.string nm)).setCell ⟨w.heap.size, 2, none⟩ (.string ⟨v.toArray⟩)) = wf at *
              obtain ⟨y0, y1, y2, _⟩ := cells3 hf
              exact bodyPost_ret (v := .tuple #[.agg #[.int .i64 1, .string nm, .string ⟨v.toArray⟩], .bool true]) (by simp [results, Tryz.results135, go_sem, y0, y1, y2]) rfl ⟨M9.out.after gf, by simp only [OU.out]; exact ⟨trivial, by rw [hr]; exact txf⟩⟩
        | false =>
          obtain ⟨hge, hf⟩ := eat_none (k := 1) (r := (0, l1)) he
          have HF3 := Lib.hid hf
          have M3 := M3'
          rw [hge] at M3
          clear he hge hf M3'
          skip
          skip
          have HG : Hid (signP l1 = ((0 : Int), l1)) := by show _ = _; unfold signP; rw [HF0.out, HF1.out, HF2.out, HF3.out]
          obtain ⟨l2, hl2e⟩ : ∃ l2, l2 = l1 := ⟨_, rfl⟩
          subst hl2e
          have hl2 := hll2
          have M4 := M3
          go_wp2_with fail
          refine (blanks_any t l2 _ M4.out.tx).mono ?_
          rintro e w5 ⟨rfl, g5, tx5⟩
          have M5 := Lib.hid (M4.out.call g5 tx5)
          clear g5 tx5 M4
          obtain ⟨s5, hs5, es5⟩ := M5.out.tx
          obtain ⟨x0, xf⟩ := cells1 hs5
          have ES := Lib.hid es5
          have hl5 : s5.size ≤ 1000000 := by rw [← tl_len s5, show s5.data.toList = bareF l2 from es5]; exact Nat.le_trans (dropWhile_le _ _) hl2
          have U := Lib.hid (unquote_any s5 w5 hl5)
          have HO2 : Hid (oneP l = match unquoteF (by_ s5) with
              | .error _ => none
              | .ok (v, r) => if by_ nm = [] ∨ ((0) : Int) = 0 then none else some (⟨0, nm, ⟨v.toArray⟩⟩, bareF r)) := by
            show _ = _
            rw [HO.out, HG.out, ES.out, ← HN.out]
          clear es5 HO HG HN
          go_wp2_with fail
          refine U.out.mono ?_
          rintro e w6 ⟨hb6, h6⟩
          have M6 := Lib.hid (M5.out.below hb6)
          have hs6 := (hb6.block _ (Array.getElem?_eq_some_iff.1 hs5).1).trans hs5
          clear hs5 x0 xf M5 U hb6
          have HS6 := Lib.hid hs6
          obtain ⟨m0, m1, m2, n0, n1, n2⟩ := cells3 M6.out.m
          obtain ⟨r0, r1, r2, f0, f1, f2⟩ := cells3 M6.out.r
          obtain ⟨x0, xf⟩ := cells1 hs6
          clear hs6
          cases hu : unquoteF (by_ s5) with
          | error er =>
            have OU : Hid (oneP l = none) := by have := HO2.out; rw [hu] at this; exact this
            rw [hu] at h6
            obtain rfl := h6
            have hne : (er != 0) = true := by rcases unquoteF_err hu with rfl | rfl <;> rfl
            clear hu HO2
            go_wp2_with fail
            all_goals
              obtain ⟨hf, gf⟩ := set3 M6.out.r (.int .i64 0) (.string ⟨#[]⟩) (.string ⟨#[]⟩)
              generalize (((w6.setCell ⟨w.heap.size, 0, none⟩ (.int .i64 0)).setCell ⟨w.heap.size, 1, none⟩ (.string ⟨#[]⟩)).setCell ⟨w.heap.size, 2, none⟩ (.string ⟨#[]⟩)) = wf at *
              obtain ⟨y0, y1, y2, _⟩ := cells3 hf
              exact bodyPost_ret (v := .tuple #[.agg #[.int .i64 0, .string ⟨#[]⟩, .string ⟨#[]⟩], .bool false]) (by simp [results, Tryz.results135, go_sem, y0, y1, y2]) rfl ⟨M6.out.after gf, by simp only [OU.out]⟩
          | ok p =>
            obtain ⟨v, r⟩ := p
            rw [hu] at h6
            obtain ⟨n, hn, hr, rfl⟩ := h6
            by_cases hz : nm.size = 0
            · have hem : nm.toList.isEmpty = true := by rw [tl_eq, show nm.data.toList = [] from by_empty hz]; rfl
              have OU : Hid (oneP l = none) := by have := HO2.out; rw [hu] at this; exact this.trans (if_pos (Or.inl (by_empty hz)))
              clear hu HO2
              go_wp2_with fail
              obtain ⟨hf, gf⟩ := set3 M6.out.r (.int .i64 0) (.string ⟨#[]⟩) (.string ⟨#[]⟩)
              generalize (((w6.setCell ⟨w.heap.size, 0, none⟩ (.int .i64 0)).setCell ⟨w.heap.size, 1, none⟩ (.string ⟨#[]⟩)).setCell ⟨w.heap.size, 2, none⟩ (.string ⟨#[]⟩)) = wf at *
              obtain ⟨y0, y1, y2, _⟩ := cells3 hf
              exact bodyPost_ret (v := .tuple #[.agg #[.int .i64 0, .string ⟨#[]⟩, .string ⟨#[]⟩], .bool false]) (by simp [results, Tryz.results135, go_sem, y0, y1, y2]) rfl ⟨M6.out.after gf, by simp only [OU.out]⟩
            · have hem := string_ne (Nat.pos_of_ne_zero hz)
              have OU : Hid (oneP l = none) := by have := HO2.out; rw [hu] at this; exact this.trans (if_pos (by simp))
              clear hu HO2
              go_wp2_with fail
              obtain ⟨hf, gf⟩ := set3 M6.out.r (.int .i64 0) (.string ⟨#[]⟩) (.string ⟨#[]⟩)
              generalize (((w6.setCell ⟨w.heap.size, 0, none⟩ (.int .i64 0)).setCell ⟨w.heap.size, 1, none⟩ (.string ⟨#[]⟩)).setCell ⟨w.heap.size, 2, none⟩ (.string ⟨#[]⟩)) = wf at *
              obtain ⟨y0, y1, y2, _⟩ := cells3 hf
              exact bodyPost_ret (v := .tuple #[.agg #[.int .i64 0, .string ⟨#[]⟩, .string ⟨#[]⟩], .bool false]) (by simp [results, Tryz.results135, go_sem, y0, y1, y2]) rfl ⟨M6.out.after gf, by simp only [OU.out]⟩
end Go.Proofs.YtmbfpichaaanpaaGreatDoor
