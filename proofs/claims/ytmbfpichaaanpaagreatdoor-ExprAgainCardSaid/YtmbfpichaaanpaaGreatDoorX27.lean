import Derived.Test.YtmbfpichaaanpaaGreatDoorX26
/-! The reader of expressions: what stands between braces. -/
namespace Go.Proofs.YtmbfpichaaanpaaGreatDoor
open Go.RowKit Ut Rx Mt

theorem scan_cons (n : Nat) (c : UInt8) (t : List UInt8) : Ex.scanF (n + 1) (c :: t) = if c = 125 then some 1 else if c = 34 then (match unqF t with
      | .ok (_, r) => (Ex.scanF n r).map (· + ((c :: t).length - r.length))
      | .error _ => none)
    else (Ex.scanF n t).map (· + 1) := by
  rw [Ex.scanF]
  rfl
theorem scan_nil (n : Nat) : Ex.scanF n [] = none := by cases n <;> rw [Ex.scanF]
set_option maxRecDepth 100000 in
set_option maxHeartbeats 4000000 in
theorem bracesX_any (t : Nat) (lv : Value) (p : Ex.P) (w : World) (h : Px w t lv p.s p.bad p.e) (hll : p.s.length ≤ 1000000) : Calls Tryz.prog 96 #[.pointer (some ⟨t, 0, none⟩)] w (PWord w t lv (Ex.bracesE p).1 (Ex.bracesE p).2.s (Ex.bracesE p).2.bad p.e) := by
  have ht := h.lt
  obtain ⟨l0, pl, bad, n⟩ := p
  simp only at *
  obtain ⟨s, h0, rfl⟩ := h
  have HS := Lib.hid h0
  have hsz : s.size ≤ 1000000 := by rw [tl_len] at hll; exact hll
  have EQ : Hid ((match Ex.scanF s.size ((by_ s).drop 1) with
    | some k => ((by_ s).take (k + 1), (by_ s).drop (k + 1), bad)
    | none => ([], by_ s, true)) = ((Ex.bracesE ⟨by_ s, pl, bad, n⟩).1, (Ex.bracesE ⟨by_ s, pl, bad, n⟩).2.s, (Ex.bracesE ⟨by_ s, pl, bad, n⟩).2.bad)) := by
    show _ = _
    unfold Ex.bracesE
    simp only
    rw [tl_len]
    cases Ex.scanF s.size ((by_ s).drop 1) <;> rfl
  generalize Ex.bracesE ⟨by_ s, pl, bad, n⟩ = R at *
  obtain ⟨r1, r2⟩ := R
  simp only at *
  generalize r2.s = rs at *
  generalize r2.bad = rb at *
  clear r2 hll pl h0
  have KP : Hid (∀ w', Below w.heap.size w w' → w'.heap[t]? = some (pxC s lv bad n)) := fun w' b => (b.block _ ht).trans HS.out
  have B0 : Hid (Below w.heap.size w w) := Below.refl _ _
  go_enter Tryz.func96, Tryz.ntmps96
  go_wp2_with fail
  go_loopg [3] s.size (fun gk v3 wr => ∃ (i F : Nat), v3 = .int .i64 i ∧ 1 ≤ i ∧ s.size ≤ i + gk - 1 ∧ i ≤ s.size + 1 ∧ ((by_ s).drop i).length ≤ F ∧ Hid (Below w.heap.size w wr) ∧ Hid ((Ex.scanF F ((by_ s).drop i)).map (· + (i - 1)) = Ex.scanF s.size ((by_ s).drop 1)))
  case atStart => exact ⟨1, s.size, rfl, by omega, by omega, by omega, by rw [List.length_drop, tl_len]; omega, B0, by show _ = _; simp⟩
  case round =>
    obtain ⟨i, F, rfl, hi1, hgk, hil, hF, HB, HR⟩ := hrel
    have hst := KP.out _ HB.out
    obtain ⟨c0, c1, c2, c3, f0, f1, f2, f3⟩ := px_cells hst
    have HST := Lib.hid hst
    clear hst B0
    by_cases hlt : i < s.size
    · have hlti : (i : Int) < s.size := by omega
      have hle : (i : Int) ≤ s.size := by omega
      have HC := Lib.hid (drop_two hlt)
      have hlen : ((by_ s).drop i).length = s.size - i := by rw [List.length_drop, tl_len]
      obtain ⟨F2, rfl⟩ : ∃ F2, F = F2 + 1 := ⟨F - 1, by omega⟩
      have HR2 : Hid ((if (s[i]'hlt) = 125 then some 1 else if (s[i]'hlt) = 34 then (match unqF ((by_ s).drop (i + 1)) with
          | .ok (_, r) => (Ex.scanF F2 r).map (· + (s.size - i - r.length))
          | .error _ => none)
        else (Ex.scanF F2 ((by_ s).drop (i + 1))).map (· + 1)).map (· + (i - 1)) = Ex.scanF s.size ((by_ s).drop 1)) := by
        have := HR.out
        rw [HC.out, scan_cons, ← HC.out, hlen] at this
        exact this
      have u1 := ub_eq (s[i]'hlt) 125 (by omega)
      have u2 := ub_eq (s[i]'hlt) 34 (by omega)
      by_cases h125 : (s[i]'hlt) = 125
      · have E : Hid (((by_ s).take (i + 1), (by_ s).drop (i + 1), bad) = (r1, rs, rb)) := by
          have := EQ.out
          rw [← HR2.out, if_pos h125] at this
          simp only [Option.map_some] at this
          rw [show 1 + (i - 1) + 1 = i + 1 by omega] at this
          exact this
        rw [Prod.mk.injEq, Prod.mk.injEq] at E
        obtain ⟨rfl, rfl, rfl⟩ := E
        rw [decide_eq_true (show (s[i]'hlt) = UInt8.ofNat 125 from h125)] at u1
        have q1 : (i : Int) + 1 ≤ s.size := by omega
        have q2 : ((i : Int) + 1).toNat = i + 1 := by omega
        clear EQ HR HR2 HC h125 u2
        go_wp2_with fail
        go_ret
        exact ⟨⟨s.extract 0 (i + 1), rfl, by rw [by_take]⟩, grown_trans (grown_below HB.out) (grown_setCell _ _ _ _), s.extract (i + 1) s.size, px_put0 HST.out, by rw [by_drop]⟩
      · rw [decide_eq_false (show ¬ (s[i]'hlt) = UInt8.ofNat 125 from h125)] at u1
        by_cases h34 : (s[i]'hlt) = 34
        · rw [decide_eq_true (show (s[i]'hlt) = UInt8.ofNat 34 from h34)] at u2
          have UQ := Lib.hid (unquote_any (s.extract i s.size) wr (by simp; omega))
          have HQ : Hid (unquoteF (by_ (s.extract i s.size)) = unqF ((by_ s).drop (i + 1))) := by
            show _ = _
            rw [by_drop, HC.out, h34]
            rfl
          have HR3 : Hid ((match unqF ((by_ s).drop (i + 1)) with
              | .ok (_, r) => (Ex.scanF F2 r).map (· + (s.size - i - r.length))
              | .error _ => none).map (· + (i - 1)) = Ex.scanF s.size ((by_ s).drop 1)) := by
            have := HR2.out
            rw [if_neg h125, if_pos h34] at this
            exact this
          have hss : (s.extract i s.size).size = s.size - i := by simp
          clear HR HR2 h125 h34 HC
          go_wp2_with fail
          refine UQ.out.mono ?_
          rintro e2 w2 ⟨hb2, hu⟩
          have HB2 := Lib.hid (HB.out.trans (hb2.mono HB.out.size))
          have hst2 := KP.out _ HB2.out
          obtain ⟨d0, d1, d2, d3, g0, g1, g2, g3⟩ := px_cells hst2
          have HST2 := Lib.hid hst2
          rw [HQ.out] at hu
          clear hst2 c0 c1 c2 c3 f0 f1 f2 f3 hb2 UQ HQ HB HST
          cases hx : unqF ((by_ s).drop (i + 1)) with
          | error er =>
            rw [hx] at hu
            simp only at hu
            subst hu
            have hne : (er != 0) = true := by rcases unqF_err _ _ _ (Nat.le_refl _) hx with rfl | rfl <;> rfl
            have E : Hid ((([] : List UInt8), by_ s, true) = (r1, rs, rb)) := by
              have h1 := HR3.out
              rw [hx] at h1
              have := EQ.out
              rw [← h1] at this
              exact this
            rw [Prod.mk.injEq, Prod.mk.injEq] at E
            obtain ⟨rfl, rfl, rfl⟩ := E
            clear EQ HR3 hx
            go_wp2_with fail
            go_ret
            exact ⟨⟨⟨#[]⟩, rfl, rfl⟩, grown_trans (grown_below HB2.out) (grown_setCell _ _ _ _), s, px_put2 HST2.out, rfl⟩
          | ok y =>
            obtain ⟨x, r⟩ := y
            have hsh := Nat.le_of_lt (unqF_len _ _ _ _ (Nat.le_refl _) hx)
            rw [hx] at hu
            simp only at hu
            obtain ⟨m, hm1, hm2, rfl⟩ := hu
            rw [hss] at hm1
            rw [by_drop, List.drop_drop] at hm2
            subst hm2
            have hm0 : 1 ≤ m := by
              rw [List.length_drop, List.length_drop, tl_len] at hsh
              omega
            have R2 : Hid ((Ex.scanF F2 ((by_ s).drop (i + m))).map (· + (i + m - 1)) = Ex.scanF s.size ((by_ s).drop 1)) := by
              have := HR3.out
              rw [hx] at this
              simp only at this
              rw [List.length_drop, tl_len, show s.size - i - (s.size - (i + m)) = m by omega, Option.map_map] at this
              show _ = _
              rw [← this]
              congr 1
              funext z
              simp only [Function.comp_apply]
              omega
            have z1 : IntKind.i64.wrap ((m : Int) - 1) = (m : Int) - 1 := IntWalk.i64_in _ (by omega)
            have z2 : IntKind.i64.wrap ((i : Int) + ((m : Int) - 1)) = (i : Int) + ((m : Int) - 1) := IntWalk.i64_in _ (by omega)
            have z3 : IntKind.i64.wrap ((i : Int) + ((m : Int) - 1) + 1) = (i : Int) + ((m : Int) - 1) + 1 := IntWalk.i64_in _ (by omega)
            clear HR3 hx hsh EQ
            go_wp2_with fail
            go_roundg (gk - m)
            case measure => omega
            case rel => exact ⟨i + m, F2, by go_num, by omega, by omega, by omega, by rw [List.length_drop, tl_len]; omega, HB2, R2⟩
        · rw [decide_eq_false (show ¬ (s[i]'hlt) = UInt8.ofNat 34 from h34)] at u2
          have R2 : Hid ((Ex.scanF F2 ((by_ s).drop (i + 1))).map (· + (i + 1 - 1)) = Ex.scanF s.size ((by_ s).drop 1)) := by
            have := HR2.out
            rw [if_neg h125, if_neg h34, Option.map_map] at this
            show _ = _
            rw [← this]
            congr 1
            funext z
            simp only [Function.comp_apply]
            omega
          clear HR HR2 h125 h34 HC EQ
          go_wp2_with fail
          go_roundg (gk - 1)
          case measure => omega
          case rel => exact ⟨i + 1, F2, by go_num, by omega, by omega, by omega, by rw [List.length_drop, tl_len]; omega, HB, R2⟩
    · have hki : ¬ (i : Int) < s.size := by omega
      have E : Hid ((([] : List UInt8), by_ s, true) = (r1, rs, rb)) := by
        have h1 := HR.out
        rw [List.drop_of_length_le (by rw [tl_len]; omega), scan_nil] at h1
        have := EQ.out
        rw [← h1] at this
        exact this
      rw [Prod.mk.injEq, Prod.mk.injEq] at E
      obtain ⟨rfl, rfl, rfl⟩ := E
      clear EQ HR
      go_wp2_with fail
      go_ret
      exact ⟨⟨⟨#[]⟩, rfl, rfl⟩, grown_trans (grown_below HB.out) (grown_setCell _ _ _ _), s, px_put2 HST.out, rfl⟩
end Go.Proofs.YtmbfpichaaanpaaGreatDoor

/-! Where a word stands in a list; the reader's small steps, in its own words. -/
namespace Go.Proofs.YtmbfpichaaanpaaGreatDoor
open Go.RowKit Ut Rx Mt

theorem placeGo_cons (x : List UInt8) (t : List (List UInt8)) (s : List UInt8) (i : Int) : Ex.placeGo (x :: t) s i = if x = s then i else Ex.placeGo t s (i + 1) := rfl
theorem Ws0.at_ {w : World} {A : Option Addr} {c : Nat} {l : List ByteArray} (h : Ws0 w (.slice A l.length c) l) : l ≠ [] → ∃ b off, A = some ⟨b, off, none⟩ ∧ ∀ i (h : i < l.length), w.cell? ⟨b, off + i, none⟩ = some (.string (l[i]'h)) := by
  obtain ⟨A', c', e, _, hl⟩ := h
  simp only [Value.slice.injEq, true_and] at e
  obtain ⟨rfl, rfl⟩ := e
  exact hl
set_option maxRecDepth 100000 in
set_option maxHeartbeats 2000000 in
theorem index_any (l : List ByteArray) (sv : Value) (v : ByteArray) (w : World) (h : Ws0 w sv l) (hL : l.length ≤ 1000000) : Calls Tryz.prog 65 #[sv, .string v] w (IntSame w (Ex.placeE (l.map by_) (by_ v))) := by
  obtain ⟨A, c, rfl, hcap, _⟩ := id h
  have HC := Lib.hid h.at_
  clear h
  generalize hg : Ex.placeE (l.map by_) (by_ v) = g
  have HG : Hid (Ex.placeGo ((l.drop 0).map by_) (by_ v) 0 = g) := hg
  clear hg
  go_enter Tryz.func65, Tryz.ntmps65
  go_wp2_with fail
  go_loopg [8] l.length (fun gk v8 wr => ∃ k : Nat, v8 = .int .i64 k ∧ k + gk = l.length ∧ wr = w ∧ Hid (Ex.placeGo ((l.drop k).map by_) (by_ v) k = g))
  case atStart => exact ⟨0, rfl, by omega, rfl, HG⟩
  case round =>
    obtain ⟨k, rfl, hk, rfl, HR⟩ := hrel
    clear HG
    by_cases hlt : k < l.length
    · have hlti : (k : Int) < l.length := by omega
      obtain ⟨b, off, rfl, hc⟩ := HC.out (fun e => by rw [e] at hlt; simp at hlt)
      have c1 := hc k hlt
      have HR2 : Hid ((if by_ (l[k]'hlt) = by_ v then (k : Int) else Ex.placeGo ((l.drop (k + 1)).map by_) (by_ v) ((k : Int) + 1)) = g) := by
        have := HR.out
        rw [List.drop_eq_getElem_cons hlt, List.map_cons, placeGo_cons] at this
        exact this
      generalize (l[k]'hlt) = x at *
      clear hc HR
      by_cases he : by_ x = by_ v
      · have hb : (v.toList == x.toList) = true := by rw [tl_eq, tl_eq]; simpa using he.symm
        have E : Hid ((k : Int) = g) := by have := HR2.out; rw [if_pos he] at this; exact this
        clear HR2 he
        go_wp2_with fail
        go_ret
        rw [← E.out]
        exact ⟨rfl, rfl⟩
      · have hb : (v.toList == x.toList) = false := by
          rw [tl_eq, tl_eq]
          simp only [beq_eq_false_iff_ne, ne_eq]
          exact fun e => he e.symm
        have R2 : Hid (Ex.placeGo ((l.drop (k + 1)).map by_) (by_ v) ((k + 1 : Nat) : Int) = g) := by have := HR2.out; rw [if_neg he] at this; exact this
        clear HR2 he
        go_wp2_with fail
        go_roundg (l.length - (k + 1))
        case measure => omega
        case rel => exact ⟨k + 1, by go_num, by omega, rfl, R2⟩
    · have hki : ¬ (k : Int) < l.length := by omega
      have E : Hid (g = -1) := by
        have := HR.out
        rw [List.drop_of_length_le (by omega)] at this
        exact this.symm
      clear HR
      go_wp2_with fail
      go_ret
      rw [E.out]
      exact ⟨rfl, rfl⟩
set_option maxRecDepth 100000 in
theorem place_any (l : List ByteArray) (sv : Value) (v : ByteArray) (w : World) (h : Ws0 w sv l) (hL : l.length ≤ 1000000) : Calls Tryz.prog 38 #[sv, .string v] w (IntSame w (Ex.placeE (l.map by_) (by_ v))) := by
  have IX := Lib.hid (index_any l sv v w h hL)
  generalize Ex.placeE (l.map by_) (by_ v) = g at *
  go_enter Tryz.func38, Tryz.ntmps38
  go_wp2_with fail
  refine IX.out.mono ?_
  rintro e w1 ⟨rfl, rfl⟩
  clear IX
  go_wp2_with fail
  go_ret
  exact ⟨rfl, rfl⟩

/-! ### the small steps over the reader's state -/
theorem mustP_s (t : List UInt8) (p : Ex.P) : (Ex.mustP t p).s = (eatF t (bareF p.s)).getD (bareF p.s) := by unfold Ex.mustP; cases eatF t (bareF p.s) <;> rfl
theorem mustP_bad (t : List UInt8) (p : Ex.P) : (Ex.mustP t p).bad = (p.bad || !(eatF t (bareF p.s)).isSome) := by unfold Ex.mustP; cases eatF t (bareF p.s) <;> simp
theorem mustP_e (t : List UInt8) (p : Ex.P) : (Ex.mustP t p).e = p.e := by unfold Ex.mustP; cases eatF t (bareF p.s) <;> rfl
theorem mustP_l (t : List UInt8) (p : Ex.P) : (Ex.mustP t p).l = p.l := by unfold Ex.mustP; cases eatF t (bareF p.s) <;> rfl
theorem hasP_1 (t : List UInt8) (p : Ex.P) : (Ex.hasP t p).1 = (eatF t (bareF p.s)).isSome := by unfold Ex.hasP; cases eatF t (bareF p.s) <;> rfl
theorem hasP_s (t : List UInt8) (p : Ex.P) : (Ex.hasP t p).2.s = (eatF t (bareF p.s)).getD (bareF p.s) := by unfold Ex.hasP; cases eatF t (bareF p.s) <;> rfl
theorem hasP_bad (t : List UInt8) (p : Ex.P) : (Ex.hasP t p).2.bad = p.bad := by unfold Ex.hasP; cases eatF t (bareF p.s) <;> rfl
theorem hasP_e (t : List UInt8) (p : Ex.P) : (Ex.hasP t p).2.e = p.e := by unfold Ex.hasP; cases eatF t (bareF p.s) <;> rfl
theorem hasP_l (t : List UInt8) (p : Ex.P) : (Ex.hasP t p).2.l = p.l := by unfold Ex.hasP; cases eatF t (bareF p.s) <;> rfl
def Pq (w : World) (t : Nat) (lv : Value) (p : Ex.P) : Prop := Px w t lv p.s p.bad p.e
def QUnit (w : World) (t : Nat) (lv : Value) (p : Ex.P) (e : Ending) (w' : World) : Prop := e = .returned (.tuple #[]) ∧ w.grownBy w' (some t) ∧ Pq w' t lv p
def QBool (w : World) (t : Nat) (lv : Value) (b : Bool) (p : Ex.P) (e : Ending) (w' : World) : Prop := e = .returned (.bool b) ∧ w.grownBy w' (some t) ∧ Pq w' t lv p
theorem mustQ_any (t : Nat) (x : ByteArray) (lv : Value) (p : Ex.P) (w : World) (h : Pq w t lv p) : Calls Tryz.prog 75 #[.pointer (some ⟨t, 0, none⟩), .string x] w (QUnit w t lv (Ex.mustP (by_ x) p)) := by
  have := mustX_any t x lv p.s p.bad p.e w h
  unfold QUnit Pq
  rw [mustP_s, mustP_bad, mustP_e]
  exact this
theorem hasQ_any (t : Nat) (x : ByteArray) (lv : Value) (p : Ex.P) (w : World) (h : Pq w t lv p) : Calls Tryz.prog 72 #[.pointer (some ⟨t, 0, none⟩), .string x] w (QBool w t lv (Ex.hasP (by_ x) p).1 (Ex.hasP (by_ x) p).2) := by
  have := hasX_any t x lv p.s p.bad p.e w h
  unfold QBool Pq
  rw [hasP_1, hasP_s, hasP_bad, hasP_e]
  exact this
theorem nextQ_any (t : Nat) (c : UInt8) (lv : Value) (p : Ex.P) (w : World) (h : Pq w t lv p) : Calls Tryz.prog 94 #[.pointer (some ⟨t, 0, none⟩), .int .u8 c.toNat] w (QBool w t lv (Ex.nextP c p).1 (Ex.nextP c p).2) := nextX_any t c lv p.s p.bad p.e w h
theorem isQ_any (t : Nat) (x : ByteArray) (lv : Value) (p : Ex.P) (w : World) (h : Pq w t lv p) (hll : p.s.length ≤ 1000000) : Calls Tryz.prog 78 #[.pointer (some ⟨t, 0, none⟩), .string x] w (QBool w t lv (Ex.isP (by_ x) p).1 (Ex.isP (by_ x) p).2) := by
  have := isX_any t x lv p.s p.bad p.e w h hll
  unfold Ex.isP
  by_cases he : Ex.peekW p.s = by_ x
  · rw [if_pos he]
    rw [decide_eq_true he, if_pos he, show x.size = (by_ x).length from (tl_len x).symm] at this
    exact this
  · rw [if_neg he]
    rw [decide_eq_false he, if_neg he] at this
    exact this
theorem bareF_le (l : List UInt8) : (bareF l).length ≤ l.length := (List.dropWhile_sublist _).length_le
theorem eat_le {t l : List UInt8} : ((eatF t l).getD l).length ≤ l.length := by
  unfold eatF
  split
  · simp
  · simp
theorem mustP_le (t : List UInt8) (p : Ex.P) : (Ex.mustP t p).s.length ≤ p.s.length := by rw [mustP_s]; exact Nat.le_trans eat_le (bareF_le _)
theorem hasP_le (t : List UInt8) (p : Ex.P) : (Ex.hasP t p).2.s.length ≤ p.s.length := by rw [hasP_s]; exact Nat.le_trans eat_le (bareF_le _)
theorem isP_le (t : List UInt8) (p : Ex.P) : (Ex.isP t p).2.s.length ≤ p.s.length := by
  unfold Ex.isP
  split
  · simp only [List.length_drop]
    have := bareF_le p.s
    omega
  · exact bareF_le _
end Go.Proofs.YtmbfpichaaanpaaGreatDoor
