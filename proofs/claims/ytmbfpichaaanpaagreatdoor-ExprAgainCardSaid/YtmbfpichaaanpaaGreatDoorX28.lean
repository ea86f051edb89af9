import Derived.Test.YtmbfpichaaanpaaGreatDoorX27
/-! The reader of expressions: names between brackets. -/
namespace Go.Proofs.YtmbfpichaaanpaaGreatDoor
open Go.RowKit Ut Rx Mt

set_option maxRecDepth 100000 in
theorem infoStr : (Tryz.prog.info? 9).map (fun i => (i.zero, i.size, i.bytes)) = some (some (.string ⟨#[]⟩), 1, 16) := by kernel_rfl
def sC (l : List ByteArray) : List Value := l.map Value.string
theorem sC_append (l : List ByteArray) (x : ByteArray) : sC (l ++ [x]) = sC l ++ [.string x] := List.map_append
theorem sC_one (l : List ByteArray) : ∀ u ∈ sC l, u.oneCell' = true := fun u hu => by
  obtain ⟨b, _, rfl⟩ := List.mem_map.1 hu
  rfl
theorem news_str (w : World) (b : Nat) (x : ByteArray) (hb : b = w.heap.size) : ∀ j u, (sC [x])[j]? = some u → (w.alloc (.cells #[.string x] 9)).cell? ((⟨b, 0, none⟩ : Addr).add j) = some u := by
  intro j u hu
  subst hb
  match j with
  | 0 => simp [sC] at hu; subst hu; exact World.cell?_alloc_at _ _ _ _ rfl
  | j + 1 => simp [sC] at hu
theorem Px.grown {w w' : World} {t : Nat} {lv : Value} {l : List UInt8} {bad : Bool} {e : Int} {r : Option Nat} (h : Px w t lv l bad e) (g : w.grownBy w' r) (hr : some t ≠ r) : Px w' t lv l bad e := by
  have lt := h.lt
  obtain ⟨s, h, e⟩ := h
  exact ⟨s, (g.block _ lt hr).trans h, e⟩
/-- names that have been read so far, in a row of their own -/
structure Nl (w wr : World) (t : Nat) (lv v : Value) (ns : List ByteArray) (p : Ex.P) : Prop where
  px : Pq wr t lv p
  grown : w.grownBy wr (some t)
  own : wr.ownsRow w.heap.size 9 1 v ns.length (sC ns)
  low : t < w.heap.size
theorem Nl.call {w wr w' : World} {t : Nat} {lv v : Value} {ns : List ByteArray} {p p' : Ex.P} (h : Nl w wr t lv v ns p) (g : wr.grownBy w' (some t)) (px : Pq w' t lv p') : Nl w w' t lv v ns p' :=
  ⟨px, grown_trans h.grown g, World.ownsRow.kept h.own g (by
    right
    intro e
    have := (World.ownsRow.lt h.own t e).1
    have := h.low
    omega), h.low⟩
theorem Nl.below {w wr w' : World} {t : Nat} {lv v : Value} {ns : List ByteArray} {p : Ex.P} (h : Nl w wr t lv v ns p) (b : Below wr.heap.size wr w') : Nl w w' t lv v ns p :=
  ⟨Px.below h.px b, grown_then h.grown b, World.ownsRow.kept (row := none) h.own ⟨b.os, b.tape, b.output, b.size, fun k hk _ => b.block k hk⟩ (by cases v.ownBlock <;> simp), h.low⟩
theorem Nl.pushed {w wr w4 w5 : World} {t : Nat} {lv v v' : Value} {ns : List ByteArray} {x : ByteArray} {p : Ex.P} (h : Nl w wr t lv v ns p) (b : Below wr.heap.size wr w4) (gr : w4.grownBy w5 v.ownBlock)
    (own : w5.ownsRow w.heap.size 9 1 v' (ns.length + 1) (sC ns ++ sC [x])) : Nl w w5 t lv v' (ns ++ [x]) p := by
  have h4 := h.below b
  have ne : some t ≠ v.ownBlock := fun e => by have := (World.ownsRow.lt h4.own t e.symm).1; have := h4.low; omega
  refine ⟨Px.grown h4.px gr ne, ?_, ?_, h.low⟩
  · refine ⟨gr.os.trans h4.grown.os, gr.tape.trans h4.grown.tape, gr.output.trans h4.grown.output, Nat.le_trans h4.grown.size gr.size, fun q hq hne => ?_⟩
    rw [gr.block q (Nat.lt_of_lt_of_le hq h4.grown.size) (fun e => by have := (World.ownsRow.lt h4.own q e.symm).1; omega)]
    exact h4.grown.block q hq hne
  · rw [sC_append, List.length_append]
    exact own

theorem names_step (n : Nat) (first : Bool) (acc : List ByteArray) (p : Ex.P) : Ex.namesGo (n + 1) first acc p = if p.bad then some (acc, p) else if (Ex.nextP 41 p).1 then some (acc, (Ex.nextP 41 p).2) else
    Ex.namesGo n false (acc ++ [⟨(Ex.peekW (if first then Ex.bareP p else Ex.mustP [44] (Ex.bareP p)).s).toArray⟩])
      { (if first then Ex.bareP p else Ex.mustP [44] (Ex.bareP p)) with
        s := (bareF (if first then Ex.bareP p else Ex.mustP [44] (Ex.bareP p)).s).drop (Ex.peekW (if first then Ex.bareP p else Ex.mustP [44] (Ex.bareP p)).s).length,
        bad := (if first then Ex.bareP p else Ex.mustP [44] (Ex.bareP p)).bad || (Ex.peekW (if first then Ex.bareP p else Ex.mustP [44] (Ex.bareP p)).s).isEmpty } := by
  rw [Ex.namesGo]
theorem peek_le (l : List UInt8) : (Ex.peekW l).length ≤ (bareF l).length := by
  have := congrArg List.length (peek_pre l)
  rw [List.length_take] at this
  omega
/-- behind the comma: one name more -/
def stepN (q : Ex.P) : ByteArray × Ex.P := (⟨(Ex.peekW q.s).toArray⟩, { q with s := (bareF q.s).drop (Ex.peekW q.s).length, bad := q.bad || (Ex.peekW q.s).isEmpty })
def NmPost (w : World) (t : Nat) (lv : Value) (p : Ex.P) (e : Ending) (w' : World) : Prop := ∃ ns q v, Ex.namesP p = some (ns, q) ∧ e = .returned v ∧ ns.length ≤ p.s.length + 1 ∧ q.s.length ≤ p.s.length ∧ q.e = p.e ∧ q.l = p.l ∧ Nl w w' t lv v ns q

set_option maxRecDepth 100000 in
set_option maxHeartbeats 8000000 in
theorem namesX_any (t : Nat) (lv : Value) (p : Ex.P) (w : World) (h : Pq w t lv p) (hll : p.s.length ≤ 100000) : Calls Tryz.prog 115 #[.pointer (some ⟨t, 0, none⟩)] w (NmPost w t lv p) := by
  obtain ⟨i0, hi, hz0, hz1, hz2⟩ := info_parts infoStr
  have I0 : Hid (i0.zero = some (.string ⟨#[]⟩) ∧ i0.size = 1 ∧ i0.bytes = 16 ∧ Tryz.prog.info? 9 = some i0) := ⟨hz0, hz1, hz2, hi⟩
  have lt := Px.lt h
  have M0 := Lib.hid (mustQ_any t ⟨#[40]⟩ lv p w h)
  have hm0 := mustP_le [40] p
  have he0 := mustP_e [40] p
  have hl0 := mustP_l [40] p
  clear hz0 hz1 hz2 hi h
  rw [show by_ (⟨#[40]⟩ : ByteArray) = [40] from rfl] at M0
  have FIN0 : Hid (Ex.namesP p = (Ex.namesGo (p.s.length + 3) true [] (Ex.mustP [40] p)).map fun r => (r.1, Ex.mustP [41] r.2)) := rfl
  generalize Ex.mustP [40] p = p0 at *
  go_enter Tryz.func115, Tryz.ntmps115
  go_wp2_with fail
  refine M0.out.mono ?_
  rintro e w1 ⟨rfl, g1, px1⟩
  have A0 : Hid (Nl w w1 t lv (.slice none 0 0) [] p0) := ⟨px1, g1, World.ownsRow_nil _ _ _ _, lt⟩
  clear g1 px1 M0
  go_wp2_with fail
  go_loopg [3, 4] (p0.s.length + (if p0.bad then 0 else 1)) (fun gk v3 v4 wr => ∃ (ns : List ByteArray) (q : Ex.P) (fst : Bool) (F : Nat), v4 = .bool fst ∧ gk = q.s.length + (if q.bad then 0 else 1) ∧ 1 ≤ F ∧ (q.bad = true ∨ q.s.length + 2 ≤ F) ∧ ns.length + gk ≤ p.s.length + 1 ∧ q.s.length ≤ p.s.length ∧ q.e = p.e ∧ q.l = p.l ∧ Hid ((Ex.namesGo F fst ns q).map (fun r => (r.1, Ex.mustP [41] r.2)) = Ex.namesP p) ∧ Hid (Nl w wr t lv v3 ns q))
  case atStart => exact ⟨[], p0, true, p.s.length + 3, rfl, rfl, by omega, Or.inr (by omega), by simp only [List.length_nil]; split <;> omega, hm0, he0, hl0, FIN0.out.symm, A0⟩
  case round =>
    obtain ⟨ns, q, fst, F, rfl, hgk, hF1, hF2, hns, hq0, hqe, hql, HR, HA⟩ := hrel
    obtain ⟨F, rfl⟩ : ∃ F', F = F' + 1 := ⟨F - 1, by omega⟩
    clear A0 FIN0
    have hqs : q.s.length ≤ p.s.length + 1 := by omega
    cases hb : q.bad with
    | true =>
      have E : Hid (Ex.namesP p = some (ns, Ex.mustP [41] q)) := by
        have := HR.out
        rw [names_step, if_pos hb] at this
        exact this.symm
      obtain ⟨s, h0, _⟩ := id HA.out.px
      rw [hb] at h0
      obtain ⟨c0, c1, c2, c3, f0, f1, f2, f3⟩ := px_cells h0
      clear HR h0
      have M1 := Lib.hid (mustQ_any t ⟨#[41]⟩ lv q _ HA.out.px)
      rw [show by_ (⟨#[41]⟩ : ByteArray) = [41] from rfl] at M1
      have hm1 := mustP_le [41] q
      have he1 := mustP_e [41] q
      have hl1 := mustP_l [41] q
      go_wp2_with fail
      refine M1.out.mono ?_
      rintro e wz ⟨rfl, gz, pxz⟩
      have AZ := Lib.hid (HA.out.call gz pxz)
      clear M1 gz pxz
      go_wp2_with fail
      go_ret
      exact ⟨ns, Ex.mustP [41] q, _, E.out, rfl, by omega, by omega, by omega, hl1.trans (by assumption), AZ.out⟩
    | false =>
      have hq2 : q.s.length + 2 ≤ F + 1 := by rcases hF2 with h | h; (rw [hb] at h; simp at h); exact h
      rw [hb] at hgk
      simp only [Bool.false_eq_true, if_false] at hgk
      have NX := Lib.hid (nextQ_any t 41 lv q _ HA.out.px)
      have hnn : (Ex.nextP 41 q).2 = Ex.bareP q := rfl
      obtain ⟨s, h0, _⟩ := id HA.out.px
      rw [hb] at h0
      obtain ⟨c0, c1, c2, c3, f0, f1, f2, f3⟩ := px_cells h0
      have HN : Hid ((if (Ex.nextP 41 q).1 then some (ns, Ex.bareP q) else
          Ex.namesGo F false (ns ++ [⟨(Ex.peekW (if fst then Ex.bareP q else Ex.mustP [44] (Ex.bareP q)).s).toArray⟩])
            { (if fst then Ex.bareP q else Ex.mustP [44] (Ex.bareP q)) with
              s := (bareF (if fst then Ex.bareP q else Ex.mustP [44] (Ex.bareP q)).s).drop (Ex.peekW (if fst then Ex.bareP q else Ex.mustP [44] (Ex.bareP q)).s).length,
              bad := (if fst then Ex.bareP q else Ex.mustP [44] (Ex.bareP q)).bad || (Ex.peekW (if fst then Ex.bareP q else Ex.mustP [44] (Ex.bareP q)).s).isEmpty }).map (fun r => (r.1, Ex.mustP [41] r.2)) = Ex.namesP p) := by
        have := HR.out
        rw [names_step, if_neg (by rw [hb]; simp)] at this
        exact this
      rw [hnn] at NX
      have hbl0 := bareF_le q.s
      have hbs : (Ex.bareP q).s.length ≤ q.s.length := hbl0
      have hbb : (Ex.bareP q).bad = false := hb
      have hbe : (Ex.bareP q).e = p.e := hqe
      have hbL : (Ex.bareP q).l = p.l := hql
      clear HR h0 hnn hbl0
      generalize (Ex.nextP 41 q).1 = nx at *
      generalize Ex.bareP q = qb at *
      go_wp2_with fail
      refine NX.out.mono ?_
      rintro e w2 ⟨rfl, g2, px2⟩
      have A2 := Lib.hid (HA.out.call g2 px2)
      clear NX g2 px2 HA c0 c1 c2 c3 f0 f1 f2 f3
      cases nx with
      | true =>
        have E : Hid (Ex.namesP p = some (ns, Ex.mustP [41] qb)) := by
          have := HN.out
          rw [if_pos rfl] at this
          exact this.symm
        clear HN
        have M1 := Lib.hid (mustQ_any t ⟨#[41]⟩ lv qb _ A2.out.px)
        rw [show by_ (⟨#[41]⟩ : ByteArray) = [41] from rfl] at M1
        have hm1 := mustP_le [41] qb
        have he1 := mustP_e [41] qb
        have hl1 := mustP_l [41] qb
        go_wp2_with fail
        refine M1.out.mono ?_
        rintro e wz ⟨rfl, gz, pxz⟩
        have AZ := Lib.hid (A2.out.call gz pxz)
        clear M1 gz pxz
        go_wp2_with fail
        go_ret
        exact ⟨ns, Ex.mustP [41] qb, _, E.out, rfl, by omega, by omega, by omega, hl1.trans (by assumption), AZ.out⟩
      | false =>
        cases fst with
        | true =>
          have RQ : Hid ((Ex.namesGo F false (ns ++ [⟨(Ex.peekW qb.s).toArray⟩]) { qb with s := (bareF qb.s).drop (Ex.peekW qb.s).length, bad := qb.bad || (Ex.peekW qb.s).isEmpty }).map (fun r => (r.1, Ex.mustP [41] r.2)) = Ex.namesP p) := HN.out
          have hqb1 : qb.bad = false := hbb
          clear HN
          have PK := Lib.hid (peekX_any t lv qb.s qb.bad qb.e _ A2.out.px (by omega))
          have hpl := peek_le qb.s
          have hbl := bareF_le qb.s
          go_wp2_with fail
          refine PK.out.mono ?_
          rintro e w3 ⟨⟨x, rfl, hx⟩, g3, s3, h3, e3⟩
          have G3 := Lib.hid g3
          have H3 := Lib.hid h3
          have E3 := Lib.hid e3
          have HX := Lib.hid hx
          obtain ⟨c0, c1, c2, c3, f0, f1, f2, f3⟩ := px_cells h3
          have hxs : x.size = (Ex.peekW qb.s).length := by rw [← hx, tl_len]
          have hs3 : s3.size = (bareF qb.s).length := by rw [← e3, tl_len]
          have hxle : x.size ≤ s3.size := by omega
          have HXS := Lib.hid hxs
          have HS3 := Lib.hid hs3
          have RX : Hid ((Ex.namesGo F false (ns ++ [x]) { qb with s := (bareF qb.s).drop (Ex.peekW qb.s).length, bad := qb.bad || (Ex.peekW qb.s).isEmpty }).map (fun r => (r.1, Ex.mustP [41] r.2)) = Ex.namesP p) := by
            have := RQ.out
            rw [← HX.out] at this ⊢
            exact this
          clear PK RQ hx e3 h3 g3 hxs hs3
          by_cases hz : x.size = 0
          · have hem : x.toList.isEmpty = true := by rw [tl_eq, show x.data.toList = [] from by_empty hz]; rfl
            have hpe : (Ex.peekW qb.s).isEmpty = true := by
              have := HXS.out
              rw [List.isEmpty_iff, ← List.length_eq_zero_iff]; omega
            have R2 : Hid ((Ex.namesGo F false (ns ++ [x]) { qb with s := (bareF qb.s).drop x.size, bad := true }).map (fun r => (r.1, Ex.mustP [41] r.2)) = Ex.namesP p) := by
              have := RX.out
              rw [hpe, Bool.or_true, ← HXS.out] at this
              exact this
            have A3 : Hid (Nl w ((w3.setCell ⟨t, 2, none⟩ (.bool true)).setCell ⟨t, 0, none⟩ (.string (s3.extract x.size s3.size))) t lv u3 ns { qb with s := (bareF qb.s).drop x.size, bad := true }) := A2.out.call (grown_trans (grown_trans G3.out (grown_setCell _ _ _ _)) (grown_setCell _ _ _ _)) ⟨_, px_put0 (px_put2 H3.out), by rw [by_drop, E3.out]⟩
            have OW := Lib.hid (fun (o : Obj) => World.ownsRow.alloc A3.out.own o)
            have hC : Hid (∀ o : Obj, w.heap.size ≤ (((w3.setCell ⟨t, 2, none⟩ (.bool true)).setCell ⟨t, 0, none⟩ (.string (s3.extract x.size s3.size))).alloc o).heap.size) := fun o => by have := A3.out.grown.size; simp at *; omega
            have hA : Hid (ns.length + 1 ≤ maxLen) := by show _ ≤ _; unfold maxLen; omega
            have hBy : Hid ((ns.length + 1) * 16 ≤ 140737488355328) := by show _ ≤ _; omega
            have HZ := Lib.hid hz
            clear RX hz
            go_wp2_with (at_builtin; refine wpList_append_own_at _ rfl (.tmp 39) (.tmp 41) 35 rfl w.heap.size 9 i0 (.string ⟨#[]⟩) 1 16 Tryz.underlying35 I0.out.2.2.2 I0.out.1 I0.out.2.1 I0.out.2.2.1 rfl (by decide) _ ns.length _ rfl (OW.out _) _ 1 1 (sC [x]) rfl rfl ?d1 (sC_one _) hA.out hBy.out (hC.out _) ?_)
            case d1 => exact news_str _ _ _ (by simp)
            intro v' w5 own5 grow5 _ _
            have A5 := Lib.hid (A3.out.pushed (x := x) ((Below.refl _ _).alloc (Nat.le_refl _) _) grow5 own5)
            clear own5 grow5 A3 OW
            go_wp2_with fail
            have hxs := HXS.out
            have hs3 := HS3.out
            have hz := HZ.out
            go_roundg (((bareF qb.s).drop x.size).length + (if true then 0 else 1))
            case measure => simp only [List.length_drop, if_true]; omega
            case rel => exact ⟨ns ++ [x], { qb with s := (bareF qb.s).drop x.size, bad := true }, false, F, rfl, rfl, by omega, Or.inl rfl, by simp only [List.length_drop, List.length_append, List.length_cons, List.length_nil, if_true]; omega, by simp only [List.length_drop]; omega, (by assumption), (by assumption), R2, A5⟩
          · have hem := string_ne (show 0 < x.size by omega)
            have hpe : (Ex.peekW qb.s).isEmpty = false := by
              cases hq : Ex.peekW qb.s with
              | nil => have hxs := HXS.out; rw [hq] at hxs; exact absurd (show x.size = 0 from hxs) hz
              | cons a b => rfl
            have R2 : Hid ((Ex.namesGo F false (ns ++ [x]) { qb with s := (bareF qb.s).drop x.size, bad := qb.bad }).map (fun r => (r.1, Ex.mustP [41] r.2)) = Ex.namesP p) := by
              have := RX.out
              rw [hpe, Bool.or_false, ← HXS.out] at this
              exact this
            have A3 : Hid (Nl w (w3.setCell ⟨t, 0, none⟩ (.string (s3.extract x.size s3.size))) t lv u3 ns { qb with s := (bareF qb.s).drop x.size, bad := qb.bad }) := A2.out.call (grown_trans G3.out (grown_setCell _ _ _ _)) ⟨_, px_put0 H3.out, by rw [by_drop, E3.out]⟩
            have OW := Lib.hid (fun (o : Obj) => World.ownsRow.alloc A3.out.own o)
            have hC : Hid (∀ o : Obj, w.heap.size ≤ ((w3.setCell ⟨t, 0, none⟩ (.string (s3.extract x.size s3.size))).alloc o).heap.size) := fun o => by have := A3.out.grown.size; simp at *; omega
            have hA : Hid (ns.length + 1 ≤ maxLen) := by show _ ≤ _; unfold maxLen; omega
            have hBy : Hid ((ns.length + 1) * 16 ≤ 140737488355328) := by show _ ≤ _; omega
            have HZ := Lib.hid hz
            clear RX hz
            go_wp2_with (at_builtin; refine wpList_append_own_at _ rfl (.tmp 39) (.tmp 41) 35 rfl w.heap.size 9 i0 (.string ⟨#[]⟩) 1 16 Tryz.underlying35 I0.out.2.2.2 I0.out.1 I0.out.2.1 I0.out.2.2.1 rfl (by decide) _ ns.length _ rfl (OW.out _) _ 1 1 (sC [x]) rfl rfl ?d2 (sC_one _) hA.out hBy.out (hC.out _) ?_)
            case d2 => exact news_str _ _ _ (by simp)
            intro v' w5 own5 grow5 _ _
            have A5 := Lib.hid (A3.out.pushed (x := x) ((Below.refl _ _).alloc (Nat.le_refl _) _) grow5 own5)
            clear own5 grow5 A3 OW
            go_wp2_with fail
            have hxs := HXS.out
            have hs3 := HS3.out
            have hz := HZ.out
            go_roundg (((bareF qb.s).drop x.size).length + (if qb.bad then 0 else 1))
            case measure => simp only [List.length_drop]; split <;> omega
            case rel => exact ⟨ns ++ [x], { qb with s := (bareF qb.s).drop x.size, bad := qb.bad }, false, F, rfl, rfl, by omega, Or.inr (by simp only [List.length_drop]; omega), by simp only [List.length_drop, List.length_append, List.length_cons, List.length_nil]; split <;> omega, by simp only [List.length_drop]; omega, (by assumption), (by assumption), R2, A5⟩
        | false =>
          have M2 := Lib.hid (mustQ_any t ⟨#[44]⟩ lv qb _ A2.out.px)
          rw [show by_ (⟨#[44]⟩ : ByteArray) = [44] from rfl] at M2
          have RQ : Hid ((Ex.namesGo F false (ns ++ [⟨(Ex.peekW (Ex.mustP [44] qb).s).toArray⟩]) { Ex.mustP [44] qb with s := (bareF (Ex.mustP [44] qb).s).drop (Ex.peekW (Ex.mustP [44] qb).s).length, bad := (Ex.mustP [44] qb).bad || (Ex.peekW (Ex.mustP [44] qb).s).isEmpty }).map (fun r => (r.1, Ex.mustP [41] r.2)) = Ex.namesP p) := HN.out
          have hm2 := mustP_le [44] qb
          have hme := (mustP_e [44] qb).trans hbe
          have hml := (mustP_l [44] qb).trans hbL
          clear HN
          generalize Ex.mustP [44] qb = qc at *
          go_wp2_with fail
          refine M2.out.mono ?_
          rintro e w2c ⟨rfl, g2, px2⟩
          have A2c := Lib.hid (A2.out.call g2 px2)
          clear M2 g2 px2 A2
          have PK := Lib.hid (peekX_any t lv qc.s qc.bad qc.e _ A2c.out.px (by omega))
          have hpl := peek_le qc.s
          have hbl := bareF_le qc.s
          go_wp2_with fail
          refine PK.out.mono ?_
          rintro e w3 ⟨⟨x, rfl, hx⟩, g3, s3, h3, e3⟩
          have G3 := Lib.hid g3
          have H3 := Lib.hid h3
          have E3 := Lib.hid e3
          have HX := Lib.hid hx
          obtain ⟨c0, c1, c2, c3, f0, f1, f2, f3⟩ := px_cells h3
          have hxs : x.size = (Ex.peekW qc.s).length := by rw [← hx, tl_len]
          have hs3 : s3.size = (bareF qc.s).length := by rw [← e3, tl_len]
          have hxle : x.size ≤ s3.size := by omega
          have HXS := Lib.hid hxs
          have HS3 := Lib.hid hs3
          have RX : Hid ((Ex.namesGo F false (ns ++ [x]) { qc with s := (bareF qc.s).drop (Ex.peekW qc.s).length, bad := qc.bad || (Ex.peekW qc.s).isEmpty }).map (fun r => (r.1, Ex.mustP [41] r.2)) = Ex.namesP p) := by
            have := RQ.out
            rw [← HX.out] at this ⊢
            exact this
          clear PK RQ hx e3 h3 g3 hxs hs3
          by_cases hz : x.size = 0
          · have hem : x.toList.isEmpty = true := by rw [tl_eq, show x.data.toList = [] from by_empty hz]; rfl
            have hpe : (Ex.peekW qc.s).isEmpty = true := by
              have := HXS.out
              rw [List.isEmpty_iff, ← List.length_eq_zero_iff]; omega
            have R2 : Hid ((Ex.namesGo F false (ns ++ [x]) { qc with s := (bareF qc.s).drop x.size, bad := true }).map (fun r => (r.1, Ex.mustP [41] r.2)) = Ex.namesP p) := by
              have := RX.out
              rw [hpe, Bool.or_true, ← HXS.out] at this
              exact this
            have A3 : Hid (Nl w ((w3.setCell ⟨t, 2, none⟩ (.bool true)).setCell ⟨t, 0, none⟩ (.string (s3.extract x.size s3.size))) t lv u3 ns { qc with s := (bareF qc.s).drop x.size, bad := true }) := A2c.out.call (grown_trans (grown_trans G3.out (grown_setCell _ _ _ _)) (grown_setCell _ _ _ _)) ⟨_, px_put0 (px_put2 H3.out), by rw [by_drop, E3.out]⟩
            have OW := Lib.hid (fun (o : Obj) => World.ownsRow.alloc A3.out.own o)
            have hC : Hid (∀ o : Obj, w.heap.size ≤ (((w3.setCell ⟨t, 2, none⟩ (.bool true)).setCell ⟨t, 0, none⟩ (.string (s3.extract x.size s3.size))).alloc o).heap.size) := fun o => by have := A3.out.grown.size; simp at *; omega
            have hA : Hid (ns.length + 1 ≤ maxLen) := by show _ ≤ _; unfold maxLen; omega
            have hBy : Hid ((ns.length + 1) * 16 ≤ 140737488355328) := by show _ ≤ _; omega
            have HZ := Lib.hid hz
            clear RX hz
            go_wp2_with (at_builtin; refine wpList_append_own_at _ rfl (.tmp 39) (.tmp 41) 35 rfl w.heap.size 9 i0 (.string ⟨#[]⟩) 1 16 Tryz.underlying35 I0.out.2.2.2 I0.out.1 I0.out.2.1 I0.out.2.2.1 rfl (by decide) _ ns.length _ rfl (OW.out _) _ 1 1 (sC [x]) rfl rfl ?d11 (sC_one _) hA.out hBy.out (hC.out _) ?_)
            case d11 => exact news_str _ _ _ (by simp)
            intro v' w5 own5 grow5 _ _
            have A5 := Lib.hid (A3.out.pushed (x := x) ((Below.refl _ _).alloc (Nat.le_refl _) _) grow5 own5)
            clear own5 grow5 A3 OW
            go_wp2_with fail
            have hxs := HXS.out
            have hs3 := HS3.out
            have hz := HZ.out
            go_roundg (((bareF qc.s).drop x.size).length + (if true then 0 else 1))
            case measure => simp only [List.length_drop, if_true]; omega
            case rel => exact ⟨ns ++ [x], { qc with s := (bareF qc.s).drop x.size, bad := true }, false, F, rfl, rfl, by omega, Or.inl rfl, by simp only [List.length_drop, List.length_append, List.length_cons, List.length_nil, if_true]; omega, by simp only [List.length_drop]; omega, (by assumption), (by assumption), R2, A5⟩
          · have hem := string_ne (show 0 < x.size by omega)
            have hpe : (Ex.peekW qc.s).isEmpty = false := by
              cases hq : Ex.peekW qc.s with
              | nil => have hxs := HXS.out; rw [hq] at hxs; exact absurd (show x.size = 0 from hxs) hz
              | cons a b => rfl
            have R2 : Hid ((Ex.namesGo F false (ns ++ [x]) { qc with s := (bareF qc.s).drop x.size, bad := qc.bad }).map (fun r => (r.1, Ex.mustP [41] r.2)) = Ex.namesP p) := by
              have := RX.out
              rw [hpe, Bool.or_false, ← HXS.out] at this
              exact this
            have A3 : Hid (Nl w (w3.setCell ⟨t, 0, none⟩ (.string (s3.extract x.size s3.size))) t lv u3 ns { qc with s := (bareF qc.s).drop x.size, bad := qc.bad }) := A2c.out.call (grown_trans G3.out (grown_setCell _ _ _ _)) ⟨_, px_put0 H3.out, by rw [by_drop, E3.out]⟩
            have OW := Lib.hid (fun (o : Obj) => World.ownsRow.alloc A3.out.own o)
            have hC : Hid (∀ o : Obj, w.heap.size ≤ ((w3.setCell ⟨t, 0, none⟩ (.string (s3.extract x.size s3.size))).alloc o).heap.size) := fun o => by have := A3.out.grown.size; simp at *; omega
            have hA : Hid (ns.length + 1 ≤ maxLen) := by show _ ≤ _; unfold maxLen; omega
            have hBy : Hid ((ns.length + 1) * 16 ≤ 140737488355328) := by show _ ≤ _; omega
            have HZ := Lib.hid hz
            clear RX hz
            go_wp2_with (at_builtin; refine wpList_append_own_at _ rfl (.tmp 39) (.tmp 41) 35 rfl w.heap.size 9 i0 (.string ⟨#[]⟩) 1 16 Tryz.underlying35 I0.out.2.2.2 I0.out.1 I0.out.2.1 I0.out.2.2.1 rfl (by decide) _ ns.length _ rfl (OW.out _) _ 1 1 (sC [x]) rfl rfl ?d12 (sC_one _) hA.out hBy.out (hC.out _) ?_)
            case d12 => exact news_str _ _ _ (by simp)
            intro v' w5 own5 grow5 _ _
            have A5 := Lib.hid (A3.out.pushed (x := x) ((Below.refl _ _).alloc (Nat.le_refl _) _) grow5 own5)
            clear own5 grow5 A3 OW
            go_wp2_with fail
            have hxs := HXS.out
            have hs3 := HS3.out
            have hz := HZ.out
            go_roundg (((bareF qc.s).drop x.size).length + (if qc.bad then 0 else 1))
            case measure => simp only [List.length_drop]; split <;> omega
            case rel => exact ⟨ns ++ [x], { qc with s := (bareF qc.s).drop x.size, bad := qc.bad }, false, F, rfl, rfl, by omega, Or.inr (by simp only [List.length_drop]; omega), by simp only [List.length_drop, List.length_append, List.length_cons, List.length_nil]; split <;> omega, by simp only [List.length_drop]; omega, (by assumption), (by assumption), R2, A5⟩
end Go.Proofs.YtmbfpichaaanpaaGreatDoor
