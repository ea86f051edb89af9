import Derived.Test.YtmbfpichaaanpaaGreatDoorX33
import Derived.Deep.CutBlock
/-! The reader of expressions: a level. -/
namespace Go.Proofs.YtmbfpichaaanpaaGreatDoor
open Go.RowKit Ut Rx Mt

/-- the boxes of a level's two names -/
def lvW (w : World) (t : Nat) (k : Nat) : World := (w.alloc (.cells #[.pointer (some ⟨t, 0, none⟩)] 49)).alloc (.cells #[.int .i64 (k : Int)] 3)
theorem lvW_facts {w : World} {B t : Nat} {lv : Value} {R : List NdV} {p : Ex.P} (k : Nat) (h : Rdr w B t lv R p) : Rdr (lvW w t k) B t lv R p ∧ Fe w (lvW w t k) t lv lv ∧ (lvW w t k).heap.size = w.heap.size + 2 ∧
    ∀ (w' : World) (lv' : Value), Fe (lvW w t k) w' t lv lv' → w'.cell? ⟨w.heap.size, 0, none⟩ = some (.pointer (some ⟨t, 0, none⟩)) ∧ w'.cell? ⟨w.heap.size + 1, 0, none⟩ = some (.int .i64 (k : Int)) ∧ some w.heap.size ≠ lv'.ownBlock := by
  have b : Below w.heap.size w (lvW w t k) := ((Below.refl _ _).alloc (Nat.le_refl _) _).alloc (by simp) _
  obtain ⟨h2, f⟩ := h.below b
  refine ⟨h2, f, by simp [lvW], fun w' lv' f' => ?_⟩
  have hl := h.lt
  have hlv : ∀ q, lv.ownBlock = some q → q < w.heap.size := fun q hq => (World.ownsRow.lt h.pn.row q hq).2
  have e1 : (lvW w t k).heap[w.heap.size]? = some (.cells #[.pointer (some ⟨t, 0, none⟩)] 49) := by
    have h2 : w.heap.size < (w.alloc (.cells #[.pointer (some ⟨t, 0, none⟩)] 49)).heap.size := by simp
    exact (heap_alloc_old _ _ h2).trans (heap_alloc_new w _)
  have e2 : (lvW w t k).heap[w.heap.size + 1]? = some (.cells #[.int .i64 (k : Int)] 3) := by
    have := heap_alloc_new (w.alloc (.cells #[.pointer (some ⟨t, 0, none⟩)] 49)) (.cells #[.int .i64 (k : Int)] 3)
    rw [show (w.alloc (.cells #[.pointer (some ⟨t, 0, none⟩)] 49)).heap.size = w.heap.size + 1 from by simp] at this
    exact this
  have k1 := (f'.block w.heap.size (by simp [lvW]; omega) (by omega) (fun e => by have := hlv _ e.symm; omega)).trans e1
  have k2 := (f'.block (w.heap.size + 1) (by simp [lvW]) (by omega) (fun e => by have := hlv _ e.symm; omega)).trans e2
  refine ⟨ndAt_blk k1 0, ndAt_blk k2 0, fun e => ?_⟩
  rcases f'.row with e2 | ⟨q', e2, hq'⟩
  · rw [e2] at e
    have := hlv _ e.symm
    omega
  · rw [e2] at e
    have h3 := Option.some.inj e
    simp [lvW] at hq'
    omega
theorem tryP_l : ∀ (l : List (Int × List UInt8)) (p : Ex.P), (Ex.tryP l p).2.l = p.l
  | [], p => rfl
  | (k, t) :: r, p => by
    rw [tryP_cons]
    split
    · exact hasP_l _ _
    · rw [tryP_l r]; exact hasP_l _ _
theorem isP_l (t : List UInt8) (p : Ex.P) : (Ex.isP t p).2.l = p.l := by unfold Ex.isP; split <;> rfl
theorem signE_l (k : Int) (p : Ex.P) : (Ex.signE k p).2.l = p.l := by
  unfold Ex.signE
  split
  · simp only; split <;> exact isP_l _ _
  · split
    · simp only
      split
      · exact isP_l _ _
      · split <;> (simp only; rw [isP_l, isP_l])
    · split
      · have := tryP_l Ex.cmpOrd p
        rcases h : Ex.tryP Ex.cmpOrd p with ⟨a, b⟩
        rw [h] at this
        cases a with
        | none => exact this
        | some o => exact (isP_l _ _).trans this
      · split
        · simp only
          split
          · exact hasP_l _ _
          · split <;> (simp only; rw [hasP_l, hasP_l])
        · have := tryP_l Ex.binOrd p
          rcases h : Ex.tryP Ex.binOrd p with ⟨a, b⟩
          rw [h] at this
          cases a with
          | none => exact this
          | some o => exact this
theorem loop_step (of : Int → Nat) (n k : Nat) (p : Ex.P) : Ex.parE of (n + 1) (.loop k) p = if p.bad then some p else match Ex.signE (k : Int) p with | (none, q) => some q | (some x, q) => (Ex.parE of n (belM k) q).bind fun r => Ex.parE of n (.loop k) (Ex.putP x r) := by
  rw [Ex.parE]
  rfl
set_option maxRecDepth 100000 in
set_option maxHeartbeats 8000000 in
theorem level_of {of : Int → Nat} {n : Nat} (hl : ∀ m, m ≤ n → LevC of m) (hr : ∀ m, m ≤ n → TerC of m) : LevC of (n + 1) := by
  intro k hk B t lv R p w h q hq
  rw [show Ex.parE of (n + 1) (.level k) p = (Ex.parE of n (belM k) p).bind (Ex.parE of n (.loop k)) from by rw [Ex.parE]; rfl] at hq
  obtain ⟨q1, h1, h2⟩ := Option.bind_eq_some_iff.1 hq
  clear hq
  obtain ⟨r1, f1, sz1, keep1⟩ := lvW_facts k h
  have K1 := Lib.hid keep1
  obtain ⟨cp, ck, _⟩ := keep1 _ _ (Fe.refl _ _ _)
  have BE := Lib.hid (below_of (hl n (Nat.le_refl _)) (hr n (Nat.le_refl _)) k hk B t _ _ lv R p _ r1 q1 h1 ck cp)
  have F1 := Lib.hid f1
  have R1 := Lib.hid r1
  have H2 := Lib.hid h2
  have fw1 := Nat.le_trans (parE_wt of n _ _ _ h1) h.few
  have HL := Lib.hid hl
  have HR := Lib.hid hr
  clear keep1 ck cp h1 h2 f1 r1 h hl hr
  go_enter Tryz.func26, Tryz.ntmps26
  go_upto_region 2 with fail
  obtain ⟨w1, hw1⟩ : ∃ x, x = lvW w t k := ⟨_, rfl⟩
  rw [← hw1] at BE F1 R1 K1 sz1
  unfold lvW at hw1
  rw [← hw1]
  clear hw1
  go_wp2_with fail
  refine BE.out.mono ?_
  rintro e w2 ⟨rfl, lv2, R2, pn2, fe2⟩
  have R2' := Lib.hid (R1.out.fe pn2 fe2 fw1)
  have F2 := Lib.hid fe2
  clear BE pn2 fe2 fw1
  go_wp2_with fail
  go_loopg [] n (fun gk wr => ∃ (lv' : Value) (R' : List NdV) (p' : Ex.P), gk ≤ n ∧ Hid (Ex.parE of gk (.loop k) p' = some q) ∧ Hid (Rdr wr B t lv' R' p') ∧ Hid (Fe w1 wr t lv lv'))
  case atStart => exact ⟨lv2, R2, q1, Nat.le_refl _, H2, R2', F2⟩
  case round =>
    obtain ⟨lv3, R3, p3, hgk, HP, RR, FF⟩ := hrel
    clear R2' F2 H2
    cases gk with
    | zero => have := HP.out; rw [Ex.parE] at this; cases this
    | succ m =>
      obtain ⟨cp, ck, _⟩ := K1.out _ _ FF.out
      obtain ⟨s3, hh3, e3⟩ := RR.out.pn.px
      obtain ⟨c0, c1, c2, c3, f0, f1, f2, f3⟩ := px_cells hh3
      clear hh3 e3
      have HP2 : Hid ((if p3.bad then some p3 else match Ex.signE (k : Int) p3 with | (none, q) => some q | (some x, q) => (Ex.parE of m (belM k) q).bind fun r => Ex.parE of m (.loop k) (Ex.putP x r)) = some q) := by
        have := HP.out
        rw [loop_step] at this
        exact this
      clear HP
      cases hbad : p3.bad with
      | true =>
        have E : Hid (p3 = q) := by
          have := HP2.out
          rw [hbad] at this
          exact Option.some.inj this
        rw [hbad] at c2
        go_wp2_with fail
        exact bodyPost_ret (v := .tuple #[]) (by simp [results, Tryz.results26, go_sem]) rfl ⟨rfl, lv3, R3, E.out ▸ RR.out.pn, F1.out.trans FF.out⟩
      | false =>
        have HP3 : Hid ((match Ex.signE (k : Int) p3 with | (none, q) => some q | (some x, q) => (Ex.parE of m (belM k) q).bind fun r => Ex.parE of m (.loop k) (Ex.putP x r)) = some q) := by
          have := HP2.out
          rw [hbad] at this
          exact this
        rw [hbad] at c2
        have SG := Lib.hid (signX_any k hk t lv3 p3 wr RR.out.pn.px (by have := RR.out.len; omega) RR.out.lt RR.out.t8 RR.out.wt)
        have SW := Lib.hid (sign_wt (k : Int) p3)
        have SL := Lib.hid (signE_l (k : Int) p3)
        clear HP2
        generalize Ex.signE (k : Int) p3 = sg at *
        obtain ⟨sx, sp⟩ := sg
        have fp3 := RR.out.few
        have fsp : wtP sp ≤ wtP p3 := by
          have := SW.out
          unfold SgOk at this
          cases sx <;> simp only at this <;> omega
        go_wp2_with fail
        refine SG.out.mono ?_
        rintro e w4 ⟨⟨kk, op, bl, b, rfl, hb, hy⟩, g4, px4⟩
        obtain ⟨R4, F4⟩ := RR.out.small g4 px4 SL.out fsp
        have R4' := Lib.hid R4
        have F4' := Lib.hid (FF.out.trans F4)
        have HY := Lib.hid hy
        have BL4 : Below w4.heap.size w4 (w4.alloc (ndS kk op bl)) := (Below.refl _ _).alloc (Nat.le_refl _) _
        obtain ⟨R5, F5⟩ := R4.below BL4
        have HN5 := heap_alloc_new w4 (ndS kk op bl)
        clear SG g4 px4 R4 F4 hy RR FF c0 c1 c2 c3 f0 f1 f2 f3 cp ck
        go_upto_region 5 with fail
        obtain ⟨w5, hw5⟩ : ∃ x, x = w4.alloc (ndS kk op bl) := ⟨_, rfl⟩
        rw [← hw5] at BL4 R5 F5 HN5
        unfold ndS at hw5
        rw [← hw5]
        clear hw5
        have F5' := Lib.hid (F4'.out.trans F5)
        have R5' := Lib.hid R5
        have HN5' := Lib.hid HN5
        have BLs := BL4.size
        have hnb : w4.heap.size < w5.heap.size := (Array.getElem?_eq_some_iff.1 HN5).1
        have htn : t < w4.heap.size := R4'.out.lt
        have hown : some w4.heap.size ≠ lv3.ownBlock := fun e => by have := (World.ownsRow.lt R4'.out.pn.row _ e.symm).2; omega
        clear HN5 R5 F5 BL4
        cases sx with
        | none =>
          have E : Hid (sp = q) := Option.some.inj HP3.out
          obtain rfl : b = false := hb
          go_wp2_with fail
          exact bodyPost_ret (v := .tuple #[]) (by simp [results, Tryz.results26, go_sem]) rfl ⟨rfl, lv3, R3, E.out ▸ R5'.out.pn, F1.out.trans F5'.out⟩
        | some x =>
          obtain rfl : b = true := hb
          obtain rfl := HY.out x rfl
          obtain ⟨r, h4, h5⟩ := Option.bind_eq_some_iff.1 HP3.out
          obtain ⟨cp, ck, _⟩ := K1.out _ _ F5'.out
          have BE2 := Lib.hid (below_of (HL.out m (by omega)) (HR.out m (by omega)) k hk B t _ _ lv3 R3 sp _ R5'.out r h4 ck cp)
          have fr : wtP (Ex.putP (ndE kk op bl) r) ≤ 1100 := by
            have e1 := parE_wt of m _ _ _ h4
            have e2 : wtP sp + 1 ≤ wtP p3 := SW.out
            rw [wt_put]
            omega
          have H5 := Lib.hid h5
          clear h4 h5 HP3 HY SW
          go_wp2_with fail
          refine BE2.out.mono ?_
          rintro e w6 ⟨rfl, lv6, R6, pn6, fe6⟩
          have F6 := Lib.hid (F5'.out.trans fe6)
          have fr6 : wtP r ≤ 1100 := by rw [wt_put] at fr; omega
          have R6' := Lib.hid (R5'.out.fe pn6 fe6 fr6)
          have HN6 := (fe6.block _ hnb (by omega) hown).trans HN5'.out
          obtain ⟨⟨a0, a1, a2, a3, a4, a5, a6, a7⟩, fa⟩ := ndS_cells HN6
          obtain ⟨cp6, ck6, hq6⟩ := K1.out _ _ F6.out
          obtain ⟨s6, h6, e6⟩ := pn6.px
          obtain ⟨c0, c1, c2, c3, f0, f1, f2, f3⟩ := px_cells h6
          obtain ⟨A6, m6, cap6, hL⟩ := ownsRow_is pn6.row
          have HL6 := Lib.hid hL
          have lt6 : t < w6.heap.size := R6'.out.lt
          have nt6 : w4.heap.size < w6.heap.size := Nat.lt_of_lt_of_le hnb fe6.size
          have bt6 : w.heap.size + 1 < w6.heap.size := (Array.getElem?_eq_some_iff.1 (show w6.heap[w.heap.size + 1]? = some _ from Option.eq_some_of_isSome (by
            cases hz : w6.heap[w.heap.size + 1]? with
            | some _ => rfl
            | none => unfold World.cell? at ck6; rw [hz] at ck6; cases ck6))).1
          have bt6' : w.heap.size < w6.heap.size := by omega
          rw [hL] at c1
          have NX : Hid (NdIn w6 B lv6 (ndE kk op bl, .slice none 0 0, .slice none 0 0)) := ndIn_plain rfl rfl (by show 0 < _; decide) (by show 0 < _; decide)
          have NW := Lib.hid (nd_new w6 (ndE kk op bl) (.slice none 0 0) (.slice none 0 0))
          clear BE2 pn6 fe6 HN6 h6 e6 hL cp ck HN5' F5' R5' f0 f1 f2 f3 c0 c2 c3
          go_upto_region 7 with fail
          go_region_law (refine step_push R6'.out NX.out isSl_nil isSl_nil NW.out.1 NW.out.2 (by rfl) (s := .tmp 29) (x := .tmp 31) (by rfl) (by exact HL6.out.symm) (by rfl) ?_; intro g8 cap8 w8 hpd; have cq8 := (World.cell?_of_block (a := ⟨w.heap.size, 0, none⟩) (hpd.k _ bt6' hq6)).trans cp6; have c8 := hpd.c; have f8 := hpd.f; have PD := Lib.hid hpd; clear hpd)
          all_goals
            go_wp2_with fail
            go_roundg m
            case measure => omega
            case rel => exact ⟨_, _, _, by omega, H5, R6'.out.fe PD.out.pn PD.out.fe fr, F6.out.trans PD.out.fe⟩
end Go.Proofs.YtmbfpichaaanpaaGreatDoor

/-! The reader of expressions: what many come to. -/
namespace Go.Proofs.YtmbfpichaaanpaaGreatDoor
open Go.RowKit Ut Rx Mt

/-- what stands behind the name of what many come to -/
def aggE (of : Int → Nat) (n : Nat) (op : Int) (p : Ex.P) : Option Ex.P :=
  (Ex.byP op p).bind fun r => (Ex.parE of n (.level 0) (Ex.mustP [40] r.2)).bind fun q =>
    if op = 5 then (Ex.parE of n (.level 0) (Ex.mustP [44] q)).map fun q2 => Ex.putP r.1 (Ex.mustP [41] q2) else some (Ex.putP r.1 (Ex.mustP [41] q))
/-- the node, being made, in block nb -/
structure A1 (w wx : World) (t nb : Nat) (lv : Value) (p : Ex.P) (n : Ex.Nd) (nv : Value) : Prop where
  g : w.grownBy wx (some t)
  px : Pq wx t lv p
  nd : wx.heap[nb]? = some (ndB n (.slice none 0 0) nv)
  ws : Ws0 wx nv n.nm
  own : ∀ q, nv.ownBlock = some q → nb < q ∧ q < wx.heap.size
  isl : IsSl nv
  hb : w.heap.size = nb
  tn : t < nb
section
variable {w wx w' : World} {t nb : Nat} {lv nv : Value} {p p' : Ex.P} {n : Ex.Nd}
theorem A1.lt (h : A1 w wx t nb lv p n nv) : nb < wx.heap.size := (Array.getElem?_eq_some_iff.1 h.nd).1
theorem A1.call (h : A1 w wx t nb lv p n nv) (g : wx.grownBy w' (some t)) (px : Pq w' t lv p') : A1 w w' t nb lv p' n nv := by
  have tn := h.tn
  refine ⟨grown_trans h.g g, px, (g.block nb h.lt (fun e => by have := Option.some.inj e; omega)).trans h.nd, h.ws.keep fun q hq hl => g.block q hl (fun e => ?_), fun q hq => ⟨(h.own q hq).1, Nat.lt_of_lt_of_le (h.own q hq).2 g.size⟩, h.isl, h.hb, tn⟩
  have := Option.some.inj e
  have := (h.own q hq).1
  omega
theorem A1.gb (h : A1 w wx t nb lv p n nv) (b : Bool) : A1 w (wx.setCell ⟨nb, 6, none⟩ (.bool b)) t nb lv p { n with gb := b } nv := by
  have tn := h.tn
  have g := grown_setCell wx nb 6 (.bool b)
  refine ⟨grown_new h.g g (Nat.le_of_eq h.hb), Px.grown h.px g (fun e => by have := Option.some.inj e; omega), set1 h.nd _, h.ws.keep fun q hq hl => g.block q hl (fun e => ?_), fun q hq => ⟨(h.own q hq).1, Nat.lt_of_lt_of_le (h.own q hq).2 g.size⟩, h.isl, h.hb, tn⟩
  have := Option.some.inj e
  have := (h.own q hq).1
  omega
theorem A1.names {v : Value} {ns : List ByteArray} (h : A1 w wx t nb lv p n (.slice none 0 0)) (k : Nl wx w' t lv v ns p') : A1 w (w'.setCell ⟨nb, 7, none⟩ v) t nb lv p' { n with nm := ns } v := by
  have tn := h.tn
  have hlt := h.lt
  have g := grown_setCell w' nb 7 v
  have hn : w'.heap[nb]? = some (ndB n (.slice none 0 0) (.slice none 0 0)) := (k.grown.block nb h.lt (fun e => by have := Option.some.inj e; omega)).trans h.nd
  have hw : Ws0 w' v ns := own_ws k.own
  have ho : ∀ q, v.ownBlock = some q → nb < q ∧ q < w'.heap.size := fun q hq => by
    have := World.ownsRow.lt k.own q hq
    exact ⟨by omega, this.2⟩
  refine ⟨grown_new (grown_trans h.g k.grown) g (Nat.le_of_eq h.hb), Px.grown k.px g (fun e => by have := Option.some.inj e; omega), set1 hn _, hw.keep fun q hq hl => g.block q hl (fun e => ?_), fun q hq => ⟨(ho q hq).1, Nat.lt_of_lt_of_le (ho q hq).2 g.size⟩, ?_, h.hb, tn⟩
  · have := Option.some.inj e
    have := (ho q hq).1
    omega
  · obtain ⟨A, m, c, e⟩ := ownsRow_is k.own
    exact ⟨A, m, c, e⟩
end
def agN (op : Int) (gb : Bool) (ns : List ByteArray) : Ex.Nd := ⟨8, op, 0, 0, [], false, gb, ns⟩
def agW (w : World) (op : Int) : World := w.alloc (.cells #[.int .i64 8, .int .i64 op, .int .u64 0, .int .u64 0, .slice none 0 0, .bool false, .bool true, .slice none 0 0] 37)
theorem A1.start {w : World} {t : Nat} {lv : Value} {p : Ex.P} (h : Pq w t lv p) (ht : t < w.heap.size) (op : Int) : A1 w (w.alloc (ndB (agN op true []) (.slice none 0 0) (.slice none 0 0))) t w.heap.size lv p (agN op true []) (.slice none 0 0) := by
  have b : Below w.heap.size w (w.alloc (ndB (agN op true []) (.slice none 0 0) (.slice none 0 0))) := (Below.refl _ _).alloc (Nat.le_refl _) _
  exact ⟨grown_below b, Px.below h b, heap_alloc_new w _, ⟨none, 0, rfl, Nat.le_refl _, fun e => absurd rfl e⟩, (fun q hq => by cases hq), isSl_nil, rfl, ht⟩
theorem A1.first {w : World} {t : Nat} {lv : Value} {p : Ex.P} (h : Pq w t lv p) (ht : t < w.heap.size) (op : Int) : A1 w (agW w op) t w.heap.size lv p (agN op true []) (.slice none 0 0) := A1.start h ht op
def AggC (of : Int → Nat) (n : Nat) : Prop := ∀ (op : Int) (B t : Nat) (lv : Value) (R : List NdV) (p : Ex.P) (w : World), Rdr w B t lv R p → ∀ q, aggE of n op p = some q → Calls Tryz.prog 95 #[.pointer (some ⟨t, 0, none⟩), .int .i64 op] w (RecPost w B t lv q)
theorem byP_eq (op : Int) (p : Ex.P) : Ex.byP op p = if (Ex.isP Ex.byT p).1 then (Ex.namesP (Ex.isP Ex.byT p).2).map fun r => (agN op true r.1, r.2) else
  if (Ex.isP Ex.withoutT (Ex.isP Ex.byT p).2).1 then (Ex.namesP (Ex.isP Ex.withoutT (Ex.isP Ex.byT p).2).2).map fun r => (agN op false r.1, r.2) else
  some (agN op true [], (Ex.isP Ex.withoutT (Ex.isP Ex.byT p).2).2) := rfl
set_option maxRecDepth 100000 in
set_option maxHeartbeats 8000000 in
theorem agg_of {of : Int → Nat} {n : Nat} (hl : LevC of n) : AggC of n := by
  intro op B t lv R p w h q hq
  obtain ⟨⟨n1, p1⟩, hby, hq2⟩ := Option.bind_eq_some_iff.1 hq
  have HQ := Lib.hid hq2
  have HBY := Lib.hid hby
  have HH := Lib.hid h
  have HL := Lib.hid hl
  have BE := Lib.hid (byP_eq op p)
  have AS := A1.first h.pn.px h.lt op
  have plen := h.len
  clear hq hq2 hby h hl
  go_enter Tryz.func95, Tryz.ntmps95
  go_upto_block 0 with fail
  obtain ⟨w1, hw1⟩ : ∃ x, x = agW w op := ⟨_, rfl⟩
  rw [← hw1] at AS
  obtain ⟨nb, hnb⟩ : ∃ n, n = w.heap.size := ⟨_, rfl⟩
  rw [← hnb] at AS
  have A0 := Lib.hid AS
  unfold agW at hw1
  rw [← hw1, ← hnb]
  clear hw1 hnb AS
  go_cut [] (fun wx => ∃ nv, Hid (A1 w wx t nb lv p1 n1 nv) ∧ (∃ gb ns, n1 = agN op gb ns) ∧ p1.l = p.l)
  case first =>
    have IB := Lib.hid (isQ_any t ⟨#[98, 121]⟩ lv p w1 A0.out.px (by omega))
    rw [show by_ (⟨#[98, 121]⟩ : ByteArray) = Ex.byT from rfl] at IB
    have hle := isP_le Ex.byT p
    have hl1 := isP_l Ex.byT p
    generalize Ex.isP Ex.byT p = ii at *
    obtain ⟨ib, ip⟩ := ii
    have hle : ip.s.length ≤ p.s.length := hle
    go_wp2_with fail
    refine IB.out.mono ?_
    rintro e w2 ⟨rfl, g2, px2⟩
    have A2 := Lib.hid (A0.out.call g2 px2)
    clear IB g2 px2 A0
    cases ib with
    | true =>
      have NM := Lib.hid (namesX_any t lv ip w2 A2.out.px (by omega))
      go_wp2_with fail
      refine NM.out.mono ?_
      rintro e w3 ⟨ns, q3, v, hns, rfl, _, _, _, hl3, nl⟩
      obtain ⟨A, m, c, rfl⟩ := ownsRow_is nl.own
      have A3 := Lib.hid (A2.out.names nl)
      have nd3 := (nl.grown.block nb A2.out.lt (fun e => by have := Option.some.inj e; have := A2.out.tn; omega)).trans A2.out.nd
      obtain ⟨⟨d0, d1, d2, d3, d4, d5, d6, d7⟩, fz⟩ := ndB_cells nd3
      have f7 := fz 7
      have E : Hid ((agN op true ns, q3) = (n1, p1)) := by
        have := HBY.out
        rw [BE.out, hns] at this
        show _ = _
        simpa using this
      have hq3 : q3.l = p.l := hl3.trans hl1
      clear NM nl nd3 hns fz
      go_wp2_with fail
      go_meet
      case rel =>
        have := E.out
        obtain ⟨rfl, rfl⟩ := Prod.mk.inj this
        exact ⟨_, A3, ⟨_, _, rfl⟩, hq3⟩
    | false =>
      have IW := Lib.hid (isQ_any t ⟨#[119, 105, 116, 104, 111, 117, 116]⟩ lv ip w2 A2.out.px (by omega))
      rw [show by_ (⟨#[119, 105, 116, 104, 111, 117, 116]⟩ : ByteArray) = Ex.withoutT from rfl] at IW
      have hle2 := isP_le Ex.withoutT ip
      have hl2 := isP_l Ex.withoutT ip
      have BE2 : Hid ((if (Ex.isP Ex.withoutT ip).1 then (Ex.namesP (Ex.isP Ex.withoutT ip).2).map fun r => (agN op false r.1, r.2) else some (agN op true [], (Ex.isP Ex.withoutT ip).2)) = some (n1, p1)) := by
        have := BE.out
        simp only [Bool.false_eq_true, if_false] at this
        exact this.symm.trans HBY.out
      generalize Ex.isP Ex.withoutT ip = jj at *
      obtain ⟨jb, jp⟩ := jj
      have hle2 : jp.s.length ≤ ip.s.length := hle2
      go_wp2_with fail
      refine IW.out.mono ?_
      rintro e w3 ⟨rfl, g3, px3⟩
      have A3 := Lib.hid (A2.out.call g3 px3)
      clear IW g3 px3 A2 BE HBY
      cases jb with
      | true =>
        have A4 := Lib.hid (A3.out.gb false)
        have nd3 := A3.out.nd
        obtain ⟨⟨d0, d1, d2, d3, d4, d5, d6, d7⟩, fz⟩ := ndB_cells nd3
        have f6 := fz 6
        have NM := Lib.hid (namesX_any t lv jp _ A4.out.px (by omega))
        clear fz nd3
        go_wp2_with fail
        refine NM.out.mono ?_
        rintro e w5 ⟨ns, q3, v, hns, rfl, _, _, _, hl3, nl⟩
        obtain ⟨A, m, c, rfl⟩ := ownsRow_is nl.own
        have A5 := Lib.hid (A4.out.names nl)
        have nd5 := (nl.grown.block nb A4.out.lt (fun e => by have := Option.some.inj e; have := A4.out.tn; omega)).trans A4.out.nd
        obtain ⟨⟨b0, b1, b2, b3, b4, b5, b6, b7⟩, fz⟩ := ndB_cells nd5
        have f7 := fz 7
        have E : Hid ((agN op false ns, q3) = (n1, p1)) := by
          have := BE2.out
          rw [hns] at this
          show _ = _
          simpa using this
        have hq3 : q3.l = p.l := (hl3.trans hl2).trans hl1
        clear NM nl nd5 hns fz
        go_wp2_with fail
        go_meet
        case rel =>
          have := E.out
          obtain ⟨rfl, rfl⟩ := Prod.mk.inj this
          exact ⟨_, A5, ⟨_, _, rfl⟩, hq3⟩
      | false =>
        have E : Hid ((agN op true [], jp) = (n1, p1)) := by
          have := BE2.out
          show _ = _
          simpa using this
        have hq3 : jp.l = p.l := hl2.trans hl1
        go_wp2_with fail
        go_meet
        case rel =>
          have := E.out
          obtain ⟨rfl, rfl⟩ := Prod.mk.inj this
          exact ⟨_, A3, ⟨_, _, rfl⟩, hq3⟩
  case rest =>
    obtain ⟨nv, A6, ⟨gb, ns, rfl⟩, hl1⟩ := hcut
    have hwt : wtP p1 ≤ wtP p := by_wt HBY.out
    clear A0 BE HBY
    have M7 := Lib.hid (mustQ_any t ⟨#[40]⟩ lv p1 wc A6.out.px)
    rw [show by_ (⟨#[40]⟩ : ByteArray) = [40] from rfl] at M7
    have wm := wt_must [40] p1
    have ml := mustP_l [40] p1
    obtain ⟨q1, h1, h2⟩ := Option.bind_eq_some_iff.1 HQ.out
    have H1 := Lib.hid h1
    have H2 := Lib.hid h2
    have W1 := parE_wt of n _ _ _ h1
    have plb : t < nb := A6.out.tn
    have hnbw : w.heap.size = nb := A6.out.hb
    have hsz := HH.out.pn.size
    have hrow : ∀ q, lv.ownBlock = some q → q < w.heap.size := fun q hq => (World.ownsRow.lt HH.out.pn.row q hq).2
    simp only at H1 H2 W1
    clear h1 h2 HQ
    generalize Ex.mustP [40] p1 = pm at *
    go_wp2_with fail
    refine M7.out.mono ?_
    rintro e w7 ⟨rfl, g7, px7⟩
    have A7 := A6.out.call g7 px7
    obtain ⟨R7, F7⟩ := HH.out.small A7.g A7.px (ml.trans hl1) (by omega)
    have NI7 : NdIn w7 B lv ((agN op gb ns), .slice none 0 0, nv) := by
      refine ⟨?_, A7.ws, (fun q hq => by cases hq), fun q hq => ?_, by show 0 < _; decide, by show 0 < _; decide, by show 0 ≤ _; decide⟩
      · show Ms0 w7 _ []
        exact ⟨none, 0, rfl, Nat.le_refl _, fun e => absurd rfl e⟩
      · have := A7.own q hq
        exact ⟨by omega, this.2, fun e => by have := hrow q e.symm; omega⟩
    have LV := Lib.hid (HL.out 0 (by decide) B t lv R pm w7 R7 q1 H1.out)
    rw [show ((0 : Nat) : Int) = 0 from rfl] at LV
    have hnb7 : nb < w7.heap.size := A7.lt
    have isl := A7.isl
    have ND7 := Lib.hid A7.nd
    have NI7' := Lib.hid NI7
    have R7' := Lib.hid R7
    have F7' := Lib.hid F7
    clear M7 g7 px7 A6 A7 NI7 R7 F7
    go_wp2_with fail
    refine LV.out.mono ?_
    rintro e w8 ⟨rfl, lv8, R8, pn8, fe8⟩
    have few8 : wtP q1 ≤ 1100 := Nat.le_trans W1 R7'.out.few
    have R8' := Lib.hid (R7'.out.fe pn8 fe8 few8)
    have F8' := Lib.hid (F7'.out.trans fe8)
    have ND8 := Lib.hid ((fe8.block nb hnb7 (by omega) (fun e => by have := hrow nb e.symm; omega)).trans ND7.out)
    have NI8 := Lib.hid (NI7'.out.fe fe8 R7'.out.pn.low)
    have hrow8 : some nb ≠ lv8.ownBlock := fun e => by
      rcases fe8.row with e2 | ⟨q', e2, hq'⟩
      · rw [e2] at e; have := hrow nb e.symm; omega
      · rw [e2] at e; have := Option.some.inj e; omega
    have hnb8 : nb < w8.heap.size := Nat.lt_of_lt_of_le hnb7 fe8.size
    clear LV pn8 fe8 ND7 NI7' R7' F7' H1
    go_upto_if 25 with fail
    go_cut [] (fun wx => ∃ (lv9 : Value) (R9 : List NdV) (p9 : Ex.P), Hid (Rdr wx B t lv9 R9 p9) ∧ Hid (Fe w wx t lv lv9) ∧ Hid (wx.heap[nb]? = some (ndB (agN op gb ns) (.slice none 0 0) nv)) ∧ Hid (NdIn wx B lv9 ((agN op gb ns), .slice none 0 0, nv)) ∧ Hid (q = Ex.putP (agN op gb ns) (Ex.mustP [41] p9)) ∧ some nb ≠ lv9.ownBlock ∧ nb < wx.heap.size)
    case first =>
      by_cases h5 : op = 5
      · have H3 : Hid ((Ex.parE of n (.level 0) (Ex.mustP [44] q1)).map (fun q2 => Ex.putP (agN op gb ns) (Ex.mustP [41] q2)) = some q) := by
          have := H2.out
          rw [if_pos h5] at this
          exact this
        have hq5 : (op == 5) = true := by simpa using h5
        clear h5
        have M9 := Lib.hid (mustQ_any t ⟨#[44]⟩ lv8 q1 w8 R8'.out.pn.px)
        rw [show by_ (⟨#[44]⟩ : ByteArray) = [44] from rfl] at M9
        have wm9 := wt_must [44] q1
        have ml9 := mustP_l [44] q1
        obtain ⟨q2, h3, h4⟩ := Option.map_eq_some_iff.1 H3.out
        have H4 := Lib.hid h4.symm
        have HP3 := Lib.hid h3
        have W3 := parE_wt of n _ _ _ h3
        clear h3 h4 H3 H2
        generalize Ex.mustP [44] q1 = pn at *
        go_wp2_with fail
        refine M9.out.mono ?_
        rintro e w9 ⟨rfl, g9, px9⟩
        obtain ⟨R9, F9⟩ := R8'.out.small g9 px9 ml9 wm9
        have LV := Lib.hid (HL.out 0 (by decide) B t lv8 R8 pn w9 R9 q2 HP3.out)
        rw [show ((0 : Nat) : Int) = 0 from rfl] at LV
        have hnb9 : nb < w9.heap.size := Nat.lt_of_lt_of_le hnb8 g9.size
        have ND9 := Lib.hid ((g9.block nb hnb8 (fun e => by have := Option.some.inj e; omega)).trans ND8.out)
        have NI9 := Lib.hid (NI8.out.fe F9 R8'.out.pn.low)
        have R9' := Lib.hid R9
        have F9' := Lib.hid (F8'.out.trans F9)
        clear M9 g9 px9 R9 F9 ND8 NI8 R8' F8' HP3
        go_wp2_with fail
        refine LV.out.mono ?_
        rintro e w10 ⟨rfl, lv10, R10, pn10, fe10⟩
        have few10 : wtP q2 ≤ 1100 := Nat.le_trans W3 R9'.out.few
        have R10' := Lib.hid (R9'.out.fe pn10 fe10 few10)
        have F10' := Lib.hid (F9'.out.trans fe10)
        have ND10 := Lib.hid ((fe10.block nb hnb9 (by omega) hrow8).trans ND9.out)
        have NI10 := Lib.hid (NI9.out.fe fe10 R9'.out.pn.low)
        have hrow10 : some nb ≠ lv10.ownBlock := fun e => by
          rcases fe10.row with e2 | ⟨q', e2, hq'⟩
          · rw [e2] at e; exact hrow8 e
          · rw [e2] at e; have := Option.some.inj e; omega
        have hnb10 : nb < w10.heap.size := Nat.lt_of_lt_of_le hnb9 fe10.size
        clear LV pn10 fe10 ND9 NI9 R9' F9'
        go_wp2_with fail
        go_meet
        case rel => exact ⟨lv10, R10, q2, R10', F10', ND10, NI10, H4, hrow10, hnb10⟩
      · have H3 : Hid (q = Ex.putP (agN op gb ns) (Ex.mustP [41] q1)) := by
          have := H2.out
          rw [if_neg h5] at this
          exact (Option.some.inj this).symm
        have hq5 : (op == 5) = false := by simpa using h5
        clear h5
        go_wp2_with fail
        go_meet
        case rel => exact ⟨lv8, R8, q1, R8', F8', ND8, NI8, H3, hrow8, hnb8⟩
    case rest =>
      obtain ⟨lv9, R9, p9, RR, FF, ND, NI, HQ, hrow9, hnb9⟩ := hcut
      clear R8' F8' ND8 NI8 H2
      have M := Lib.hid (mustQ_any t ⟨#[41]⟩ lv9 p9 wc RR.out.pn.px)
      rw [show by_ (⟨#[41]⟩ : ByteArray) = [41] from rfl] at M
      have wm9 := wt_must [41] p9
      have ml9 := mustP_l [41] p9
      generalize Ex.mustP [41] p9 = pn at *
      go_wp2_with fail
      refine M.out.mono ?_
      rintro e wz ⟨rfl, gz, pxz⟩
      obtain ⟨Rz, Fz⟩ := RR.out.small gz pxz ml9 wm9
      have NDz := (gz.block nb hnb9 (fun e => by have := Option.some.inj e; omega)).trans ND.out
      have NIz := Lib.hid (NI.out.fe Fz RR.out.pn.low)
      have Rz' := Lib.hid Rz
      have Fz' := Lib.hid (FF.out.trans Fz)
      obtain ⟨A, m, c, rfl⟩ := isl
      obtain ⟨⟨a0, a1, a2, a3, a4, a5, a6, a7⟩, fa⟩ := ndB_cells NDz
      obtain ⟨s6, h6, e6⟩ := Rz.pn.px
      obtain ⟨c0, c1, c2, c3, f0, f1, f2, f3⟩ := px_cells h6
      obtain ⟨A6, m6, cap6, hL⟩ := ownsRow_is Rz.pn.row
      have HL6 := Lib.hid hL
      rw [hL] at c1
      have lt6 : t < wz.heap.size := Rz.lt
      have nt6 : nb < wz.heap.size := Nat.lt_of_lt_of_le hnb9 gz.size
      have NW := Lib.hid (nd_new wz (agN op gb ns) (.slice none 0 0) (.slice A m c))
      clear M gz pxz RR FF ND NI Rz Fz NDz h6 e6 hL f0 f1 f2 f3 c0 c2 c3
      go_upto_region 12 with fail
      go_region_law (refine step_push Rz'.out NIz.out isSl_nil ⟨_, _, _, rfl⟩ NW.out.1 NW.out.2 (by rfl) (s := .tmp 36) (x := .tmp 38) (by rfl) (by exact HL6.out.symm) (by rfl) ?_; intro g8 cap8 w8 hpd; have c8 := hpd.c; have f8 := hpd.f; have PD := Lib.hid hpd; clear hpd)
      all_goals
        go_wp2_with fail
        exact bodyPost_ret (v := .tuple #[]) (by simp [results, Tryz.results95, go_sem]) rfl ⟨rfl, _, _, by rw [HQ.out]; exact PD.out.pn, Fz'.out.trans PD.out.fe⟩
end Go.Proofs.YtmbfpichaaanpaaGreatDoor
