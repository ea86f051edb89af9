import Derived.Test.YtmbfpichaaanpaaGreatDoorX35
import Derived.Test.YtmbfpichaaanpaaGreatDoorX38
import Derived.Deep.RegionHeld3
/-! The reader of expressions: a term. -/
namespace Go.Proofs.YtmbfpichaaanpaaGreatDoor
open Go.RowKit Ut Rx Mt

theorem ofX_lt (n : Int) : ofS n < 18446744073709551616 := by
  unfold ofS
  refine toldS_lt _ ?_
  have := floatOfInt_wf .f64 n
  simpa [Lit.wf] using this
theorem has_one (k : UInt8) (c : UInt8) (t : List UInt8) (p : Ex.P) (h : p.s = c :: t) (hb : bareF p.s = p.s) : Ex.hasP [k] p = if c = k then (true, { p with s := t }) else (false, p) := by
  unfold Ex.hasP Ex.bareP
  rw [hb, h]
  by_cases e : c = k
  · rw [if_pos e]
    have : eatF [k] (c :: t) = some t := by
      unfold eatF
      rw [if_pos (by simp [e])]
      rfl
    rw [this]
  · rw [if_neg e]
    have : eatF [k] (c :: t) = none := by
      unfold eatF
      rw [if_neg (by simp [List.isPrefixOf]; exact fun e2 => e e2.symm)]
    rw [this]
    simp [← h]
theorem Pq.c1 {w : World} {t : Nat} {lv : Value} {p : Ex.P} (h : Pq w t lv p) : w.cell? ⟨t, 1, none⟩ = some lv := by
  obtain ⟨s, h, _⟩ := h
  exact (px_cells h).2.1
theorem hexGo_lt : ∀ (k v : Nat) (l : List UInt8), v < 18446744073709551616 → (Ex.hexGo k v l).1 < 18446744073709551616
  | 0, v, l, h => by rw [hexGo_zero]; exact h
  | k + 1, v, [], h => by rw [hexGo_nil]; exact h
  | k + 1, v, c :: t, h => by
    rw [hexGo_cons]
    split
    · exact hexGo_lt k _ t (Nat.mod_lt _ (by decide))
    · exact h
theorem bitsP_lt (p : Ex.P) : (Ex.bitsP p).1 < 18446744073709551616 := hexGo_lt 16 0 p.s (by decide)
theorem bits_wt' (p : Ex.P) : wtP (Ex.bitsP p).2 ≤ wtP p := by
  have := bits_wt p 0 p.s
  have e : wtP (Ex.bitsP { p with s := p.s }).2 = wtP (Ex.bitsP p).2 := rfl
  rw [e] at this
  generalize wtP (Ex.bitsP p).2 = z at *
  unfold wtP at *
  simp only [List.length_cons] at this
  omega
def nuN (v : Nat) : Ex.Nd := ⟨0, 0, v, 0, [], false, false, []⟩
theorem nuN_in {w : World} {B : Nat} {lv : Value} {v : Nat} (hv : v < 18446744073709551616) : NdIn w B lv (nuN v, .slice none 0 0, .slice none 0 0) := ndIn_plain rfl rfl hv (by show 0 < _; decide)
theorem nd_below (w : World) (o : Obj) : Below w.heap.size w (w.alloc o) := (Below.refl _ _).alloc (Nat.le_refl _) _
set_option maxRecDepth 100000 in
set_option maxHeartbeats 8000000 in
theorem term_of {n : Nat} (hl : LevC ofS n) (hr : TerC ofS n) (ha : AggC ofS n) : TerC ofS (n + 1) := by
  intro B t lv R p w h q hq
  have HH := Lib.hid h
  have BA := Lib.hid (bareX_any t lv p.s p.bad p.e w h.pn.px)
  have lt := h.lt
  have hbl := bareF_le p.s
  have plen := h.len
  clear h
  go_enter Tryz.func54, Tryz.ntmps54
  go_wp2_with fail
  refine BA.out.mono ?_
  rintro e w1 ⟨rfl, g1, px1⟩
  have G1 := Lib.hid g1
  have P1 : Hid (Pq w1 t lv (Ex.bareP p)) := px1
  obtain ⟨s1, h1, e1⟩ := id px1
  have H1 := Lib.hid h1
  obtain ⟨c0, c1, c2, c3, f0, f1, f2, f3⟩ := px_cells h1
  rw [Ex.parE] at hq
  clear BA g1 px1 h1
  cases hb : bareF p.s with
  | nil =>
    rw [hb] at hq e1
    have hz : s1.size = 0 := by rw [← tl_len s1]; show (by_ s1).length = 0; rw [e1]; rfl
    have hem : s1.toList.isEmpty = true := by rw [tl_eq, show s1.data.toList = [] from e1]; rfl
    have E : Hid (q = { Ex.bareP p with bad := true }) := (Option.some.inj hq).symm
    have P2 : Hid (Pq (w1.setCell ⟨t, 2, none⟩ (.bool true)) t lv { Ex.bareP p with bad := true }) := ⟨s1, px_put2 H1.out, by rw [e1]; exact hb.symm⟩
    have RR := Lib.hid (HH.out.small (grown_trans G1.out (grown_setCell _ _ 2 (.bool true))) P2.out rfl (by
      have := wt_bare p
      refine Nat.le_trans ?_ this
      unfold wtP; simp only [if_true]; omega))
    clear hq
    cases hbad : p.bad with
    | true =>
      rw [hbad] at c2
      go_wp2_with fail
      exact bodyPost_ret (v := .tuple #[]) (by simp [results, Tryz.results54, go_sem]) rfl ⟨rfl, lv, R, by rw [E.out]; exact RR.out.1.pn, RR.out.2⟩
    | false =>
      rw [hbad] at c2
      go_wp2_with fail
      exact bodyPost_ret (v := .tuple #[]) (by simp [results, Tryz.results54, go_sem]) rfl ⟨rfl, lv, R, by rw [E.out]; exact RR.out.1.pn, RR.out.2⟩
  | cons c tl =>
    rw [hb] at hq e1
    have hsz : 0 < s1.size := by rw [← tl_len s1]; show 0 < (by_ s1).length; rw [e1]; simp
    have hem := string_ne hsz
    have hc0 : s1[0]'hsz = c := by
      have := drop_two (s := s1) (k := 0) hsz
      rw [List.drop_zero, e1] at this
      exact (List.cons.inj this).1.symm
    simp only at hq
    cases hbad : p.bad with
    | true =>
      rw [if_pos hbad] at hq
      rw [hbad] at c2
      have E : Hid (q = Ex.bareP p) := (Option.some.inj hq).symm
      have P2 : Hid (Pq (w1.setCell ⟨t, 2, none⟩ (.bool true)) t lv (Ex.bareP p)) := ⟨s1, by
        have := px_put2 (bad' := true) H1.out
        rw [show (Ex.bareP p).bad = true from hbad]; exact this, by rw [e1]; exact hb.symm⟩
      have RR := Lib.hid (HH.out.small (grown_trans G1.out (grown_setCell _ _ 2 (.bool true))) P2.out rfl (wt_bare p))
      clear hq hc0
      go_wp2_with fail
      exact bodyPost_ret (v := .tuple #[]) (by simp [results, Tryz.results54, go_sem]) rfl ⟨rfl, lv, R, by rw [E.out]; exact RR.out.1.pn, RR.out.2⟩
    | false =>
      rw [if_neg (by rw [hbad]; decide)] at hq
      rw [hbad] at c2
      have hNE : namE ofS n (Ex.bareP p) = (if 0 ≤ Ex.placeE Ex.aggsT (Ex.peekW (c :: tl)) then aggE ofS n (Ex.placeE Ex.aggsT (Ex.peekW (c :: tl))) { p with s := (c :: tl).drop (Ex.peekW (c :: tl)).length }
          else (Ex.parE ofS n (.level 0) (Ex.mustP [40] { p with s := (c :: tl).drop (Ex.peekW (c :: tl)).length })).map fun q => Ex.putP { Ex.nd0 with k := 3, op := Ex.placeE Ex.callsT (Ex.peekW (c :: tl)) } (Ex.mustP [41] q)) := by
        unfold namE
        simp only [show (Ex.bareP p).s = c :: tl from hb]
        rfl
      have HQ : Hid ((if c = 45 then (Ex.parE ofS n .term { Ex.bareP p with s := tl }).map (Ex.putP { Ex.nd0 with k := 4 }) else
          if Ex.digC c then some (Ex.putP { Ex.nd0 with v := ofS ((Ex.wholeP 9007199254740992 (Ex.bareP p)).1 : Int) } (Ex.wholeP 9007199254740992 (Ex.bareP p)).2) else
          if c = 35 then some (Ex.putP { Ex.nd0 with v := (Ex.bitsP { Ex.bareP p with s := tl }).1 } (Ex.bitsP { Ex.bareP p with s := tl }).2) else
          if c = 40 then (Ex.parE ofS n (.level 0) { Ex.bareP p with s := tl }).map (Ex.mustP [41]) else
          if Ex.callAt (Ex.bareP p).s then namE ofS n (Ex.bareP p) else some (Ex.selE (Ex.bareP p))) = some q) := by
        rw [hNE, show (Ex.bareP p).s = c :: tl from hb]
        exact hq
      obtain ⟨r1, f1⟩ := HH.out.small G1.out P1.out rfl (wt_bare p)
      have hs0 : (Ex.bareP p).s = c :: tl := hb
      have hbb : bareF (Ex.bareP p).s = (Ex.bareP p).s := bare_bare p.s
      have hbd : (Ex.bareP p).bad = false := hbad
      subst hc0
      have RR1 := Lib.hid r1
      have FF1 := Lib.hid f1
      clear hq hNE hb HH G1 r1 f1 hbl plen
      generalize Ex.bareP p = p0 at *
      clear hbad
      have HS0 := Lib.hid hs0
      have HBB := Lib.hid hbb
      have hone := fun k => has_one k (s1[0]'hsz) tl p0 hs0 hbb
      have HA1 := Lib.hid (hasQ_any t ⟨#[45]⟩ lv p0 w1 P1.out)
      rw [show by_ (⟨#[45]⟩ : ByteArray) = [45] from rfl, hone 45] at HA1
      have HONE := Lib.hid hone
      have hlen0 : p0.s.length ≤ 1100 := RR1.out.len
      have hcut : wtP { p0 with s := tl } + 1 ≤ wtP p0 := by
        unfold wtP; rw [hs0]; simp only [List.length_cons]; omega
      clear hs0 hbb hone H1
      by_cases c45 : (s1[0]'hsz) = 45
      · rw [if_pos c45] at HA1
        have HQ1 : Hid ((Ex.parE ofS n .term { p0 with s := tl }).map (Ex.putP { Ex.nd0 with k := 4 }) = some q) := by
          have := HQ.out
          rw [if_pos c45] at this
          exact this
        clear HQ c45
        obtain ⟨r, h1, h2⟩ := Option.map_eq_some_iff.1 HQ1.out
        have H2 := Lib.hid h2.symm
        have W1 := parE_wt ofS n _ _ _ h1
        go_wp2_with fail
        refine HA1.out.mono ?_
        rintro e w2 ⟨rfl, g2, px2⟩
        obtain ⟨r2, f2⟩ := RR1.out.small g2 px2 rfl (by omega)
        have TE := Lib.hid (hr B t lv R _ w2 r2 r h1)
        have FF2 := Lib.hid (FF1.out.trans f2)
        have RR2 := Lib.hid r2
        clear HA1 g2 px2 r2 f2 h1 h2 HQ1
        go_wp2_with fail
        refine TE.out.mono ?_
        rintro e wz ⟨rfl, lvz, Rz, pnz, fez⟩
        have Rz' := Lib.hid (RR2.out.fe pnz fez (by have := RR2.out.few; omega))
        have Fz' := Lib.hid (FF2.out.trans fez)
        have NIz : Hid (NdIn wz B lvz (ndE 4 0 false, .slice none 0 0, .slice none 0 0)) := ndIn_plain rfl rfl (by show 0 < _; decide) (by show 0 < _; decide)
        obtain ⟨s6, h6, e6⟩ := pnz.px
        obtain ⟨c0, c1, c2, c3, f0, f1, f2, f3⟩ := px_cells h6
        obtain ⟨A6, m6, cap6, hL⟩ := ownsRow_is pnz.row
        have HL6 := Lib.hid hL
        rw [hL] at c1
        have lt6 : t < wz.heap.size := Rz'.out.lt
        have NB : Hid (Below wz.heap.size wz (wz.alloc (ndB (ndE 4 0 false) (.slice none 0 0) (.slice none 0 0)))) := (Below.refl _ _).alloc (Nat.le_refl _) _
        have NW := Lib.hid (heap_alloc_new wz (ndB (ndE 4 0 false) (.slice none 0 0) (.slice none 0 0)))
        clear TE RR2 FF2 pnz fez h6 e6 hL f0 f1 f2 f3 c0 c2 c3
        go_wp2_with (at_builtin; refine wpList_push Rz'.out NIz.out isSl_nil isSl_nil NB.out NW.out (by rfl) (s := .tmp 33) (x := .tmp 35) (by rfl) (by exact HL6.out.symm) (by rfl) ?_; intro g8 cap8 w8 hpd; have c8 := hpd.c; have f8 := hpd.f; have PD := Lib.hid hpd; clear hpd)
        exact bodyPost_ret (v := .tuple #[]) (by simp [results, Tryz.results54, go_sem]) rfl ⟨rfl, _, _, by rw [H2.out]; exact PD.out.pn, Fz'.out.trans PD.out.fe⟩
      · rw [if_neg c45] at HA1
        have HQ1 : Hid ((if Ex.digC (s1[0]'hsz) then some (Ex.putP { Ex.nd0 with v := ofS ((Ex.wholeP 9007199254740992 p0).1 : Int) } (Ex.wholeP 9007199254740992 p0).2) else
          if (s1[0]'hsz) = 35 then some (Ex.putP { Ex.nd0 with v := (Ex.bitsP { p0 with s := tl }).1 } (Ex.bitsP { p0 with s := tl }).2) else
          if (s1[0]'hsz) = 40 then (Ex.parE ofS n (.level 0) { p0 with s := tl }).map (Ex.mustP [41]) else
          if Ex.callAt p0.s then namE ofS n p0 else some (Ex.selE p0)) = some q) := by
          have := HQ.out
          rw [if_neg c45] at this
          exact this
        clear HQ c45
        go_wp2_with fail
        refine HA1.out.mono ?_
        rintro e w2 ⟨rfl, g2, px2⟩
        obtain ⟨r2, ff2⟩ := RR1.out.small g2 px2 rfl (Nat.le_refl _)
        have RR2 := Lib.hid r2
        have FF2 := Lib.hid (FF1.out.trans ff2)
        have P2 := Lib.hid px2
        clear HA1 g2 px2 r2 ff2 RR1 FF1 c0 c1 c2 c3 f0 f1 f2 f3 P1
        go_upto_region 7 with fail
        generalize (s1[0]'hsz) = c at *
        go_cut [39] (fun v39 wx => v39 = .bool (Ex.digC c) ∧ wx = w2)
        case first =>
          have hcl := c.toNat_lt
          have hdu : Ex.digC c = (decide (48 ≤ c.toNat) && decide (c.toNat ≤ 57)) := rfl
          have HDU := Lib.hid hdu
          clear hdu
          generalize Ex.digC c = dg at *
          by_cases h1 : 48 ≤ c.toNat
          · by_cases h2 : c.toNat ≤ 57
            · have E : Hid (dg = true) := by show _ = _; rw [HDU.out, decide_eq_true h1, decide_eq_true h2]; rfl
              go_wp2_with fail
              go_meet
              case rel => exact ⟨by rw [E.out, decide_eq_true (show (c.toNat : Int) ≤ 57 by omega)], rfl⟩
            · have E : Hid (dg = false) := by show _ = _; rw [HDU.out, decide_eq_true h1, decide_eq_false h2]; rfl
              go_wp2_with fail
              go_meet
              case rel => exact ⟨by rw [E.out, decide_eq_false (show ¬ (c.toNat : Int) ≤ 57 by omega)], rfl⟩
          · have E : Hid (dg = false) := by show _ = _; rw [HDU.out, decide_eq_false h1]; rfl
            go_wp2_with fail
            go_meet
            case rel => exact ⟨by rw [E.out], rfl⟩
        case rest =>
        obtain ⟨rfl, hwx⟩ := hcut
        obtain rfl := hwx
        cases hdg : Ex.digC c with
        | true =>
          have HQ2 : Hid (Ex.putP { Ex.nd0 with v := ofS ((Ex.wholeP 9007199254740992 p0).1 : Int) } (Ex.wholeP 9007199254740992 p0).2 = q) := by
            have := HQ1.out
            rw [if_pos hdg] at this
            exact Option.some.inj this
          have HDG := Lib.hid hdg
          clear HQ1 hdg
          have WH := Lib.hid (wholeX_any t lv p0 9007199254740992 wc.drew (Px.below P2.out ((Below.refl _ _).drew)) (by omega) (by decide) (by decide))
          rw [show ((9007199254740992 : Nat) : Int) = 9007199254740992 from rfl] at WH
          have hwl := wholeP_le 9007199254740992 p0
          have hww := whole_wt1 9007199254740992 p0 c tl (by rw [HBB.out, HS0.out]) HDG.out hbd
          have hql := wholeP_l 9007199254740992 p0
          have hqe := wholeP_e 9007199254740992 p0
          generalize (Ex.wholeP 9007199254740992 p0).1 = qn at *
          generalize (Ex.wholeP 9007199254740992 p0).2 = q2 at *
          obtain ⟨s6, h6, e6⟩ := P2.out
          obtain ⟨c0, c1, c2, c3, f0, f1, f2, f3⟩ := px_cells h6
          obtain ⟨A6, m6, cap6, hL⟩ := ownsRow_is RR2.out.pn.row
          have HL6 := Lib.hid hL
          rw [hL] at c1
          clear h6 e6 hL c0 c2 c3 f0 f1 f2 f3
          have lt6 : t < wc.heap.size := RR2.out.lt
          have RD := Lib.hid (RR2.out.below ((Below.refl _ _).drew))
          have hwr : IntKind.i64.wrap (qn : Int) = (qn : Int) := IntWalk.i64_in _ (by omega)
          clear hwl
          go_upto_region 8 with fail
          go_region_law
            (first
              | (rw [if_pos (by kernel_rfl)]; go_simp; go_at_call 73; refine WH.out.mono ?_; rintro e w3 ⟨rfl, g3, px3⟩; have RF3 := Lib.hid (RD.out.1.small g3 (show Pq w3 t lv q2 from by unfold Pq; rw [hqe]; exact px3) hql (Nat.le_of_succ_le hww)); have k3 : w3.cell? ⟨t, 1, none⟩ = some (.slice A6 m6 cap6) := (by rw [← HL6.out]; exact Pq.c1 RF3.out.1.pn.px); have lt3 : t < w3.heap.size := RF3.out.1.lt; clear g3 px3)
              | (rw [if_pos (by kernel_rfl)]; go_simp; go_at_call 69; refine (of_any _ _).mono ?_; rintro e w4 ⟨rfl, rfl⟩)
              | (refine step_push RF3.out.1 (nuN_in (ofX_lt (qn : Int))) isSl_nil isSl_nil (nd_below _ _) (heap_alloc_new _ _) (by rfl) (s := .tmp 50) (x := .tmp 56) (by rfl) (by exact HL6.out.symm) (by rfl) ?_; intro g8 cap8 w8 hpd; have c8 : w8.cell? ⟨t, 1, none⟩ = some (.slice A6 m6 cap6) := (by rw [← HL6.out]; exact hpd.c); have f8 := hpd.f; have PD := Lib.hid hpd; clear hpd))
          all_goals
            go_wp2_with fail
            exact bodyPost_ret (v := .tuple #[]) (by simp [results, Tryz.results54, go_sem]) rfl ⟨rfl, _, _, by rw [← HQ2.out]; exact PD.out.pn, ((FF2.out.trans RD.out.2).trans RF3.out.2).trans PD.out.fe⟩
        | false =>
          have HQ2 : Hid ((if c = 35 then some (Ex.putP { Ex.nd0 with v := (Ex.bitsP { p0 with s := tl }).1 } (Ex.bitsP { p0 with s := tl }).2) else
              if c = 40 then (Ex.parE ofS n (.level 0) { p0 with s := tl }).map (Ex.mustP [41]) else
              if Ex.callAt p0.s then namE ofS n p0 else some (Ex.selE p0)) = some q) := by
            have := HQ1.out
            rw [if_neg (by rw [hdg]; decide)] at this
            exact this
          clear HQ1 hdg
          have HA2 := Lib.hid (hasQ_any t ⟨#[35]⟩ lv p0 wc P2.out)
          rw [show by_ (⟨#[35]⟩ : ByteArray) = [35] from rfl, HONE.out 35] at HA2
          by_cases c35 : c = 35
          · rw [if_pos c35] at HA2
            have HQ3 : Hid (Ex.putP { Ex.nd0 with v := (Ex.bitsP { p0 with s := tl }).1 } (Ex.bitsP { p0 with s := tl }).2 = q) := by
              have := HQ2.out
              rw [if_pos c35] at this
              exact Option.some.inj this
            clear HQ2
            go_wp2_with fail
            refine HA2.out.mono ?_
            rintro e w3 ⟨rfl, g3, px3⟩
            obtain ⟨r3, ff3⟩ := RR2.out.small g3 px3 rfl (by omega)
            have RR3 := Lib.hid r3
            have FF3 := Lib.hid (FF2.out.trans ff3)
            have P3 := Lib.hid px3
            clear HA2 g3 px3 r3 ff3 RR2 FF2 P2
            have BI := Lib.hid (bitsX_any t lv { p0 with s := tl } w3.drew (Px.below P3.out ((Below.refl _ _).drew)) (by
              have h := HS0.out
              have h2 := congrArg List.length h
              simp only [List.length_cons] at h2
              show tl.length ≤ _
              omega))
            have hbw := bits_wt p0 c tl
            have hbv := bitsP_lt { p0 with s := tl }
            have hbl2 : (Ex.bitsP { p0 with s := tl }).2.l = p0.l := rfl
            have hbe2 : (Ex.bitsP { p0 with s := tl }).2.e = p0.e := rfl
            have hbw2 : wtP (Ex.bitsP { p0 with s := tl }).2 ≤ wtP { p0 with s := tl } := bits_wt' { p0 with s := tl }
            generalize (Ex.bitsP { p0 with s := tl }).1 = qv at *
            generalize (Ex.bitsP { p0 with s := tl }).2 = q2 at *
            obtain ⟨s6, h6, e6⟩ := P3.out
            obtain ⟨c0, c1, c2, c3, f0, f1, f2, f3⟩ := px_cells h6
            obtain ⟨A6, m6, cap6, hL⟩ := ownsRow_is RR3.out.pn.row
            have HL6 := Lib.hid hL
            rw [hL] at c1
            clear h6 e6 hL c0 c2 c3 f0 f1 f2 f3 hbw
            have lt6 : t < w3.heap.size := RR3.out.lt
            have RD := Lib.hid (RR3.out.below ((Below.refl _ _).drew))
            go_upto_region 10 with fail
            go_region_law
              (first
                | (rw [if_pos (by kernel_rfl)]; go_simp; go_at_call 74; refine BI.out.mono ?_; rintro e w4 ⟨rfl, g4, px4⟩; have RF4 := Lib.hid (RD.out.1.small g4 (show Pq w4 t lv q2 from by unfold Pq; rw [hbe2]; exact px4) hbl2 hbw2); have k4 : w4.cell? ⟨t, 1, none⟩ = some (.slice A6 m6 cap6) := (by rw [← HL6.out]; exact Pq.c1 RF4.out.1.pn.px); have lt4 : t < w4.heap.size := RF4.out.1.lt; clear g4 px4)
                | (refine step_push RF4.out.1 (nuN_in hbv) isSl_nil isSl_nil (nd_below _ _) (heap_alloc_new _ _) (by rfl) (s := .tmp 67) (x := .tmp 71) (by rfl) (by exact HL6.out.symm) (by rfl) ?_; intro g8 cap8 w8 hpd; have c8 : w8.cell? ⟨t, 1, none⟩ = some (.slice A6 m6 cap6) := (by rw [← HL6.out]; exact hpd.c); have f8 := hpd.f; have PD := Lib.hid hpd; clear hpd))
            all_goals
              go_wp2_with fail
              exact bodyPost_ret (v := .tuple #[]) (by simp [results, Tryz.results54, go_sem]) rfl ⟨rfl, _, _, by rw [← HQ3.out]; exact PD.out.pn, ((FF3.out.trans RD.out.2).trans RF4.out.2).trans PD.out.fe⟩
          · rw [if_neg c35] at HA2
            have HQ3 : Hid ((if c = 40 then (Ex.parE ofS n (.level 0) { p0 with s := tl }).map (Ex.mustP [41]) else
                if Ex.callAt p0.s then namE ofS n p0 else some (Ex.selE p0)) = some q) := by
              have := HQ2.out
              rw [if_neg c35] at this
              exact this
            clear HQ2 c35
            go_wp2_with fail
            refine HA2.out.mono ?_
            rintro e w3 ⟨rfl, g3, px3⟩
            obtain ⟨r3, ff3⟩ := RR2.out.small g3 px3 rfl (Nat.le_refl _)
            have RR3 := Lib.hid r3
            have FF3 := Lib.hid (FF2.out.trans ff3)
            have P3 := Lib.hid px3
            clear HA2 g3 px3 r3 ff3 RR2 FF2 P2
            have HA3 := Lib.hid (hasQ_any t ⟨#[40]⟩ lv p0 w3 P3.out)
            rw [show by_ (⟨#[40]⟩ : ByteArray) = [40] from rfl, HONE.out 40] at HA3
            by_cases c40 : c = 40
            · rw [if_pos c40] at HA3
              have HQ4 : Hid ((Ex.parE ofS n (.level 0) { p0 with s := tl }).map (Ex.mustP [41]) = some q) := by
                have := HQ3.out
                rw [if_pos c40] at this
                exact this
              clear HQ3 c40
              obtain ⟨r, h1, h2⟩ := Option.map_eq_some_iff.1 HQ4.out
              have H2 := Lib.hid h2
              have W1 := parE_wt ofS n _ _ _ h1
              go_wp2_with fail
              refine HA3.out.mono ?_
              rintro e w4 ⟨rfl, g4, px4⟩
              obtain ⟨r4, ff4⟩ := RR3.out.small g4 px4 rfl (by omega)
              have RR4 := Lib.hid r4
              have FF4 := Lib.hid (FF3.out.trans ff4)
              have LV := Lib.hid (hl 0 (by decide) B t lv R _ w4 r4 r h1)
              rw [show ((0 : Nat) : Int) = 0 from rfl] at LV
              clear HA3 g4 px4 r4 ff4 RR3 FF3 P3 h1 h2 HQ4
              go_wp2_with fail
              refine LV.out.mono ?_
              rintro e w5 ⟨rfl, lv5, R5, pn5, fe5⟩
              have RR5 := Lib.hid (RR4.out.fe pn5 fe5 (Nat.le_trans W1 RR4.out.few))
              have FF5 := Lib.hid (FF4.out.trans fe5)
              have M := Lib.hid (mustQ_any t ⟨#[41]⟩ lv5 r w5 pn5.px)
              rw [show by_ (⟨#[41]⟩ : ByteArray) = [41] from rfl] at M
              have wm := wt_must [41] r
              have ml := mustP_l [41] r
              clear LV pn5 fe5 RR4 FF4
              generalize Ex.mustP [41] r = rm at *
              go_wp2_with fail
              refine M.out.mono ?_
              rintro e w6 ⟨rfl, g6, px6⟩
              obtain ⟨r6, ff6⟩ := RR5.out.small g6 px6 ml wm
              have R6 := Lib.hid r6.pn
              have F6 := Lib.hid (FF5.out.trans ff6)
              clear M g6 px6 r6 ff6
              go_wp2_with fail
              exact bodyPost_ret (v := .tuple #[]) (by simp [results, Tryz.results54, go_sem]) rfl ⟨rfl, _, _, by rw [← H2.out]; exact R6.out, F6.out⟩
            · rw [if_neg c40] at HA3
              have HQ4 : Hid ((if Ex.callAt p0.s then namE ofS n p0 else some (Ex.selE p0)) = some q) := by
                have := HQ3.out
                rw [if_neg c40] at this
                exact this
              clear HQ3 c40
              go_wp2_with fail
              refine HA3.out.mono ?_
              rintro e w4 ⟨rfl, g4, px4⟩
              obtain ⟨r4, ff4⟩ := RR3.out.small g4 px4 rfl (Nat.le_refl _)
              have RR4 := Lib.hid r4
              have FF4 := Lib.hid (FF3.out.trans ff4)
              have NM := Lib.hid (named_of hl ha B t lv R p0 w4 r4 HBB.out q (fun h => by have := HQ4.out; rw [if_pos h] at this; exact this))
              clear HA3 g4 px4 r4 ff4 RR3 FF3 P3
              obtain ⟨ca, hca⟩ : ∃ b, b = Ex.callAt p0.s := ⟨_, rfl⟩
              rw [← hca] at NM HQ4
              clear hca
              go_wp2_with fail
              refine NM.out.mono ?_
              rintro e w5 ⟨rfl, hc⟩
              clear NM
              rcases hc with ⟨rfl, g5, px5⟩ | ⟨rfl, lv5, R5, pn5, fe5⟩
              · obtain ⟨r5, ff5⟩ := RR4.out.small g5 px5 rfl (Nat.le_refl _)
                have FF5 := Lib.hid (FF4.out.trans ff5)
                have SE := Lib.hid (selectorX_any B t lv R p0 w5 r5.pn (by have := r5.len; omega) (by have := r5.lenl; omega) r5.tabs (by have := r5.low; omega) r5.t8)
                have E : Hid (Ex.selE p0 = q) := Option.some.inj HQ4.out
                clear g5 px5 r5 ff5 RR4 FF4 HQ4
                go_wp2_with fail
                refine SE.out.mono ?_
                rintro e w6 ⟨rfl, lv6, R6, pn6, fe6⟩
                have PN6 := Lib.hid pn6
                have F6 := Lib.hid (FF5.out.trans fe6)
                clear SE pn6 fe6
                go_wp2_with fail
                exact bodyPost_ret (v := .tuple #[]) (by simp [results, Tryz.results54, go_sem]) rfl ⟨rfl, _, _, by rw [← E.out]; exact PN6.out, F6.out⟩
              · have PN5 := Lib.hid pn5
                have F5 := Lib.hid (FF4.out.trans fe5)
                clear pn5 fe5
                go_wp2_with fail
                exact bodyPost_ret (v := .tuple #[]) (by simp [results, Tryz.results54, go_sem]) rfl ⟨rfl, _, _, PN5.out, F5.out⟩
end Go.Proofs.YtmbfpichaaanpaaGreatDoor

/-! The reader of expressions: all of it; its fuel is enough. -/
namespace Go.Proofs.YtmbfpichaaanpaaGreatDoor
open Go.RowKit Ut Rx Mt

theorem recs : ∀ n, LevC ofS n ∧ TerC ofS n := by
  intro n
  induction n using Nat.strongRecOn with
  | _ n ih =>
    cases n with
    | zero =>
      refine ⟨fun k _ B t lv R p w _ q hq => ?_, fun B t lv R p w _ q hq => ?_⟩
      · rw [Ex.parE] at hq; cases hq
      · rw [Ex.parE] at hq; cases hq
    | succ n =>
      have hn := ih n (Nat.lt_succ_self n)
      exact ⟨level_of (fun m hm => (ih m (Nat.lt_succ_of_le hm)).1) (fun m hm => (ih m (Nat.lt_succ_of_le hm)).2), term_of hn.1 hn.2 (agg_of hn.1)⟩

/-! ### the fuel -/
theorem par_mono1 (of : Int → Nat) : ∀ (n : Nat) (md : Ex.Md) (p q : Ex.P), Ex.parE of n md p = some q → Ex.parE of (n + 1) md p = some q := by
  intro n
  induction n with
  | zero => intro md p q h; rw [Ex.parE] at h; cases h
  | succ n ih =>
    intro md p q h
    cases md with
    | level k =>
      rw [Ex.parE] at h ⊢
      obtain ⟨r, h1, h2⟩ := Option.bind_eq_some_iff.1 h
      exact Option.bind_eq_some_iff.2 ⟨r, ih _ _ _ h1, ih _ _ _ h2⟩
    | loop k =>
      rw [Ex.parE] at h ⊢
      split at h
      · rename_i hb; rw [if_pos hb]; exact h
      · rename_i hb
        rw [if_neg hb]
        rcases hs : Ex.signE k p with ⟨a, b⟩
        rw [hs] at h
        cases a with
        | none => exact h
        | some x =>
          obtain ⟨r, h1, h2⟩ := Option.bind_eq_some_iff.1 h
          exact Option.bind_eq_some_iff.2 ⟨r, ih _ _ _ h1, ih _ _ _ h2⟩
    | term =>
      rw [Ex.parE] at h ⊢
      cases hc : bareF p.s with
      | nil => rw [hc] at h; exact h
      | cons c t =>
        rw [hc] at h
        simp only at h ⊢
        split at h
        · rename_i hb; rw [if_pos hb]; exact h
        · rename_i hb
          rw [if_neg hb]
          split at h
          · rename_i h1
            rw [if_pos h1]
            obtain ⟨r, h2, h3⟩ := Option.map_eq_some_iff.1 h
            exact Option.map_eq_some_iff.2 ⟨r, ih _ _ _ h2, h3⟩
          · rename_i h1
            rw [if_neg h1]
            split at h
            · rename_i h2; rw [if_pos h2]; exact h
            · rename_i h2
              rw [if_neg h2]
              split at h
              · rename_i h3; rw [if_pos h3]; exact h
              · rename_i h3
                rw [if_neg h3]
                split at h
                · rename_i h4
                  rw [if_pos h4]
                  obtain ⟨r, h5, h6⟩ := Option.map_eq_some_iff.1 h
                  exact Option.map_eq_some_iff.2 ⟨r, ih _ _ _ h5, h6⟩
                · rename_i h4
                  rw [if_neg h4]
                  split at h
                  · rename_i h5
                    rw [if_pos h5]
                    split at h
                    · rename_i h6
                      rw [if_pos h6]
                      obtain ⟨r, h7, h8⟩ := Option.bind_eq_some_iff.1 h
                      obtain ⟨q1, h9, h10⟩ := Option.bind_eq_some_iff.1 h8
                      refine Option.bind_eq_some_iff.2 ⟨r, h7, Option.bind_eq_some_iff.2 ⟨q1, ih _ _ _ h9, ?_⟩⟩
                      split at h10
                      · rename_i h11
                        rw [if_pos h11]
                        obtain ⟨q2, h12, h13⟩ := Option.map_eq_some_iff.1 h10
                        exact Option.map_eq_some_iff.2 ⟨q2, ih _ _ _ h12, h13⟩
                      · rename_i h11
                        rw [if_neg h11]; exact h10
                    · rename_i h6
                      rw [if_neg h6]
                      obtain ⟨r, h7, h8⟩ := Option.map_eq_some_iff.1 h
                      exact Option.map_eq_some_iff.2 ⟨r, ih _ _ _ h7, h8⟩
                  · rename_i h5; rw [if_neg h5]; exact h
theorem par_mono {of : Int → Nat} {n m : Nat} (h : n ≤ m) {md : Ex.Md} {p q : Ex.P} (hp : Ex.parE of n md p = some q) : Ex.parE of m md p = some q := by
  induction m with
  | zero => obtain rfl : n = 0 := by omega
            exact hp
  | succ m ih =>
    by_cases e : n = m + 1
    · subst e; exact hp
    · exact par_mono1 of m md p q (ih (by omega))
/-- names are read to their end -/
theorem names_some : ∀ (n : Nat) (first : Bool) (acc : List ByteArray) (p : Ex.P), p.s.length + (if p.bad then 0 else 2) + 1 ≤ n → (Ex.namesGo n first acc p).isSome = true := by
  intro n
  induction n with
  | zero => intro first acc p h; omega
  | succ n ih =>
    intro first acc p h
    rw [names_step]
    split
    · rfl
    · rename_i hb
      split
      · rfl
      · have hb : p.bad = false := by simpa using hb
        rw [hb] at h
        simp only [Bool.false_eq_true, if_false] at h
        have hq : (if first = true then Ex.bareP p else Ex.mustP [44] (Ex.bareP p)).s.length ≤ p.s.length := by
          split
          · exact bareF_le p.s
          · exact Nat.le_trans (mustP_le [44] (Ex.bareP p)) (bareF_le p.s)
        generalize (if first = true then Ex.bareP p else Ex.mustP [44] (Ex.bareP p)) = q at *
        refine ih _ _ _ ?_
        have hl := bareF_le q.s
        simp only [List.length_drop]
        by_cases hw : Ex.peekW q.s = []
        · rw [hw]
          simp only [List.isEmpty_nil, Bool.or_true, if_true, List.length_nil]
          omega
        · have h1 := List.length_pos_iff.2 hw
          have h2 := peek_le q.s
          split <;> omega
theorem namesP_some (p : Ex.P) : ∃ r, Ex.namesP p = some r := by
  have h := names_some (p.s.length + 3) true [] (Ex.mustP [40] p) (by
    have := mustP_le [40] p
    split <;> omega)
  obtain ⟨r, hr⟩ := Option.isSome_iff_exists.1 h
  exact ⟨(r.1, Ex.mustP [41] r.2), by unfold Ex.namesP; rw [hr]; rfl⟩
theorem byP_some (op : Int) (p : Ex.P) : ∃ r, Ex.byP op p = some r := by
  rw [byP_eq]
  split
  · obtain ⟨r, hr⟩ := namesP_some (Ex.isP Ex.byT p).2
    exact ⟨_, by rw [hr]; rfl⟩
  · split
    · obtain ⟨r, hr⟩ := namesP_some (Ex.isP Ex.withoutT (Ex.isP Ex.byT p).2).2
      exact ⟨_, by rw [hr]; rfl⟩
    · exact ⟨_, rfl⟩
end Go.Proofs.YtmbfpichaaanpaaGreatDoor
