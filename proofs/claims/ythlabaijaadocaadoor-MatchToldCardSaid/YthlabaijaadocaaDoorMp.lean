import Derived.Test.YthlabaijaadocaaDoorMo
/-! What a part's matches lead to: a part that comes again. -/
namespace Go.Proofs.YthlabaijaadocaaDoor
open Go.RowKit Ut Rx

theorem below_grown {w wa wb : World} {k : Nat} (hb : Below w.heap.size w wa) (g : wa.grownBy wb (some k)) (hk : w.heap.size ≤ k) : Below w.heap.size w wb :=
  ⟨g.os.trans hb.os, g.tape.trans hb.tape, g.output.trans hb.output, Nat.le_trans hb.size g.size, fun q hq => (g.block q (Nat.lt_of_lt_of_le hq hb.size) (fun e => by have : q = k := Option.some.inj e; omega)).trans (hb.block q hq)⟩
/-- the copy in block T holds the n places xs, and the rest is as it was -/
def OutAt (w wr : World) (T ct n : Nat) (xs : List Bool) : Prop :=
  xs.length = n ∧ Below w.heap.size w wr ∧ w.heap.size ≤ T ∧ wr.ownsRow 0 4 1 (.slice (some ⟨T, 0, none⟩) n ct) n (xs.map Value.bool)
theorem OutAt.bls {w wr : World} {T ct n : Nat} {xs : List Bool} (h : OutAt w wr T ct n xs) : Bls wr (.slice (some ⟨T, 0, none⟩) n ct) xs := by
  unfold Bls; rw [h.1]; exact h.2.2.2
theorem OutAt.below {w wr wq : World} {T ct n : Nat} {xs : List Bool} (h : OutAt w wr T ct n xs) (b : Below wr.heap.size wr wq) : OutAt w wq T ct n xs :=
  ⟨h.1, h.2.1.trans (b.mono h.2.1.size), h.2.2.1, h.2.2.2.kept (row := none) ⟨b.os, b.tape, b.output, b.size, fun k hk _ => b.block k hk⟩ (by simp [Value.ownBlock])⟩
theorem OutAt.join {w wr : World} {T ct n : Nat} {xs : List Bool} (h : OutAt w wr T ct n xs) (lv : Value) (b : List Bool) (hb : Bls wr lv b) (hne : lv.ownBlock ≠ some T) (hl : xs.length = b.length) (hlen : xs.length ≤ 4000000) :
    Calls Tryd.prog 92 #[.slice (some ⟨T, 0, none⟩) n ct, lv] wr fun e w' => e = .returned (.bool (decide (orF xs b ≠ xs))) ∧ OutAt w w' T ct n (orF xs b) := by
  obtain ⟨rfl, h1, h2, h3⟩ := h
  refine (join_any T ct lv xs b wr h3 hb hne hl hlen).mono fun e w' hj => ⟨hj.1, orF_length hl, below_grown h1 hj.2.2 h2, h2, hj.2.1⟩
theorem OutAt.post {w wr : World} {T ct n : Nat} {xs : List Bool} {fv : Value} (h : OutAt w wr T ct n xs) : EndsPost true w fv xs (.returned (.slice (some ⟨T, 0, none⟩) n ct)) wr :=
  ⟨_, rfl, h.bls, Or.inr fun k hk => by have : T = k := Option.some.inj hk; have := h.2.2.1; omega, h.2.1⟩

set_option maxRecDepth 100000 in
set_option maxHeartbeats 4000000 in
theorem den_again (F : Nat → Prop) (b : Nat) (w0 : World) (xb : Nat) (f : Fi) (pv : Value) (sg : Int) (hF : ∀ k, F k → k < w0.heap.size) (hFb : F b) (hFp : ∀ k, pv.ownBlock = some k → F k)
    (hp0 : PartAt w0 b 3 pv sg) (hps : Parts true F w0 pv [(xb, f)]) : Den true F w0 b (oftenF f sg) := by
  intro w hsz hw l lv v fv hl hv hvl hll
  have hp : PartAt w b 3 pv sg := by obtain ⟨sv, but, pl, hb⟩ := hp0; exact ⟨sv, but, pl, (hw b hFb).trans hb⟩
  have hrow := row_moved hps.row (fun k hk => hw k (hFp k hk))
  obtain ⟨k0, k4, k5⟩ := hp.cells
  have l5 := World.block_lt_of_cell? w _ k5
  have DEN : Hid (∀ wr, Below w.heap.size w wr → ∀ (fk : Value) (x : List Bool), Bls wr fk x → x.length = l.length + 1 → Calls Tryd.prog 81 #[.pointer (some ⟨xb, 0, none⟩), lv, fk] wr (EndsPost true wr fk (f l x))) := fun wr hb fk x hx hxl =>
    hps.den (xb, f) (by simp) wr (Nat.le_trans hsz hb.size) (fun k hk => (hb.block k (Nat.lt_of_lt_of_le (hF k hk) hsz)).trans (hw k hk)) l lv x fk (hl.below hb) hx hxl hll
  have LEN : Hid (∀ x : List Bool, x.length = l.length + 1 → (f l x).length = l.length + 1) := fun x hx => hps.len (xb, f) (by simp) l x hx
  have HV := Lib.hid hv
  have VL := Lib.hid hvl
  have K5 : Hid (∀ wr, Below w.heap.size w wr → wr.cell? ⟨b, 5, none⟩ = some (.int .i32 sg)) := fun wr hb => (hb.cell (p := ⟨b, 5, none⟩) l5).trans k5
  have K4 : Hid (∀ wr, Below w.heap.size w wr → wr.cell? ⟨b, 4, none⟩ = some pv) := fun wr hb => (hb.cell (p := ⟨b, 4, none⟩) l5).trans k4
  obtain ⟨g, cap, rfl, hcap⟩ : ∃ g c, pv = .slice (some ⟨g, 0, none⟩) 1 c ∧ 1 ≤ c := by
    rcases row_kinds hrow with ⟨_, hn⟩ | h
    · cases hn
    · exact h
  have cp : w.cell? ⟨g, 0, none⟩ = some (.pointer (some ⟨xb, 0, none⟩)) := (row_cell hrow rfl).2.2 0 _ rfl
  have lgf : ∀ k, fv.ownBlock = some k → k < w.heap.size := fun k hk => (hv.lt k hk).2
  have LF := Lib.hid lgf
  clear hps hp hp0 hv hvl hl hw hF hFb hFp hrow k5 lgf
  have OFT : Hid (Calls Tryd.prog 93 #[.pointer (some ⟨b, 0, none⟩), lv, fv] w (EndsPost true w fv (oftenF f sg l v))) := by
    show Calls _ _ _ _ _
    have k4 := K4.out w (Below.refl _ _)
    clear k0
    go_enter Tryd.func93, Tryd.ntmps93
    go_wp2_with fail
    refine (DEN.out w (Below.refl _ _) fv v HV.out VL.out).mono ?_
    rintro e w1 ⟨rv, rfl, hrv, hfr, hb1⟩
    have LO := Lib.hid (LEN.out v VL.out)
    obtain ⟨go, co, rfl, hco⟩ : ∃ g c, rv = .slice (some ⟨g, 0, none⟩) (f l v).length c ∧ (f l v).length ≤ c := by
      rcases row_kinds hrv with ⟨_, hn⟩ | h
      · have := LO.out; omega
      · exact h
    have CLO : Hid (Calls Tryd.prog 101 #[.slice (some ⟨go, 0, none⟩) (f l v).length co] w1 fun e w2 => ∃ T ct, e = .returned (.slice (some ⟨T, 0, none⟩) (f l v).length ct) ∧ OutAt w w2 T ct (f l v).length (f l v)) := by
      obtain ⟨i0, hi, hz0, hz1, hz2⟩ := info_parts infoBo
      refine (Tryd.slices_Clone i0 (.bool false) 1 1 hi hz0 hz1 hz2 rfl (by decide) (fun _ => by kernel_rfl) go 0 (f l v).length co ((f l v).map Value.bool) w1 (by simp) (by have := LO.out; unfold maxLen; omega) (by have := LO.out; omega) (fun j u hj => ?_) (fun u hu => ?_)).mono ?_
      · rw [Nat.zero_add]; exact (row_cell hrv rfl).2.2 j u hj
      · obtain ⟨x, _, rfl⟩ := List.mem_map.1 hu; rfl
      · rintro e w2 ⟨v', rfl, ho, hn, hb2⟩
        rcases row_kinds ho with ⟨h1, _⟩ | ⟨T, ct, rfl, _⟩
        · exact absurd h1 hn
        · refine ⟨T, ct, rfl, rfl, hb1.trans (hb2.mono hb1.size), Nat.le_trans hb1.size (ho.lt T rfl).1, ho.1, ?_⟩
          rcases ho.2 with ⟨h1, _⟩ | ⟨g', c', cur, h1, h2, h3⟩
          · cases h1
          · cases h1
            exact Or.inr ⟨T, ct, cur, rfl, Nat.zero_le _, h3⟩
    clear hrv hfr hb1 cp k4
    go_wp2_with fail
    refine CLO.out.mono ?_
    rintro e w2 ⟨T, ct, rfl, ho⟩
    have HO := Lib.hid ho
    have k5 := K5.out w2 ho.2.1
    have TF : Hid (fv.ownBlock ≠ some T) := fun e => by have := LF.out _ e; have := ho.2.2.1; omega
    clear ho CLO
    go_upto_if 26 with fail
    go_cut [] (fun wx => Hid (OutAt w wx T ct (f l v).length (if sg = 43 then f l v else orF (f l v) v)))
    case first =>
      by_cases h43 : sg = 43
      · have e1 : Hid ((if sg = 43 then f l v else orF (f l v) v) = f l v) := if_pos h43
        have h43b : (sg != 43) = false := by simp [h43]
        clear h43
        go_wp2_with fail
        go_meet
        case rel => show OutAt _ _ _ _ _ _; rw [e1.out]; exact HO.out
      · have e1 : Hid ((if sg = 43 then f l v else orF (f l v) v) = orF (f l v) v) := if_neg h43
        have h43b : (sg != 43) = true := by simp [h43]
        have J := Lib.hid (HO.out.join fv v (HV.out.below HO.out.2.1) TF.out (by rw [LO.out, VL.out]) (by rw [LO.out]; omega))
        clear h43
        go_wp2_with fail
        refine J.out.mono ?_
        rintro e w3 ⟨rfl, h3⟩
        have H3 := Lib.hid h3
        clear h3 J
        go_wp2_with fail
        go_meet
        case rel => show OutAt _ _ _ _ _ _; rw [e1.out]; exact H3.out
    case rest =>
      have OL : Hid ((if sg = 43 then f l v else orF (f l v) v).length = l.length + 1) := by
        show _ = _
        split
        · exact LO.out
        · rw [orF_length (by rw [LO.out, VL.out]), LO.out]
      have EO : Hid (oftenF f sg l v = if sg = 63 then (if sg = 43 then f l v else orF (f l v) v) else clos (f l) (v.length + 1) (if sg = 43 then f l v else orF (f l v) v)) := rfl
      generalize (if sg = 43 then f l v else orF (f l v) v) = out at hcut OL EO
      clear HO k5
      have k5 := K5.out _ hcut.out.2.1
      by_cases h63 : sg = 63
      · have h63b : (sg == 63) = true := by simp [h63]
        have E : Hid (oftenF f sg l v = out) := by show _ = _; rw [EO.out, if_pos h63]
        clear h63
        go_wp2_with fail
        go_ret
        rw [E.out]
        exact hcut.out.post
      · have h63b : (sg == 63) = false := by simp [h63]
        have E : Hid (oftenF f sg l v = clos (f l) (v.length + 1) out) := by show _ = _; rw [EO.out, if_neg h63]
        have C0 : Hid (v.length < cnt out + (v.length + 1)) := by show _ < _; omega
        clear h63 EO
        go_wp2_with fail
        clear k5
        go_loopg [] (v.length + 1) (fun gk wr => ∃ xs, Hid (OutAt w wr T ct (f l v).length xs) ∧ Hid (clos (f l) (v.length + 1) out = clos (f l) gk xs) ∧ Hid (v.length < cnt xs + gk) ∧ Hid (xs.length = l.length + 1))
        case atStart => exact ⟨out, hcut, rfl, C0, OL⟩
        case round =>
          obtain ⟨xs, HX, HC, HN, HL⟩ := hrel
          clear C0 hcut OL
          cases gk with
          | zero =>
            have h1 := HN.out
            have h2 := cnt_le xs
            have h3 := HL.out
            have h4 := VL.out
            omega
          | succ m =>
            have D := Lib.hid (DEN.out _ HX.out.2.1 _ xs HX.out.bls HL.out)
            have FX := Lib.hid (LEN.out xs HL.out)
            go_wp2_with fail
            refine D.out.mono ?_
            rintro e w3 ⟨rv, rfl, hrv, hfr, hb3⟩
            have hne : rv.ownBlock ≠ some T := by
              intro e
              rcases hfr with ⟨h1, _⟩ | h1
              · cases h1
              · have := h1 _ e
                have := (HX.out.2.2.2.lt T rfl).2
                omega
            have J := Lib.hid ((HX.out.below hb3).join rv (f l xs) hrv hne (by rw [HL.out, FX.out]) (by rw [HL.out]; omega))
            clear hrv hfr hb3 hne D
            go_wp2_with fail
            refine J.out.mono ?_
            rintro e w4 ⟨rfl, h4⟩
            have H4 := Lib.hid h4
            clear h4 J
            by_cases hs : orF xs (f l xs) = xs
            · have hd : decide (orF xs (f l xs) ≠ xs) = false := by simp [hs]
              have E2 : Hid (clos (f l) (m + 1) xs = xs) := by show _ = _; unfold clos; rw [if_pos hs]
              have E3 : Hid (orF xs (f l xs) = xs) := hs
              rw [hd]
              clear hs hd
              go_wp2_with fail
              go_ret
              rw [E.out, HC.out, E2.out]
              have h5 := H4.out
              rw [E3.out] at h5
              exact h5.post
            · have hd : decide (orF xs (f l xs) ≠ xs) = true := by simp [hs]
              have E2 : Hid (clos (f l) (m + 1) xs = clos (f l) m (orF xs (f l xs))) := by show _ = _; rw [clos]; rw [if_neg hs]
              have hll2 : xs.length = (f l xs).length := by rw [HL.out, FX.out]
              have CN : Hid (cnt xs < cnt (orF xs (f l xs))) := cnt_lt (by rw [orF_length hll2]) (sub_or_left hll2) (fun e => hs e.symm)
              have OL2 : Hid ((orF xs (f l xs)).length = l.length + 1) := by show _ = _; rw [orF_length hll2, HL.out]
              rw [hd]
              clear hs hd hll2
              go_wp2_with fail
              go_roundg m
              case measure => omega
              case rel => exact ⟨_, H4, by show _ = _; rw [HC.out, E2.out], by show _ < _; have := HN.out; have := CN.out; omega, OL2⟩
  clear cp K4
  go_enter Tryd.func81, Tryd.ntmps81
  go_wp2_with fail
  refine OFT.out.mono ?_
  rintro e w1 h1
  obtain ⟨rv, rfl, h2⟩ := id h1
  have H1 := Lib.hid h1
  clear h1 h2
  go_wp2_with fail
  go_ret
  exact H1.out
end Go.Proofs.YthlabaijaadocaaDoor
