import Derived.Test.YthlabaijaadocaaDoorXA3
import Derived.Maps.AppendAt
/-! What a part's matches lead to: a part that comes again. -/
namespace Go.Proofs.YthlabaijaadocaaDoor
open Go.RowKit Ut Rx

theorem below_grown {w wa wb : World} {k : Nat} (hb : Below w.heap.size w wa) (g : wa.grownBy wb (some k)) (hk : w.heap.size ≤ k) : Below w.heap.size w wb :=
  ⟨g.os.trans hb.os, g.tape.trans hb.tape, g.output.trans hb.output, Nat.le_trans hb.size g.size, fun q hq => (g.block q (Nat.lt_of_lt_of_le hq hb.size) (fun e => by have : q = k := Option.some.inj e; omega)).trans (hb.block q hq)⟩
/-- the copy in block T holds the n places xs, and the rest is as it was -/
def OutAt (w wr : World) (T ct n : Nat) (xs : List Bool) : Prop :=
  xs.length = n ∧ Below w.heap.size w wr ∧ w.heap.size ≤ T ∧ wr.ownsRow 0 4 1 (.slice (some ⟨T, 0, none⟩) n ct) n (xs.map Value.bool)
theorem OutAt.bls {w wr : World} {T ct n : Nat} {xs : List Bool} (h : OutAt w wr T ct n xs) : Bls wr (.slice (some ⟨T, 0, none⟩) n ct) xs := by
  unfold Bls; rw [h.1]; exact h.2.2.2
theorem OutAt.below {w wr wq : World} {T ct n : Nat} {xs : List Bool} (h : OutAt w wr T ct n xs) (b : Below wr.heap.size wr wq) : OutAt w wq T ct n xs :=
  ⟨h.1, h.2.1.trans (b.mono h.2.1.size), h.2.2.1, h.2.2.2.kept (row := none) ⟨b.os, b.tape, b.output, b.size, fun k hk _ => b.block k hk⟩ (by simp [Value.ownBlock])⟩
theorem OutAt.join {w wr : World} {T ct n : Nat} {xs : List Bool} (h : OutAt w wr T ct n xs) (lv : Value) (b : List Bool) (hb : Bls wr lv b) (hne : lv.ownBlock ≠ some T) (hl : xs.length = b.length) (hlen : xs.length ≤ 4000000) :
    Calls Tryd.prog 92 #[.slice (some ⟨T, 0, none⟩) n ct, lv] wr fun e w' => e = .returned (.bool (decide (orF xs b ≠ xs))) ∧ OutAt w w' T ct n (orF xs b) := by
  obtain ⟨rfl, h1, h2, h3⟩ := h
  refine (join_any T ct lv xs b wr h3 hb hne hl hlen).mono fun e w' hj => ⟨hj.1, orF_length hl, below_grown h1 hj.2.2 h2, h2, hj.2.1⟩
theorem OutAt.post {w wr : World} {T ct n : Nat} {xs : List Bool} {fv : Value} (h : OutAt w wr T ct n xs) : EndsPost true w fv xs (.returned (.slice (some ⟨T, 0, none⟩) n ct)) wr :=
  ⟨_, rfl, h.bls, Or.inr fun k hk => by have : T = k := Option.some.inj hk; have := h.2.2.1; omega, h.2.1⟩

set_option maxRecDepth 100000 in
set_option maxHeartbeats 4000000 in
theorem den_again (F : Nat → Prop) (b : Nat) (w0 : World) (xb : Nat) (f : Fi) (pv : Value) (sg : Int) (hF : ∀ k, F k → k < w0.heap.size) (hFb : F b) (hFp : ∀ k, pv.ownBlock = some k → F k)
    (hp0 : PartAt w0 b 3 pv sg) (hps : Parts true F w0 pv [(xb, f)]) : Den true F w0 b (oftenF f sg) := by
  intro w hsz hw l lv v fv hl hv hvl hll
  have hp : PartAt w b 3 pv sg := by obtain ⟨sv, but, pl, hb⟩ := hp0; exact ⟨sv, but, pl, (hw b hFb).trans hb⟩
  have hrow := row_moved hps.row (fun k hk => hw k (hFp k hk))
  obtain ⟨k0, k4, k5⟩ := hp.cells
  have l5 := World.block_lt_of_cell? w _ k5
  have DEN : Hid (∀ wr, Below w.heap.size w wr → ∀ (fk : Value) (x : List Bool), Bls wr fk x → x.length = l.length + 1 → Calls Tryd.prog 81 #[.pointer (some ⟨xb, 0, none⟩), lv, fk] wr (EndsPost true wr fk (f l x))) := fun wr hb fk x hx hxl =>
    hps.den (xb, f) (by simp) wr (Nat.le_trans hsz hb.size) (fun k hk => (hb.block k (Nat.lt_of_lt_of_le (hF k hk) hsz)).trans (hw k hk)) l lv x fk (hl.below hb) hx hxl hll
  have LEN : Hid (∀ x : List Bool, x.length = l.length + 1 → (f l x).length = l.length + 1) := fun x hx => hps.len (xb, f) (by simp) l x hx
  have HV := Lib.hid hv
  have VL := Lib.hid hvl
  have K5 : Hid (∀ wr, Below w.heap.size w wr → wr.cell? ⟨b, 5, none⟩ = some (.int .i32 sg)) := fun wr hb => (hb.cell (p := ⟨b, 5, none⟩) l5).trans k5
  have K4 : Hid (∀ wr, Below w.heap.size w wr → wr.cell? ⟨b, 4, none⟩ = some pv) := fun wr hb => (hb.cell (p := ⟨b, 4, none⟩) l5).trans k4
  obtain ⟨g, cap, rfl, hcap⟩ : ∃ g c, pv = .slice (some ⟨g, 0, none⟩) 1 c ∧ 1 ≤ c := by
    rcases row_kinds hrow with ⟨_, hn⟩ | h
    · cases hn
    · exact h
  have cp : w.cell? ⟨g, 0, none⟩ = some (.pointer (some ⟨xb, 0, none⟩)) := (row_cell hrow rfl).2.2 0 _ rfl
  have lgf : ∀ k, fv.ownBlock = some k → k < w.heap.size := fun k hk => (hv.lt k hk).2
  have LF := Lib.hid lgf
  clear hps hp hp0 hv hvl hl hw hF hFb hFp hrow k5 lgf
  have OFT : Hid (Calls Tryd.prog 93 #[.pointer (some ⟨b, 0, none⟩), lv, fv] w (EndsPost true w fv (oftenF f sg l v))) := by
    show Calls _ _ _ _ _
    have k4 := K4.out w (Below.refl _ _)
    clear k0
    go_enter Tryd.func93, Tryd.ntmps93
    go_wp2_with fail
    refine (DEN.out w (Below.refl _ _) fv v HV.out VL.out).mono ?_
    rintro e w1 ⟨rv, rfl, hrv, hfr, hb1⟩
    have LO := Lib.hid (LEN.out v VL.out)
    obtain ⟨go, co, rfl, hco⟩ : ∃ g c, rv = .slice (some ⟨g, 0, none⟩) (f l v).length c ∧ (f l v).length ≤ c := by
      rcases row_kinds hrv with ⟨_, hn⟩ | h
      · have := LO.out; omega
      · exact h
    have CLO : Hid (Calls Tryd.prog 101 #[.slice (some ⟨go, 0, none⟩) (f l v).length co] w1 fun e w2 => ∃ T ct, e = .returned (.slice (some ⟨T, 0, none⟩) (f l v).length ct) ∧ OutAt w w2 T ct (f l v).length (f l v)) := by
      obtain ⟨i0, hi, hz0, hz1, hz2⟩ := info_parts infoBo
      refine (Tryd.slices_Clone i0 (.bool false) 1 1 hi hz0 hz1 hz2 rfl (by decide) (fun _ => by kernel_rfl) go 0 (f l v).length co ((f l v).map Value.bool) w1 (by simp) (by have := LO.out; unfold maxLen; omega) (by have := LO.out; omega) (fun j u hj => ?_) (fun u hu => ?_)).mono ?_
      · rw [Nat.zero_add]; exact (row_cell hrv rfl).2.2 j u hj
      · obtain ⟨x, _, rfl⟩ := List.mem_map.1 hu; rfl
      · rintro e w2 ⟨v', rfl, ho, hn, hb2⟩
        rcases row_kinds ho with ⟨h1, _⟩ | ⟨T, ct, rfl, _⟩
        · exact absurd h1 hn
        · refine ⟨T, ct, rfl, rfl, hb1.trans (hb2.mono hb1.size), Nat.le_trans hb1.size (ho.lt T rfl).1, ho.1, ?_⟩
          rcases ho.2 with ⟨h1, _⟩ | ⟨g', c', cur, h1, h2, h3⟩
          · cases h1
          · cases h1
            exact Or.inr ⟨T, ct, cur, rfl, Nat.zero_le _, h3⟩
    clear hrv hfr hb1 cp k4
    go_wp2_with fail
    refine CLO.out.mono ?_
    rintro e w2 ⟨T, ct, rfl, ho⟩
    have HO := Lib.hid ho
    have k5 := K5.out w2 ho.2.1
    have TF : Hid (fv.ownBlock ≠ some T) := fun e => by have := LF.out _ e; have := ho.2.2.1; omega
    clear ho CLO
    go_upto_if 26 with fail
    go_cut [] (fun wx => Hid (OutAt w wx T ct (f l v).length (if sg = 43 then f l v else orF (f l v) v)))
    case first =>
      by_cases h43 : sg = 43
      · have e1 : Hid ((if sg = 43 then f l v else orF (f l v) v) = f l v) := if_pos h43
        have h43b : (sg != 43) = false := by simp [h43]
        clear h43
        go_wp2_with fail
        go_meet
        case rel => show OutAt _ _ _ _ _ _; rw [e1.out]; exact HO.out
      · have e1 : Hid ((if sg = 43 then f l v else orF (f l v) v) = orF (f l v) v) := if_neg h43
        have h43b : (sg != 43) = true := by simp [h43]
        have J := Lib.hid (HO.out.join fv v (HV.out.below HO.out.2.1) TF.out (by rw [LO.out, VL.out]) (by rw [LO.out]; omega))
        clear h43
        go_wp2_with fail
        refine J.out.mono ?_
        rintro e w3 ⟨rfl, h3⟩
        have H3 := Lib.hid h3
        clear h3 J
        go_wp2_with fail
        go_meet
        case rel => show OutAt _ _ _ _ _ _; rw [e1.out]; exact H3.out
    case rest =>
      have OL : Hid ((if sg = 43 then f l v else orF (f l v) v).length = l.length + 1) := by
        show _ = _
        split
        · exact LO.out
        · rw [orF_length (by rw [LO.out, VL.out]), LO.out]
      have EO : Hid (oftenF f sg l v = if sg = 63 then (if sg = 43 then f l v else orF (f l v) v) else clos (f l) (v.length + 1) (if sg = 43 then f l v else orF (f l v) v)) := rfl
      generalize (if sg = 43 then f l v else orF (f l v) v) = out at hcut OL EO
      clear HO k5
      have k5 := K5.out _ hcut.out.2.1
      by_cases h63 : sg = 63
      · have h63b : (sg == 63) = true := by simp [h63]
        have E : Hid (oftenF f sg l v = out) := by show _ = _; rw [EO.out, if_pos h63]
        clear h63
        go_wp2_with fail
        go_ret
        rw [E.out]
        exact hcut.out.post
      · have h63b : (sg == 63) = false := by simp [h63]
        have E : Hid (oftenF f sg l v = clos (f l) (v.length + 1) out) := by show _ = _; rw [EO.out, if_neg h63]
        have C0 : Hid (v.length < cnt out + (v.length + 1)) := by show _ < _; omega
        clear h63 EO
        go_wp2_with fail
        clear k5
        go_loopg [] (v.length + 1) (fun gk wr => ∃ xs, Hid (OutAt w wr T ct (f l v).length xs) ∧ Hid (clos (f l) (v.length + 1) out = clos (f l) gk xs) ∧ Hid (v.length < cnt xs + gk) ∧ Hid (xs.length = l.length + 1))
        case atStart => exact ⟨out, hcut, rfl, C0, OL⟩
        case round =>
          obtain ⟨xs, HX, HC, HN, HL⟩ := hrel
          clear C0 hcut OL
          cases gk with
          | zero =>
            have h1 := HN.out
            have h2 := cnt_le xs
            have h3 := HL.out
            have h4 := VL.out
            omega
          | succ m =>
            have D := Lib.hid (DEN.out _ HX.out.2.1 _ xs HX.out.bls HL.out)
            have FX := Lib.hid (LEN.out xs HL.out)
            go_wp2_with fail
            refine D.out.mono ?_
            rintro e w3 ⟨rv, rfl, hrv, hfr, hb3⟩
            have hne : rv.ownBlock ≠ some T := by
              intro e
              rcases hfr with ⟨h1, _⟩ | h1
              · cases h1
              · have := h1 _ e
                have := (HX.out.2.2.2.lt T rfl).2
                omega
            have J := Lib.hid ((HX.out.below hb3).join rv (f l xs) hrv hne (by rw [HL.out, FX.out]) (by rw [HL.out]; omega))
            clear hrv hfr hb3 hne D
            go_wp2_with fail
            refine J.out.mono ?_
            rintro e w4 ⟨rfl, h4⟩
            have H4 := Lib.hid h4
            clear h4 J
            by_cases hs : orF xs (f l xs) = xs
            · have hd : decide (orF xs (f l xs) ≠ xs) = false := by simp [hs]
              have E2 : Hid (clos (f l) (m + 1) xs = xs) := by show _ = _; unfold clos; rw [if_pos hs]
              have E3 : Hid (orF xs (f l xs) = xs) := hs
              rw [hd]
              clear hs hd
              go_wp2_with fail
              go_ret
              rw [E.out, HC.out, E2.out]
              have h5 := H4.out
              rw [E3.out] at h5
              exact h5.post
            · have hd : decide (orF xs (f l xs) ≠ xs) = true := by simp [hs]
              have E2 : Hid (clos (f l) (m + 1) xs = clos (f l) m (orF xs (f l xs))) := by show _ = _; rw [clos]; rw [if_neg hs]
              have hll2 : xs.length = (f l xs).length := by rw [HL.out, FX.out]
              have CN : Hid (cnt xs < cnt (orF xs (f l xs))) := cnt_lt (by rw [orF_length hll2]) (sub_or_left hll2) (fun e => hs e.symm)
              have OL2 : Hid ((orF xs (f l xs)).length = l.length + 1) := by show _ = _; rw [orF_length hll2, HL.out]
              rw [hd]
              clear hs hd hll2
              go_wp2_with fail
              go_roundg m
              case measure => omega
              case rel => exact ⟨_, H4, by show _ = _; rw [HC.out, E2.out], by show _ < _; have := HN.out; have := CN.out; omega, OL2⟩
  clear cp K4
  go_enter Tryd.func81, Tryd.ntmps81
  go_wp2_with fail
  refine OFT.out.mono ?_
  rintro e w1 h1
  obtain ⟨rv, rfl, h2⟩ := id h1
  have H1 := Lib.hid h1
  clear h1 h2
  go_wp2_with fail
  go_ret
  exact H1.out
end Go.Proofs.YthlabaijaadocaaDoor

/-! Reading: what is read leads where the pattern's meaning says; groups; atoms. -/
namespace Go.Proofs.YthlabaijaadocaaDoor
open Go.RowKit Ut Rx

theorem Den.move {fr : Bool} {F G : Nat → Prop} {w w' : World} {b : Nat} {f : Fi} (h : Den fr F w b f) (hs : w.heap.size ≤ w'.heap.size) (hk : ∀ k, F k → w'.heap[k]? = w.heap[k]?) (hg : ∀ k, F k → G k) : Den fr G w' b f :=
  fun w'' h1 h2 => h w'' (Nat.le_trans hs h1) (fun k hf => (h2 k (hg k hf)).trans (hk k hf))
theorem Den.congr {fr : Bool} {F : Nat → Prop} {w : World} {b : Nat} {f g : Fi} (h : Den fr F w b f) (e : ∀ l v, v.length = l.length + 1 → f l v = g l v) : Den fr F w b g :=
  fun w' h1 h2 l lv v fv hl hv hvl hll => by rw [← e l v hvl]; exact h w' h1 h2 l lv v fv hl hv hvl hll
theorem Den.weak {F : Nat → Prop} {w : World} {b : Nat} {f : Fi} (h : Den true F w b f) : Den false F w b f :=
  fun w' h1 h2 l lv v fv hl hv hvl hll => (h w' h1 h2 l lv v fv hl hv hvl hll).mono fun e w'' ⟨rv, e1, e2, e3, e4⟩ => ⟨rv, e1, e2, by rcases e3 with ⟨e5, _⟩ | e5; cases e5; exact Or.inr e5, e4⟩
theorem den_keeps (p : Pat) : Keeps (den p) := fun l v hv => (den_lin l p).len v hv

/-- a part that is one of spans, its blocks from base on -/
theorem den_one (base : Nat) (b : Nat) (w : World) (sp : List Span) (but : Bool) (v : Value) (pl : Bool) (pv : Value) (sg : Int) (hlen : sp.length ≤ 4000000) (hb : base ≤ b)
    (hp : w.heap[b]? = some (.cells #[.int .i64 0, v, .bool but, .bool pl, pv, .int .i32 sg] 108 (0, 0))) (ho : w.ownsRow base 149 2 v sp.length (spC sp)) :
    Den true (fun k => base ≤ k ∧ k < w.heap.size) w b (oneF sp but) := by
  intro w' hs hw l lv x fv hl hv hvl hll
  have h1 := (Array.getElem?_eq_some_iff.1 hp).1
  refine ends_one b sp but w' ⟨v, pl, pv, sg, (hw b ⟨hb, h1⟩).trans hp, ?_⟩ hlen l lv x fv hl hv hvl hll
  have := row_moved ho (w' := w') (fun k hk => hw k (ho.lt k hk))
  refine ⟨this.1, ?_⟩
  rcases this.2 with h | ⟨g, cap, cur, e1, e2, e3⟩
  · exact Or.inl h
  · exact Or.inr ⟨g, cap, cur, e1, Nat.zero_le _, e3⟩

def ParPost (fr : Bool) (w : World) (r : Nat) (s : ByteArray) (d : Nat) (res : Out) (e : Ending) (w' : World) : Prop :=
  w.grownBy w' (some r) ∧ match res with
  | .error er => Bad er e
  | .ok (p, t) => ∃ b z', e = .returned (.pointer (some ⟨b, 0, none⟩)) ∧ At w' r s t d z' ∧ Den fr (fun k => w.heap.size ≤ k ∧ k < w'.heap.size) w' b (den p)

theorem At.deep {w : World} {r : Nat} {s : ByteArray} {l : List Int} {d z : Int} (h : At w r s l d z) (x : Int) : At (w.setCell ⟨r, 2, none⟩ (.int .i64 x)) r s l x z := by
  obtain ⟨p, h, hp⟩ := h
  refine ⟨p, ⟨?_, ?_, ?_, ?_, ?_, ?_⟩, hp⟩
  · rw [World.cell?_setCell_other _ _ _ _ (by simp)]; exact h.s
  · rw [World.cell?_setCell_other _ _ _ _ (by simp)]; exact h.p
  · exact World.cell?_setCell_same _ _ _ h.d
  · rw [World.cell?_setCell_other _ _ _ _ (by simp)]; exact h.z
  · intro j
    rw [World.frozen?_setCell]; exact h.free j
  · rw [World.size_setCell]; exact h.lt
theorem At.cells {w : World} {r : Nat} {s : ByteArray} {l : List Int} {d z : Int} (h : At w r s l d z) : w.cell? ⟨r, 2, none⟩ = some (.int .i64 d) ∧ w.cell? ⟨r, 3, none⟩ = some (.int .i64 z) ∧ ∀ j, w.frozen? ⟨r, j, none⟩ = false := by
  obtain ⟨p, h, hp⟩ := h
  exact ⟨h.d, h.z, h.free⟩

/-- the contract of the function that reads a pattern, at a number of rounds -/
def CPat (n : Nat) : Prop := ∀ (d : Nat) (l : List Int) (res : Out), parF n .pat d l = some res → ∀ (r : Nat) (s : ByteArray) (z : Int) (w : World), At w r s l d z → 2 ≤ r → Lib.Utf8Tabs 0 1 w → s.size ≤ 256 → d ≤ 20 →
  Calls Tryd.prog 54 #[.pointer (some ⟨r, 0, none⟩)] w (ParPost true w r s d res)
def CBra (n : Nat) : Prop := ∀ (d : Nat) (l : List Int) (res : Out), parF n (.bra .nil) d l = some res → ∀ (r : Nat) (s : ByteArray) (z : Int) (w : World), At w r s l d z → 2 ≤ r → Lib.Utf8Tabs 0 1 w → s.size ≤ 256 → d ≤ 20 →
  Calls Tryd.prog 70 #[.pointer (some ⟨r, 0, none⟩)] w (ParPost false w r s d res)
def CAtom (n : Nat) : Prop := ∀ (d : Nat) (l : List Int) (res : Out), parF n .atom d l = some res → pk l ≥ 0 → ∀ (r : Nat) (s : ByteArray) (z : Int) (w : World), At w r s l d z → 2 ≤ r → Lib.Utf8Tabs 0 1 w → s.size ≤ 256 → d ≤ 20 →
  Calls Tryd.prog 84 #[.pointer (some ⟨r, 0, none⟩)] w (ParPost true w r s d res)
/-- what `group` comes to -/
def grpF (n : Nat) (d : Nat) (t : List Int) : Option Out :=
  if d ≥ 20 then some (.error 60) else thenF (parF n .pat (d + 1) t) fun p l => if pk l == 41 then some (.ok (p, l.tail)) else some (.error 8)

theorem ParPost.after {fr : Bool} {w w1 w2 : World} {r : Nat} {s : ByteArray} {d : Nat} {res : Out} {e : Ending} (g : w.grownBy w1 (some r)) (h : ParPost fr w1 r s d res e w2) : ParPost fr w r s d res e w2 := by
  refine ⟨grown_trans g h.1, ?_⟩
  have h2 := h.2
  cases res with
  | error er => exact h2
  | ok x =>
    obtain ⟨b, z', e1, e2, e3⟩ := h2
    exact ⟨b, z', e1, e2, e3.move (Nat.le_refl _) (fun _ _ => rfl) (fun k hk => ⟨Nat.le_trans g.size hk.1, hk.2⟩)⟩

set_option maxRecDepth 100000 in
set_option maxHeartbeats 2000000 in
theorem group_of (n : Nat) (ih : CPat n) (d : Nat) (t : List Int) (res : Out) (hres : grpF n d t = some res) (r : Nat) (s : ByteArray) (z : Int) (w : World) (h : At w r s (40 :: t) d z) (hr : 2 ≤ r) (hT : Lib.Utf8Tabs 0 1 w) (hs : s.size ≤ 256) (hd : d ≤ 20) :
    Calls Tryd.prog 95 #[.pointer (some ⟨r, 0, none⟩)] w (ParPost true w r s d res) := by
  have lt := h.lt
  obtain ⟨kd, _, kf⟩ := h.cells
  have H := Lib.hid h
  have HT := Lib.hid hT
  clear hT h
  by_cases h20 : d ≥ 20
  · have E : Hid (res = .error 60) := by
      unfold grpF at hres
      rw [if_pos h20] at hres
      exact (Option.some.inj hres).symm
    have h20i : (20 : Int) ≤ d := by omega
    clear hres kf
    go_enter Tryd.func95, Tryd.ntmps95
    go_wp2_with fail
    refine (bad_at r s (40 :: t) d z 60 w H.out).mono ?_
    rintro e w3 ⟨⟨at_, rfl⟩, rfl⟩
    rw [E.out]
    exact ⟨rfl, grown_refl _ _, ⟨_, rfl⟩⟩
  · have h20i : ¬ (20 : Int) ≤ d := by omega
    have hd0 : (0 : Int) ≤ d := by omega
    have R : Hid (thenF (parF n .pat (d + 1) t) (fun p l => if pk l == 41 then some (.ok (p, l.tail)) else some (.error 8)) = some res) := by
      unfold grpF at hres
      rw [if_neg h20] at hres
      exact hres
    clear hres kf
    go_enter Tryd.func95, Tryd.ntmps95
    go_wp2_with fail
    refine (skip_any r s 40 t d z w H.out hs).mono ?_
    rintro e w1 ⟨rfl, h1, g1⟩
    have k1 := h1.cells.1
    have f1 := h1.cells.2.2 2
    have H2 : Hid (At (w1.setCell ⟨r, 2, none⟩ (.int .i64 ((d : Int) + 1))) r s t ((d + 1 : Nat) : Int) z) := h1.deep _
    have G2 : Hid (w.grownBy (w1.setCell ⟨r, 2, none⟩ (.int .i64 ((d : Int) + 1))) (some r)) := grown_trans g1 (grown_setCell _ _ _ _)
    have HT2 := Lib.hid (tabs_grown HT.out hr G2.out)
    clear h1 g1 H
    go_wp2_with fail
    generalize (w1.setCell ⟨r, 2, none⟩ (.int .i64 ((d : Int) + 1))) = w2 at *
    cases hp : parF n .pat (d + 1) t with
    | none => exact absurd R.out (by rw [hp]; simp [thenF])
    | some rp =>
      have IH := Lib.hid (ih (d + 1) t rp hp r s z w2 H2.out hr HT2.out hs (by omega))
      refine IH.out.mono ?_
      rintro e w3 ⟨g3, h3⟩
      have R2 := R.out
      rw [hp] at R2
      clear R IH hp
      cases rp with
      | error er =>
        obtain ⟨at_, rfl⟩ := h3
        have E : res = .error er := (Option.some.inj R2).symm
        rw [E]
        exact ⟨rfl, grown_trans G2.out g3, ⟨_, rfl⟩⟩
      | ok x =>
        obtain ⟨p, u⟩ := x
        obtain ⟨b, z', rfl, hat, hden⟩ := h3
        have R3 : Hid ((if pk u == 41 then some (.ok (p, u.tail)) else some (.error 8) : Option Out) = some res) := R2
        have HA := Lib.hid hat
        have HD := Lib.hid hden
        have G3 := Lib.hid (grown_trans G2.out g3)
        have HT3 := Lib.hid (tabs_grown HT2.out hr g3)
        have LW : Hid (w.heap.size ≤ w2.heap.size) := G2.out.size
        clear hat hden g3 R2 G2 HT2 H2
        go_wp2_with fail
        refine (peek_at r s u _ z' w3 HA.out HT3.out).mono ?_
        rintro e w4 ⟨rfl, hb4⟩
        have HA4 := Lib.hid (HA.out.below hb4)
        have G4 := Lib.hid (grown_then G3.out hb4)
        have HB4 := Lib.hid hb4
        clear hb4
        by_cases h41 : pk u = 41
        · obtain ⟨v, rfl⟩ : ∃ v, u = 41 :: v := by
            cases u with
            | nil => cases h41
            | cons c v => exact ⟨v, by have : c = 41 := h41; rw [this]⟩
          have E : Hid (res = .ok (p, v)) := (Option.some.inj (show (some (.ok (p, v)) : Option Out) = some res from R3.out)).symm
          have hp41 : pk (41 :: v) = 41 := rfl
          rw [hp41]
          clear h41 R3 hp41
          go_wp2_with fail
          refine (skip_any r s 41 v _ z' w4 HA4.out hs).mono ?_
          rintro e w5 ⟨rfl, h5, g5⟩
          have k5 := h5.cells.1
          have f5 := h5.cells.2.2 2
          have hc : ((d + 1 : Nat) : Int) = (d : Int) + 1 := by omega
          rw [hc] at k5
          have H6 : Hid (At (w5.setCell ⟨r, 2, none⟩ (.int .i64 (d : Int))) r s v d z') := h5.deep _
          have G5 := Lib.hid g5
          have hdd : (d : Int) + 1 - 1 = d := by omega
          clear h5 g5 hc
          go_wp2_with fail
          go_ret
          rw [E.out]
          have g6 := grown_setCell w5 r 2 (.int .i64 (d : Int))
          have g35 : w3.grownBy (w5.setCell ⟨r, 2, none⟩ (.int .i64 (d : Int))) (some r) := grown_trans (grown_trans (grown_below HB4.out) G5.out) g6
          refine ⟨grown_trans (grown_trans G4.out G5.out) g6, b, z', rfl, H6.out, HD.out.move g35.size (fun k hk => ?_) (fun k hk => ⟨Nat.le_trans LW.out hk.1, Nat.lt_of_lt_of_le hk.2 g35.size⟩)⟩
          exact g35.block k hk.2 (fun e => by have : k = r := Option.some.inj e; have := LW.out; omega)
        · have hn : (pk u != 41) = true := by simpa using h41
          have E : Hid (res = .error 8) := by
            have := R3.out
            rw [if_neg (by simpa using h41)] at this
            exact (Option.some.inj this).symm
          clear h41 R3
          go_wp2_with fail
          refine (bad_at r s u _ z' 8 w4 HA4.out).mono ?_
          rintro e w5 ⟨⟨at_, rfl⟩, rfl⟩
          rw [E.out]
          exact ⟨rfl, G4.out, ⟨_, rfl⟩⟩
end Go.Proofs.YthlabaijaadocaaDoor

/-! An atom, read. -/
namespace Go.Proofs.YthlabaijaadocaaDoor
open Go.RowKit Ut Rx

theorem itemF_len {l : List Int} {sp : List Span} {t : List Int} (h : itemF l = .ok (sp, t)) : sp.length ≤ 4 := by
  unfold itemF at h
  split at h
  · cases h
  · rename_i s' b t' hm
    split at h
    · split at h
      · cases h
      · cases h; simp
    · cases h; exact memF_len hm
theorem clsF_len : ∀ (n : Nat) (first : Bool) (acc : List Span) (l : List Int) (sp : List Span) (t : List Int), clsF n first acc l = some (.ok (sp, t)) → sp.length ≤ acc.length + 4 * n
  | 0, _, _, _, _, _, h => by cases h
  | n + 1, first, acc, l, sp, t, h => by
    unfold clsF at h
    split at h
    · split at h
      · cases h
      · rename_i s' t' hi
        have h1 := clsF_len n false (acc ++ s') t' sp t h
        have h2 := itemF_len hi
        rw [List.length_append] at h1
        omega
    · cases h; omega
theorem span_row {w : World} {base g : Nat} {sp : List Span} (hb : base ≤ g) (h : w.heap[g]? = some (.cells (spC sp).toArray 149 (0, 0))) (hl : sp.length ≤ 4000000) :
    w.ownsRow base 149 2 (.slice (some ⟨g, 0, none⟩) sp.length sp.length) sp.length (spC sp) := by
  refine ⟨spC_length sp, Or.inr ⟨g, sp.length, _, rfl, hb, h, Nat.le_refl _, by unfold maxLen; omega, by simp [spC_length], ?_⟩⟩
  rw [← spC_length, List.take_length]
/-- a part that was just made, its spans in a block of their own -/
theorem den_made {w wx : World} {sp : List Span} {g : Nat} {but pl : Bool} (hw : w.heap.size ≤ wx.heap.size) (hb : w.heap.size ≤ g) (h : wx.heap[g]? = some (.cells (spC sp).toArray 149 (0, 0))) (hl : sp.length ≤ 4000000) :
    Den true (fun k => w.heap.size ≤ k ∧ k < (wx.alloc (.cells #[.int .i64 0, .slice (some ⟨g, 0, none⟩) sp.length sp.length, .bool but, .bool pl, .slice none 0 0, .int .i32 0] 108)).heap.size)
      (wx.alloc (.cells #[.int .i64 0, .slice (some ⟨g, 0, none⟩) sp.length sp.length, .bool but, .bool pl, .slice none 0 0, .int .i32 0] 108)) wx.heap.size (oneF sp but) := by
  refine den_one w.heap.size wx.heap.size _ sp but _ pl _ 0 hl hw (heap_alloc_new wx _) ?_
  exact (span_row hb h hl).alloc _
theorem den_any {w wx : World} (hw : w.heap.size ≤ wx.heap.size) :
    Den true (fun k => w.heap.size ≤ k ∧ k < (wx.alloc (.cells #[.int .i64 0, .slice none 0 0, .bool true, .bool false, .slice none 0 0, .int .i32 0] 108)).heap.size)
      (wx.alloc (.cells #[.int .i64 0, .slice none 0 0, .bool true, .bool false, .slice none 0 0, .int .i32 0] 108)) wx.heap.size (oneF [] true) :=
  den_one w.heap.size wx.heap.size _ [] true _ false _ 0 (by simp) hw (heap_alloc_new wx _) (World.ownsRow_nil _ _ _ _)

set_option maxRecDepth 100000 in
set_option maxHeartbeats 4000000 in
theorem atom_of (n : Nat) (hn : n ≤ 900000) (ih : CPat n) : CAtom (n + 1) := by
  intro d l res hres hpos r s z w h hr hT hs hd
  obtain ⟨c, t, rfl⟩ : ∃ c t, l = c :: t := by
    cases l with
    | nil => exact absurd hpos (by simp [pk])
    | cons c t => exact ⟨c, t, rfl⟩
  have lt := h.lt
  have hp0 : pk (c :: t) = c := rfl
  have ht0 : (c :: t).tail = t := rfl
  have P := Lib.hid (peek_at r s (c :: t) d z w h hT)
  have H := Lib.hid h
  have HT := Lib.hid hT
  clear h hT hpos
  rw [parF, hp0, ht0] at hres
  by_cases h40 : c = 40
  · subst h40
    have R : Hid (grpF n d t = some res) := hres
    clear hres
    go_enter Tryd.func84, Tryd.ntmps84
    go_wp2_with fail
    refine P.out.mono ?_
    rintro e w1 ⟨rfl, hb1⟩
    rw [hp0]
    have H1 := Lib.hid (H.out.below hb1)
    have G1 : Hid (w.grownBy w1 (some r)) := grown_below hb1
    have HT1 := Lib.hid (tabs_below HT.out hb1)
    clear hb1 P H HT
    go_wp2_with fail
    refine (group_of n ih d t res R.out r s z w1 H1.out hr HT1.out hs hd).mono ?_
    rintro e w2 h2
    have HA := Lib.hid (h2.after G1.out)
    cases res with
    | error er =>
      obtain ⟨_, at_, rfl⟩ := id h2
      exact ⟨rfl, HA.out⟩
    | ok x =>
      obtain ⟨p, u⟩ := x
      obtain ⟨_, b, z', rfl, _⟩ := id h2
      clear h2 R
      go_wp2_with fail
      go_ret
      exact HA.out
  · have h40b : (c == 40) = false := by simpa using h40
    rw [if_neg (by simpa using h40)] at hres
    by_cases h91 : c = 91
    · subst h91
      rw [if_pos (show ((91 : Int) == 91) = true from rfl)] at hres
      cases hc : clsF n true [] (butF t) with
      | none => rw [hc] at hres; cases hres
      | some rc =>
        rw [hc] at hres
        have CC := Lib.hid hc
        have R := Lib.hid hres
        clear hres hc
        go_enter Tryd.func84, Tryd.ntmps84
        go_wp2_with fail
        refine P.out.mono ?_
        rintro e w1 ⟨rfl, hb1⟩
        rw [hp0]
        have H1 := Lib.hid (H.out.below hb1)
        have G1 : Hid (w.grownBy w1 (some r)) := grown_below hb1
        have HT1 := Lib.hid (tabs_below HT.out hb1)
        clear hb1 P H HT
        go_wp2_with fail
        refine (skip_any r s 91 t d z w1 H1.out hs).mono ?_
        rintro e w2 ⟨rfl, h2, g2⟩
        have H2 := Lib.hid h2
        have G2 := Lib.hid (grown_trans G1.out g2)
        have HT2 := Lib.hid (tabs_grown HT1.out hr g2)
        clear h2 g2 H1 G1 HT1
        go_wp2_with fail
        refine (class_any r s t d z w2 H2.out hr HT2.out hs n (by omega) rc CC.out).mono ?_
        rintro e w3 ⟨g3, h3⟩
        have R2 := R.out
        cases rc with
        | error er =>
          obtain ⟨at_, rfl⟩ := h3
          have E : res = .error er := (Option.some.inj R2).symm
          rw [E]
          exact ⟨rfl, grown_trans G2.out g3, ⟨_, rfl⟩⟩
        | ok x =>
          obtain ⟨sp, u⟩ := x
          obtain ⟨rfl, v, z', hcl⟩ := h3
          have E : Hid (res = .ok (.one sp (pk t == 94), u)) := (Option.some.inj R2).symm
          have LEN := clsF_len n true [] _ sp u CC.out
          have D : Hid (Den true (fun k => w.heap.size ≤ k ∧ k < w3.heap.size) w3 w2.heap.size (oneF sp (pk t == 94))) := by
            refine den_one w.heap.size w2.heap.size w3 sp _ v false _ 0 (by simp at LEN; omega) G2.out.size hcl.part ?_
            refine ⟨hcl.own.1, ?_⟩
            rcases hcl.own.2 with h1 | ⟨g, cap, cur, e1, e2, e3⟩
            · exact Or.inl h1
            · exact Or.inr ⟨g, cap, cur, e1, by have := G2.out.size; omega, e3⟩
          have HA := Lib.hid hcl.here
          have G3 := Lib.hid (grown_trans G2.out g3)
          clear hcl g3 R2 R CC LEN
          go_wp2_with fail
          go_ret
          rw [E.out]
          exact ⟨G3.out, _, z', rfl, HA.out, D.out⟩
    · have h91b : (c == 91) = false := by simpa using h91
      rw [if_neg (by simpa using h91)] at hres
      by_cases h46 : c = 46
      · subst h46
        rw [if_pos (show ((46 : Int) == 46) = true from rfl)] at hres
        have E : Hid (res = .ok (.one [] true, t)) := (Option.some.inj hres).symm
        clear hres
        go_enter Tryd.func84, Tryd.ntmps84
        go_wp2_with fail
        refine P.out.mono ?_
        rintro e w1 ⟨rfl, hb1⟩
        rw [hp0]
        have H1 := Lib.hid (H.out.below hb1)
        have G1 : Hid (w.grownBy w1 (some r)) := grown_below hb1
        have HT1 := Lib.hid (tabs_below HT.out hb1)
        clear hb1 P H HT
        go_wp2_with fail
        refine (skip_any r s 46 t d z w1 H1.out hs).mono ?_
        rintro e w2 ⟨rfl, h2, g2⟩
        have k2 := h2.cells.2.1
        have f2 := h2.cells.2.2 3
        have H2 := Lib.hid h2
        have G2 := Lib.hid (grown_trans G1.out g2)
        clear h2 g2 H1 G1 HT1
        go_wp2_with fail
        go_ret
        rw [E.out]
        generalize wrap64 (z + 1) = zz
        have e : (w2.setCell ⟨r, 3, none⟩ (.int .i64 zz)).heap.size = w2.heap.size := World.size_setCell _ _ _
        refine ⟨grown_alloc (grown_trans G2.out (grown_setCell _ _ _ _)) _, w2.heap.size, zz, rfl, (H2.out.size zz).below ((Below.refl _ _).alloc (Nat.le_refl _) _), ?_⟩
        have D := den_any (w := w) (wx := w2.setCell ⟨r, 3, none⟩ (.int .i64 zz)) (by rw [e]; exact G2.out.size)
        rw [e] at D
        exact D
      · have h46b : (c == 46) = false := by simpa using h46
        rw [if_neg (by simpa using h46)] at hres
        by_cases h92 : c = 92
        · subst h92
          rw [if_pos (show ((92 : Int) == 92) = true from rfl)] at hres
          have R := Lib.hid hres
          clear hres
          go_enter Tryd.func84, Tryd.ntmps84
          go_wp2_with fail
          refine P.out.mono ?_
          rintro e w1 ⟨rfl, hb1⟩
          rw [hp0]
          have H1 := Lib.hid (H.out.below hb1)
          have G1 : Hid (w.grownBy w1 (some r)) := grown_below hb1
          have HT1 := Lib.hid (tabs_below HT.out hb1)
          clear hb1 P H HT
          go_wp2_with fail
          refine (skip_any r s 92 t d z w1 H1.out hs).mono ?_
          rintro e w2 ⟨rfl, h2, g2⟩
          have H2 := Lib.hid h2
          have G2 := Lib.hid (grown_trans G1.out g2)
          have HT2 := Lib.hid (tabs_grown HT1.out hr g2)
          clear h2 g2 H1 G1 HT1
          go_wp2_with fail
          refine (escape_any r s t d z w2 H2.out HT2.out hs).mono ?_
          rintro e w3 ⟨g3, h3⟩
          have R2 := R.out
          cases he : escF t with
          | error er =>
            rw [he] at h3 R2
            obtain ⟨at_, rfl⟩ := h3
            have E : res = .error er := (Option.some.inj R2).symm
            rw [E]
            exact ⟨rfl, grown_trans G2.out g3, ⟨_, rfl⟩⟩
          | ok x =>
            obtain ⟨sp, single, u⟩ := x
            rw [he] at h3 R2
            obtain ⟨v, rfl, ⟨g, rfl, hg1, hg2⟩, hat⟩ := h3
            have E : Hid (res = .ok (.one sp false, u)) := (Option.some.inj R2).symm
            have LEN := Lib.hid (escF_len he)
            have k3 := hat.cells.2.1
            have f3 := hat.cells.2.2 3
            have HA := Lib.hid hat
            have SP := Lib.hid hg2
            have G3 := Lib.hid (grown_trans G2.out g3)
            have HG : Hid (w.heap.size ≤ g) := Nat.le_trans G2.out.size hg1
            have HR : Hid (g ≠ r) := by have := G2.out.size; show g ≠ r; omega
            clear hat g3 R2 R hg1 hg2 he
            go_wp2_with fail
            go_ret
            rw [E.out]
            generalize wrap64 (z + 1) = zz
            have e : (w3.setCell ⟨r, 3, none⟩ (.int .i64 zz)).heap.size = w3.heap.size := World.size_setCell _ _ _
            have hg : (w3.setCell ⟨r, 3, none⟩ (.int .i64 zz)).heap[g]? = some (.cells (spC sp).toArray 149 (0, 0)) := ((grown_setCell w3 r 3 (.int .i64 zz)).block g (Array.getElem?_eq_some_iff.1 SP.out).1 (fun e => HR.out (Option.some.inj e))).trans SP.out
            refine ⟨grown_alloc (grown_trans G3.out (grown_setCell _ _ _ _)) _, w3.heap.size, zz, rfl, (HA.out.size zz).below ((Below.refl _ _).alloc (Nat.le_refl _) _), ?_⟩
            have D := den_made (w := w) (wx := w3.setCell ⟨r, 3, none⟩ (.int .i64 zz)) (but := false) (pl := single) (by rw [e]; exact G3.out.size) HG.out hg (by have := LEN.out; omega)
            rw [e] at D
            exact D
        · have h92b : (c == 92) = false := by simpa using h92
          rw [if_neg (by simpa using h92)] at hres
          cases hsp : specB c with
          | true =>
            rw [hsp, if_pos rfl] at hres
            have E : Hid (res = .error 8) := (Option.some.inj hres).symm
            clear hres
            go_enter Tryd.func84, Tryd.ntmps84
            go_wp2_with fail
            refine P.out.mono ?_
            rintro e w1 ⟨rfl, hb1⟩
            rw [hp0]
            have H1 := Lib.hid (H.out.below hb1)
            have G1 : Hid (w.grownBy w1 (some r)) := grown_below hb1
            have HT1 := Lib.hid (tabs_below HT.out hb1)
            clear hb1 P H HT
            go_wp2_with fail
            refine (special_any c w1).mono ?_
            rintro e w2 ⟨rfl, hb2⟩
            rw [hsp]
            have H2 := Lib.hid (H1.out.below hb2)
            have G2 := Lib.hid (grown_then G1.out hb2)
            clear hb2 H1 G1 HT1
            go_wp2_with fail
            refine (bad_at r s (c :: t) d z 8 w2 H2.out).mono ?_
            rintro e w3 ⟨⟨at_, rfl⟩, rfl⟩
            rw [E.out]
            exact ⟨rfl, G2.out, ⟨_, rfl⟩⟩
          | false =>
            rw [hsp, if_neg (by simp)] at hres
            have E : Hid (res = .ok (.one [(c, c)] false, t)) := (Option.some.inj hres).symm
            clear hres
            go_enter Tryd.func84, Tryd.ntmps84
            go_wp2_with fail
            refine P.out.mono ?_
            rintro e w1 ⟨rfl, hb1⟩
            rw [hp0]
            have H1 := Lib.hid (H.out.below hb1)
            have G1 : Hid (w.grownBy w1 (some r)) := grown_below hb1
            have HT1 := Lib.hid (tabs_below HT.out hb1)
            clear hb1 P H HT
            go_wp2_with fail
            refine (special_any c w1).mono ?_
            rintro e w2 ⟨rfl, hb2⟩
            rw [hsp]
            have H2 := Lib.hid (H1.out.below hb2)
            have G2 := Lib.hid (grown_then G1.out hb2)
            clear hb2 H1 G1 HT1
            go_wp2_with fail
            refine (skip_any r s c t d z w2 H2.out hs).mono ?_
            rintro e w3 ⟨rfl, h3, g3⟩
            have k3 := h3.cells.2.1
            have f3 := h3.cells.2.2 3
            have H3 := Lib.hid h3
            have G3 := Lib.hid (grown_trans G2.out g3)
            clear h3 g3 H2 G2
            go_wp2_with fail
            go_ret
            rw [E.out]
            generalize wrap64 (z + 1) = zz
            have e : (w3.setCell ⟨r, 3, none⟩ (.int .i64 zz)).heap.size = w3.heap.size := World.size_setCell _ _ _
            have b7 : Below (w3.setCell ⟨r, 3, none⟩ (.int .i64 zz)).heap.size (w3.setCell ⟨r, 3, none⟩ (.int .i64 zz)) ((w3.setCell ⟨r, 3, none⟩ (.int .i64 zz)).alloc (.cells #[.int .i32 c, .int .i32 c] 149)) := (Below.refl _ _).alloc (Nat.le_refl _) _
            have hg : ((w3.setCell ⟨r, 3, none⟩ (.int .i64 zz)).alloc (.cells #[.int .i32 c, .int .i32 c] 149)).heap[w3.heap.size]? = some (.cells (spC [(c, c)]).toArray 149 (0, 0)) := by
              rw [← e]; exact heap_alloc_new _ _
            have e2 : ((w3.setCell ⟨r, 3, none⟩ (.int .i64 zz)).alloc (.cells #[.int .i32 c, .int .i32 c] 149)).heap.size = w3.heap.size + 1 := by simp
            refine ⟨grown_alloc (grown_alloc (grown_trans G3.out (grown_setCell _ _ _ _)) _) _, w3.heap.size + 1, zz, rfl, ((H3.out.size zz).below b7).below ((Below.refl _ _).alloc (Nat.le_refl _) _), ?_⟩
            have D := den_made (w := w) (wx := (w3.setCell ⟨r, 3, none⟩ (.int .i64 zz)).alloc (.cells #[.int .i32 c, .int .i32 c] 149)) (sp := [(c, c)]) (but := false) (pl := true) (by rw [e2]; have := G3.out.size; omega) G3.out.size hg (by simp)
            rw [e2] at D
            exact D
end Go.Proofs.YthlabaijaadocaaDoor

/-! Parts put together: their worlds. -/
namespace Go.Proofs.YthlabaijaadocaaDoor
open Go.RowKit Ut Rx

def ptrs (ps : List (Nat × Fi)) : List Value := ps.map fun p => .pointer (some ⟨p.1, 0, none⟩)
/-- the worlds of `branch`, `pattern`: w where it begins, wr now; the part is in block pb, its parts' slice is pv -/
structure Pa (kind : Int) (fr : Bool) (w wr : World) (pb r : Nat) (s : ByteArray) (d z : Int) (pv : Value) (ps : List (Nat × Fi)) (l : List Int) : Prop where
  here : At wr r s l d z
  grown : w.grownBy wr (some r)
  tabs : Lib.Utf8Tabs 0 1 wr
  lo : w.heap.size ≤ pb
  part : wr.heap[pb]? = some (.cells #[.int .i64 kind, .slice none 0 0, .bool false, .bool false, pv, .int .i32 0] 108 (0, 0))
  own : wr.ownsRow w.heap.size 83 1 pv ps.length (ptrs ps)
  apart : pv.ownBlock ≠ some pb
  den : ∃ F : Nat → Prop, (∀ k, F k → w.heap.size ≤ k ∧ k < wr.heap.size ∧ k ≠ pb ∧ some k ≠ pv.ownBlock) ∧ ∀ p ∈ ps, Den fr F wr p.1 p.2
  len : ∀ p ∈ ps, Keeps p.2

section
variable {kind : Int} {fr : Bool} {w wr w' : World} {pb r : Nat} {s : ByteArray} {d z z' : Int} {pv : Value} {ps : List (Nat × Fi)} {l l' : List Int}
theorem Pa.ltp (h : Pa kind fr w wr pb r s d z pv ps l) : pb < wr.heap.size := (Array.getElem?_eq_some_iff.1 h.part).1
theorem Pa.call (h : Pa kind fr w wr pb r s d z pv ps l) (hr : 2 ≤ r) (lt : r < w.heap.size) (g : wr.grownBy w' (some r)) (ha : At w' r s l' d z') : Pa kind fr w w' pb r s d z' pv ps l' := by
  have ne : ∀ k, w.heap.size ≤ k → some k ≠ some r := fun k hk e => by have : k = r := Option.some.inj e; omega
  refine ⟨ha, grown_trans h.grown g, tabs_grown h.tabs hr g, h.lo, (g.block _ h.ltp (ne _ h.lo)).trans h.part, ?_, h.apart, ?_, h.len⟩
  · refine h.own.kept g ?_
    cases hv : pv.ownBlock with
    | none => exact Or.inl rfl
    | some k => exact Or.inr (ne k (h.own.lt k hv).1)
  · obtain ⟨F, hF, hD⟩ := h.den
    refine ⟨F, fun k hk => ?_, fun p hp => (hD p hp).move g.size (fun k hk => g.block k (hF k hk).2.1 (ne k (hF k hk).1)) (fun _ h => h)⟩
    obtain ⟨a, b, c⟩ := hF k hk
    exact ⟨a, Nat.lt_of_lt_of_le b g.size, c⟩
theorem Pa.below (h : Pa kind fr w wr pb r s d z pv ps l) (hr : 2 ≤ r) (lt : r < w.heap.size) (b : Below wr.heap.size wr w') : Pa kind fr w w' pb r s d z pv ps l := h.call hr lt (grown_below b) (h.here.below b)
theorem Pa.cell (h : Pa kind fr w wr pb r s d z pv ps l) : wr.cell? ⟨pb, 4, none⟩ = some pv := by unfold World.cell?; rw [h.part]; rfl

/-- a part more to come -/
def More (fr : Bool) (w wr : World) (pb : Nat) (pv : Value) (nb : Nat) (f : Fi) : Prop :=
  ∃ G : Nat → Prop, (∀ k, G k → w.heap.size ≤ k ∧ k < wr.heap.size ∧ k ≠ pb ∧ some k ≠ pv.ownBlock) ∧ Den fr G wr nb f

theorem Pa.appended {w0 w1 : World} {nb : Nat} {f : Fi} {v' : Value} (h : Pa kind fr w wr pb r s d z pv ps l) (hr : 2 ≤ r) (lt : r < w.heap.size) (hm : More fr w wr pb pv nb f) (hk : Keeps f) (e0 : w0 = wr.alloc (.cells #[.pointer (some ⟨nb, 0, none⟩)] 83))
    (own : w1.ownsRow w.heap.size 83 1 v' (ps.length + 1) (ptrs ps ++ [.pointer (some ⟨nb, 0, none⟩)])) (g : w0.grownBy w1 pv.ownBlock) (at_ : v'.ownBlock = pv.ownBlock ∨ v'.ownBlock = some w0.heap.size) :
    w1.cell? ⟨pb, 4, none⟩ = some pv ∧ w1.frozen? ⟨pb, 4, none⟩ = false ∧ Pa kind fr w (w1.setCell ⟨pb, 4, none⟩ v') pb r s d z v' (ps ++ [(nb, f)]) l := by
  have h0 : wr.heap.size < w0.heap.size := by rw [e0]; simp
  have g1 : wr.grownBy w1 pv.ownBlock := by
    have b : Below wr.heap.size wr w0 := by rw [e0]; exact (Below.refl _ _).alloc (Nat.le_refl _) _
    exact grown_trans (grown_below b) g
  have hp1 : w1.heap[pb]? = _ := (g1.block _ h.ltp (fun e => h.apart e.symm)).trans h.part
  have hset : (w1.setCell ⟨pb, 4, none⟩ v').heap[pb]? = some (.cells #[.int .i64 kind, .slice none 0 0, .bool false, .bool false, v', .int .i32 0] 108 (0, 0)) := by
    unfold World.setCell
    simp only [Array.getElem?_modify, ↓reduceIte, hp1, Option.map_some]
    rfl
  have gs : w1.grownBy (w1.setCell ⟨pb, 4, none⟩ v') (some pb) := grown_setCell _ _ _ _
  have hv : v'.ownBlock ≠ some pb := by
    rcases at_ with e | e
    · rw [e]; exact h.apart
    · rw [e]; intro e2
      have : w0.heap.size = pb := Option.some.inj e2
      have := h.ltp; omega
  have rne : some r ≠ pv.ownBlock := fun e => by have := h.own.lt r e.symm; omega
  have keep : ∀ k, k < wr.heap.size → some k ≠ pv.ownBlock → k ≠ pb → (w1.setCell ⟨pb, 4, none⟩ v').heap[k]? = wr.heap[k]? := fun k h1 h2 h3 =>
    (gs.block k (Nat.lt_of_lt_of_le h1 g1.size) (fun e => h3 (Option.some.inj e))).trans (g1.block k h1 h2)
  have hlo := h.lo
  have hgs := h.grown.size
  refine ⟨by unfold World.cell?; rw [hp1]; rfl, by unfold World.frozen?; rw [hp1]; rfl, ?_, ?_, ?_, h.lo, hset, ?_, hv, ?_, ?_⟩
  · obtain ⟨p, hrd, hpos⟩ := h.here
    have kr := keep r hrd.lt rne (by omega)
    have kk : ∀ j, (w1.setCell ⟨pb, 4, none⟩ v').cell? ⟨r, j, none⟩ = wr.cell? ⟨r, j, none⟩ := fun j => World.cell?_of_block (a := ⟨r, j, none⟩) kr
    exact ⟨p, ⟨(kk 0).trans hrd.s, (kk 1).trans hrd.p, (kk 2).trans hrd.d, (kk 3).trans hrd.z, fun j => (World.frozen?_of_block (a := ⟨r, j, none⟩) kr).trans (hrd.free j), Nat.lt_of_lt_of_le hrd.lt (by rw [World.size_setCell]; exact g1.size)⟩, hpos⟩
  · refine ⟨g1.os.trans h.grown.os, g1.tape.trans h.grown.tape, g1.output.trans h.grown.output, by rw [World.size_setCell]; exact Nat.le_trans hgs g1.size, fun k hk hne => ?_⟩
    rw [keep k (Nat.lt_of_lt_of_le hk hgs) (fun e => by have := h.own.lt k e.symm; omega) (by omega)]
    exact h.grown.block k hk hne
  · have ht := h.tabs
    have kk : ∀ {b j u}, b < 2 → wr.cell? ⟨b, j, none⟩ = some u → (w1.setCell ⟨pb, 4, none⟩ v').cell? ⟨b, j, none⟩ = some u := fun {b j u} hb hu =>
      (World.cell?_of_block (a := ⟨b, j, none⟩) (keep b (World.block_lt_of_cell? wr _ hu) (fun e => by have := h.own.lt b e.symm; omega) (by omega))).trans hu
    exact ⟨fun c hc => kk (by omega) (ht.1 c hc), fun i hi => ⟨kk (by omega) (ht.2 i hi).1, kk (by omega) (ht.2 i hi).2⟩⟩
  · have e : ptrs (ps ++ [(nb, f)]) = ptrs ps ++ [.pointer (some ⟨nb, 0, none⟩)] := by unfold ptrs; simp
    rw [e, List.length_append]
    exact own.kept gs (by
      cases hv' : v'.ownBlock with
      | none => exact Or.inl rfl
      | some k => rw [hv'] at hv; exact Or.inr hv)
  · obtain ⟨F, hF, hD⟩ := h.den
    obtain ⟨G, hG, hN⟩ := hm
    have sz : wr.heap.size ≤ (w1.setCell ⟨pb, 4, none⟩ v').heap.size := by rw [World.size_setCell]; exact g1.size
    refine ⟨fun k => F k ∨ G k, fun k hk => ?_, fun p hp => ?_⟩
    · have h5 : w.heap.size ≤ k ∧ k < wr.heap.size ∧ k ≠ pb ∧ some k ≠ pv.ownBlock := by
        rcases hk with hk | hk
        · exact hF k hk
        · exact hG k hk
      refine ⟨h5.1, Nat.lt_of_lt_of_le h5.2.1 sz, h5.2.2.1, ?_⟩
      rcases at_ with e | e
      · rw [e]; exact h5.2.2.2
      · rw [e]; intro e2
        have : k = w0.heap.size := Option.some.inj e2
        omega
    · rcases List.mem_append.1 hp with hp | hp
      · exact (hD p hp).move sz (fun k hk => keep k (hF k hk).2.1 (hF k hk).2.2.2 (hF k hk).2.2.1) (fun _ h => Or.inl h)
      · have e : p = (nb, f) := by simpa using hp
        subst e
        exact hN.move sz (fun k hk => keep k (hG k hk).2.1 (hG k hk).2.2.2 (hG k hk).2.2.1) (fun _ h => Or.inr h)
  · intro p hp
    rcases List.mem_append.1 hp with hp | hp
    · exact h.len p hp
    · have e : p = (nb, f) := by simpa using hp
      subst e; exact hk

theorem Pa.parts (h : Pa kind fr w wr pb r s d z pv ps l) : (∀ k, pv.ownBlock = some k → w.heap.size ≤ k ∧ k < wr.heap.size) ∧ PartAt wr pb kind pv 0 ∧ Parts fr (fun k => w.heap.size ≤ k ∧ k < wr.heap.size) wr pv ps := by
  refine ⟨fun k hk => h.own.lt k hk, ⟨_, _, _, h.part⟩, ⟨?_, fun p hp => ?_, h.len⟩⟩
  · refine ⟨h.own.1, ?_⟩
    rcases h.own.2 with h1 | ⟨g, cap, cur, e1, e2, e3⟩
    · exact Or.inl h1
    · exact Or.inr ⟨g, cap, cur, e1, Nat.zero_le _, e3⟩
  · obtain ⟨F, hF, hD⟩ := h.den
    exact (hD p hp).move (Nat.le_refl _) (fun _ _ => rfl) (fun k hk => ⟨(hF k hk).1, (hF k hk).2.1⟩)
end
theorem Pa.many {w wr : World} {pb r : Nat} {s : ByteArray} {d z : Int} {pv : Value} {ps : List (Nat × Fi)} {l : List Int} (h : Pa 1 true w wr pb r s d z pv ps l) (hlen : ps.length ≤ 4000000) : Den false (fun k => w.heap.size ≤ k ∧ k < wr.heap.size) wr pb (manyF (ps.map (·.2))) :=
  den_many _ pb wr ps pv 0 (fun _ hk => hk.2) ⟨h.lo, h.ltp⟩ h.parts.1 h.parts.2.1 h.parts.2.2 hlen
theorem Pa.alike {w wr : World} {pb r : Nat} {s : ByteArray} {d z : Int} {pv : Value} {ps : List (Nat × Fi)} {l : List Int} (h : Pa 2 false w wr pb r s d z pv ps l) (hlen : ps.length ≤ 4000000) : Den true (fun k => w.heap.size ≤ k ∧ k < wr.heap.size) wr pb (alikeF (ps.map (·.2))) :=
  den_alike _ pb wr ps pv 0 (fun _ hk => hk.2) ⟨h.lo, h.ltp⟩ h.parts.1 h.parts.2.1 h.parts.2.2 hlen
end Go.Proofs.YthlabaijaadocaaDoor
