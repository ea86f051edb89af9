import Derived.Test.YtmbfpichaaanpaaGreatDoorX34
import GoSem.Core.Float
/-! The reader of expressions: what begins with a word of a function. -/
namespace Go.Proofs.YtmbfpichaaanpaaGreatDoor
open Go.RowKit Ut Rx Mt

/-- a function, or what many come to -/
def namE (of : Int → Nat) (n : Nat) (p : Ex.P) : Option Ex.P :=
  let w := Ex.peekW p.s
  let p1 : Ex.P := { p with s := p.s.drop w.length }
  if 0 ≤ Ex.placeE Ex.aggsT w then aggE of n (Ex.placeE Ex.aggsT w) p1
  else (Ex.parE of n (.level 0) (Ex.mustP [40] p1)).map fun q => Ex.putP { Ex.nd0 with k := 3, op := Ex.placeE Ex.callsT w } (Ex.mustP [41] q)
theorem Tb.ws {w : World} {g : Nat} {l : List (List UInt8)} (h : Tb w g l) : Ws0 w (.slice (some ⟨g, 0, none⟩) l.length l.length) (l.map fun x => ⟨x.toArray⟩) := by
  refine ⟨some ⟨g, 0, none⟩, l.length, by rw [List.length_map], by rw [List.length_map]; exact Nat.le_refl _, fun _ => ⟨g, 0, rfl, fun i hi => ?_⟩⟩
  rw [List.length_map] at hi
  have := h i hi
  simpa using this
theorem place_same {w : World} {g : Nat} {l : List (List UInt8)} (h : Ws0 w (.slice (some ⟨g, 0, none⟩) l.length l.length) (l.map fun x => ⟨x.toArray⟩)) (x : ByteArray) (wz : World) (e : wz.heap = w.heap) (hl : l.length ≤ 1000000) :
    Calls Tryz.prog 38 #[.slice (some ⟨g, 0, none⟩) l.length l.length, .string x] wz fun e w' => e = .returned (.int .i64 (Ex.placeE l (by_ x))) ∧ w' = wz := by
  have h2 : Ws0 wz (.slice (some ⟨g, 0, none⟩) l.length l.length) (l.map fun x => ⟨x.toArray⟩) := h.keep fun q _ _ => by rw [e]
  have := place_any _ _ x wz h2 (by rw [List.length_map]; exact hl)
  rw [List.map_map, show (by_ ∘ fun x : List UInt8 => (⟨x.toArray⟩ : ByteArray)) = id from by funext a; rfl, List.map_id] at this
  exact this.mono fun _ _ h => ⟨h.1, h.2.symm⟩
def NamPost (w : World) (B t : Nat) (lv : Value) (c : Bool) (p : Ex.P) (q : Ex.P) (e : Ending) (w' : World) : Prop :=
  e = .returned (.bool c) ∧ ((c = false ∧ w.grownBy w' (some t) ∧ Pq w' t lv p) ∨ (c = true ∧ ∃ lv' R', Pn w' B t lv' R' q ∧ Fe w w' t lv lv'))
theorem bare_bare (l : List UInt8) : bareF (bareF l) = bareF l := by
  have : ∀ l : List UInt8, (bareF l).head? ≠ some 32 := by
    intro l
    induction l with
    | nil => simp [bareF]
    | cons c t ih =>
      by_cases h : c = 32
      · rw [bare_yes h]; exact ih
      · rw [bare_no h]; simpa using h
  cases h : bareF l with
  | nil => rfl
  | cons c t => exact bare_no (fun e => this l (by rw [h, e]; rfl))
/-- the reader behind the word -/
def aftP (s : List UInt8) : Ex.P := ⟨s, [], false, 0⟩
theorem callAt_eq (s : List UInt8) (hs : bareF s = s) : Ex.callAt s = ((decide (0 ≤ Ex.placeE Ex.callsT (Ex.peekW s)) || decide (0 ≤ Ex.placeE Ex.aggsT (Ex.peekW s))) && (decide ((bareF (s.drop (Ex.peekW s).length)).head? = some 40) || (decide (0 ≤ Ex.placeE Ex.aggsT (Ex.peekW s)) && (decide (Ex.peekW (s.drop (Ex.peekW s).length) = Ex.byT) || decide (Ex.peekW (s.drop (Ex.peekW s).length) = Ex.withoutT))))) := by
  unfold Ex.callAt
  rw [hs]
set_option maxRecDepth 100000 in
set_option maxHeartbeats 8000000 in
theorem named_of {of : Int → Nat} {n : Nat} (hl : LevC of n) (ha : AggC of n) (B t : Nat) (lv : Value) (R : List NdV) (p : Ex.P) (w : World) (h : Rdr w B t lv R p) (hs : bareF p.s = p.s) (q : Ex.P) (hq : Ex.callAt p.s = true → namE of n p = some q) :
    Calls Tryz.prog 76 #[.pointer (some ⟨t, 0, none⟩)] w (NamPost w B t lv (Ex.callAt p.s) p q) := by
  have HC := Lib.hid (callAt_eq p.s hs)
  obtain ⟨ca, hca⟩ : ∃ b, b = Ex.callAt p.s := ⟨_, rfl⟩
  rw [← hca] at HC hq ⊢
  clear hca
  have HQ := Lib.hid hq
  have HH := Lib.hid h
  have HS := Lib.hid hs
  have plen := h.len
  have t8 := h.t8
  have lt := h.lt
  have PK := Lib.hid (peekX_any t lv p.s p.bad p.e w h.pn.px (by omega))
  rw [hs] at PK
  have ple := peek_le p.s
  rw [hs] at ple
  clear hq h hs
  go_enter Tryz.func76, Tryz.ntmps76
  go_wp2_with fail
  refine PK.out.mono ?_
  rintro e w1 ⟨⟨x, rfl, hx⟩, g1, s1, h1, e1⟩
  have hxs : x.size = (Ex.peekW p.s).length := by rw [← hx, tl_len]
  have hs1 : s1.size = p.s.length := by rw [← e1, tl_len]
  have hxle : x.size ≤ s1.size := by omega
  have hx2 : x.size ≤ 2000 := by omega
  have G1 := Lib.hid g1
  have H1 := Lib.hid h1
  have E1 := Lib.hid e1
  have HX := Lib.hid hx
  obtain ⟨c0, c1, c2, c3, f0, f1, f2, f3⟩ := px_cells h1
  have HXS := Lib.hid hxs
  have PB : Hid (Pq (w1.alloc (pxC (s1.extract x.size s1.size) (.slice none 0 0) false 0)) w1.heap.size (.slice none 0 0) (aftP (p.s.drop (Ex.peekW p.s).length))) := by
    refine ⟨_, heap_alloc_new w1 _, ?_⟩
    rw [by_drop, e1, hxs]
    rfl
  clear PK g1 h1 e1 hx hxs hs1
  go_upto_region 3 with fail
  obtain ⟨tb, htb⟩ : ∃ n, n = w1.heap.size := ⟨_, rfl⟩
  have B2 : Below w1.heap.size w1 (w1.alloc (pxC (s1.extract x.size s1.size) (.slice none 0 0) false 0)) := (Below.refl _ _).alloc (Nat.le_refl _) _
  obtain ⟨w2, hw2⟩ : ∃ x2, x2 = w1.alloc (pxC (s1.extract x.size s1.size) (.slice none 0 0) false 0) := ⟨_, rfl⟩
  have hsz2 : w2.heap.size = w1.heap.size + 1 := by rw [hw2]; simp
  rw [← hw2] at PB B2
  unfold pxC at hw2
  rw [← hw2, ← htb]
  rw [← htb] at PB hsz2
  have hwt : w.heap.size ≤ tb := by rw [htb]; exact G1.out.size
  have G2 := Lib.hid (grown_then G1.out B2)
  have P2 : Hid (Pq w2 t lv p) := Px.below ⟨s1, H1.out, E1.out⟩ B2
  have C2 := Lib.hid ((B2.block t (by rw [← htb]; omega)).trans H1.out)
  clear hw2 htb B2 c0 c1 c2 c3 f0 f1 f2 f3 G1 H1
  obtain ⟨c0, c1, c2, c3, f0, f1, f2, f3⟩ := px_cells C2.out
  obtain ⟨vc, hvc⟩ : ∃ v, v = Ex.placeE Ex.callsT (Ex.peekW p.s) := ⟨_, rfl⟩
  obtain ⟨va, hva⟩ : ∃ v, v = Ex.placeE Ex.aggsT (Ex.peekW p.s) := ⟨_, rfl⟩
  have W2 : Wt w2 := HH.out.wt.grown t8 (by have := HH.out.low; omega) G2.out
  have PL1 : Hid (∀ n, Calls Tryz.prog 38 #[.slice (some ⟨0, 0, none⟩) 15 15, .string x] (w2.drewN n) fun e w' => e = .returned (.int .i64 (Ex.placeE Ex.callsT (by_ x))) ∧ w' = w2.drewN n) := fun n => place_same (Tb.ws W2.c) x (w2.drewN n) rfl (by decide)
  have PL2 : Hid (∀ n, Calls Tryz.prog 38 #[.slice (some ⟨1, 0, none⟩) 6 6, .string x] (w2.drewN n) fun e w' => e = .returned (.int .i64 (Ex.placeE Ex.aggsT (by_ x))) ∧ w' = w2.drewN n) := fun n => place_same (Tb.ws W2.a) x (w2.drewN n) rfl (by decide)
  rw [HX.out, ← hvc] at PL1
  rw [HX.out, ← hva] at PL2
  have VC := Lib.hid hvc
  have VA := Lib.hid hva
  clear hvc hva W2
  go_quiet ((first | (go_at_call 38; with_reducible refine Calls.quiet_of_same (PL1.out _)) | (go_at_call 38; with_reducible refine Calls.quiet_of_same (PL2.out _))))
  clear PL1 PL2 c0 c1 c2 c3 f0 f1 f2 f3 C2
  go_upto_region 4 with fail
  obtain ⟨w3, hw3⟩ : ∃ x3, x3 = w2.drewN nq := ⟨_, rfl⟩
  have hh3 : w3.heap = w2.heap := by rw [hw3]; rfl
  have G3 : Hid (w.grownBy w3 (some t)) := by show _; rw [hw3]; exact grown_drewN G2.out nq
  have P3 : Hid (Pq w3 t lv p) := by obtain ⟨s, h, e⟩ := P2.out; exact ⟨s, by rw [hh3]; exact h, e⟩
  have Q3 : Hid (Pq w3 tb (.slice none 0 0) (aftP (p.s.drop (Ex.peekW p.s).length))) := by obtain ⟨s, h, e⟩ := PB.out; exact ⟨s, by rw [hh3]; exact h, e⟩
  have hsz3 : tb < w3.heap.size := by rw [hh3, hsz2]; omega
  rw [← hw3]
  have HAF : Hid ((p.s.drop (Ex.peekW p.s).length).length ≤ 1100) := by show _ ≤ _; rw [List.length_drop]; omega
  clear hw3 hh3 G2 P2 PB hsz2
  generalize haf : p.s.drop (Ex.peekW p.s).length = af at *
  have HAFT := Lib.hid haf
  clear haf
  obtain ⟨g, hg⟩ : ∃ g, g = (decide (0 ≤ va) && (decide (Ex.peekW af = Ex.byT) || decide (Ex.peekW af = Ex.withoutT))) := ⟨_, rfl⟩
  have HG := Lib.hid hg
  clear hg
  go_cut [7] (fun v7 wx => v7 = .bool g ∧ Hid (w.grownBy wx (some t)) ∧ Hid (Pq wx t lv p) ∧ ∃ s', Hid (bareF s' = bareF af) ∧ s'.length ≤ 1100 ∧ Hid (Pq wx tb (.slice none 0 0) (aftP s')))
  case first =>
    by_cases hva : 0 ≤ va
    · have PK := Lib.hid (peekX_any tb (.slice none 0 0) af false 0 w3 Q3.out (by have := HAF.out; omega))
      go_wp2_with fail
      refine PK.out.mono ?_
      rintro e w4 ⟨⟨y, rfl, hy⟩, g4, px4⟩
      have G4 := Lib.hid (grown_new G3.out g4 hwt)
      have P4 := Lib.hid (Px.grown P3.out g4 (fun e => by have := Option.some.inj e; omega))
      have Q4 : Hid (Pq w4 tb (.slice none 0 0) (aftP (bareF af))) := px4
      have HY := Lib.hid hy
      clear PK g4 px4 hy Q3
      by_cases hby : Ex.peekW af = Ex.byT
      · have hb : (y.toList == [98, 121]) = true := by
          rw [tl_eq]
          rw [beq_iff_eq]
          exact HY.out.trans hby
        have E : Hid (true = g) := by
          show _ = _
          rw [HG.out, decide_eq_true hva, decide_eq_true hby]
          rfl
        clear hby
        go_wp2_with fail
        go_meet
        case rel => exact ⟨by rw [← E.out], G4, P4, bareF af, bare_bare af, Nat.le_trans (bareF_le af) HAF.out, Q4⟩
      · have hb : (y.toList == [98, 121]) = false := by
          rw [tl_eq]
          simp only [beq_eq_false_iff_ne, ne_eq]
          exact fun e => hby (HY.out.symm.trans e)
        have PK := Lib.hid (peekX_any tb (.slice none 0 0) (bareF af) false 0 w4 Q4.out (by have := HAF.out; have := bareF_le af; omega))
        rw [show Ex.peekW (bareF af) = Ex.peekW af from by unfold Ex.peekW; rw [bare_bare], bare_bare] at PK
        go_wp2_with fail
        refine PK.out.mono ?_
        rintro e w5 ⟨⟨z, rfl, hz⟩, g5, px5⟩
        have G5 := Lib.hid (grown_new G4.out g5 hwt)
        have P5 := Lib.hid (Px.grown P4.out g5 (fun e => by have := Option.some.inj e; omega))
        have Q5 : Hid (Pq w5 tb (.slice none 0 0) (aftP (bareF af))) := px5
        have HZ := Lib.hid hz
        clear PK g5 px5 hz Q4 G4 P4
        obtain ⟨bz, hbz⟩ : ∃ b, (z.toList == [119, 105, 116, 104, 111, 117, 116]) = b := ⟨_, rfl⟩
        have E : Hid (bz = g) := by
          show _ = _
          rw [HG.out, decide_eq_true hva, decide_eq_false hby, ← hbz, tl_eq, ← HZ.out]
          rw [Bool.true_and, Bool.false_or]
          by_cases hq : z.data.toList = Ex.withoutT
          · rw [decide_eq_true (show by_ z = Ex.withoutT from hq)]
            simp only [beq_iff_eq]
            exact hq
          · rw [decide_eq_false (show ¬ by_ z = Ex.withoutT from hq)]
            simp only [beq_eq_false_iff_ne, ne_eq]
            exact hq
        clear hby
        go_wp2_with fail
        go_meet
        case rel => exact ⟨by rw [← E.out], G5, P5, bareF af, bare_bare af, Nat.le_trans (bareF_le af) HAF.out, Q5⟩
    · have E : Hid (false = g) := by
        show _ = _
        rw [HG.out, decide_eq_false hva]
        rfl
      go_wp2_with fail
      go_meet
      case rel => exact ⟨by rw [← E.out], G3, P3, af, rfl, HAF.out, Q3⟩
  case rest =>
    obtain ⟨rfl, G4, P4, s', HB', hs', Q4⟩ := hcut
    clear G3 P3 Q3
    have CA : Hid (ca = ((decide (0 ≤ vc) || decide (0 ≤ va)) && (decide ((bareF af).head? = some 40) || g))) := by
      show _ = _
      rw [HC.out, HG.out, VC.out, VA.out]
    go_upto_region 5 with fail
    go_cut [47] (fun v47 wx => v47 = .bool (!ca) ∧ Hid (w.grownBy wx (some t)) ∧ Hid (Pq wx t lv p))
    case first =>
      have NX := Lib.hid (nextX_any tb 40 (.slice none 0 0) s' false 0 wc Q4.out)
      rw [HB'.out, show ((40 : UInt8).toNat : Int) = 40 from rfl] at NX
      by_cases hvc : vc < 0
      · by_cases hva : va < 0
        · have E : Hid (ca = false) := by
            show _ = _
            rw [CA.out, decide_eq_false (by omega), decide_eq_false (by omega)]
            rfl
          clear CA NX
          go_wp2_with fail
          go_meet
          case rel => exact ⟨by rw [E.out]; rfl, G4, P4⟩
        · have E : Hid (ca = (decide ((bareF af).head? = some 40) || g)) := by
            show _ = _
            rw [CA.out, decide_eq_false (by omega), decide_eq_true (by omega), Bool.false_or, Bool.true_and]
          clear CA
          generalize decide ((bareF af).head? = some 40) = nx at *
          go_wp2_with fail
          refine NX.out.mono ?_
          rintro e w5 ⟨rfl, g5, px5⟩
          have G5 := Lib.hid (grown_new G4.out g5 hwt)
          have P5 := Lib.hid (Px.grown P4.out g5 (fun e => by have := Option.some.inj e; omega))
          clear NX g5 px5 G4 P4
          cases nx with
          | true =>
            go_wp2_with fail
            go_meet
            case rel => exact ⟨by rw [E.out]; rfl, G5, P5⟩
          | false =>
            go_wp2_with fail
            go_meet
            case rel => exact ⟨by rw [E.out]; simp, G5, P5⟩
      · have E : Hid (ca = (decide ((bareF af).head? = some 40) || g)) := by
          show _ = _
          rw [CA.out, decide_eq_true (show 0 ≤ vc by omega), Bool.true_or, Bool.true_and]
        clear CA
        generalize decide ((bareF af).head? = some 40) = nx at *
        go_wp2_with fail
        refine NX.out.mono ?_
        rintro e w5 ⟨rfl, g5, px5⟩
        have G5 := Lib.hid (grown_new G4.out g5 hwt)
        have P5 := Lib.hid (Px.grown P4.out g5 (fun e => by have := Option.some.inj e; omega))
        clear NX g5 px5 G4 P4
        cases nx with
        | true =>
          go_wp2_with fail
          go_meet
          case rel => exact ⟨by rw [E.out]; rfl, G5, P5⟩
        | false =>
          go_wp2_with fail
          go_meet
          case rel => exact ⟨by rw [E.out]; simp, G5, P5⟩
    case rest =>
      obtain ⟨rfl, G6, P6⟩ := hcut
      clear G4 P4 Q4 CA HB'
      cases ca with
      | false =>
        go_wp2_with fail
        exact bodyPost_ret (v := .bool false) (by simp [results, Tryz.results76, go_sem]) rfl ⟨rfl, Or.inl ⟨rfl, G6.out, P6.out⟩⟩
      | true =>
        obtain ⟨s6, h6, e6⟩ := P6.out
        obtain ⟨c0, c1, c2, c3, f0, f1, f2, f3⟩ := px_cells h6
        have hxl6 : x.size ≤ s6.size := by
          have h1 := HXS.out
          have h2 := congrArg List.length e6
          rw [tl_len] at h2
          omega
        have hne : 1 ≤ (Ex.peekW p.s).length := by
          refine List.length_pos_iff.2 (call_word ?_)
          have := HC.out
          rw [← HAFT.out, ← callAt_eq p.s HS.out] at this
          exact this.symm
        have P7 : Hid (Pq (wc.setCell ⟨t, 0, none⟩ (.string (s6.extract x.size s6.size))) t lv { p with s := p.s.drop (Ex.peekW p.s).length }) := ⟨_, px_put0 h6, by rw [by_drop, e6, HXS.out]⟩
        have G7 : Hid (w.grownBy (wc.setCell ⟨t, 0, none⟩ (.string (s6.extract x.size s6.size))) (some t)) := grown_trans G6.out (grown_setCell _ _ _ _)
        have few7 : wtP { p with s := p.s.drop (Ex.peekW p.s).length } ≤ wtP p := Nat.le_of_succ_le (wt_drop (Nat.le_refl _) hne ple)
        obtain ⟨R7, F7⟩ := HH.out.small G7.out P7.out rfl few7
        have R7' := Lib.hid R7
        have F7' := Lib.hid F7
        have HQ2 : Hid ((if 0 ≤ va then aggE of n va { p with s := p.s.drop (Ex.peekW p.s).length }
            else (Ex.parE of n (.level 0) (Ex.mustP [40] { p with s := p.s.drop (Ex.peekW p.s).length })).map fun q => Ex.putP { Ex.nd0 with k := 3, op := vc } (Ex.mustP [41] q)) = some q) := by
          show _ = _
          rw [VC.out, VA.out]
          exact HQ.out rfl
        clear R7 F7 P6 G6 HQ HC HG h6 e6 c1 c2 c3 f1 f2 f3 few7 hne HXS
        generalize ({ p with s := p.s.drop (Ex.peekW p.s).length } : Ex.P) = p7 at *
        go_upto_region 8 with fail
        obtain ⟨w7, hw7⟩ : ∃ w7, w7 = wc.setCell ⟨t, 0, none⟩ (.string (s6.extract x.size s6.size)) := ⟨_, rfl⟩
        rw [← hw7] at P7 G7 R7' F7' ⊢
        clear hw7 c0 f0
        by_cases hva : 0 ≤ va
        · have AG := Lib.hid (ha va B t lv R p7 w7 R7'.out q (by have := HQ2.out; rw [if_pos hva] at this; exact this))
          clear HQ2 VC VA
          go_wp2_with fail
          refine AG.out.mono ?_
          rintro e w8 ⟨rfl, lv8, R8, pn8, fe8⟩
          have PN := Lib.hid pn8
          have FE := Lib.hid (F7'.out.trans fe8)
          clear AG pn8 fe8
          go_wp2_with fail
          exact bodyPost_ret (v := .bool true) (by simp [results, Tryz.results76, go_sem]) rfl ⟨rfl, Or.inr ⟨rfl, lv8, R8, PN.out, FE.out⟩⟩
        · have HQ3 : Hid ((Ex.parE of n (.level 0) (Ex.mustP [40] p7)).map (fun q => Ex.putP { Ex.nd0 with k := 3, op := vc } (Ex.mustP [41] q)) = some q) := by
            have := HQ2.out
            rw [if_neg hva] at this
            exact this
          have M := Lib.hid (mustQ_any t ⟨#[40]⟩ lv p7 w7 P7.out)
          rw [show by_ (⟨#[40]⟩ : ByteArray) = [40] from rfl] at M
          have wm := wt_must [40] p7
          have ml := mustP_l [40] p7
          obtain ⟨q1, h1, h2⟩ := Option.map_eq_some_iff.1 HQ3.out
          have H1 := Lib.hid h1
          have H2 := Lib.hid h2.symm
          have W1 := parE_wt of n _ _ _ h1
          clear h1 h2 HQ2 HQ3
          generalize Ex.mustP [40] p7 = pm at *
          go_wp2_with fail
          refine M.out.mono ?_
          rintro e w8 ⟨rfl, g8, px8⟩
          obtain ⟨R8, F8⟩ := R7'.out.small g8 px8 ml wm
          have LV := Lib.hid (hl 0 (by decide) B t lv R pm w8 R8 q1 H1.out)
          rw [show ((0 : Nat) : Int) = 0 from rfl] at LV
          have R8' := Lib.hid R8
          have F8' := Lib.hid (F7'.out.trans F8)
          clear M g8 px8 R8 F8 R7' F7' P7 G7
          go_wp2_with fail
          refine LV.out.mono ?_
          rintro e w9 ⟨rfl, lv9, R9, pn9, fe9⟩
          have few9 : wtP q1 ≤ 1100 := Nat.le_trans W1 R8'.out.few
          have R9' := Lib.hid (R8'.out.fe pn9 fe9 few9)
          have F9' := Lib.hid (F8'.out.trans fe9)
          have M := Lib.hid (mustQ_any t ⟨#[41]⟩ lv9 q1 w9 pn9.px)
          rw [show by_ (⟨#[41]⟩ : ByteArray) = [41] from rfl] at M
          have wm9 := wt_must [41] q1
          have ml9 := mustP_l [41] q1
          clear LV pn9 fe9 R8' F8' H1
          generalize Ex.mustP [41] q1 = pn at *
          go_wp2_with fail
          refine M.out.mono ?_
          rintro e wz ⟨rfl, gz, pxz⟩
          obtain ⟨Rz, Fz⟩ := R9'.out.small gz pxz ml9 wm9
          have NIz : Hid (NdIn wz B lv9 (ndE 3 vc false, .slice none 0 0, .slice none 0 0)) := ndIn_plain rfl rfl (by show 0 < _; decide) (by show 0 < _; decide)
          have Rz' := Lib.hid Rz
          have Fz' := Lib.hid (F9'.out.trans Fz)
          obtain ⟨s6, h6, e6⟩ := Rz.pn.px
          obtain ⟨c0, c1, c2, c3, f0, f1, f2, f3⟩ := px_cells h6
          obtain ⟨A6, m6, cap6, hL⟩ := ownsRow_is Rz.pn.row
          have HL6 := Lib.hid hL
          rw [hL] at c1
          have lt6 : t < wz.heap.size := Rz.lt
          have NB : Hid (Below wz.heap.size wz (wz.alloc (ndB (ndE 3 vc false) (.slice none 0 0) (.slice none 0 0)))) := (Below.refl _ _).alloc (Nat.le_refl _) _
          have NW := Lib.hid (heap_alloc_new wz (ndB (ndE 3 vc false) (.slice none 0 0) (.slice none 0 0)))
          clear M gz pxz R9' F9' Rz Fz h6 e6 hL f0 f1 f2 f3 c0 c2 c3
          go_wp2_with (at_builtin; refine wpList_push Rz'.out NIz.out isSl_nil isSl_nil NB.out NW.out (by rfl) (s := .tmp 73) (x := .tmp 76) (by rfl) (by exact HL6.out.symm) (by rfl) ?_; intro g8 cap8 w8 hpd; have c8 := hpd.c; have f8 := hpd.f; have PD := Lib.hid hpd; clear hpd)
          exact bodyPost_ret (v := .bool true) (by simp [results, Tryz.results76, go_sem]) rfl ⟨rfl, Or.inr ⟨rfl, _, _, by rw [H2.out]; exact PD.out.pn, Fz'.out.trans PD.out.fe⟩⟩
end Go.Proofs.YtmbfpichaaanpaaGreatDoor

/- Plain facts on the bits of a float64 (no program in sight): what a word reads as, in units of 2^-1074. -/
namespace Go.Proofs.YtmbfpichaaanpaaGreatDoor
open Ieee

abbrev D : Ieee.Format := FloatKind.f64.format


theorem D_eq : D = { exponentBits := 11, fractionBits := 52 } := rfl
theorem D_binade : D.binade = 4503599627370496 := by decide
theorem D_inf : D.infRung = 9218868437227405312 := by decide
theorem D_sign : D.signWeight = 9223372036854775808 := by decide
theorem D_least : D.leastPlace = -1074 := by decide
theorem D_frac : D.fractionBits = 52 := by decide

/-- the sign of a word -/
def sgn (n : Nat) : Bool := n / 9223372036854775808 % 2 == 1
/-- its rung -/
def rung (n : Nat) : Nat := n % 9223372036854775808
def mant (r : Nat) : Nat := if r < 4503599627370496 then r else 4503599627370496 + r % 4503599627370496
def lift (r : Nat) : Nat := if r < 4503599627370496 then 0 else r / 4503599627370496 - 1
/-- how many units of 2^-1074 a rung is -/
def units (r : Nat) : Nat := mant r * 2 ^ lift r

theorem read_word (n : Nat) : D.read n =
    if rung n < 9218868437227405312 then .number (sgn n) (mant (rung n)) (-1074 + (lift (rung n) : Int))
    else if rung n = 9218868437227405312 then .infinity (sgn n) else .nan (sgn n) (rung n - 9218868437227405312) := by
  unfold Format.read
  simp only [D_sign, D_binade, D_inf, D_least]
  unfold sgn rung mant lift
  by_cases h1 : n % 9223372036854775808 < 4503599627370496
  · have : n % 9223372036854775808 < 9218868437227405312 := by omega
    simp [h1, this]
  · by_cases h2 : n % 9223372036854775808 < 9218868437227405312
    · simp [h1, h2]
    · simp [h1, h2]

theorem rung_lt (n : Nat) : rung n < 9223372036854775808 := Nat.mod_lt _ (by omega)

theorem units_succ (r : Nat) : units r < units (r + 1) := by
  unfold units mant lift
  by_cases h1 : r + 1 < 4503599627370496
  · simp [h1, show r < 4503599627370496 by omega]
  · by_cases h2 : r < 4503599627370496
    · have : r + 1 = 4503599627370496 := by omega
      have h3 : (r + 1) % 4503599627370496 = 0 := by omega
      have h4 : (r + 1) / 4503599627370496 = 1 := by omega
      simp only [h2, h1, if_true, if_false, h3, h4]
      omega
    · simp only [h1, h2, if_false]
      have hq : 1 ≤ r / 4503599627370496 := by omega
      by_cases h3 : (r + 1) % 4503599627370496 = 0
      · have h4 : (r + 1) / 4503599627370496 = r / 4503599627370496 + 1 := by omega
        have h5 : r % 4503599627370496 = 4503599627370496 - 1 := by omega
        rw [h3, h4, h5]
        obtain ⟨q, hq⟩ : ∃ q, r / 4503599627370496 = q + 1 := ⟨r / 4503599627370496 - 1, by omega⟩
        rw [hq, show q + 1 + 1 - 1 = q + 1 from rfl, show q + 1 - 1 = q from rfl, Nat.pow_succ]
        have : 0 < 2 ^ q := Nat.two_pow_pos q
        generalize 2 ^ q = p at *
        omega
      · have h4 : (r + 1) / 4503599627370496 = r / 4503599627370496 := by omega
        have h5 : (r + 1) % 4503599627370496 = r % 4503599627370496 + 1 := by omega
        rw [h4, h5]
        have : 0 < 2 ^ (r / 4503599627370496 - 1) := Nat.two_pow_pos _
        exact Nat.mul_lt_mul_of_pos_right (by omega) this

theorem units_lt {a b : Nat} (h : a < b) : units a < units b := by
  induction b with
  | zero => omega
  | succ b ih =>
    by_cases e : a = b
    · subst e; exact units_succ a
    · exact Nat.lt_trans (ih (by omega)) (units_succ b)

theorem units_le {a b : Nat} (h : a ≤ b) : units a ≤ units b := by
  by_cases e : a = b
  · subst e; exact Nat.le_refl _
  · exact Nat.le_of_lt (units_lt (by omega))

theorem units_lt_iff {a b : Nat} : units a < units b ↔ a < b :=
  ⟨fun h => by
    by_cases e : a < b
    · exact e
    · exact absurd (units_le (Nat.le_of_not_lt e)) (by omega), units_lt⟩

theorem units_inj {a b : Nat} (h : units a = units b) : a = b := by
  by_cases h1 : a < b
  · have := units_lt h1; omega
  · by_cases h2 : b < a
    · have := units_lt h2; omega
    · omega

theorem units_zero : units 0 = 0 := by decide

/-- a word's signed place on the line of rungs -/
def skey (n : Nat) : Int := if sgn n then -(rung n : Int) else rung n
/-- a word's signed number of units -/
def sval (n : Nat) : Int := if sgn n then -(units (rung n) : Int) else units (rung n)

theorem signed_mul (s : Bool) (m a k : Nat) : signed s m (a + k) = signed s m a * (2 : Int) ^ k := by
  unfold signed
  cases s <;> simp [Nat.shiftLeft_eq, Nat.pow_add, Int.mul_assoc, Int.natCast_mul, Int.natCast_pow, Int.neg_mul]

theorem signed_units (s : Bool) (r : Nat) : signed s (mant r) (lift r) = if s then -(units r : Int) else units r := by
  unfold signed units
  cases s <;> simp [Nat.shiftLeft_eq]

theorem compare_mul (a b : Int) (k : Nat) : compare (a * 2 ^ k) (b * 2 ^ k) = compare a b := by
  have hp : (0 : Int) < 2 ^ k := Int.pow_pos (by decide)
  rcases Int.lt_trichotomy a b with h | h | h
  · have : a * 2 ^ k < b * 2 ^ k := Int.mul_lt_mul_of_pos_right h hp
    simp [compare, compareOfLessAndEq, h, this]
  · subst h; simp [compare, compareOfLessAndEq]
  · have h2 : b * 2 ^ k < a * 2 ^ k := Int.mul_lt_mul_of_pos_right h hp
    simp [compare, compareOfLessAndEq, show ¬ a < b by omega, show ¬ a = b by omega, show ¬ a * 2 ^ k < b * 2 ^ k by omega, show ¬ a * 2 ^ k = b * 2 ^ k by omega]

theorem order_numbers (s t : Bool) (m n a b : Nat) :
    Datum.order (.number s m (-1074 + (a : Int))) (.number t n (-1074 + (b : Int))) = some (compare (signed s m a) (signed t n b)) := by
  unfold Datum.order
  dsimp only
  rcases Nat.le_total a b with h | h
  · have h1 : min (-1074 + (a : Int)) (-1074 + (b : Int)) = -1074 + (a : Int) := by omega
    rw [h1]
    have h2 : (-1074 + (a : Int) - (-1074 + (a : Int))).toNat = 0 := by omega
    have h3 : (-1074 + (b : Int) - (-1074 + (a : Int))).toNat = b - a := by omega
    rw [h2, h3]
    have e1 := signed_mul s m 0 a
    have e2 := signed_mul t n (b - a) a
    rw [Nat.zero_add] at e1
    rw [Nat.sub_add_cancel h] at e2
    rw [e1, e2, compare_mul]
  · have h1 : min (-1074 + (a : Int)) (-1074 + (b : Int)) = -1074 + (b : Int) := by omega
    rw [h1]
    have h2 : (-1074 + (b : Int) - (-1074 + (b : Int))).toNat = 0 := by omega
    have h3 : (-1074 + (a : Int) - (-1074 + (b : Int))).toNat = a - b := by omega
    rw [h2, h3]
    have e1 := signed_mul t n 0 b
    have e2 := signed_mul s m (a - b) b
    rw [Nat.zero_add] at e1
    rw [Nat.sub_add_cancel h] at e2
    rw [e1, e2, compare_mul]

def fnan (n : Nat) : Bool := decide (9218868437227405312 < rung n)

theorem compare_eq {a b c d : Int} (h1 : a < b ↔ c < d) (h2 : a = b ↔ c = d) : compare a b = compare c d := by
  simp only [compare, compareOfLessAndEq]
  by_cases x : a < b
  · rw [if_pos x, if_pos (h1.1 x)]
  · rw [if_neg x, if_neg (fun y => x (h1.2 y))]
    by_cases z : a = b
    · rw [if_pos z, if_pos (h2.1 z)]
    · rw [if_neg z, if_neg (fun y => z (h2.2 y))]

theorem rung_sval_lt (x y : Nat) : sval x < sval y ↔ skey x < skey y := by
  unfold sval skey
  have hz := units_zero
  have l1 := @units_lt_iff (rung x) (rung y)
  have l2 := @units_lt_iff (rung y) (rung x)
  have p1 := @units_lt_iff 0 (rung x)
  have p2 := @units_lt_iff 0 (rung y)
  rw [hz] at p1 p2
  cases sgn x <;> cases sgn y <;> simp <;> omega

theorem rung_sval_eq (x y : Nat) : sval x = sval y ↔ skey x = skey y := by
  have h1 := rung_sval_lt x y
  have h2 := rung_sval_lt y x
  omega

theorem cmp_lt {a b : Int} (h : a < b) : compare a b = .lt := by simp [compare, compareOfLessAndEq, h]
theorem cmp_gt {a b : Int} (h : b < a) : compare a b = .gt := by
  simp only [compare, compareOfLessAndEq]
  rw [if_neg (by omega), if_neg (by omega)]

/-- HOW TWO WORDS STAND: none where one is a NaN; else as their places stand. -/
theorem order_key (x y : Nat) : D.order x y = if fnan x || fnan y then none else some (compare (skey x) (skey y)) := by
  unfold Format.order
  rw [read_word, read_word]
  have lx := rung_lt x
  have ly := rung_lt y
  unfold fnan
  by_cases hx : rung x < 9218868437227405312
  · rw [if_pos hx]
    by_cases hy : rung y < 9218868437227405312
    · rw [if_pos hy, order_numbers, signed_units, signed_units]
      have e : (decide (9218868437227405312 < rung x) || decide (9218868437227405312 < rung y)) = false := by simp; omega
      rw [e]
      exact congrArg some (compare_eq (rung_sval_lt x y) (rung_sval_eq x y))
    · rw [if_neg hy]
      by_cases hy2 : rung y = 9218868437227405312
      · rw [if_pos hy2]
        simp only [Datum.order]
        unfold skey
        rw [hy2]
        have e : (decide (9218868437227405312 < rung x) || decide (9218868437227405312 < 9218868437227405312)) = false := by simp; omega
        rw [e]
        cases sgn x <;> cases sgn y <;> (simp only [if_true, if_false, Bool.false_eq_true, Option.some.injEq]; first | exact (cmp_lt (by omega)).symm | exact (cmp_gt (by omega)).symm)
      · rw [if_neg hy2, if_pos (by simp; omega)]
        rfl
  · rw [if_neg hx]
    by_cases hx2 : rung x = 9218868437227405312
    · rw [if_pos hx2]
      by_cases hy : rung y < 9218868437227405312
      · rw [if_pos hy]
        simp only [Datum.order]
        unfold skey
        rw [hx2]
        have e : (decide (9218868437227405312 < 9218868437227405312) || decide (9218868437227405312 < rung y)) = false := by simp; omega
        rw [e]
        cases sgn x <;> cases sgn y <;> (simp only [if_true, if_false, Bool.false_eq_true, Option.some.injEq]; first | exact (cmp_lt (by omega)).symm | exact (cmp_gt (by omega)).symm)
      · rw [if_neg hy]
        by_cases hy2 : rung y = 9218868437227405312
        · rw [if_pos hy2, if_neg (by simp; omega)]
          simp only [Datum.order, Option.some.injEq]
          unfold skey
          rw [hx2, hy2]
          cases sgn x <;> cases sgn y <;> simp [compare, compareOfLessAndEq]
        · rw [if_neg hy2, if_pos (by simp; omega)]
          rfl
    · have e : decide (9218868437227405312 < rung x) = true := by simp; omega
      rw [if_neg hx2, e]
      simp [Datum.order]

theorem order_self (x : Nat) : (D.order x x != some .eq) = fnan x := by
  rw [order_key]
  cases h : fnan x <;> simp

end Go.Proofs.YtmbfpichaaanpaaGreatDoor
