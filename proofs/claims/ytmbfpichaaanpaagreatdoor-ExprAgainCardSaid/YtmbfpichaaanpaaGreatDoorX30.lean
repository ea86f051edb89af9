import Derived.Test.YtmbfpichaaanpaaGreatDoorX29
import Derived.Deep.AppendLies
/-! The reader of expressions: a selector. -/
namespace Go.Proofs.YtmbfpichaaanpaaGreatDoor
open Go.RowKit Ut Rx Mt

/-- behind the word: what is left of the reader -/
def selA (p : Ex.P) : Ex.P := { p with s := bareF ((bareF p.s).drop (Ex.peekW p.s).length) }
theorem selW_eq (p : Ex.P) : Ex.selW p = if (selA p).s.head? = some 123 then (Ex.peekW p.s ++ (Ex.bracesE (selA p)).1, (Ex.bracesE (selA p)).2) else (Ex.peekW p.s, selA p) := rfl
theorem bracesE_l (p : Ex.P) : (Ex.bracesE p).2.l = p.l ∧ (Ex.bracesE p).2.e = p.e := by
  unfold Ex.bracesE
  split <;> exact ⟨rfl, rfl⟩
theorem bracesE_le (p : Ex.P) : (Ex.bracesE p).2.s.length ≤ p.s.length ∧ (Ex.bracesE p).1.length ≤ p.s.length := by
  unfold Ex.bracesE
  split
  · simp only [List.length_drop, List.length_take]; omega
  · simp
theorem selW_l (p : Ex.P) : (Ex.selW p).2.l = p.l ∧ (Ex.selW p).2.e = p.e := by
  rw [selW_eq]
  split
  · exact ⟨(bracesE_l _).1, (bracesE_l _).2⟩
  · exact ⟨rfl, rfl⟩
theorem selW_le (p : Ex.P) : (Ex.selW p).2.s.length ≤ (selA p).s.length := by
  rw [selW_eq]
  split
  · exact (bracesE_le _).1
  · exact Nat.le_refl _
/-- is the text missing? -/
def selB (p : Ex.P) : Ex.P := { (Ex.selW p).2 with bad := (Ex.selW p).2.bad || (Ex.selW p).1.isEmpty }
def selS (p : Ex.P) : List M := match parseP (Ex.selW p).1 with | .ok l => l | .error _ => []
def selX (p : Ex.P) : Int := match parseP (Ex.selW p).1 with | .ok _ => 0 | .error x => x
def selC (p : Ex.P) : Ex.P := { selB p with e := if (selX p != 0 && (selB p).e == 0) = true then selX p else (selB p).e }
theorem selE_eq (p : Ex.P) (hx : ∀ x, parseP (Ex.selW p).1 = .error x → x ≠ 0) : Ex.selE p = if (Ex.hasP [91] (selC p)).1 then
      Ex.putP { Ex.nd0 with k := 2, wd := (Ex.wholeP 9223372036854775807 (Ex.hasP [91] (selC p)).2).1, sel := selS p } (Ex.mustP [93] (Ex.wholeP 9223372036854775807 (Ex.hasP [91] (selC p)).2).2)
    else Ex.putP { Ex.nd0 with k := 1, sel := selS p } (Ex.hasP [91] (selC p)).2 := by
  have e : (match parseP (Ex.selW p).1 with | .ok _ => selB p | .error x => { selB p with e := if (selB p).e = 0 then x else (selB p).e } : Ex.P) = selC p := by
    unfold selC selX
    cases h : parseP (Ex.selW p).1 with
    | ok l => simp
    | error x =>
      have := hx x h
      by_cases h0 : (selB p).e = 0 <;> simp [h0, this]
  rw [← e]
  rfl
def SelPost (w : World) (B t : Nat) (lv : Value) (p : Ex.P) (e : Ending) (w' : World) : Prop := e = .returned (.tuple #[]) ∧ ∃ lv' R', Pn w' B t lv' R' (Ex.selE p) ∧ Fe w w' t lv lv'

theorem who_le (most : Nat) (hm : 9 ≤ most) : ∀ (l : List UInt8) (n k m k2 : Nat) (r : List UInt8), n ≤ most → Ex.whoGo most n k l = some (m, k2, r) → m ≤ most
  | [], n, k, m, k2, r, hn, h => by
    rw [who_nil] at h
    simp only [Option.some.injEq, Prod.mk.injEq] at h
    omega
  | c :: t, n, k, m, k2, r, hn, h => by
    rw [who_cons] at h
    split at h
    · rename_i hd
      rw [digC_iff] at hd
      split at h
      · cases h
      · exact who_le most hm t _ _ m k2 r (by omega) h
    · simp only [Option.some.injEq, Prod.mk.injEq] at h
      omega
theorem wholeP_le (most : Nat) (p : Ex.P) (hm : 9 ≤ most := by decide) : (Ex.wholeP most p).1 ≤ most := by
  unfold Ex.wholeP
  cases h : Ex.whoGo most 0 0 (bareF p.s) with
  | none => exact Nat.zero_le _
  | some x => obtain ⟨m, k, r⟩ := x; exact who_le most hm _ _ _ _ _ _ (Nat.zero_le _) h
theorem wholeP_l (most : Nat) (p : Ex.P) : (Ex.wholeP most p).2.l = p.l := by
  unfold Ex.wholeP
  cases Ex.whoGo most 0 0 (bareF p.s) <;> rfl
theorem wholeP_e (most : Nat) (p : Ex.P) : (Ex.wholeP most p).2.e = p.e := by
  unfold Ex.wholeP
  cases Ex.whoGo most 0 0 (bareF p.s) <;> rfl
def ndB (n : Ex.Nd) (sv nv : Value) : Obj := .cells #[.int .i64 n.k, .int .i64 n.op, .int .u64 (n.v : Int), .int .u64 (n.wd : Int), sv, .bool n.bl, .bool n.gb, nv] 37 (0, 0)
set_option maxRecDepth 100000 in
theorem infoNode : (Tryz.prog.info? 37).map (fun i => (i.zero, i.size, i.bytes)) = some (some (.agg #[.int .i64 0, .int .i64 0, .int .u64 0, .int .u64 0, .slice none 0 0, .bool false, .bool false, .slice none 0 0]), 8, 88) := by kernel_rfl
theorem ndV_one (n : Ex.Nd) (A A2 : Option Addr) (m c m2 c2 : Nat) : ∀ u ∈ ndV n (.slice A m c) (.slice A2 m2 c2), u.oneCell' = true := by
  intro u hu
  simp only [ndV, List.mem_cons, List.not_mem_nil, or_false] at hu
  rcases hu with rfl | rfl | rfl | rfl | rfl | rfl | rfl | rfl <;> rfl
theorem news_nd (w : World) (b : Nat) (n : Ex.Nd) (sv nv : Value) (hb : b = w.heap.size) : ∀ j u, (ndV n sv nv)[j]? = some u → (w.alloc (ndB n sv nv)).cell? ((⟨b, 0, none⟩ : Addr).add j) = some u := by
  intro j u hu
  subst hb
  unfold ndB
  unfold ndV at hu
  match j with
  | 0 => simp at hu; subst hu; exact World.cell?_alloc_at _ _ _ _ rfl
  | 1 => simp at hu; subst hu; exact World.cell?_alloc_at _ _ _ _ rfl
  | 2 => simp at hu; subst hu; exact World.cell?_alloc_at _ _ _ _ rfl
  | 3 => simp at hu; subst hu; exact World.cell?_alloc_at _ _ _ _ rfl
  | 4 => simp at hu; subst hu; exact World.cell?_alloc_at _ _ _ _ rfl
  | 5 => simp at hu; subst hu; exact World.cell?_alloc_at _ _ _ _ rfl
  | 6 => simp at hu; subst hu; exact World.cell?_alloc_at _ _ _ _ rfl
  | 7 => simp at hu; subst hu; exact World.cell?_alloc_at _ _ _ _ rfl
  | j + 8 => simp at hu
/-- one node more, where the region that does it stands: the reader's cell before it is turned, and all behind it -/
theorem Pn.push2 {w w4 w5 : World} {B t g H : Nat} {lv : Value} {R : List NdV} {p : Ex.P} {n : Ex.Nd} {sv nv : Value} {cap : Nat} (h : Pn w B t lv R p) (b : Below w.heap.size w w4) (gr : w4.grownBy w5 lv.ownBlock)
    (own : w5.ownsRow B 37 8 (.slice (some ⟨g, 0, none⟩) (R.length + 1) cap) (R.length + 1) (nodeC R ++ ndV n sv nv)) (at_ : lv.ownBlock = some g ∨ g = H) (hH : w4.heap.size = H) (hx : NdIn w B lv (n, sv, nv)) :
    w5.cell? ⟨t, 1, none⟩ = some lv ∧ w5.frozen? ⟨t, 1, none⟩ = false ∧ Pn (w5.setCell ⟨t, 1, none⟩ (.slice (some ⟨g, 0, none⟩) (R.length + 1) cap)) B t (.slice (some ⟨g, 0, none⟩) (R.length + 1) cap) (R ++ [(n, sv, nv)]) (Ex.putP n p) ∧ Fe w (w5.setCell ⟨t, 1, none⟩ (.slice (some ⟨g, 0, none⟩) (R.length + 1) cap)) t lv (.slice (some ⟨g, 0, none⟩) (R.length + 1) cap) := by
  obtain ⟨h4, _⟩ := h.below b
  obtain ⟨s, h0, _⟩ := Px.grown h4.px gr h4.t_ne
  obtain ⟨_, c1, _, _, _, f1, _, _⟩ := px_cells h0
  exact ⟨c1, f1, h.pushed b gr own (by
    rcases at_ with e | e
    · exact Or.inl e.symm
    · exact Or.inr ⟨g, rfl, by omega⟩) hx⟩
theorem own_ms {w : World} {B : Nat} {v : Value} {l : List M} (h : MsR w B v l) (hn : l.length ≤ 1000000) : Ms0 w v l := by
  obtain ⟨A, c, e, _, hl⟩ := h.ms hn
  refine ⟨A, c, e, ?_, hl⟩
  rcases row_kinds h with ⟨rfl, h0⟩ | ⟨g, c', rfl, hc⟩
  · simp only [Value.slice.injEq] at e; omega
  · simp only [Value.slice.injEq] at e; omega
theorem tailP_few {ms : List M} {r : List UInt8} {l : List M} (h : tailP ms r = .ok l) : l.length ≤ 1000000 := by
  unfold tailP at h
  split at h
  · split at h
    · rename_i h0
      cases h
      unfold rightF at h0
      split at h0
      · cases h0
      · omega
    · cases h
  · cases h
theorem parseP_few {s : List UInt8} {l : List M} (h : parseP s = .ok l) : l.length ≤ 1000000 := by
  unfold parseP at h
  split at h
  · cases h
  · unfold bodyP at h
    split at h
    · split at h
      · cases h
      · exact tailP_few h
    · split at h
      · cases h
      · exact tailP_few h
/-- what turns: the reader's block and one block more -/
structure Fx (w w' : World) (t nb : Nat) : Prop where
  os : w'.os = w.os
  tape : w'.tape = w.tape
  output : w'.output = w.output
  size : w.heap.size ≤ w'.heap.size
  block : ∀ q, q < w.heap.size → q ≠ t → q ≠ nb → w'.heap[q]? = w.heap[q]?
theorem Fx.refl (w : World) (t nb : Nat) : Fx w w t nb := ⟨rfl, rfl, rfl, Nat.le_refl _, fun _ _ _ _ => rfl⟩
theorem Fx.trans {w w1 w2 : World} {t nb : Nat} (h : Fx w w1 t nb) (k : Fx w1 w2 t nb) : Fx w w2 t nb :=
  ⟨k.os.trans h.os, k.tape.trans h.tape, k.output.trans h.output, Nat.le_trans h.size k.size, fun q hq h1 h2 => (k.block q (Nat.lt_of_lt_of_le hq h.size) h1 h2).trans (h.block q hq h1 h2)⟩
theorem Fx.of_grown {w w' : World} {t : Nat} (nb : Nat) (h : w.grownBy w' (some t)) : Fx w w' t nb := ⟨h.os, h.tape, h.output, h.size, fun q hq h1 _ => h.block q hq (fun e => h1 (Option.some.inj e))⟩
theorem Fx.of_set (w : World) (t nb j : Nat) (v : Value) : Fx w (w.setCell ⟨nb, j, none⟩ v) t nb := by
  have h := grown_setCell w nb j v
  exact ⟨h.os, h.tape, h.output, h.size, fun q hq _ h2 => h.block q hq (fun e => h2 (Option.some.inj e))⟩
theorem ndB_cells {w : World} {nb : Nat} {n : Ex.Nd} {sv nv : Value} (h : w.heap[nb]? = some (ndB n sv nv)) : NB w nb n sv nv ∧ ∀ j, w.frozen? ⟨nb, j, none⟩ = false :=
  ⟨⟨ndAt_blk h 0, ndAt_blk h 1, ndAt_blk h 2, ndAt_blk h 3, ndAt_blk h 4, ndAt_blk h 5, ndAt_blk h 6, ndAt_blk h 7⟩, fun j => by unfold World.frozen?; rw [h]; simp [ndB]⟩

set_option maxRecDepth 100000 in
set_option maxHeartbeats 8000000 in
theorem selectorX_any (B t : Nat) (lv : Value) (R : List NdV) (p : Ex.P) (w : World) (h : Pn w B t lv R p) (hll : p.s.length ≤ 2000) (hpl0 : p.l.length ≤ 100000) (hT : Lib.Utf8Tabs 6 7 w) (hw : 8 ≤ w.heap.size) (ht8 : 8 ≤ t) : Calls Tryz.prog 77 #[.pointer (some ⟨t, 0, none⟩)] w (SelPost w B t lv p) := by
  have H := Lib.hid h
  have HT := Lib.hid hT
  have PK := Lib.hid (peekX_any t lv p.s p.bad p.e w h.px (by omega))
  have hpl := peek_le p.s
  have hbl := bareF_le p.s
  clear h hT
  go_enter Tryz.func77, Tryz.ntmps77
  go_wp2_with fail
  refine PK.out.mono ?_
  rintro e w1 ⟨⟨x, rfl, hx⟩, g1, s1, h1, e1⟩
  have G1 := Lib.hid g1
  have H1 := Lib.hid h1
  have E1 := Lib.hid e1
  have HX := Lib.hid hx
  obtain ⟨c0, c1, c2, c3, f0, f1, f2, f3⟩ := px_cells h1
  have hxs : x.size = (Ex.peekW p.s).length := by rw [← hx, tl_len]
  have hs1 : s1.size = (bareF p.s).length := by rw [← e1, tl_len]
  have hxle : x.size ≤ s1.size := by omega
  have hx2 : x.size ≤ 2000 := by omega
  have HXS := Lib.hid hxs
  have PX2 : Hid (Pq (w1.setCell ⟨t, 0, none⟩ (.string (s1.extract x.size s1.size))) t lv { p with s := (bareF p.s).drop x.size }) := ⟨_, px_put0 h1, by rw [by_drop, e1]⟩
  have G2 : Hid (w.grownBy (w1.setCell ⟨t, 0, none⟩ (.string (s1.extract x.size s1.size))) (some t)) := grown_trans g1 (grown_setCell _ _ _ _)
  have NX := Lib.hid (nextQ_any t 123 lv _ _ PX2.out)
  rw [show Ex.nextP 123 { p with s := (bareF p.s).drop x.size } = (decide ((selA p).s.head? = some 123), selA p) from by
    unfold Ex.nextP Ex.bareP selA
    rw [hxs]] at NX
  clear PK hx e1 h1 g1 hxs hs1
  go_wp2_with fail
  refine NX.out.mono ?_
  rintro e w3 ⟨rfl, g3, px3⟩
  have G3 := Lib.hid (grown_trans G2.out g3)
  have P3 := Lib.hid px3
  have SW := Lib.hid (selW_eq p)
  have hsa : (selA p).s.length ≤ 2000 := by
    unfold selA
    have := bareF_le ((bareF p.s).drop (Ex.peekW p.s).length)
    simp only [List.length_drop] at this
    simp only
    omega
  clear NX G2 PX2 c0 c1 c2 c3 f0 f1 f2 f3 g3 px3
  obtain ⟨bq, hbq⟩ : ∃ b, b = decide ((selA p).s.head? = some 123) := ⟨_, rfl⟩
  rw [← hbq]
  have HBQ := Lib.hid hbq
  clear hbq
  go_upto_if 19 with fail
  go_cut [2] (fun v2 wx => ∃ y : ByteArray, v2 = .string y ∧ Hid (by_ y = (Ex.selW p).1) ∧ y.size ≤ 4000 ∧ Hid (w.grownBy wx (some t)) ∧ Hid (Pq wx t lv (Ex.selW p).2))
  case first =>
    cases bq with
    | true =>
      have hd : (selA p).s.head? = some 123 := of_decide_eq_true HBQ.out.symm
      have BR := Lib.hid (bracesX_any t lv (selA p) w3 P3.out (by omega))
      have S2 : Hid (Ex.selW p = (Ex.peekW p.s ++ (Ex.bracesE (selA p)).1, (Ex.bracesE (selA p)).2)) := by
        show _ = _
        rw [SW.out, if_pos hd]
      have hbz := bracesE_le (selA p)
      have hbe := bracesE_l (selA p)
      clear SW hd HBQ
      go_wp2_with fail
      refine BR.out.mono ?_
      rintro e w4 ⟨⟨z, rfl, hz⟩, g4, px4⟩
      have hzs : z.size ≤ 2000 := by have := congrArg List.length hz; rw [tl_len] at this; omega
      have G4 := Lib.hid (grown_trans G3.out g4)
      have hsum : ¬ (9223372036854775807 < x.size + z.size) := by omega
      clear BR g4
      go_wp2_with fail
      go_meet
      case rel =>
        refine ⟨x ++ z, rfl, ?_, by rw [ByteArray.size_append]; omega, G4, ?_⟩
        · show _ = _
          rw [S2.out]
          show (x ++ z).data.toList = _
          rw [ByteArray.data_append, Array.toList_append]
          show by_ x ++ by_ z = _
          rw [HX.out, hz]
        · show Pq _ _ _ _
          rw [S2.out]
          unfold Pq
          simp only
          rw [hbe.2]
          exact px4
    | false =>
      have hd : ¬ (selA p).s.head? = some 123 := of_decide_eq_false HBQ.out.symm
      have S2 : Hid (Ex.selW p = (Ex.peekW p.s, selA p)) := by
        show _ = _
        rw [SW.out, if_neg hd]
      clear SW hd HBQ
      go_wp2_with fail
      go_meet
      case rel => exact ⟨x, rfl, by show _ = _; rw [S2.out]; exact HX.out, by omega, G3, by show Pq _ _ _ _; rw [S2.out]; exact P3.out⟩
  case rest =>
    obtain ⟨y, rfl, HY, hy, GC, PC⟩ := hcut
    obtain ⟨eb, heb⟩ : ∃ b, y.toList.isEmpty = b := ⟨_, rfl⟩
    have HE : Hid (eb = (Ex.selW p).1.isEmpty) := by
      show _ = _
      rw [← heb, ← HY.out, tl_eq]
    obtain ⟨s4, h4, e4⟩ := PC.out
    obtain ⟨c0, c1, c2, c3, f0, f1, f2, f3⟩ := px_cells h4
    have H4 := Lib.hid h4
    have E4 := Lib.hid e4
    clear h4 e4 SW HBQ P3 G3 G1 H1 E1
    go_upto_if 25 with fail
    go_cut [] (fun wx => Hid (w.grownBy wx (some t)) ∧ Hid (Pq wx t lv (selB p)))
    case first =>
      cases eb with
      | true =>
        go_wp2_with fail
        go_meet
        case rel => exact ⟨grown_trans GC.out (grown_setCell _ _ _ _), s4, by show _ = some (pxC s4 lv ((Ex.selW p).2.bad || (Ex.selW p).1.isEmpty) (Ex.selW p).2.e); rw [← HE.out, Bool.or_true]; exact px_put2 H4.out, E4.out⟩
      | false =>
        go_wp2_with fail
        go_meet
        case rel => exact ⟨GC, s4, by show _ = some (pxC s4 lv ((Ex.selW p).2.bad || (Ex.selW p).1.isEmpty) (Ex.selW p).2.e); rw [← HE.out, Bool.or_false]; exact H4.out, E4.out⟩
    case rest =>
      obtain ⟨G5, P5⟩ := hcut
      clear H4 E4 c0 c1 c2 c3 f0 f1 f2 f3 GC PC heb HE
      obtain ⟨w5, hw5⟩ : ∃ x, x = wc.alloc (.cells #[.int .i64 1, .int .i64 0, .int .u64 0, .int .u64 0, .slice none 0 0, .bool false, .bool false, .slice none 0 0] 37) := ⟨_, rfl⟩
      have B5 : Below wc.heap.size wc w5 := by rw [hw5]; exact (Below.refl _ _).alloc (Nat.le_refl _) _
      obtain ⟨nb, hnb⟩ : ∃ n, n = wc.heap.size := ⟨_, rfl⟩
      have NB5 := Lib.hid (show w5.heap[nb]? = some (ndB { Ex.nd0 with k := 1 } (.slice none 0 0) (.slice none 0 0)) from by rw [hw5, hnb]; exact heap_alloc_new wc _)
      have hsz5 : w5.heap.size = nb + 1 := by rw [hw5, hnb]; simp
      have htc : t < nb := by rw [hnb]; exact Px.lt P5.out
      have hwn : w.heap.size ≤ nb := by rw [hnb]; exact G5.out.size
      have G5b := Lib.hid (grown_then G5.out B5)
      have P5b := Lib.hid (Px.below P5.out B5)
      have PT := Lib.hid (parseT_any y w5 (by omega) (tabs_below (tabs_grown HT.out ht8 G5.out) B5) (Nat.le_trans hw G5b.out.size))
      have HSZ := Lib.hid hsz5
      clear B5 hsz5
      go_upto_region 7 with fail
      rw [← hw5, ← hnb]
      clear hw5 hnb
      go_wp2_with fail
      refine PT.out.mono ?_
      rintro e w6 ⟨hb6, hp⟩
      have HP : ∃ A c, e = .returned (.tuple #[.slice A (selS p).length c, .int .i64 (selX p)]) ∧ MsR w6 w5.heap.size (.slice A (selS p).length c) (selS p) ∧ (∀ x, parseP (Ex.selW p).1 = .error x → x ≠ 0) := by
        rw [HY.out] at hp
        unfold selS selX
        cases hq : parseP (Ex.selW p).1 with
        | ok ms =>
          rw [hq] at hp
          obtain ⟨v, rfl, hm⟩ := hp
          obtain ⟨A, m, c, rfl⟩ := ownsRow_is hm
          obtain rfl : m = ms.length := by
            rcases row_kinds hm with ⟨e, h⟩ | ⟨g, c, e, _⟩
            · simp only [Value.slice.injEq] at e; rw [h]; exact e.2.1
            · simp only [Value.slice.injEq] at e; exact e.2.1
          exact ⟨A, c, rfl, hm, fun x hx => by cases hx⟩
        | error er =>
          rw [hq] at hp
          obtain ⟨he, rfl⟩ := hp
          exact ⟨none, 0, rfl, World.ownsRow_nil _ _ _ _, fun x hx => by cases hx; exact he⟩
      obtain ⟨A, c, rfl, hms, hxn⟩ := HP
      have SE := Lib.hid (selE_eq p hxn)
      have hfew : (selS p).length ≤ 1000000 := by
        unfold selS
        cases hq : parseP (Ex.selW p).1 with
        | ok ms => exact parseP_few hq
        | error er => exact Nat.zero_le _
      have HMS := Lib.hid hms
      have G6 := Lib.hid (grown_then G5b.out hb6)
      have P6 := Lib.hid (Px.below P5b.out hb6)
      have NB6 := Lib.hid ((hb6.block nb (by rw [HSZ.out]; omega)).trans NB5.out)
      have S6 := Lib.hid hb6.size
      clear PT hms hp hb6 hxn NB5 P5 P5b G5 G5b
      obtain ⟨s6, h6, e6⟩ := P6.out
      obtain ⟨c0, c1, c2, c3, f0, f1, f2, f3⟩ := px_cells h6
      have H6 := Lib.hid h6
      have E6 := Lib.hid e6
      have SC : Hid (selC p = { selB p with e := if (selX p != 0 && (selB p).e == 0) = true then selX p else (selB p).e }) := rfl
      have hlS : (selB p).l = p.l := (selW_l p).1
      clear h6 e6
      have hps : (selC p).s.length ≤ 2000 := Nat.le_trans (selW_le p) hsa
      generalize selX p = er at *
      generalize selC p = pc at *
      generalize selS p = sl at *
      generalize selB p = pb at *
      go_upto_region 8 with fail
      go_cut [43] (fun v43 wx => v43 = .bool (er != 0 && pb.e == 0) ∧ wx = w6)
      case first =>
        by_cases hx : er = 0
        · have x0 : (er != 0) = false := by simp [hx]
          go_wp2_with fail
          go_meet
          case rel => exact ⟨by rw [x0]; rfl, rfl⟩
        · have x0 : (er != 0) = true := by simpa using hx
          go_wp2_with fail
          go_meet
          case rel => exact ⟨by rw [x0, Bool.true_and], rfl⟩
      case rest =>
      obtain ⟨rfl, hw6⟩ := hcut
      obtain rfl := hw6.symm
      go_upto_if 43 with fail
      go_cut [] (fun wx => Hid (w6.grownBy wx (some t)) ∧ Hid (Pq wx t lv pc))
      case first =>
        cases hb : (er != 0 && pb.e == 0) with
        | false =>
          have E : Hid (pc = pb) := by show _ = _; rw [SC.out, hb]; simp
          clear SC
          go_wp2_with fail
          go_meet
          case rel => exact ⟨grown_refl _ _, by show Pq _ _ _ _; rw [E.out]; exact ⟨s6, H6.out, E6.out⟩⟩
        | true =>
          have E : Hid (pc = { pb with e := er }) := by show _ = _; rw [SC.out, hb]; simp
          clear SC
          go_wp2_with fail
          go_meet
          case rel => exact ⟨grown_setCell _ _ _ _, by show Pq _ _ _ _; rw [E.out]; exact ⟨s6, px_put3 H6.out, E6.out⟩⟩
      case rest =>
      obtain ⟨G7, P7⟩ := hcut
      have hnb6 : nb < w6.heap.size := by have := S6.out; rw [HSZ.out] at this; omega
      have NB7 := (G7.out.block nb hnb6 (fun e => by have := Option.some.inj e; omega)).trans NB6.out
      obtain ⟨⟨d0, d1, d2, d3, d4, d5, d6, d7⟩, fz⟩ := ndB_cells NB7
      have fz4 := fz 4
      have NB8 := Lib.hid (show (wc.setCell ⟨nb, 4, none⟩ (.slice A sl.length c)).heap[nb]? = some (ndB { Ex.nd0 with k := 1, sel := sl } (.slice A sl.length c) (.slice none 0 0)) from set1 NB7 _)
      have P8 : Hid (Pq (wc.setCell ⟨nb, 4, none⟩ (.slice A sl.length c)) t lv pc) := Px.grown P7.out (grown_setCell wc nb 4 _) (fun e => by have := Option.some.inj e; omega)
      have F8 := Lib.hid ((Fx.of_grown nb G7.out).trans (Fx.of_set wc t nb 4 (.slice A sl.length c)))
      have HA := Lib.hid (hasQ_any t ⟨#[91]⟩ lv pc _ P8.out)
      rw [show by_ (⟨#[91]⟩ : ByteArray) = [91] from rfl] at HA
      have hhl : (Ex.hasP [91] pc).2.l = p.l := by rw [hasP_l]; have := SC.out; rw [this]; exact hlS
      have hle := hasP_le [91] pc
      have hpc : pc.s.length ≤ 4000 := by omega
      clear NB6 NB7 c0 c1 c2 c3 f0 f1 f2 f3 H6 E6 SC fz
      generalize (Ex.hasP [91] pc).1 = hb at *
      generalize (Ex.hasP [91] pc).2 = ph at *
      go_wp2_with fail
      refine HA.out.mono ?_
      rintro e w9 ⟨rfl, g9, px9⟩
      have F9 := Lib.hid (F8.out.trans (Fx.of_grown nb g9))
      have P9 := Lib.hid px9
      have NB9 := Lib.hid ((g9.block nb (Nat.lt_of_lt_of_le hnb6 F8.out.size) (fun e => by have := Option.some.inj e; omega)).trans NB8.out)
      clear HA NB8 P8 F8 g9 px9 d0 d1 d2 d3 d4 d5 d6 d7 fz4
      go_upto_if 51 with fail
      go_cut [] (fun wx => ∃ (n : Ex.Nd) (p3 : Ex.P), Hid (Ex.selE p = Ex.putP n p3) ∧ n.sel = sl ∧ n.nm = [] ∧ n.v = 0 ∧ n.wd < 18446744073709551616 ∧ p3.l = p.l ∧ Hid (Pq wx t lv p3) ∧ Hid (Fx w6 wx t nb) ∧ Hid (wx.heap[nb]? = some (ndB n (.slice A sl.length c) (.slice none 0 0))))
      case first =>
        cases hb with
        | false =>
          go_wp2_with fail
          go_meet
          case rel => exact ⟨{ Ex.nd0 with k := 1, sel := sl }, ph, by show _ = _; rw [SE.out]; rfl, rfl, rfl, rfl, (by show 0 < 18446744073709551616; decide), hhl, P9, F9, NB9⟩
        | true =>
          obtain ⟨⟨d0, d1, d2, d3, d4, d5, d6, d7⟩, fz⟩ := ndB_cells NB9.out
          have fz0 := fz 0
          have hnb9 : nb < w9.heap.size := Nat.lt_of_lt_of_le hnb6 F9.out.size
          have htn : some t ≠ some nb := fun e => by have := Option.some.inj e; omega
          have P10 : Hid (Pq (w9.setCell ⟨nb, 0, none⟩ (.int .i64 2)) t lv ph) := Px.grown P9.out (grown_setCell w9 nb 0 _) htn
          have NB10 := Lib.hid (show (w9.setCell ⟨nb, 0, none⟩ (.int .i64 2)).heap[nb]? = some (ndB { Ex.nd0 with k := 2, sel := sl } (.slice A sl.length c) (.slice none 0 0)) from set1 NB9.out _)
          have F10 := Lib.hid (F9.out.trans (Fx.of_set w9 t nb 0 (.int .i64 2)))
          have WH := Lib.hid (wholeX_any t lv ph 9223372036854775807 _ P10.out (by omega) (by decide) (by decide))
          rw [show ((9223372036854775807 : Nat) : Int) = 9223372036854775807 from rfl] at WH
          have hwl := wholeP_le 9223372036854775807 ph
          have hsz10 : nb < (w9.setCell ⟨nb, 0, none⟩ (.int .i64 2)).heap.size := Nat.lt_of_lt_of_le hnb6 F10.out.size
          have SE2 : Hid (Ex.selE p = Ex.putP { Ex.nd0 with k := 2, wd := (Ex.wholeP 9223372036854775807 ph).1, sel := sl } (Ex.mustP [93] (Ex.wholeP 9223372036854775807 ph).2)) := by show _ = _; rw [SE.out]; rfl
          have hpl2 : (Ex.mustP [93] (Ex.wholeP 9223372036854775807 ph).2).l = p.l := by rw [mustP_l, wholeP_l]; exact hhl
          have hqe := wholeP_e 9223372036854775807 ph
          clear P9 NB9 F9 SE fz
          generalize (Ex.wholeP 9223372036854775807 ph).1 = qn at *
          generalize (Ex.wholeP 9223372036854775807 ph).2 = q2 at *
          go_wp2_with fail
          refine WH.out.mono ?_
          rintro e w11 ⟨rfl, g11, px11⟩
          have P11 : Pq w11 t lv q2 := by unfold Pq; rw [hqe]; exact px11
          have NB11 := (g11.block nb hsz10 (fun e => htn e.symm)).trans NB10.out
          have F11 := Lib.hid (F10.out.trans (Fx.of_grown nb g11))
          obtain ⟨⟨a0, a1, a2, a3, a4, a5, a6, a7⟩, fy⟩ := ndB_cells NB11
          have fy3 := fy 3
          have P12 : Hid (Pq (w11.setCell ⟨nb, 3, none⟩ (.int .u64 (qn : Int))) t lv q2) := Px.grown P11 (grown_setCell w11 nb 3 _) htn
          have NB12 := Lib.hid (show (w11.setCell ⟨nb, 3, none⟩ (.int .u64 (qn : Int))).heap[nb]? = some (ndB { Ex.nd0 with k := 2, wd := qn, sel := sl } (.slice A sl.length c) (.slice none 0 0)) from set1 NB11 _)
          have F12 := Lib.hid (F11.out.trans (Fx.of_set w11 t nb 3 (.int .u64 (qn : Int))))
          have MU := Lib.hid (mustQ_any t ⟨#[93]⟩ lv q2 _ P12.out)
          rw [show by_ (⟨#[93]⟩ : ByteArray) = [93] from rfl] at MU
          have hsz12 : nb < (w11.setCell ⟨nb, 3, none⟩ (.int .u64 (qn : Int))).heap.size := Nat.lt_of_lt_of_le hnb6 F12.out.size
          clear WH P10 NB10 F10 d0 d1 d2 d3 d4 d5 d6 d7 fz0 px11 g11 P11 NB11 F11 fy
          go_wp2_with fail
          refine MU.out.mono ?_
          rintro e w13 ⟨rfl, g13, px13⟩
          have P13 := Lib.hid px13
          have NB13 := Lib.hid ((g13.block nb hsz12 (fun e => htn e.symm)).trans NB12.out)
          have F13 := Lib.hid (F12.out.trans (Fx.of_grown nb g13))
          clear MU P12 NB12 F12 a0 a1 a2 a3 a4 a5 a6 a7 fy3 px13 g13
          go_wp2_with fail
          go_meet
          case rel => exact ⟨{ Ex.nd0 with k := 2, wd := qn, sel := sl }, Ex.mustP [93] q2, SE2, rfl, rfl, rfl, (by show qn < _; omega), hpl2, P13, F13, NB13⟩
      case rest =>
      obtain ⟨n, p3, SE3, hsl, hnm, hnv, hnw, hp3, P14, F14, NB14⟩ := hcut
      have G14 : w.grownBy wc (some t) := ⟨F14.out.os.trans G6.out.os, F14.out.tape.trans G6.out.tape, F14.out.output.trans G6.out.output, Nat.le_trans G6.out.size F14.out.size, fun q hq hn => (F14.out.block q (Nat.lt_of_lt_of_le hq G6.out.size) (fun e => hn (by rw [e])) (by omega)).trans (G6.out.block q hq hn)⟩
      obtain ⟨PN, FE⟩ := H.out.small G14 P14.out hp3
      have PNH := Lib.hid PN
      have FEH := Lib.hid FE
      have hlv : ∀ q, lv.ownBlock = some q → q < w.heap.size := fun q hq => (World.ownsRow.lt H.out.row q hq).2
      have hBn : B ≤ nb + 1 := by have := H.out.size; omega
      have hown : ∀ q, (Value.slice A sl.length c).ownBlock = some q → nb + 1 ≤ q ∧ q < w6.heap.size := fun q hq => by
        have := World.ownsRow.lt HMS.out q hq
        rw [HSZ.out] at this
        exact this
      have HIN : Hid (NdIn wc B lv (n, .slice A sl.length c, .slice none 0 0)) := by
        refine ⟨?_, ?_, ?_, ?_, ?_, hnw, ?_⟩
        · show Ms0 wc (.slice A sl.length c) n.sel
          rw [hsl]
          refine (own_ms HMS.out hfew).keep fun q hq hl => ?_
          have := hown q hq
          exact F14.out.block q hl (by omega) (by omega)
        · show Ws0 wc (.slice none 0 0) n.nm
          rw [hnm]
          exact ⟨none, 0, rfl, Nat.le_refl _, fun e => absurd rfl e⟩
        · intro q hq
          have := hown q hq
          exact ⟨by omega, Nat.lt_of_lt_of_le this.2 F14.out.size, fun e => by have := hlv q e.symm; omega⟩
        · intro q hq; cases hq
        · show n.v < _; rw [hnv]; decide
        · show n.sel.length ≤ _; rw [hsl]; exact hfew
      obtain ⟨⟨d0, d1, d2, d3, d4, d5, d6, d7⟩, fz⟩ := ndB_cells NB14.out
      obtain ⟨s14, h14, _⟩ := id P14.out
      obtain ⟨c0, c1, c2, c3, f0, f1, f2, f3⟩ := px_cells h14
      have lt14 : t < wc.heap.size := Px.lt P14.out
      have nt14 : nb < wc.heap.size := Nat.lt_of_lt_of_le hnb6 F14.out.size
      obtain ⟨i0, hi, hz0, hz1, hz2⟩ := info_parts infoNode
      have I0 : Hid (i0.zero = some (.agg #[.int .i64 0, .int .i64 0, .int .u64 0, .int .u64 0, .slice none 0 0, .bool false, .bool false, .slice none 0 0]) ∧ i0.size = 8 ∧ i0.bytes = 88 ∧ Tryz.prog.info? 37 = some i0) := ⟨hz0, hz1, hz2, hi⟩
      have BD : Below wc.heap.size wc ((wc.alloc (ndB n (.slice A sl.length c) (.slice none 0 0))).drew) := ((Below.refl _ _).alloc (Nat.le_refl _) _).drew
      have OWD := Lib.hid ((PN.below BD).1.row)
      have ONE := Lib.hid (ndV_one n A none sl.length c 0 0)
      have NEWS : Hid (∀ j u, (ndV n (.slice A sl.length c) (.slice none 0 0))[j]? = some u → ((wc.alloc (ndB n (.slice A sl.length c) (.slice none 0 0))).drew).cell? ((⟨wc.heap.size, 0, none⟩ : Addr).add j) = some u) := news_nd wc _ n _ _ rfl
      have SZD : Hid (B ≤ ((wc.alloc (ndB n (.slice A sl.length c) (.slice none 0 0))).drew).heap.size) := Nat.le_trans PN.size BD.size
      have BDH := Lib.hid BD
      obtain ⟨A3, m3, cap3, hL⟩ := ownsRow_is PN.row
      have HL := Lib.hid hL
      have hR : R.length ≤ 100000 := by
        have := congrArg List.length H.out.nds
        rw [List.length_map] at this
        omega
      have hA : Hid (R.length + 1 ≤ maxLen) := by show _ ≤ _; unfold maxLen; omega
      have hBy : Hid ((R.length + 1) * 88 ≤ 140737488355328) := by show _ ≤ _; omega
      rw [hL] at c1
      clear hsl hnm hnv hnw hi hz0 hz1 hz2 PN FE BD h14 hL P14 F14 NB14 HMS HSZ S6 G6 G7 P7 hown hlv SE
      unfold ndB at OWD NEWS SZD BDH
      go_upto_region 15 with fail
      go_region_law (refine step_append_lies _ rfl (.tmp 62) (.tmp 64) 22 rfl B 37 i0 (.agg #[.int .i64 0, .int .i64 0, .int .u64 0, .int .u64 0, .slice none 0 0, .bool false, .bool false, .slice none 0 0]) 8 88 Tryz.underlying22 I0.out.2.2.2 I0.out.1 I0.out.2.1 I0.out.2.2.1 rfl (by decide) lv R.length _ HL.out.symm OWD.out _ 1 1 (ndV n (.slice A sl.length c) (.slice none 0 0)) rfl rfl NEWS.out ONE.out (by decide) hA.out hBy.out SZD.out _ rfl ?_; intro g8 cap8 w8 own8 grow8 at8 lt8; obtain ⟨k1, kf, hpn, hfe⟩ := PNH.out.push2 BDH.out grow8 own8 at8 rfl HIN.out; have HS := Lib.hid (And.intro hpn hfe); clear hpn hfe own8 grow8 at8 lt8)
      all_goals
        have S9 := Lib.hid (FEH.out.trans HS.out.2)
        go_wp2_with fail
        exact bodyPost_ret (v := .tuple #[]) (by simp [results, Tryz.results77, go_sem]) rfl ⟨rfl, _, _, by rw [SE3.out]; exact HS.out.1, S9.out⟩
end Go.Proofs.YtmbfpichaaanpaaGreatDoor
