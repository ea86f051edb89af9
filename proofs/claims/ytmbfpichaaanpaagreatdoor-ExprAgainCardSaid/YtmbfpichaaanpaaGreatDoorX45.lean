import Derived.Test.YtmbfpichaaanpaaGreatDoorX44
import Derived.Deep.CutBlock
/-! Expressions printed: the text of a part. -/
namespace Go.Proofs.YtmbfpichaaanpaaGreatDoor
open Go.RowKit Ut Rx Mt

/-- a node's own block -/
def bxW (w : World) (n : Ex.Nd) (sv nv : Value) : World := w.alloc (.cells #[.int .i64 n.k, .int .i64 n.op, .int .u64 (n.v : Int), .int .u64 (n.wd : Int), sv, .bool n.bl, .bool n.gb, nv] 37)
/-- what a part wants -/
structure Tx0 (w : World) (lv : Value) (pre post : List Ex.Nd) (T : Ex.Tr) : Prop where
  es : Es0 w lv (pre ++ T.nds ++ post)
  ok : T.ok
  sz : ∀ n ∈ T.nds, Ex.NdSz n
  wt : Wt w
  low : 8 ≤ w.heap.size
  few : pre.length + T.nds.length + post.length ≤ 1000
theorem Tx0.below {w w' : World} {lv : Value} {pre post : List Ex.Nd} {T : Ex.Tr} (h : Tx0 w lv pre post T) (b : Below w.heap.size w w') : Tx0 w' lv pre post T :=
  ⟨h.es.below b, h.ok, h.sz, h.wt.low (t := 8) (Nat.le_refl _) (b.mono h.low), Nat.le_trans h.low b.size, h.few⟩
def TxC (T : Ex.Tr) : Prop := ∀ (pre post : List Ex.Nd) (lv : Value) (w : World), Tx0 w lv pre post T → Calls Tryz.prog 25 #[lv, .int .i64 ((pre.length + T.nds.length : Nat) - 1 : Int)] w (StBelow w (Ex.txt flX T))
/-- the node is found -/
theorem Tx0.node {w : World} {A : Option Addr} {m c : Nat} {pre post : List Ex.Nd} {T : Ex.Tr} (h : Tx0 w (.slice A m c) pre post T) : ∃ b off sv nv, A = some ⟨b, off, none⟩ ∧ m = (pre ++ T.nds ++ post).length ∧ NdAt w b (off + (pre.length + T.nds.length - 1) * 8) T.root sv nv := by
  obtain ⟨A', c', e, hc, hl⟩ := h.es
  simp only [Value.slice.injEq] at e
  obtain ⟨rfl, rfl, rfl⟩ := e
  have hp := T.pos
  have hlt : pre.length + T.nds.length - 1 < (pre ++ T.nds ++ post).length := by simp only [List.length_append]; omega
  obtain ⟨b, off, rfl, hcell⟩ := hl (fun e => by rw [e] at hlt; simp at hlt)
  obtain ⟨sv, nv, hn⟩ := hcell _ hlt
  have := Ex.get_root pre post T
  rw [List.getElem?_eq_getElem hlt] at this
  rw [Option.some.inj this] at hn
  exact ⟨b, off, sv, nv, rfl, rfl, hn⟩
/-- the node is found, its cells -/
structure Lo (w : World) (b off i m c : Nat) (n : Ex.Nd) (A1 : Option Addr) (c1 : Nat) (A2 : Option Addr) (c2 : Nat) : Prop where
  lt : i < m
  small : m ≤ 1000
  nd : NdAt w b (off + i * 8) n (.slice A1 n.sel.length c1) (.slice A2 n.nm.length c2)
  ms : Ms w (.slice A1 n.sel.length c1) n.sel
  cap : n.sel.length ≤ c1
theorem Tx0.load {w : World} {lv : Value} {pre post : List Ex.Nd} {T : Ex.Tr} (h : Tx0 w lv pre post T) : ∃ (b off i m c : Nat) (A1 : Option Addr) (c1 : Nat) (A2 : Option Addr) (c2 : Nat), lv = .slice (some ⟨b, off, none⟩) m c ∧ ((pre.length + T.nds.length : Nat) - 1 : Int) = (i : Int) ∧ i + 1 = pre.length + T.nds.length ∧ Lo w b off i m c T.root A1 c1 A2 c2 := by
  obtain ⟨A, m, c, rfl⟩ : ∃ A m c, lv = .slice A m c := by obtain ⟨A, c, e, _⟩ := h.es; exact ⟨A, _, c, e⟩
  obtain ⟨b, off, sv, nv, rfl, hm, hn⟩ := h.node
  have hp := T.pos
  have hf := h.few
  have hlen : m = pre.length + T.nds.length + post.length := by rw [hm]; simp only [List.length_append]
  obtain ⟨A1, c1, hsv, hcap, hsl⟩ := id hn.sel
  obtain ⟨A2, c2, hnv, _, _⟩ := id hn.nm
  have hroot : T.root ∈ T.nds := by
    cases T with
    | lf n => simp [Ex.Tr.nds, Ex.Tr.root]
    | un n b => simp [Ex.Tr.nds, Ex.Tr.root]
    | bi n a b => simp [Ex.Tr.nds, Ex.Tr.root]
  have hs := (h.sz _ hroot).sl
  subst hsv
  subst hnv
  exact ⟨b, off, pre.length + T.nds.length - 1, m, c, A1, c1, A2, c2, rfl, by omega, by omega, by omega, by omega, hn, ⟨A1, c1, rfl, by omega, hsl⟩, hcap⟩
/-- the node's own block, and what stands in it -/
theorem bx_facts {w : World} (n : Ex.Nd) (sv nv : Value) : Below w.heap.size w (bxW w n sv nv) ∧ (bxW w n sv nv).heap[w.heap.size]? = some (ndB n sv nv) := ⟨(Below.refl _ _).alloc (Nat.le_refl _) _, heap_alloc_new w _⟩
set_option maxRecDepth 100000 in
set_option maxHeartbeats 8000000 in
theorem textLf_any (n : Ex.Nd) : TxC (.lf n) := by
  intro pre post lv w h
  obtain ⟨b, off, i, m, c, A1, cc1, A2, cc2, rfl, hi, _, L⟩ := h.load
  rw [hi]
  obtain ⟨r, hr⟩ : ∃ r, r = Ex.txt flX (.lf n) := ⟨_, rfl⟩
  have E : Hid (r = if n.k = 0 then Ex.numE flX n.v else if n.k = 1 then Ex.selT n.sel else Ex.selT n.sel ++ [91] ++ Ex.digF n.wd ++ [93]) := hr
  rw [← hr]
  have HH := Lib.hid h
  have LL := Lib.hid L
  have hlti : (i : Int) < m := by have := L.lt; omega
  have hlt := L.lt
  have hms := L.small
  have nd := L.nd
  rw [show (Ex.Tr.lf n).root = n from rfl] at nd LL
  obtain ⟨c0, c1, c2, c3, c4, c5, c6, c7⟩ : _ ∧ _ ∧ _ ∧ _ ∧ _ ∧ _ ∧ _ ∧ _ := ⟨nd.c0, nd.c1, nd.c2, nd.c3, nd.c4, nd.c5, nd.c6, nd.c7⟩
  clear hr h hi L nd
  go_enter Tryz.func25, Tryz.ntmps25
  go_upto_region 2 with fail
  obtain ⟨W1, hW1⟩ : ∃ x, x = bxW w n (.slice A1 n.sel.length cc1) (.slice A2 n.nm.length cc2) := ⟨_, rfl⟩
  have bx := bx_facts (w := w) n (.slice A1 n.sel.length cc1) (.slice A2 n.nm.length cc2)
  rw [← hW1] at bx
  have B1 := Lib.hid bx.1
  have HN := Lib.hid bx.2
  obtain ⟨nb, hnb⟩ : ∃ n, n = w.heap.size := ⟨_, rfl⟩
  obtain ⟨⟨d0, d1, d2, d3, d4, d5, d6, d7⟩, fz⟩ := ndB_cells bx.2
  unfold bxW at hW1
  rw [← hW1, ← hnb]
  rw [← hnb] at d0 d1 d2 d3 d4 d5 d6 d7 HN
  have hnw : nb < W1.heap.size := by rw [hW1, hnb]; simp
  have MS := Lib.hid (LL.out.ms.below bx.1)
  have H1 := Lib.hid (HH.out.below bx.1)
  have SZ := Lib.hid (HH.out.sz n (by simp [Ex.Tr.nds]))
  clear hW1 hnb bx fz c0 c1 c2 c3 c4 c5 c6 c7 hlti hlt hms
  rcases Ex.takes_lf HH.out.ok.1 with hk | hk | hk
  · have E2 : Hid (r = Ex.numE flX n.v) := by show _ = _; rw [E.out, if_pos hk]
    rw [hk] at d0
    have NM := Lib.hid (numberX_any n.v W1 LL.out.nd.hv)
    clear E hk
    go_wp2_with fail
    refine NM.out.mono ?_
    rintro e w2 ⟨rfl, b2⟩
    have B2 := Lib.hid (B1.out.trans (b2.mono B1.out.size))
    go_wp2_with fail
    refine bodyPost_ret (v := .string ⟨(Ex.numE flX n.v).toArray⟩) (by simp [results, Tryz.results25, go_sem]) rfl ?_
    rw [E2.out]
    exact ⟨rfl, B2.out⟩
  · have E2 : Hid (r = Ex.selT n.sel) := by show _ = _; rw [E.out, if_neg (by omega), if_pos hk]
    rw [hk] at d0
    have SL := Lib.hid (selTX_any n.sel A1 cc1 W1 MS.out LL.out.cap SZ.out.sl SZ.out.ss H1.out.wt H1.out.low)
    clear E hk
    go_wp2_with fail
    refine SL.out.mono ?_
    rintro e w2 ⟨rfl, b2⟩
    have B2 := Lib.hid (B1.out.trans (b2.mono B1.out.size))
    go_wp2_with fail
    refine bodyPost_ret (v := .string ⟨(Ex.selT n.sel).toArray⟩) (by simp [results, Tryz.results25, go_sem]) rfl ?_
    rw [E2.out]
    exact ⟨rfl, B2.out⟩
  · have E2 : Hid (r = Ex.selT n.sel ++ [91] ++ Ex.digF n.wd ++ [93]) := by show _ = _; rw [E.out, if_neg (by omega), if_neg (by omega)]
    rw [hk] at d0
    have SL : Hid (∀ w', Below W1.heap.size W1 w' → Calls Tryz.prog 49 #[.slice A1 n.sel.length cc1] w' (fun e w9 => e = .returned (.string ⟨(Ex.selT n.sel).toArray⟩) ∧ Below W1.heap.size W1 w9)) := fun w' b' => (selTX_any n.sel A1 cc1 w' (MS.out.below b') LL.out.cap SZ.out.sl SZ.out.ss (H1.out.below b').wt (H1.out.below b').low).mono fun e w9 h => ⟨h.1, b'.trans (h.2.mono b'.size)⟩
    have DG : Hid (∀ w', Below W1.heap.size W1 w' → Calls Tryz.prog 50 #[.int .u64 (n.wd : Int)] w' (fun e w9 => e = .returned (.string ⟨(Ex.digF n.wd).toArray⟩) ∧ Below W1.heap.size W1 w9)) := fun w' b' => (digitsX_any n.wd w' LL.out.nd.hw).mono fun e w9 h => ⟨h.1, b'.trans (h.2.mono b'.size)⟩
    have KP : Hid (∀ w', Below W1.heap.size W1 w' → w'.cell? ⟨nb, 4, none⟩ = some (.slice A1 n.sel.length cc1) ∧ w'.cell? ⟨nb, 3, none⟩ = some (.int .u64 (n.wd : Int)) ∧ Below W1.heap.size W1 w') := fun w' b' => ⟨(b'.cell (World.block_lt_of_cell? W1 _ d4)).trans d4, (b'.cell (World.block_lt_of_cell? W1 _ d3)).trans d3, b'⟩
    have hb0 : Below W1.heap.size W1 W1 := Below.refl _ _
    have l1 := Ex.selT_len SZ.out
    have l2 : (Ex.digF n.wd).length ≤ 21 := Ex.digGo_len 20 n.wd
    obtain ⟨sS, hsS⟩ : ∃ s : ByteArray, s = ⟨(Ex.selT n.sel).toArray⟩ := ⟨_, rfl⟩
    obtain ⟨sD, hsD⟩ : ∃ s : ByteArray, s = ⟨(Ex.digF n.wd).toArray⟩ := ⟨_, rfl⟩
    rw [← hsS] at SL
    rw [← hsD] at DG
    have z1 : sS.size ≤ 200000000000 := by rw [hsS]; exact l1
    have z2 : sD.size ≤ 21 := by rw [hsD]; exact l2
    have FIN : Hid (⟨(Ex.selT n.sel ++ [91] ++ Ex.digF n.wd ++ [93]).toArray⟩ = (sS ++ ⟨#[91]⟩ ++ sD ++ ⟨#[93]⟩ : ByteArray)) := by
      apply by_inj
      rw [by_app, by_app, by_app, hsS, hsD, by_mk, by_mk, by_mk]
    have y1 : (sS ++ ⟨#[91]⟩ : ByteArray).size = sS.size + 1 := by rw [ByteArray.size_append]; rfl
    have y2 : (sS ++ ⟨#[91]⟩ ++ sD : ByteArray).size = sS.size + 1 + sD.size := by rw [ByteArray.size_append, y1]
    have x1 : ¬ 9223372036854775807 < sS.size + 1 := by omega
    have x2 : ¬ 9223372036854775807 < sS.size + 1 + sD.size := by omega
    have x3 : ¬ 9223372036854775807 < sS.size + 1 + sD.size + 1 := by omega
    clear E hk hsS hsD l1 l2 y1 y2 z1 z2
    go_upto_region 8 with fail
    go_region_held3 (fun w' => w'.cell? ⟨nb, 4, none⟩ = some (.slice A1 n.sel.length cc1) ∧ w'.cell? ⟨nb, 3, none⟩ = some (.int .u64 (n.wd : Int)) ∧ Below W1.heap.size W1 w')
      ((refine KP.out _ ?_; (try go_split_ands); (repeat (first | refine Below.drew ?_ | refine below_drewN ?_ _)); assumption))
      ((first
        | (go_at_call 49; refine Calls.mono (SL.out _ ?_) ?_; (repeat (first | refine Below.drew ?_ | refine below_drewN ?_ _)); assumption; rintro e w2 ⟨rfl, hb2⟩)
        | (go_at_call 50; refine Calls.mono (DG.out _ ?_) ?_; (repeat (first | refine Below.drew ?_ | refine below_drewN ?_ _)); assumption; rintro e w3 ⟨rfl, hb3⟩)))
    have B3 := Lib.hid (B1.out.trans (hb3.mono B1.out.size))
    clear KP SL DG hb0 hb2 hb3
    go_wp2_with fail
    refine bodyPost_ret (v := .string (sS ++ ⟨#[91]⟩ ++ sD ++ ⟨#[93]⟩)) (by simp [results, Tryz.results25, go_sem]) rfl ?_
    rw [E2.out, StBelow, FIN.out]
    exact ⟨rfl, B3.out⟩
end Go.Proofs.YtmbfpichaaanpaaGreatDoor

/-! Expressions printed: a part of one. -/
namespace Go.Proofs.YtmbfpichaaanpaaGreatDoor
open Go.RowKit Ut Rx Mt

theorem nth_word {l : List (List UInt8)} {o : Nat} (h : o < l.length) : ∃ x, l[o]? = some x ∧ Ex.nthT l (o : Int) = x := by
  refine ⟨l[o], List.getElem?_eq_getElem h, ?_⟩
  unfold Ex.nthT
  rw [List.getD_eq_getElem?_getD, show (o : Int).toNat = o from by omega, List.getElem?_eq_getElem h]
  rfl
/-- a node's cells are kept -/
theorem nd_keep {w w' : World} {b : Nat} {n : Ex.Nd} {sv nv : Value} (h : w.heap[b]? = some (ndB n sv nv)) (bl : Below w.heap.size w w') : w'.heap[b]? = some (ndB n sv nv) := (bl.block b (Array.getElem?_eq_some_iff.1 h).1).trans h
theorem Tx0.sub1 {w : World} {lv : Value} {pre post : List Ex.Nd} {n : Ex.Nd} {b : Ex.Tr} (h : Tx0 w lv pre post (.un n b)) : Tx0 w lv pre (n :: post) b :=
  ⟨by have := h.es; rw [show pre ++ (Ex.Tr.un n b).nds ++ post = pre ++ b.nds ++ (n :: post) from by simp [Ex.Tr.nds]] at this; exact this, h.ok.2.2.2, fun x hx => h.sz x (by simp [Ex.Tr.nds, hx]), h.wt, h.low, by have := h.few; simp only [Ex.Tr.nds, List.length_append, List.length_cons, List.length_nil] at *; omega⟩
/-- the frame of a fact: nothing new is touched -/
def StF (W : World) (s : ByteArray) (e : Ending) (w' : World) : Prop := e = .returned (.string s) ∧ Below W.heap.size W w'
set_option maxRecDepth 100000 in
set_option maxHeartbeats 16000000 in
theorem textUn_any (n : Ex.Nd) (b : Ex.Tr) (ih : TxC b) : TxC (.un n b) := by
  intro pre post lv w h
  obtain ⟨b0, off, i, m, c, A1, cc1, A2, cc2, rfl, hi, hi1, L⟩ := h.load
  rw [hi]
  obtain ⟨r, hr⟩ : ∃ r, r = Ex.txt flX (.un n b) := ⟨_, rfl⟩
  have E := Lib.hid hr
  rw [← hr]
  have HH := Lib.hid h
  have LL := Lib.hid L
  have hlti : (i : Int) < m := by have := L.lt; omega
  have hlt := L.lt
  have hms := L.small
  have nd := L.nd
  rw [show (Ex.Tr.un n b).root = n from rfl] at nd LL
  obtain ⟨c0, c1, c2, c3, c4, c5, c6, c7⟩ : _ ∧ _ ∧ _ ∧ _ ∧ _ ∧ _ ∧ _ ∧ _ := ⟨nd.c0, nd.c1, nd.c2, nd.c3, nd.c4, nd.c5, nd.c6, nd.c7⟩
  clear hr h hi L nd
  go_enter Tryz.func25, Tryz.ntmps25
  go_upto_region 2 with fail
  obtain ⟨W1, hW1⟩ : ∃ x, x = bxW w n (.slice A1 n.sel.length cc1) (.slice A2 n.nm.length cc2) := ⟨_, rfl⟩
  have bx := bx_facts (w := w) n (.slice A1 n.sel.length cc1) (.slice A2 n.nm.length cc2)
  rw [← hW1] at bx
  have B1 := Lib.hid bx.1
  obtain ⟨nb, hnb⟩ : ∃ n, n = w.heap.size := ⟨_, rfl⟩
  have HN := Lib.hid bx.2
  obtain ⟨⟨d0, d1, d2, d3, d4, d5, d6, d7⟩, fz⟩ := ndB_cells bx.2
  unfold bxW at hW1
  rw [← hW1, ← hnb]
  rw [← hnb] at d0 d1 d2 d3 d4 d5 d6 d7 HN
  have H1 := Lib.hid (HH.out.below bx.1)
  have SZ := Lib.hid (HH.out.sz n (by simp [Ex.Tr.nds]))
  have hop := Ex.alone_op HH.out.ok.2.1
  have lenT := HH.out.few
  have hidx : pre.length + b.nds.length = i := by simp only [Ex.Tr.nds, List.length_append, List.length_singleton] at hi1; omega
  have IH := Lib.hid (ih pre (n :: post) _ W1 H1.out.sub1)
  rw [hidx] at IH
  have tl := Ex.txt_len flX b H1.out.sub1.sz
  have hbl : b.nds.length ≤ 1000 := by simp only [Ex.Tr.nds, List.length_append, List.length_singleton] at lenT; omega
  obtain ⟨sB, hsB⟩ : ∃ s : ByteArray, s = ⟨(Ex.txt flX b).toArray⟩ := ⟨_, rfl⟩
  unfold StBelow at IH
  rw [← hsB] at IH
  have zB : sB.size ≤ 1000000000000000 := by rw [hsB]; show (Ex.txt flX b).length ≤ _; omega
  have SB : Hid (by_ sB = Ex.txt flX b) := by show _ = _; rw [hsB, by_mk]
  have E0 : Hid (r = if n.k = 3 then Ex.nthT Ex.callsT n.op ++ [40] ++ by_ sB ++ [41] else if n.k = 4 then [40, 45] ++ by_ sB ++ [41] else Ex.nthT Ex.aggsT n.op ++ Ex.groupT n ++ [40] ++ by_ sB ++ [41]) := by
    show _ = _
    rw [SB.out]
    exact E.out
  have TK := Lib.hid (fun w' => takes_any n (.slice A1 n.sel.length cc1) (.slice A2 n.nm.length cc2) w')
  rw [HH.out.ok.1] at TK
  unfold ndA IntBelow at TK
  have hki := Ex.takes_un HH.out.ok.1
  clear hW1 hnb bx fz c0 c1 c2 c3 c4 c5 c6 c7 tl hbl hsB hidx E lenT hi1
  rcases hki with hk | hk | ⟨hk, hk5⟩
  · have E2 : Hid (r = Ex.nthT Ex.callsT n.op ++ [40] ++ by_ sB ++ [41]) := by show _ = _; rw [E0.out, if_pos hk]
    have HK := Lib.hid hk
    rw [hk] at d0
    have hop2 : n.op < 15 := by have := hop.2; rw [hk] at this; exact this (by decide)
    obtain ⟨o, ho⟩ : ∃ o : Nat, n.op = (o : Int) := ⟨n.op.toNat, by omega⟩
    rw [ho] at d1 hop2
    have HO := Lib.hid ho
    clear hk E0 ho hop
    go_wp2_with fail
    refine IH.out.mono ?_
    rintro e W2 ⟨rfl, b2⟩
    have N2 := Lib.hid (nd_keep HN.out b2)
    have B2 := Lib.hid (B1.out.trans (b2.mono B1.out.size))
    have H2 := Lib.hid (H1.out.below b2)
    obtain ⟨⟨x0, x1, x2, x3, x4, x5, x6, x7⟩, fx⟩ := ndB_cells N2.out
    rw [HK.out] at x0
    rw [HO.out] at x1
    have T2 := TK.out W2
    rw [HK.out, HO.out] at T2
    have T2 := Lib.hid T2
    clear d0 d1 d2 d3 d4 d5 d6 d7 HN b2 IH fx
    go_wp2_with fail
    refine T2.out.mono ?_
    rintro e W3 ⟨rfl, b3⟩
    have N3 := Lib.hid (nd_keep N2.out b3)
    have B3 := Lib.hid (B2.out.trans (b3.mono B2.out.size))
    have H3 := Lib.hid (H2.out.below b3)
    obtain ⟨⟨y0, y1, y2, y3, y4, y5, y6, y7⟩, fy⟩ := ndB_cells N3.out
    rw [HK.out] at y0
    rw [HO.out] at y1
    clear x0 x1 x2 x3 x4 x5 x6 x7 T2 TK N2 b3 fy
    have ho15 : o < 15 := by omega
    obtain ⟨x, hx, hnx⟩ := nth_word (l := Ex.callsT) (o := o) ho15
    have co := Tb.at H3.out.wt.c hx
    have hxl : x.length ≤ 20 := by have := Ex.calls_len (o : Int); rw [hnx] at this; exact this
    obtain ⟨sx, hsx⟩ : ∃ s : ByteArray, s = ⟨x.toArray⟩ := ⟨_, rfl⟩
    rw [← hsx] at co
    have zx : sx.size ≤ 20 := by rw [hsx]; exact hxl
    have FIN : Hid ((⟨r.toArray⟩ : ByteArray) = sx ++ ⟨#[40]⟩ ++ sB ++ ⟨#[41]⟩) := by
      apply by_inj
      rw [by_mk, E2.out, HO.out, hnx, by_app, by_app, by_app, hsx, by_mk]
    have e1 : (sx ++ ⟨#[40]⟩ : ByteArray).size = sx.size + 1 := by rw [ByteArray.size_append]; rfl
    have e2 : (sx ++ ⟨#[40]⟩ ++ sB : ByteArray).size = sx.size + 1 + sB.size := by rw [ByteArray.size_append, e1]
    clear E2 hx hnx hxl hsx
    go_wp2_with fail
    refine bodyPost_ret (v := .string (sx ++ ⟨#[40]⟩ ++ sB ++ ⟨#[41]⟩)) (by simp [results, Tryz.results25, go_sem]) rfl ?_
    rw [StBelow, FIN.out]
    exact ⟨rfl, B3.out⟩
  · have E2 : Hid (r = [40, 45] ++ by_ sB ++ [41]) := by show _ = _; rw [E0.out, if_neg (by omega), if_pos hk]
    have HK := Lib.hid hk
    rw [hk] at d0
    have hop2 : 0 ≤ n.op := hop.1
    obtain ⟨o, ho⟩ : ∃ o : Nat, n.op = (o : Int) := ⟨n.op.toNat, by omega⟩
    rw [ho] at d1 hop2
    have HO := Lib.hid ho
    clear hk E0 ho hop
    go_wp2_with fail
    refine IH.out.mono ?_
    rintro e W2 ⟨rfl, b2⟩
    have N2 := Lib.hid (nd_keep HN.out b2)
    have B2 := Lib.hid (B1.out.trans (b2.mono B1.out.size))
    have H2 := Lib.hid (H1.out.below b2)
    obtain ⟨⟨x0, x1, x2, x3, x4, x5, x6, x7⟩, fx⟩ := ndB_cells N2.out
    rw [HK.out] at x0
    rw [HO.out] at x1
    have T2 := TK.out W2
    rw [HK.out, HO.out] at T2
    have T2 := Lib.hid T2
    clear d0 d1 d2 d3 d4 d5 d6 d7 HN b2 IH fx
    go_wp2_with fail
    refine T2.out.mono ?_
    rintro e W3 ⟨rfl, b3⟩
    have N3 := Lib.hid (nd_keep N2.out b3)
    have B3 := Lib.hid (B2.out.trans (b3.mono B2.out.size))
    have H3 := Lib.hid (H2.out.below b3)
    obtain ⟨⟨y0, y1, y2, y3, y4, y5, y6, y7⟩, fy⟩ := ndB_cells N3.out
    rw [HK.out] at y0
    rw [HO.out] at y1
    clear x0 x1 x2 x3 x4 x5 x6 x7 T2 TK N2 b3 fy
    have FIN : Hid ((⟨r.toArray⟩ : ByteArray) = ⟨#[40, 45]⟩ ++ sB ++ ⟨#[41]⟩) := by
      apply by_inj
      rw [by_mk, E2.out, by_app, by_app]
    have e1 : (⟨#[40, 45]⟩ ++ sB : ByteArray).size = 2 + sB.size := by rw [ByteArray.size_append]; rfl
    clear E2
    go_wp2_with fail
    refine bodyPost_ret (v := .string (⟨#[40, 45]⟩ ++ sB ++ ⟨#[41]⟩)) (by simp [results, Tryz.results25, go_sem]) rfl ?_
    rw [StBelow, FIN.out]
    exact ⟨rfl, B3.out⟩
  · have E2 : Hid (r = Ex.nthT Ex.aggsT n.op ++ Ex.groupT n ++ [40] ++ by_ sB ++ [41]) := by show _ = _; rw [E0.out, if_neg (by omega), if_neg (by omega)]
    have HK := Lib.hid hk
    rw [hk] at d0
    have hop2 : n.op < 6 := by have := hop.2; rw [hk] at this; exact this (by decide)
    obtain ⟨o, ho⟩ : ∃ o : Nat, n.op = (o : Int) := ⟨n.op.toNat, by omega⟩
    rw [ho] at d1 hop2
    have HO := Lib.hid ho
    clear hk E0 ho hop
    go_wp2_with fail
    refine IH.out.mono ?_
    rintro e W2 ⟨rfl, b2⟩
    have N2 := Lib.hid (nd_keep HN.out b2)
    have B2 := Lib.hid (B1.out.trans (b2.mono B1.out.size))
    have H2 := Lib.hid (H1.out.below b2)
    obtain ⟨⟨x0, x1, x2, x3, x4, x5, x6, x7⟩, fx⟩ := ndB_cells N2.out
    rw [HK.out] at x0
    rw [HO.out] at x1
    have T2 := TK.out W2
    rw [HK.out, HO.out] at T2
    have T2 := Lib.hid T2
    clear d0 d1 d2 d3 d4 d5 d6 d7 HN b2 IH fx
    go_wp2_with fail
    refine T2.out.mono ?_
    rintro e W3 ⟨rfl, b3⟩
    have N3 := Lib.hid (nd_keep N2.out b3)
    have B3 := Lib.hid (B2.out.trans (b3.mono B2.out.size))
    have H3 := Lib.hid (H2.out.below b3)
    obtain ⟨⟨y0, y1, y2, y3, y4, y5, y6, y7⟩, fy⟩ := ndB_cells N3.out
    rw [HK.out] at y0
    rw [HO.out] at y1
    clear x0 x1 x2 x3 x4 x5 x6 x7 T2 TK N2 b3 fy
    have ho6 : o < 6 := by omega
    obtain ⟨x, hx, hnx⟩ := nth_word (l := Ex.aggsT) (o := o) ho6
    have co := Tb.at H3.out.wt.a hx
    have hxl : x.length ≤ 20 := by have := Ex.aggs_len (o : Int); rw [hnx] at this; exact this
    obtain ⟨sx, hsx⟩ : ∃ s : ByteArray, s = ⟨x.toArray⟩ := ⟨_, rfl⟩
    rw [← hsx] at co
    have zx : sx.size ≤ 20 := by rw [hsx]; exact hxl
    have gl := Ex.groupT_len SZ.out
    obtain ⟨sG, hsG⟩ : ∃ s : ByteArray, s = ⟨(Ex.groupT n).toArray⟩ := ⟨_, rfl⟩
    have zG : sG.size ≤ 2000000000 := by rw [hsG]; exact gl
    have ES3 := H3.out
    have WS3 : Ws0 W3 (.slice A2 n.nm.length cc2) n.nm := LL.out.nd.nm.below B3.out
    have GR : Hid (∀ w', Below W3.heap.size W3 w' → Calls Tryz.prog 51 #[.agg #[.int .i64 8, .int .i64 (o : Int), .int .u64 (n.v : Int), .int .u64 (n.wd : Int), .slice A1 n.sel.length cc1, .bool n.bl, .bool n.gb, .slice A2 n.nm.length cc2]] w' (fun e w9 => e = .returned (.string sG) ∧ Below W3.heap.size W3 w9)) := fun w' b' => by
      have := groupX_any n (.slice A1 n.sel.length cc1) (.slice A2 n.nm.length cc2) w' (WS3.below b') SZ.out.nl SZ.out.ns
      unfold ndA at this
      rw [HK.out, HO.out] at this
      exact this.mono fun e w9 h => ⟨by rw [hsG]; exact h.1, b'.trans (h.2.mono b'.size)⟩
    have KP : Hid (∀ w', Below W3.heap.size W3 w' → w'.cell? ⟨nb, 0, none⟩ = some (.int .i64 8) ∧ w'.cell? ⟨nb, 1, none⟩ = some (.int .i64 (o : Int)) ∧ w'.cell? ⟨nb, 2, none⟩ = some (.int .u64 (n.v : Int)) ∧ w'.cell? ⟨nb, 3, none⟩ = some (.int .u64 (n.wd : Int)) ∧ w'.cell? ⟨nb, 4, none⟩ = some (.slice A1 n.sel.length cc1) ∧ w'.cell? ⟨nb, 5, none⟩ = some (.bool n.bl) ∧ w'.cell? ⟨nb, 6, none⟩ = some (.bool n.gb) ∧ w'.cell? ⟨nb, 7, none⟩ = some (.slice A2 n.nm.length cc2) ∧ w'.cell? ⟨1, o, none⟩ = some (.string sx) ∧ Below W3.heap.size W3 w') := fun w' hb => by
      have k : ∀ {p : Addr} {u : Value}, W3.cell? p = some u → w'.cell? p = some u := fun hp => (hb.cell (World.block_lt_of_cell? W3 _ hp)).trans hp
      exact ⟨k y0, k y1, k y2, k y3, k y4, k y5, k y6, k y7, k co, hb⟩
    have FIN : Hid ((⟨r.toArray⟩ : ByteArray) = sx ++ sG ++ ⟨#[40]⟩ ++ sB ++ ⟨#[41]⟩) := by
      apply by_inj
      rw [by_mk, E2.out, HO.out, hnx, by_app, by_app, by_app, by_app, hsx, hsG, by_mk, by_mk]
    have e1 : (sx ++ sG : ByteArray).size = sx.size + sG.size := ByteArray.size_append ..
    have e2 : (sx ++ sG ++ ⟨#[40]⟩ : ByteArray).size = sx.size + sG.size + 1 := by rw [ByteArray.size_append, e1]; rfl
    have e3 : (sx ++ sG ++ ⟨#[40]⟩ ++ sB : ByteArray).size = sx.size + sG.size + 1 + sB.size := by rw [ByteArray.size_append, e2]
    have v1 : ¬ 9223372036854775807 < sx.size + sG.size := by omega
    have v2 : ¬ 9223372036854775807 < sx.size + sG.size + 1 := by omega
    have v3 : ¬ 9223372036854775807 < sx.size + sG.size + 1 + sB.size := by omega
    have v4 : ¬ 9223372036854775807 < sx.size + sG.size + 1 + sB.size + 1 := by omega
    have hb0 : Below W3.heap.size W3 W3 := Below.refl _ _
    have hoi : (o : Int) < 6 := by omega
    have hoi0 : (0 : Int) ≤ (o : Int) := by omega
    have zB' := Lib.hid zB
    clear E2 hx hnx hxl hsx e1 e2 e3 zx zG gl hsG ES3 WS3 zB ho6 hop2 hms hk5
    go_upto_region 16 with fail
    go_region_held3 (fun w' => w'.cell? ⟨nb, 0, none⟩ = some (.int .i64 8) ∧ w'.cell? ⟨nb, 1, none⟩ = some (.int .i64 (o : Int)) ∧ w'.cell? ⟨nb, 2, none⟩ = some (.int .u64 (n.v : Int)) ∧ w'.cell? ⟨nb, 3, none⟩ = some (.int .u64 (n.wd : Int)) ∧ w'.cell? ⟨nb, 4, none⟩ = some (.slice A1 n.sel.length cc1) ∧ w'.cell? ⟨nb, 5, none⟩ = some (.bool n.bl) ∧ w'.cell? ⟨nb, 6, none⟩ = some (.bool n.gb) ∧ w'.cell? ⟨nb, 7, none⟩ = some (.slice A2 n.nm.length cc2) ∧ w'.cell? ⟨1, o, none⟩ = some (.string sx) ∧ Below W3.heap.size W3 w')
      ((refine KP.out _ ?_; (try go_split_ands); (repeat (first | refine Below.drew ?_ | refine below_drewN ?_ _)); assumption))
      ((go_at_call 51; refine Calls.mono (GR.out _ ?_) ?_; (repeat (first | refine Below.drew ?_ | refine below_drewN ?_ _)); assumption; rintro e w9 ⟨rfl, hb9⟩))
    have B9 := Lib.hid (B3.out.trans (hb9.mono B3.out.size))
    clear KP GR hb9 hb0
    go_wp2_with fail
    refine bodyPost_ret (v := .string (sx ++ sG ++ ⟨#[40]⟩ ++ sB ++ ⟨#[41]⟩)) (by simp [results, Tryz.results25, go_sem]) rfl ?_
    rw [StBelow, FIN.out]
    exact ⟨rfl, B9.out⟩
end Go.Proofs.YtmbfpichaaanpaaGreatDoor
