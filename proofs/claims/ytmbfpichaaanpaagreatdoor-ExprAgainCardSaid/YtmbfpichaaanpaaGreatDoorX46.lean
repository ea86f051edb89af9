import Derived.Test.YtmbfpichaaanpaaGreatDoorX45
/-! Expressions printed: a part of two. -/
namespace Go.Proofs.YtmbfpichaaanpaaGreatDoor
open Go.RowKit Ut Rx Mt

theorem Tx0.subB {w : World} {lv : Value} {pre post : List Ex.Nd} {n : Ex.Nd} {a b : Ex.Tr} (h : Tx0 w lv pre post (.bi n a b)) : Tx0 w lv (pre ++ a.nds) (n :: post) b :=
  ⟨by have := h.es; rw [show pre ++ (Ex.Tr.bi n a b).nds ++ post = (pre ++ a.nds) ++ b.nds ++ (n :: post) from by simp [Ex.Tr.nds]] at this; exact this, h.ok.2.2.2.2, fun x hx => h.sz x (by simp [Ex.Tr.nds, hx]), h.wt, h.low, by have := h.few; simp only [Ex.Tr.nds, List.length_append, List.length_cons, List.length_nil] at *; omega⟩
theorem Tx0.subA {w : World} {lv : Value} {pre post : List Ex.Nd} {n : Ex.Nd} {a b : Ex.Tr} (h : Tx0 w lv pre post (.bi n a b)) : Tx0 w lv pre (b.nds ++ n :: post) a :=
  ⟨by have := h.es; rw [show pre ++ (Ex.Tr.bi n a b).nds ++ post = pre ++ a.nds ++ (b.nds ++ n :: post) from by simp [Ex.Tr.nds]] at this; exact this, h.ok.2.2.2.1, fun x hx => h.sz x (by simp [Ex.Tr.nds, hx]), h.wt, h.low, by have := h.few; simp only [Ex.Tr.nds, List.length_append, List.length_cons, List.length_nil] at *; omega⟩
set_option maxRecDepth 100000 in
set_option maxHeartbeats 16000000 in
theorem textBi_any (n : Ex.Nd) (a b : Ex.Tr) (iha : TxC a) (ihb : TxC b) : TxC (.bi n a b) := by
  intro pre post lv w h
  obtain ⟨b0, off, i, m, c, A1, cc1, A2, cc2, rfl, hi, hi1, L⟩ := h.load
  rw [hi]
  obtain ⟨r, hr⟩ : ∃ r, r = Ex.txt flX (.bi n a b) := ⟨_, rfl⟩
  have E := Lib.hid hr
  rw [← hr]
  have HH := Lib.hid h
  have LL := Lib.hid L
  have hlti : (i : Int) < m := by have := L.lt; omega
  have hlt := L.lt
  have hms := L.small
  have nd := L.nd
  rw [show (Ex.Tr.bi n a b).root = n from rfl] at nd LL
  obtain ⟨c0, c1, c2, c3, c4, c5, c6, c7⟩ : _ ∧ _ ∧ _ ∧ _ ∧ _ ∧ _ ∧ _ ∧ _ := ⟨nd.c0, nd.c1, nd.c2, nd.c3, nd.c4, nd.c5, nd.c6, nd.c7⟩
  clear hr h hi L nd
  go_enter Tryz.func25, Tryz.ntmps25
  go_upto_region 2 with fail
  obtain ⟨W1, hW1⟩ : ∃ x, x = bxW w n (.slice A1 n.sel.length cc1) (.slice A2 n.nm.length cc2) := ⟨_, rfl⟩
  have bx := bx_facts (w := w) n (.slice A1 n.sel.length cc1) (.slice A2 n.nm.length cc2)
  rw [← hW1] at bx
  have B1 := Lib.hid bx.1
  obtain ⟨nb, hnb⟩ : ∃ n, n = w.heap.size := ⟨_, rfl⟩
  have HN := Lib.hid bx.2
  obtain ⟨⟨d0, d1, d2, d3, d4, d5, d6, d7⟩, fz⟩ := ndB_cells bx.2
  unfold bxW at hW1
  rw [← hW1, ← hnb]
  rw [← hnb] at d0 d1 d2 d3 d4 d5 d6 d7 HN
  have H1 := Lib.hid (HH.out.below bx.1)
  have SZ := Lib.hid (HH.out.sz n (by simp [Ex.Tr.nds]))
  have hop := Ex.alone_op HH.out.ok.2.1
  have lenT := HH.out.few
  have hpa := a.pos
  have hidx : (pre ++ a.nds).length + b.nds.length = i := by simp only [Ex.Tr.nds, List.length_append, List.length_singleton] at hi1 ⊢; omega
  have hla : (pre ++ a.nds).length ≤ 1000 ∧ 1 ≤ (pre ++ a.nds).length := by simp only [Ex.Tr.nds, List.length_append, List.length_singleton] at lenT ⊢; omega
  have hlb : a.nds.length ≤ 1000 ∧ b.nds.length ≤ 1000 := by simp only [Ex.Tr.nds, List.length_append, List.length_singleton] at lenT; omega
  have IB := Lib.hid (ihb (pre ++ a.nds) (n :: post) _ W1 H1.out.subB)
  rw [hidx] at IB
  have IA := Lib.hid (fun w' (b' : Below W1.heap.size W1 w') => iha pre (b.nds ++ n :: post) _ w' (H1.out.below b').subA)
  have BG : Hid (∀ w', Below W1.heap.size W1 w' → Calls Tryz.prog 14 #[.slice (some ⟨b0, off, none⟩) m c, .int .i64 ((i : Int) - 1)] w' (fun e w9 => e = .returned (.int .i64 (((pre ++ a.nds).length : Nat) : Int)) ∧ Below w'.heap.size w' w9)) := fun w' b' => by
    have h1 := (H1.out.below b').subB
    have := begin_any (pre ++ a.nds ++ b.nds ++ (n :: post)) _ ((i : Int) - 1) w' h1.es (by have := h1.few; simp only [List.length_append, List.length_cons] at *; omega)
    rw [show ((i : Int) - 1) = (((pre ++ a.nds).length + b.nds.length : Nat) - 1 : Int) from by rw [hidx]] at this ⊢
    rw [Ex.begin_of b h1.ok (pre ++ a.nds) (n :: post)] at this
    exact this
  rw [show (((pre.length + a.nds.length : Nat) - 1 : Int)) = (((pre ++ a.nds).length : Nat) : Int) - 1 from by rw [List.length_append]] at IA
  have tlb := Ex.txt_len flX b H1.out.subB.sz
  have tla := Ex.txt_len flX a H1.out.subA.sz
  obtain ⟨sB, hsB⟩ : ∃ s : ByteArray, s = ⟨(Ex.txt flX b).toArray⟩ := ⟨_, rfl⟩
  obtain ⟨sA, hsA⟩ : ∃ s : ByteArray, s = ⟨(Ex.txt flX a).toArray⟩ := ⟨_, rfl⟩
  unfold StBelow at IB IA
  rw [← hsB] at IB
  rw [← hsA] at IA
  have zB : sB.size ≤ 1000000000000000 := by rw [hsB]; show (Ex.txt flX b).length ≤ _; omega
  have zA : sA.size ≤ 1000000000000000 := by rw [hsA]; show (Ex.txt flX a).length ≤ _; omega
  have SB : Hid (by_ sB = Ex.txt flX b) := by show _ = _; rw [hsB, by_mk]
  have SA : Hid (by_ sA = Ex.txt flX a) := by show _ = _; rw [hsA, by_mk]
  have E0 : Hid (r = if n.k = 5 then Ex.pairT (Ex.txt flX a) (Ex.nthT Ex.binsT n.op) (Ex.txt flX b) else
    if n.k = 6 then Ex.pairT (Ex.txt flX a) (Ex.nthT Ex.cmpsT n.op ++ (if n.bl then [32, 98, 111, 111, 108] else [])) (Ex.txt flX b) else
    if n.k = 7 then Ex.pairT (Ex.txt flX a) (Ex.nthT Ex.setsT n.op) (Ex.txt flX b) else
    Ex.nthT Ex.aggsT n.op ++ Ex.groupT n ++ [40] ++ Ex.txt flX a ++ [44, 32] ++ Ex.txt flX b ++ [41]) := E.out
  have TK := Lib.hid (fun w' => takes_any n (.slice A1 n.sel.length cc1) (.slice A2 n.nm.length cc2) w')
  rw [HH.out.ok.1] at TK
  unfold ndA IntBelow at TK
  have hki := Ex.takes_bi HH.out.ok.1
  generalize (pre ++ a.nds).length = p at *
  clear hW1 hnb bx fz c0 c1 c2 c3 c4 c5 c6 c7 tla tlb hlb hsA hsB hidx E lenT hi1 hpa
  rcases hki with hk | hk | hk | ⟨hk, hk5⟩
  · have HK := Lib.hid hk
    rw [hk] at d0
    have hop2 : n.op < 5 := by have := hop.2; rw [hk] at this; exact this (by decide)
    obtain ⟨o, ho⟩ : ∃ o : Nat, n.op = (o : Int) := ⟨n.op.toNat, by omega⟩
    rw [ho] at d1 hop2 E0
    have HO := Lib.hid ho
    have E2 : Hid (r = Ex.pairT (Ex.txt flX a) (Ex.nthT Ex.binsT o) (Ex.txt flX b)) := by show _ = _; rw [E0.out, if_pos hk]
    clear hk E0 ho hop
    go_wp2_with fail
    refine IB.out.mono ?_
    rintro e W2 ⟨rfl, b2⟩
    have B12 := Lib.hid b2
    have N2 := Lib.hid (nd_keep HN.out b2)
    obtain ⟨⟨x0, x1, x2, x3, x4, x5, x6, x7⟩, fx⟩ := ndB_cells N2.out
    rw [HK.out] at x0
    rw [HO.out] at x1
    have T2 := TK.out W2
    rw [HK.out, HO.out] at T2
    have T2 := Lib.hid T2
    clear d0 d1 d2 d3 d4 d5 d6 d7 b2 IB fx
    go_wp2_with fail
    refine T2.out.mono ?_
    rintro e W3 ⟨rfl, b3⟩
    have B13 := Lib.hid (B12.out.trans (b3.mono B12.out.size))
    have BG3 := Lib.hid (BG.out W3 B13.out)
    clear x0 x1 x2 x3 x4 x5 x6 x7 T2 TK N2 b3 BG B12
    go_wp2_with fail
    refine BG3.out.mono ?_
    rintro e W4 ⟨rfl, b4⟩
    have B14 := Lib.hid (B13.out.trans (b4.mono B13.out.size))
    have IA4 := Lib.hid (IA.out W4 B14.out)
    clear BG3 b4 B13 IA
    go_wp2_with fail
    refine IA4.out.mono ?_
    rintro e W5 ⟨rfl, b5⟩
    have B15 := Lib.hid (B14.out.trans (b5.mono B14.out.size))
    have N5 := Lib.hid (nd_keep HN.out B15.out)
    have B5 := Lib.hid (B1.out.trans (B15.out.mono B1.out.size))
    have H5 := Lib.hid (H1.out.below B15.out)
    obtain ⟨⟨y0, y1, y2, y3, y4, y5, y6, y7⟩, fy⟩ := ndB_cells N5.out
    rw [HK.out] at y0
    rw [HO.out] at y1
    clear IA4 b5 B14 HN fy
    have hoL : o < 5 := by omega
    obtain ⟨x, hx, hnx⟩ := nth_word (l := Ex.binsT) (o := o) hoL
    have co := Tb.at H5.out.wt.b hx
    have hxl : x.length ≤ 20 := by have := Ex.bins_len (o : Int); rw [hnx] at this; exact this
    obtain ⟨sx, hsx⟩ : ∃ s : ByteArray, s = ⟨x.toArray⟩ := ⟨_, rfl⟩
    rw [← hsx] at co
    have zx : sx.size ≤ 20 := by rw [hsx]; exact hxl
    have SX : Hid (by_ sx = Ex.nthT Ex.binsT (o : Int)) := by show _ = _; rw [hsx, by_mk, hnx]
    clear hx hnx hxl hsx
    have PC := Lib.hid (pairX_any sA sx sB W5 (by omega) (by omega) (by omega))
    unfold StSame at PC
    rw [SA.out, SB.out, SX.out] at PC
    go_wp2_with fail
    refine PC.out.mono ?_
    rintro e W6 ⟨rfl, rfl⟩
    go_wp2_with fail
    refine bodyPost_ret (v := .string ⟨(Ex.pairT (Ex.txt flX a) (Ex.nthT Ex.binsT o) (Ex.txt flX b)).toArray⟩) (by simp [results, Tryz.results25, go_sem]) rfl ?_
    rw [E2.out]
    exact ⟨rfl, B5.out⟩
  · have HK := Lib.hid hk
    rw [hk] at d0
    have hop2 : n.op < 6 := by have := hop.2; rw [hk] at this; exact this (by decide)
    obtain ⟨o, ho⟩ : ∃ o : Nat, n.op = (o : Int) := ⟨n.op.toNat, by omega⟩
    rw [ho] at d1 hop2 E0
    have HO := Lib.hid ho
    have E2 : Hid (r = Ex.pairT (Ex.txt flX a) (Ex.nthT Ex.cmpsT o ++ (if n.bl then [32, 98, 111, 111, 108] else [])) (Ex.txt flX b)) := by show _ = _; rw [E0.out, if_neg (by omega), if_pos hk]
    clear hk E0 ho hop
    go_wp2_with fail
    refine IB.out.mono ?_
    rintro e W2 ⟨rfl, b2⟩
    have B12 := Lib.hid b2
    have N2 := Lib.hid (nd_keep HN.out b2)
    obtain ⟨⟨x0, x1, x2, x3, x4, x5, x6, x7⟩, fx⟩ := ndB_cells N2.out
    rw [HK.out] at x0
    rw [HO.out] at x1
    have T2 := TK.out W2
    rw [HK.out, HO.out] at T2
    have T2 := Lib.hid T2
    clear d0 d1 d2 d3 d4 d5 d6 d7 b2 IB fx
    go_wp2_with fail
    refine T2.out.mono ?_
    rintro e W3 ⟨rfl, b3⟩
    have B13 := Lib.hid (B12.out.trans (b3.mono B12.out.size))
    have BG3 := Lib.hid (BG.out W3 B13.out)
    clear x0 x1 x2 x3 x4 x5 x6 x7 T2 TK N2 b3 BG B12
    go_wp2_with fail
    refine BG3.out.mono ?_
    rintro e W4 ⟨rfl, b4⟩
    have B14 := Lib.hid (B13.out.trans (b4.mono B13.out.size))
    have IA4 := Lib.hid (IA.out W4 B14.out)
    clear BG3 b4 B13 IA
    go_wp2_with fail
    refine IA4.out.mono ?_
    rintro e W5 ⟨rfl, b5⟩
    have B15 := Lib.hid (B14.out.trans (b5.mono B14.out.size))
    have N5 := Lib.hid (nd_keep HN.out B15.out)
    have B5 := Lib.hid (B1.out.trans (B15.out.mono B1.out.size))
    have H5 := Lib.hid (H1.out.below B15.out)
    obtain ⟨⟨y0, y1, y2, y3, y4, y5, y6, y7⟩, fy⟩ := ndB_cells N5.out
    rw [HK.out] at y0
    rw [HO.out] at y1
    clear IA4 b5 B14 HN fy
    have hoL : o < 6 := by omega
    obtain ⟨x, hx, hnx⟩ := nth_word (l := Ex.cmpsT) (o := o) hoL
    have co := Tb.at H5.out.wt.m hx
    have hxl : x.length ≤ 20 := by have := Ex.cmps_len (o : Int); rw [hnx] at this; exact this
    obtain ⟨sx, hsx⟩ : ∃ s : ByteArray, s = ⟨x.toArray⟩ := ⟨_, rfl⟩
    rw [← hsx] at co
    have zx : sx.size ≤ 20 := by rw [hsx]; exact hxl
    have SX : Hid (by_ sx = Ex.nthT Ex.cmpsT (o : Int)) := by show _ = _; rw [hsx, by_mk, hnx]
    clear hx hnx hxl hsx
    cases hbl : n.bl with
    | true =>
      rw [hbl] at y5
      have E3 : Hid (r = Ex.pairT (Ex.txt flX a) (Ex.nthT Ex.cmpsT o ++ [32, 98, 111, 111, 108]) (Ex.txt flX b)) := by show _ = _; rw [E2.out, hbl]; rfl
      have zs : (sx ++ ⟨#[32, 98, 111, 111, 108]⟩ : ByteArray).size ≤ 30 := by rw [ByteArray.size_append]; show _ + 5 ≤ _; omega
      have PC := Lib.hid (pairX_any sA (sx ++ ⟨#[32, 98, 111, 111, 108]⟩) sB W5 (by omega) (by omega) (by omega))
      unfold StSame at PC
      rw [SA.out, SB.out, by_app, SX.out, show by_ (⟨#[32, 98, 111, 111, 108]⟩ : ByteArray) = [32, 98, 111, 111, 108] from rfl] at PC
      go_wp2_with fail
      refine PC.out.mono ?_
      rintro e W6 ⟨rfl, rfl⟩
      go_wp2_with fail
      refine bodyPost_ret (v := .string ⟨(Ex.pairT (Ex.txt flX a) (Ex.nthT Ex.cmpsT o ++ [32, 98, 111, 111, 108]) (Ex.txt flX b)).toArray⟩) (by simp [results, Tryz.results25, go_sem]) rfl ?_
      rw [E3.out]
      exact ⟨rfl, B5.out⟩
    | false =>
      rw [hbl] at y5
      have E3 : Hid (r = Ex.pairT (Ex.txt flX a) (Ex.nthT Ex.cmpsT o) (Ex.txt flX b)) := by show _ = _; rw [E2.out, hbl]; simp
      have PC := Lib.hid (pairX_any sA sx sB W5 (by omega) (by omega) (by omega))
      unfold StSame at PC
      rw [SA.out, SB.out, SX.out] at PC
      go_wp2_with fail
      refine PC.out.mono ?_
      rintro e W6 ⟨rfl, rfl⟩
      go_wp2_with fail
      refine bodyPost_ret (v := .string ⟨(Ex.pairT (Ex.txt flX a) (Ex.nthT Ex.cmpsT o) (Ex.txt flX b)).toArray⟩) (by simp [results, Tryz.results25, go_sem]) rfl ?_
      rw [E3.out]
      exact ⟨rfl, B5.out⟩
  · have HK := Lib.hid hk
    rw [hk] at d0
    have hop2 : n.op < 3 := by have := hop.2; rw [hk] at this; exact this (by decide)
    obtain ⟨o, ho⟩ : ∃ o : Nat, n.op = (o : Int) := ⟨n.op.toNat, by omega⟩
    rw [ho] at d1 hop2 E0
    have HO := Lib.hid ho
    have E2 : Hid (r = Ex.pairT (Ex.txt flX a) (Ex.nthT Ex.setsT o) (Ex.txt flX b)) := by show _ = _; rw [E0.out, if_neg (by omega), if_neg (by omega), if_pos hk]
    clear hk E0 ho hop
    go_wp2_with fail
    refine IB.out.mono ?_
    rintro e W2 ⟨rfl, b2⟩
    have B12 := Lib.hid b2
    have N2 := Lib.hid (nd_keep HN.out b2)
    obtain ⟨⟨x0, x1, x2, x3, x4, x5, x6, x7⟩, fx⟩ := ndB_cells N2.out
    rw [HK.out] at x0
    rw [HO.out] at x1
    have T2 := TK.out W2
    rw [HK.out, HO.out] at T2
    have T2 := Lib.hid T2
    clear d0 d1 d2 d3 d4 d5 d6 d7 b2 IB fx
    go_wp2_with fail
    refine T2.out.mono ?_
    rintro e W3 ⟨rfl, b3⟩
    have B13 := Lib.hid (B12.out.trans (b3.mono B12.out.size))
    have BG3 := Lib.hid (BG.out W3 B13.out)
    clear x0 x1 x2 x3 x4 x5 x6 x7 T2 TK N2 b3 BG B12
    go_wp2_with fail
    refine BG3.out.mono ?_
    rintro e W4 ⟨rfl, b4⟩
    have B14 := Lib.hid (B13.out.trans (b4.mono B13.out.size))
    have IA4 := Lib.hid (IA.out W4 B14.out)
    clear BG3 b4 B13 IA
    go_wp2_with fail
    refine IA4.out.mono ?_
    rintro e W5 ⟨rfl, b5⟩
    have B15 := Lib.hid (B14.out.trans (b5.mono B14.out.size))
    have N5 := Lib.hid (nd_keep HN.out B15.out)
    have B5 := Lib.hid (B1.out.trans (B15.out.mono B1.out.size))
    have H5 := Lib.hid (H1.out.below B15.out)
    obtain ⟨⟨y0, y1, y2, y3, y4, y5, y6, y7⟩, fy⟩ := ndB_cells N5.out
    rw [HK.out] at y0
    rw [HO.out] at y1
    clear IA4 b5 B14 HN fy
    have hoL : o < 3 := by omega
    obtain ⟨x, hx, hnx⟩ := nth_word (l := Ex.setsT) (o := o) hoL
    have co := Tb.at H5.out.wt.s hx
    have hxl : x.length ≤ 20 := by have := Ex.sets_len (o : Int); rw [hnx] at this; exact this
    obtain ⟨sx, hsx⟩ : ∃ s : ByteArray, s = ⟨x.toArray⟩ := ⟨_, rfl⟩
    rw [← hsx] at co
    have zx : sx.size ≤ 20 := by rw [hsx]; exact hxl
    have SX : Hid (by_ sx = Ex.nthT Ex.setsT (o : Int)) := by show _ = _; rw [hsx, by_mk, hnx]
    clear hx hnx hxl hsx
    have PC := Lib.hid (pairX_any sA sx sB W5 (by omega) (by omega) (by omega))
    unfold StSame at PC
    rw [SA.out, SB.out, SX.out] at PC
    go_wp2_with fail
    refine PC.out.mono ?_
    rintro e W6 ⟨rfl, rfl⟩
    go_wp2_with fail
    refine bodyPost_ret (v := .string ⟨(Ex.pairT (Ex.txt flX a) (Ex.nthT Ex.setsT o) (Ex.txt flX b)).toArray⟩) (by simp [results, Tryz.results25, go_sem]) rfl ?_
    rw [E2.out]
    exact ⟨rfl, B5.out⟩
  · have HK := Lib.hid hk
    rw [hk] at d0
    have hop2 : n.op < 6 := by have := hop.2; rw [hk] at this; exact this (by decide)
    obtain ⟨o, ho⟩ : ∃ o : Nat, n.op = (o : Int) := ⟨n.op.toNat, by omega⟩
    rw [ho] at d1 hop2 E0
    have HO := Lib.hid ho
    have E2 : Hid (r = Ex.nthT Ex.aggsT o ++ Ex.groupT n ++ [40] ++ Ex.txt flX a ++ [44, 32] ++ Ex.txt flX b ++ [41]) := by show _ = _; rw [E0.out, if_neg (by omega), if_neg (by omega), if_neg (by omega)]
    clear hk E0 ho hop
    go_wp2_with fail
    refine IB.out.mono ?_
    rintro e W2 ⟨rfl, b2⟩
    have B12 := Lib.hid b2
    have N2 := Lib.hid (nd_keep HN.out b2)
    obtain ⟨⟨x0, x1, x2, x3, x4, x5, x6, x7⟩, fx⟩ := ndB_cells N2.out
    rw [HK.out] at x0
    rw [HO.out] at x1
    have T2 := TK.out W2
    rw [HK.out, HO.out] at T2
    have T2 := Lib.hid T2
    clear d0 d1 d2 d3 d4 d5 d6 d7 b2 IB fx
    go_wp2_with fail
    refine T2.out.mono ?_
    rintro e W3 ⟨rfl, b3⟩
    have B13 := Lib.hid (B12.out.trans (b3.mono B12.out.size))
    have BG3 := Lib.hid (BG.out W3 B13.out)
    clear x0 x1 x2 x3 x4 x5 x6 x7 T2 TK N2 b3 BG B12
    go_wp2_with fail
    refine BG3.out.mono ?_
    rintro e W4 ⟨rfl, b4⟩
    have B14 := Lib.hid (B13.out.trans (b4.mono B13.out.size))
    have IA4 := Lib.hid (IA.out W4 B14.out)
    clear BG3 b4 B13 IA
    go_wp2_with fail
    refine IA4.out.mono ?_
    rintro e W5 ⟨rfl, b5⟩
    have B15 := Lib.hid (B14.out.trans (b5.mono B14.out.size))
    have N5 := Lib.hid (nd_keep HN.out B15.out)
    have B5 := Lib.hid (B1.out.trans (B15.out.mono B1.out.size))
    have H5 := Lib.hid (H1.out.below B15.out)
    obtain ⟨⟨y0, y1, y2, y3, y4, y5, y6, y7⟩, fy⟩ := ndB_cells N5.out
    rw [HK.out] at y0
    rw [HO.out] at y1
    clear IA4 b5 B14 HN fy
    have hoL : o < 6 := by omega
    obtain ⟨x, hx, hnx⟩ := nth_word (l := Ex.aggsT) (o := o) hoL
    have co := Tb.at H5.out.wt.a hx
    have hxl : x.length ≤ 20 := by have := Ex.aggs_len (o : Int); rw [hnx] at this; exact this
    obtain ⟨sx, hsx⟩ : ∃ s : ByteArray, s = ⟨x.toArray⟩ := ⟨_, rfl⟩
    rw [← hsx] at co
    have zx : sx.size ≤ 20 := by rw [hsx]; exact hxl
    have SX : Hid (by_ sx = Ex.nthT Ex.aggsT (o : Int)) := by show _ = _; rw [hsx, by_mk, hnx]
    clear hx hnx hxl hsx
    have gl := Ex.groupT_len SZ.out
    obtain ⟨sG, hsG⟩ : ∃ s : ByteArray, s = ⟨(Ex.groupT n).toArray⟩ := ⟨_, rfl⟩
    have zG : sG.size ≤ 2000000000 := by rw [hsG]; exact gl
    have WS5 : Ws0 W5 (.slice A2 n.nm.length cc2) n.nm := LL.out.nd.nm.below B5.out
    have GR : Hid (∀ w', Below W5.heap.size W5 w' → Calls Tryz.prog 51 #[.agg #[.int .i64 8, .int .i64 (o : Int), .int .u64 (n.v : Int), .int .u64 (n.wd : Int), .slice A1 n.sel.length cc1, .bool n.bl, .bool n.gb, .slice A2 n.nm.length cc2]] w' (fun e w9 => e = .returned (.string sG) ∧ Below W5.heap.size W5 w9)) := fun w' b' => by
      have := groupX_any n (.slice A1 n.sel.length cc1) (.slice A2 n.nm.length cc2) w' (WS5.below b') SZ.out.nl SZ.out.ns
      unfold ndA at this
      rw [HK.out, HO.out] at this
      exact this.mono fun e w9 h => ⟨by rw [hsG]; exact h.1, b'.trans (h.2.mono b'.size)⟩
    have KP : Hid (∀ w', Below W5.heap.size W5 w' → w'.cell? ⟨nb, 0, none⟩ = some (.int .i64 8) ∧ w'.cell? ⟨nb, 1, none⟩ = some (.int .i64 (o : Int)) ∧ w'.cell? ⟨nb, 2, none⟩ = some (.int .u64 (n.v : Int)) ∧ w'.cell? ⟨nb, 3, none⟩ = some (.int .u64 (n.wd : Int)) ∧ w'.cell? ⟨nb, 4, none⟩ = some (.slice A1 n.sel.length cc1) ∧ w'.cell? ⟨nb, 5, none⟩ = some (.bool n.bl) ∧ w'.cell? ⟨nb, 6, none⟩ = some (.bool n.gb) ∧ w'.cell? ⟨nb, 7, none⟩ = some (.slice A2 n.nm.length cc2) ∧ w'.cell? ⟨1, o, none⟩ = some (.string sx) ∧ Below W5.heap.size W5 w') := fun w' hb => by
      have k : ∀ {p : Addr} {u : Value}, W5.cell? p = some u → w'.cell? p = some u := fun hp => (hb.cell (World.block_lt_of_cell? W5 _ hp)).trans hp
      exact ⟨k y0, k y1, k y2, k y3, k y4, k y5, k y6, k y7, k co, hb⟩
    have FIN : Hid ((⟨r.toArray⟩ : ByteArray) = sx ++ sG ++ ⟨#[40]⟩ ++ sA ++ ⟨#[44, 32]⟩ ++ sB ++ ⟨#[41]⟩) := by
      apply by_inj
      rw [by_mk, E2.out, by_app, by_app, by_app, by_app, by_app, by_app, SX.out, SA.out, SB.out, hsG, by_mk]
    have e1 : (sx ++ sG : ByteArray).size = sx.size + sG.size := ByteArray.size_append ..
    have e2 : (sx ++ sG ++ ⟨#[40]⟩ : ByteArray).size = sx.size + sG.size + 1 := by rw [ByteArray.size_append, e1]; rfl
    have e3 : (sx ++ sG ++ ⟨#[40]⟩ ++ sA : ByteArray).size = sx.size + sG.size + 1 + sA.size := by rw [ByteArray.size_append, e2]
    have e4 : (sx ++ sG ++ ⟨#[40]⟩ ++ sA ++ ⟨#[44, 32]⟩ : ByteArray).size = sx.size + sG.size + 1 + sA.size + 2 := by rw [ByteArray.size_append, e3]; rfl
    have v1 : ¬ 9223372036854775807 < sx.size + sG.size := by omega
    have v2 : ¬ 9223372036854775807 < sx.size + sG.size + 1 := by omega
    have v3 : ¬ 9223372036854775807 < sx.size + sG.size + 1 + sA.size := by omega
    have v4 : ¬ 9223372036854775807 < sx.size + sG.size + 1 + sA.size + 2 := by omega
    have v5 : ¬ 9223372036854775807 < sx.size + sG.size + 1 + sA.size + 2 + sB.size := by omega
    have v6 : ¬ 9223372036854775807 < sx.size + sG.size + 1 + sA.size + 2 + sB.size + 1 := by omega
    have hb0 : Below W5.heap.size W5 W5 := Below.refl _ _
    have hoi : (o : Int) < 6 := by omega
    have hoi0 : (0 : Int) ≤ (o : Int) := by omega
    clear E2 e1 e2 e3 e4 zx zG gl hsG WS5 zB zA hop2 hms hk5 hoL
    go_upto_region 27 with fail
    go_region_held3 (fun w' => w'.cell? ⟨nb, 0, none⟩ = some (.int .i64 8) ∧ w'.cell? ⟨nb, 1, none⟩ = some (.int .i64 (o : Int)) ∧ w'.cell? ⟨nb, 2, none⟩ = some (.int .u64 (n.v : Int)) ∧ w'.cell? ⟨nb, 3, none⟩ = some (.int .u64 (n.wd : Int)) ∧ w'.cell? ⟨nb, 4, none⟩ = some (.slice A1 n.sel.length cc1) ∧ w'.cell? ⟨nb, 5, none⟩ = some (.bool n.bl) ∧ w'.cell? ⟨nb, 6, none⟩ = some (.bool n.gb) ∧ w'.cell? ⟨nb, 7, none⟩ = some (.slice A2 n.nm.length cc2) ∧ w'.cell? ⟨1, o, none⟩ = some (.string sx) ∧ Below W5.heap.size W5 w')
      ((refine KP.out _ ?_; (try go_split_ands); (repeat (first | refine Below.drew ?_ | refine below_drewN ?_ _)); assumption))
      ((go_at_call 51; refine Calls.mono (GR.out _ ?_) ?_; (repeat (first | refine Below.drew ?_ | refine below_drewN ?_ _)); assumption; rintro e w9 ⟨rfl, hb9⟩))
    have B9 := Lib.hid (B5.out.trans (hb9.mono B5.out.size))
    clear KP GR hb9 hb0
    go_wp2_with fail
    refine bodyPost_ret (v := .string (sx ++ sG ++ ⟨#[40]⟩ ++ sA ++ ⟨#[44, 32]⟩ ++ sB ++ ⟨#[41]⟩)) (by simp [results, Tryz.results25, go_sem]) rfl ?_
    rw [StBelow, FIN.out]
    exact ⟨rfl, B9.out⟩
theorem text_any : ∀ T : Ex.Tr, TxC T := by
  intro T
  induction T with
  | lf n => exact textLf_any n
  | un n b ih => exact textUn_any n b ih
  | bi n a b iha ihb => exact textBi_any n a b iha ihb
end Go.Proofs.YtmbfpichaaanpaaGreatDoor

/-! Expressions printed: Print. -/
namespace Go.Proofs.YtmbfpichaaanpaaGreatDoor
open Go.RowKit Ut Rx Mt

set_option maxRecDepth 100000 in
set_option maxHeartbeats 4000000 in
theorem printX_err (e : List Ex.Nd) (lv : Value) (w : World) (hl : Es0 w lv e) (hz : ∀ n ∈ e, n.sel.length ≤ 1000000) (hT : Lib.Utf8Tabs 6 7 w) (hw : 8 ≤ w.heap.size) (hx : (Ex.checkE e).2 ≠ 0) : Calls Tryz.prog 11 #[lv] w (StBelow w []) := by
  obtain ⟨A, c, rfl, _⟩ := id hl
  have CK := Lib.hid (checkX_any e _ w hl hz hT (by omega))
  unfold CkPost at CK
  generalize Ex.checkE e = ck at *
  obtain ⟨ct, cx⟩ := ck
  have hb : (cx != 0) = true := by simpa using hx
  clear hl hx
  go_enter Tryz.func11, Tryz.ntmps11
  go_wp2_with fail
  refine CK.out.mono ?_
  rintro e' w1 ⟨rfl, b1⟩
  have B1 := Lib.hid b1
  clear CK b1
  go_wp2_with fail
  exact bodyPost_ret (v := .string ⟨#[]⟩) (by simp [results, Tryz.results11, go_sem]) rfl ⟨rfl, B1.out⟩
set_option maxRecDepth 100000 in
set_option maxHeartbeats 4000000 in
theorem printX_ok (T : Ex.Tr) (lv : Value) (w : World) (hl : Es0 w lv T.nds) (hs : ∀ n ∈ T.nds, Ex.NdSz n) (ho : T.ok) (hT : Lib.Utf8Tabs 6 7 w) (hW : Wt w) (hw : 8 ≤ w.heap.size) (hx : (Ex.checkE T.nds).2 = 0) (hf : T.nds.length ≤ 1000) : Calls Tryz.prog 11 #[lv] w (StBelow w (Ex.txt flX T)) := by
  obtain ⟨A, c, rfl, _⟩ := id hl
  have CK := Lib.hid (checkX_any T.nds _ w hl (fun n hn => by have := (hs n hn).sl; omega) hT (by omega))
  unfold CkPost at CK
  rw [hx] at CK
  have HL := Lib.hid hl
  have TX : Hid (∀ w', Below w.heap.size w w' → Calls Tryz.prog 25 #[.slice A T.nds.length c, .int .i64 ((T.nds.length : Int) - 1)] w' (StBelow w' (Ex.txt flX T))) := fun w' b' => by
    have := text_any T [] [] (.slice A T.nds.length c) w' ⟨by simpa using hl.below b', ho, hs, hW.low (t := 8) (Nat.le_refl _) (b'.mono hw), Nat.le_trans hw b'.size, by simpa using hf⟩
    simpa using this
  generalize (Ex.checkE T.nds).1 = ct at *
  have hp := T.pos
  clear hl hx hs
  go_enter Tryz.func11, Tryz.ntmps11
  go_wp2_with fail
  refine CK.out.mono ?_
  rintro e' w1 ⟨rfl, b1⟩
  have B1 := Lib.hid b1
  have T1 := Lib.hid (TX.out w1 b1)
  clear CK b1 TX
  go_wp2_with fail
  refine T1.out.mono ?_
  rintro e' w2 ⟨rfl, b2⟩
  have B2 := Lib.hid (B1.out.trans (b2.mono B1.out.size))
  clear T1 b2
  go_wp2_with fail
  exact bodyPost_ret (v := .string ⟨(Ex.txt flX T).toArray⟩) (by simp [results, Tryz.results11, go_sem]) rfl ⟨rfl, B2.out⟩
end Go.Proofs.YtmbfpichaaanpaaGreatDoor
