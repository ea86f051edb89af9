import Derived.Test.YtmbfpichaaanpaaGreatDoorX46
/-! The chapter's examples. -/
namespace Go.Proofs.YtmbfpichaaanpaaGreatDoor
open Go.RowKit Ut Rx Mt

def exA : List Ex.Nd := [nuN (ofS 1), nuN (ofS 2), nuN (ofS 3), ndE 5 2 false, ndE 5 0 false]
def exTA : Ex.Tr := .bi (ndE 5 0 false) (.lf (nuN (ofS 1))) (.bi (ndE 5 2 false) (.lf (nuN (ofS 2))) (.lf (nuN (ofS 3))))
def upM : M := ⟨1, ⟨#[95, 95, 110, 97, 109, 101, 95, 95]⟩, ⟨#[117, 112]⟩⟩
def rgN : Ex.Nd := ⟨2, 0, 0, 5, [upM], false, false, []⟩
def jobN : Ex.Nd := ⟨8, 0, 0, 0, [], false, true, [⟨#[106, 111, 98]⟩]⟩
def exB : List Ex.Nd := [rgN, ndE 3 0 false, jobN]
def exTB : Ex.Tr := .un jobN (.un (ndE 3 0 false) (.lf rgN))
set_option maxRecDepth 100000 in
theorem parseA : Ex.parseE ofS [49, 32, 43, 32, 50, 32, 42, 32, 51] = .ok exA := by kernel_rfl
set_option maxRecDepth 100000 in
theorem parseB : Ex.parseE ofS [115, 117, 109, 32, 98, 121, 32, 40, 106, 111, 98, 41, 32, 40, 114, 97, 116, 101, 40, 117, 112, 91, 53, 93, 41, 41] = .ok exB := by kernel_rfl
set_option maxRecDepth 100000 in
theorem checkA : (Ex.checkE exA).2 = 0 := by kernel_rfl
set_option maxRecDepth 100000 in
theorem checkB : Ex.checkE exB = (2, 0) := by kernel_rfl
set_option maxRecDepth 100000 in
theorem txtA : Ex.txt flX exTA = [40, 49, 32, 43, 32, 40, 50, 32, 42, 32, 51, 41, 41] := by kernel_rfl
set_option maxRecDepth 100000 in
theorem txtB : Ex.txt flX exTB = [115, 117, 109, 32, 98, 121, 32, 40, 106, 111, 98, 41, 32, 40, 114, 97, 116, 101, 40, 117, 112, 91, 53, 93, 41, 41] := by kernel_rfl
set_option maxRecDepth 100000 in
theorem beginA : Ex.beginE exA 3 = 1 := by kernel_rfl
set_option maxRecDepth 100000 in
theorem resA : Ex.reservedE [114, 97, 116, 101] = true := by kernel_rfl
def BoB (w : World) (b : Bool) (e : Ending) (w' : World) : Prop := e = .returned (.bool b) ∧ Below w.heap.size w w'
set_option maxRecDepth 100000 in
theorem okA : exTA.ok := ⟨rfl, by kernel_rfl, by show _ ≠ (0 : Int); decide, ⟨rfl, by kernel_rfl⟩, rfl, by kernel_rfl, by show _ ≠ (0 : Int); decide, ⟨rfl, by kernel_rfl⟩, rfl, by kernel_rfl⟩
set_option maxRecDepth 100000 in
theorem okB : exTB.ok := ⟨rfl, by kernel_rfl, by show _ ≠ (0 : Int); decide, rfl, by kernel_rfl, by show _ ≠ (0 : Int); decide, rfl, by kernel_rfl⟩
theorem szP {n : Ex.Nd} (h1 : n.sel = []) (h2 : n.nm = []) : Ex.NdSz n := ⟨by rw [h1]; decide, (by rw [h1]; intro m hm; cases hm), by rw [h2]; decide, (by rw [h2]; intro m hm; cases hm)⟩
theorem szA : ∀ n ∈ exTA.nds, Ex.NdSz n := by
  intro n hn
  simp only [exTA, Ex.Tr.nds, List.cons_append, List.nil_append, List.mem_cons, List.not_mem_nil, or_false] at hn
  rcases hn with rfl | rfl | rfl | rfl | rfl <;> exact szP rfl rfl
theorem szB : ∀ n ∈ exTB.nds, Ex.NdSz n := by
  intro n hn
  simp only [exTB, Ex.Tr.nds, List.cons_append, List.nil_append, List.mem_cons, List.not_mem_nil, or_false] at hn
  rcases hn with rfl | rfl | rfl
  · refine ⟨by decide, ?_, by decide, (fun s hs => by cases hs)⟩
    intro m hm
    obtain rfl := List.mem_singleton.1 hm
    exact ⟨by decide, by decide⟩
  · exact szP rfl rfl
  · refine ⟨by decide, (fun s hs => by cases hs), by decide, ?_⟩
    intro s hs
    obtain rfl := List.mem_singleton.1 hs
    decide
set_option maxRecDepth 100000 in
set_option maxHeartbeats 8000000 in
theorem live_any (w : World) (hT : Lib.Utf8Tabs 6 7 w) (hW : Wt w) (hw : 8 ≤ w.heap.size) : Calls Tryz.prog 8 #[] w (BoB w true) := by
  have keepT : ∀ w' : World, Below w.heap.size w w' → Lib.Utf8Tabs 6 7 w' ∧ Wt w' ∧ 8 ≤ w'.heap.size := fun _ b => ⟨tabs_low hT (t := 8) (Nat.le_refl _) (b.mono hw), hW.low (t := 8) (Nat.le_refl _) (b.mono hw), Nat.le_trans hw b.size⟩
  have KT := Lib.hid keepT
  have PA := Lib.hid (parseX_any ⟨#[49, 32, 43, 32, 50, 32, 42, 32, 51]⟩ w hT hW hw)
  rw [show by_ (⟨#[49, 32, 43, 32, 50, 32, 42, 32, 51]⟩ : ByteArray) = [49, 32, 43, 32, 50, 32, 42, 32, 51] from rfl, parseA] at PA
  have PA : Hid (Calls Tryz.prog 12 #[.string ⟨#[49, 32, 43, 32, 50, 32, 42, 32, 51]⟩] w (fun e w' => Below w.heap.size w w' ∧ ∃ A c, e = .returned (.tuple #[.slice A 5 c, .int .i64 0]) ∧ Es0 w' (.slice A 5 c) exA)) := PA.out.mono fun e w' h => ⟨h.1, by obtain ⟨A, c, e1, e2, _⟩ := h.2; exact ⟨A, c, e1, e2⟩⟩
  have PB : Hid (∀ w', Below w.heap.size w w' → Calls Tryz.prog 12 #[.string ⟨#[115, 117, 109, 32, 98, 121, 32, 40, 106, 111, 98, 41, 32, 40, 114, 97, 116, 101, 40, 117, 112, 91, 53, 93, 41, 41]⟩] w' (fun e w9 => Below w'.heap.size w' w9 ∧ ∃ A c, e = .returned (.tuple #[.slice A 3 c, .int .i64 0]) ∧ Es0 w9 (.slice A 3 c) exB)) := fun w' b => by
    have k := keepT w' b
    have := parseX_any ⟨#[115, 117, 109, 32, 98, 121, 32, 40, 106, 111, 98, 41, 32, 40, 114, 97, 116, 101, 40, 117, 112, 91, 53, 93, 41, 41]⟩ w' k.1 k.2.1 k.2.2
    rw [show by_ (⟨#[115, 117, 109, 32, 98, 121, 32, 40, 106, 111, 98, 41, 32, 40, 114, 97, 116, 101, 40, 117, 112, 91, 53, 93, 41, 41]⟩ : ByteArray) = [115, 117, 109, 32, 98, 121, 32, 40, 106, 111, 98, 41, 32, 40, 114, 97, 116, 101, 40, 117, 112, 91, 53, 93, 41, 41] from rfl, parseB] at this
    exact this.mono fun e w' h => ⟨h.1, by obtain ⟨A, c, e1, e2, _⟩ := h.2; exact ⟨A, c, e1, e2⟩⟩
  clear hT hW keepT
  go_enter Tryz.func8, Tryz.ntmps8
  go_wp2_with fail
  refine PA.out.mono ?_
  rintro e w1 ⟨b1, A1, c1, rfl, es1⟩
  have B1 := Lib.hid b1
  have ES1 := Lib.hid es1
  have P1 := Lib.hid (PB.out w1 b1)
  clear PA PB b1 es1
  go_wp2_with fail
  refine P1.out.mono ?_
  rintro e w2 ⟨b2, A2, c2, rfl, es2⟩
  have B2 := Lib.hid (B1.out.trans (b2.mono B1.out.size))
  have ES1' := Lib.hid (ES1.out.below b2)
  have ES2 := Lib.hid es2
  have CK := Lib.hid (checkX_any exB _ w2 es2 (fun n hn => by have := (szB n hn).sl; omega) (KT.out _ B2.out).1 (by have := (KT.out _ B2.out).2.2; omega))
  unfold CkPost at CK
  rw [checkB] at CK
  clear P1 b2 es2 ES1 B1
  go_wp2_with fail
  refine CK.out.mono ?_
  rintro e w3 ⟨rfl, b3⟩
  have B3 := Lib.hid (B2.out.trans (b3.mono B2.out.size))
  have EA := Lib.hid (ES1'.out.below b3)
  have EB := Lib.hid (ES2.out.below b3)
  have PrA := Lib.hid (printX_ok exTA _ w3 EA.out szA okA (KT.out _ B3.out).1 (KT.out _ B3.out).2.1 (KT.out _ B3.out).2.2 checkA (by decide))
  unfold StBelow at PrA
  rw [txtA] at PrA
  clear CK b3 ES1' ES2 B2
  go_wp2_with fail
  refine PrA.out.mono ?_
  rintro e w4 ⟨rfl, b4⟩
  have B4 := Lib.hid (B3.out.trans (b4.mono B3.out.size))
  have EA4 := Lib.hid (EA.out.below b4)
  have PrB := Lib.hid (printX_ok exTB _ w4 (EB.out.below b4) szB okB (KT.out _ B4.out).1 (KT.out _ B4.out).2.1 (KT.out _ B4.out).2.2 (congrArg Prod.snd checkB) (by decide))
  unfold StBelow at PrB
  rw [txtB] at PrB
  clear PrA b4 EB EA B3
  go_wp2_with fail
  refine PrB.out.mono ?_
  rintro e w5 ⟨rfl, b5⟩
  have B5 := Lib.hid (B4.out.trans (b5.mono B4.out.size))
  have BG := Lib.hid (begin_any exA _ 3 w5 (EA4.out.below b5) (by decide))
  unfold IntBelow at BG
  rw [beginA] at BG
  clear PrB b5 EA4 B4
  go_wp2_with fail
  refine BG.out.mono ?_
  rintro e w6 ⟨rfl, b6⟩
  have B6 := Lib.hid (B5.out.trans (b6.mono B5.out.size))
  have RS := Lib.hid (reservedX_any ⟨#[114, 97, 116, 101]⟩ w6 (KT.out _ B6.out).2.1)
  unfold BoolSame at RS
  rw [show by_ (⟨#[114, 97, 116, 101]⟩ : ByteArray) = [114, 97, 116, 101] from rfl, resA] at RS
  clear BG b6 B5
  go_wp2_with fail
  refine RS.out.mono ?_
  rintro e w7 ⟨rfl, rfl⟩
  go_wp2_with fail
  exact bodyPost_ret (v := .bool true) (by simp [results, Tryz.results8, go_sem]) rfl ⟨rfl, B6.out⟩
end Go.Proofs.YtmbfpichaaanpaaGreatDoor

/-! Few nodes, with few matchers and names. -/
namespace Go.Proofs.YtmbfpichaaanpaaGreatDoor
open Go.RowKit Ut Rx Mt

def fewM (m : M) : Bool := decide (m.n.size ≤ 200) && decide (m.v.size ≤ 200)
def fewS (s : ByteArray) : Bool := decide (s.size ≤ 200)
def fewN (n : Ex.Nd) : Bool := decide (n.sel.length ≤ 20) && decide (n.nm.length ≤ 30) && n.sel.all fewM && n.nm.all fewS
def fewE (e : List Ex.Nd) : Bool := e.all fewN && decide (e.length ≤ 100)
theorem fewN_sz {n : Ex.Nd} (h : fewN n = true) : Ex.NdSz n := by
  unfold fewN at h
  simp only [Bool.and_eq_true, decide_eq_true_eq, List.all_eq_true] at h
  obtain ⟨⟨⟨h1, h2⟩, h3⟩, h4⟩ := h
  refine ⟨by omega, fun m hm => ?_, by omega, fun s hs => ?_⟩
  · have := h3 m hm
    unfold fewM at this
    simp only [Bool.and_eq_true, decide_eq_true_eq] at this
    omega
  · have := h4 s hs
    unfold fewS at this
    simp only [decide_eq_true_eq] at this
    omega
theorem fewE_sz {e : List Ex.Nd} (h : fewE e = true) : (∀ n ∈ e, Ex.NdSz n) ∧ e.length ≤ 100 := by
  unfold fewE at h
  simp only [Bool.and_eq_true, decide_eq_true_eq, List.all_eq_true] at h
  exact ⟨fun n hn => fewN_sz (h.1 n hn), h.2⟩
set_option maxRecDepth 100000 in
set_option maxHeartbeats 8000000 in
theorem fewX_any (l : List Ex.Nd) (lv : Value) (w : World) (hl : Es0 w lv l) (hbig : l.length ≤ 9223372036854775807) (hb2 : ∀ n ∈ l, n.sel.length ≤ 9223372036854775807 ∧ n.nm.length ≤ 9223372036854775807) : Calls Tryz.prog 9 #[lv] w (BoB w (fewE l)) := by
  obtain ⟨A, c, rfl, hcap, hcells⟩ := hl
  have HC := Lib.hid hcells
  have HB2 := Lib.hid hb2
  have E : Hid (fewE l = (l.all fewN && decide (l.length ≤ 100))) := rfl
  obtain ⟨r, hr⟩ : ∃ r, r = fewE l := ⟨_, rfl⟩
  rw [← hr] at E ⊢
  have B0 : Hid (Below w.heap.size w w) := Below.refl _ _
  clear hcells hb2 hcap hr
  go_enter Tryz.func9, Tryz.ntmps9
  go_wp2_with fail
  go_loopg [11] l.length (fun gk vk wr => ∃ k : Nat, vk = .int .i64 k ∧ k + gk = l.length ∧ Hid (((l.drop k).all fewN && decide (l.length ≤ 100)) = r) ∧ Hid (Below w.heap.size w wr))
  case atStart => exact ⟨0, rfl, by omega, by show _ = _; rw [E.out]; rfl, B0⟩
  case round =>
    obtain ⟨k, rfl, hk, HR, HB⟩ := hrel
    clear B0 E
    by_cases hlt : k < l.length
    · have hlti : (k : Int) < l.length := by omega
      obtain ⟨b, off, rfl, hc⟩ := HC.out (fun e => by rw [e] at hlt; simp at hlt)
      obtain ⟨sv, nv, nd0⟩ := hc k hlt
      have nd := nd0.below HB.out
      have HR2 : Hid ((fewN (l[k]'hlt) && (l.drop (k + 1)).all fewN && decide (l.length ≤ 100)) = r) := by
        have := HR.out
        rw [List.drop_eq_getElem_cons hlt, List.all_cons] at this
        exact this
      have hbn := HB2.out _ (List.getElem_mem hlt)
      have HBN := Lib.hid hbn
      have ln : l.length ≤ 9223372036854775807 := hbig
      generalize (l[k]'hlt) = n at *
      obtain ⟨A1, c1, rfl, _, hsl⟩ := id nd.sel
      obtain ⟨A2, c2, rfl, _, hnl⟩ := id nd.nm
      obtain ⟨e0, e1, e2, e3, e4, e5, e6, e7⟩ : _ ∧ _ ∧ _ ∧ _ ∧ _ ∧ _ ∧ _ ∧ _ := ⟨nd.c0, nd.c1, nd.c2, nd.c3, nd.c4, nd.c5, nd.c6, nd.c7⟩
      have HSL := Lib.hid hsl
      have HNL := Lib.hid hnl
      clear hc nd0 HR hsl hnl nd
      go_upto_region 4 with fail
      obtain ⟨W1, hW1⟩ : ∃ x, x = bxW wr n (.slice A1 n.sel.length c1) (.slice A2 n.nm.length c2) := ⟨_, rfl⟩
      have bx := bx_facts (w := wr) n (.slice A1 n.sel.length c1) (.slice A2 n.nm.length c2)
      rw [← hW1] at bx
      have B1 := Lib.hid (HB.out.trans (bx.1.mono HB.out.size))
      have BX := Lib.hid bx.1
      obtain ⟨nb, hnb⟩ : ∃ n, n = wr.heap.size := ⟨_, rfl⟩
      have HN := Lib.hid bx.2
      obtain ⟨⟨d0, d1, d2, d3, d4, d5, d6, d7⟩, fz⟩ := ndB_cells bx.2
      unfold bxW at hW1
      rw [← hW1, ← hnb]
      rw [← hnb] at d0 d1 d2 d3 d4 d5 d6 d7 HN
      obtain ⟨hb1, hb2⟩ := hbn
      clear hW1 hnb bx fz e0 e1 e2 e3 e4 e5 e6 e7 HC HB
      by_cases h20 : 20 < n.sel.length
      · have h20i : (20 : Int) < n.sel.length := by omega
        have E : Hid (r = false) := by
          show _ = _
          rw [← HR2.out, show fewN n = false from by unfold fewN; rw [decide_eq_false (by omega)]; rfl]
          rfl
        clear h20
        go_wp2_with fail
        refine bodyPost_ret (v := .bool false) (by simp [results, Tryz.results9, go_sem]) rfl ?_
        rw [E.out]
        exact ⟨rfl, B1.out⟩
      · have h20i : ¬ (20 : Int) < n.sel.length := by omega
        by_cases h30 : 30 < n.nm.length
        · have h30i : (30 : Int) < n.nm.length := by omega
          have E : Hid (r = false) := by
            show _ = _
            rw [← HR2.out, show fewN n = false from by unfold fewN; rw [decide_eq_false (show ¬ n.nm.length ≤ 30 by omega)]; simp]
            rfl
          clear h30
          go_wp2_with fail
          refine bodyPost_ret (v := .bool false) (by simp [results, Tryz.results9, go_sem]) rfl ?_
          rw [E.out]
          exact ⟨rfl, B1.out⟩
        · have h30i : ¬ (30 : Int) < n.nm.length := by omega
          have HF : Hid (fewN n = (n.sel.all fewM && n.nm.all fewS)) := by
            show _ = _
            unfold fewN
            rw [decide_eq_true (by omega), decide_eq_true (by omega)]
            rfl
          have B11 : Hid (Below W1.heap.size W1 W1) := Below.refl _ _
          obtain ⟨wo, hwo⟩ : ∃ x, x = wr := ⟨_, rfl⟩
          subst hwo
          go_wp2_with fail
          go_loopg [28] n.sel.length (fun g2 v28 wi => ∃ j : Nat, v28 = .int .i64 j ∧ j + g2 = n.sel.length ∧ Hid (Below W1.heap.size W1 wi) ∧ Hid ((n.sel.drop j).all fewM = n.sel.all fewM))
          case atStart => exact ⟨0, rfl, by omega, B11, by show _ = _; rfl⟩
          case round =>
            obtain ⟨j, rfl, hj, BI, HA⟩ := hrel
            obtain ⟨wi, hwi⟩ : ∃ x, x = wr := ⟨_, rfl⟩
            subst hwi
            clear B11
            have d7i := (BI.out.cell (World.block_lt_of_cell? W1 _ d7)).trans d7
            by_cases hjl : j < n.sel.length
            · have hjli : (j : Int) < n.sel.length := by omega
              obtain ⟨b2, off2, rfl, hc2⟩ := HSL.out (fun e => by rw [e] at hjl; simp at hjl)
              obtain ⟨m0, m1, m2⟩ := hc2 j hjl
              have kk : ∀ {p : Addr} {u : Value}, wo.cell? p = some u → wi.cell? p = some u := fun hp => by
                have a1 := (BX.out.cell (World.block_lt_of_cell? wo _ hp)).trans hp
                exact (BI.out.cell (World.block_lt_of_cell? W1 _ a1)).trans a1
              have k0 := kk m0
              have k1 := kk m1
              have k2 := kk m2
              have HA2 : Hid ((fewM (n.sel[j]'hjl) && (n.sel.drop (j + 1)).all fewM) = n.sel.all fewM) := by
                have := HA.out
                rw [List.drop_eq_getElem_cons hjl, List.all_cons] at this
                exact this
              generalize (n.sel[j]'hjl) = mm at *
              obtain ⟨mk, mn, mv⟩ := mm
              simp only at k0 k1 k2
              clear m0 m1 m2 hc2 kk HA
              by_cases hn : mn.size ≤ 200
              · have hn' : ¬ (200 : Int) < mn.size := by omega
                by_cases hv : mv.size ≤ 200
                · have hv' : ¬ (200 : Int) < mv.size := by omega
                  have R2 : Hid ((n.sel.drop (j + 1)).all fewM = n.sel.all fewM) := by
                    have := HA2.out
                    rw [show fewM ⟨mk, mn, mv⟩ = true from by unfold fewM; simp [hn, hv], Bool.true_and] at this
                    exact this
                  clear hn hv HA2
                  go_wp2_with fail
                  go_roundg (n.sel.length - (j + 1))
                  case measure => omega
                  case rel => exact ⟨j + 1, by go_num, by omega, BI.out.alloc BI.out.size _, R2⟩
                · have hv' : (200 : Int) < mv.size := by omega
                  have E : Hid (r = false) := by
                    have := HA2.out
                    rw [show fewM ⟨mk, mn, mv⟩ = false from by unfold fewM; simp [hv], Bool.false_and] at this
                    show _ = _
                    rw [← HR2.out, HF.out, ← this]
                    rfl
                  clear hn hv HA2
                  go_wp2_with fail
                  refine bodyPost_ret (v := .bool false) (by simp [results, Tryz.results9, go_sem]) rfl ?_
                  rw [E.out]
                  exact ⟨rfl, B1.out.trans ((BI.out.alloc BI.out.size _).mono B1.out.size)⟩
              · have hn' : (200 : Int) < mn.size := by omega
                have E : Hid (r = false) := by
                  have := HA2.out
                  rw [show fewM ⟨mk, mn, mv⟩ = false from by unfold fewM; simp [hn], Bool.false_and] at this
                  show _ = _
                  rw [← HR2.out, HF.out, ← this]
                  rfl
                clear hn HA2
                go_wp2_with fail
                refine bodyPost_ret (v := .bool false) (by simp [results, Tryz.results9, go_sem]) rfl ?_
                rw [E.out]
                exact ⟨rfl, B1.out.trans ((BI.out.alloc BI.out.size _).mono B1.out.size)⟩
            · have hjli : ¬ (j : Int) < n.sel.length := by omega
              have HF2 : Hid (fewN n = n.nm.all fewS) := by
                have := HA.out
                rw [List.drop_of_length_le (by omega)] at this
                show _ = _
                rw [HF.out, ← this]
                rfl
              have BIH := Lib.hid BI.out
              clear HA HF BI
              go_wp2_with fail
              go_loopg [46] n.nm.length (fun g3 v46 wz => ∃ q : Nat, v46 = .int .i64 q ∧ q + g3 = n.nm.length ∧ wz = wi ∧ Hid ((n.nm.drop q).all fewS = n.nm.all fewS))
              case atStart => exact ⟨0, rfl, by omega, rfl, by show _ = _; rfl⟩
              case round =>
                obtain ⟨q, rfl, hq, rfl, HA⟩ := hrel
                by_cases hql : q < n.nm.length
                · have hqli : (q : Int) < n.nm.length := by omega
                  obtain ⟨b2, off2, rfl, hc2⟩ := HNL.out (fun e => by rw [e] at hql; simp at hql)
                  have m0 := hc2 q hql
                  have a1 := (BX.out.cell (World.block_lt_of_cell? wo _ m0)).trans m0
                  have k0 := (BIH.out.cell (World.block_lt_of_cell? W1 _ a1)).trans a1
                  have HA2 : Hid ((fewS (n.nm[q]'hql) && (n.nm.drop (q + 1)).all fewS) = n.nm.all fewS) := by
                    have := HA.out
                    rw [List.drop_eq_getElem_cons hql, List.all_cons] at this
                    exact this
                  generalize (n.nm[q]'hql) = ms at *
                  clear m0 hc2 a1 HA
                  by_cases hn : ms.size ≤ 200
                  · have hn' : ¬ (200 : Int) < ms.size := by omega
                    have R2 : Hid ((n.nm.drop (q + 1)).all fewS = n.nm.all fewS) := by
                      have := HA2.out
                      rw [show fewS ms = true from by unfold fewS; simp [hn], Bool.true_and] at this
                      exact this
                    clear hn HA2
                    go_wp2_with fail
                    go_roundg (n.nm.length - (q + 1))
                    case measure => omega
                    case rel => exact ⟨q + 1, by go_num, by omega, rfl, R2⟩
                  · have hn' : (200 : Int) < ms.size := by omega
                    have E : Hid (r = false) := by
                      have := HA2.out
                      rw [show fewS ms = false from by unfold fewS; simp [hn], Bool.false_and] at this
                      show _ = _
                      rw [← HR2.out, HF2.out, ← this]
                      rfl
                    clear hn HA2
                    go_wp2_with fail
                    refine bodyPost_ret (v := .bool false) (by simp [results, Tryz.results9, go_sem]) rfl ?_
                    rw [E.out]
                    exact ⟨rfl, B1.out.trans (BIH.out.mono B1.out.size)⟩
                · have hqli : ¬ (q : Int) < n.nm.length := by omega
                  have R2 : Hid (((l.drop (k + 1)).all fewN && decide (l.length ≤ 100)) = r) := by
                    have := HA.out
                    rw [List.drop_of_length_le (by omega)] at this
                    show _ = _
                    rw [← HR2.out, HF2.out, ← this]
                    rfl
                  clear HA
                  go_wp2_with fail
                  go_roundg (l.length - (k + 1))
                  case measure => omega
                  case rel => exact ⟨k + 1, by go_num, by omega, R2, B1.out.trans (BIH.out.mono B1.out.size)⟩
    · have hlti : ¬ (k : Int) < l.length := by omega
      have E : Hid (r = decide (l.length ≤ 100)) := by
        have := HR.out
        rw [List.drop_of_length_le (by omega)] at this
        exact this.symm
      have E2 : Hid (r = decide ((l.length : Int) ≤ 100)) := by
        show _ = _
        rw [E.out]
        by_cases h : l.length ≤ 100
        · rw [decide_eq_true h, decide_eq_true (by omega)]
        · rw [decide_eq_false h, decide_eq_false (by omega)]
      go_wp2_with fail
      refine bodyPost_ret (v := .bool (decide ((l.length : Int) ≤ 100))) (by simp [results, Tryz.results9, go_sem]) rfl ?_
      rw [E2.out]
      exact ⟨rfl, HB.out⟩
end Go.Proofs.YtmbfpichaaanpaaGreatDoor
