import Derived.Test.YtmbfpichaaanpaaGreatDoorX48
import Derived.BigQuiet
/-! ExprParts. -/
namespace Go.Proofs.YtmbfpichaaanpaaGreatDoor
open Go.RowKit Ut Rx Mt

/-- what an argument of nodes is -/
structure NdsIn (w : World) (v : Value) (l : List Ex.Nd) : Prop where
  es : Es0 w v l
  n : l.length ≤ 9223372036854775807
  s : ∀ n ∈ l, n.sel.length ≤ 9223372036854775807 ∧ n.nm.length ≤ 9223372036854775807
theorem NdsIn.below {w w' : World} {v : Value} {l : List Ex.Nd} (h : NdsIn w v l) (b : Below w.heap.size w w') : NdsIn w' v l := ⟨h.es.below b, h.n, h.s⟩
/-- what a law needs of the world -/
structure Wl (w : World) : Prop where
  tabs : Lib.Utf8Tabs 6 7 w
  wt : Wt w
  low : 8 ≤ w.heap.size
theorem Wl.below {w w' : World} (h : Wl w) (b : Below w.heap.size w w') : Wl w' := ⟨tabs_low h.tabs (t := 8) (Nat.le_refl _) (b.mono h.low), h.wt.low (t := 8) (Nat.le_refl _) (b.mono h.low), Nat.le_trans h.low b.size⟩
theorem Wl.live {w : World} (h : Wl w) : Calls Tryz.prog 8 #[] w (BoB w true) := live_any w h.tabs h.wt h.low
theorem NdsIn.few {w : World} {v : Value} {l : List Ex.Nd} (h : NdsIn w v l) : Calls Tryz.prog 9 #[v] w (BoB w (fewE l)) := fewX_any l v w h.es h.n h.s
/-- a row of nodes is put behind another one -/
theorem wpList_nodes {ops : Array Oper} {rest : List Oper} {o : Oper} {a : Act} {Q : Exit → Act → World → Prop} {s x : Operand} {w : World} {base B : Nat} {v : Value} {R S : List NdV} {A : Option Addr} {c : Nat}
    (own : w.ownsRow base 37 8 v R.length (nodeC R)) (hr : Reads w B 8 A S.length (nodeC S)) (nr : Nr w S) (hsz : R.length + S.length ≤ 1000) (hbase : base ≤ w.heap.size) (hgd : o.guard = none)
    (ho : o.op = .call { callee := .builtin .append, args := #[s, x], argTypes := #[22, 22] }) (hs : a.eval s = v) (hx : a.eval x = .slice A S.length c)
    (h : ∀ A' c' w', w'.ownsRow base 37 8 (.slice A' (R ++ S).length c') (R ++ S).length (nodeC (R ++ S)) → w.grownBy w' v.ownBlock → wpList Tryz.prog ops Q rest (a.put o.dst (.slice A' (R ++ S).length c')) w') : wpList Tryz.prog ops Q (o :: rest) a w := by
  obtain ⟨i0, hi, hz0, hz1, hz2⟩ := info_parts infoNode
  refine wpList_append_any _ hgd s x 22 ho base 37 i0 _ 8 88 Tryz.underlying22 hi hz0 hz1 hz2 rfl (by decide) v R.length (nodeC R) hs own B A S.length c (nodeC S) hx hr (nodeC_one nr) (by unfold maxLen; omega) (by omega) hbase fun v' w' own' gr _ => ?_
  rw [← nodeC_app, ← List.length_append] at own'
  rcases row_kinds own' with ⟨rfl, h0⟩ | ⟨g, c', rfl, _⟩
  · have := h none 0 w'
    rw [h0] at this own'
    exact this own' gr
  · exact h _ _ _ own' gr
theorem own_empty (w : World) {base : Nat} (hb : base ≤ w.heap.size) : (w.alloc (.cells #[] 37)).ownsRow base 37 8 (.slice (some ⟨w.heap.size, 0, none⟩) 0 0) ([] : List NdV).length (nodeC []) :=
  ⟨rfl, Or.inr ⟨w.heap.size, 0, #[], rfl, hb, heap_alloc_new w _, Nat.le_refl _, by unfold maxLen; omega, rfl, rfl⟩⟩
theorem reads_one {w : World} {b : Nat} {n : Ex.Nd} {sv nv : Value} (h : w.heap[b]? = some (ndB n sv nv)) : Reads w (b + 1) 8 (some ⟨b, 0, none⟩) [((n, sv, nv) : NdV)].length (nodeC [((n, sv, nv) : NdV)]) := by
  refine ⟨nodeC_len _, fun _ => ⟨_, rfl, Nat.lt_succ_self _, fun j u hu => ?_⟩⟩
  rw [show nodeC [((n, sv, nv) : NdV)] = ndV n sv nv from by simp [nodeC]] at hu
  exact news_nd' h j u hu
theorem nr_one {w : World} {k op : Int} {bl : Bool} : Nr w [((ndE k op bl, .slice none 0 0, .slice none 0 0) : NdV)] := by
  intro x hx
  obtain rfl := List.mem_singleton.1 hx
  exact ⟨⟨none, 0, rfl, Nat.le_refl _, fun e => absurd rfl e⟩, ⟨none, 0, rfl, Nat.le_refl _, fun e => absurd rfl e⟩, by show 0 < _; decide, by show 0 < _; decide⟩
set_option maxRecDepth 100000 in
set_option maxHeartbeats 16000000 in
theorem parts_any (a b : List Ex.Nd) (va vb : Value) (op : Int) (w : World) (ha : NdsIn w va a) (hb : NdsIn w vb b) (hW : Wl w) (hop : -9223372036854775808 ≤ op ∧ op ≤ 9223372036854775807) : Calls Tryz.prog 5 #[va, vb, .int .i64 op] w (BoB w true) := by
  have HA := Lib.hid ha
  have HB := Lib.hid hb
  have HW := Lib.hid hW
  obtain ⟨A1, c1, rfl, _⟩ := id ha.es
  obtain ⟨A2, c2, rfl, _⟩ := id hb.es
  have na := ha.n
  have nb := hb.n
  have LI := Lib.hid (fun w' (b' : Below w.heap.size w w') => (hW.below b').live)
  have FA := Lib.hid (fun w' (b' : Below w.heap.size w w') => (ha.below b').few)
  have FB := Lib.hid (fun w' (b' : Below w.heap.size w w') => (hb.below b').few)
  obtain ⟨fa, hfa⟩ : ∃ f, f = fewE a := ⟨_, rfl⟩
  obtain ⟨fb, hfb⟩ : ∃ f, f = fewE b := ⟨_, rfl⟩
  rw [← hfa] at FA
  rw [← hfb] at FB
  have hla : fa = true → a.length ≤ 100 := fun h => (fewE_sz (hfa.symm.trans h)).2
  have hlb : fb = true → b.length ≤ 100 := fun h => (fewE_sz (hfb.symm.trans h)).2
  have HLA := Lib.hid hla
  have HLB := Lib.hid hlb
  have SA := Lib.hid hfa
  have SB := Lib.hid hfb
  clear ha hb hW hfa hfb hla hlb
  go_enter Tryz.func5, Tryz.ntmps5
  go_upto_region 1 with fail
  go_cut [44] (fun v wx => v = .bool (!(fa && fb && decide (a.length + b.length < 64) && decide (0 ≤ op))) ∧ Hid (Below w.heap.size w wx))
  case first =>
    go_wp2_with fail
    refine (LI.out w (Below.refl _ _)).mono ?_
    rintro e w1 ⟨rfl, b1⟩
    have F1 := Lib.hid (FA.out w1 b1)
    have B1 := Lib.hid b1
    clear b1
    go_wp2_with fail
    refine F1.out.mono ?_
    rintro e w2 ⟨rfl, b2⟩
    have B2 := Lib.hid (B1.out.trans (b2.mono B1.out.size))
    clear b2 F1 B1
    cases fa with
    | false =>
      go_wp2_with fail
      go_meet
      case rel => exact ⟨rfl, B2⟩
    | true =>
      have F2 := Lib.hid (FB.out w2 B2.out)
      go_wp2_with fail
      refine F2.out.mono ?_
      rintro e w3 ⟨rfl, b3⟩
      have B3 := Lib.hid (B2.out.trans (b3.mono B2.out.size))
      clear b3 F2 B2
      cases fb with
      | false =>
        go_wp2_with fail
        go_meet
        case rel => exact ⟨rfl, B3⟩
      | true =>
        have l1 := HLA.out (by simp)
        have l2 := HLB.out (by simp)
        by_cases h64 : a.length + b.length < 64
        · have h64i : ¬ (64 : Int) ≤ (a.length : Int) + b.length := by omega
          have hd : Hid (decide (a.length + b.length < 64) = true) := decide_eq_true h64
          by_cases h0 : 0 ≤ op
          · have hd0 : Hid (decide (0 ≤ op) = true) := decide_eq_true h0
            have h0i : ¬ op < 0 := by omega
            clear h64
            go_wp2_with fail
            go_meet
            case rel => exact ⟨by rw [hd.out, hd0.out]; simp [h64i, h0i], B3⟩
          · have hd0 : Hid (decide (0 ≤ op) = false) := decide_eq_false h0
            have h0i : op < 0 := by omega
            clear h64
            go_wp2_with fail
            go_meet
            case rel => exact ⟨by rw [hd.out, hd0.out]; simp, B3⟩
        · have h64i : (64 : Int) ≤ (a.length : Int) + b.length := by omega
          have hd : Hid (decide (a.length + b.length < 64) = false) := decide_eq_false h64
          clear h64
          go_wp2_with fail
          go_meet
          case rel => exact ⟨by rw [hd.out]; simp, B3⟩
  case rest =>
    obtain ⟨rfl, B0⟩ := hcut
    cases hq : (fa && fb && decide (a.length + b.length < 64) && decide (0 ≤ op)) with
    | false =>
      have L2 := Lib.hid (LI.out wc B0.out)
      go_wp2_with fail
      refine L2.out.mono ?_
      rintro e w1 ⟨rfl, b1⟩
      have B1 := Lib.hid (B0.out.trans (b1.mono B0.out.size))
      go_wp2_with fail
      exact bodyPost_ret (v := .bool true) (by simp [results, Tryz.results5, go_sem]) rfl ⟨rfl, B1.out⟩
    | true =>
      simp only [Bool.and_eq_true, decide_eq_true_eq] at hq
      obtain ⟨⟨⟨rfl, rfl⟩, h64⟩, h0⟩ := hq
      have ZA := Lib.hid (fewE_sz SA.out.symm).1
      have ZB := Lib.hid (fewE_sz SB.out.symm).1
      have l1 := HLA.out (by simp)
      have l2 := HLB.out (by simp)
      have CA := Lib.hid (checkX_any a _ wc (HA.out.es.below B0.out) (fun n hn => by have := (ZA.out n hn).sl; omega) (HW.out.below B0.out).tabs (by have := (HW.out.below B0.out).low; omega))
      have CB := Lib.hid (fun w' (b' : Below w.heap.size w w') => checkX_any b _ w' (HB.out.es.below b') (fun n hn => by have := (ZB.out n hn).sl; omega) (HW.out.below b').tabs (by have := (HW.out.below b').low; omega))
      unfold CkPost at CA CB
      obtain ⟨ka, hka⟩ : ∃ k, k = Ex.checkE a := ⟨_, rfl⟩
      obtain ⟨kb, hkb⟩ : ∃ k, k = Ex.checkE b := ⟨_, rfl⟩
      rw [← hka] at CA
      rw [← hkb] at CB
      obtain ⟨ta, xa⟩ := ka
      obtain ⟨tb, xb⟩ := kb
      have KA := Lib.hid hka
      have KB := Lib.hid hkb
      clear LI FA FB HLA HLB SA SB hka hkb
      go_wp2_with fail
      refine CA.out.mono ?_
      rintro e w1 ⟨rfl, b1⟩
      have B1 := Lib.hid (B0.out.trans (b1.mono B0.out.size))
      have CB1 := Lib.hid (CB.out w1 B1.out)
      clear CA CB b1 B0
      go_wp2_with fail
      refine CB1.out.mono ?_
      rintro e w2 ⟨rfl, b2⟩
      have B2 := Lib.hid (B1.out.trans (b2.mono B1.out.size))
      clear CB1 b2 B1
      by_cases hxa : xa = 0
      · by_cases hxb : xb = 0
        · subst hxa
          subst hxb
          go_upto_region 7 with fail
          obtain ⟨Aa, ca, Ra, e1, _, hRa, nra, rda⟩ := HA.out.es.rows
          obtain ⟨Ab, cb, Rb, e2, _, hRb, nrb, rdb⟩ := HB.out.es.rows
          have la : Ra.length = a.length := by rw [← hRa, List.length_map]
          have lb : Rb.length = b.length := by rw [← hRb, List.length_map]
          rw [← la, ← lb] at h64
          simp only [Value.slice.injEq] at e1 e2
          obtain ⟨rfl, _, rfl⟩ := e1
          obtain ⟨rfl, _, rfl⟩ := e2
          rw [← la, ← lb]
          have LA := Lib.hid la
          have LB := Lib.hid lb
          have NRA := Lib.hid nra
          have NRB := Lib.hid nrb
          have RDA := Lib.hid rda
          have RDB := Lib.hid rdb
          have HRA := Lib.hid hRa
          have HRB := Lib.hid hRb
          have ow := B2.out.size
          have BE : Hid (Below w2.heap.size w2 (w2.alloc (.cells #[] 37))) := (Below.refl _ _).alloc (Nat.le_refl _) _
          have B3e := Lib.hid (B2.out.trans (BE.out.mono B2.out.size))
          have OE := Lib.hid (own_empty w2 (Nat.le_refl _))
          have RA3 := Lib.hid ((RDA.out.below B3e.out))
          have NA3 := Lib.hid (NRA.out.below B3e.out)
          have z3 := Lib.hid (show w2.heap.size ≤ (w2.alloc (.cells #[] 37)).heap.size from BE.out.size)
          have hs1 : ([] : List NdV).length + Ra.length ≤ 1000 := by simp only [List.length_nil]; omega
          clear la lb nra nrb rda rdb hRa hRb l1 l2 na nb
          go_upto_region 8 with (first | (at_builtin; refine wpList_nodes (s := .tmp 62) (x := .tmp 63) OE.out RA3.out NA3.out hs1 z3.out (by rfl) (by rfl) (by rfl) (by rfl) ?_; intro A4 c4 w4 own4 gr4; rw [List.nil_append] at own4 ⊢; have B4 := Lib.hid (below_pushed B3e.out OE.out gr4 ow); have O4 := Lib.hid own4; have RB4 := Lib.hid (RDB.out.below B4.out); have NB4 := Lib.hid (NRB.out.below B4.out); have z4 := Lib.hid (show w2.heap.size ≤ w4.heap.size from Nat.le_trans BE.out.size gr4.size); have hs2 : Ra.length + Rb.length ≤ 1000 := (by omega); clear own4 gr4 OE RA3 NA3 z3 hs1 B3e BE) | (at_builtin; refine wpList_nodes (s := .tmp 64) (x := .tmp 65) O4.out RB4.out NB4.out hs2 z4.out (by rfl) (by rfl) (by rfl) (by rfl) ?_; intro A5 c5 w5 own5 gr5))
          obtain ⟨RAB, hRAB⟩ : ∃ X, X = Ra ++ Rb := ⟨_, rfl⟩
          have lab : RAB.length = Ra.length + Rb.length := by rw [hRAB, List.length_append]
          rw [← hRAB] at own5
          rw [← lab]
          have B5 := Lib.hid (below_pushed B4.out O4.out gr5 ow)
          have LAB := Lib.hid lab
          have labs : RAB.length ≤ 64 := by omega
          have MAB : Hid (RAB.map (·.1) = a ++ b) := by show _ = _; rw [hRAB, List.map_append, HRA.out, HRB.out]
          have NRall8 : Hid (Nr w5 RAB) := by
            show Nr _ _
            rw [hRAB]
            exact (NRA.out.below B5.out).app (NRB.out.below B5.out)
          have RDall8 := Lib.hid (Reads.of_own own5)
          have ESall : Hid (Es0 w5 (.slice A5 RAB.length c5) (a ++ b)) := by
            have := es_of_row own5 NRall8.out
            rw [MAB.out] at this
            exact this
          have hm5 : op.tmod 5 = op % 5 := Int.tmod_eq_emod_of_nonneg h0
          have hm3 : op.tmod 3 = op % 3 := Int.tmod_eq_emod_of_nonneg h0
          clear own5 gr5 O4 RB4 NB4 z4 hs2 hRAB B4 lab

          have BE8 := Lib.hid (nd_below w5 (.cells #[] 37))
          have OE8 := Lib.hid (own_empty w5 (Nat.le_refl _))
          have RD8 := Lib.hid (RDall8.out.alloc (Nat.le_refl _) (.cells #[] 37))
          have NR8 := Lib.hid (NRall8.out.below BE8.out)
          have z8 := Lib.hid (show w5.heap.size ≤ (w5.alloc (.cells #[] 37)).heap.size from BE8.out.size)
          have hs8 : ([] : List NdV).length + RAB.length ≤ 1000 := by simp only [List.length_nil]; omega
          go_upto_region 9 with (first | (at_builtin; refine wpList_nodes (s := .tmp 67) (x := .tmp 68) OE8.out RD8.out NR8.out hs8 z8.out (by rfl) (by rfl) (by rfl) (by rfl) ?_; intro A8a c8a w8a own8a gr8a; rw [List.nil_append] at own8a ⊢; have B8a := Lib.hid (below_pushed BE8.out OE8.out gr8a (Nat.le_refl _)); have Ow8a := Lib.hid own8a; have BN8 := Lib.hid (nd_below w8a (ndB (ndE 5 (op % 5) false) (.slice none 0 0) (.slice none 0 0))); have OA8 := Lib.hid (World.ownsRow.alloc Ow8a.out (ndB (ndE 5 (op % 5) false) (.slice none 0 0) (.slice none 0 0))); have R18 := Lib.hid (reads_one (heap_alloc_new w8a (ndB (ndE 5 (op % 5) false) (.slice none 0 0) (.slice none 0 0)))); have N18 : Hid (Nr (w8a.alloc (ndB (ndE 5 (op % 5) false) (.slice none 0 0) (.slice none 0 0))) [((ndE 5 (op % 5) false, .slice none 0 0, .slice none 0 0) : NdV)]) := nr_one; have y8 := Lib.hid (show w5.heap.size ≤ (w8a.alloc (ndB (ndE 5 (op % 5) false) (.slice none 0 0) (.slice none 0 0))).heap.size from Nat.le_trans B8a.out.size BN8.out.size); have hq8 : RAB.length + [((ndE 5 (op % 5) false, .slice none 0 0, .slice none 0 0) : NdV)].length ≤ 1000 := (by simp only [List.length_singleton]; omega); clear own8a gr8a OE8 RD8 NR8 z8) | (at_builtin; refine wpList_nodes (s := .tmp 69) (x := .tmp 73) OA8.out R18.out N18.out hq8 y8.out (by rfl) (by rfl) (by rfl) (by rfl) ?_; intro A8b c8b w7 own8b gr8b))
          obtain ⟨R8, hR8⟩ : ∃ X, X = RAB ++ [((ndE 5 (op % 5) false, .slice none 0 0, .slice none 0 0) : NdV)] := ⟨_, rfl⟩
          have lR8 : R8.length = RAB.length + 1 := by rw [hR8, List.length_append]; rfl
          rw [← hR8] at own8b
          rw [← lR8]
          have LR8 := Lib.hid lR8
          clear lR8
          have B8b : Hid (Below w5.heap.size w5 w7) := below_pushed (B8a.out.trans (BN8.out.mono B8a.out.size)) OA8.out gr8b (Nat.le_refl _)
          have NRf8 : Hid (Nr w7 R8) := by
            show Nr _ _
            rw [hR8]
            exact (NRall8.out.below B8b.out).app nr_one
          have ES8 : Hid (Es0 w7 (.slice A8b R8.length c8b) (a ++ b ++ [ndE 5 (op % 5) false])) := by
            have := es_of_row own8b NRf8.out
            rw [hR8, List.map_append, MAB.out] at this
            rw [hR8]
            exact this
          clear own8b gr8b hR8 OA8 R18 N18 y8 Ow8a NRf8 BE8 BN8 B8a
          have NRall9 := Lib.hid (NRall8.out.below B8b.out)
          have RDall9 : Hid (Reads w7 w7.heap.size 8 A5 RAB.length (nodeC RAB)) := (RDall8.out.below B8b.out).more B8b.out.size

          have BE9 := Lib.hid (nd_below w7 (.cells #[] 37))
          have OE9 := Lib.hid (own_empty w7 (Nat.le_refl _))
          have RD9 := Lib.hid (RDall9.out.alloc (Nat.le_refl _) (.cells #[] 37))
          have NR9 := Lib.hid (NRall9.out.below BE9.out)
          have z9 := Lib.hid (show w7.heap.size ≤ (w7.alloc (.cells #[] 37)).heap.size from BE9.out.size)
          have hs9 : ([] : List NdV).length + RAB.length ≤ 1000 := by simp only [List.length_nil]; omega
          go_upto_region 10 with (first | (at_builtin; refine wpList_nodes (s := .tmp 75) (x := .tmp 76) OE9.out RD9.out NR9.out hs9 z9.out (by rfl) (by rfl) (by rfl) (by rfl) ?_; intro A9a c9a w9a own9a gr9a; rw [List.nil_append] at own9a ⊢; have B9a := Lib.hid (below_pushed BE9.out OE9.out gr9a (Nat.le_refl _)); have Ow9a := Lib.hid own9a; have BN9 := Lib.hid (nd_below w9a (ndB (ndE 7 (op % 3) false) (.slice none 0 0) (.slice none 0 0))); have OA9 := Lib.hid (World.ownsRow.alloc Ow9a.out (ndB (ndE 7 (op % 3) false) (.slice none 0 0) (.slice none 0 0))); have R19 := Lib.hid (reads_one (heap_alloc_new w9a (ndB (ndE 7 (op % 3) false) (.slice none 0 0) (.slice none 0 0)))); have N19 : Hid (Nr (w9a.alloc (ndB (ndE 7 (op % 3) false) (.slice none 0 0) (.slice none 0 0))) [((ndE 7 (op % 3) false, .slice none 0 0, .slice none 0 0) : NdV)]) := nr_one; have y9 := Lib.hid (show w7.heap.size ≤ (w9a.alloc (ndB (ndE 7 (op % 3) false) (.slice none 0 0) (.slice none 0 0))).heap.size from Nat.le_trans B9a.out.size BN9.out.size); have hq9 : RAB.length + [((ndE 7 (op % 3) false, .slice none 0 0, .slice none 0 0) : NdV)].length ≤ 1000 := (by simp only [List.length_singleton]; omega); clear own9a gr9a OE9 RD9 NR9 z9) | (at_builtin; refine wpList_nodes (s := .tmp 77) (x := .tmp 81) OA9.out R19.out N19.out hq9 y9.out (by rfl) (by rfl) (by rfl) (by rfl) ?_; intro A9b c9b w9 own9b gr9b))
          obtain ⟨R9, hR9⟩ : ∃ X, X = RAB ++ [((ndE 7 (op % 3) false, .slice none 0 0, .slice none 0 0) : NdV)] := ⟨_, rfl⟩
          have lR9 : R9.length = RAB.length + 1 := by rw [hR9, List.length_append]; rfl
          rw [← hR9] at own9b
          rw [← lR9]
          have LR9 := Lib.hid lR9
          clear lR9
          have B9b : Hid (Below w7.heap.size w7 w9) := below_pushed (B9a.out.trans (BN9.out.mono B9a.out.size)) OA9.out gr9b (Nat.le_refl _)
          have NRf9 : Hid (Nr w9 R9) := by
            show Nr _ _
            rw [hR9]
            exact (NRall9.out.below B9b.out).app nr_one
          have ES9 : Hid (Es0 w9 (.slice A9b R9.length c9b) (a ++ b ++ [ndE 7 (op % 3) false])) := by
            have := es_of_row own9b NRf9.out
            rw [hR9, List.map_append, MAB.out] at this
            rw [hR9]
            exact this
          clear own9b gr9b hR9 OA9 R19 N19 y9 Ow9a NRf9 BE9 BN9 B9a
          have B9 := Lib.hid (B5.out.trans ((B8b.out.trans (B9b.out.mono B8b.out.size)).mono B5.out.size))
          have EB := Lib.hid (ES8.out.below B9b.out)
          have EAll := Lib.hid ((ESall.out.below B8b.out).below B9b.out)
          have WW := Lib.hid (HW.out.below B9.out)
          obtain ⟨TA, rfl, okA, tyA, ha3, _⟩ := Ex.check_tree (show (Ex.checkE a).2 = 0 from by rw [← KA.out])
          obtain ⟨TB, rfl, okB, tyB, hb3, _⟩ := Ex.check_tree (show (Ex.checkE b).2 = 0 from by rw [← KB.out])
          rw [← KA.out] at tyA
          rw [← KB.out] at tyB
          simp only at tyA tyB
          have h64' : TA.nds.length + TB.nds.length < 64 := by have := LA.out; have := LB.out; omega
          have o5 : 0 ≤ op % 5 ∧ op % 5 < 5 := by omega
          have o3 : 0 ≤ op % 3 ∧ op % 3 < 3 := by omega
          have PB := Ex.check_bin okA okB ha3 hb3 h64' o5.1 o5.2
          have PS := Ex.check_set okA okB h64' o3.1 o3.2
          have PL := Ex.check_all okA okB h64'
          have hA := Ex.ty_pos okA
          have hB := Ex.ty_pos okB
          have szs : ∀ n ∈ TA.nds ++ TB.nds, n.sel.length ≤ 1000000 := fun n hn => by
            rcases List.mem_append.1 hn with h | h
            · have := (ZA.out n h).sl; omega
            · have := (ZB.out n h).sl; omega
          have szk : ∀ (k o : Int), ∀ n ∈ TA.nds ++ TB.nds ++ [ndE k o false], n.sel.length ≤ 1000000 := fun k o n hn => by
            rcases List.mem_append.1 hn with h | h
            · exact szs n h
            · obtain rfl := List.mem_singleton.1 h
              show 0 ≤ _
              omega
          have C1 := Lib.hid (checkX_any _ _ w9 EB.out (szk _ _) WW.out.tabs (by have := WW.out.low; omega))
          have C2 := Lib.hid (fun w' (b' : Below w9.heap.size w9 w') => checkX_any _ _ w' (ES9.out.below b') (szk _ _) (WW.out.below b').tabs (by have := (WW.out.below b').low; omega))
          have C3 := Lib.hid (fun w' (b' : Below w9.heap.size w9 w') => checkX_any _ _ w' (EAll.out.below b') szs (WW.out.below b').tabs (by have := (WW.out.below b').low; omega))
          unfold CkPost at C1 C2 C3
          rw [PB.2, tyA, tyB] at C1
          rw [PS, tyA, tyB] at C2
          rw [PL] at C3
          rw [tyA] at hA ha3
          rw [tyB] at hB hb3
          generalize (Ex.checkE (TA.nds ++ TB.nds)).1 = t3 at *
          have lt1 : (TA.nds ++ TB.nds ++ [ndE 5 (op % 5) false]).length ≤ 1000000 := by simp only [List.length_append, List.length_singleton]; omega
          have G1 : Hid (∀ w', Below w9.heap.size w9 w' → Calls Tryz.prog 14 #[.slice A8b R8.length c8b, .int .i64 (RAB.length : Int)] w' (IntBelow w' 0)) := fun w' b' => by
            have := begin_any _ _ (RAB.length : Int) w' (EB.out.below b') lt1
            have e := Ex.begin_of (.bi (ndE 5 (op % 5) false) TA TB) PB.1 [] []
            rw [List.nil_append, List.append_nil, List.length_nil, Nat.zero_add, show (((Ex.Tr.bi (ndE 5 (op % 5) false) TA TB).nds.length : Nat) - 1 : Int) = (RAB.length : Int) from by
              have := LAB.out; have := LA.out; have := LB.out
              simp only [Ex.Tr.nds, List.length_append, List.length_singleton]; omega] at e
            rw [show Ex.beginE (TA.nds ++ TB.nds ++ [ndE 5 (op % 5) false]) (RAB.length : Int) = 0 from e] at this
            exact this
          have G2 : Hid (∀ w', Below w9.heap.size w9 w' → Calls Tryz.prog 14 #[.slice A8b R8.length c8b, .int .i64 ((RAB.length : Int) - 1)] w' (IntBelow w' (Ra.length : Int))) := fun w' b' => by
            have := begin_any _ _ ((RAB.length : Int) - 1) w' (EB.out.below b') lt1
            have e := Ex.begin_of TB okB TA.nds [ndE 5 (op % 5) false]
            rw [show ((TA.nds.length + TB.nds.length : Nat) - 1 : Int) = (RAB.length : Int) - 1 from by
              have := LAB.out; have := LA.out; have := LB.out; omega] at e
            rw [e, ← LA.out] at this
            exact this
          have G3 : Hid (∀ w', Below w9.heap.size w9 w' → Calls Tryz.prog 14 #[.slice A8b R8.length c8b, .int .i64 ((Ra.length : Int) - 1)] w' (IntBelow w' 0)) := fun w' b' => by
            have := begin_any _ _ ((Ra.length : Int) - 1) w' (EB.out.below b') lt1
            have e := Ex.begin_of TA okA [] (TB.nds ++ [ndE 5 (op % 5) false])
            rw [List.nil_append, List.length_nil, Nat.zero_add, show ((TA.nds.length : Nat) - 1 : Int) = (Ra.length : Int) - 1 from by have := LA.out; omega, ← List.append_assoc] at e
            rw [e] at this
            exact this
          clear PB PS PL szs szk EB ES9 EAll ES8 ESall tyA tyB okA okB ZA ZB KA KB LA LB LAB LR8 LR9 NRall8 NRall9 RDall8 RDall9 NRA NRB RDA RDB HRA HRB MAB HA HB hm5 hm3 o5 o3 lt1 h64'
          have hAB : (ta = 1 ∨ ta = 2) ∧ (tb = 1 ∨ tb = 2) := by omega
          obtain ⟨hA2, hB2⟩ := hAB
          clear hA hB ha3 hb3
          rcases hA2 with rfl | rfl <;> rcases hB2 with rfl | rfl
          · rw [show max (1 : Int) 1 = 1 from rfl] at C1
            rw [show (if (1 : Int) = 2 ∧ (1 : Int) = 2 then ((2, 0) : Int × Int) else (0, 260)) = (0, 260) from rfl] at C2
            go_wp2_with fail
            refine C1.out.mono ?_
            rintro e w10 ⟨rfl, b10⟩
            have B10 := Lib.hid b10
            have C2' := Lib.hid (C2.out w10 b10)
            clear C1 C2 b10
            go_wp2_with fail
            refine C2'.out.mono ?_
            rintro e w11 ⟨rfl, b11⟩
            have B11 := Lib.hid (B10.out.trans (b11.mono B10.out.size))
            have C3' := Lib.hid (C3.out w11 B11.out)
            clear C2' C3 b11 B10
            go_wp2_with fail
            refine C3'.out.mono ?_
            rintro e w12 ⟨rfl, b12⟩
            have B12 := Lib.hid (B11.out.trans (b12.mono B11.out.size))
            have G1' := Lib.hid (G1.out w12 B12.out)
            clear C3' b12 B11 G1
            go_wp2_with fail
            refine G1'.out.mono ?_
            rintro e w13 ⟨rfl, b13⟩
            have B13 := Lib.hid (B12.out.trans (b13.mono B12.out.size))
            have G2' := Lib.hid (G2.out w13 B13.out)
            clear G1' b13 B12 G2
            go_wp2_with fail
            refine G2'.out.mono ?_
            rintro e w14 ⟨rfl, b14⟩
            have B14 := Lib.hid (B13.out.trans (b14.mono B13.out.size))
            have G3' := Lib.hid (G3.out w14 B14.out)
            clear G2' b14 B13 G3
            go_wp2_with fail
            refine G3'.out.mono ?_
            rintro e w15 ⟨rfl, b15⟩
            have B15 := Lib.hid (B9.out.trans ((B14.out.trans (b15.mono B14.out.size)).mono B9.out.size))
            clear G3' b15 B14
            go_wp2_with fail
            exact bodyPost_ret (v := .bool true) (by simp [results, Tryz.results5, go_sem]) rfl ⟨rfl, B15.out⟩
          · have hm12 : max (1 : Int) 2 = 2 := rfl
            rw [show max (1 : Int) 2 = 2 from rfl] at C1
            rw [show (if (1 : Int) = 2 ∧ (2 : Int) = 2 then ((2, 0) : Int × Int) else (0, 260)) = (0, 260) from rfl] at C2
            go_wp2_with fail
            refine C1.out.mono ?_
            rintro e w10 ⟨rfl, b10⟩
            have B10 := Lib.hid b10
            have C2' := Lib.hid (C2.out w10 b10)
            clear C1 C2 b10
            go_wp2_with fail
            refine C2'.out.mono ?_
            rintro e w11 ⟨rfl, b11⟩
            have B11 := Lib.hid (B10.out.trans (b11.mono B10.out.size))
            have C3' := Lib.hid (C3.out w11 B11.out)
            clear C2' C3 b11 B10
            go_wp2_with fail
            refine C3'.out.mono ?_
            rintro e w12 ⟨rfl, b12⟩
            have B12 := Lib.hid (B11.out.trans (b12.mono B11.out.size))
            have G1' := Lib.hid (G1.out w12 B12.out)
            clear C3' b12 B11 G1
            go_wp2_with fail
            refine G1'.out.mono ?_
            rintro e w13 ⟨rfl, b13⟩
            have B13 := Lib.hid (B12.out.trans (b13.mono B12.out.size))
            have G2' := Lib.hid (G2.out w13 B13.out)
            clear G1' b13 B12 G2
            go_wp2_with fail
            refine G2'.out.mono ?_
            rintro e w14 ⟨rfl, b14⟩
            have B14 := Lib.hid (B13.out.trans (b14.mono B13.out.size))
            have G3' := Lib.hid (G3.out w14 B14.out)
            clear G2' b14 B13 G3
            go_wp2_with fail
            refine G3'.out.mono ?_
            rintro e w15 ⟨rfl, b15⟩
            have B15 := Lib.hid (B9.out.trans ((B14.out.trans (b15.mono B14.out.size)).mono B9.out.size))
            clear G3' b15 B14
            go_wp2_with fail
            exact bodyPost_ret (v := .bool true) (by simp [results, Tryz.results5, go_sem]) rfl ⟨rfl, B15.out⟩
          · have hm21 : max (2 : Int) 1 = 2 := rfl
            rw [show max (2 : Int) 1 = 2 from rfl] at C1
            rw [show (if (2 : Int) = 2 ∧ (1 : Int) = 2 then ((2, 0) : Int × Int) else (0, 260)) = (0, 260) from rfl] at C2
            go_wp2_with fail
            refine C1.out.mono ?_
            rintro e w10 ⟨rfl, b10⟩
            have B10 := Lib.hid b10
            have C2' := Lib.hid (C2.out w10 b10)
            clear C1 C2 b10
            go_wp2_with fail
            refine C2'.out.mono ?_
            rintro e w11 ⟨rfl, b11⟩
            have B11 := Lib.hid (B10.out.trans (b11.mono B10.out.size))
            have C3' := Lib.hid (C3.out w11 B11.out)
            clear C2' C3 b11 B10
            go_wp2_with fail
            refine C3'.out.mono ?_
            rintro e w12 ⟨rfl, b12⟩
            have B12 := Lib.hid (B11.out.trans (b12.mono B11.out.size))
            have G1' := Lib.hid (G1.out w12 B12.out)
            clear C3' b12 B11 G1
            go_wp2_with fail
            refine G1'.out.mono ?_
            rintro e w13 ⟨rfl, b13⟩
            have B13 := Lib.hid (B12.out.trans (b13.mono B12.out.size))
            have G2' := Lib.hid (G2.out w13 B13.out)
            clear G1' b13 B12 G2
            go_wp2_with fail
            refine G2'.out.mono ?_
            rintro e w14 ⟨rfl, b14⟩
            have B14 := Lib.hid (B13.out.trans (b14.mono B13.out.size))
            have G3' := Lib.hid (G3.out w14 B14.out)
            clear G2' b14 B13 G3
            go_wp2_with fail
            refine G3'.out.mono ?_
            rintro e w15 ⟨rfl, b15⟩
            have B15 := Lib.hid (B9.out.trans ((B14.out.trans (b15.mono B14.out.size)).mono B9.out.size))
            clear G3' b15 B14
            go_wp2_with fail
            exact bodyPost_ret (v := .bool true) (by simp [results, Tryz.results5, go_sem]) rfl ⟨rfl, B15.out⟩
          · rw [show max (2 : Int) 2 = 2 from rfl] at C1
            rw [show (if (2 : Int) = 2 ∧ (2 : Int) = 2 then ((2, 0) : Int × Int) else (0, 260)) = (2, 0) from rfl] at C2
            go_wp2_with fail
            refine C1.out.mono ?_
            rintro e w10 ⟨rfl, b10⟩
            have B10 := Lib.hid b10
            have C2' := Lib.hid (C2.out w10 b10)
            clear C1 C2 b10
            go_wp2_with fail
            refine C2'.out.mono ?_
            rintro e w11 ⟨rfl, b11⟩
            have B11 := Lib.hid (B10.out.trans (b11.mono B10.out.size))
            have C3' := Lib.hid (C3.out w11 B11.out)
            clear C2' C3 b11 B10
            go_wp2_with fail
            refine C3'.out.mono ?_
            rintro e w12 ⟨rfl, b12⟩
            have B12 := Lib.hid (B11.out.trans (b12.mono B11.out.size))
            have G1' := Lib.hid (G1.out w12 B12.out)
            clear C3' b12 B11 G1
            go_wp2_with fail
            refine G1'.out.mono ?_
            rintro e w13 ⟨rfl, b13⟩
            have B13 := Lib.hid (B12.out.trans (b13.mono B12.out.size))
            have G2' := Lib.hid (G2.out w13 B13.out)
            clear G1' b13 B12 G2
            go_wp2_with fail
            refine G2'.out.mono ?_
            rintro e w14 ⟨rfl, b14⟩
            have B14 := Lib.hid (B13.out.trans (b14.mono B13.out.size))
            have G3' := Lib.hid (G3.out w14 B14.out)
            clear G2' b14 B13 G3
            go_wp2_with fail
            refine G3'.out.mono ?_
            rintro e w15 ⟨rfl, b15⟩
            have B15 := Lib.hid (B9.out.trans ((B14.out.trans (b15.mono B14.out.size)).mono B9.out.size))
            clear G3' b15 B14
            go_wp2_with fail
            exact bodyPost_ret (v := .bool true) (by simp [results, Tryz.results5, go_sem]) rfl ⟨rfl, B15.out⟩
        · have hxb' : (xb != 0) = true := by simpa using hxb
          subst hxa
          go_wp2_with fail
          exact bodyPost_ret (v := .bool true) (by simp [results, Tryz.results5, go_sem]) rfl ⟨rfl, B2.out⟩
      · have hxa' : (xa != 0) = true := by simpa using hxa
        go_wp2_with fail
        exact bodyPost_ret (v := .bool true) (by simp [results, Tryz.results5, go_sem]) rfl ⟨rfl, B2.out⟩
end Go.Proofs.YtmbfpichaaanpaaGreatDoor
