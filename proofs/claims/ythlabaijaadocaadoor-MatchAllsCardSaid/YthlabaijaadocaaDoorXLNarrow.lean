import Derived.Test.YthlabaijaadocaaDoorXB2
/-! With more matchers no more passes; their order does not matter. -/
namespace Go.Proofs.YthlabaijaadocaaDoor
open Go.RowKit Ut Rx Mt

theorem msC_len : ∀ l : List M, (msC l).length = l.length * 3
  | [] => rfl
  | m :: t => by
    have e : msC (m :: t) = [.int .i64 m.k, .string m.n, .string m.v] ++ msC t := rfl
    rw [e, List.length_append, msC_len t]
    simp; omega
theorem msC_get : ∀ (l : List M) (i : Nat) (hi : i < l.length), (msC l)[i * 3]? = some (.int .i64 (l[i]'hi).k) ∧ (msC l)[i * 3 + 1]? = some (.string (l[i]'hi).n) ∧ (msC l)[i * 3 + 2]? = some (.string (l[i]'hi).v)
  | [], i, hi => by simp at hi
  | m :: t, 0, hi => ⟨rfl, rfl, rfl⟩
  | m :: t, i + 1, hi => by
    have := msC_get t i (by simpa using hi)
    have e : msC (m :: t) = [.int .i64 m.k, .string m.n, .string m.v] ++ msC t := rfl
    rw [e, List.getElem?_append_right (by simp; omega), List.getElem?_append_right (by simp; omega), List.getElem?_append_right (by simp; omega)]
    simp only [List.length_cons, List.length_nil, List.getElem_cons_succ]
    rw [show (i + 1) * 3 - (0 + 1 + 1 + 1) = i * 3 by omega, show (i + 1) * 3 + 1 - (0 + 1 + 1 + 1) = i * 3 + 1 by omega, show (i + 1) * 3 + 2 - (0 + 1 + 1 + 1) = i * 3 + 2 by omega]
    exact this
theorem ms_reads {w : World} {A : Option Addr} {c : Nat} {l : List M} (h : Ms w (.slice A l.length c) l) : Reads w w.heap.size 3 A l.length (msC l) := by
  obtain ⟨A', c', e, _, hl⟩ := h
  simp only [Value.slice.injEq, true_and] at e
  obtain ⟨rfl, rfl⟩ := e
  refine ⟨msC_len l, fun hn => ?_⟩
  obtain ⟨b, off, rfl, hc⟩ := hl (List.length_pos_iff.1 hn)
  refine ⟨_, rfl, World.block_lt_of_cell? w _ (hc 0 hn).1, fun j u hu => ?_⟩
  have hj : j < l.length * 3 := by rw [← msC_len]; exact (List.getElem?_eq_some_iff.1 hu).1
  have hi : j / 3 < l.length := by omega
  obtain ⟨g0, g1, g2⟩ := msC_get l (j / 3) hi
  obtain ⟨c0, c1, c2⟩ := hc (j / 3) hi
  have e : ((⟨b, off, none⟩ : Addr).add j) = ⟨b, off + j, none⟩ := by unfold Addr.add; split <;> simp <;> omega
  rw [e]
  rcases (show j = j / 3 * 3 ∨ j = j / 3 * 3 + 1 ∨ j = j / 3 * 3 + 2 by omega) with h | h | h
  · rw [← h] at g0 c0; rw [hu] at g0; exact c0.trans g0.symm
  · rw [← h] at g1; rw [hu] at g1; rw [Nat.add_assoc, ← h] at c1; exact c1.trans g1.symm
  · rw [← h] at g2; rw [hu] at g2; rw [Nat.add_assoc, ← h] at c2; exact c2.trans g2.symm

/-- what is wrong with the matchers that a value holds; whether they pass -/
def RightAt (w : World) (v : Value) (r : Int) : Prop := ∃ l, Ms w v l ∧ rightF l = r
def AllAt (w : World) (x : List L) (v : Value) (b : Bool) : Prop := ∃ l, Ms w v l ∧ allF l x = b
def IntOver (W : World) (n : Int) (e : Ending) (w' : World) : Prop := e = .returned (.int .i64 n) ∧ Below W.heap.size W w'
def BoolOver (W : World) (b : Bool) (e : Ending) (w' : World) : Prop := e = .returned (.bool b) ∧ Below W.heap.size W w'
theorem rightAt_any {W : World} {v : Value} {r : Int} (h : RightAt W v r) (hT : Lib.Utf8Tabs 0 1 W) (hw : 2 ≤ W.heap.size) (w' : World) (b : Below W.heap.size W w') :
    Calls Tryd.prog 16 #[v] w' (IntOver W r) := by
  obtain ⟨l, hl, rfl⟩ := h
  exact (right_any l v w' (hl.below b) (tabs_below hT b) (Nat.le_trans hw b.size)).mono fun e w2 h => ⟨h.1, b.trans (h.2.mono b.size)⟩
theorem allAt_any {W : World} {x : List L} {lv v : Value} {r : Bool} (h : AllAt W x v r) (hx : Lb W lv x) (hT : Lib.Utf8Tabs 0 1 W) (hw : 2 ≤ W.heap.size) (w' : World) (b : Below W.heap.size W w') :
    Calls Tryd.prog 24 #[v, lv] w' (BoolOver W r) := by
  obtain ⟨l, hl, rfl⟩ := h
  exact (all_any l v x lv w' (hl.below b) (hx.below b) (tabs_below hT b) (Nat.le_trans hw b.size)).mono fun e w2 h => ⟨h.1, b.trans (h.2.mono b.size)⟩
theorem passAll_append (a b : List M) (x : List L) : passAll (a ++ b) x = (passAll a x && passAll b x) := by unfold passAll; rw [List.all_append]
theorem allF_zero {l : List M} (x : List L) (h : rightF l = 0) : allF l x = passAll l x := by unfold allF; rw [h]; simp

theorem own_zero (w : World) : (w.alloc (.cells #[] 26)).ownsRow w.heap.size 26 3 (.slice (some ⟨w.heap.size, 0, none⟩) 0 0) 0 [] := World.ownsRow_lit w #[] 0 (Nat.le_refl _) (by unfold maxLen; omega) rfl
theorem row_first {w w' : World} {v' : Value} {n : Nat} {xs : List Value} {o : Obj} (own : w'.ownsRow w.heap.size 26 3 v' n xs) (g : (w.alloc o).grownBy w' (Value.ownBlock (.slice (some ⟨w.heap.size, 0, none⟩) 0 0))) :
    w'.ownsRow w.heap.size 26 3 v' n xs ∧ Below w.heap.size w w' := by
  exact ⟨own, below_grown ((Below.refl _ _).alloc (Nat.le_refl _) _) g (Nat.le_refl _)⟩
theorem row_then {w w1 w' : World} {v v' : Value} {n m : Nat} {xs ys : List Value} (h : w1.ownsRow w.heap.size 26 3 v n xs ∧ Below w.heap.size w w1) (own : w'.ownsRow w.heap.size 26 3 v' (n + m) (xs ++ ys)) (g : w1.grownBy w' v.ownBlock) :
    w'.ownsRow w.heap.size 26 3 v' (n + m) (xs ++ ys) ∧ Below w.heap.size w w' := ⟨own, below_pushed h.2 h.1 g (Nat.le_refl _)⟩

set_option maxRecDepth 100000 in
set_option maxHeartbeats 8000000 in
theorem narrow_any (a b : List M) (x : List L) (va vb lv : Value) (w : World) (ha : Ms0 w va a) (hb : Ms0 w vb b) (hx : Lb0 w lv x) (hT : Lib.Utf8Tabs 0 1 w) (hw : 2 ≤ w.heap.size) :
    Calls Tryd.prog 6 #[va, vb, lv] w (BoolBelow w true) := by
  have HT := Lib.hid hT
  have LV := Lib.hid (fun w' (b : Below w.heap.size w w') => live_any w' (tabs_below HT.out b) (Nat.le_trans hw b.size))
  have FA := Lib.hid (fun w' (h : Below w.heap.size w w') => few_any a va w' (ha.below h))
  have FB := Lib.hid (fun w' (h : Below w.heap.size w w') => few_any b vb w' (hb.below h))
  have SX := Lib.hid (fun w' (h : Below w.heap.size w w') => short_any x lv w' (hx.below h))
  have HA := Lib.hid ha
  have HB := Lib.hid hb
  have HX := Lib.hid hx
  clear hT ha hb hx
  go_enter Tryd.func6, Tryd.ntmps6
  go_wp2_with fail
  refine (LV.out _ (Below.refl _ _)).mono ?_
  rintro e w1 ⟨rfl, hb1⟩
  have B1 := Lib.hid hb1
  clear hb1
  go_wp2_with fail
  refine (FA.out _ B1.out).mono ?_
  rintro e w2 ⟨rfl, hb2⟩
  have B2 := Lib.hid (B1.out.trans (hb2.mono B1.out.size))
  clear hb2 B1
  cases hfa : fewB a with
  | false =>
    clear hfa
    go_wp2_with fail
    refine (LV.out _ B2.out).mono ?_
    rintro e w3 ⟨rfl, hb3⟩
    go_wp2_with fail
    go_ret
    exact ⟨rfl, B2.out.trans (hb3.mono B2.out.size)⟩
  | true =>
    have HFA := Lib.hid hfa
    clear hfa
    go_wp2_with fail
    refine (FB.out _ B2.out).mono ?_
    rintro e w3 ⟨rfl, hb3⟩
    have B3 := Lib.hid (B2.out.trans (hb3.mono B2.out.size))
    clear hb3 B2
    cases hfb : fewB b with
    | false =>
      clear hfb
      go_wp2_with fail
      refine (LV.out _ B3.out).mono ?_
      rintro e w4 ⟨rfl, hb4⟩
      go_wp2_with fail
      go_ret
      exact ⟨rfl, B3.out.trans (hb4.mono B3.out.size)⟩
    | true =>
      have HFB := Lib.hid hfb
      clear hfb
      go_wp2_with fail
      refine (SX.out _ B3.out).mono ?_
      rintro e w4 ⟨rfl, hb4⟩
      have B4 := Lib.hid (B3.out.trans (hb4.mono B3.out.size))
      clear hb4 B3
      cases hsx : shortB x with
      | false =>
        clear hsx
        go_wp2_with fail
        refine (LV.out _ B4.out).mono ?_
        rintro e w5 ⟨rfl, hb5⟩
        go_wp2_with fail
        go_ret
        exact ⟨rfl, B4.out.trans (hb5.mono B4.out.size)⟩
      | true =>
        have MA := Lib.hid ((HA.out.ms HFA.out).below B4.out)
        have MB := Lib.hid ((HB.out.ms HFB.out).below B4.out)
        have LX := Lib.hid ((HX.out.lb hsx).below B4.out)
        have hna := (few_of HFA.out).1
        have hnb := (few_of HFB.out).1
        obtain ⟨A1, c1, rfl⟩ : ∃ A c, va = .slice A a.length c := by obtain ⟨A, c, e, _⟩ := HA.out; exact ⟨A, c, e⟩
        obtain ⟨A2, c2, rfl⟩ : ∃ A c, vb = .slice A b.length c := by obtain ⟨A, c, e, _⟩ := HB.out; exact ⟨A, c, e⟩
        obtain ⟨A3, c3, rfl⟩ : ∃ A c, lv = .slice A x.length c := by obtain ⟨A, c, e, _⟩ := HX.out; exact ⟨A, c, e⟩
        clear hsx HFA HFB HA HB HX FA FB SX
        obtain ⟨i0, hi, hz0, hz1, hz2⟩ := info_parts infoM
        have I0 : Hid (i0.zero = some (.agg #[.int .i64 0, .string ⟨#[]⟩, .string ⟨#[]⟩]) ∧ i0.size = 3 ∧ i0.bytes = 40 ∧ Tryd.prog.info? 26 = some i0) := ⟨hz0, hz1, hz2, hi⟩
        clear hz0 hz1 hz2 hi
        have RA := Lib.hid (ms_reads MA.out)
        have RB := Lib.hid (ms_reads MB.out)
        go_wp2_with (at_builtin; refine wpList_append_any _ rfl (.tmp 28) (.tmp 29) 22 rfl w4.heap.size 26 i0 (.agg #[.int .i64 0, .string ⟨#[]⟩, .string ⟨#[]⟩]) 3 40 Tryd.underlying22 I0.out.2.2.2 I0.out.1 I0.out.2.1 I0.out.2.2.1 rfl (by decide) _ 0 [] rfl (own_zero w4) _ A1 a.length c1 (msC a) rfl (RA.out.below ((Below.refl _ _).alloc (Nat.le_refl _) _)) (msC_one _) (by unfold maxLen; omega) (by omega) (by simp) ?_)
        intro vp1 xp1 ownp1 growp1 _
        have Pp1 := Lib.hid (row_first ownp1 growp1)
        have Qp1 := Lib.hid (RB.out.below Pp1.out.2)
        clear ownp1 growp1
        go_wp2_with (at_builtin; refine wpList_append_any _ rfl (.tmp 30) (.tmp 31) 22 rfl w4.heap.size 26 i0 (.agg #[.int .i64 0, .string ⟨#[]⟩, .string ⟨#[]⟩]) 3 40 Tryd.underlying22 I0.out.2.2.2 I0.out.1 I0.out.2.1 I0.out.2.2.1 rfl (by decide) _ a.length (msC a) rfl Pp1.out.1 _ A2 b.length c2 (msC b) rfl Qp1.out (msC_one _) (by unfold maxLen; omega) (by omega) Pp1.out.2.size ?_)
        intro vp2 xp2 ownp2 growp2 _
        have Pp2 := Lib.hid (row_then Pp1.out ownp2 growp2)
        clear ownp2 growp2 Qp1 Pp1
        have RA2 := Lib.hid ((RA.out.below Pp2.out.2).more Pp2.out.2.size)
        have RB2 := Lib.hid ((RB.out.below Pp2.out.2).more Pp2.out.2.size)
        clear RA RB
        go_wp2_with (at_builtin; refine wpList_append_any _ rfl (.tmp 33) (.tmp 34) 22 rfl xp2.heap.size 26 i0 (.agg #[.int .i64 0, .string ⟨#[]⟩, .string ⟨#[]⟩]) 3 40 Tryd.underlying22 I0.out.2.2.2 I0.out.1 I0.out.2.1 I0.out.2.2.1 rfl (by decide) _ 0 [] rfl (own_zero xp2) _ A2 b.length c2 (msC b) rfl (RB2.out.below ((Below.refl _ _).alloc (Nat.le_refl _) _)) (msC_one _) (by unfold maxLen; omega) (by omega) (by simp) ?_)
        intro vq1 xq1 ownq1 growq1 _
        have Pq1 := Lib.hid (row_first ownq1 growq1)
        have Qq1 := Lib.hid (RA2.out.below Pq1.out.2)
        clear ownq1 growq1
        go_wp2_with (at_builtin; refine wpList_append_any _ rfl (.tmp 35) (.tmp 36) 22 rfl xp2.heap.size 26 i0 (.agg #[.int .i64 0, .string ⟨#[]⟩, .string ⟨#[]⟩]) 3 40 Tryd.underlying22 I0.out.2.2.2 I0.out.1 I0.out.2.1 I0.out.2.2.1 rfl (by decide) _ b.length (msC b) rfl Pq1.out.1 _ A1 a.length c1 (msC a) rfl Qq1.out (msC_one _) (by unfold maxLen; omega) (by omega) Pq1.out.2.size ?_)
        intro vq2 xq2 ownq2 growq2 _
        have Pq2 := Lib.hid (row_then Pq1.out ownq2 growq2)
        clear ownq2 growq2 Qq1 Pq1
        have HBW := Lib.hid (B4.out.trans ((Pp2.out.2.trans (Pq2.out.2.mono Pp2.out.2.size)).mono B4.out.size))
        have MA2 := Lib.hid (MA.out.below (Pp2.out.2.trans (Pq2.out.2.mono Pp2.out.2.size)))
        have MB2 := Lib.hid (MB.out.below (Pp2.out.2.trans (Pq2.out.2.mono Pp2.out.2.size)))
        have LX2 := Lib.hid (LX.out.below (Pp2.out.2.trans (Pq2.out.2.mono Pp2.out.2.size)))
        have MBo : Hid (Ms xq2 vp2 (a ++ b)) := Ms.below (MsR.ms (base := w4.heap.size) (by unfold MsR; rw [msC_append, List.length_append]; exact Pp2.out.1) (by rw [List.length_append]; omega)) Pq2.out.2
        have MTu : Hid (Ms xq2 vq2 (b ++ a)) := MsR.ms (base := xp2.heap.size) (by unfold MsR; rw [msC_append, List.length_append]; exact Pq2.out.1) (by rw [List.length_append]; omega)
        have TT := Lib.hid (tabs_below HT.out HBW.out)
        have WW := Lib.hid (Nat.le_trans hw HBW.out.size)
        have RV := Lib.hid (fun v r (h : RightAt xq2 v r) w' b => rightAt_any h TT.out WW.out w' b)
        have AV := Lib.hid (fun v r (h : AllAt xq2 x v r) w' b => allAt_any h LX2.out TT.out WW.out w' b)
        have BW : Below xq2.heap.size xq2 xq2 := Below.refl _ _
        clear Pp2 Pq2 RA2 RB2 MA MB LX B4 LV I0 hna hnb
        generalize hva : Value.slice A1 a.length c1 = va at *
        generalize hvb : Value.slice A2 b.length c2 = vb at *
        have FIN := Lib.hid (fun (e : Ending) (w' : World) (he : e = .returned (.bool true)) (hb : Below xq2.heap.size xq2 w') => (⟨he, HBW.out.trans (hb.mono HBW.out.size)⟩ : BoolBelow w true e w'))
        clear hva hvb TT WW
        by_cases h0 : rightF a = 0
        · have RA : RightAt xq2 va 0 := ⟨a, MA2.out, h0⟩
          by_cases h1 : rightF (a ++ b) = 0
          · have RB : RightAt xq2 vp2 0 := ⟨_, MBo.out, h1⟩
            by_cases h2 : rightF (b ++ a) = 0
            · have RT : RightAt xq2 vq2 0 := ⟨_, MTu.out, h2⟩
              obtain ⟨pa, hpa⟩ : ∃ pa, passAll a x = pa := ⟨_, rfl⟩
              obtain ⟨pb, hpb⟩ : ∃ pb, passAll b x = pb := ⟨_, rfl⟩
              have AA : AllAt xq2 x va pa := ⟨a, MA2.out, by rw [allF_zero x h0, hpa]⟩
              have AB : AllAt xq2 x vp2 (pa && pb) := ⟨_, MBo.out, by rw [allF_zero x h1, passAll_append, hpa, hpb]⟩
              have AT : AllAt xq2 x vq2 (pa && pb) := ⟨_, MTu.out, by rw [allF_zero x h2, passAll_append, hpa, hpb, Bool.and_comm]⟩
              obtain ⟨rb, hrb⟩ : ∃ rb, rightF b = rb := ⟨_, rfl⟩
              have RB2 : RightAt xq2 vb rb := ⟨b, MB2.out, hrb⟩
              have AB2 : rb = 0 → AllAt xq2 x vb pb := fun h => ⟨b, MB2.out, by rw [allF_zero x (hrb.trans h), hpb]⟩
              clear h0 h1 h2 hpa hpb hrb MA2 MB2 LX2 MBo MTu
              by_cases h3 : rb = 0
              · subst h3
                have AB3 := AB2 rfl
                clear AB2
                cases pa <;> cases pb
                all_goals
                  go_wp2_with (first
                    | (go_at_call 16; (first | (with_reducible refine Calls.mono (RV.out _ _ RA _ ?_) ?_) | (with_reducible refine Calls.mono (RV.out _ _ RB _ ?_) ?_) | (with_reducible refine Calls.mono (RV.out _ _ RT _ ?_) ?_) | (with_reducible refine Calls.mono (RV.out _ _ RB2 _ ?_) ?_)); assumption; rintro e w' ⟨rfl, hb9⟩)
                    | (go_at_call 24; (first | (with_reducible refine Calls.mono (AV.out _ _ AA _ ?_) ?_) | (with_reducible refine Calls.mono (AV.out _ _ AB _ ?_) ?_) | (with_reducible refine Calls.mono (AV.out _ _ AT _ ?_) ?_) | (with_reducible refine Calls.mono (AV.out _ _ AB3 _ ?_) ?_)); assumption; rintro e w' ⟨rfl, hb9⟩))
                  go_ret
                  exact FIN.out _ _ rfl (by assumption)
              · have h3b : (rb != 0) = true := by simpa using h3
                clear AB2 h3
                cases pa <;> cases pb
                all_goals
                  go_wp2_with (first
                    | (go_at_call 16; (first | (with_reducible refine Calls.mono (RV.out _ _ RA _ ?_) ?_) | (with_reducible refine Calls.mono (RV.out _ _ RB _ ?_) ?_) | (with_reducible refine Calls.mono (RV.out _ _ RT _ ?_) ?_) | (with_reducible refine Calls.mono (RV.out _ _ RB2 _ ?_) ?_)); assumption; rintro e w' ⟨rfl, hb9⟩)
                    | (go_at_call 24; (first | (with_reducible refine Calls.mono (AV.out _ _ AA _ ?_) ?_) | (with_reducible refine Calls.mono (AV.out _ _ AB _ ?_) ?_) | (with_reducible refine Calls.mono (AV.out _ _ AT _ ?_) ?_)); assumption; rintro e w' ⟨rfl, hb9⟩))
                  go_ret
                  exact FIN.out _ _ rfl (by assumption)
            · have RT : RightAt xq2 vq2 (rightF (b ++ a)) := ⟨_, MTu.out, rfl⟩
              have hne : (rightF (b ++ a) != 0) = true := by simpa using h2
              clear h0 h1 h2 MA2 MB2 LX2 MBo MTu
              generalize rightF (b ++ a) = r at *
              go_wp2_with (go_at_call 16; (first | (with_reducible refine Calls.mono (RV.out _ _ RA _ ?_) ?_) | (with_reducible refine Calls.mono (RV.out _ _ RB _ ?_) ?_) | (with_reducible refine Calls.mono (RV.out _ _ RT _ ?_) ?_)); assumption; rintro e w' ⟨rfl, hb9⟩)
              go_ret
              exact FIN.out _ _ rfl (by assumption)
          · have RB : RightAt xq2 vp2 (rightF (a ++ b)) := ⟨_, MBo.out, rfl⟩
            have hne : (rightF (a ++ b) != 0) = true := by simpa using h1
            clear h0 h1 MA2 MB2 LX2 MBo MTu
            generalize rightF (a ++ b) = r at *
            go_wp2_with (go_at_call 16; (first | (with_reducible refine Calls.mono (RV.out _ _ RA _ ?_) ?_) | (with_reducible refine Calls.mono (RV.out _ _ RB _ ?_) ?_)); assumption; rintro e w' ⟨rfl, hb9⟩)
            go_ret
            exact FIN.out _ _ rfl (by assumption)
        · have RA : RightAt xq2 va (rightF a) := ⟨a, MA2.out, rfl⟩
          have hne : (rightF a != 0) = true := by simpa using h0
          clear h0 MA2 MB2 LX2 MBo MTu
          generalize rightF a = r at *
          go_wp2_with (go_at_call 16; (first | (with_reducible refine Calls.mono (RV.out _ _ RA _ ?_) ?_)); assumption; rintro e w' ⟨rfl, hb9⟩)
          go_ret
          exact FIN.out _ _ rfl (by assumption)
end Go.Proofs.YthlabaijaadocaaDoor
