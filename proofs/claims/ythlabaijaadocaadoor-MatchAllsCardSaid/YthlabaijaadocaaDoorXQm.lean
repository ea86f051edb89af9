import Derived.Test.YthlabaijaadocaaDoorXQl
/-! The reference's branches. -/
namespace Go.Proofs.YthlabaijaadocaaDoor
open Go.RowKit Ut Rx Mt

/-- in the loop of a branch -/
def Bp (wr : World) (c : Cx) (x xr : PV) (ns more : List Nd) (iv : Int) (lz : Nat) (d gk : Nat) (res : Out) : Prop :=
  (xr.e = 0 → ∃ acc, parF gk (.bra acc) d (lf c xr) = some res ∧ xr.d = x.d ∧ (∃ i : Nat, iv = i ∧ Nr wr (ns ++ more) i acc) ∧ more.length + 4 * (lf c xr).length ≤ 4 * lz + 1) ∧ (xr.e ≠ 0 → res = .error xr.e ∧ more.length ≤ 4 * lz + 1)
theorem Bp.ok {wr : World} {c : Cx} {x xr : PV} {ns more : List Nd} {iv : Int} {lz d gk : Nat} {res : Out} {acc : Pat} {t : List Int} (he : xr.e = 0) (hl : lf c xr = t) (hp : parF gk (.bra acc) d t = some res) (hd : xr.d = x.d) (hi : ∃ i : Nat, iv = i ∧ Nr wr (ns ++ more) i acc) (hb : more.length + 4 * t.length ≤ 4 * lz + 1) : Bp wr c x xr ns more iv lz d gk res :=
  ⟨fun _ => ⟨acc, by rw [hl]; exact hp, hd, hi, by rw [hl]; exact hb⟩, fun hne => absurd he hne⟩
theorem app3 (ns a : List Nd) (b : Nd) : ns ++ a ++ [b] = ns ++ (a ++ [b]) := List.append_assoc ..

set_option maxRecDepth 100000 in
set_option maxHeartbeats 8000000 in
theorem rBranch_of (n : Nat) (ih : ∀ m, m < n → AtomOk m) : BraOk n := by
  intro w c x ns l d res h hB hres
  obtain ⟨he, hl, hd, hd20, hnb⟩ := hB
  have A0 := Lib.hid (add_any w c x ns ⟨6, 0, 0, .slice none 0 0, false⟩ h rfl (by omega))
  have H := Lib.hid h
  have HE := Lib.hid he
  have HL := Lib.hid hl
  have HD := Lib.hid hd
  have RES := Lib.hid hres
  have IH := Lib.hid ih
  clear h he hl hd hres ih
  go_enter Tryd.func88, Tryd.ntmps88
  go_wp2_with fail
  refine A0.out.mono ?_
  rintro e w1 ⟨rfl, L1, hs1⟩
  have S1 := Lib.hid hs1
  have B1 : Hid (Bp w1 c x { x with L := L1 } ns [⟨6, 0, 0, .slice none 0 0, false⟩] ns.length l.length d n res) :=
    ⟨fun _ => ⟨.nil, by rw [show lf c { x with L := L1 } = l from HL.out]; exact RES.out, rfl, ⟨ns.length, rfl, .nil _ ⟨6, 0, 0, .slice none 0 0, false⟩ (by simp) rfl rfl⟩, by rw [show lf c { x with L := L1 } = l from HL.out]; simp; omega⟩, fun hne => absurd HE.out hne⟩
  clear hs1 A0 RES
  go_wp2_with fail
  go_loopg [3] n (fun gk v3 wr => ∃ xr more iv, v3 = .int .i64 iv ∧ gk ≤ n ∧ Hid (Step w wr c x xr ns (ns ++ more)) ∧ Hid (Bp wr c x xr ns more iv l.length d gk res))
  case atStart => exact ⟨_, _, _, rfl, Nat.le_refl _, S1, B1⟩
  case round =>
    obtain ⟨xr, more, iv, rfl, hgn, HS, HB⟩ := hrel
    clear S1 B1
    by_cases h0 : xr.e = 0
    · obtain ⟨acc, hpar, hxd, ⟨i, rfl, hrep⟩, hmo⟩ := HB.out.1 h0
      obtain ⟨l', hl'⟩ : ∃ l', lf c xr = l' := ⟨_, rfl⟩
      rw [hl'] at hpar hmo
      have NW := Lib.hid (fun w' (b : Below wr.heap.size wr w') => now_at (HS.out.ps.below b) h0 hl')
      have HL' := Lib.hid hl'
      have H0 := Lib.hid h0
      have HXD := Lib.hid hxd
      have HREP := Lib.hid hrep
      have HPAR := Lib.hid hpar
      cases gk with
      | zero => rw [parF] at hpar; cases hpar
      | succ m =>
        have hgo : (decide (pk l' ≥ 0) && pk l' != 124 && pk l' != 41) = true ∨ (decide (pk l' ≥ 0) && pk l' != 124 && pk l' != 41) = false := by cases (decide (pk l' ≥ 0) && pk l' != 124 && pk l' != 41) <;> simp
        clear hpar hxd hrep hl' h0 HB
        rcases hgo with hgo | hgo
        · obtain ⟨a, t, rfl⟩ : ∃ a t, l' = a :: t := by
            cases l' with
            | nil => cases hgo
            | cons a t => exact ⟨a, t, rfl⟩
          have n124 : (a != 124) = true := by
            have h2 := hgo
            simp only [Bool.and_eq_true] at h2
            exact h2.1.2
          have n41 : (a != 41) = true := by
            have h2 := hgo
            simp only [Bool.and_eq_true] at h2
            exact h2.2
          have nm2 : (a != -2) = true := by
            have h2 := hgo
            simp only [Bool.and_eq_true, decide_eq_true_eq] at h2
            have h3 : a ≥ 0 := h2.1.1
            unfold bne
            rw [beq_eq_false_iff_ne.2 (by omega)]; rfl
          have HTH : Hid (thenF (parF m .atom d (a :: t)) (fun p l => if signB (pk l) then parF m (.bra (.cat acc (.again p (pk l)))) d l.tail else parF m (.bra (.cat acc p)) d l) = some res) := by
            have := HPAR.out
            rw [parF, if_pos hgo] at this
            exact this
          rw [show nwF (a :: t) = a from rfl] at NW
          clear HPAR hgo
          simp only [List.length_cons] at hmo
          go_wp2_with fail
          refine (NW.out _ (Below.refl _ _)).mono ?_
          rintro e w2 ⟨rfl, hb2⟩
          go_wp2_with fail
          refine (NW.out _ hb2).mono ?_
          rintro e w3 ⟨rfl, hb3⟩
          have b23 := hb2.trans (hb3.mono hb2.size)
          clear hb2 hb3
          go_wp2_with fail
          refine (NW.out _ b23).mono ?_
          rintro e w4 ⟨rfl, hb4⟩
          have S4 := Lib.hid (HS.out.below (b23.trans (hb4.mono b23.size)))
          have REP4 := Lib.hid (HREP.out.kept (b23.trans (hb4.mono b23.size)))
          clear b23 hb4 NW HREP
          cases hp : parF m .atom d (a :: t) with
          | none => have := HTH.out; rw [hp] at this; cases this
          | some r1 =>
            have hth := HTH.out
            rw [hp] at hth
            have RH := Lib.hid hth
            have AT := Lib.hid (IH.out m (by omega) _ c xr (ns ++ more) (a :: t) d r1 S4.out.ps ⟨H0.out, HL'.out, HXD.out.trans HD.out, hd20, by rw [List.length_append]; simp only [List.length_cons]; omega⟩ (by simp) hp)
            clear HTH hth hp
            go_wp2_with fail
            refine AT.out.mono ?_
            rintro e w5 ⟨x5, mo5, idx, rfl, hs5, hres5⟩
            have S5 := Lib.hid (S4.out.trans hs5)
            have S45 := Lib.hid hs5
            rw [List.append_assoc] at S5
            clear AT hs5
            cases r1 with
            | error er =>
              obtain ⟨h1, h2, h3⟩ := hres5
              simp only [List.length_cons] at h3
              have E : Hid (res = .error er) := (Option.some.inj RH.out).symm
              have NE := Lib.hid (now_err S5.out.ps (by rw [h1]; exact h2))
              have H1 := Lib.hid h1
              have H2 := Lib.hid h2
              clear h1 h2
              go_wp2_with fail
              refine NE.out.mono ?_
              rintro e w6 ⟨rfl, hb6⟩
              have S6 := Lib.hid (S5.out.below hb6)
              clear hb6
              go_wp2_with fail
              refine (add_any _ c x5 (ns ++ (more ++ mo5)) ⟨1, i, idx, .slice none 0 0, false⟩ S6.out.ps rfl (by rw [List.length_append, List.length_append]; omega)).mono ?_
              rintro e w7 ⟨he7, L7, hs7⟩
              obtain ⟨k7, hk7⟩ : ∃ k, (ns ++ (more ++ mo5)).length = k := ⟨_, rfl⟩
              rw [hk7] at he7
              subst he7
              have S7 := Lib.hid (S6.out.trans hs7)
              rw [app3] at S7
              have B7 : Hid (Bp w7 c x { x5 with L := L7 } ns (more ++ mo5 ++ [⟨1, i, idx, .slice none 0 0, false⟩]) (k7 : Int) l.length d m res) :=
                ⟨fun he => absurd (H1.out.symm.trans he) H2.out, fun _ => ⟨by rw [E.out]; show _ = Except.error x5.e; rw [H1.out], by simp only [List.length_append, List.length_cons, List.length_nil]; omega⟩⟩
              clear hs7 hk7
              go_wp2_with fail
              go_roundg m
              case measure => omega
              case rel => exact ⟨_, _, (k7 : Int), rfl, by omega, S7, B7⟩
            | ok q =>
              obtain ⟨p, t5⟩ := q
              obtain ⟨h1, h2, h3, ⟨i5, rfl, h4⟩, h5⟩ := hres5
              simp only [List.length_cons] at h5
              have NE := Lib.hid (now_at S5.out.ps h1 h2)
              have H1 := Lib.hid h1
              have H2 := Lib.hid h2
              have H3 := Lib.hid (h3.trans HXD.out)
              have RP5 := Lib.hid h4
              have RA5 := Lib.hid (Nr.step mo5 S45.out S4.out.ps REP4.out)
              rw [List.append_assoc] at RP5 RA5
              have RHS : Hid ((if signB (pk t5) then parF m (.bra (.cat acc (.again p (pk t5)))) d t5.tail else parF m (.bra (.cat acc p)) d t5) = some res) := RH.out
              clear h1 h2 h3 h4 RH REP4 S45
              by_cases hsg : signB (pk t5) = true
              · obtain ⟨sg, u, rfl, hsv⟩ : ∃ sg u, t5 = sg :: u ∧ (sg = 42 ∨ sg = 43 ∨ sg = 63) := by
                  cases t5 with
                  | nil => cases hsg
                  | cons b u =>
                    refine ⟨b, u, rfl, ?_⟩
                    unfold signB pk at hsg
                    simp only [Bool.or_eq_true, beq_iff_eq] at hsg
                    omega
                have RH2 : Hid (parF m (.bra (.cat acc (.again p sg))) d u = some res) := by
                  have := RHS.out
                  rw [if_pos hsg] at this
                  exact this
                have hk5 := (lf_cons H2.out).1
                have hf5 := S5.out.ps.few
                have hi5 : (x5.i : Int) ≤ 256 := by omega
                simp only [List.length_cons] at h5
                rw [show nwF (sg :: u) = sg from rfl] at NE
                clear RHS hsg
                rcases hsv with rfl | rfl | rfl
                · go_wp2_with fail
                  refine NE.out.mono ?_
                  rintro e w6 ⟨rfl, hb6⟩
                  have S6 := Lib.hid (S5.out.below hb6)
                  have s6 := (Step.refl S5.out.ps).below hb6
                  have pc := S6.out.ps.cells
                  have d1 := pc.c1
                  have d7 := pc.c7
                  have df := pc.f
                  have S7 := Lib.hid ((S6.out.pl false).skip (Nat.le_of_lt hk5))
                  have S7' := Lib.hid ((s6.pl false).skip (Nat.le_of_lt hk5))
                  have L7 : Hid (lf c (nx { x5 with pl := false }) = u) := Lib.hid (lf_nx (x := { x5 with pl := false }) H2.out)
                  clear hb6 pc s6
                  go_wp2_with fail
                  refine (add_any _ c (nx { x5 with pl := false }) (ns ++ (more ++ mo5)) ⟨3, i5, 0, .slice none 0 0, false⟩ S7.out.ps rfl (by rw [List.length_append, List.length_append]; omega)).mono ?_
                  rintro e w8 ⟨he8, L8, hs8⟩
                  obtain ⟨k8, hk8⟩ : ∃ k, (ns ++ (more ++ mo5)).length = k := ⟨_, rfl⟩
                  rw [hk8] at he8
                  subst he8
                  have HK8 := Lib.hid hk8
                  have hk9 : (ns ++ (more ++ mo5) ++ [(⟨3, i5, 0, .slice none 0 0, false⟩ : Nd)]).length = k8 + 1 := by rw [List.length_append, hk8]; rfl
                  have hkb : k8 + 2 ≤ 100000 := by rw [← hk8]; simp only [List.length_append]; omega
                  have HK9 := Lib.hid hk9
                  have S8 := Lib.hid (S7.out.trans hs8)
                  have S8' := Lib.hid (S7'.out.trans hs8)
                  have P8 := Lib.hid hs8.ps
                  clear hs8 hk8 hk9
                  go_wp2_with fail
                  refine (add_any _ c _ (ns ++ (more ++ mo5) ++ [⟨3, i5, 0, .slice none 0 0, false⟩]) ⟨1, i, k8, .slice none 0 0, false⟩ P8.out rfl (by rw [HK9.out]; omega)).mono ?_
                  rintro e w9 ⟨he9, L9, hs9⟩
                  rw [HK9.out] at he9
                  subst he9
                  have S9 := Lib.hid (S8.out.trans hs9)
                  have S9' := Lib.hid (S8'.out.trans hs9)
                  simp only [List.append_assoc] at S9
                  rw [List.append_assoc (ns ++ (more ++ mo5))] at S9'
                  have R1 := Nr.step _ S9'.out S5.out.ps RA5.out
                  have R2 := Nr.step _ S9'.out S5.out.ps RP5.out
                  have REP9 : Nr w9 (ns ++ (more ++ mo5) ++ ([⟨3, i5, 0, .slice none 0 0, false⟩] ++ [⟨1, i, k8, .slice none 0 0, false⟩])) (k8 + 1) (.cat acc (.again p 42)) :=
                      .cat _ i k8 ⟨1, i, k8, .slice none 0 0, false⟩ _ _ (by rw [← List.append_assoc, List.getElem?_append_right (by rw [HK9.out]; exact Nat.le_refl _), HK9.out]; simp) rfl rfl rfl rfl R1 (.again _ i5 ⟨3, i5, 0, .slice none 0 0, false⟩ _ _ (by rw [List.getElem?_append_right (by rw [HK8.out]; exact Nat.le_refl _), HK8.out]; simp) (by simp) rfl rfl R2)
                  have B9 : Hid (Bp w9 c x { { nx { x5 with pl := false } with L := L8 } with L := L9 } ns (more ++ (mo5 ++ ([⟨3, i5, 0, .slice none 0 0, false⟩] ++ [⟨1, i, k8, .slice none 0 0, false⟩]))) ((k8 + 1 : Nat) : Int) l.length d m res) := by
                    refine Bp.ok H1.out L7.out RH2.out H3.out ⟨_, rfl, ?_⟩ ?_
                    · simpa [List.append_assoc] using REP9
                    · simp only [List.length_append, List.length_cons, List.length_nil]
                      omega
                  clear hs9 R1 R2 REP9 S8' S9'
                  go_wp2_with fail
                  go_roundg m
                  case measure => omega
                  case rel => exact ⟨_, _, ((k8 + 1 : Nat) : Int), by simp, by omega, S9, B9⟩
                · go_wp2_with fail
                  refine NE.out.mono ?_
                  rintro e w6 ⟨rfl, hb6⟩
                  have S6 := Lib.hid (S5.out.below hb6)
                  have s6 := (Step.refl S5.out.ps).below hb6
                  have pc := S6.out.ps.cells
                  have d1 := pc.c1
                  have d7 := pc.c7
                  have df := pc.f
                  have S7 := Lib.hid ((S6.out.pl false).skip (Nat.le_of_lt hk5))
                  have S7' := Lib.hid ((s6.pl false).skip (Nat.le_of_lt hk5))
                  have L7 : Hid (lf c (nx { x5 with pl := false }) = u) := Lib.hid (lf_nx (x := { x5 with pl := false }) H2.out)
                  clear hb6 pc s6
                  go_wp2_with fail
                  refine (add_any _ c (nx { x5 with pl := false }) (ns ++ (more ++ mo5)) ⟨4, i5, 0, .slice none 0 0, false⟩ S7.out.ps rfl (by rw [List.length_append, List.length_append]; omega)).mono ?_
                  rintro e w8 ⟨he8, L8, hs8⟩
                  obtain ⟨k8, hk8⟩ : ∃ k, (ns ++ (more ++ mo5)).length = k := ⟨_, rfl⟩
                  rw [hk8] at he8
                  subst he8
                  have HK8 := Lib.hid hk8
                  have hk9 : (ns ++ (more ++ mo5) ++ [(⟨4, i5, 0, .slice none 0 0, false⟩ : Nd)]).length = k8 + 1 := by rw [List.length_append, hk8]; rfl
                  have hkb : k8 + 2 ≤ 100000 := by rw [← hk8]; simp only [List.length_append]; omega
                  have HK9 := Lib.hid hk9
                  have S8 := Lib.hid (S7.out.trans hs8)
                  have S8' := Lib.hid (S7'.out.trans hs8)
                  have P8 := Lib.hid hs8.ps
                  clear hs8 hk8 hk9
                  go_wp2_with fail
                  refine (add_any _ c _ (ns ++ (more ++ mo5) ++ [⟨4, i5, 0, .slice none 0 0, false⟩]) ⟨1, i, k8, .slice none 0 0, false⟩ P8.out rfl (by rw [HK9.out]; omega)).mono ?_
                  rintro e w9 ⟨he9, L9, hs9⟩
                  rw [HK9.out] at he9
                  subst he9
                  have S9 := Lib.hid (S8.out.trans hs9)
                  have S9' := Lib.hid (S8'.out.trans hs9)
                  simp only [List.append_assoc] at S9
                  rw [List.append_assoc (ns ++ (more ++ mo5))] at S9'
                  have R1 := Nr.step _ S9'.out S5.out.ps RA5.out
                  have R2 := Nr.step _ S9'.out S5.out.ps RP5.out
                  have REP9 : Nr w9 (ns ++ (more ++ mo5) ++ ([⟨4, i5, 0, .slice none 0 0, false⟩] ++ [⟨1, i, k8, .slice none 0 0, false⟩])) (k8 + 1) (.cat acc (.again p 43)) :=
                      .cat _ i k8 ⟨1, i, k8, .slice none 0 0, false⟩ _ _ (by rw [← List.append_assoc, List.getElem?_append_right (by rw [HK9.out]; exact Nat.le_refl _), HK9.out]; simp) rfl rfl rfl rfl R1 (.again _ i5 ⟨4, i5, 0, .slice none 0 0, false⟩ _ _ (by rw [List.getElem?_append_right (by rw [HK8.out]; exact Nat.le_refl _), HK8.out]; simp) (by simp) rfl rfl R2)
                  have B9 : Hid (Bp w9 c x { { nx { x5 with pl := false } with L := L8 } with L := L9 } ns (more ++ (mo5 ++ ([⟨4, i5, 0, .slice none 0 0, false⟩] ++ [⟨1, i, k8, .slice none 0 0, false⟩]))) ((k8 + 1 : Nat) : Int) l.length d m res) := by
                    refine Bp.ok H1.out L7.out RH2.out H3.out ⟨_, rfl, ?_⟩ ?_
                    · simpa [List.append_assoc] using REP9
                    · simp only [List.length_append, List.length_cons, List.length_nil]
                      omega
                  clear hs9 R1 R2 REP9 S8' S9'
                  go_wp2_with fail
                  go_roundg m
                  case measure => omega
                  case rel => exact ⟨_, _, ((k8 + 1 : Nat) : Int), by simp, by omega, S9, B9⟩
                · go_wp2_with fail
                  refine NE.out.mono ?_
                  rintro e w6 ⟨rfl, hb6⟩
                  have S6 := Lib.hid (S5.out.below hb6)
                  have s6 := (Step.refl S5.out.ps).below hb6
                  have pc := S6.out.ps.cells
                  have d1 := pc.c1
                  have d7 := pc.c7
                  have df := pc.f
                  have S7 := Lib.hid ((S6.out.pl false).skip (Nat.le_of_lt hk5))
                  have S7' := Lib.hid ((s6.pl false).skip (Nat.le_of_lt hk5))
                  have L7 : Hid (lf c (nx { x5 with pl := false }) = u) := Lib.hid (lf_nx (x := { x5 with pl := false }) H2.out)
                  clear hb6 pc s6
                  go_wp2_with fail
                  refine (add_any _ c (nx { x5 with pl := false }) (ns ++ (more ++ mo5)) ⟨5, i5, 0, .slice none 0 0, false⟩ S7.out.ps rfl (by rw [List.length_append, List.length_append]; omega)).mono ?_
                  rintro e w8 ⟨he8, L8, hs8⟩
                  obtain ⟨k8, hk8⟩ : ∃ k, (ns ++ (more ++ mo5)).length = k := ⟨_, rfl⟩
                  rw [hk8] at he8
                  subst he8
                  have HK8 := Lib.hid hk8
                  have hk9 : (ns ++ (more ++ mo5) ++ [(⟨5, i5, 0, .slice none 0 0, false⟩ : Nd)]).length = k8 + 1 := by rw [List.length_append, hk8]; rfl
                  have hkb : k8 + 2 ≤ 100000 := by rw [← hk8]; simp only [List.length_append]; omega
                  have HK9 := Lib.hid hk9
                  have S8 := Lib.hid (S7.out.trans hs8)
                  have S8' := Lib.hid (S7'.out.trans hs8)
                  have P8 := Lib.hid hs8.ps
                  clear hs8 hk8 hk9
                  go_wp2_with fail
                  refine (add_any _ c _ (ns ++ (more ++ mo5) ++ [⟨5, i5, 0, .slice none 0 0, false⟩]) ⟨1, i, k8, .slice none 0 0, false⟩ P8.out rfl (by rw [HK9.out]; omega)).mono ?_
                  rintro e w9 ⟨he9, L9, hs9⟩
                  rw [HK9.out] at he9
                  subst he9
                  have S9 := Lib.hid (S8.out.trans hs9)
                  have S9' := Lib.hid (S8'.out.trans hs9)
                  simp only [List.append_assoc] at S9
                  rw [List.append_assoc (ns ++ (more ++ mo5))] at S9'
                  have R1 := Nr.step _ S9'.out S5.out.ps RA5.out
                  have R2 := Nr.step _ S9'.out S5.out.ps RP5.out
                  have REP9 : Nr w9 (ns ++ (more ++ mo5) ++ ([⟨5, i5, 0, .slice none 0 0, false⟩] ++ [⟨1, i, k8, .slice none 0 0, false⟩])) (k8 + 1) (.cat acc (.again p 63)) :=
                      .cat _ i k8 ⟨1, i, k8, .slice none 0 0, false⟩ _ _ (by rw [← List.append_assoc, List.getElem?_append_right (by rw [HK9.out]; exact Nat.le_refl _), HK9.out]; simp) rfl rfl rfl rfl R1 (.again _ i5 ⟨5, i5, 0, .slice none 0 0, false⟩ _ _ (by rw [List.getElem?_append_right (by rw [HK8.out]; exact Nat.le_refl _), HK8.out]; simp) (by simp) rfl rfl R2)
                  have B9 : Hid (Bp w9 c x { { nx { x5 with pl := false } with L := L8 } with L := L9 } ns (more ++ (mo5 ++ ([⟨5, i5, 0, .slice none 0 0, false⟩] ++ [⟨1, i, k8, .slice none 0 0, false⟩]))) ((k8 + 1 : Nat) : Int) l.length d m res) := by
                    refine Bp.ok H1.out L7.out RH2.out H3.out ⟨_, rfl, ?_⟩ ?_
                    · simpa [List.append_assoc] using REP9
                    · simp only [List.length_append, List.length_cons, List.length_nil]
                      omega
                  clear hs9 R1 R2 REP9 S8' S9'
                  go_wp2_with fail
                  go_roundg m
                  case measure => omega
                  case rel => exact ⟨_, _, ((k8 + 1 : Nat) : Int), by simp, by omega, S9, B9⟩
              · have RH2 : Hid (parF m (.bra (.cat acc p)) d t5 = some res) := by
                  have := RHS.out
                  rw [if_neg hsg] at this
                  exact this
                have n1 : (nwF t5 == 42) = false ∧ (nwF t5 == 43) = false ∧ (nwF t5 == 63) = false := by
                  cases t5 with
                  | nil => exact ⟨rfl, rfl, rfl⟩
                  | cons b u =>
                    unfold signB pk at hsg
                    simp only [Bool.or_eq_true, beq_iff_eq, not_or] at hsg
                    refine ⟨?_, ?_, ?_⟩ <;> (show (b == _) = false; rw [beq_eq_false_iff_ne]; omega)
                obtain ⟨n42, n43, n63⟩ := n1
                generalize nwF t5 = nw at *
                clear RHS hsg
                go_wp2_with fail
                refine NE.out.mono ?_
                rintro e w6 ⟨rfl, hb6⟩
                have S6 := Lib.hid (S5.out.below hb6)
                have S6' := Lib.hid ((Step.refl S5.out.ps).below hb6)
                clear hb6
                go_wp2_with fail
                refine (add_any _ c x5 (ns ++ (more ++ mo5)) ⟨1, i, i5, .slice none 0 0, false⟩ S6.out.ps rfl (by rw [List.length_append, List.length_append]; omega)).mono ?_
                rintro e w7 ⟨he7, L7, hs7⟩
                obtain ⟨k7, hk7⟩ : ∃ k, (ns ++ (more ++ mo5)).length = k := ⟨_, rfl⟩
                rw [hk7] at he7
                subst he7
                have S7 := Lib.hid (S6.out.trans hs7)
                have S7' := Lib.hid (S6'.out.trans hs7)
                rw [app3] at S7
                have R1 := Nr.step _ S7'.out S5.out.ps RA5.out
                have R2 := Nr.step _ S7'.out S5.out.ps RP5.out
                have REP7 : Nr w7 (ns ++ (more ++ mo5) ++ [⟨1, i, i5, .slice none 0 0, false⟩]) k7 (.cat acc p) := .cat _ i i5 ⟨1, i, i5, .slice none 0 0, false⟩ _ _ (by rw [← hk7]; simp) rfl rfl rfl rfl R1 R2
                have B7 : Hid (Bp w7 c x { x5 with L := L7 } ns (more ++ mo5 ++ [⟨1, i, i5, .slice none 0 0, false⟩]) (k7 : Int) l.length d m res) := by
                  refine Bp.ok H1.out H2.out RH2.out H3.out ⟨_, rfl, ?_⟩ ?_
                  · rw [app3] at REP7; exact REP7
                  · simp only [List.length_append, List.length_cons, List.length_nil]
                    omega
                clear hs7 R1 R2 REP7 S6' S7' hk7
                go_wp2_with fail
                go_roundg m
                case measure => omega
                case rel => exact ⟨_, _, (k7 : Int), rfl, by omega, S7, B7⟩
        · have E : Hid (res = .ok (acc, l')) := by
            have := HPAR.out
            rw [parF, if_neg (by rw [hgo]; simp)] at this
            exact (Option.some.inj this).symm
          have hcs : (nwF l' != -2) = false ∨ ((nwF l' != -2) = true ∧ (nwF l' != 124) = false) ∨ ((nwF l' != -2) = true ∧ (nwF l' != 124) = true ∧ (nwF l' != 41) = false) := by
            cases l' with
            | nil => exact Or.inl rfl
            | cons a t =>
              have ha := lf_pos HS.out.ps HL'.out
              have e2 : (nwF (a :: t) != -2) = true := by show (a != -2) = true; unfold bne; rw [beq_eq_false_iff_ne.2 (by omega)]; rfl
              right
              have h2 : (decide (a ≥ 0) && a != 124 && a != 41) = false := hgo
              rw [decide_eq_true ha, Bool.true_and] at h2
              cases h3 : (a != 124) with
              | false => exact Or.inl ⟨e2, h3⟩
              | true => rw [h3, Bool.true_and] at h2; exact Or.inr ⟨e2, h3, h2⟩
          generalize nwF l' = nw at *
          clear HPAR hgo
          rcases hcs with h1 | ⟨h1, h2⟩ | ⟨h1, h2, h3⟩
          · go_wp2_with fail
            refine (NW.out _ (Below.refl _ _)).mono ?_
            rintro e w2 ⟨rfl, hb2⟩
            go_wp2_with fail
            go_ret
            rw [E.out]
            exact ⟨xr, more, _, rfl, HS.out.below hb2, H0.out, HL'.out, HXD.out, ⟨i, rfl, HREP.out.kept hb2⟩, by omega⟩
          · go_wp2_with fail
            refine (NW.out _ (Below.refl _ _)).mono ?_
            rintro e w2 ⟨rfl, hb2⟩
            go_wp2_with fail
            refine (NW.out _ hb2).mono ?_
            rintro e w3 ⟨rfl, hb3⟩
            have b23 := hb2.trans (hb3.mono hb2.size)
            go_wp2_with fail
            go_ret
            rw [E.out]
            exact ⟨xr, more, _, rfl, HS.out.below b23, H0.out, HL'.out, HXD.out, ⟨i, rfl, HREP.out.kept b23⟩, by omega⟩
          · go_wp2_with fail
            refine (NW.out _ (Below.refl _ _)).mono ?_
            rintro e w2 ⟨rfl, hb2⟩
            go_wp2_with fail
            refine (NW.out _ hb2).mono ?_
            rintro e w3 ⟨rfl, hb3⟩
            have b23 := hb2.trans (hb3.mono hb2.size)
            go_wp2_with fail
            refine (NW.out _ b23).mono ?_
            rintro e w4 ⟨rfl, hb4⟩
            have b24 := b23.trans (hb4.mono b23.size)
            go_wp2_with fail
            go_ret
            rw [E.out]
            exact ⟨xr, more, _, rfl, HS.out.below b24, H0.out, HL'.out, HXD.out, ⟨i, rfl, HREP.out.kept b24⟩, by omega⟩
    · obtain ⟨hr, hmo⟩ := HB.out.2 h0
      have NE := Lib.hid (now_err HS.out.ps h0)
      have E := Lib.hid hr
      have H0 := Lib.hid h0
      clear hr h0 HB
      go_wp2_with fail
      refine NE.out.mono ?_
      rintro e w2 ⟨rfl, hb2⟩
      go_wp2_with fail
      go_ret
      rw [E.out]
      exact ⟨xr, more, _, rfl, HS.out.below hb2, rfl, H0.out, by omega⟩
end Go.Proofs.YthlabaijaadocaaDoor
