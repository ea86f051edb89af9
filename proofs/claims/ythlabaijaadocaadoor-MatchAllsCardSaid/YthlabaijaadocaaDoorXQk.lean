import Derived.Test.YthlabaijaadocaaDoorXB5
import Derived.Test.YthlabaijaadocaaDoorXA9
/-! The reference's class. -/
namespace Go.Proofs.YthlabaijaadocaaDoor
open Go.RowKit Ut Rx Mt

/-- in the loop of a class -/
def Lp (res : Except Int (List Span × List Int)) (gk : Nat) (c : Cx) (x : PV) (sp : List Span) : Prop :=
  (x.e = 0 → ∃ first acc, clsF gk first acc (lf c x) = some res ∧ (∀ y, hasS sp y = hasS acc y) ∧ (first = true → sp = []) ∧ (first = false → sp ≠ [])) ∧ (x.e ≠ 0 → res = .error x.e)
theorem sp_form {w : World} {v : Value} {sp : List Span} {B : Nat} (h : w.ownsRow B 151 2 v sp.length (spC sp)) : ∃ A cap, v = .slice A sp.length cap ∧ Reads w w.heap.size 2 A sp.length (spC sp) := by
  rcases row_kinds h with ⟨rfl, h0⟩ | ⟨g, c, rfl, hc⟩
  · refine ⟨none, 0, by rw [h0], ?_⟩
    rw [List.eq_nil_of_length_eq_zero h0]
    exact Reads.none_
  · exact ⟨_, _, rfl, Reads.of_own h⟩

set_option maxRecDepth 100000 in
set_option maxHeartbeats 8000000 in
theorem rClass_any (w : World) (c : Cx) (x : PV) (ns : List Nd) (t : List Int) (h : Ps w c x ns) (he : x.e = 0) (hl : lf c x = 91 :: t) (hn : ns.length ≤ 100000) (n : Nat) (hnn : n ≤ 100000) (res : Except Int (List Span × List Int)) (hres : clsF n true [] (butF t) = some res) :
    Calls Tryd.prog 105 #[.pointer (some ⟨c.g, 0, none⟩)] w (ClsR w c x ns (pk t == 94) res) := by
  obtain ⟨i0, hi, hz0, hz1, hz2⟩ := info_parts infoSpR
  have I0 : Hid (i0.zero = some (.agg #[.int .i32 0, .int .i32 0]) ∧ i0.size = 2 ∧ i0.bytes = 8 ∧ Tryd.prog.info? 151 = some i0) := ⟨hz0, hz1, hz2, hi⟩
  have hk := (lf_cons hl).1
  have hf := h.few
  have hi : (x.i : Int) ≤ 256 := by omega
  have lt := h.lt
  have R0 := Lib.hid (Rc.start h)
  have pc := R0.out.st.ps.cells
  have c1 := pc.c1
  have f := pc.f
  have hs0 : w.heap.size < (w.alloc (.cells #[.int .i64 0, .int .i64 0, .int .i64 0, .slice none 0 0, .bool false] 142)).heap.size := by simp
  have HE := Lib.hid he
  have HL := Lib.hid hl
  have RES := Lib.hid hres
  clear hz0 hz1 hz2 h he hl hres pc
  go_enter Tryd.func105, Tryd.ntmps105
  go_upto_region 2 with fail
  generalize (w.alloc (.cells #[.int .i64 0, .int .i64 0, .int .i64 0, .slice none 0 0, .bool false] 142)) = w0 at *
  have R1 := Lib.hid (R0.out.step ((Step.refl R0.out.st.ps).skip (Nat.le_of_lt hk)) rfl)
  have L1 := Lib.hid (lf_nx HL.out)
  have E1 : Hid ((nx x).e = 0) := HE.out
  clear hs0 R0
  go_wp2_with fail
  generalize (w0.setCell ⟨c.g, 1, none⟩ (.int .i64 ((x.i : Int) + 1))) = w1 at *
  refine (now_at R1.out.st.ps E1.out L1.out).mono ?_
  rintro e w2 ⟨rfl, hb2⟩
  have R2 := Lib.hid (R1.out.below hb2)
  clear hb2 R1 c1 f
  go_upto_if 17 with fail
  go_cut [] (fun wx => ∃ x1, Hid (Rc w wx c x x1 ns (.slice none 0 0) [] (pk t == 94)) ∧ Hid (x1.e = 0) ∧ Hid (lf c x1 = butF t))
  case first =>
    have hw : (nwF t == 94) = false ∧ (pk t == 94) = false ∧ butF t = t ∨ ∃ u, t = 94 :: u := by
      cases t with
      | nil => exact Or.inl ⟨rfl, rfl, rfl⟩
      | cons a u =>
        by_cases e : a = 94
        · subst e; exact Or.inr ⟨u, rfl⟩
        · have hb : (pk (a :: u) == 94) = false := by show (a == 94) = false; simpa using e
          exact Or.inl ⟨hb, hb, by unfold butF; rw [hb]; rfl⟩
    rcases hw with ⟨h1, h2, h3⟩ | ⟨u, rfl⟩
    · have C2 : Hid (Rc w w2 c x (nx x) ns (.slice none 0 0) [] (pk t == 94)) := by rw [h2]; exact R2
      have C3 : Hid (lf c (nx x) = butF t) := by rw [h3]; exact L1
      generalize nwF t = nw at *
      clear h2 h3 R2
      go_wp2_with fail
      go_meet
      case rel => exact ⟨_, C2, E1, C3⟩
    · have R3 : Hid (Rc w (w2.setCell ⟨w.heap.size, 4, none⟩ (.bool true)) c x (nx x) ns (.slice none 0 0) [] (pk (94 :: u) == 94)) := R2.out.put true
      obtain ⟨_, _, _, _, k4, kf⟩ := R2.out.cells
      have lt2 := R2.out.lt
      rw [show nwF (94 :: u) = 94 from rfl]
      go_upto_region 5 with fail
      generalize (w2.setCell ⟨w.heap.size, 4, none⟩ (.bool true)) = w3 at *
      have hk2 := (lf_cons L1.out).1
      have hi2 : ((x.i : Int) + 1) ≤ 256 := by
        have : x.i + 1 < c.cs.length := hk2
        omega
      have pc := R3.out.st.ps.cells
      have d1 := pc.c1
      have df := pc.f
      have e1 : ((nx x).i : Int) = (x.i : Int) + 1 := by simp [nx]
      have R4 := Lib.hid (R3.out.step ((Step.refl R3.out.st.ps).skip (Nat.le_of_lt hk2)) rfl)
      have L4 : Hid (lf c (nx (nx x)) = butF (94 :: u)) := lf_nx L1.out
      rw [e1] at d1 R4
      clear pc e1 k4 kf R2 R3
      go_wp2_with fail
      go_meet
      case rel => exact ⟨_, R4, E1, L4⟩
  case rest =>
    obtain ⟨x1, R3, E3, L3⟩ := hcut
    clear R2 L1 E1 HL HE
    generalize (pk t == 94) = bt at *
    have LP : Hid (Lp res n c x1 []) := ⟨fun _ => ⟨true, [], by rw [L3.out]; exact RES.out, fun y => rfl, fun _ => rfl, fun e => by cases e⟩, fun h => absurd E3.out h⟩
    clear RES L3 E3
    go_wp2_with fail
    go_loopg [] n (fun gk wr => ∃ xr v sp, sp.length + 4 * gk ≤ 400000 ∧ Hid (Rc w wr c x xr ns v sp bt) ∧ Hid (Lp res gk c xr sp))
    case atStart => exact ⟨x1, _, [], by simp; omega, R3, LP⟩
    case round =>
      obtain ⟨xr, v, sp, hlen, HR, HL⟩ := hrel
      clear R3 LP
      have pc := HR.out.st.ps.cells
      have c9 := pc.c9
      clear pc
      by_cases h0 : xr.e = 0
      · rw [h0] at c9
        obtain ⟨first, acc, hcl, hhs, hf1, hf2⟩ := HL.out.1 h0
        have HHS := Lib.hid hhs
        cases gk with
        | zero => exact absurd hcl (by simp [clsF])
        | succ m =>
          have NW := Lib.hid (now_at HR.out.st.ps h0 rfl)
          obtain ⟨A, cap, rfl, _⟩ := sp_form HR.out.own
          obtain ⟨nsp, hnsp⟩ : ∃ k, sp.length = k := ⟨_, rfl⟩
          rw [hnsp] at HR hlen
          have HN := Lib.hid hnsp
          have H0 := Lib.hid h0
          have hcls : (!first && pk (lf c xr) == 93) = true ∨ (!first && pk (lf c xr) == 93) = false := by cases (!first && pk (lf c xr) == 93) <;> simp
          have hpk : (nwF (lf c xr) == 93) = (pk (lf c xr) == 93) := by cases lf c xr <;> rfl
          have hnf : (first = true → nsp = 0) ∧ (first = false → 0 < nsp) := ⟨fun e => by rw [← hnsp, hf1 e]; rfl, fun e => by rw [← hnsp]; exact List.length_pos_iff.2 (hf2 e)⟩
          have HCL := Lib.hid hcl
          clear hcl hhs hf1 hf2 hnsp HL h0
          go_upto_region 7 with fail
          go_cut [39] (fun v39 wx => v39 = .bool (!first && pk (lf c xr) == 93) ∧ Hid (Rc w wx c x xr ns (.slice A nsp cap) sp bt))
          case first =>
            generalize nwF (lf c xr) = nw at *
            generalize (pk (lf c xr) == 93) = p93 at *
            go_wp2_with fail
            refine NW.out.mono ?_
            rintro e w5 ⟨rfl, hb5⟩
            have R5 := Lib.hid (HR.out.below hb5)
            obtain ⟨_, _, _, k3, _, _⟩ := R5.out.cells
            clear hb5 HR hcls
            cases p93 with
            | false =>
              go_wp2_with fail
              go_meet
              case rel => exact ⟨by simp, R5⟩
            | true =>
              cases first with
              | true =>
                have hz : nsp = 0 := hnf.1 rfl
                subst hz
                clear hnf
                go_wp2_with fail
                go_meet
                case rel => exact ⟨rfl, R5⟩
              | false =>
                have hz : 0 < nsp := hnf.2 rfl
                have hzi : (0 : Int) < nsp := by omega
                clear hnf
                go_wp2_with fail
                go_meet
                case rel => exact ⟨rfl, R5⟩
          case rest =>
            obtain ⟨rfl, R5⟩ := hcut
            clear HR NW hpk
            have hgn : ¬ c.g = w.heap.size := fun e => by have := R5.out.lt; omega
            have hgn2 : ¬ w.heap.size = c.g := fun e => hgn e.symm
            rcases hcls with hcl | hcl
            · obtain ⟨hfst, u, hu⟩ : first = false ∧ ∃ u, lf c xr = 93 :: u := by
                cases first with
                | true => cases hcl
                | false =>
                  refine ⟨rfl, ?_⟩
                  cases hq : lf c xr with
                  | nil => rw [hq] at hcl; cases hcl
                  | cons a u =>
                    rw [hq] at hcl
                    have : a = 93 := by simpa [pk] using hcl
                    exact ⟨u, by rw [this]⟩
              subst hfst
              have E : Hid (res = .ok (acc, u)) := by
                have := HCL.out
                unfold clsF at this
                rw [hu] at this
                simp [pk] at this
                exact this.symm
              have hkr := (lf_cons hu).1
              have hir : (xr.i : Int) ≤ 256 := by omega
              have pc5 := R5.out.st.ps.cells
              have d1 := pc5.c1
              have df := pc5.f
              obtain ⟨k0, k1, k2, k3, k4, _⟩ := R5.out.cells
              have R6 := Lib.hid (R5.out.step ((Step.refl R5.out.st.ps).skip (Nat.le_of_lt hkr)) rfl)
              have L6 := Lib.hid (lf_nx hu)
              rw [hcl]
              clear pc5 HCL hcl hnf hu
              go_wp2_with fail
              refine (add_any _ c (nx xr) ns ⟨0, 0, 0, .slice A nsp cap, bt⟩ R6.out.st.ps rfl hn).mono ?_
              rintro e w7 ⟨rfl, L', hs7⟩
              have S7 := Lib.hid (R6.out.st.trans hs7)
              have SP7 : Hid (Sp w7 (.slice A nsp cap) sp) := R6.out.st.ps.other hs7.fr (own_low R6.out.own (Nat.zero_le _)) (by decide) (by decide)
              have HD7 : Hid ({ nx xr with L := L' }.d = x.d) := R6.out.d
              clear hs7
              go_wp2_with fail
              go_ret
              rw [E.out]
              exact ⟨_, _, _, rfl, S7.out, HD7.out, H0.out, L6.out, _, sp, rfl, rfl, SP7.out, HHS.out⟩
            · have HIT : Hid ((match itemF (lf c xr) with | .error e => some (.error e) | .ok (s, t) => clsF m false (acc ++ s) t) = some res) := by
                have := HCL.out
                unfold clsF at this
                have hgo : (first || pk (lf c xr) != 93) = true := by
                  cases first with
                  | true => rfl
                  | false =>
                    have : (pk (lf c xr) == 93) = false := by simpa using hcl
                    show (pk (lf c xr) != 93) = true
                    unfold bne; rw [this]; rfl
                rw [if_pos hgo] at this
                exact this
              rw [hcl]
              clear HCL hcl hnf
              go_wp2_with fail
              refine (rSingle_any _ c xr ns (lf c xr) R5.out.st.ps H0.out rfl).mono ?_
              rintro e w6 ⟨x2, r, v2, sp2, rfl, hs2, hd2, hsp2, hsl2, hres2⟩
              have R6 := Lib.hid (R5.out.step hs2 hd2)
              have SP6 := Lib.hid hsp2
              have pc6 := hs2.ps.cells
              have d9 := pc6.c9
              have d1 := pc6.c1
              have df := pc6.f
              clear hs2 hsp2 pc6 R5
              cases hm : memF (lf c xr) with
              | error er =>
                rw [hm] at hres2
                obtain ⟨he2, hne2⟩ := hres2
                have E : Hid (res = .error x2.e) := by
                  have h5 : itemF (lf c xr) = .error er := by unfold itemF; rw [hm]
                  have := HIT.out
                  rw [h5] at this
                  rw [he2]
                  exact (Option.some.inj this).symm
                have HX2 : Hid (x2.e ≠ 0) := by rw [he2]; exact hne2
                have hxe : (x2.e == 0) = false := by rw [he2]; simpa using hne2
                have LPN : ∀ s, Hid (Lp res m c x2 s) := fun s => ⟨fun h => absurd h HX2.out, fun _ => E.out⟩
                have LPH := Lib.hid LPN
                obtain ⟨A5, c5, rfl, rd5⟩ := sp_form (B := 0) SP6.out
                have RD5 := Lib.hid rd5
                clear hm he2 hne2 E HIT LPN rd5
                by_cases hz : sp2 = []
                · subst hz
                  have R7 := Lib.hid (R6.out.below ((Below.refl _ _).alloc (Nat.le_refl _) (.cells #[.int .i32 r, .int .i32 r] 151)))
                  have RD7 := Lib.hid (Reads.of_own (Sp.one w6 _ r r rfl))
                  simp only [List.length_nil] at *
                  have OWN' := R7.out.own
                  rw [HN.out] at OWN'
                  have OWN := Lib.hid OWN'
                  have SZ := Lib.hid (show w.heap.size + 1 ≤ _ from Nat.succ_le_of_lt (Array.getElem?_eq_some_iff.1 R7.out.nb).1)
                  obtain ⟨_, _, _, k3, _, _⟩ := R7.out.cells
                  clear OWN'
                  go_wp2_with (at_builtin; refine wpList_append_any _ rfl (.tmp 89) (.tmp 90) 140 rfl (w.heap.size + 1) 151 i0 (.agg #[.int .i32 0, .int .i32 0]) 2 8 Tryd.underlying140 I0.out.2.2.2 I0.out.1 I0.out.2.1 I0.out.2.2.1 rfl (by decide) _ nsp _ rfl OWN.out _ _ 1 1 (spC [(r, r)]) rfl RD7.out (spC_plain _) (by unfold maxLen; omega) (by omega) SZ.out ?_)
                  intro v' w9 own9 grow9 _
                  obtain ⟨A9, n9, c9', rfl⟩ := ownsRow_is own9
                  obtain ⟨j3, jf, R9'⟩ := R7.out.appended (more := [(r, r)]) (v' := .slice A9 n9 c9') (by rw [HN.out]; exact own9) grow9
                  have R9 := Lib.hid R9'
                  have LN : Hid ((sp ++ [(r, r)]).length + 4 * m ≤ 400000) := by show _ ≤ _; rw [List.length_append, HN.out]; show nsp + 1 + _ ≤ _; omega
                  clear own9 grow9 OWN SZ R9' k3
                  go_wp2_with fail
                  go_roundg m
                  case measure => omega
                  case rel => exact ⟨_, _, _, LN.out, R9, LPH.out _⟩
                · obtain ⟨n2, hn2⟩ : ∃ k, sp2.length = k := ⟨_, rfl⟩
                  have hp2 : 0 < n2 := by rw [← hn2]; exact List.length_pos_iff.2 hz
                  have hp3 : ((n2 : Int) == 0) = false := by rw [beq_eq_false_iff_ne]; omega
                  have hp4 : (n2 == 0) = false := by rw [beq_eq_false_iff_ne]; omega
                  rw [hn2] at hsl2 RD5
                  have HN2 := Lib.hid hn2
                  rw [hn2]
                  clear hz hn2
                  have OWN' := R6.out.own
                  rw [HN.out] at OWN'
                  have OWN := Lib.hid OWN'
                  have SZ := Lib.hid (show w.heap.size + 1 ≤ _ from Nat.succ_le_of_lt (Array.getElem?_eq_some_iff.1 R6.out.nb).1)
                  obtain ⟨_, _, _, k3, _, _⟩ := R6.out.cells
                  clear OWN'
                  go_wp2_with (at_builtin; refine wpList_append_any _ rfl (.tmp 89) (.tmp 90) 140 rfl (w.heap.size + 1) 151 i0 (.agg #[.int .i32 0, .int .i32 0]) 2 8 Tryd.underlying140 I0.out.2.2.2 I0.out.1 I0.out.2.1 I0.out.2.2.1 rfl (by decide) _ nsp _ rfl OWN.out _ A5 n2 c5 (spC sp2) rfl RD5.out (spC_plain _) (by unfold maxLen; omega) (by omega) SZ.out ?_)
                  intro v' w9 own9 grow9 _
                  obtain ⟨A9, n9, c9', rfl⟩ := ownsRow_is own9
                  obtain ⟨j3, jf, R9'⟩ := R6.out.appended (more := sp2) (v' := .slice A9 n9 c9') (by rw [HN.out, HN2.out]; exact own9) grow9
                  have R9 := Lib.hid R9'
                  have LN : Hid ((sp ++ sp2).length + 4 * m ≤ 400000) := by show _ ≤ _; rw [List.length_append, HN.out]; rw [HN2.out]; omega
                  clear own9 grow9 OWN SZ R9' k3
                  go_wp2_with fail
                  go_roundg m
                  case measure => omega
                  case rel => exact ⟨_, _, _, LN.out, R9, LPH.out _⟩
              | ok p =>
                obtain ⟨sp', b, u⟩ := p
                rw [hm] at hres2
                cases b with
                | false =>
                  obtain ⟨he2, hl2, hne2, hse2⟩ := hres2
                  rw [he2] at d9
                  have LPN : Hid (Lp res m c x2 (sp ++ sp2)) := by
                    have h5 : itemF (lf c xr) = .ok (sp', u) := by unfold itemF; rw [hm]; simp
                    have h6 := HIT.out
                    rw [h5] at h6
                    exact ⟨fun _ => ⟨false, acc ++ sp', by rw [hl2]; exact h6, fun y => by rw [hasS_append, hasS_append, HHS.out, hse2], (fun e => by cases e), fun _ => by simp [hne2]⟩, fun h => absurd he2 h⟩
                  obtain ⟨A5, c5, rfl, rd5⟩ := sp_form (B := 0) SP6.out
                  have RD5 := Lib.hid rd5
                  obtain ⟨n2, hn2⟩ : ∃ k, sp2.length = k := ⟨_, rfl⟩
                  have hp2 : 0 < n2 := by rw [← hn2]; exact List.length_pos_iff.2 hne2
                  have hp3 : ((n2 : Int) == 0) = false := by rw [beq_eq_false_iff_ne]; omega
                  have hp4 : (n2 == 0) = false := by rw [beq_eq_false_iff_ne]; omega
                  rw [hn2] at hsl2 RD5
                  have HN2 := Lib.hid hn2
                  rw [hn2]
                  clear hm he2 hl2 hne2 hse2 HIT rd5 hn2
                  have OWN' := R6.out.own
                  rw [HN.out] at OWN'
                  have OWN := Lib.hid OWN'
                  have SZ := Lib.hid (show w.heap.size + 1 ≤ _ from Nat.succ_le_of_lt (Array.getElem?_eq_some_iff.1 R6.out.nb).1)
                  obtain ⟨_, _, _, k3, _, _⟩ := R6.out.cells
                  clear OWN'
                  go_wp2_with (at_builtin; refine wpList_append_any _ rfl (.tmp 89) (.tmp 90) 140 rfl (w.heap.size + 1) 151 i0 (.agg #[.int .i32 0, .int .i32 0]) 2 8 Tryd.underlying140 I0.out.2.2.2 I0.out.1 I0.out.2.1 I0.out.2.2.1 rfl (by decide) _ nsp _ rfl OWN.out _ A5 n2 c5 (spC sp2) rfl RD5.out (spC_plain _) (by unfold maxLen; omega) (by omega) SZ.out ?_)
                  intro v' w9 own9 grow9 _
                  obtain ⟨A9, n9, c9', rfl⟩ := ownsRow_is own9
                  obtain ⟨j3, jf, R9'⟩ := R6.out.appended (more := sp2) (v' := .slice A9 n9 c9') (by rw [HN.out, HN2.out]; exact own9) grow9
                  have R9 := Lib.hid R9'
                  have LN : Hid ((sp ++ sp2).length + 4 * m ≤ 400000) := by show _ ≤ _; rw [List.length_append, HN.out]; rw [HN2.out]; omega
                  clear own9 grow9 OWN SZ R9' k3
                  go_wp2_with fail
                  go_roundg m
                  case measure => omega
                  case rel => exact ⟨_, _, _, LN.out, R9, LPN⟩
                | true =>
                  obtain ⟨he2, hl2, hv2, hsp'⟩ := hres2
                  subst hv2
                  subst hsp'
                  rw [he2] at d9
                  have HE2 := Lib.hid he2
                  have HL2 := Lib.hid hl2
                  have NW2 := Lib.hid (now_at R6.out.st.ps he2 hl2)
                  have HIT2 : Hid ((match (if pk u == 45 then (match uppF r u.tail with | .error e => Except.error e | .ok (hi, v) => .ok ([(r, hi)], v)) else Except.ok ([(r, r)], u)) with | .error e => some (.error e) | .ok (s, t) => clsF m false (acc ++ s) t) = some res) := by
                    have h6 := HIT.out
                    unfold itemF at h6
                    rw [hm] at h6
                    exact h6
                  have hpu : (nwF u == 45) = (pk u == 45) := by cases u <;> rfl
                  clear hm he2 hl2 HIT
                  by_cases h45 : (pk u == 45) = true
                  · obtain ⟨u2, rfl⟩ : ∃ u2, u = 45 :: u2 := by
                      cases u with
                      | nil => cases h45
                      | cons a u2 => exact ⟨u2, by have : a = 45 := (by simpa [pk] using h45); rw [this]⟩
                    rw [show nwF (45 :: u2) = 45 from rfl] at NW2
                    have hk2 := (lf_cons HL2.out).1
                    have hi2 : (x2.i : Int) ≤ 256 := by omega
                    clear hpu h45
                    go_wp2_with fail
                    refine NW2.out.mono ?_
                    rintro e w7 ⟨rfl, hb7⟩
                    have R7 := Lib.hid (R6.out.below hb7)
                    have pc7 := R7.out.st.ps.cells
                    have g1 := pc7.c1
                    have gf := pc7.f
                    clear hb7 pc7 R6 d1 df d9 NW2
                    have R8 := Lib.hid (R7.out.step ((Step.refl R7.out.st.ps).skip (Nat.le_of_lt hk2)) rfl)
                    have L8 := Lib.hid (lf_nx HL2.out)
                    have E8 : Hid ((nx x2).e = 0) := HE2.out
                    go_wp2_with fail
                    refine (rLast_any _ c (nx x2) ns u2 r R8.out.st.ps E8.out L8.out).mono ?_
                    rintro e w9 ⟨x3, hi3, rfl, hs3, hd3, hres3⟩
                    have R9a := Lib.hid (R8.out.step hs3 hd3)
                    have R10 := Lib.hid (R9a.out.below ((Below.refl _ _).alloc (Nat.le_refl _) (.cells #[.int .i32 r, .int .i32 hi3] 151)))
                    have RD10 := Lib.hid (Reads.of_own (Sp.one w9 _ r hi3 rfl))
                    have LPN : Hid (Lp res m c x3 (sp ++ [(r, hi3)])) := by
                      have h6 := HIT2.out
                      rw [if_pos (show (pk (45 :: u2) == 45) = true from rfl)] at h6
                      cases hu : uppF r u2 with
                      | error er =>
                        rw [hu] at hres3
                        obtain ⟨a1, a2⟩ := hres3
                        simp only [List.tail_cons, hu] at h6
                        exact ⟨fun h => absurd (a1 ▸ h) a2, fun _ => by rw [a1]; exact (Option.some.inj h6).symm⟩
                      | ok q =>
                        obtain ⟨h, t3⟩ := q
                        rw [hu] at hres3
                        obtain ⟨a1, a2, rfl⟩ := hres3
                        simp only [List.tail_cons, hu] at h6
                        exact ⟨fun _ => ⟨false, acc ++ [(r, hi3)], by rw [a2]; exact h6, fun y => by rw [hasS_append, hasS_append, HHS.out], (fun e => by cases e), fun _ => by simp⟩, fun h => absurd a1 h⟩
                    clear hs3 hd3 hres3 R9a R8 R7 g1 gf
                    have OWN' := R10.out.own
                    rw [HN.out] at OWN'
                    have OWN := Lib.hid OWN'
                    have SZ := Lib.hid (show w.heap.size + 1 ≤ _ from Nat.succ_le_of_lt (Array.getElem?_eq_some_iff.1 R10.out.nb).1)
                    obtain ⟨_, _, _, k3, _, _⟩ := R10.out.cells
                    clear OWN'
                    go_wp2_with (at_builtin; refine wpList_append_any _ rfl (.tmp 89) (.tmp 90) 140 rfl (w.heap.size + 1) 151 i0 (.agg #[.int .i32 0, .int .i32 0]) 2 8 Tryd.underlying140 I0.out.2.2.2 I0.out.1 I0.out.2.1 I0.out.2.2.1 rfl (by decide) _ nsp _ rfl OWN.out _ _ 1 1 (spC [(r, hi3)]) rfl RD10.out (spC_plain _) (by unfold maxLen; omega) (by omega) SZ.out ?_)
                    intro v' w9 own9 grow9 _
                    obtain ⟨A9, n9, c9', rfl⟩ := ownsRow_is own9
                    obtain ⟨j3, jf, R9'⟩ := R10.out.appended (more := [(r, hi3)]) (v' := .slice A9 n9 c9') (by rw [HN.out]; exact own9) grow9
                    have R9 := Lib.hid R9'
                    have LN : Hid ((sp ++ [(r, hi3)]).length + 4 * m ≤ 400000) := by show _ ≤ _; rw [List.length_append, HN.out]; show nsp + 1 + _ ≤ _; omega
                    clear own9 grow9 OWN SZ R9' k3
                    go_wp2_with fail
                    go_roundg m
                    case measure => omega
                    case rel => exact ⟨_, _, _, LN.out, R9, LPN⟩
                  · have h45b : (pk u == 45) = false := by simpa using h45
                    rw [h45b] at hpu
                    have LPN : Hid (Lp res m c x2 (sp ++ [(r, r)])) := by
                      have h6 := HIT2.out
                      rw [if_neg h45] at h6
                      exact ⟨fun _ => ⟨false, acc ++ [(r, r)], by rw [HL2.out]; exact h6, fun y => by rw [hasS_append, hasS_append, HHS.out], (fun e => by cases e), fun _ => by simp⟩, fun h => absurd HE2.out h⟩
                    generalize nwF u = nw at *
                    clear h45 h45b
                    go_wp2_with fail
                    refine NW2.out.mono ?_
                    rintro e w7 ⟨rfl, hb7⟩
                    have R7 := Lib.hid (R6.out.below hb7)
                    have R10 := Lib.hid (R7.out.below ((Below.refl _ _).alloc (Nat.le_refl _) (.cells #[.int .i32 r, .int .i32 r] 151)))
                    have RD10 := Lib.hid (Reads.of_own (Sp.one w7 _ r r rfl))
                    clear hb7 R6 R7 d1 df d9 NW2
                    have OWN' := R10.out.own
                    rw [HN.out] at OWN'
                    have OWN := Lib.hid OWN'
                    have SZ := Lib.hid (show w.heap.size + 1 ≤ _ from Nat.succ_le_of_lt (Array.getElem?_eq_some_iff.1 R10.out.nb).1)
                    obtain ⟨_, _, _, k3, _, _⟩ := R10.out.cells
                    clear OWN'
                    go_wp2_with (at_builtin; refine wpList_append_any _ rfl (.tmp 89) (.tmp 90) 140 rfl (w.heap.size + 1) 151 i0 (.agg #[.int .i32 0, .int .i32 0]) 2 8 Tryd.underlying140 I0.out.2.2.2 I0.out.1 I0.out.2.1 I0.out.2.2.1 rfl (by decide) _ nsp _ rfl OWN.out _ _ 1 1 (spC [(r, r)]) rfl RD10.out (spC_plain _) (by unfold maxLen; omega) (by omega) SZ.out ?_)
                    intro v' w9 own9 grow9 _
                    obtain ⟨A9, n9, c9', rfl⟩ := ownsRow_is own9
                    obtain ⟨j3, jf, R9'⟩ := R10.out.appended (more := [(r, r)]) (v' := .slice A9 n9 c9') (by rw [HN.out]; exact own9) grow9
                    have R9 := Lib.hid R9'
                    have LN : Hid ((sp ++ [(r, r)]).length + 4 * m ≤ 400000) := by show _ ≤ _; rw [List.length_append, HN.out]; show nsp + 1 + _ ≤ _; omega
                    clear own9 grow9 OWN SZ R9' k3
                    go_wp2_with fail
                    go_roundg m
                    case measure => omega
                    case rel => exact ⟨_, _, _, LN.out, R9, LPN⟩
      · have hne : (xr.e == 0) = false := by simpa using h0
        have HRES := Lib.hid (HL.out.2 h0)
        have H0 := Lib.hid h0
        clear h0
        go_wp2_with fail
        go_ret
        rw [HRES.out]
        exact ⟨_, _, _, rfl, HR.out.st, HR.out.d, rfl, H0.out, rfl⟩
end Go.Proofs.YthlabaijaadocaaDoor
