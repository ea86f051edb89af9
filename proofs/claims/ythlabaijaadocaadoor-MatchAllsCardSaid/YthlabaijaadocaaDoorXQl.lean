import Derived.Test.YthlabaijaadocaaDoorXQk
/-! The reference's parts: what they stand for; an atom. -/
namespace Go.Proofs.YthlabaijaadocaaDoor
open Go.RowKit Ut Rx Mt

/-- part i stands for a pattern -/
inductive Nr (w : World) (ns : List Nd) : Nat → Pat → Prop
  | one (i : Nat) (v : Value) (sp sp' : List Span) (but : Bool) (a b : Int) : ns[i]? = some ⟨0, a, b, v, but⟩ → Sp w v sp → (∀ y, hasS sp y = hasS sp' y) → Nr w ns i (.one sp' but)
  | nil (i : Nat) (nd : Nd) : ns[i]? = some nd → nd.k = 6 → nd.s = .slice none 0 0 → Nr w ns i .nil
  | cat (i j k : Nat) (nd : Nd) (p q : Pat) : ns[i]? = some nd → nd.k = 1 → nd.s = .slice none 0 0 → nd.a = j → nd.b = k → Nr w ns j p → Nr w ns k q → Nr w ns i (.cat p q)
  | alt (i j k : Nat) (nd : Nd) (p q : Pat) : ns[i]? = some nd → nd.k = 2 → nd.s = .slice none 0 0 → nd.a = j → nd.b = k → Nr w ns j p → Nr w ns k q → Nr w ns i (.alt p q)
  | again (i j : Nat) (nd : Nd) (p : Pat) (s : Int) : ns[i]? = some nd → ((nd.k = 3 ∧ s = 42) ∨ (nd.k = 4 ∧ s = 43) ∨ (nd.k = 5 ∧ s = 63)) → nd.s = .slice none 0 0 → nd.a = j → Nr w ns j p → Nr w ns i (.again p s)
theorem get_more {ns : List Nd} (more : List Nd) {i : Nat} {nd : Nd} (h : ns[i]? = some nd) : (ns ++ more)[i]? = some nd := by
  rw [List.getElem?_append_left (List.getElem?_eq_some_iff.1 h).1]; exact h
theorem Nr.more {w w' : World} {ns : List Nd} (more : List Nd) (hk : ∀ v sp, Sp w v sp → Sp w' v sp) {i : Nat} {p : Pat} (h : Nr w ns i p) : Nr w' (ns ++ more) i p := by
  induction h with
  | one i v sp sp' but a b h1 h2 h3 => exact .one i v sp sp' but a b (get_more more h1) (hk _ _ h2) h3
  | nil i nd h1 h2 hs => exact .nil i nd (get_more more h1) h2 hs
  | cat i j k nd p q h1 h2 hs h3 h4 _ _ ih1 ih2 => exact .cat i j k nd p q (get_more more h1) h2 hs h3 h4 ih1 ih2
  | alt i j k nd p q h1 h2 hs h3 h4 _ _ ih1 ih2 => exact .alt i j k nd p q (get_more more h1) h2 hs h3 h4 ih1 ih2
  | again i j nd p s h1 h2 hs h3 _ ih => exact .again i j nd p s (get_more more h1) h2 hs h3 ih
theorem Nr.step {w w' : World} {c : Cx} {x x' : PV} {ns : List Nd} (more : List Nd) (s : Step w w' c x x' ns (ns ++ more)) (hp : Ps w c x ns) {i : Nat} {p : Pat} (h : Nr w ns i p) : Nr w' (ns ++ more) i p :=
  h.more more fun _ _ k => hp.other s.fr k (by decide) (by decide)
theorem Nr.kept {w w' : World} {ns : List Nd} (b : Below w.heap.size w w') {i : Nat} {p : Pat} (h : Nr w ns i p) : Nr w' ns i p := by
  have := h.more [] (fun _ _ k => Sp.below k b)
  rwa [List.append_nil] at this

/-- what a call that reads a part has come to; s: how many parts less than four a rune -/
def RP (w : World) (c : Cx) (x : PV) (ns : List Nd) (lz s : Nat) (res : Out) (e : Ending) (w' : World) : Prop :=
  ∃ x' more idx, e = .returned (.int .i64 idx) ∧ Step w w' c x x' ns (ns ++ more) ∧ match res with
  | .ok (p, t) => x'.e = 0 ∧ lf c x' = t ∧ x'.d = x.d ∧ (∃ i : Nat, idx = (i : Int) ∧ Nr w' (ns ++ more) i p) ∧ more.length + s + 4 * t.length ≤ 4 * lz + 1
  | .error er => x'.e = er ∧ er ≠ 0 ∧ more.length + s ≤ 4 * lz + 1
def Bounds (c : Cx) (x : PV) (ns : List Nd) (l : List Int) (d k : Nat) : Prop := x.e = 0 ∧ lf c x = l ∧ x.d = d ∧ d ≤ 20 ∧ ns.length + 4 * l.length ≤ 90000 + k
def AltOk (n : Nat) : Prop := ∀ (w : World) (c : Cx) (x : PV) (ns : List Nd) (l : List Int) (d : Nat) (res : Out), Ps w c x ns → Bounds c x ns l d 0 → parF n .pat d l = some res → Calls Tryd.prog 75 #[.pointer (some ⟨c.g, 0, none⟩)] w (RP w c x ns l.length 0 res)
def AtomOk (n : Nat) : Prop := ∀ (w : World) (c : Cx) (x : PV) (ns : List Nd) (l : List Int) (d : Nat) (res : Out), Ps w c x ns → Bounds c x ns l d 1 → l ≠ [] → parF n .atom d l = some res → Calls Tryd.prog 100 #[.pointer (some ⟨c.g, 0, none⟩)] w (RP w c x ns l.length 2 res)
def BraOk (n : Nat) : Prop := ∀ (w : World) (c : Cx) (x : PV) (ns : List Nd) (l : List Int) (d : Nat) (res : Out), Ps w c x ns → Bounds c x ns l d 0 → parF n (.bra .nil) d l = some res → Calls Tryd.prog 88 #[.pointer (some ⟨c.g, 0, none⟩)] w (RP w c x ns l.length 0 res)

theorem Step.z {w w1 : World} {c : Cx} {x x1 : PV} {n n1 : List Nd} (h : Step w w1 c x x1 n n1) (z : Int) : Step w (w1.setCell ⟨c.g, 6, none⟩ (.int .i64 z)) c x { x1 with z := z } n n1 := h.set 6 _ _ rfl rfl h.ps.at_
theorem Step.pl {w w1 : World} {c : Cx} {x x1 : PV} {n n1 : List Nd} (h : Step w w1 c x x1 n n1) (b : Bool) : Step w (w1.setCell ⟨c.g, 7, none⟩ (.bool b)) c x { x1 with pl := b } n n1 := h.set 7 _ _ rfl rfl h.ps.at_
theorem Step.dd {w w1 : World} {c : Cx} {x x1 : PV} {n n1 : List Nd} (h : Step w w1 c x x1 n n1) (k : Nat) (z : Int) (hz : z = k) : Step w (w1.setCell ⟨c.g, 10, none⟩ (.int .i64 z)) c x { x1 with d := k } n n1 := by
  subst hz
  exact h.set 10 _ _ rfl rfl h.ps.at_

theorem clsF_short : ∀ (n : Nat) (first : Bool) (acc : List Span) (l : List Int) (s : List Span) (t : List Int), clsF n first acc l = some (.ok (s, t)) → t.length + (if first then 1 else 0) ≤ l.length
  | 0, _, _, _, _, _, h => by cases h
  | n + 1, first, acc, l, s, t, h => by
    unfold clsF at h
    split at h
    · split at h
      · cases h
      · rename_i s' t' hi
        have h1 := itemF_le hi
        have h2 := clsF_short n false _ t' s t h
        split <;> simp at h2 <;> omega
    · rename_i hc
      cases h
      have : first = false := by cases first with
        | false => rfl
        | true => simp at hc
      subst this
      simp
theorem clsF_le {n : Nat} {l : List Int} {rc : Except Int (List Span × List Int)} (h : clsF n true [] (butF l) = some rc) : ∀ s t, rc = .ok (s, t) → t.length + 1 ≤ l.length := fun s t e => by
  subst e
  have h1 := clsF_short _ _ _ _ _ _ h
  have h2 : (butF l).length ≤ l.length := by unfold butF; split <;> simp
  simp at h1
  omega

set_option maxRecDepth 100000 in
set_option maxHeartbeats 8000000 in
theorem rAtom_of (n : Nat) (hnn : n ≤ 90000) (ih : AltOk n) : AtomOk (n + 1) := by
  intro w c x ns l d res h hB hne hres
  obtain ⟨he, hl, hd, hd20, hnb⟩ := hB
  cases l with
  | nil => exact absurd rfl hne
  | cons a t =>
    have ha := lf_pos h hl
    have hk := (lf_cons hl).1
    have hf := h.few
    have hi : (x.i : Int) ≤ 256 := by omega
    have NW := Lib.hid (now_at h he hl)
    rw [show nwF (a :: t) = a from rfl] at NW
    have H := Lib.hid h
    have HE := Lib.hid he
    have HL := Lib.hid hl
    have hp : pk (a :: t) = a := rfl
    rw [parF, hp] at hres
    have RES := Lib.hid hres
    simp only [List.length_cons] at hnb
    clear h he hl hres hp hne
    go_enter Tryd.func100, Tryd.ntmps100
    go_wp2_with fail
    refine NW.out.mono ?_
    rintro e w1 ⟨rfl, hb1⟩
    have S1 := Lib.hid ((Step.refl H.out).below hb1)
    have pc := S1.out.ps.cells
    have c6 := pc.c6
    have f := pc.f
    clear hb1 pc NW
    go_upto_region 3 with fail
    generalize wrap64 (x.z + 1) = z1 at *
    have S2 := Lib.hid (S1.out.z z1)
    have E2 : Hid (({ x with z := z1 } : PV).e = 0) := HE.out
    have L2 : Hid (lf c ({ x with z := z1 } : PV) = a :: t) := HL.out
    have D2 : Hid (({ x with z := z1 } : PV).d = x.d) := rfl
    have hi2 : (({ x with z := z1 } : PV).i : Int) ≤ 256 := hi
    have hk2 : ({ x with z := z1 } : PV).i < c.cs.length := hk
    have hd2 : ({ x with z := z1 } : PV).d = d := hd
    generalize ({ x with z := z1 } : PV) = x2 at *
    generalize (w1.setCell ⟨c.g, 6, none⟩ (.int .i64 z1)) = w2 at *
    have pc := S2.out.ps.cells
    have c1 := pc.c1
    have c6 := pc.c6
    have c7 := pc.c7
    have c10 := pc.c10
    have f := pc.f
    clear pc S1 hi hk
    by_cases h40 : a = 40
    · subst h40
      rw [hd2] at c10
      by_cases hd20' : d = 20
      · subst hd20'
        have E : Hid (res = .error 60) := by have := RES.out; simp at this; exact this.symm
        have S3 := Lib.hid ((S2.out.z (wrap64 (x2.z - 1))).pl false)
        clear RES
        go_wp2_with fail
        refine (fail_any _ c _ ns 60 S3.out.ps).mono ?_
        rintro e w4 ⟨rfl, bad, hs4⟩
        have S4 := Lib.hid (S3.out.trans hs4)
        clear hs4
        go_wp2_with fail
        go_ret
        rw [E.out]
        exact ⟨_, [], _, rfl, by rw [List.append_nil]; exact S4.out, by show (if x2.e = 0 then _ else _) = _; rw [if_pos E2.out], by decide, by simp only [List.length_nil]; omega⟩
      · have hdl : d < 20 := by omega
        have hdn : ((d : Int) == 20) = false := by rw [beq_eq_false_iff_ne]; omega
        have RES2 : Hid (thenF (parF n .pat (d + 1) t) (fun p l => if pk l == 41 then some (.ok (p, l.tail)) else some (.error 8)) = some res) := by
          have := RES.out
          rw [if_pos (show ((40 : Int) == 40) = true from rfl), if_neg (by omega)] at this
          exact this
        obtain ⟨x3, s3, l3, e3, d3⟩ : ∃ x3, Step w ((((w2.setCell ⟨c.g, 6, none⟩ (.int .i64 (wrap64 (x2.z - 1)))).setCell ⟨c.g, 7, none⟩ (.bool false)).setCell ⟨c.g, 10, none⟩ (.int .i64 ((d : Int) + 1))).setCell ⟨c.g, 1, none⟩ (.int .i64 ((x2.i : Int) + 1))) c x x3 ns ns ∧ lf c x3 = t ∧ x3.e = 0 ∧ x3.d = d + 1 :=
          ⟨_, (((S2.out.z (wrap64 (x2.z - 1))).pl false).dd (d + 1) ((d : Int) + 1) (by simp)).skip (Nat.le_of_lt hk2), lf_nx (x := x2) L2.out, E2.out, rfl⟩
        have S3 := Lib.hid s3
        have L3 := Lib.hid l3
        have E3 := Lib.hid e3
        have D3 := Lib.hid d3
        clear s3 l3 e3 d3
        clear RES
        cases hp : parF n .pat (d + 1) t with
        | none => have := RES2.out; rw [hp] at this; cases this
        | some r1 =>
          have RES3 := RES2.out
          rw [hp] at RES3
          have RH := Lib.hid RES3
          have IH := Lib.hid (ih _ c x3 ns t (d + 1) r1 S3.out.ps ⟨E3.out, L3.out, D3.out, by omega, by omega⟩ hp)
          clear RES2 RES3 hp c6 c7 c10 f c1
          have pc2 := S2.out.ps.cells
          have c6 := pc2.c6
          have c7 := pc2.c7
          have c10 := pc2.c10
          have c1 := pc2.c1
          have f := pc2.f
          rw [hd2] at c10
          clear pc2
          go_wp2_with fail
          refine IH.out.mono ?_
          rintro e w4 ⟨x4, more, idx, rfl, hs4, hres4⟩
          have S4 := Lib.hid (S3.out.trans hs4)
          clear IH
          cases r1 with
          | error er =>
            obtain ⟨h1, h2, h3⟩ := hres4
            have E : Hid (res = .error er) := (Option.some.inj RH.out).symm
            have NE := Lib.hid (now_err hs4.ps (by rw [h1]; exact h2))
            have H1 := Lib.hid h1
            have H2 := Lib.hid h2
            clear hs4 h1
            go_wp2_with fail
            refine NE.out.mono ?_
            rintro e w5 ⟨rfl, hb5⟩
            have S5 := Lib.hid (S4.out.below hb5)
            clear hb5
            go_wp2_with fail
            refine (fail_any _ c x4 (ns ++ more) 8 S5.out.ps).mono ?_
            rintro e w6 ⟨rfl, bad, hs6⟩
            have S6 := Lib.hid (S5.out.trans hs6)
            clear hs6
            go_wp2_with fail
            go_ret
            rw [E.out]
            exact ⟨_, more, _, rfl, S6.out, by show (if x4.e = 0 then _ else _) = _; rw [if_neg (by rw [H1.out]; exact H2.out), H1.out], H2.out, by omega⟩
          | ok q =>
            obtain ⟨p, t4⟩ := q
            obtain ⟨h1, h2, h3, ⟨i4, rfl, h4⟩, h5⟩ := hres4
            have NE := Lib.hid (now_at hs4.ps h1 h2)
            have H1 := Lib.hid h1
            have H2 := Lib.hid h2
            have H3 := Lib.hid (h3.trans D3.out)
            have RP4 := Lib.hid h4
            have hpn : (nwF t4 == 41) = (pk t4 == 41) := by cases t4 <;> rfl
            clear hs4 h1 h2 h3 h4
            by_cases h41 : (pk t4 == 41) = true
            · obtain ⟨u, rfl⟩ : ∃ u, t4 = 41 :: u := by
                cases t4 with
                | nil => cases h41
                | cons a u => exact ⟨u, by have : a = 41 := (by simpa [pk] using h41); rw [this]⟩
              have E : Hid (res = .ok (p, u)) := (Option.some.inj RH.out).symm
              rw [show nwF (41 :: u) = 41 from rfl] at NE
              have hk4 := (lf_cons H2.out).1
              have hi4 : (x4.i : Int) ≤ 256 := by omega
              clear hpn h41
              go_wp2_with fail
              refine NE.out.mono ?_
              rintro e w5 ⟨rfl, hb5⟩
              have S5 := Lib.hid (S4.out.below hb5)
              have RP5 := Lib.hid (RP4.out.kept hb5)
              have pc := S5.out.ps.cells
              have d1 := pc.c1
              have d10 := pc.c10
              have df := pc.f
              rw [H3.out] at d10
              have S6a := Lib.hid ((S5.out.dd d (((d + 1 : Nat) : Int) - 1) (by simp)).skip (Nat.le_of_lt hk4))
              have S6b := Lib.hid (((Step.refl S5.out.ps).dd d (((d + 1 : Nat) : Int) - 1) (by simp)).skip (Nat.le_of_lt hk4))
              rw [show (((d + 1 : Nat) : Int) - 1) = (d : Int) by simp] at S6a S6b
              have L6 := Lib.hid (lf_nx H2.out)
              clear hb5 pc
              go_wp2_with fail
              go_ret
              rw [E.out]
              have RP6 := Nr.more [] (fun v sp k => Step.sp S5.out.ps S6b.out k) RP5.out
              rw [List.append_nil] at RP6
              exact ⟨_, more, _, rfl, S6a.out, H1.out, L6.out, hd2.symm.trans D2.out, ⟨i4, rfl, RP6⟩, by simp only [List.length_cons] at h5; omega⟩
            · have E : Hid (res = .error 8) := by have := RH.out; simp only [thenF] at this; rw [if_neg h41] at this; exact (Option.some.inj this).symm
              have h41b : (pk t4 == 41) = false := by simpa using h41
              rw [h41b] at hpn
              have hpn2 : (nwF t4 != 41) = true := by unfold bne; rw [hpn]; rfl
              generalize nwF t4 = nw at *
              clear h41 h41b
              go_wp2_with fail
              refine NE.out.mono ?_
              rintro e w5 ⟨rfl, hb5⟩
              have S5 := Lib.hid (S4.out.below hb5)
              clear hb5
              go_wp2_with fail
              refine (fail_any _ c x4 (ns ++ more) 8 S5.out.ps).mono ?_
              rintro e w6 ⟨rfl, bad, hs6⟩
              have S6 := Lib.hid (S5.out.trans hs6)
              clear hs6
              go_wp2_with fail
              go_ret
              rw [E.out]
              exact ⟨_, more, _, rfl, S6.out, by show (if x4.e = 0 then _ else _) = _; rw [if_pos H1.out], by decide, by omega⟩
    · have n40 : (a == 40) = false := by simpa using h40
      have RES2 : Hid ((if a == 91 then (match clsF n true [] (butF t) with
          | none => none
          | some (.error e) => some (.error e)
          | some (.ok (s, t')) => some (.ok (.one s (pk t == 94), t')))
        else if a == 46 then some (.ok (.one [] true, t))
        else if a == 92 then (match escF t with
          | .error e => some (.error e)
          | .ok (s, _, t') => some (.ok (.one s false, t')))
        else if specB a then some (.error 8)
        else some (.ok (.one [(a, a)] false, t))) = some res) := by
        have := RES.out
        rw [if_neg (by rw [n40]; simp)] at this
        exact this
      clear RES h40
      by_cases h91 : a = 91
      · subst h91
        have R := RES2.out
        rw [if_pos (show ((91 : Int) == 91) = true from rfl)] at R
        obtain ⟨rc, hrc, hrr⟩ : ∃ rc, clsF n true [] (butF t) = some rc ∧ res = match rc with | .error e => .error e | .ok (s, t') => .ok (.one s (pk t == 94), t') := by
          cases hc : clsF n true [] (butF t) with
          | none => rw [hc] at R; cases R
          | some rc =>
            rw [hc] at R
            refine ⟨rc, rfl, ?_⟩
            cases rc with
            | error e => exact (Option.some.inj R).symm
            | ok q => obtain ⟨s, t'⟩ := q; exact (Option.some.inj R).symm
        have CLE := Lib.hid (clsF_le hrc)
        have CE := Lib.hid (rClass_any _ c { x2 with pl := false } ns t (S2.out.pl false).ps E2.out L2.out (by omega) n (by omega) rc hrc)
        have HRR := Lib.hid hrr
        clear R hrc hrr RES2 n40
        go_wp2_with fail
        refine CE.out.mono ?_
        rintro e w3 ⟨x3, ns3, idx, rfl, hs3, hd3, hres3⟩
        have S3 := Lib.hid ((S2.out.pl false).trans hs3)
        clear hs3
        go_wp2_with fail
        go_ret
        rw [HRR.out]
        cases rc with
        | error er =>
          obtain ⟨h1, h2, rfl⟩ := hres3
          exact ⟨x3, [], idx, rfl, by rw [List.append_nil]; exact S3.out, h1, h2, by simp; omega⟩
        | ok q =>
          obtain ⟨s, t'⟩ := q
          obtain ⟨h1, h2, v, sp, rfl, h4, h5, h6⟩ := hres3
          refine ⟨x3, _, idx, rfl, S3.out, h1, h2, hd3.trans D2.out, ⟨ns.length, h4, .one _ v sp s _ 0 0 (by simp) h5 h6⟩, ?_⟩
          have := CLE.out s t' rfl
          simp only [List.length_cons, List.length_nil]
          omega
      · have n91 : (a == 91) = false := by simpa using h91
        clear h91
        by_cases h46 : a = 46
        · subst h46
          have E : Hid (res = .ok (.one [] true, t)) := by
            have := RES2.out
            rw [if_neg (by decide), if_pos (show ((46 : Int) == 46) = true from rfl)] at this
            exact (Option.some.inj this).symm
          have S3 := Lib.hid ((S2.out.pl false).skip (Nat.le_of_lt hk2))
          have L3 : Hid (lf c (nx { x2 with pl := false }) = t) := lf_nx (x := { x2 with pl := false }) L2.out
          clear RES2 n40 n91
          go_wp2_with fail
          refine (add_any _ c (nx { x2 with pl := false }) ns ⟨0, 0, 0, .slice none 0 0, true⟩ S3.out.ps rfl (by omega)).mono ?_
          rintro e w4 ⟨rfl, L', hs4⟩
          have S4 := Lib.hid (S3.out.trans hs4)
          clear hs4
          go_wp2_with fail
          go_ret
          rw [E.out]
          exact ⟨_, _, _, rfl, S4.out, E2.out, L3.out, D2.out, ⟨ns.length, rfl, .one _ _ [] [] true 0 0 (by simp) (Sp.nil _) (fun _ => rfl)⟩, by simp only [List.length_cons, List.length_nil]; omega⟩
        · have n46 : (a == 46) = false := by simpa using h46
          clear h46
          by_cases h92 : a = 92
          · subst h92
            have R := RES2.out
            rw [if_neg (by decide), if_neg (by decide), if_pos (show ((92 : Int) == 92) = true from rfl)] at R
            have RH := Lib.hid R
            have EX := Lib.hid (rEscape_any w2 c x2 ns t S2.out.ps E2.out L2.out)
            clear R RES2 n40 n91 n46 c1 c6 c7 c10 f
            go_wp2_with fail
            refine EX.out.mono ?_
            rintro e w3 ⟨x3, v, sp, rfl, hs3, hd3, hsp3, hsl3, hres3⟩
            have S3 := Lib.hid (S2.out.trans hs3)
            obtain ⟨A3, m3, cp3, hv3⟩ := ownsRow_is hsp3
            subst hv3
            have SP3 := Lib.hid hsp3
            have HD3 := Lib.hid hd3
            have HR3 := Lib.hid hres3
            have hone : (Value.slice A3 m3 cp3).oneCell' = true := rfl
            have pc := hs3.ps.cells
            have d7 := pc.c7
            have df := pc.f
            have hpl : x3.pl = true ∨ x3.pl = false := by cases x3.pl <;> simp
            clear hs3 hsp3 hd3 hres3 pc
            rcases hpl with hpl | hpl
            all_goals
              rw [hpl] at d7
              clear hpl
            · have WD := Lib.hid (wide_any w3 _ sp SP3.out (by omega))
              go_wp2_with fail
              refine WD.out.mono ?_
              rintro e w4 ⟨rfl, hb4⟩
              have S4 := Lib.hid (S3.out.below hb4)
              have SP4 := Lib.hid (SP3.out.below hb4)
              have pc := S4.out.ps.cells
              have e7 := pc.c7
              have ef := pc.f
              have S5 := Lib.hid (S4.out.pl (!wideF sp))
              have SP5 : Hid (Sp (w4.setCell ⟨c.g, 7, none⟩ (.bool (!wideF sp))) (.slice A3 m3 cp3) sp) := Step.sp S4.out.ps ((Step.refl S4.out.ps).pl (!wideF sp)) SP4.out
              clear hb4 pc SP4 WD
              go_wp2_with fail
              refine (add_any _ c { x3 with pl := !wideF sp } ns ⟨0, 0, 0, .slice A3 m3 cp3, false⟩ S5.out.ps hone (by omega)).mono ?_
              rintro e w6 ⟨rfl, L', hs6⟩
              have S6 := Lib.hid (S5.out.trans hs6)
              have SP6 := Lib.hid (S5.out.ps.other hs6.fr SP5.out (by decide) (by decide))
              clear hs6
              go_wp2_with fail
              go_ret
              have HH := HR3.out
              have RR := RH.out
              cases hx : escF t with
              | error er =>
                rw [hx] at HH RR
                obtain ⟨h1, h2⟩ := HH
                cases (Option.some.inj RR)
                exact ⟨_, _, _, rfl, S6.out, h1, h2, by simp only [List.length_cons, List.length_nil]; omega⟩
              | ok q =>
                obtain ⟨s, b, t'⟩ := q
                have hle := escF_le hx
                rw [hx] at HH RR
                obtain ⟨h1, h2, h3, h4, h5, h6⟩ := HH
                cases (Option.some.inj RR)
                exact ⟨_, _, _, rfl, S6.out, h1, h2, HD3.out.trans D2.out, ⟨ns.length, rfl, .one _ _ sp s false 0 0 (by simp) SP6.out h3⟩, by simp only [List.length_cons, List.length_nil]; omega⟩
            · have S5 := Lib.hid (S3.out.pl false)
              have SP5 : Hid (Sp (w3.setCell ⟨c.g, 7, none⟩ (.bool false)) (.slice A3 m3 cp3) sp) := Step.sp S3.out.ps ((Step.refl S3.out.ps).pl false) SP3.out
              go_wp2_with fail
              refine (add_any _ c { x3 with pl := false } ns ⟨0, 0, 0, .slice A3 m3 cp3, false⟩ S5.out.ps hone (by omega)).mono ?_
              rintro e w6 ⟨rfl, L', hs6⟩
              have S6 := Lib.hid (S5.out.trans hs6)
              have SP6 := Lib.hid (S5.out.ps.other hs6.fr SP5.out (by decide) (by decide))
              clear hs6
              go_wp2_with fail
              go_ret
              have HH := HR3.out
              have RR := RH.out
              cases hx : escF t with
              | error er =>
                rw [hx] at HH RR
                obtain ⟨h1, h2⟩ := HH
                cases (Option.some.inj RR)
                exact ⟨_, _, _, rfl, S6.out, h1, h2, by simp only [List.length_cons, List.length_nil]; omega⟩
              | ok q =>
                obtain ⟨s, b, t'⟩ := q
                have hle := escF_le hx
                rw [hx] at HH RR
                obtain ⟨h1, h2, h3, h4, h5, h6⟩ := HH
                cases (Option.some.inj RR)
                exact ⟨_, _, _, rfl, S6.out, h1, h2, HD3.out.trans D2.out, ⟨ns.length, rfl, .one _ _ sp s false 0 0 (by simp) SP6.out h3⟩, by simp only [List.length_cons, List.length_nil]; omega⟩
          · have n92 : (a == 92) = false := by simpa using h92
            have hneg : ¬ a < 0 := by omega
            have SPC := Lib.hid (rSpecial_any a w2)
            clear h92
            cases hsp : specB a with
            | true =>
              have E : Hid (res = .error 8) := by
                have := RES2.out
                rw [if_neg (by rw [n91]; simp), if_neg (by rw [n46]; simp), if_neg (by rw [n92]; simp), if_pos hsp] at this
                exact (Option.some.inj this).symm
              rw [hsp] at SPC
              clear hsp RES2
              go_wp2_with fail
              refine SPC.out.mono ?_
              rintro e w' ⟨rfl, rfl⟩
              go_wp2_with fail
              refine (fail_any _ c x2 ns 8 S2.out.ps).mono ?_
              rintro e w4 ⟨rfl, bad, hs4⟩
              have S4 := Lib.hid (S2.out.trans hs4)
              clear hs4
              go_wp2_with fail
              go_ret
              rw [E.out]
              exact ⟨_, [], _, rfl, by rw [List.append_nil]; exact S4.out, by show (if x2.e = 0 then _ else _) = _; rw [if_pos E2.out], by decide, by simp only [List.length_nil]; omega⟩
            | false =>
              have E : Hid (res = .ok (.one [(a, a)] false, t)) := by
                have := RES2.out
                rw [if_neg (by rw [n91]; simp), if_neg (by rw [n46]; simp), if_neg (by rw [n92]; simp), if_neg (by rw [hsp]; simp)] at this
                exact (Option.some.inj this).symm
              rw [hsp] at SPC
              have S3 := Lib.hid (S2.out.skip (Nat.le_of_lt hk2))
              have L3 := Lib.hid (lf_nx L2.out)
              have S4 := Lib.hid (S3.out.below ((Below.refl _ _).alloc (Nat.le_refl _) (.cells #[.int .i32 a, .int .i32 a] 151)))
              have SP4 := Lib.hid (Sp.one (w2.setCell ⟨c.g, 1, none⟩ (.int .i64 ((x2.i : Int) + 1))) w2.heap.size a a (by simp))
              clear hsp RES2
              go_wp2_with fail
              refine SPC.out.mono ?_
              rintro e w' ⟨rfl, rfl⟩
              go_wp2_with fail
              refine (add_any _ c (nx x2) ns ⟨0, 0, 0, .slice (some ⟨_, 0, none⟩) 1 1, false⟩ S4.out.ps rfl (by omega)).mono ?_
              rintro e w6 ⟨rfl, L', hs6⟩
              have S6 := Lib.hid (S4.out.trans hs6)
              have SP6 := Lib.hid (S4.out.ps.other hs6.fr SP4.out (by decide) (by decide))
              clear hs6
              go_wp2_with fail
              go_ret
              rw [E.out]
              exact ⟨_, _, _, rfl, S6.out, E2.out, L3.out, D2.out, ⟨ns.length, rfl, .one _ _ [(a, a)] [(a, a)] false 0 0 (by simp) SP6.out (fun _ => rfl)⟩, by simp only [List.length_cons, List.length_nil]; omega⟩
end Go.Proofs.YthlabaijaadocaaDoor
