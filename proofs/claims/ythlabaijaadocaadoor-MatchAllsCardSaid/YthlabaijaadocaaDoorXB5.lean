import Derived.Test.YthlabaijaadocaaDoorXB4
/-! The reference's runes of a class; the second rune of a span. -/
namespace Go.Proofs.YthlabaijaadocaaDoor
open Go.RowKit Ut Rx Mt

def SngP (w : World) (c : Cx) (x : PV) (ns : List Nd) (res : Except Int (List Span × Bool × List Int)) (e : Ending) (w' : World) : Prop :=
  ∃ x' r v sp, e = .returned (.tuple #[.int .i32 r, v]) ∧ Step w w' c x x' ns ns ∧ x'.d = x.d ∧ Sp w' v sp ∧ sp.length ≤ 4 ∧ match res with
  | .ok (sp', true, t) => x'.e = 0 ∧ lf c x' = t ∧ v = .slice none 0 0 ∧ sp' = [(r, r)]
  | .ok (sp', false, t) => x'.e = 0 ∧ lf c x' = t ∧ sp ≠ [] ∧ ∀ y, hasS sp y = hasS sp' y
  | .error er => x'.e = er ∧ er ≠ 0

set_option maxRecDepth 100000 in
set_option maxHeartbeats 4000000 in
theorem rSingle_any (w : World) (c : Cx) (x : PV) (ns : List Nd) (l : List Int) (h : Ps w c x ns) (he : x.e = 0) (hl : lf c x = l) : Calls Tryd.prog 109 #[.pointer (some ⟨c.g, 0, none⟩)] w (SngP w c x ns (memF l)) := by
  have NW := Lib.hid (now_at h he hl)
  have H := Lib.hid h
  have HE := Lib.hid he
  have HL := Lib.hid hl
  clear he hl
  cases l with
  | nil =>
    have E : Hid (memF [] = .error 8) := rfl
    clear h
    go_enter Tryd.func109, Tryd.ntmps109
    go_wp2_with fail
    refine NW.out.mono ?_
    rintro e w1 ⟨rfl, hb1⟩
    rw [show nwF [] = -2 from rfl]
    have S1 := Lib.hid ((Step.refl H.out).below hb1)
    clear hb1
    go_wp2_with fail
    refine (fail_any _ c x ns 8 S1.out.ps).mono ?_
    rintro e w4 ⟨rfl, bad, hs4⟩
    have S4 := Lib.hid (S1.out.trans hs4)
    clear hs4
    go_wp2_with fail
    go_ret2
    rw [E.out]
    exact ⟨_, _, _, [], rfl, S4.out, rfl, Sp.nil _, by simp, by show (if x.e = 0 then _ else _) = _; rw [if_pos HE.out], by decide⟩
  | cons a t =>
    have ha := lf_pos H.out HL.out
    have hk := (lf_cons HL.out).1
    have hf := h.few
    have hi : (x.i : Int) ≤ 256 := by omega
    clear h
    rw [show nwF (a :: t) = a from rfl] at NW
    by_cases h92 : a = 92
    · subst h92
      have E : Hid (memF (92 :: t) = escF t) := rfl
      go_enter Tryd.func109, Tryd.ntmps109
      go_wp2_with fail
      refine NW.out.mono ?_
      rintro e w1 ⟨rfl, hb1⟩
      have S1 := Lib.hid ((Step.refl H.out).below hb1)
      clear hb1
      go_wp2_with fail
      refine (rEscape_any _ c x ns t S1.out.ps HE.out HL.out).mono ?_
      rintro e w2 ⟨x', v, sp, rfl, hs2, hd, hsp, hsl, hres⟩
      have S2 := Lib.hid (S1.out.trans hs2)
      have SP := Lib.hid hsp
      have HD := Lib.hid hd
      have pc := hs2.ps.cells
      have c9 := pc.c9
      clear hs2 hsp hd pc
      cases hx : escF t with
      | error er =>
        rw [hx] at hres E
        obtain ⟨h1, h2⟩ := hres
        rw [h1] at c9
        have hne : (er != 0) = true := by simpa using h2
        have HR := Lib.hid (⟨h1, h2⟩ : _ ∧ _)
        clear h1 h2 hx
        go_wp2_with fail
        go_ret2
        rw [E.out]
        exact ⟨_, _, _, sp, rfl, S2.out, HD.out, SP.out, hsl, HR.out⟩
      | ok p =>
        obtain ⟨sp', b, u⟩ := p
        rw [hx] at hres E
        obtain ⟨h1, h2, h3, h4, h5, h6⟩ := hres
        rw [h1] at c9
        have HR := Lib.hid (⟨h1, h2, h3, h4, h5, h6⟩ : _ ∧ _ ∧ _ ∧ _ ∧ _ ∧ _)
        have WD := Lib.hid (wide_any w2 v sp SP.out (by omega))
        rw [h4] at WD
        clear h1 h2 h3 h4 h5 h6 hx
        cases b with
        | false =>
          go_wp2_with fail
          refine WD.out.mono ?_
          rintro e w3 ⟨rfl, hb3⟩
          have S3 := Lib.hid (S2.out.below hb3)
          have SP3 := Lib.hid (SP.out.below hb3)
          clear hb3
          go_wp2_with fail
          go_ret2
          rw [E.out]
          exact ⟨_, _, _, sp, rfl, S3.out, HD.out, SP3.out, hsl, HR.out.1, HR.out.2.1, HR.out.2.2.2.2.1, HR.out.2.2.1⟩
        | true =>
          have hsw := HR.out.2.2.2.1
          obtain ⟨r, hr⟩ : ∃ r, sp = [(r, r)] := by
            unfold wideF at hsw
            split at hsw
            · rename_i a b
              have : a = b := by simpa using hsw
              exact ⟨a, by rw [this]⟩
            · cases hsw
          subst hr
          have hsp' := HR.out.2.2.2.2.2 rfl
          subst hsp'
          clear hsw
          rcases row_kinds SP.out with ⟨_, h0⟩ | ⟨g, cap, rfl, hc⟩
          · simp at h0
          · have HCAP := Lib.hid hc
            simp only [List.length_cons, List.length_nil] at *
            go_wp2_with fail
            refine WD.out.mono ?_
            rintro e w3 ⟨rfl, hb3⟩
            have S3 := Lib.hid (S2.out.below hb3)
            have k0 := (SP.out.below hb3).cells 0 _ rfl
            clear hb3
            go_wp2_with fail
            go_ret2
            rw [E.out]
            exact ⟨_, _, _, [], rfl, S3.out, HD.out, Sp.nil _, by simp, HR.out.1, HR.out.2.1, rfl, rfl⟩
    · have h92b : (a == 92) = false := by simpa using h92
      have hneg : ¬ a < 0 := by omega
      by_cases hb : a = 91 ∨ a = 93 ∨ a = 94 ∨ a = 45
      · have E : Hid (memF (a :: t) = .error 8) := by
          have : (a == 91 || a == 93 || a == 94 || a == 45) = true := by rcases hb with e | e | e | e <;> (subst e; rfl)
          show memF (a :: t) = _
          simp [memF, this]
        clear h92
        rcases hb with rfl | rfl | rfl | rfl
        all_goals
          go_enter Tryd.func109, Tryd.ntmps109
          go_wp2_with fail
          refine NW.out.mono ?_
          rintro e w1 ⟨rfl, hb1⟩
          have S1 := Lib.hid ((Step.refl H.out).below hb1)
          clear hb1
          go_wp2_with fail
          refine (fail_any _ c x ns 8 S1.out.ps).mono ?_
          rintro e w4 ⟨rfl, bad, hs4⟩
          have S4 := Lib.hid (S1.out.trans hs4)
          clear hs4
          go_wp2_with fail
          go_ret2
          rw [E.out]
          exact ⟨_, _, _, [], rfl, S4.out, rfl, Sp.nil _, by simp, by show (if x.e = 0 then _ else _) = _; rw [if_pos HE.out], by decide⟩
      · have n1 : (a == 91) = false := by simp; omega
        have n2 : (a == 93) = false := by simp; omega
        have n3 : (a == 94) = false := by simp; omega
        have n4 : (a == 45) = false := by simp; omega
        have E : Hid (memF (a :: t) = .ok ([(a, a)], true, t)) := by show memF (a :: t) = _; simp [memF, n1, n2, n3, n4, h92]
        clear h92 hb
        go_enter Tryd.func109, Tryd.ntmps109
        go_wp2_with fail
        refine NW.out.mono ?_
        rintro e w1 ⟨rfl, hb1⟩
        have S1 := Lib.hid ((Step.refl H.out).below hb1)
        have pc := S1.out.ps.cells
        have c1 := pc.c1
        have f := pc.f
        have S2 := Lib.hid (S1.out.skip (Nat.le_of_lt hk))
        have L2 := Lib.hid (lf_nx HL.out)
        clear hb1 pc
        go_wp2_with fail
        go_ret2
        rw [E.out]
        exact ⟨_, _, _, [], rfl, S2.out, rfl, Sp.nil _, by simp, HE.out, L2.out, rfl, rfl⟩
end Go.Proofs.YthlabaijaadocaaDoor

/-! The reference's second rune of a span. -/
namespace Go.Proofs.YthlabaijaadocaaDoor
open Go.RowKit Ut Rx Mt

def LastP (w : World) (c : Cx) (x : PV) (ns : List Nd) (res : Except Int (Int × List Int)) (e : Ending) (w' : World) : Prop :=
  ∃ x' r, e = .returned (.int .i32 r) ∧ Step w w' c x x' ns ns ∧ x'.d = x.d ∧ match res with
  | .ok (hi, t) => x'.e = 0 ∧ lf c x' = t ∧ r = hi
  | .error er => x'.e = er ∧ er ≠ 0
theorem uppF_no {lo : Int} {l : List Int} (h : ¬ (pk l == 92 && decide (lo > 125)) = true) : uppF lo l = match memF l with
  | .error e => .error e
  | .ok (s, single, t) => if !single || decide (lowF s < lo) then .error 8 else .ok (lowF s, t) := by
  unfold uppF; rw [if_neg h]; rfl

set_option maxRecDepth 100000 in
set_option maxHeartbeats 4000000 in
theorem rLast_any (w : World) (c : Cx) (x : PV) (ns : List Nd) (l : List Int) (lo : Int) (h : Ps w c x ns) (he : x.e = 0) (hl : lf c x = l) : Calls Tryd.prog 110 #[.pointer (some ⟨c.g, 0, none⟩), .int .i32 lo] w (LastP w c x ns (uppF lo l)) := by
  have NW := Lib.hid (now_at h he hl)
  have H := Lib.hid h
  have HE := Lib.hid he
  have HL := Lib.hid hl
  have pc := h.cells
  have c1 := pc.c1
  clear he hl h pc
  by_cases hbad : (pk l == 92 && decide (lo > 125)) = true
  · have E : Hid (uppF lo l = .error 8) := by show _ = _; unfold uppF; rw [if_pos hbad]
    simp only [Bool.and_eq_true, beq_iff_eq, decide_eq_true_eq] at hbad
    obtain ⟨h1, h2⟩ := hbad
    have hn : nwF l = 92 := by
      cases l with
      | nil => exact absurd h1 (by decide)
      | cons a t => exact h1
    rw [hn] at NW
    have h2' : (125 : Int) < lo := h2
    clear h1 h2 hn
    go_enter Tryd.func110, Tryd.ntmps110
    go_wp2_with fail
    refine NW.out.mono ?_
    rintro e w1 ⟨rfl, hb1⟩
    have S1 := Lib.hid ((Step.refl H.out).below hb1)
    clear hb1
    go_wp2_with fail
    refine (fail_any _ c x ns 8 S1.out.ps).mono ?_
    rintro e w4 ⟨rfl, bad, hs4⟩
    have S4 := Lib.hid (S1.out.trans hs4)
    clear hs4
    go_wp2_with fail
    go_ret
    rw [E.out]
    exact ⟨_, _, rfl, S4.out, rfl, by show (if x.e = 0 then _ else _) = _; rw [if_pos HE.out], by decide⟩
  · have UP := Lib.hid (uppF_no hbad)
    have SG := Lib.hid (fun w' (b : Below w.heap.size w w') => rSingle_any w' c x ns l (H.out.below b) HE.out HL.out)
    have hcond : (nwF l == 92) = false ∨ ((nwF l == 92) = true ∧ ¬ (125 : Int) < lo) := by
      cases h1 : (nwF l == 92) with
      | false => exact Or.inl rfl
      | true =>
        right
        refine ⟨rfl, fun h2 => hbad ?_⟩
        cases l with
        | nil => exact absurd h1 (by decide)
        | cons a t =>
          have : (pk (a :: t) == 92) = true := h1
          rw [this, decide_eq_true h2]; rfl
    have hn : nwF l = -2 ∨ 0 ≤ nwF l := by
      cases l with
      | nil => exact Or.inl rfl
      | cons a t => exact Or.inr (lf_pos H.out HL.out)
    clear hbad
    generalize nwF l = nw at *
    rcases hcond with hc | ⟨hc, hc2⟩
    all_goals
      go_enter Tryd.func110, Tryd.ntmps110
      go_wp2_with fail
      refine NW.out.mono ?_
      rintro e w1 ⟨rfl, hb1⟩
      have S1 := Lib.hid ((Step.refl H.out).below hb1)
      have SG1 := Lib.hid (SG.out w1 hb1)
      clear hb1 SG
      go_wp2_with fail
      refine SG1.out.mono ?_
      rintro e w2 ⟨x', r, v, sp, rfl, hs2, hd, hsp, hsl, hres⟩
      have S2 := Lib.hid (S1.out.trans hs2)
      have HD := Lib.hid hd
      have pc := hs2.ps.cells
      have c9 := pc.c9
      obtain ⟨A, cap, rfl⟩ : ∃ A cap, v = .slice A sp.length cap := by
        rcases row_kinds hsp with ⟨e, h0⟩ | ⟨g, cap, e, hc⟩
        · exact ⟨_, _, by rw [e, h0]⟩
        · exact ⟨_, _, e⟩
      have HSPE : Hid (∀ sp' t, memF l = .ok (sp', true, t) → sp.length = 0 ∧ sp' = [(r, r)]) := fun sp' t hx => by
        rw [hx] at hres
        obtain ⟨_, _, e, e2⟩ := hres
        simp only [Value.slice.injEq] at e
        exact ⟨e.2.1, e2⟩
      clear hs2 hd pc SG1
      cases hx : memF l with
      | error er =>
        rw [hx] at hres UP
        obtain ⟨h1, h2⟩ := hres
        rw [h1] at c9
        have hne : (er == 0) = false := by simpa using h2
        have HR := Lib.hid (⟨h1, h2⟩ : _ ∧ _)
        clear h1 h2 hx HSPE hsp
        go_wp2_with fail
        go_ret
        rw [UP.out]
        exact ⟨_, _, rfl, S2.out, HD.out, HR.out⟩
      | ok p =>
        obtain ⟨sp', b, u⟩ := p
        rw [hx] at hres UP
        have hf := S2.out.ps.few
        have hat := S2.out.ps.at_
        have XI := Lib.hid (S2.out.ps)
        -- the fault behind
        have HF : Hid (x.i < c.cs.length) := by
          show _ < _
          cases l with
          | nil => rw [show memF [] = .error 8 from rfl] at hx; cases hx
          | cons a t => exact (lf_cons HL.out).1
        have hk := HF.out
        cases b with
        | false =>
          obtain ⟨h1, h2, h3, h4⟩ := hres
          rw [h1] at c9
          have hl0 : (0 : Int) < sp.length := by have := List.length_pos_iff.2 h3; omega
          have E8 : Hid (uppF lo l = .error 8) := by show _ = _; rw [UP.out]; rfl
          have X0 := Lib.hid h1
          clear h1 h2 h3 h4 hx hsp HSPE UP
          generalize sp.length = nsp at *
          have hl1 : 0 < nsp := by omega
          have S3 := Lib.hid (S2.out.set 1 (.int .i64 (x.i : Int)) { x' with i := x.i } rfl rfl H.out.at_)
          have pc2 := S2.out.ps.cells
          have d1 := pc2.c1
          have df := pc2.f
          clear pc2
          go_upto_region 8 with fail
          generalize (w2.setCell ⟨c.g, 1, none⟩ (.int .i64 (x.i : Int))) = w3 at *
          obtain ⟨b3, cap3, hcv, k0, k1⟩ := ch_at S3.out.ps x.i hk
          have pc3 := S3.out.ps.cells
          have e0 := pc3.c0
          have e1' := pc3.c1
          have ef := pc3.f
          rw [hcv] at e0
          have hi3 : (0 : Int) ≤ x.i := by omega
          have hi4 : (x.i : Int) < c.cs.length := by omega
          clear pc3 hcv d1 df c9
          by_cases h92 : (c.cs[x.i]'hk).1 = 92
          · have h92b : ((c.cs[x.i]'hk).1 == 92) = true := by simpa using h92
            have S4 := Lib.hid (S3.out.skip (Nat.le_of_lt hk))
            clear h92
            go_wp2_with fail
            refine (fail_any _ c _ ns 8 S4.out.ps).mono ?_
            rintro e w4 ⟨rfl, bad, hs4⟩
            have S5 := Lib.hid (S4.out.trans hs4)
            clear hs4
            go_wp2_with fail
            go_ret
            rw [E8.out]
            exact ⟨_, _, rfl, S5.out, HD.out, by show (if x'.e = 0 then _ else _) = _; rw [if_pos X0.out], by decide⟩
          · have h92b : ((c.cs[x.i]'hk).1 == 92) = false := by simpa using h92
            clear h92
            go_wp2_with fail
            refine (fail_any _ c _ ns 8 S3.out.ps).mono ?_
            rintro e w4 ⟨rfl, bad, hs4⟩
            have S5 := Lib.hid (S3.out.trans hs4)
            clear hs4
            go_wp2_with fail
            go_ret
            rw [E8.out]
            exact ⟨_, _, rfl, S5.out, HD.out, by show (if x'.e = 0 then _ else _) = _; rw [if_pos X0.out], by decide⟩
        | true =>
          obtain ⟨h1, h2, h3, h4⟩ := hres
          rw [h1] at c9
          obtain ⟨h5, rfl⟩ := HSPE.out _ _ hx
          have hl0 : ¬ (0 : Int) < sp.length := by omega
          have hl1 : ¬ 0 < sp.length := by omega
          have X0 := Lib.hid h1
          have X1 := Lib.hid h2
          clear h1 h2 h3 h4 hx hsp HSPE h5
          generalize sp.length = nsp at *
          by_cases hlo : r < lo
          · have E8 : Hid (uppF lo l = .error 8) := by show _ = _; rw [UP.out]; simp [lowF, hlo]
            clear UP
            have S3 := Lib.hid (S2.out.set 1 (.int .i64 (x.i : Int)) { x' with i := x.i } rfl rfl H.out.at_)
            have pc2 := S2.out.ps.cells
            have d1 := pc2.c1
            have df := pc2.f
            clear pc2
            go_upto_region 8 with fail
            generalize (w2.setCell ⟨c.g, 1, none⟩ (.int .i64 (x.i : Int))) = w3 at *
            obtain ⟨b3, cap3, hcv, k0, k1⟩ := ch_at S3.out.ps x.i hk
            have pc3 := S3.out.ps.cells
            have e0 := pc3.c0
            have e1' := pc3.c1
            have ef := pc3.f
            rw [hcv] at e0
            have hi3 : (0 : Int) ≤ x.i := by omega
            have hi4 : (x.i : Int) < c.cs.length := by omega
            clear pc3 hcv d1 df c9
            by_cases h92 : (c.cs[x.i]'hk).1 = 92
            · have h92b : ((c.cs[x.i]'hk).1 == 92) = true := by simpa using h92
              have S4 := Lib.hid (S3.out.skip (Nat.le_of_lt hk))
              clear h92
              go_wp2_with fail
              refine (fail_any _ c _ ns 8 S4.out.ps).mono ?_
              rintro e w4 ⟨rfl, bad, hs4⟩
              have S5 := Lib.hid (S4.out.trans hs4)
              clear hs4
              go_wp2_with fail
              go_ret
              rw [E8.out]
              exact ⟨_, _, rfl, S5.out, HD.out, by show (if x'.e = 0 then _ else _) = _; rw [if_pos X0.out], by decide⟩
            · have h92b : ((c.cs[x.i]'hk).1 == 92) = false := by simpa using h92
              clear h92
              go_wp2_with fail
              refine (fail_any _ c _ ns 8 S3.out.ps).mono ?_
              rintro e w4 ⟨rfl, bad, hs4⟩
              have S5 := Lib.hid (S3.out.trans hs4)
              clear hs4
              go_wp2_with fail
              go_ret
              rw [E8.out]
              exact ⟨_, _, rfl, S5.out, HD.out, by show (if x'.e = 0 then _ else _) = _; rw [if_pos X0.out], by decide⟩
          · have E8 : Hid (uppF lo l = .ok (r, u)) := by show _ = _; rw [UP.out]; simp [lowF, hlo]
            clear UP
            go_wp2_with fail
            go_ret
            rw [E8.out]
            exact ⟨_, _, rfl, S2.out, HD.out, X0.out, X1.out, rfl⟩
end Go.Proofs.YthlabaijaadocaaDoor

/-! The reference's class: its worlds. -/
namespace Go.Proofs.YthlabaijaadocaaDoor
open Go.RowKit Ut Rx Mt

def nbC (v : Value) (but : Bool) : Array Value := #[.int .i64 0, .int .i64 0, .int .i64 0, v, .bool but]
/-- in the midst of a class: w where it begins, wr now; the part that is made lies in block w.heap.size, its set is v -/
structure Rc (w wr : World) (c : Cx) (x0 x : PV) (ns : List Nd) (v : Value) (sp : List Span) (but : Bool) : Prop where
  st : Step w wr c x0 x ns ns
  nb : wr.heap[w.heap.size]? = some (.cells (nbC v but) 142 (0, 0))
  own : wr.ownsRow (w.heap.size + 1) 151 2 v sp.length (spC sp)
  ne : some w.heap.size ≠ x.L.ownBlock
  lt : c.g < w.heap.size
  d : x.d = x0.d
theorem Rc.step {w wr w' : World} {c : Cx} {x0 x x' : PV} {ns : List Nd} {v : Value} {sp : List Span} {but : Bool} (h : Rc w wr c x0 x ns v sp but) (s : Step wr w' c x x' ns ns) (hd : x'.d = x.d) : Rc w w' c x0 x' ns v sp but := by
  have hlt := (Array.getElem?_eq_some_iff.1 h.nb).1
  refine ⟨h.st.trans s, ?_, h.st.ps.other s.fr h.own (by decide) (by decide), ?_, h.lt, hd.trans h.d⟩
  · rw [s.fr.block _ hlt (fun e => by have := h.lt; omega) h.ne]; exact h.nb
  · rcases s.fr.row with e | ⟨q, e, hq⟩
    · rw [e]; exact h.ne
    · rw [e]; intro e2; cases e2; omega
theorem Rc.start {w : World} {c : Cx} {x : PV} {ns : List Nd} (h : Ps w c x ns) : Rc w (w.alloc (.cells #[.int .i64 0, .int .i64 0, .int .i64 0, .slice none 0 0, .bool false] 142)) c x x ns (.slice none 0 0) [] false :=
  ⟨(Step.refl h).below ((Below.refl _ _).alloc (Nat.le_refl _) _), heap_alloc_new w _, World.ownsRow_nil _ _ _ _, fun e => by have := h.nd.lt _ e.symm; omega, h.lt, rfl⟩
theorem Rc.cells {w wr : World} {c : Cx} {x0 x : PV} {ns : List Nd} {v : Value} {sp : List Span} {but : Bool} (h : Rc w wr c x0 x ns v sp but) :
    wr.cell? ⟨w.heap.size, 0, none⟩ = some (.int .i64 0) ∧ wr.cell? ⟨w.heap.size, 1, none⟩ = some (.int .i64 0) ∧ wr.cell? ⟨w.heap.size, 2, none⟩ = some (.int .i64 0) ∧ wr.cell? ⟨w.heap.size, 3, none⟩ = some v ∧ wr.cell? ⟨w.heap.size, 4, none⟩ = some (.bool but) ∧ ∀ j, wr.frozen? ⟨w.heap.size, j, none⟩ = false :=
  ⟨blk_cell h.nb 0, blk_cell h.nb 1, blk_cell h.nb 2, blk_cell h.nb 3, blk_cell h.nb 4, blk_free h.nb⟩
/-- a store into a block that is new, and none of the reader's -/
theorem Step.far {w wr w' : World} {c : Cx} {x0 x : PV} {ns ns' : List Nd} {r : Option Nat} (s : Step w wr c x0 x ns ns') (g : wr.grownBy w' r) (hr : ∀ q, r = some q → w.heap.size ≤ q ∧ q ≠ c.g ∧ c.cv.ownBlock ≠ some q ∧ x.L.ownBlock ≠ some q) : Step w w' c x0 x ns ns' := by
  have kp : ∀ q, q < wr.heap.size → (∀ q', r = some q' → q ≠ q') → w'.heap[q]? = wr.heap[q]? := fun q hq h => g.block q hq (fun e => h q e.symm rfl)
  refine ⟨⟨?_, ?_, ?_, s.ps.low, s.ps.few, s.ps.at_, s.ps.pos⟩, ⟨g.os.trans s.fr.os, g.tape.trans s.fr.tape, g.output.trans s.fr.output, Nat.le_trans s.fr.size g.size, fun q hq h1 h2 => ?_, s.fr.row⟩⟩
  · rw [kp _ s.ps.lt (fun q' e h => (hr q' e).2.1 h.symm)]; exact s.ps.blk
  · exact own_keep s.ps.ch fun q hq => kp q (s.ps.ch.lt q hq).2 (fun q' e h => (hr q' e).2.2.1 (by rw [hq, h]))
  · exact own_keep s.ps.nd fun q hq => kp q (s.ps.nd.lt q hq).2 (fun q' e h => (hr q' e).2.2.2 (by rw [hq, h]))
  · rw [kp q (Nat.lt_of_lt_of_le hq s.fr.size) (fun q' e h => by have := (hr q' e).1; omega)]
    exact s.fr.block q hq h1 h2
theorem Rc.cvne {w wr : World} {c : Cx} {x0 x : PV} {ns : List Nd} {v : Value} {sp : List Span} {but : Bool} (h : Rc w wr c x0 x ns v sp but) : c.cv.ownBlock ≠ some w.heap.size := own_ne_of_ty h.st.ps.ch h.nb (by decide)
/-- the part that is made turns -/
theorem Rc.put {w wr : World} {c : Cx} {x0 x : PV} {ns : List Nd} {v : Value} {sp : List Span} {but : Bool} (h : Rc w wr c x0 x ns v sp but) (b' : Bool) : Rc w (wr.setCell ⟨w.heap.size, 4, none⟩ (.bool b')) c x0 x ns v sp b' := by
  have g := grown_setCell wr w.heap.size 4 (.bool b')
  refine ⟨h.st.far g (fun q e => by cases e; exact ⟨Nat.le_refl _, fun e => by have := h.lt; omega, h.cvne, fun e => h.ne e.symm⟩), ?_, ?_, h.ne, h.lt, h.d⟩
  · rw [blk_set h.nb]; rfl
  · exact own_keep h.own fun q hq => Below.heap_setCell wr ⟨w.heap.size, 4, none⟩ _ q (fun e => by have e' : q = w.heap.size := e; have := (h.own.lt q hq).1; omega)
theorem Rc.appended {w wr w1 : World} {c : Cx} {x0 x : PV} {ns : List Nd} {v v' : Value} {sp more : List Span} {but : Bool} (h : Rc w wr c x0 x ns v sp but)
    (own : w1.ownsRow (w.heap.size + 1) 151 2 v' (sp.length + more.length) (spC sp ++ spC more)) (g : wr.grownBy w1 v.ownBlock) :
    w1.cell? ⟨w.heap.size, 3, none⟩ = some v ∧ w1.frozen? ⟨w.heap.size, 3, none⟩ = false ∧ Rc w (w1.setCell ⟨w.heap.size, 3, none⟩ v') c x0 x ns v' (sp ++ more) but := by
  have hlt := (Array.getElem?_eq_some_iff.1 h.nb).1
  have hne : some w.heap.size ≠ v.ownBlock := fun e => by have := (h.own.lt _ e.symm).1; omega
  have nb1 : w1.heap[w.heap.size]? = some (.cells (nbC v but) 142 (0, 0)) := (g.block _ hlt hne).trans h.nb
  have s1 : Step w w1 c x0 x ns ns := h.st.far g (fun q e => by
    have hq := (h.own.lt q e).1
    refine ⟨by omega, fun e2 => by have := h.lt; omega, fun e2 => own_own_ne h.st.ps.ch h.own (by decide) e2 e, fun e2 => own_own_ne h.st.ps.nd h.own (by decide) e2 e⟩)
  have cvne1 : c.cv.ownBlock ≠ some w.heap.size := own_ne_of_ty s1.ps.ch nb1 (by decide)
  have gs := grown_setCell w1 w.heap.size 3 v'
  refine ⟨blk_cell nb1 3, blk_free nb1 3, s1.far gs (fun q e => by cases e; exact ⟨Nat.le_refl _, fun e => by have := h.lt; omega, cvne1, fun e => h.ne e.symm⟩), ?_, ?_, h.ne, h.lt, h.d⟩
  · rw [blk_set nb1]; rfl
  · rw [List.length_append, spC_append]
    exact own_keep own fun q hq => Below.heap_setCell w1 ⟨w.heap.size, 3, none⟩ _ q (fun e => by have e' : q = w.heap.size := e; have := (own.lt q hq).1; omega)
theorem Rc.below {w wr w' : World} {c : Cx} {x0 x : PV} {ns : List Nd} {v : Value} {sp : List Span} {but : Bool} (h : Rc w wr c x0 x ns v sp but) (b : Below wr.heap.size wr w') : Rc w w' c x0 x ns v sp but :=
  h.step ((Step.refl h.st.ps).below b) rfl

theorem infoSpR : (Tryd.prog.info? 151).map (fun i => (i.zero, i.size, i.bytes)) = some (some (.agg #[.int .i32 0, .int .i32 0]), 2, 8) := by kernel_rfl
theorem hasS_append (a b : List Span) (y : Int) : hasS (a ++ b) y = (hasS a y || hasS b y) := by unfold hasS; rw [List.any_append]
theorem shortF_ne {c : Int} {s : List Span} (h : shortF c = some s) : s ≠ [] := by
  unfold shortF at h
  split at h
  · cases h; simp
  · split at h
    · cases h; simp
    · split at h
      · cases h; simp
      · cases h

/-- what a call that reads has come to: a part more, or a fault -/
def ClsR (w : World) (c : Cx) (x : PV) (ns : List Nd) (but : Bool) (res : Except Int (List Span × List Int)) (e : Ending) (w' : World) : Prop :=
  ∃ x' ns' idx, e = .returned (.int .i64 idx) ∧ Step w w' c x x' ns ns' ∧ x'.d = x.d ∧ match res with
  | .ok (acc, t) => x'.e = 0 ∧ lf c x' = t ∧ ∃ v sp, ns' = ns ++ [⟨0, 0, 0, v, but⟩] ∧ idx = ns.length ∧ Sp w' v sp ∧ ∀ y, hasS sp y = hasS acc y
  | .error er => x'.e = er ∧ er ≠ 0 ∧ ns' = ns
end Go.Proofs.YthlabaijaadocaaDoor
