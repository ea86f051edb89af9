import Derived.Test.YthlabaijaadocaaDoorXQm
import Derived.Test.YthlabaijaadocaaDoorXA6
import Derived.Test.YthlabaijaadocaaDoorXA5
/-! The reference's patterns. -/
namespace Go.Proofs.YthlabaijaadocaaDoor
open Go.RowKit Ut Rx Mt

def Ap (wr : World) (c : Cx) (x xr : PV) (ns more : List Nd) (iv : Int) (lz : Nat) (d gk : Nat) (res : Out) : Prop :=
  (xr.e = 0 → ∃ acc, parF gk (.alt acc) d (lf c xr) = some res ∧ xr.d = x.d ∧ (∃ i : Nat, iv = i ∧ Nr wr (ns ++ more) i acc) ∧ more.length + 4 * (lf c xr).length ≤ 4 * lz + 1) ∧ (xr.e ≠ 0 → res = .error xr.e ∧ more.length ≤ 4 * lz + 1)
theorem Ap.ok {wr : World} {c : Cx} {x xr : PV} {ns more : List Nd} {iv : Int} {lz d gk : Nat} {res : Out} {acc : Pat} {t : List Int} (he : xr.e = 0) (hl : lf c xr = t) (hp : parF gk (.alt acc) d t = some res) (hd : xr.d = x.d) (hi : ∃ i : Nat, iv = i ∧ Nr wr (ns ++ more) i acc) (hb : more.length + 4 * t.length ≤ 4 * lz + 1) : Ap wr c x xr ns more iv lz d gk res :=
  ⟨fun _ => ⟨acc, by rw [hl]; exact hp, hd, hi, by rw [hl]; exact hb⟩, fun hne => absurd he hne⟩

set_option maxRecDepth 100000 in
set_option maxHeartbeats 8000000 in
theorem rAlt_of (n : Nat) (ih : ∀ m, m ≤ n → BraOk m) : AltOk (n + 1) := by
  intro w c x ns l d res h hB hres
  obtain ⟨he, hl, hd, hd20, hnb⟩ := hB
  rw [parF] at hres
  cases hp : parF n (.bra .nil) d l with
  | none => rw [hp] at hres; cases hres
  | some r1 =>
    rw [hp] at hres
    have B0 := Lib.hid (ih n (Nat.le_refl _) w c x ns l d r1 h ⟨he, hl, hd, hd20, hnb⟩ hp)
    have RES := Lib.hid hres
    have H := Lib.hid h
    have HD := Lib.hid hd
    have IH := Lib.hid ih
    clear h he hl hd hres ih hp
    go_enter Tryd.func75, Tryd.ntmps75
    go_wp2_with fail
    refine B0.out.mono ?_
    rintro e w1 ⟨x1, mo1, i1, rfl, hs1, hr1⟩
    have S1 := Lib.hid hs1
    have A1 : Hid (Ap w1 c x x1 ns mo1 i1 l.length d n res) := by
      cases r1 with
      | error er =>
        obtain ⟨h1, h2, h3⟩ := hr1
        have hr : Except.error er = res := Option.some.inj RES.out
        exact ⟨fun he => absurd (h1.symm.trans he) h2, fun _ => ⟨by rw [← hr, h1], by omega⟩⟩
      | ok q =>
        obtain ⟨p, t⟩ := q
        obtain ⟨h1, h2, h3, h4, h5⟩ := hr1
        exact Ap.ok h1 h2 RES.out h3 h4 (by omega)
    clear hs1 B0 RES hr1
    go_wp2_with fail
    go_loopg [3] n (fun gk v3 wr => ∃ xr more iv, v3 = .int .i64 iv ∧ gk ≤ n ∧ Hid (Step w wr c x xr ns (ns ++ more)) ∧ Hid (Ap wr c x xr ns more iv l.length d gk res))
    case atStart => exact ⟨_, _, _, rfl, Nat.le_refl _, S1, A1⟩
    case round =>
      obtain ⟨xr, more, iv, rfl, hgn, HS, HB⟩ := hrel
      clear S1 A1
      by_cases h0 : xr.e = 0
      · obtain ⟨acc, hpar, hxd, ⟨i, rfl, hrep⟩, hmo⟩ := HB.out.1 h0
        obtain ⟨l', hl'⟩ : ∃ l', lf c xr = l' := ⟨_, rfl⟩
        rw [hl'] at hpar hmo
        have NW := Lib.hid (now_at HS.out.ps h0 hl')
        have HL' := Lib.hid hl'
        have H0 := Lib.hid h0
        have HXD := Lib.hid hxd
        have HREP := Lib.hid hrep
        have HPAR := Lib.hid hpar
        cases gk with
        | zero => rw [parF] at hpar; cases hpar
        | succ m =>
          clear hpar hxd hrep hl' h0 HB
          have hnp : (nwF l' == 124) = (pk l' == 124) := by cases l' <;> rfl
          by_cases hgo : (pk l' == 124) = true
          · obtain ⟨t, rfl⟩ : ∃ t, l' = 124 :: t := by
              cases l' with
              | nil => cases hgo
              | cons a t => exact ⟨t, by have : a = 124 := (by simpa [pk] using hgo); rw [this]⟩
            have HTH : Hid (thenF (parF m (.bra .nil) d t) (fun p l => parF m (.alt (.alt acc p)) d l) = some res) := by
              have := HPAR.out
              rw [parF, if_pos hgo] at this
              exact this
            rw [show nwF (124 :: t) = 124 from rfl] at NW
            have hk := (lf_cons HL'.out).1
            have hf := HS.out.ps.few
            have hi : (xr.i : Int) ≤ 256 := by omega
            simp only [List.length_cons] at hmo
            clear HPAR hgo hnp
            cases hp : parF m (.bra .nil) d t with
            | none => have := HTH.out; rw [hp] at this; cases this
            | some r2 =>
              have hth := HTH.out
              rw [hp] at hth
              have RH := Lib.hid hth
              have HP := Lib.hid hp
              clear hth HTH hp
              go_wp2_with fail
              refine NW.out.mono ?_
              rintro e w2 ⟨rfl, hb2⟩
              have S2 := Lib.hid (HS.out.below hb2)
              have R2 := Lib.hid (HREP.out.kept hb2)
              have pc := S2.out.ps.cells
              have d1 := pc.c1
              have df := pc.f
              have S3 := Lib.hid (S2.out.skip (Nat.le_of_lt hk))
              have S3' := Lib.hid ((Step.refl S2.out.ps).skip (Nat.le_of_lt hk))
              have L3 := Lib.hid (lf_nx HL'.out)
              have BR := Lib.hid (IH.out m (by omega) _ c (nx xr) (ns ++ more) t d r2 S3.out.ps ⟨H0.out, L3.out, HXD.out.trans HD.out, hd20, by rw [List.length_append]; omega⟩ HP.out)
              clear hb2 pc NW HREP
              go_wp2_with fail
              refine BR.out.mono ?_
              rintro e w5 ⟨x5, mo5, idx, rfl, hs5, hres5⟩
              have S5 := Lib.hid (S3.out.trans hs5)
              have S5' := Lib.hid (S3'.out.trans hs5)
              have RA5 := Lib.hid (Nr.step mo5 S5'.out S2.out.ps R2.out)
              rw [List.append_assoc] at S5 RA5
              clear hs5 BR R2
              cases r2 with
              | error er =>
                obtain ⟨h1, h2, h3⟩ := hres5
                have E : Hid (res = .error er) := (Option.some.inj RH.out).symm
                have H1 := Lib.hid h1
                have H2 := Lib.hid h2
                clear h1 h2
                go_wp2_with fail
                refine (add_any _ c x5 (ns ++ (more ++ mo5)) ⟨2, i, idx, .slice none 0 0, false⟩ S5.out.ps rfl (by rw [List.length_append, List.length_append]; omega)).mono ?_
                rintro e w7 ⟨he7, L7, hs7⟩
                obtain ⟨k7, hk7⟩ : ∃ k, (ns ++ (more ++ mo5)).length = k := ⟨_, rfl⟩
                rw [hk7] at he7
                subst he7
                have S7 := Lib.hid (S5.out.trans hs7)
                rw [app3] at S7
                have B7 : Hid (Ap w7 c x { x5 with L := L7 } ns (more ++ mo5 ++ [⟨2, i, idx, .slice none 0 0, false⟩]) (k7 : Int) l.length d m res) :=
                  ⟨fun he => absurd (H1.out.symm.trans he) H2.out, fun _ => ⟨by rw [E.out]; show _ = Except.error x5.e; rw [H1.out], by simp only [List.length_append, List.length_cons, List.length_nil]; omega⟩⟩
                clear hs7 hk7
                go_wp2_with fail
                go_roundg m
                case measure => omega
                case rel => exact ⟨_, _, (k7 : Int), rfl, by omega, S7, B7⟩
              | ok q =>
                obtain ⟨p, t5⟩ := q
                obtain ⟨h1, h2, h3, ⟨i5, rfl, h4⟩, h5⟩ := hres5
                have H1 := Lib.hid h1
                have H2 := Lib.hid h2
                have H3 := Lib.hid (h3.trans HXD.out)
                have RP5 := Lib.hid h4
                rw [List.append_assoc] at RP5
                have RH2 : Hid (parF m (.alt (.alt acc p)) d t5 = some res) := RH.out
                clear h1 h2 h3 h4 RH
                go_wp2_with fail
                refine (add_any _ c x5 (ns ++ (more ++ mo5)) ⟨2, i, i5, .slice none 0 0, false⟩ S5.out.ps rfl (by rw [List.length_append, List.length_append]; omega)).mono ?_
                rintro e w7 ⟨he7, L7, hs7⟩
                obtain ⟨k7, hk7⟩ : ∃ k, (ns ++ (more ++ mo5)).length = k := ⟨_, rfl⟩
                rw [hk7] at he7
                subst he7
                have S7 := Lib.hid (S5.out.trans hs7)
                rw [app3] at S7
                have R1 := Nr.step _ hs7 S5.out.ps RA5.out
                have R3 := Nr.step _ hs7 S5.out.ps RP5.out
                have REP7 : Nr w7 (ns ++ (more ++ mo5) ++ [⟨2, i, i5, .slice none 0 0, false⟩]) k7 (.alt acc p) := .alt _ i i5 ⟨2, i, i5, .slice none 0 0, false⟩ _ _ (by rw [← hk7]; simp) rfl rfl rfl rfl R1 R3
                have B7 : Hid (Ap w7 c x { x5 with L := L7 } ns (more ++ mo5 ++ [⟨2, i, i5, .slice none 0 0, false⟩]) (k7 : Int) l.length d m res) := by
                  refine Ap.ok H1.out H2.out RH2.out H3.out ⟨_, rfl, ?_⟩ ?_
                  · rw [app3] at REP7; exact REP7
                  · simp only [List.length_append, List.length_cons, List.length_nil]
                    omega
                clear hs7 R1 R3 REP7 hk7
                go_wp2_with fail
                go_roundg m
                case measure => omega
                case rel => exact ⟨_, _, (k7 : Int), rfl, by omega, S7, B7⟩
          · have E : Hid (res = .ok (acc, l')) := by
              have := HPAR.out
              rw [parF, if_neg hgo] at this
              exact (Option.some.inj this).symm
            have hgo2 : (pk l' == 124) = false := by simpa using hgo
            rw [hgo2] at hnp
            generalize nwF l' = nw at *
            clear HPAR hgo hgo2
            go_wp2_with fail
            refine NW.out.mono ?_
            rintro e w2 ⟨rfl, hb2⟩
            go_wp2_with fail
            go_ret
            rw [E.out]
            exact ⟨xr, more, _, rfl, HS.out.below hb2, H0.out, HL'.out, HXD.out, ⟨i, rfl, HREP.out.kept hb2⟩, by omega⟩
      · obtain ⟨hr, hmo⟩ := HB.out.2 h0
        have NE := Lib.hid (now_err HS.out.ps h0)
        have E := Lib.hid hr
        have H0 := Lib.hid h0
        clear hr h0 HB
        go_wp2_with fail
        refine NE.out.mono ?_
        rintro e w2 ⟨rfl, hb2⟩
        go_wp2_with fail
        go_ret
        rw [E.out]
        exact ⟨xr, more, _, rfl, HS.out.below hb2, rfl, H0.out, by omega⟩

/-- all of them -/
theorem rAll : ∀ n, n ≤ 80000 → (∀ m, m ≤ n → AtomOk m) ∧ (∀ m, m ≤ n → BraOk m) ∧ (∀ m, m ≤ n → AltOk m)
  | 0, _ => by
    have a0 : AtomOk 0 := fun w c x ns l d res _ _ _ h => by rw [parF] at h; cases h
    have l0 : AltOk 0 := fun w c x ns l d res _ _ h => by rw [parF] at h; cases h
    refine ⟨fun m hm => ?_, fun m hm => ?_, fun m hm => ?_⟩
    · obtain rfl : m = 0 := by omega
      exact a0
    · obtain rfl : m = 0 := by omega
      exact rBranch_of 0 fun k hk => by omega
    · obtain rfl : m = 0 := by omega
      exact l0
  | n + 1, hn => by
    obtain ⟨i1, i2, i3⟩ := rAll n (by omega)
    have b1 : ∀ m, m ≤ n + 1 → BraOk m := fun m hm => rBranch_of m fun k hk => i1 k (by omega)
    refine ⟨fun m hm => ?_, b1, fun m hm => ?_⟩
    · by_cases e : m ≤ n
      · exact i1 m e
      · obtain rfl : m = n + 1 := by omega
        exact rAtom_of n (by omega) (i3 n (Nat.le_refl _))
    · by_cases e : m ≤ n
      · exact i3 m e
      · obtain rfl : m = n + 1 := by omega
        exact rAlt_of n fun k hk => i2 k hk
end Go.Proofs.YthlabaijaadocaaDoor

/-! A form of letters and digits alone is the text itself, plainly. No program in sight. -/
namespace Go.Proofs.YthlabaijaadocaaDoor
namespace Mt
open Ut Rx Go.Lib

def alnB (c : Int) : Bool := (decide (c ≥ 97) && decide (c ≤ 122)) || (decide (c ≥ 65) && decide (c ≤ 90)) || (decide (c ≥ 48) && decide (c ≤ 57))
theorem alnB_iff (c : Int) : alnB c = true ↔ (97 ≤ c ∧ c ≤ 122) ∨ (65 ≤ c ∧ c ≤ 90) ∨ (48 ≤ c ∧ c ≤ 57) := by
  unfold alnB
  simp only [Bool.or_eq_true, Bool.and_eq_true, decide_eq_true_eq]
  omega

/-! ### the runes of a text of small bytes -/
theorem rn_ascii : ∀ (l : List UInt8), (∀ b ∈ l, b.toNat < 128) → rn l = l.map fun b => (b.toNat : Int)
  | [], _ => rfl
  | b :: t, h => by
    have hb := h b (by simp)
    rw [rn_step _ (by simp), decodeL_ascii b t hb]
    simp only [List.drop_succ_cons, List.drop_zero, List.map_cons]
    rw [rn_ascii t fun x hx => h x (List.mem_cons_of_mem _ hx)]
theorem decode_small {l : List UInt8} (hne : l ≠ []) (h : (decodeL l).1 < 128) : ∃ b t, l = b :: t ∧ b.toNat < 128 := by
  cases l with
  | nil => exact absurd rfl hne
  | cons b t =>
    refine ⟨b, t, rfl, ?_⟩
    rw [decodeL_N] at h
    simp only [List.getD_cons_zero] at h
    have hb := b.toNat_lt
    generalize b.toNat = x0 at *
    generalize (b :: t).length = n at *
    generalize ((b :: t).getD 1 0).toNat = x1 at *
    generalize ((b :: t).getD 2 0).toNat = x2 at *
    generalize ((b :: t).getD 3 0).toNat = x3 at *
    unfold decodeN at h
    (repeat' split at h) <;> simp at * <;> omega
theorem rn_small : ∀ (n : Nat) (l : List UInt8), l.length ≤ n → (∀ c ∈ rn l, c < 128) → ∀ b ∈ l, b.toNat < 128
  | 0, l, hn, _ => by
    obtain rfl := List.eq_nil_of_length_eq_zero (Nat.le_zero.1 hn)
    intro b hb; cases hb
  | n + 1, l, hn, h => by
    by_cases hne : l = []
    · subst hne; intro b hb; cases hb
    · rw [rn_step l hne] at h
      obtain ⟨b, t, rfl, hb⟩ := decode_small hne (by have := h _ (List.mem_cons_self ..); omega)
      rw [decodeL_ascii b t hb] at h
      intro x hx
      rcases List.mem_cons.1 hx with rfl | hx
      · exact hb
      · exact rn_small n t (by simpa using hn) (fun c hc => h c (List.mem_cons_of_mem _ (by simpa using hc))) x hx
theorem rn_inj {a b : List UInt8} (hb : ∀ x ∈ b, x.toNat < 128) (h : rn a = rn b) : a = b := by
  have e := rn_ascii b hb
  have ha : ∀ x ∈ a, x.toNat < 128 := rn_small _ a (Nat.le_refl _) (by
    rw [h, e]
    intro c hc
    obtain ⟨x, hx, rfl⟩ := List.mem_map.1 hc
    have := hb x hx
    omega)
  rw [rn_ascii a ha, e] at h
  have : ∀ (a b : List UInt8), a.map (fun b => (b.toNat : Int)) = b.map (fun b => (b.toNat : Int)) → a = b := by
    intro a
    induction a with
    | nil => intro b h; cases b with | nil => rfl | cons _ _ => cases h
    | cons x t ih =>
      intro b h
      cases b with
      | nil => cases h
      | cons y u =>
        simp only [List.map_cons, List.cons.injEq] at h
        rw [ih u h.2]
        congr 1
        exact UInt8.toNat_inj.1 (by omega)
  exact this a b h

/-! ### how such a pattern is read -/
def catL (acc : Pat) : List Int → Pat
  | [] => acc
  | c :: t => catL (.cat acc (.one [(c, c)] false)) t
theorem aln_spec {c : Int} (h : alnB c = true) : specB c = false ∧ signB c = false ∧ (c == 40) = false ∧ (c == 91) = false ∧ (c == 46) = false ∧ (c == 92) = false ∧ (c == 124) = false ∧ (c == 41) = false ∧ decide (c ≥ 0) = true := by
  rw [alnB_iff] at h
  refine ⟨?_, ?_, ?_, ?_, ?_, ?_, ?_, ?_, ?_⟩
  · unfold specB
    rw [← Bool.not_eq_true, List.contains_iff_mem]
    intro hm
    simp only [List.mem_cons, List.not_mem_nil, or_false] at hm
    omega
  · unfold signB
    simp only [Bool.or_eq_false_iff, beq_eq_false_iff_ne, ne_eq]
    omega
  all_goals first
    | (simp only [beq_eq_false_iff_ne, ne_eq]; omega)
    | (rw [decide_eq_true_eq]; omega)
theorem sign_head {t : List Int} (h : ∀ c ∈ t, alnB c = true) : signB (pk t) = false := by
  cases t with
  | nil => rfl
  | cons c u => exact (aln_spec (h c (by simp))).2.1
theorem bra_aln : ∀ (n : Nat) (l : List Int) (acc : Pat) (d : Nat), 2 * l.length + 1 ≤ n → (∀ c ∈ l, alnB c = true) → parF n (.bra acc) d l = some (.ok (catL acc l, []))
  | 0, l, acc, d, hn, _ => by omega
  | n + 1, [], acc, d, hn, _ => by
    rw [parF]
    rw [if_neg (by decide)]
    rfl
  | n + 1, c :: t, acc, d, hn, h => by
    obtain ⟨h1, h2, h3, h4, h5, h6, h7, h8, h9⟩ := aln_spec (h c (by simp))
    have ht : ∀ c ∈ t, alnB c = true := fun x hx => h x (List.mem_cons_of_mem _ hx)
    have hp : pk (c :: t) = c := rfl
    obtain ⟨m, rfl⟩ : ∃ m, n = m + 1 := ⟨n - 1, by simp at hn; omega⟩
    rw [parF]
    rw [if_pos (by rw [hp, h9]; unfold bne; rw [h7, h8]; rfl)]
    rw [parF, hp, h3, h4, h5, h6, h1]
    simp only [thenF, Bool.false_eq_true, if_false]
    rw [if_neg (by rw [show (c :: t).tail = t from rfl, sign_head ht]; simp)]
    exact bra_aln (m + 1) t _ d (by simp at hn; omega) ht
theorem rex_aln {l : List Int} (h : ∀ c ∈ l, alnB c = true) : rexF l = .ok (catL .nil l) := by
  unfold rexF
  have e : parF (3 * l.length + 4) .pat 0 l = some (.ok (catL .nil l, [])) := by
    rw [parF, bra_aln _ l .nil 0 (by omega) h]
    simp only [thenF]
    rw [parF, if_neg (by decide)]
  rw [e]

/-! ### what it matches -/
def endB (s : List Int) : List Int → Nat → Bool
  | [], j => decide (j = 0)
  | c :: r, j => match j with | 0 => false | j + 1 => endB s r j && decide (s[j]? = some c)
theorem one_get (s : List Int) (c : Int) (v : List Bool) (hv : v.length = s.length + 1) (j : Nat) (hj : j ≤ s.length) :
    (oneF [(c, c)] false s v).getD j false = match j with | 0 => false | j + 1 => v.getD j false && decide (s[j]? = some c) := by
  cases j with
  | zero => rfl
  | succ j =>
    unfold oneF
    simp only [List.getD_cons_succ]
    rw [List.getD_eq_getElem?_getD, List.getElem?_zipWith, List.getElem?_eq_getElem (show j < s.length by omega), List.getElem?_eq_getElem (show j < v.length by omega)]
    simp only [Option.getD_some]
    rw [List.getD_eq_getElem?_getD, List.getElem?_eq_getElem (show j < v.length by omega), Option.getD_some]
    congr 1
    unfold hasS
    simp only [List.any_cons, List.any_nil, Bool.or_false]
    by_cases e : s[j] = c
    · subst e; simp
    · simp only [Option.some.injEq, e, decide_false]
      have : ¬ (s[j] ≥ c ∧ s[j] ≤ c) := by omega
      rw [← Bool.decide_and, decide_eq_false this]
      rfl
theorem one_len (s : List Int) (c : Int) (v : List Bool) (hv : v.length = s.length + 1) : (oneF [(c, c)] false s v).length = s.length + 1 := by
  unfold oneF; simp; omega
theorem catL_snoc : ∀ (l : List Int) (acc : Pat) (c : Int), catL acc (l ++ [c]) = .cat (catL acc l) (.one [(c, c)] false)
  | [], _, _ => rfl
  | x :: t, acc, c => by simp only [List.cons_append, catL]; exact catL_snoc t _ c
theorem start_get (n j : Nat) : (true :: List.replicate n false).getD j false = decide (j = 0) := by
  cases j with
  | zero => rfl
  | succ j =>
    simp only [List.getD_cons_succ, Nat.succ_ne_zero, decide_false]
    rw [List.getD_eq_getElem?_getD, List.getElem?_replicate]
    split <;> rfl
theorem den_catL (s : List Int) : ∀ (r : List Int), (den (catL .nil r.reverse) s (true :: List.replicate s.length false)).length = s.length + 1 ∧
    ∀ j, j ≤ s.length → (den (catL .nil r.reverse) s (true :: List.replicate s.length false)).getD j false = endB s r j
  | [] => ⟨by simp [catL, den], fun j _ => start_get _ _⟩
  | c :: r => by
    obtain ⟨h1, h2⟩ := den_catL s r
    rw [List.reverse_cons, catL_snoc]
    simp only [den]
    refine ⟨one_len s c _ h1, fun j hj => ?_⟩
    rw [one_get s c _ h1 j hj]
    cases j with
    | zero => rfl
    | succ j => simp only [endB]; rw [h2 j (by omega)]
theorem endB_iff (s : List Int) : ∀ (r : List Int) (j : Nat), j ≤ s.length → (endB s r j = true ↔ (s.take j).reverse = r)
  | [], j, hj => by
    simp only [endB, decide_eq_true_eq, List.reverse_eq_nil_iff, List.take_eq_nil_iff]
    constructor
    · exact Or.inl
    · rintro (h | h)
      · exact h
      · subst h; simpa using hj
  | c :: r, 0, hj => by simp [endB]
  | c :: r, j + 1, hj => by
    simp only [endB, Bool.and_eq_true, decide_eq_true_eq]
    rw [endB_iff s r j (by omega), List.take_succ_eq_append_getElem (by omega), List.reverse_append, List.getElem?_eq_getElem (by omega)]
    simp only [List.reverse_cons, List.reverse_nil, List.nil_append, List.singleton_append, List.cons.injEq, Option.some.injEq]
    exact And.comm
theorem full_aln (l s : List Int) : fullB (catL .nil l) s = decide (s = l) := by
  have h := (den_catL s l.reverse).2 s.length (Nat.le_refl _)
  rw [List.reverse_reverse] at h
  unfold fullB
  rw [h, Bool.eq_iff_iff, endB_iff s _ _ (Nat.le_refl _), decide_eq_true_eq, List.take_length]
  constructor
  · intro e; simpa using congrArg List.reverse e
  · intro e; rw [e]

theorem plain_check {n t : ByteArray} (h : ∀ b ∈ by_ t, alnB b.toNat = true) : checkF ⟨3, n, t⟩ = checkF ⟨1, n, t⟩ := by
  have ha : ∀ b ∈ by_ t, b.toNat < 128 := fun b hb => by
    have := (alnB_iff _).1 (h b hb)
    omega
  have hr : rexF (rn (by_ t)) = .ok (catL .nil (rn (by_ t))) := rex_aln (by
    rw [rn_ascii _ ha]
    intro c hc
    obtain ⟨b, hb, rfl⟩ := List.mem_map.1 hc
    exact h b hb)
  unfold checkF
  simp only [hr, errF]
  simp
theorem plain_one {n t : ByteArray} (v : ByteArray) (h : ∀ b ∈ by_ t, alnB b.toNat = true) : oneB ⟨3, n, t⟩ v = oneB ⟨1, n, t⟩ v := by
  have ha : ∀ b ∈ by_ t, b.toNat < 128 := fun b hb => by
    have := (alnB_iff _).1 (h b hb)
    omega
  have hr : rexF (rn (by_ t)) = .ok (catL .nil (rn (by_ t))) := rex_aln (by
    rw [rn_ascii _ ha]
    intro c hc
    obtain ⟨b, hb, rfl⟩ := List.mem_map.1 hc
    exact h b hb)
  unfold oneB
  rw [plain_check h]
  congr 1
  show matchB (rexF (rn (by_ t))) (rn (by_ v)) = (by_ v == by_ t)
  rw [hr]
  unfold matchB
  simp only
  rw [full_aln, Bool.eq_iff_iff, decide_eq_true_eq, beq_iff_eq]
  exact ⟨fun e => rn_inj ha e, fun e => by rw [e]⟩
end Mt
end Go.Proofs.YthlabaijaadocaaDoor

/-! The reference's runes of a text, where they stand. -/
namespace Go.Proofs.YthlabaijaadocaaDoor
open Go.RowKit Ut Rx Mt Go.Lib

theorem infoCh : (Tryd.prog.info? 138).map (fun i => (i.zero, i.size, i.bytes)) = some (some (.agg #[.int .i32 0, .int .i64 0]), 2, 16) := by kernel_rfl
theorem chC_append (a b : List (Int × Int)) : chC (a ++ b) = chC a ++ chC b := by unfold chC; exact List.flatMap_append
theorem fffd_bytes {s : ByteArray} {p : Nat} (hp : p < s.size) (hv : validD ((by_ s).drop p) = true) (hc : (Utf8.decode s p).1 = 65533) : p + 3 ≤ s.size ∧ (s.extract p (p + 3)).toList = [239, 191, 189] := by
  have hne : (by_ s).drop p ≠ [] := fun e => by
    have := congrArg List.length e
    rw [List.length_drop, tl_len] at this
    simp at this; omega
  rw [validD_step _ hne] at hv
  have hd : decodeL ((by_ s).drop p) = Utf8.decode s p := decodeL_drop s p
  have hbad : ¬ ((decodeL ((by_ s).drop p)).1 = 65533 ∧ (decodeL ((by_ s).drop p)).2 = 1) := fun e => by rw [if_pos e] at hv; cases hv
  rw [hd] at hbad
  have hw : ¬ (Utf8.decode s p).2 = 1 := fun e => hbad ⟨hc, e⟩
  rw [decodeL_N, List.length_drop, tl_len] at hd
  have b := fun j => bt_drop (by_ s) p j
  unfold bt at b
  rw [b 0, b 1, b 2, b 3] at hd
  rw [← hd] at hc hw
  have q0 := ((by_ s).getD (p + 0) 0).toNat_lt
  have q1 := ((by_ s).getD (p + 1) 0).toNat_lt
  have q2 := ((by_ s).getD (p + 2) 0).toNat_lt
  have key : ∀ (n b0 b1 b2 b3 : Nat), b0 < 256 → b1 < 256 → b2 < 256 → (decodeN n b0 b1 b2 b3).1 = 65533 → ¬ (decodeN n b0 b1 b2 b3).2 = 1 → 3 ≤ n ∧ b0 = 239 ∧ b1 = 191 ∧ b2 = 189 := by
    intro n b0 b1 b2 b3 h0 h1 h2 e1 e2
    unfold decodeN at e1 e2
    split at e1
    · simp at e1; omega
    · rename_i g1
      rw [if_neg g1] at e2
      split at e1
      · rename_i g2
        rw [if_pos g2] at e2
        split at e1
        · simp at e1; omega
        · rename_i g3; rw [if_neg g3] at e2; simp at e2
      · rename_i g2
        rw [if_neg g2] at e2
        split at e1
        · rename_i g3
          rw [if_pos g3] at e2
          split at e1
          · simp at e1; omega
          · rename_i g4; rw [if_neg g4] at e2; simp at e2
        · rename_i g3
          rw [if_neg g3] at e2
          split at e1
          · rename_i g4
            rw [if_pos g4] at e2
            split at e1
            · simp at e1; omega
            · rename_i g5; rw [if_neg g5] at e2; simp at e2
          · rename_i g4; rw [if_neg g4] at e2; simp at e2
  obtain ⟨k1, k2, k3, k4⟩ := key _ _ _ _ _ (by omega) (by omega) (by omega) hc hw
  refine ⟨by omega, ?_⟩
  rw [tl_eq]
  have e1 : by_ (s.extract p (p + 3)) = ((by_ s).drop p).take 3 := by
    show (s.extract p (p + 3)).data.toList = _
    simp [List.take_drop]
  show by_ _ = _
  rw [e1]
  have g0 : p < (by_ s).length := by rw [tl_len]; omega
  have g1 : p + 1 < (by_ s).length := by rw [tl_len]; omega
  have g2 : p + 2 < (by_ s).length := by rw [tl_len]; omega
  rw [List.drop_eq_getElem_cons g0, List.drop_eq_getElem_cons g1, List.drop_eq_getElem_cons g2]
  have u : ∀ (i : Nat) (h : i < (by_ s).length) (n : Nat), ((by_ s).getD i 0).toNat = n → n < 256 → (by_ s)[i]'h = UInt8.ofNat n := fun i h n hn hl => by
    rw [List.getD_eq_getElem?_getD, List.getElem?_eq_getElem h, Option.getD_some] at hn
    rw [← hn]; simp
  rw [u p g0 239 k2 (by decide), u (p + 1) g1 191 k3 (by decide), u (p + 2) g2 189 k4 (by decide)]
  rfl

def ChP (w : World) (s : ByteArray) (e : Ending) (w' : World) : Prop := ∃ v cs, e = .returned v ∧ w'.ownsRow w.heap.size 138 2 v cs.length (chC cs) ∧ cs.map (·.1) = rn (by_ s) ∧ cs.length ≤ s.size ∧ Below w.heap.size w w'
set_option maxRecDepth 100000 in
set_option maxHeartbeats 4000000 in
theorem chars_any (s : ByteArray) (w : World) (hs : s.size ≤ 256) (hv : validD (by_ s) = true) : Calls Tryd.prog 74 #[.string s] w (ChP w s) := by
  obtain ⟨i0, hi, hz0, hz1, hz2⟩ := info_parts infoCh
  have I0 : Hid (i0.zero = some (.agg #[.int .i32 0, .int .i64 0]) ∧ i0.size = 2 ∧ i0.bytes = 16 ∧ Tryd.prog.info? 138 = some i0) := ⟨hz0, hz1, hz2, hi⟩
  have V0 := Lib.hid hv
  clear hz0 hz1 hz2 hi hv
  go_enter Tryd.func74, Tryd.ntmps74
  go_wp2_with fail
  go_loopg [3] s.size (fun gk v wr => ∃ (pos : Nat) (acc : List (Int × Int)), pos ≤ s.size ∧ s.size - pos ≤ gk ∧ acc.length ≤ pos ∧ Hid (acc.map (·.1) ++ rn ((by_ s).drop pos) = rn (by_ s)) ∧ Hid (validD ((by_ s).drop pos) = true) ∧ Hid (wr.heap[w.heap.size]? = some (.stringIter s pos)) ∧ Hid (wr.ownsRow (w.heap.size + 1) 138 2 v acc.length (chC acc)) ∧ Hid (Below w.heap.size w wr))
  case atStart =>
    exact ⟨0, [], Nat.zero_le _, by omega, Nat.le_refl _, by show _ = _; simp, V0.out, World.iter_heap _ _ _, World.ownsRow_nil _ _ _ _, (Below.refl _ _).alloc (Nat.le_refl _) _⟩
  case round =>
    obtain ⟨pos, acc, hps, hgk, hal, HR, HV, HI, HO, HB⟩ := hrel
    clear V0
    by_cases hp : pos < s.size
    · have hnx : ∀ ty, (Instr.next (.pointer (some ⟨w.heap.size, 0, none⟩)) true ty).run Tryd.prog wr = _ := fun ty => Go.Lib.run_next_any_at wr w.heap.size s pos ty HI.out hp
      have hw := Lib.decode_width_pos s pos hp
      have hne : (by_ s).drop pos ≠ [] := fun e => by
        have := congrArg List.length e
        rw [List.length_drop, tl_len] at this; simp at this; omega
      have hfit : (Utf8.decode s pos).2 ≤ s.size - pos := by
        have := Lib.decodeL_le _ hne
        rw [Lib.decodeL_drop, List.length_drop, tl_len] at this
        exact this
      have RT := Lib.hid (rn_take s pos hp)
      have hvn := HV.out
      rw [validD_step _ hne, Lib.decodeL_drop] at hvn
      have hvn2 : validD ((by_ s).drop (pos + (Utf8.decode s pos).2)) = true := by
        split at hvn
        · cases hvn
        · rw [List.drop_drop] at hvn; exact hvn
      have HV2 := Lib.hid hvn2
      have HF := Lib.hid (fun h => fffd_bytes hp HV.out h)
      clear hvn hvn2 hne
      generalize (Utf8.decode s pos).1 = c at hnx RT HF
      generalize (Utf8.decode s pos).2 = wd at hnx RT hw hfit HV2
      have HI2 := Lib.hid (Go.Lib.iterAt_heap wr w.heap.size s pos (pos + wd) HI.out)
      have HO2 := Lib.hid (ownsRow_iterAt HO.out (Nat.lt_succ_self w.heap.size) s (pos + wd))
      have HB2 := Lib.hid (Go.Lib.below_iterAt HB.out (Nat.le_refl _) s (pos + wd))
      have hz : w.heap.size + 1 ≤ (wr.iterAt w.heap.size s (pos + wd)).heap.size := by rw [Go.Lib.iterAt_size]; exact (Array.getElem?_eq_some_iff.1 HI.out).1
      generalize wr.iterAt w.heap.size s (pos + wd) = wi at *
      have N1 : Hid (∀ j u, [Value.int .i32 (c : Int), .int .i64 (pos : Int)][j]? = some u → (wi.alloc (.cells #[.int .i32 (c : Int), .int .i64 (pos : Int)] 138)).cell? ((⟨wi.heap.size, 0, none⟩ : Addr).add j) = some u) := fun j u hu => by
        match j, hu with
        | 0, hu => have e : u = .int .i32 (c : Int) := by simpa using hu.symm
                   subst e; exact World.cell?_alloc_at _ _ _ _ rfl
        | 1, hu => have e : u = .int .i64 (pos : Int) := by simpa using hu.symm
                   subst e; exact World.cell?_alloc_at _ _ _ _ rfl
        | j + 2, hu => simp at hu
      have N2 : Hid (∀ u ∈ [Value.int .i32 (c : Int), .int .i64 (pos : Int)], u.oneCell' = true) := fun u hu => by
        simp only [List.mem_cons, List.not_mem_nil, or_false] at hu
        rcases hu with rfl | rfl <;> rfl
      have hposI : (0 : Int) ≤ pos := by omega
      have hposJ : (pos : Int) < s.size := by omega
      have hsI : (s.size : Int) ≤ 256 := by omega
      clear HO HB HV
      have hcs : ((c : Int) == 65533) = false ∨ (c = 65533) := by
        by_cases e : c = 65533
        · exact Or.inr e
        · left; rw [beq_eq_false_iff_ne]; omega
      rcases hcs with hc | hc
      · go_wp2_with (at_builtin; refine wpList_append_own _ rfl (.tmp 29) (.tmp 33) 113 rfl (w.heap.size + 1) 138 i0 (.agg #[.int .i32 0, .int .i64 0]) 2 16 Tryd.underlying113 I0.out.2.2.2 I0.out.1 I0.out.2.1 I0.out.2.2.1 rfl (by decide) _ acc.length _ rfl (HO2.out.alloc _) _ 1 1 [.int .i32 (c : Int), .int .i64 (pos : Int)] rfl rfl N1.out N2.out (by unfold maxLen; omega) (by omega) (by simp; omega) ?_)
        intro v' w5 own5 grow5 _
        obtain ⟨A5, n5, c5, rfl⟩ := ownsRow_is own5
        have HB3 : Hid (Below (w.heap.size + 1) wi w5) := by
          have b : Below (w.heap.size + 1) wi (wi.alloc (.cells #[.int .i32 (c : Int), .int .i64 (pos : Int)] 138)) := (Below.refl _ _).alloc hz _
          refine ⟨grow5.os.trans b.os, grow5.tape.trans b.tape, grow5.output.trans b.output, Nat.le_trans b.size grow5.size, fun k hk => (grow5.block k (by simp; omega) (fun e => ?_)).trans (b.block k hk)⟩
          have := (HO2.out.lt k e.symm).1; omega
        have OW := Lib.hid own5
        clear own5 grow5 N1 N2 HO2
        go_wp2_with fail
        go_roundg (gk - 1)
        case measure => omega
        case rel =>
          refine ⟨pos + wd, acc ++ [((c : Int), (pos : Int))], by omega, by omega, by rw [List.length_append]; simp only [List.length_cons, List.length_nil]; omega, ?_, HV2, (HB3.out.block _ (Nat.lt_succ_self _)).trans HI2.out, ?_, HB2.out.trans (HB3.out.mono (Nat.le_succ _))⟩
          · show _ = _
            rw [← HR.out, show rn ((by_ s).drop pos) = _ from RT.out]; simp
          · show World.ownsRow _ _ _ _ _ _ _
            rw [List.length_append, chC_append]; exact OW.out
      · subst hc
        obtain ⟨f1, f2⟩ := HF.out rfl
        have e3 : ((pos : Int) + 3).toNat = pos + 3 := by omega
        have g1 : (pos : Int) + 3 ≤ s.size := by omega
        have g2 : ¬ (s.size : Int) - pos < 3 := by omega
        have g3 : (pos : Int) ≤ (pos : Int) + 3 := by omega
        have hne : ((s.extract pos (pos + 3)).toList != [239, 191, 189]) = false := by rw [f2]; rfl
        have hne2 : ((s.extract pos (pos + 3)).toList == [239, 191, 189]) = true := by rw [f2]; rfl
        clear f1 f2
        go_wp2_with (at_builtin; refine wpList_append_own _ rfl (.tmp 29) (.tmp 33) 113 rfl (w.heap.size + 1) 138 i0 (.agg #[.int .i32 0, .int .i64 0]) 2 16 Tryd.underlying113 I0.out.2.2.2 I0.out.1 I0.out.2.1 I0.out.2.2.1 rfl (by decide) _ acc.length _ rfl (HO2.out.alloc _) _ 1 1 [.int .i32 65533, .int .i64 (pos : Int)] rfl rfl N1.out N2.out (by unfold maxLen; omega) (by omega) (by simp; omega) ?_)
        intro v' w5 own5 grow5 _
        obtain ⟨A5, n5, c5, rfl⟩ := ownsRow_is own5
        have HB3 : Hid (Below (w.heap.size + 1) wi w5) := by
          have b : Below (w.heap.size + 1) wi (wi.alloc (.cells #[.int .i32 65533, .int .i64 (pos : Int)] 138)) := (Below.refl _ _).alloc hz _
          refine ⟨grow5.os.trans b.os, grow5.tape.trans b.tape, grow5.output.trans b.output, Nat.le_trans b.size grow5.size, fun k hk => (grow5.block k (by simp; omega) (fun e => ?_)).trans (b.block k hk)⟩
          have := (HO2.out.lt k e.symm).1; omega
        have OW := Lib.hid own5
        clear own5 grow5 N1 N2 HO2
        go_wp2_with fail
        go_roundg (gk - 1)
        case measure => omega
        case rel =>
          refine ⟨pos + wd, acc ++ [(65533, (pos : Int))], by omega, by omega, by rw [List.length_append]; simp only [List.length_cons, List.length_nil]; omega, ?_, HV2, (HB3.out.block _ (Nat.lt_succ_self _)).trans HI2.out, ?_, HB2.out.trans (HB3.out.mono (Nat.le_succ _))⟩
          · show _ = _
            rw [← HR.out, show rn ((by_ s).drop pos) = _ from RT.out]; simp
          · show World.ownsRow _ _ _ _ _ _ _
            rw [List.length_append, chC_append]; exact OW.out
    · obtain rfl : pos = s.size := by omega
      have hnx : ∀ ty, (Instr.next (.pointer (some ⟨w.heap.size, 0, none⟩)) true ty).run Tryd.prog wr = _ := fun ty => Go.Lib.run_next_end_at wr w.heap.size s s.size ty HI.out hp
      go_wp2_with fail
      go_ret
      have hr := HR.out
      have e : (by_ s).drop s.size = [] := List.drop_of_length_le (by rw [tl_len]; exact Nat.le_refl _)
      rw [e, rn_nil, List.append_nil] at hr
      exact ⟨_, acc, rfl, own_low HO.out (Nat.le_succ _), hr, hal, HB.out⟩
end Go.Proofs.YthlabaijaadocaaDoor
