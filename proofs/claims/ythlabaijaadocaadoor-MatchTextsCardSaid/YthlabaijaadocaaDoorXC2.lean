import Derived.Test.YthlabaijaadocaaDoorXC1
/-! The reference's texts: matchers printed. -/
namespace Go.Proofs.YthlabaijaadocaaDoor
open Go.RowKit Ut Rx Mt

theorem rNamed_below (s : ByteArray) (w : World) (hs : s.size ≤ maxLen) : Calls Tryd.prog 34 #[.string s] w (BoolBelow w (namedF s.data.toList)) := (rNamed_any s w hs).mono fun _ _ h => ⟨h.1, h.2 ▸ Below.refl _ _⟩
set_option maxHeartbeats 1000000 in
theorem rSign_any (k : Int) (w : World) : Calls Tryd.prog 64 #[.int .i64 k] w (SignPost w k) := by
  by_cases h1 : k = 1
  · subst h1
    go_enter Tryd.func64, Tryd.ntmps64
    go_wp2_with fail
    go_ret
    exact ⟨rfl, rfl⟩
  · by_cases h2 : k = 2
    · subst h2
      go_enter Tryd.func64, Tryd.ntmps64
      go_wp2_with fail
      go_ret
      exact ⟨rfl, rfl⟩
    · by_cases h3 : k = 3
      · subst h3
        go_enter Tryd.func64, Tryd.ntmps64
        go_wp2_with fail
        go_ret
        exact ⟨rfl, rfl⟩
      · by_cases h4 : k = 4
        · subst h4
          go_enter Tryd.func64, Tryd.ntmps64
          go_wp2_with fail
          go_ret
          exact ⟨rfl, rfl⟩
        · have E : Hid (signT k = [63]) := by show _ = _; unfold signT; rw [if_neg h1, if_neg h2, if_neg h3, if_neg h4]
          have b1 : (k == 1) = false := by simpa using h1
          have b2 : (k == 2) = false := by simpa using h2
          have b3 : (k == 3) = false := by simpa using h3
          have b4 : (k == 4) = false := by simpa using h4
          clear h1 h2 h3 h4
          go_enter Tryd.func64, Tryd.ntmps64
          go_wp2_with fail
          go_ret
          exact ⟨by show Ending.returned (.string ⟨#[63]⟩) = _; rw [E.out], rfl⟩


set_option maxRecDepth 100000 in
set_option maxHeartbeats 4000000 in
theorem rBraces_any (l : List M) (lv : Value) (w : World) (hl : Ms w lv l) (hn : l.length ≤ 100000) (hsz : ∀ m ∈ l, m.n.size ≤ 100000 ∧ m.v.size ≤ 100000) :
    Calls Tryd.prog 45 #[lv] w (BrPost w l) := by
  obtain ⟨A, c, rfl, _, hcells⟩ := hl
  have HC := Lib.hid hcells
  have HZ := Lib.hid hsz
  have B0 : Hid (Below w.heap.size w w) := Below.refl _ _
  clear hcells hsz
  go_enter Tryd.func45, Tryd.ntmps45
  go_wp2_with fail
  go_loopg [3, 8] l.length (fun gk vo vk wr => ∃ (k : Nat) (out : ByteArray), vo = .string out ∧ vk = .int .i64 k ∧ k + gk = l.length ∧ out.size ≤ 1 + k * 400010 ∧ Hid (by_ out ++ braGo (decide (k = 0)) (l.drop k) = bracesF l) ∧ Hid (Below w.heap.size w wr))
  case atStart => exact ⟨0, _, rfl, rfl, by omega, by decide, rfl, B0⟩
  case round =>
    obtain ⟨k, out, rfl, rfl, hk, hos, HR, HB⟩ := hrel
    clear B0
    by_cases hlt : k < l.length
    · obtain ⟨b, off, rfl, hc⟩ := HC.out (fun e => by rw [e] at hlt; simp at hlt)
      obtain ⟨c0', c1', c2'⟩ := hc k hlt
      have lb : b < w.heap.size := World.block_lt_of_cell? w _ c0'
      have c0 := (HB.out.cell (p := ⟨b, off + k * 3, none⟩) lb).trans c0'
      have c1 := (HB.out.cell (p := ⟨b, off + k * 3 + 1, none⟩) lb).trans c1'
      have c2 := (HB.out.cell (p := ⟨b, off + k * 3 + 2, none⟩) lb).trans c2'
      have HD : Hid (l.drop k = ⟨(l[k]'hlt).k, (l[k]'hlt).n, (l[k]'hlt).v⟩ :: l.drop (k + 1)) := List.drop_eq_getElem_cons hlt
      obtain ⟨hzn, hzv⟩ := HZ.out _ (List.getElem_mem hlt)
      clear hc c0' c1' c2' HC HZ
      generalize (l[k]'hlt).k = mk at *
      generalize (l[k]'hlt).n = mn at *
      generalize (l[k]'hlt).v = mv at *
      by_cases h0 : k = 0
      · have H0 := Lib.hid h0
        have hki : ¬ (0 : Int) < k := by omega
        clear h0
        have B1 := Lib.hid (HB.out.alloc HB.out.size (.cells #[.int .i64 mk, .string mn, .string mv] 26))
        have hv := heap_alloc_new wr (.cells #[.int .i64 mk, .string mn, .string mv] 26)
        have lv1 : wr.heap.size < (wr.alloc (.cells #[.int .i64 mk, .string mn, .string mv] 26)).heap.size := by simp
        go_upto_region 7 with fail
        generalize (wr.alloc (.cells #[.int .i64 mk, .string mn, .string mv] 26)) = w1 at *
        have HO2 : Hid (by_ out ++ (by_ mn ++ signT mk ++ quoteF (by_ mv)) ++ braGo false (l.drop (k + 1)) = bracesF l) := by
          have := HR.out
          rw [HD.out, decide_eq_true H0.out] at this
          show _ = _
          rw [← this]; simp [braGo]
        have ho2 : out.size ≤ 1 + k * 400010 + 2 := by omega
        have KP : Hid (∀ w', Below w1.heap.size w1 w' → w'.cell? ⟨wr.heap.size, 0, none⟩ = some (.int .i64 mk) ∧ w'.cell? ⟨wr.heap.size, 1, none⟩ = some (.string mn) ∧ w'.cell? ⟨wr.heap.size, 2, none⟩ = some (.string mv) ∧ Below w1.heap.size w1 w') := fun w' b => by
          obtain ⟨d0, d1, d2, _⟩ := cells3 ((b.block _ lv1).trans hv)
          exact ⟨d0, d1, d2, b⟩
        obtain ⟨sg, hsg⟩ : ∃ sg : ByteArray, sg = ⟨(signT mk).toArray⟩ := ⟨_, rfl⟩
        obtain ⟨qt, hqt⟩ : ∃ qt : ByteArray, qt = ⟨(quoteF (by_ mv)).toArray⟩ := ⟨_, rfl⟩
        have ssz : sg.size ≤ 2 := by rw [hsg]; exact signT_len mk
        have qsz : qt.size ≤ 200002 := by
          have := quoteF_len (by_ mv)
          rw [tl_len] at this
          have e : qt.size = (quoteF (by_ mv)).length := by rw [hqt]; rfl
          omega
        have SE : Hid (∀ w', Below w1.heap.size w1 w' → Calls Tryd.prog 64 #[.int .i64 mk] w' (fun e w2 => e = .returned (.string sg) ∧ Below w1.heap.size w1 w2)) := fun w' b =>
          (rSign_any mk w').mono fun e w2 h => ⟨by rw [hsg]; exact h.1, by rw [h.2]; exact b⟩
        have QE : Hid (∀ w', Below w1.heap.size w1 w' → Calls Tryd.prog 65 #[.string mv] w' (fun e w2 => e = .returned (.string qt) ∧ Below w1.heap.size w1 w2)) := fun w' b =>
          (rQuote_any mv w' (by omega)).mono fun e w2 h => ⟨by rw [hqt]; exact h.1, b.trans (h.2.mono b.size)⟩
        have hb0 : Below w1.heap.size w1 w1 := Below.refl _ _
        obtain ⟨d0, d1, d2, _⟩ := KP.out w1 hb0
        have HSG := Lib.hid hsg
        have HQT := Lib.hid hqt
        have a1 : ¬ 9223372036854775807 < mn.size + sg.size := by omega
        have a2 : ¬ 9223372036854775807 < mn.size + sg.size + qt.size := by omega
        have a3 : ¬ 9223372036854775807 < out.size + (mn.size + sg.size + qt.size) := by omega
        clear hv c0 c1 c2 hsg hqt
        go_region_held3 (fun w' => w'.cell? ⟨wr.heap.size, 0, none⟩ = some (.int .i64 mk) ∧ w'.cell? ⟨wr.heap.size, 1, none⟩ = some (.string mn) ∧ w'.cell? ⟨wr.heap.size, 2, none⟩ = some (.string mv) ∧ Below w1.heap.size w1 w')
          ((refine KP.out _ ?_; (try go_split_ands); (repeat (first | refine Below.drew ?_ | refine below_drewN ?_ _)); assumption))
          (first
            | (go_at_call 64; refine Calls.mono (SE.out _ ?_) ?_; (repeat (first | refine Below.drew ?_ | refine below_drewN ?_ _)); assumption; rintro e w' ⟨rfl, hb9⟩)
            | (go_at_call 65; refine Calls.mono (QE.out _ ?_) ?_; (repeat (first | refine Below.drew ?_ | refine below_drewN ?_ _)); assumption; rintro e w' ⟨rfl, hb9⟩))
        all_goals
          have B2 := Lib.hid (B1.out.trans (hb9.mono B1.out.size))
          have HR3 : Hid (by_ (out ++ (mn ++ sg ++ qt)) ++ braGo (decide (k + 1 = 0)) (l.drop (k + 1)) = bracesF l) := by
            show _ = _
            rw [by_add, by_add, by_add, HSG.out, HQT.out, by_mk, by_mk, decide_eq_false (by omega)]
            exact HO2.out
          have sz2 : (out ++ (mn ++ sg ++ qt)).size ≤ 1 + (k + 1) * 400010 := by simp; omega
          clear KP SE QE d0 d1 d2 hb9 HR HD
          go_wp2_with fail
          go_roundg (l.length - (k + 1))
          case measure => omega
          case rel => exact ⟨k + 1, _, rfl, by simp, by omega, sz2, HR3, B2⟩
      · have hki : (0 : Int) < k := by omega
        have hoi : (out ++ ⟨#[44, 32]⟩ : ByteArray).size = out.size + 2 := by simp; rfl
        have B1 := Lib.hid (HB.out.alloc HB.out.size (.cells #[.int .i64 mk, .string mn, .string mv] 26))
        have hv := heap_alloc_new wr (.cells #[.int .i64 mk, .string mn, .string mv] 26)
        have lv1 : wr.heap.size < (wr.alloc (.cells #[.int .i64 mk, .string mn, .string mv] 26)).heap.size := by simp
        go_upto_region 7 with fail
        generalize (wr.alloc (.cells #[.int .i64 mk, .string mn, .string mv] 26)) = w1 at *
        have HO2' : Hid (by_ (out ++ ⟨#[44, 32]⟩) ++ (by_ mn ++ signT mk ++ quoteF (by_ mv)) ++ braGo false (l.drop (k + 1)) = bracesF l) := by
          have := HR.out
          rw [HD.out, decide_eq_false (show ¬ k = 0 by omega)] at this
          show _ = _
          rw [← this, by_add]; simp [braGo]; rfl
        have ho2' : (out ++ ⟨#[44, 32]⟩ : ByteArray).size ≤ 1 + k * 400010 + 2 := by rw [hoi]; omega
        clear HR
        generalize (out ++ ⟨#[44, 32]⟩ : ByteArray) = out2 at *
        have HO2 := HO2'
        have ho2 := ho2'
        clear HO2' ho2'
        have HR := HO2
        have KP : Hid (∀ w', Below w1.heap.size w1 w' → w'.cell? ⟨wr.heap.size, 0, none⟩ = some (.int .i64 mk) ∧ w'.cell? ⟨wr.heap.size, 1, none⟩ = some (.string mn) ∧ w'.cell? ⟨wr.heap.size, 2, none⟩ = some (.string mv) ∧ Below w1.heap.size w1 w') := fun w' b => by
          obtain ⟨d0, d1, d2, _⟩ := cells3 ((b.block _ lv1).trans hv)
          exact ⟨d0, d1, d2, b⟩
        obtain ⟨sg, hsg⟩ : ∃ sg : ByteArray, sg = ⟨(signT mk).toArray⟩ := ⟨_, rfl⟩
        obtain ⟨qt, hqt⟩ : ∃ qt : ByteArray, qt = ⟨(quoteF (by_ mv)).toArray⟩ := ⟨_, rfl⟩
        have ssz : sg.size ≤ 2 := by rw [hsg]; exact signT_len mk
        have qsz : qt.size ≤ 200002 := by
          have := quoteF_len (by_ mv)
          rw [tl_len] at this
          have e : qt.size = (quoteF (by_ mv)).length := by rw [hqt]; rfl
          omega
        have SE : Hid (∀ w', Below w1.heap.size w1 w' → Calls Tryd.prog 64 #[.int .i64 mk] w' (fun e w2 => e = .returned (.string sg) ∧ Below w1.heap.size w1 w2)) := fun w' b =>
          (rSign_any mk w').mono fun e w2 h => ⟨by rw [hsg]; exact h.1, by rw [h.2]; exact b⟩
        have QE : Hid (∀ w', Below w1.heap.size w1 w' → Calls Tryd.prog 65 #[.string mv] w' (fun e w2 => e = .returned (.string qt) ∧ Below w1.heap.size w1 w2)) := fun w' b =>
          (rQuote_any mv w' (by omega)).mono fun e w2 h => ⟨by rw [hqt]; exact h.1, b.trans (h.2.mono b.size)⟩
        have hb0 : Below w1.heap.size w1 w1 := Below.refl _ _
        obtain ⟨d0, d1, d2, _⟩ := KP.out w1 hb0
        have HSG := Lib.hid hsg
        have HQT := Lib.hid hqt
        have a1 : ¬ 9223372036854775807 < mn.size + sg.size := by omega
        have a2 : ¬ 9223372036854775807 < mn.size + sg.size + qt.size := by omega
        have a3 : ¬ 9223372036854775807 < out.size + 2 + (mn.size + sg.size + qt.size) := by omega
        clear hv c0 c1 c2 hsg hqt
        go_region_held3 (fun w' => w'.cell? ⟨wr.heap.size, 0, none⟩ = some (.int .i64 mk) ∧ w'.cell? ⟨wr.heap.size, 1, none⟩ = some (.string mn) ∧ w'.cell? ⟨wr.heap.size, 2, none⟩ = some (.string mv) ∧ Below w1.heap.size w1 w')
          ((refine KP.out _ ?_; (try go_split_ands); (repeat (first | refine Below.drew ?_ | refine below_drewN ?_ _)); assumption))
          (first
            | (go_at_call 64; refine Calls.mono (SE.out _ ?_) ?_; (repeat (first | refine Below.drew ?_ | refine below_drewN ?_ _)); assumption; rintro e w' ⟨rfl, hb9⟩)
            | (go_at_call 65; refine Calls.mono (QE.out _ ?_) ?_; (repeat (first | refine Below.drew ?_ | refine below_drewN ?_ _)); assumption; rintro e w' ⟨rfl, hb9⟩))
        all_goals
          have B2 := Lib.hid (B1.out.trans (hb9.mono B1.out.size))
          have HR3 : Hid (by_ (out2 ++ (mn ++ sg ++ qt)) ++ braGo (decide (k + 1 = 0)) (l.drop (k + 1)) = bracesF l) := by
            show _ = _
            rw [by_add, by_add, by_add, HSG.out, HQT.out, by_mk, by_mk, decide_eq_false (by omega)]
            exact HO2.out
          have sz2 : (out2 ++ (mn ++ sg ++ qt)).size ≤ 1 + (k + 1) * 400010 := by simp; omega
          clear KP SE QE d0 d1 d2 hb9 HR HD
          go_wp2_with fail
          go_roundg (l.length - (k + 1))
          case measure => omega
          case rel => exact ⟨k + 1, _, rfl, by simp, by omega, sz2, HR3, B2⟩
    · have hkl : k = l.length := by omega
      have hki : ¬ (k : Int) < l.length := by omega
      have E : Hid (out ++ ⟨#[125]⟩ = (⟨(bracesF l).toArray⟩ : ByteArray)) := by
        have := HR.out
        rw [List.drop_of_length_le (by omega)] at this
        show _ = _
        rw [← this]
        apply ByteArray.ext
        apply Array.ext'
        show by_ (out ++ ⟨#[125]⟩) = _
        rw [by_add]
        simp [braGo]
      have e1 : (⟨#[125]⟩ : ByteArray).size = 1 := rfl
      clear HR
      go_wp2_with fail
      all_goals go_ret
      all_goals (rw [E.out]; exact ⟨rfl, HB.out⟩)

set_option maxRecDepth 100000 in
set_option maxHeartbeats 4000000 in
theorem rPrint_any (l : List M) (A : Option Addr) (c : Nat) (w : World) (hl : Ms w (.slice A l.length c) l) (hcap : l.length ≤ c) (hn : l.length ≤ 100000) (hsz : ∀ m ∈ l, m.n.size ≤ 100000 ∧ m.v.size ≤ 100000) :
    Calls Tryd.prog 21 #[.slice A l.length c] w (PrPost w l) := by
  have BR := Lib.hid (fun w' (b : Below w.heap.size w w') => rBraces_any l _ w' (hl.below b) hn hsz)
  cases l with
  | nil =>
    have E : Hid (printF [] = bracesF []) := rfl
    go_enter Tryd.func21, Tryd.ntmps21
    go_wp2_with fail
    refine (BR.out _ (Below.refl _ _)).mono ?_
    rintro e w1 ⟨rfl, hb⟩
    go_wp2_with fail
    go_ret
    exact ⟨rfl, hb⟩
  | cons m t =>
    have HL := Lib.hid hl
    obtain ⟨A', c', e, hb, hcl⟩ := hl
    obtain ⟨b, off, rfl, hc⟩ := hcl (by simp)
    simp only [Value.slice.injEq, List.length_cons, true_and] at e
    obtain ⟨rfl, rfl⟩ := e
    obtain ⟨c0, c1, c2⟩ := hc 0 (by simp)
    simp only [Nat.zero_mul, Nat.add_zero, List.getElem_cons_zero] at c0 c1 c2
    have hz := hsz m (by simp)
    have HS : Hid (∀ m ∈ t, m.n.size ≤ 100000 ∧ m.v.size ≤ 100000) := fun x hx => hsz x (List.mem_cons_of_mem _ hx)
    simp only [List.length_cons] at hcap hn
    obtain ⟨mk, mn, mv⟩ := m
    simp only at c0 c1 c2 hz
    have N := Lib.hid (rNamed_below mv w (by unfold maxLen; omega))
    clear hc hcl hb hsz
    by_cases hk : mk = 1
    · subst hk
      by_cases hq : by_ mn = nameL
      · obtain rfl : mn = ⟨#[95, 95, 110, 97, 109, 101, 95, 95]⟩ := by_inj hq
        clear hq
        cases hnm : namedF mv.data.toList with
        | false =>
          have E : Hid (printF (⟨1, ⟨#[95, 95, 110, 97, 109, 101, 95, 95]⟩, mv⟩ :: t) = bracesF (⟨1, ⟨#[95, 95, 110, 97, 109, 101, 95, 95]⟩, mv⟩ :: t)) := by
            show _ = _
            unfold printF headB
            simp only
            rw [show namedF (by_ mv) = false from hnm, Bool.and_false, if_neg (by simp)]
          rw [hnm] at N
          clear hnm
          simp only [List.length_cons] at BR ⊢
          go_enter Tryd.func21, Tryd.ntmps21
          go_wp2_with fail
          refine N.out.mono ?_
          rintro e w1 ⟨rfl, hb1⟩
          have B := Lib.hid (BR.out w1 hb1)
          go_wp2_with fail
          refine B.out.mono ?_
          rintro e w2 ⟨rfl, hb2⟩
          go_wp2_with fail
          go_ret
          exact ⟨by rw [E.out]; rfl, hb1.trans (hb2.mono hb1.size)⟩
        | true =>
          rw [hnm] at N
          have H1 : Hid (headB ⟨1, ⟨#[95, 95, 110, 97, 109, 101, 95, 95]⟩, mv⟩ = true) := by
            show _ = _
            unfold headB
            simp only
            rw [show namedF (by_ mv) = true from hnm]
            rfl
          clear hnm BR
          cases t with
          | nil =>
            have E : Hid (printF [⟨1, ⟨#[95, 95, 110, 97, 109, 101, 95, 95]⟩, mv⟩] = by_ mv) := by
              show _ = _
              unfold printF
              simp only
              rw [if_pos H1.out, if_pos trivial]
            simp only [List.length_cons, List.length_nil] at HL ⊢
            go_enter Tryd.func21, Tryd.ntmps21
            go_wp2_with fail
            refine N.out.mono ?_
            rintro e w1 ⟨rfl, hb1⟩
            have c2' := (hb1.cell (p := ⟨b, off + 2, none⟩) (World.block_lt_of_cell? w _ c2)).trans c2
            go_wp2_with fail
            go_ret
            exact ⟨by rw [E.out, mk_by]; rfl, hb1⟩
          | cons m2 t2 =>
            have E : Hid (printF (⟨1, ⟨#[95, 95, 110, 97, 109, 101, 95, 95]⟩, mv⟩ :: m2 :: t2) = by_ mv ++ bracesF (m2 :: t2)) := by
              show _ = _
              unfold printF
              simp only
              rw [if_pos H1.out, if_neg (by simp)]
            have hlen : 2 ≤ (m2 :: t2).length + 1 := by simp
            have HT := Lib.hid (Ms.tail HL.out)
            clear HL H1
            generalize hts : m2 :: t2 = ts at *
            clear hts
            have hc1 : ¬ c = 1 := by omega
            have hcI : (ts.length : Int) + 1 ≤ c := by omega
            have hcJ : (1 : Int) ≤ ts.length + 1 := by omega
            have hcK : ¬ (c : Int) = 1 := by omega
            go_enter Tryd.func21, Tryd.ntmps21
            go_wp2_with fail
            refine N.out.mono ?_
            rintro e w1 ⟨rfl, hb1⟩
            have c2' := (hb1.cell (p := ⟨b, off + 2, none⟩) (World.block_lt_of_cell? w _ c2)).trans c2
            have lb := World.block_lt_of_cell? w1 _ c2'
            have KP : Hid (∀ w', Below w1.heap.size w1 w' → w'.cell? ⟨b, off + 2, none⟩ = some (.string mv) ∧ Below w1.heap.size w1 w') := fun w' b' => ⟨(b'.cell (p := ⟨b, off + 2, none⟩) lb).trans c2', b'⟩
            have BE : Hid (∀ w', Below w1.heap.size w1 w' → Calls Tryd.prog 45 #[.slice (some ⟨b, off + 3, none⟩) ts.length (c - 1)] w' (fun e w2 => e = .returned (.string ⟨(bracesF ts).toArray⟩) ∧ Below w1.heap.size w1 w2)) := fun w' b' =>
              (rBraces_any ts _ w' (HT.out.below (hb1.trans (b'.mono hb1.size))) (by omega) HS.out).mono fun e w2 h => ⟨h.1, b'.trans (h.2.mono b'.size)⟩
            have hb0 : Below w1.heap.size w1 w1 := Below.refl _ _
            generalize hbs : (⟨(bracesF ts).toArray⟩ : ByteArray) = bs at *
            have HBS := Lib.hid hbs
            have hbz : bs.size ≤ 2 + ts.length * 400010 := by rw [← hbs]; exact bracesF_len HS.out
            have hz2 : mv.size ≤ 100000 := hz.2
            have hq1 : ¬ 9223372036854775807 < mv.size + bs.size := by omega
            clear hbs N HT
            go_upto_region 5 with fail
            go_region_held3 (fun w' => w'.cell? ⟨b, off + 2, none⟩ = some (.string mv) ∧ Below w1.heap.size w1 w')
              ((refine KP.out _ ?_; (try go_split_ands); (repeat (first | refine Below.drew ?_ | refine below_drewN ?_ _)); assumption))
              ((go_at_call 45; refine Calls.mono (BE.out _ ?_) ?_; (repeat (first | refine Below.drew ?_ | refine below_drewN ?_ _)); assumption; rintro e w' ⟨rfl, hb9⟩))
            all_goals
              have B2 := Lib.hid (hb1.trans (hb9.mono hb1.size))
              go_wp2_with fail
              go_ret
              exact ⟨by rw [E.out]; show Ending.returned (.string (mv ++ bs)) = _; rw [← HBS.out]; congr 2, B2.out⟩
      · have E : Hid (printF (⟨1, mn, mv⟩ :: t) = bracesF (⟨1, mn, mv⟩ :: t)) := by
          show _ = _
          unfold printF headB
          simp only
          rw [decide_eq_false hq, Bool.and_false, Bool.false_and, if_neg (by simp)]
        have hne : (mn.toList == [95, 95, 110, 97, 109, 101, 95, 95]) = false := by
          rw [tl_eq]
          simpa [nameL] using hq
        have hne2 : (mn.toList != [95, 95, 110, 97, 109, 101, 95, 95]) = true := by
          unfold bne
          rw [hne]; rfl
        clear hq
        simp only [List.length_cons] at BR ⊢
        go_enter Tryd.func21, Tryd.ntmps21
        go_wp2_with fail
        refine (BR.out _ (Below.refl _ _)).mono ?_
        rintro e w2 ⟨rfl, hb2⟩
        go_wp2_with fail
        go_ret
        exact ⟨by rw [E.out]; rfl, hb2⟩
    · have E : Hid (printF (⟨mk, mn, mv⟩ :: t) = bracesF (⟨mk, mn, mv⟩ :: t)) := by
        show _ = _
        unfold printF headB
        simp only
        rw [decide_eq_false hk, Bool.false_and, Bool.false_and, if_neg (by simp)]
      have hne2 : (mk != 1) = true := by simpa using hk
      clear hk
      simp only [List.length_cons] at BR ⊢
      go_enter Tryd.func21, Tryd.ntmps21
      go_wp2_with fail
      refine (BR.out _ (Below.refl _ _)).mono ?_
      rintro e w2 ⟨rfl, hb2⟩
      go_wp2_with fail
      go_ret
      exact ⟨by rw [E.out]; rfl, hb2⟩
end Go.Proofs.YthlabaijaadocaaDoor
