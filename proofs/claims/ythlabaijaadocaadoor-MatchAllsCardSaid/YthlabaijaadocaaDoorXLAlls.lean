import Derived.Test.YthlabaijaadocaaDoorXC6
import Derived.Test.YthlabaijaadocaaDoorXQz
import Derived.Test.YthlabaijaadocaaDoorXNp
import Derived.Test.YthlabaijaadocaaDoorXLNarrow
/-! Whether labels pass matchers, asked as a Set, too, is the document's. -/
namespace Go.Proofs.YthlabaijaadocaaDoor
open Go.RowKit Ut Rx Mt

theorem row_setg {w : World} {base e size n g cap k : Nat} {xs : List Value} (h : w.ownsRow base e size (.slice (some ⟨g, 0, none⟩) n cap) n xs) (u : Value) :
    (w.setCell ⟨g, k, none⟩ u).ownsRow base e size (.slice (some ⟨g, 0, none⟩) n cap) n (xs.set k u) := by
  refine ⟨by rw [List.length_set]; exact h.1, ?_⟩
  rcases h.2 with ⟨e1, _⟩ | ⟨g', cap', cur, e1, hb, hg, hc, hm, hs, ht⟩
  · cases e1
  · cases e1
    refine Or.inr ⟨g, cap, cur.setIfInBounds k u, rfl, hb, ?_, hc, hm, by simpa using hs, ?_⟩
    · unfold World.setCell
      simp only [Array.getElem?_modify, ↓reduceIte, hg, Option.map_some]
      rfl
    · rw [Array.toList_setIfInBounds, List.take_set, ht]
/-- an own row of matchers' cells, whatever they hold -/
def MRow (w : World) (base g n c : Nat) : Prop := ∃ xs, w.ownsRow base 26 3 (.slice (some ⟨g, 0, none⟩) n c) n xs
theorem MRow.set {w : World} {base g n c : Nat} (h : MRow w base g n c) (k : Nat) (u : Value) : MRow (w.setCell ⟨g, k, none⟩ u) base g n c := let ⟨_, h⟩ := h; ⟨_, row_setg h u⟩
theorem MRow.at_ {w : World} {base g n c : Nat} (h : MRow w base g n c) {k : Nat} (hk : k < n) : (∃ x, w.cell? ⟨g, k * 3, none⟩ = some x) ∧ (∃ x, w.cell? ⟨g, k * 3 + 1, none⟩ = some x) ∧ (∃ x, w.cell? ⟨g, k * 3 + 2, none⟩ = some x) ∧ w.frozen? ⟨g, k * 3, none⟩ = false ∧ w.frozen? ⟨g, k * 3 + 1, none⟩ = false ∧ w.frozen? ⟨g, k * 3 + 2, none⟩ = false := by
  obtain ⟨xs, h⟩ := h
  have hl := h.1
  have cc := (row_cell h rfl).2.2
  have at_ : ∀ j, j < n * 3 → ∃ x, w.cell? ⟨g, j, none⟩ = some x := fun j hj => ⟨_, cc j _ (List.getElem?_eq_getElem (by omega))⟩
  exact ⟨at_ _ (by omega), at_ _ (by omega), at_ _ (by omega), row_free h _, row_free h _, row_free h _⟩
/-- what New tells, in one form -/
structure NewAt (w w' : World) (l : List M) (px : Option Addr) : Prop where
  b : Below w.heap.size w w'
  ok : rightF l = 0 → ∃ g v qs, px = some ⟨g, 0, none⟩ ∧ w'.cell? ⟨g, 0, none⟩ = some v ∧ qs.map (·.1) = l ∧ AsB w' w.heap.size v qs
  no : rightF l ≠ 0 → px = none
theorem NewPostB.at_ {w w' : World} {l : List M} {e : Ending} (h : NewPostB w l e w') : ∃ px, e = .returned (.tuple #[.pointer px, .int .i64 (rightF l)]) ∧ NewAt w w' l px := by
  obtain ⟨b, ⟨h0, g, v, qs, rfl, hc, hq, ha⟩ | ⟨hn, rfl⟩⟩ := h
  · exact ⟨some ⟨g, 0, none⟩, by rw [h0], b, fun _ => ⟨g, v, qs, rfl, hc, hq, ha⟩, fun h => absurd h0 h⟩
  · exact ⟨none, rfl, b, fun h => absurd h hn, fun _ => rfl⟩
theorem right_ne {l : List M} (h : rightF l = 0) : l ≠ [] := fun e => by subst e; cases h
theorem setB_all {l : List M} {qs : List (M × Option Addr)} (x : List L) (h : rightF l = 0) (hq : qs.map (·.1) = l) : setB qs x = allF l x := by
  unfold setB
  have hne : qs ≠ [] := fun e => right_ne h (by rw [← hq, e]; rfl)
  rw [allF_zero x h, hq]
  simp [hne]
/-- the Set stands, though the row that it was made of is written over -/
theorem NewAt.set {w w' w2 : World} {l : List M} {px : Option Addr} {gO n c base : Nat} (h : NewAt w w' l px) (h0 : rightF l = 0) (hrow : MsR w' base (.slice (some ⟨gO, 0, none⟩) n c) l) (hO : gO < w.heap.size) (g : w'.grownBy w2 (some gO)) : ∃ qs ga, px = some ⟨ga, 0, none⟩ ∧ qs.map (·.1) = l ∧ SetAt w2 w.heap.size px qs := by
  obtain ⟨ga, v, qs, rfl, hc, hq, ha⟩ := h.ok h0
  refine ⟨qs, ga, rfl, hq, Or.inr ⟨fun e => right_ne h0 (by rw [← hq, e]; rfl), ga, v, rfl, ?_, (ha.other g hO).asR⟩⟩
  have hne : ga ≠ gO := by
    rintro rfl
    obtain ⟨m, t, rfl⟩ : ∃ m t, l = m :: t := by
      cases l with
      | nil => exact absurd rfl (right_ne h0)
      | cons m t => exact ⟨m, t, rfl⟩
    have h1 := (row_cell hrow rfl).2.2 0 _ (show (msC (m :: t))[0]? = some (.int .i64 m.k) from rfl)
    rw [hc] at h1
    obtain ⟨_, _, rfl, _⟩ := ha.slice
    cases h1
  have lt := World.block_lt_of_cell? w' _ hc
  have e : w2.cell? ⟨ga, 0, none⟩ = w'.cell? ⟨ga, 0, none⟩ := World.cell?_of_block (g.block ga lt (fun e => hne (Option.some.inj e)))
  rw [e]; exact hc

set_option maxRecDepth 100000 in
set_option maxHeartbeats 8000000 in
theorem alls_any (l : List M) (x : List L) (va lv : Value) (w : World) (ha : Ms0 w va l) (hx : Lb0 w lv x) (hT : Lib.Utf8Tabs 0 1 w) (hw : 2 ≤ w.heap.size) :
    Calls Tryd.prog 11 #[va, lv] w (BoolBelow w true) := by
  have HT := Lib.hid hT
  have LV := Lib.hid (fun w' (b : Below w.heap.size w w') => live_any w' (tabs_below HT.out b) (Nat.le_trans hw b.size))
  have FA := Lib.hid (fun w' (h : Below w.heap.size w w') => few_any l va w' (ha.below h))
  have SX := Lib.hid (fun w' (h : Below w.heap.size w w') => short_any x lv w' (hx.below h))
  have HA := Lib.hid ha
  have HX := Lib.hid hx
  clear hT ha hx
  go_enter Tryd.func11, Tryd.ntmps11
  go_wp2_with fail
  refine (LV.out _ (Below.refl _ _)).mono ?_
  rintro e w1 ⟨rfl, hb1⟩
  have B1 := Lib.hid hb1
  clear hb1
  go_wp2_with fail
  refine (FA.out _ B1.out).mono ?_
  rintro e w2 ⟨rfl, hb2⟩
  have B2 := Lib.hid (B1.out.trans (hb2.mono B1.out.size))
  clear hb2 B1
  cases hfa : fewB l with
  | false =>
    clear hfa
    go_wp2_with fail
    refine (LV.out _ B2.out).mono ?_
    rintro e w3 ⟨rfl, hb3⟩
    go_wp2_with fail
    go_ret
    exact ⟨rfl, B2.out.trans (hb3.mono B2.out.size)⟩
  | true =>
    have HFA := Lib.hid hfa
    clear hfa
    go_wp2_with fail
    refine (SX.out _ B2.out).mono ?_
    rintro e w4 ⟨rfl, hb4⟩
    have B4 := Lib.hid (B2.out.trans (hb4.mono B2.out.size))
    clear hb4 B2
    cases hsx : shortB x with
    | false =>
      clear hsx
      go_wp2_with fail
      refine (LV.out _ B4.out).mono ?_
      rintro e w5 ⟨rfl, hb5⟩
      go_wp2_with fail
      go_ret
      exact ⟨rfl, B4.out.trans (hb5.mono B4.out.size)⟩
    | true =>
      have MA := Lib.hid (HA.out.ms HFA.out)
      have LX := Lib.hid (HX.out.lb hsx)
      have hna := (few_of HFA.out).1
      have NS : Hid (∀ m ∈ l, m.n.size ≤ maxLen) := fun m hm => by have := ((few_of HFA.out).2 m hm).1; unfold maxLen; omega
      obtain ⟨A1, c1, rfl⟩ : ∃ A c, va = .slice A l.length c := by obtain ⟨A, c, e, _⟩ := HA.out; exact ⟨A, c, e⟩
      obtain ⟨i0, hi, hz0, hz1, hz2⟩ := info_parts infoM
      have I0 : Hid (i0.zero = some (.agg #[.int .i64 0, .string ⟨#[]⟩, .string ⟨#[]⟩]) ∧ i0.size = 3 ∧ i0.bytes = 40 ∧ Tryd.prog.info? 26 = some i0) := ⟨hz0, hz1, hz2, hi⟩
      have RA := Lib.hid (ms_reads (MA.out.below B4.out))
      clear hsx HFA HA HX FA SX LV hz0 hz1 hz2 hi
      go_wp2_with (at_builtin; refine wpList_append_any _ rfl (.tmp 23) (.tmp 24) 22 rfl w4.heap.size 26 i0 (.agg #[.int .i64 0, .string ⟨#[]⟩, .string ⟨#[]⟩]) 3 40 Tryd.underlying22 I0.out.2.2.2 I0.out.1 I0.out.2.1 I0.out.2.2.1 rfl (by decide) _ 0 [] rfl (own_zero w4) _ A1 l.length c1 (msC l) rfl (RA.out.below ((Below.refl _ _).alloc (Nat.le_refl _) _)) (msC_one _) (by unfold maxLen; omega) (by omega) (by simp) ?_)
      intro vo w5 own5 grow5 _
      obtain ⟨o5, b5⟩ := row_first own5 grow5
      have o6 : MsR w5 w4.heap.size vo l := by unfold MsR; simpa using o5
      have MV := Lib.hid (MsR.ms o6 (by omega))
      have O6 := Lib.hid o6
      have B5 := Lib.hid (B4.out.trans (b5.mono B4.out.size))
      obtain ⟨A2, c2, rfl, _⟩ := o6.slice
      have NW := Lib.hid (newB_any l _ w5 MV.out (tabs_below HT.out B5.out) (Nat.le_trans hw B5.out.size))
      clear o5 b5 own5 grow5 o6 RA
      go_wp2_with fail
      refine NW.out.mono ?_
      intro e w6 h6
      obtain ⟨px, rfl, hn6⟩ := h6.at_
      have N6 := Lib.hid hn6
      have B6 := Lib.hid (B5.out.trans (hn6.b.mono B5.out.size))
      have O7 := Lib.hid (MsR.below O6.out hn6.b)
      have L0 : Hid (∀ w', w' = w6 → (l = [] ∧ w' = w6) ∨ ∃ gO, A2 = some ⟨gO, 0, none⟩ ∧ gO < w5.heap.size ∧ w4.heap.size ≤ gO ∧ w6.grownBy w' (some gO) ∧ MRow w' w4.heap.size gO l.length c2) := by
        intro w' hw'
        subst hw'
        by_cases hl : l = []
        · exact Or.inl ⟨hl, rfl⟩
        · right
          have hpos := List.length_pos_iff.2 hl
          rcases row_kinds O6.out with ⟨_, h0⟩ | ⟨gO, c', e, _⟩
          · omega
          · cases e
            have hlt := O6.out.lt gO rfl
            exact ⟨gO, rfl, hlt.2, hlt.1, World.grownBy.refl _ _, ⟨_, O7.out⟩⟩
      clear h6 hn6 NW
      go_wp2_with fail
      go_loopg [33] l.length (fun gk vk wr => ∃ k : Nat, vk = .int .i64 k ∧ k + gk = l.length ∧ Hid ((l = [] ∧ wr = w6) ∨ ∃ gO, A2 = some ⟨gO, 0, none⟩ ∧ gO < w5.heap.size ∧ w4.heap.size ≤ gO ∧ w6.grownBy wr (some gO) ∧ MRow wr w4.heap.size gO l.length c2))
      case atStart => exact ⟨0, rfl, by omega, L0.out _ rfl⟩
      case round =>
        obtain ⟨k, rfl, hk, HL⟩ := hrel
        clear L0
        by_cases hlt : k < l.length
        · have hlti : (k : Int) < l.length := by omega
          obtain ⟨gO, rfl, h1, h2, h3, h4⟩ : ∃ gO, A2 = some ⟨gO, 0, none⟩ ∧ gO < w5.heap.size ∧ w4.heap.size ≤ gO ∧ w6.grownBy wr (some gO) ∧ MRow wr w4.heap.size gO l.length c2 := by
            rcases HL.out with ⟨hl, _⟩ | h
            · rw [hl] at hlt; cases hlt
            · exact h
          obtain ⟨⟨y0, d0⟩, ⟨y1, d1⟩, ⟨y2, d2⟩, f0, f1, f2⟩ := h4.at_ hlt
          have NX : Hid (∀ a b c : Value, (l = [] ∧ ((wr.setCell ⟨gO, k * 3, none⟩ a).setCell ⟨gO, k * 3 + 1, none⟩ b).setCell ⟨gO, k * 3 + 2, none⟩ c = w6) ∨ ∃ g2, some (⟨gO, 0, none⟩ : Addr) = some ⟨g2, 0, none⟩ ∧ g2 < w5.heap.size ∧ w4.heap.size ≤ g2 ∧ w6.grownBy (((wr.setCell ⟨gO, k * 3, none⟩ a).setCell ⟨gO, k * 3 + 1, none⟩ b).setCell ⟨gO, k * 3 + 2, none⟩ c) (some g2) ∧ MRow (((wr.setCell ⟨gO, k * 3, none⟩ a).setCell ⟨gO, k * 3 + 1, none⟩ b).setCell ⟨gO, k * 3 + 2, none⟩ c) w4.heap.size g2 l.length c2) := fun a b c =>
            Or.inr ⟨gO, rfl, h1, h2, grown_trans (grown_trans (grown_trans h3 (grown_setCell _ _ _ _)) (grown_setCell _ _ _ _)) (grown_setCell _ _ _ _), ((h4.set _ _).set _ _).set _ _⟩
          clear HL h1 h2 h3 h4
          go_wp2_with fail
          go_roundg (gk - 1)
          case measure => omega
          case rel => exact ⟨k + 1, by go_num, by omega, NX.out _ _ _⟩
        · have hki : ¬ (k : Int) < l.length := by omega
          have BW : Hid (Below w.heap.size w wr) := by
            rcases HL.out with ⟨_, rfl⟩ | ⟨gO, _, _, h2, h3, _⟩
            · exact B6.out
            · exact B6.out.grown h3 B6.out.size (fun q hq => by have : gO = q := Option.some.inj hq; have := B4.out.size; omega)
          have SET : Hid (rightF l = 0 → ∃ qs ga, px = some ⟨ga, 0, none⟩ ∧ qs.map (·.1) = l ∧ SetAt wr w5.heap.size px qs) := fun h0 => by
            rcases HL.out with ⟨hl, _⟩ | ⟨gO, hA, h1, _, h3, _⟩
            · exact absurd hl (right_ne h0)
            · have o7 := O7.out
              rw [hA] at o7
              exact N6.out.set h0 o7 h1 h3
          have NO : Hid (rightF l ≠ 0 → px = none) := N6.out.no
          have RR := Lib.hid (rRight_any l _ wr (MA.out.below BW.out) NS.out)
          clear HL N6 O7 O6 MV B6 B5 B4
          go_wp2_with fail
          refine RR.out.mono ?_
          rintro e w7 ⟨rfl, hb7⟩
          have B7 := Lib.hid (BW.out.trans (hb7.mono BW.out.size))
          have RAll := Lib.hid (rAll_any l _ x lv w7 (MA.out.below B7.out) (LX.out.below B7.out) NS.out)
          have BB := Lib.hid hb7
          clear RR hb7 BW
          by_cases h0 : rightF l = 0
          · obtain ⟨qs, ga, rfl, hq, hset⟩ := SET.out h0
            have S7 := Lib.hid (hset.below BB.out)
            have SB := Lib.hid (setB_all x h0 hq)
            have HQ := Lib.hid hq
            have OK : Hid (∀ q ∈ qs, 1 ≤ q.1.k ∧ q.1.k ≤ 4) := fun q h => by
              obtain ⟨h1, h4, _⟩ := checkF_ok (right_ok h0 q.1 (by rw [← hq]; exact List.mem_map_of_mem h))
              exact ⟨h1, h4⟩
            have hql : qs.length ≤ 40 := by have := congrArg List.length hq; rw [List.length_map] at this; omega
            rw [h0]
            clear hset hq SET NO h0 BB
            go_wp2_with fail
            refine RAll.out.mono ?_
            rintro e w8 ⟨rfl, hb8⟩
            have B8 := Lib.hid (B7.out.trans (hb8.mono B7.out.size))
            have S8 := Lib.hid (S7.out.below hb8)
            have A8 := Lib.hid (all_any l _ x lv w8 (MA.out.below B8.out) (LX.out.below B8.out) (tabs_below HT.out B8.out) (Nat.le_trans hw B8.out.size))
            clear hb8 S7 B7 RAll
            go_wp2_with fail
            refine A8.out.mono ?_
            rintro e w9 ⟨rfl, hb9⟩
            have B9 := Lib.hid (B8.out.trans (hb9.mono B8.out.size))
            have S9 := Lib.hid (S8.out.below hb9)
            have M9 := Lib.hid (setMatch_any w5.heap.size _ qs x lv w9 S9.out (LX.out.below B9.out) OK.out)
            rw [SB.out] at M9
            clear hb9 S8 B8 A8 SB
            generalize allF l x = af at *
            go_wp2_with fail
            refine M9.out.mono ?_
            rintro e w10 ⟨rfl, hb10⟩
            have B10 := Lib.hid (B9.out.trans (hb10.mono B9.out.size))
            have S10 := Lib.hid (S9.out.below hb10)
            have L10 := Lib.hid (setList_any w5.heap.size _ qs w10 S10.out (by omega))
            rw [HQ.out] at L10
            clear hb10 S9 B9 M9
            go_wp2_with fail
            refine L10.out.mono ?_
            rintro e w11 ⟨v, rfl, hms, hb11⟩
            have B11 := Lib.hid (B10.out.trans (hb11.mono B10.out.size))
            have S := Lib.hid (same_any l l v _ w11 (MsR.ms hms (by omega)) (MA.out.below B11.out))
            rw [eqMs_refl] at S
            clear hms hb11 B10 L10
            go_wp2_with fail
            refine S.out.mono ?_
            rintro e w12 ⟨rfl, hb12⟩
            go_wp2_with fail
            go_ret
            exact ⟨rfl, B11.out.trans (hb12.mono B11.out.size)⟩
          · obtain rfl := NO.out h0
            have hne : (rightF l == 0) = false := by simpa using h0
            clear SET NO h0 BB
            generalize rightF l = er at *
            go_wp2_with fail
            refine RAll.out.mono ?_
            rintro e w8 ⟨rfl, hb8⟩
            have B8 := Lib.hid (B7.out.trans (hb8.mono B7.out.size))
            have A8 := Lib.hid (all_any l _ x lv w8 (MA.out.below B8.out) (LX.out.below B8.out) (tabs_below HT.out B8.out) (Nat.le_trans hw B8.out.size))
            clear hb8 B7 RAll
            go_wp2_with fail
            refine A8.out.mono ?_
            rintro e w9 ⟨rfl, hb9⟩
            have B9 := Lib.hid (B8.out.trans (hb9.mono B8.out.size))
            clear hb9 B8 A8
            generalize allF l x = af at *
            go_wp2_with fail
            go_ret
            exact ⟨rfl, B9.out⟩
end Go.Proofs.YthlabaijaadocaaDoor
