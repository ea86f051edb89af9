import Derived.Test.YthlabaijaadocaaDoorNc
/-! Labels looked up; matchers asked. -/
namespace Go.Proofs.YthlabaijaadocaaDoor
open Go.RowKit Ut Rx Mt

/-- labels, in whatever memory -/
def Lb (w : World) (v : Value) (l : List L) : Prop :=
  ∃ A c, v = .slice A l.length c ∧ l.length * 40 ≤ 140737488351232 ∧ (∀ x ∈ l, x.v.size ≤ 900000) ∧ (l ≠ [] → ∃ b off, A = some ⟨b, off, none⟩ ∧ ∀ i (h : i < l.length), w.cell? ⟨b, off + i * 2, none⟩ = some (.string (l[i]'h).n) ∧ w.cell? ⟨b, off + i * 2 + 1, none⟩ = some (.string (l[i]'h).v))
theorem Lb.below {w w' : World} {v : Value} {l : List L} (h : Lb w v l) (b : Below w.heap.size w w') : Lb w' v l := by
  obtain ⟨A, c, e, hb, hs, hl⟩ := h
  refine ⟨A, c, e, hb, hs, fun hne => ?_⟩
  obtain ⟨bb, off, ea, hc⟩ := hl hne
  refine ⟨bb, off, ea, fun i hi => ?_⟩
  obtain ⟨c0, c1⟩ := hc i hi
  have lt : bb < w.heap.size := World.block_lt_of_cell? w _ c0
  exact ⟨(b.cell (p := ⟨bb, off + i * 2, none⟩) lt).trans c0, (b.cell (p := ⟨bb, off + i * 2 + 1, none⟩) lt).trans c1⟩
theorem getF_size {l : List L} (h : ∀ x ∈ l, x.v.size ≤ 900000) (n : List UInt8) : (getF l n).size ≤ 900000 := by
  induction l with
  | nil => show 0 ≤ _; omega
  | cons x t ih =>
    unfold getF
    split
    · exact h x (List.mem_cons_self ..)
    · exact ih fun y hy => h y (List.mem_cons_of_mem _ hy)
def StrBelow (w : World) (s : ByteArray) (e : Ending) (w' : World) : Prop := e = .returned (.string s) ∧ Below w.heap.size w w'

set_option maxRecDepth 100000 in
set_option maxHeartbeats 4000000 in
theorem get_any (l : List L) (lv : Value) (n : ByteArray) (w : World) (hl : Lb w lv l) :
    Calls Tryd.prog 66 #[lv, .string n] w (StrBelow w (getF l (by_ n))) := by
  obtain ⟨A, c, rfl, hbig, hsz, hcells⟩ := hl
  have HC := Lib.hid hcells
  clear hcells hsz
  have B0 : Hid (Below w.heap.size w w) := Below.refl _ _
  go_enter Tryd.func66, Tryd.ntmps66
  go_wp2_with fail
  go_loopg [9] l.length (fun gk vk wr => ∃ k : Nat, vk = .int .i64 k ∧ k + gk = l.length ∧ Hid (getF (l.drop k) (by_ n) = getF l (by_ n)) ∧ Hid (Below w.heap.size w wr))
  case atStart => exact ⟨0, rfl, by omega, rfl, B0⟩
  case round =>
    obtain ⟨k, rfl, hk, HR, HB⟩ := hrel
    clear B0
    by_cases hlt : k < l.length
    · obtain ⟨b, off, rfl, hc⟩ := HC.out (fun e => by rw [e] at hlt; simp at hlt)
      obtain ⟨c0', c1'⟩ := hc k hlt
      have lb : b < w.heap.size := World.block_lt_of_cell? w _ c0'
      have c0 := (HB.out.cell (p := ⟨b, off + k * 2, none⟩) lb).trans c0'
      have c1 := (HB.out.cell (p := ⟨b, off + k * 2 + 1, none⟩) lb).trans c1'
      have HD : Hid (l.drop k = ⟨(l[k]'hlt).n, (l[k]'hlt).v⟩ :: l.drop (k + 1)) := List.drop_eq_getElem_cons hlt
      clear hc c0' c1' HC
      generalize (l[k]'hlt).n = mn at *
      generalize (l[k]'hlt).v = mv at *
      by_cases hq : mn = n
      · subst hq
        have E : Hid (getF l (by_ mn) = mv) := by
          have := HR.out
          rw [HD.out, getF, if_pos (by simp)] at this
          exact this.symm
        go_wp2_with fail
        go_ret
        rw [E.out]
        exact ⟨rfl, HB.out.alloc HB.out.size _⟩
      · have hne : (mn.toList == n.toList) = false := by
          rw [tl_eq, tl_eq]
          simp only [beq_eq_false_iff_ne, ne_eq]
          intro e
          exact hq (ByteArray.ext (Array.ext' e))
        have R2 : Hid (getF (l.drop (k + 1)) (by_ n) = getF l (by_ n)) := by
          have := HR.out
          rw [HD.out, getF, if_neg (by rw [tl_eq, tl_eq] at hne; simpa using hne)] at this
          exact this
        clear hq
        go_wp2_with fail
        go_roundg (l.length - (k + 1))
        case measure => omega
        case rel => exact ⟨k + 1, by simp, by omega, R2, HB.out.alloc HB.out.size _⟩
    · have hkl : k = l.length := by omega
      subst hkl
      have E : Hid (getF l (by_ n) = ⟨#[]⟩) := by
        have := HR.out
        rw [List.drop_length] at this
        exact this.symm
      go_wp2_with fail
      go_ret
      rw [E.out]
      exact ⟨rfl, HB.out⟩

/-- the cells of a row -/
theorem asC_at : ∀ (qs : List (M × Option Addr)) (k : Nat) (h : k < qs.length), (asC qs)[k * 4]? = some (.int .i64 (qs[k]'h).1.k) ∧ (asC qs)[k * 4 + 1]? = some (.string (qs[k]'h).1.n) ∧ (asC qs)[k * 4 + 2]? = some (.string (qs[k]'h).1.v) ∧ (asC qs)[k * 4 + 3]? = some (.pointer (qs[k]'h).2)
  | [], k, h => by simp at h
  | q :: t, 0, h => ⟨rfl, rfl, rfl, rfl⟩
  | q :: t, k + 1, h => by
    have := asC_at t k (by simpa using h)
    have e : asC (q :: t) = [.int .i64 q.1.k, .string q.1.n, .string q.1.v, .pointer q.2] ++ asC t := rfl
    rw [e, List.getElem?_append_right (by simp; omega), List.getElem?_append_right (by simp; omega), List.getElem?_append_right (by simp; omega), List.getElem?_append_right (by simp; omega)]
    simp only [List.length_cons, List.length_nil, List.getElem_cons_succ]
    rw [show (k + 1) * 4 - (0 + 1 + 1 + 1 + 1) = k * 4 by omega, show (k + 1) * 4 + 1 - (0 + 1 + 1 + 1 + 1) = k * 4 + 1 by omega, show (k + 1) * 4 + 2 - (0 + 1 + 1 + 1 + 1) = k * 4 + 2 by omega, show (k + 1) * 4 + 3 - (0 + 1 + 1 + 1 + 1) = k * 4 + 3 by omega]
    exact this

set_option maxRecDepth 100000 in
set_option maxHeartbeats 4000000 in
theorem pass_any (base : Nat) (qs : List (M × Option Addr)) (qv : Value) (l : List L) (lv : Value) (w : World) (hq : AsR w base qv qs) (hl : Lb w lv l) (hok : ∀ q ∈ qs, 1 ≤ q.1.k ∧ q.1.k ≤ 4) :
    Calls Tryd.prog 46 #[qv, lv] w (BoolBelow w (passAll (qs.map (·.1)) l)) := by
  obtain ⟨g, cap, rfl, lg⟩ : ∃ g cap, qv = .slice (some ⟨g, 0, none⟩) qs.length cap ∧ g < w.heap.size := by
    obtain ⟨h1, g, hg, _⟩ := hq
    have := h1.lt g hg
    obtain ⟨_, h2⟩ := h1
    rcases h2 with ⟨rfl, _⟩ | ⟨g', cap, _, rfl, _⟩
    · cases hg
    · cases hg
      exact ⟨_, _, rfl, this.2⟩
  have hqn : qs.length ≤ maxLen := by
    obtain ⟨⟨_, h2⟩, _⟩ := hq
    rcases h2 with ⟨h, _⟩ | ⟨_, _, _, e, _, _, h1, h2, _⟩
    · cases h
    · cases e; omega
  unfold maxLen at hqn
  have HQ := Lib.hid hq
  have HL := Lib.hid hl
  have HOK := Lib.hid hok
  have HGS := Lib.hid (fun m => getF_size (l := l) (by obtain ⟨_, _, _, _, h, _⟩ := hl; exact h) m)
  clear hq hl hok
  have B0 : Hid (Below w.heap.size w w) := Below.refl _ _
  go_enter Tryd.func46, Tryd.ntmps46
  go_wp2_with fail
  go_loopg [9] qs.length (fun gk vk wr => ∃ k : Nat, vk = .int .i64 k ∧ k + gk = qs.length ∧ Hid (passAll ((qs.drop k).map (·.1)) l = passAll (qs.map (·.1)) l) ∧ Hid (Below w.heap.size w wr))
  case atStart => exact ⟨0, rfl, by omega, rfl, B0⟩
  case round =>
    obtain ⟨k, rfl, hk, HR, HB⟩ := hrel
    clear B0
    by_cases hlt : k < qs.length
    · obtain ⟨e0, e1, e2, e3⟩ := asC_at qs k hlt
      have cc : ∀ j u, (asC qs)[j]? = some u → wr.cell? ⟨g, j, none⟩ = some u := fun j u h => by
        have := HQ.out.1.cells (g := g) rfl j u h
        have e : ((⟨g, 0, none⟩ : Addr).add j) = ⟨g, j, none⟩ := by simp [Addr.add]; omega
        rw [e] at this
        exact (HB.out.cell (p := ⟨g, j, none⟩) lg).trans this
      have c0 := cc _ _ e0
      have c1 := cc _ _ e1
      have c2 := cc _ _ e2
      have c3 := cc _ _ e3
      have HD : Hid ((qs.drop k).map (·.1) = (qs[k]'hlt).1 :: (qs.drop (k + 1)).map (·.1)) := by show _ = _; rw [List.drop_eq_getElem_cons hlt]; rfl
      have hok := HOK.out _ (List.getElem_mem hlt)
      have hask : AskOk w (qs[k]'hlt).1 (.pointer (qs[k]'hlt).2) := by
        obtain ⟨_, g', _, ha⟩ := HQ.out
        exact (ha _ (List.getElem_mem hlt)).ok
      have HA := Lib.hid (fun w' (b : Below w.heap.size w w') => hask.below b)
      clear cc e0 e1 e2 e3 hask
      generalize (qs[k]'hlt).2 = px at *
      generalize (qs[k]'hlt).1 = m at *
      obtain ⟨mk, mn, mv⟩ := m
      simp only at c0 c1 c2 c3 hok
      have B1 := Lib.hid (HB.out.alloc HB.out.size (.cells #[.int .i64 mk, .string mn, .string mv, .pointer px] 70))
      have hv := heap_alloc_new wr (.cells #[.int .i64 mk, .string mn, .string mv, .pointer px] 70)
      have lv1 : wr.heap.size < (wr.alloc (.cells #[.int .i64 mk, .string mn, .string mv, .pointer px] 70)).heap.size := by simp
      go_upto_region 4 with fail
      generalize (wr.alloc (.cells #[.int .i64 mk, .string mn, .string mv, .pointer px] 70)) = w1 at *
      have KP : Hid (∀ w', Below w1.heap.size w1 w' → w'.cell? ⟨wr.heap.size, 0, none⟩ = some (.int .i64 mk) ∧ w'.cell? ⟨wr.heap.size, 1, none⟩ = some (.string mn) ∧ w'.cell? ⟨wr.heap.size, 2, none⟩ = some (.string mv) ∧ w'.cell? ⟨wr.heap.size, 3, none⟩ = some (.pointer px) ∧ Below w1.heap.size w1 w') := fun w' b => by
        obtain ⟨d0, d1, d2, d3, _⟩ := cells4 ((b.block _ lv1).trans hv)
        exact ⟨d0, d1, d2, d3, b⟩
      have GE : Hid (∀ w', Below w1.heap.size w1 w' → Calls Tryd.prog 66 #[lv, .string mn] w' (fun e w2 => e = .returned (.string (getF l (by_ mn))) ∧ Below w1.heap.size w1 w2)) := fun w' b =>
        (get_any l lv mn w' (HL.out.below (B1.out.trans (b.mono B1.out.size)))).mono fun e w2 h => ⟨h.1, b.trans (h.2.mono b.size)⟩
      have PE : Hid (∀ w', Below w1.heap.size w1 w' → Calls Tryd.prog 48 #[.agg #[.int .i64 mk, .string mn, .string mv, .pointer px], .string (getF l (by_ mn))] w' (fun e w2 => e = .returned (.bool (passF ⟨mk, mn, mv⟩ (getF l (by_ mn)))) ∧ Below w1.heap.size w1 w2)) := fun w' b =>
        (passes_any mk mn mv px (getF l (by_ mn)) w' (HA.out _ (B1.out.trans (b.mono B1.out.size))) (HGS.out _) hok.1 hok.2).mono fun e w2 h => ⟨h.1, b.trans (h.2.mono b.size)⟩
      have hb0 : Below w1.heap.size w1 w1 := Below.refl _ _
      obtain ⟨d0, d1, d2, d3, _⟩ := KP.out w1 hb0
      clear hv c0 c1 c2 c3
      generalize hgv : getF l (by_ mn) = gv at *
      have HGV := Lib.hid hgv
      generalize hpv : passF ⟨mk, mn, mv⟩ gv = pv at *
      have HPV := Lib.hid hpv
      clear hgv hpv
      go_region_held3 (fun w' => w'.cell? ⟨wr.heap.size, 0, none⟩ = some (.int .i64 mk) ∧ w'.cell? ⟨wr.heap.size, 1, none⟩ = some (.string mn) ∧ w'.cell? ⟨wr.heap.size, 2, none⟩ = some (.string mv) ∧ w'.cell? ⟨wr.heap.size, 3, none⟩ = some (.pointer px) ∧ Below w1.heap.size w1 w')
        ((refine KP.out _ ?_; (try go_split_ands); (repeat (first | refine Below.drew ?_ | refine below_drewN ?_ _)); assumption))
        (first
          | (go_at_call 66; refine Calls.mono (GE.out _ ?_) ?_; (repeat (first | refine Below.drew ?_ | refine below_drewN ?_ _)); assumption; rintro e w' ⟨rfl, hb9⟩)
          | (go_at_call 48; refine Calls.mono (PE.out _ ?_) ?_; (repeat (first | refine Below.drew ?_ | refine below_drewN ?_ _)); assumption; rintro e w' ⟨rfl, hb9⟩))
      all_goals
        have B2 := Lib.hid (B1.out.trans (hb9.mono B1.out.size))
        have HP : Hid (passAll (qs.map (·.1)) l = (pv && passAll ((qs.drop (k + 1)).map (·.1)) l)) := by
          have := HR.out
          rw [HD.out] at this
          have e : passAll (⟨mk, mn, mv⟩ :: (qs.drop (k + 1)).map (·.1)) l = (passF ⟨mk, mn, mv⟩ (getF l (by_ mn)) && passAll ((qs.drop (k + 1)).map (·.1)) l) := rfl
          rw [e, HGV.out, HPV.out] at this
          exact this.symm
        clear HR HD GE PE KP d0 d1 d2 d3 HA hb9
        cases pv with
        | true =>
          go_wp2_with fail
          go_roundg (qs.length - (k + 1))
          case measure => omega
          case rel => exact ⟨k + 1, by simp, by omega, by show _ = _; rw [HP.out, Bool.true_and], B2⟩
        | false =>
          go_wp2_with fail
          go_ret
          rw [HP.out]
          exact ⟨rfl, B2.out⟩
    · have hkl : k = qs.length := by omega
      subst hkl
      have E : Hid (passAll (qs.map (·.1)) l = true) := by
        have := HR.out
        rw [List.drop_length] at this
        exact this.symm
      go_wp2_with fail
      go_ret
      rw [E.out]
      exact ⟨rfl, HB.out⟩

theorem readyGo_ok : ∀ (l : List M) (st : Bool), readyGo l st = 0 → ∀ m ∈ l, checkF m = 0
  | [], _, _, m, h => by cases h
  | x :: t, st, hr, m, h => by
    unfold readyGo at hr
    split at hr
    · rename_i h0
      rcases List.mem_cons.1 h with rfl | h
      · exact h0
      · exact readyGo_ok t _ hr m h
    · rename_i h0; exact absurd hr h0
theorem right_ok {l : List M} (h : rightF l = 0) : ∀ m ∈ l, checkF m = 0 := by
  unfold rightF at h
  split at h
  · cases h
  · exact readyGo_ok l false h

set_option maxHeartbeats 2000000 in
theorem right_any (l : List M) (lv : Value) (w : World) (hl : Ms w lv l) (hT : Lib.Utf8Tabs 0 1 w) (hw : 2 ≤ w.heap.size) :
    Calls Tryd.prog 16 #[lv] w (IntBelow w (rightF l)) := by
  have R := Lib.hid (ready_any l lv w hl hT hw)
  clear hl hT hw
  go_enter Tryd.func16, Tryd.ntmps16
  go_wp2_with fail
  refine R.out.mono ?_
  rintro e w1 ⟨hb, h⟩
  rcases h with ⟨h0, v, qs, rfl, _, _⟩ | ⟨hn, rfl⟩
  · go_wp2_with fail
    go_ret
    rw [h0]
    exact ⟨rfl, hb⟩
  · go_wp2_with fail
    go_ret
    exact ⟨rfl, hb⟩

set_option maxHeartbeats 2000000 in
theorem all_any (l : List M) (mv : Value) (x : List L) (lv : Value) (w : World) (hm : Ms w mv l) (hl : Lb w lv x) (hT : Lib.Utf8Tabs 0 1 w) (hw : 2 ≤ w.heap.size) :
    Calls Tryd.prog 24 #[mv, lv] w (BoolBelow w (allF l x)) := by
  have R := Lib.hid (ready_any l mv w hm hT hw)
  have HL := Lib.hid hl
  clear hl hT hw hm
  go_enter Tryd.func24, Tryd.ntmps24
  go_wp2_with fail
  refine R.out.mono ?_
  rintro e w1 ⟨hb, h⟩
  rcases h with ⟨h0, v, qs, rfl, hq, hr⟩ | ⟨hn, rfl⟩
  · have P := Lib.hid (pass_any w.heap.size qs v x lv w1 hr (HL.out.below hb) (fun q h => by
      obtain ⟨h1, h4, _⟩ := checkF_ok (right_ok h0 q.1 (by rw [← hq]; exact List.mem_map_of_mem h))
      exact ⟨h1, h4⟩))
    have E : Hid (allF l x = passAll (qs.map (·.1)) x) := by show _ = _; unfold allF; rw [h0, hq]; simp
    clear h0 hq hr
    go_wp2_with fail
    refine P.out.mono ?_
    rintro e w2 ⟨rfl, hb2⟩
    go_wp2_with fail
    go_ret
    rw [E.out]
    exact ⟨rfl, hb.trans (hb2.mono hb.size)⟩
  · have E : Hid (allF l x = false) := by show _ = _; unfold allF; rw [decide_eq_false hn]; rfl
    have hne : (rightF l == 0) = false := by simpa using hn
    clear hn
    generalize rightF l = er at *
    go_wp2_with fail
    go_ret
    rw [E.out]
    exact ⟨rfl, hb⟩

set_option maxHeartbeats 2000000 in
theorem one_any (k : Int) (n v a : ByteArray) (w : World) (ha : a.size ≤ 900000) (hT : Lib.Utf8Tabs 0 1 w) (hw : 2 ≤ w.heap.size) :
    Calls Tryd.prog 25 #[.agg #[.int .i64 k, .string n, .string v], .string a] w (BoolBelow w (oneB ⟨k, n, v⟩ a)) := by
  have B0 : Hid (Below w.heap.size w (w.alloc (.cells #[.int .i64 k, .string n, .string v] 26))) := (Below.refl _ _).alloc (Nat.le_refl _) _
  have R := Lib.hid (ask_any k n v (w.alloc (.cells #[.int .i64 k, .string n, .string v] 26)) (tabs_below hT B0.out) (Nat.le_trans hw B0.out.size))
  clear hT
  go_enter Tryd.func25, Tryd.ntmps25
  go_wp2_with fail
  refine R.out.mono ?_
  rintro e w1 ⟨hb, h⟩
  have HB : Hid (Below w.heap.size w w1) := B0.out.trans (hb.mono B0.out.size)
  rcases h with ⟨h0, px, rfl, hq⟩ | ⟨hn, rfl⟩
  · obtain ⟨h1, h4, _, _⟩ := checkF_ok h0
    have E : Hid (oneB ⟨k, n, v⟩ a = passF ⟨k, n, v⟩ a) := by show _ = _; unfold oneB; rw [h0]; simp
    have B2 : Hid (Below w.heap.size w (w1.alloc (.cells #[.int .i64 k, .string n, .string v, .pointer px] 70))) := HB.out.alloc HB.out.size _
    have P := Lib.hid (passes_any k n v px a (w1.alloc (.cells #[.int .i64 k, .string n, .string v, .pointer px] 70)) ((hq 0 (by simp)).ok.below ((Below.refl _ _).alloc (Nat.le_refl _) _)) ha h1 h4)
    clear h0 hq hb h1 h4
    go_wp2_with fail
    refine P.out.mono ?_
    rintro e w2 ⟨rfl, hb2⟩
    go_wp2_with fail
    go_ret
    rw [E.out]
    exact ⟨rfl, B2.out.trans (hb2.mono B2.out.size)⟩
  · have E : Hid (oneB ⟨k, n, v⟩ a = false) := by show _ = _; unfold oneB; rw [decide_eq_false hn]; rfl
    have hne : (checkF ⟨k, n, v⟩ == 0) = false := by simpa using hn
    clear hn hb
    generalize checkF ⟨k, n, v⟩ = er at *
    go_wp2_with fail
    go_ret
    rw [E.out]
    exact ⟨rfl, HB.out.alloc HB.out.size _⟩
end Go.Proofs.YthlabaijaadocaaDoor
