import Derived.Test.YthlabaijaadocaaDoorXNc
import Derived.Laws.IdiomStrings
/-! Labels looked up; matchers asked. -/
namespace Go.Proofs.YthlabaijaadocaaDoor
open Go.RowKit Ut Rx Mt

/-- labels, in whatever memory -/
def Lb (w : World) (v : Value) (l : List L) : Prop :=
  ∃ A c, v = .slice A l.length c ∧ l.length * 40 ≤ 140737488351232 ∧ (∀ x ∈ l, x.v.size ≤ 900000) ∧ (l ≠ [] → ∃ b off, A = some ⟨b, off, none⟩ ∧ ∀ i (h : i < l.length), w.cell? ⟨b, off + i * 2, none⟩ = some (.string (l[i]'h).n) ∧ w.cell? ⟨b, off + i * 2 + 1, none⟩ = some (.string (l[i]'h).v))
theorem Lb.below {w w' : World} {v : Value} {l : List L} (h : Lb w v l) (b : Below w.heap.size w w') : Lb w' v l := by
  obtain ⟨A, c, e, hb, hs, hl⟩ := h
  refine ⟨A, c, e, hb, hs, fun hne => ?_⟩
  obtain ⟨bb, off, ea, hc⟩ := hl hne
  refine ⟨bb, off, ea, fun i hi => ?_⟩
  obtain ⟨c0, c1⟩ := hc i hi
  have lt : bb < w.heap.size := World.block_lt_of_cell? w _ c0
  exact ⟨(b.cell (p := ⟨bb, off + i * 2, none⟩) lt).trans c0, (b.cell (p := ⟨bb, off + i * 2 + 1, none⟩) lt).trans c1⟩
theorem getF_size {l : List L} (h : ∀ x ∈ l, x.v.size ≤ 900000) (n : List UInt8) : (getF l n).size ≤ 900000 := by
  induction l with
  | nil => show 0 ≤ _; omega
  | cons x t ih =>
    unfold getF
    split
    · exact h x (List.mem_cons_self ..)
    · exact ih fun y hy => h y (List.mem_cons_of_mem _ hy)
def StrBelow (w : World) (s : ByteArray) (e : Ending) (w' : World) : Prop := e = .returned (.string s) ∧ Below w.heap.size w w'

set_option maxRecDepth 100000 in
set_option maxHeartbeats 4000000 in
theorem get_any (l : List L) (lv : Value) (n : ByteArray) (w : World) (hl : Lb w lv l) :
    Calls Tryd.prog 66 #[lv, .string n] w (StrBelow w (getF l (by_ n))) := by
  obtain ⟨A, c, rfl, hbig, hsz, hcells⟩ := hl
  have HC := Lib.hid hcells
  clear hcells hsz
  have B0 : Hid (Below w.heap.size w w) := Below.refl _ _
  go_enter Tryd.func66, Tryd.ntmps66
  go_wp2_with fail
  go_loopg [9] l.length (fun gk vk wr => ∃ k : Nat, vk = .int .i64 k ∧ k + gk = l.length ∧ Hid (getF (l.drop k) (by_ n) = getF l (by_ n)) ∧ Hid (Below w.heap.size w wr))
  case atStart => exact ⟨0, rfl, by omega, rfl, B0⟩
  case round =>
    obtain ⟨k, rfl, hk, HR, HB⟩ := hrel
    clear B0
    by_cases hlt : k < l.length
    · obtain ⟨b, off, rfl, hc⟩ := HC.out (fun e => by rw [e] at hlt; simp at hlt)
      obtain ⟨c0', c1'⟩ := hc k hlt
      have lb : b < w.heap.size := World.block_lt_of_cell? w _ c0'
      have c0 := (HB.out.cell (p := ⟨b, off + k * 2, none⟩) lb).trans c0'
      have c1 := (HB.out.cell (p := ⟨b, off + k * 2 + 1, none⟩) lb).trans c1'
      have HD : Hid (l.drop k = ⟨(l[k]'hlt).n, (l[k]'hlt).v⟩ :: l.drop (k + 1)) := List.drop_eq_getElem_cons hlt
      clear hc c0' c1' HC
      generalize (l[k]'hlt).n = mn at *
      generalize (l[k]'hlt).v = mv at *
      by_cases hq : mn = n
      · subst hq
        have E : Hid (getF l (by_ mn) = mv) := by
          have := HR.out
          rw [HD.out, getF, if_pos (by simp)] at this
          exact this.symm
        go_wp2_with fail
        go_ret
        rw [E.out]
        exact ⟨rfl, HB.out.alloc HB.out.size _⟩
      · have hne : (mn.toList == n.toList) = false := by
          rw [tl_eq, tl_eq]
          simp only [beq_eq_false_iff_ne, ne_eq]
          intro e
          exact hq (ByteArray.ext (Array.ext' e))
        have R2 : Hid (getF (l.drop (k + 1)) (by_ n) = getF l (by_ n)) := by
          have := HR.out
          rw [HD.out, getF, if_neg (by rw [tl_eq, tl_eq] at hne; simpa using hne)] at this
          exact this
        clear hq
        go_wp2_with fail
        go_roundg (l.length - (k + 1))
        case measure => omega
        case rel => exact ⟨k + 1, by simp, by omega, R2, HB.out.alloc HB.out.size _⟩
    · have hkl : k = l.length := by omega
      subst hkl
      have E : Hid (getF l (by_ n) = ⟨#[]⟩) := by
        have := HR.out
        rw [List.drop_length] at this
        exact this.symm
      go_wp2_with fail
      go_ret
      rw [E.out]
      exact ⟨rfl, HB.out⟩

/-- the cells of a row -/
theorem asC_at : ∀ (qs : List (M × Option Addr)) (k : Nat) (h : k < qs.length), (asC qs)[k * 4]? = some (.int .i64 (qs[k]'h).1.k) ∧ (asC qs)[k * 4 + 1]? = some (.string (qs[k]'h).1.n) ∧ (asC qs)[k * 4 + 2]? = some (.string (qs[k]'h).1.v) ∧ (asC qs)[k * 4 + 3]? = some (.pointer (qs[k]'h).2)
  | [], k, h => by simp at h
  | q :: t, 0, h => ⟨rfl, rfl, rfl, rfl⟩
  | q :: t, k + 1, h => by
    have := asC_at t k (by simpa using h)
    have e : asC (q :: t) = [.int .i64 q.1.k, .string q.1.n, .string q.1.v, .pointer q.2] ++ asC t := rfl
    rw [e, List.getElem?_append_right (by simp; omega), List.getElem?_append_right (by simp; omega), List.getElem?_append_right (by simp; omega), List.getElem?_append_right (by simp; omega)]
    simp only [List.length_cons, List.length_nil, List.getElem_cons_succ]
    rw [show (k + 1) * 4 - (0 + 1 + 1 + 1 + 1) = k * 4 by omega, show (k + 1) * 4 + 1 - (0 + 1 + 1 + 1 + 1) = k * 4 + 1 by omega, show (k + 1) * 4 + 2 - (0 + 1 + 1 + 1 + 1) = k * 4 + 2 by omega, show (k + 1) * 4 + 3 - (0 + 1 + 1 + 1 + 1) = k * 4 + 3 by omega]
    exact this

set_option maxRecDepth 100000 in
set_option maxHeartbeats 4000000 in
theorem pass_any (base : Nat) (qs : List (M × Option Addr)) (qv : Value) (l : List L) (lv : Value) (w : World) (hq : AsR w base qv qs) (hl : Lb w lv l) (hok : ∀ q ∈ qs, 1 ≤ q.1.k ∧ q.1.k ≤ 4) :
    Calls Tryd.prog 46 #[qv, lv] w (BoolBelow w (passAll (qs.map (·.1)) l)) := by
  obtain ⟨g, cap, rfl, lg⟩ : ∃ g cap, qv = .slice (some ⟨g, 0, none⟩) qs.length cap ∧ g < w.heap.size := by
    obtain ⟨h1, g, hg, _⟩ := hq
    have := h1.lt g hg
    obtain ⟨_, h2⟩ := h1
    rcases h2 with ⟨rfl, _⟩ | ⟨g', cap, _, rfl, _⟩
    · cases hg
    · cases hg
      exact ⟨_, _, rfl, this.2⟩
  have hqn : qs.length ≤ maxLen := by
    obtain ⟨⟨_, h2⟩, _⟩ := hq
    rcases h2 with ⟨h, _⟩ | ⟨_, _, _, e, _, _, h1, h2, _⟩
    · cases h
    · cases e; omega
  unfold maxLen at hqn
  have HQ := Lib.hid hq
  have HL := Lib.hid hl
  have HOK := Lib.hid hok
  have HGS := Lib.hid (fun m => getF_size (l := l) (by obtain ⟨_, _, _, _, h, _⟩ := hl; exact h) m)
  clear hq hl hok
  have B0 : Hid (Below w.heap.size w w) := Below.refl _ _
  go_enter Tryd.func46, Tryd.ntmps46
  go_wp2_with fail
  go_loopg [9] qs.length (fun gk vk wr => ∃ k : Nat, vk = .int .i64 k ∧ k + gk = qs.length ∧ Hid (passAll ((qs.drop k).map (·.1)) l = passAll (qs.map (·.1)) l) ∧ Hid (Below w.heap.size w wr))
  case atStart => exact ⟨0, rfl, by omega, rfl, B0⟩
  case round =>
    obtain ⟨k, rfl, hk, HR, HB⟩ := hrel
    clear B0
    by_cases hlt : k < qs.length
    · obtain ⟨e0, e1, e2, e3⟩ := asC_at qs k hlt
      have cc : ∀ j u, (asC qs)[j]? = some u → wr.cell? ⟨g, j, none⟩ = some u := fun j u h => by
        have := HQ.out.1.cells (g := g) rfl j u h
        have e : ((⟨g, 0, none⟩ : Addr).add j) = ⟨g, j, none⟩ := by simp [Addr.add]; omega
        rw [e] at this
        exact (HB.out.cell (p := ⟨g, j, none⟩) lg).trans this
      have c0 := cc _ _ e0
      have c1 := cc _ _ e1
      have c2 := cc _ _ e2
      have c3 := cc _ _ e3
      have HD : Hid ((qs.drop k).map (·.1) = (qs[k]'hlt).1 :: (qs.drop (k + 1)).map (·.1)) := by show _ = _; rw [List.drop_eq_getElem_cons hlt]; rfl
      have hok := HOK.out _ (List.getElem_mem hlt)
      have hask : AskOk w (qs[k]'hlt).1 (.pointer (qs[k]'hlt).2) := by
        obtain ⟨_, g', _, ha⟩ := HQ.out
        exact (ha _ (List.getElem_mem hlt)).ok
      have HA := Lib.hid (fun w' (b : Below w.heap.size w w') => hask.below b)
      clear cc e0 e1 e2 e3 hask
      generalize (qs[k]'hlt).2 = px at *
      generalize (qs[k]'hlt).1 = m at *
      obtain ⟨mk, mn, mv⟩ := m
      simp only at c0 c1 c2 c3 hok
      have B1 := Lib.hid (HB.out.alloc HB.out.size (.cells #[.int .i64 mk, .string mn, .string mv, .pointer px] 70))
      have hv := heap_alloc_new wr (.cells #[.int .i64 mk, .string mn, .string mv, .pointer px] 70)
      have lv1 : wr.heap.size < (wr.alloc (.cells #[.int .i64 mk, .string mn, .string mv, .pointer px] 70)).heap.size := by simp
      go_upto_region 4 with fail
      generalize (wr.alloc (.cells #[.int .i64 mk, .string mn, .string mv, .pointer px] 70)) = w1 at *
      have KP : Hid (∀ w', Below w1.heap.size w1 w' → w'.cell? ⟨wr.heap.size, 0, none⟩ = some (.int .i64 mk) ∧ w'.cell? ⟨wr.heap.size, 1, none⟩ = some (.string mn) ∧ w'.cell? ⟨wr.heap.size, 2, none⟩ = some (.string mv) ∧ w'.cell? ⟨wr.heap.size, 3, none⟩ = some (.pointer px) ∧ Below w1.heap.size w1 w') := fun w' b => by
        obtain ⟨d0, d1, d2, d3, _⟩ := cells4 ((b.block _ lv1).trans hv)
        exact ⟨d0, d1, d2, d3, b⟩
      have GE : Hid (∀ w', Below w1.heap.size w1 w' → Calls Tryd.prog 66 #[lv, .string mn] w' (fun e w2 => e = .returned (.string (getF l (by_ mn))) ∧ Below w1.heap.size w1 w2)) := fun w' b =>
        (get_any l lv mn w' (HL.out.below (B1.out.trans (b.mono B1.out.size)))).mono fun e w2 h => ⟨h.1, b.trans (h.2.mono b.size)⟩
      have PE : Hid (∀ w', Below w1.heap.size w1 w' → Calls Tryd.prog 48 #[.agg #[.int .i64 mk, .string mn, .string mv, .pointer px], .string (getF l (by_ mn))] w' (fun e w2 => e = .returned (.bool (passF ⟨mk, mn, mv⟩ (getF l (by_ mn)))) ∧ Below w1.heap.size w1 w2)) := fun w' b =>
        (passes_any mk mn mv px (getF l (by_ mn)) w' (HA.out _ (B1.out.trans (b.mono B1.out.size))) (HGS.out _) hok.1 hok.2).mono fun e w2 h => ⟨h.1, b.trans (h.2.mono b.size)⟩
      have hb0 : Below w1.heap.size w1 w1 := Below.refl _ _
      obtain ⟨d0, d1, d2, d3, _⟩ := KP.out w1 hb0
      clear hv c0 c1 c2 c3
      generalize hgv : getF l (by_ mn) = gv at *
      have HGV := Lib.hid hgv
      generalize hpv : passF ⟨mk, mn, mv⟩ gv = pv at *
      have HPV := Lib.hid hpv
      clear hgv hpv
      go_region_held3 (fun w' => w'.cell? ⟨wr.heap.size, 0, none⟩ = some (.int .i64 mk) ∧ w'.cell? ⟨wr.heap.size, 1, none⟩ = some (.string mn) ∧ w'.cell? ⟨wr.heap.size, 2, none⟩ = some (.string mv) ∧ w'.cell? ⟨wr.heap.size, 3, none⟩ = some (.pointer px) ∧ Below w1.heap.size w1 w')
        ((refine KP.out _ ?_; (try go_split_ands); (repeat (first | refine Below.drew ?_ | refine below_drewN ?_ _)); assumption))
        (first
          | (go_at_call 66; refine Calls.mono (GE.out _ ?_) ?_; (repeat (first | refine Below.drew ?_ | refine below_drewN ?_ _)); assumption; rintro e w' ⟨rfl, hb9⟩)
          | (go_at_call 48; refine Calls.mono (PE.out _ ?_) ?_; (repeat (first | refine Below.drew ?_ | refine below_drewN ?_ _)); assumption; rintro e w' ⟨rfl, hb9⟩))
      all_goals
        have B2 := Lib.hid (B1.out.trans (hb9.mono B1.out.size))
        have HP : Hid (passAll (qs.map (·.1)) l = (pv && passAll ((qs.drop (k + 1)).map (·.1)) l)) := by
          have := HR.out
          rw [HD.out] at this
          have e : passAll (⟨mk, mn, mv⟩ :: (qs.drop (k + 1)).map (·.1)) l = (passF ⟨mk, mn, mv⟩ (getF l (by_ mn)) && passAll ((qs.drop (k + 1)).map (·.1)) l) := rfl
          rw [e, HGV.out, HPV.out] at this
          exact this.symm
        clear HR HD GE PE KP d0 d1 d2 d3 HA hb9
        cases pv with
        | true =>
          go_wp2_with fail
          go_roundg (qs.length - (k + 1))
          case measure => omega
          case rel => exact ⟨k + 1, by simp, by omega, by show _ = _; rw [HP.out, Bool.true_and], B2⟩
        | false =>
          go_wp2_with fail
          go_ret
          rw [HP.out]
          exact ⟨rfl, B2.out⟩
    · have hkl : k = qs.length := by omega
      subst hkl
      have E : Hid (passAll (qs.map (·.1)) l = true) := by
        have := HR.out
        rw [List.drop_length] at this
        exact this.symm
      go_wp2_with fail
      go_ret
      rw [E.out]
      exact ⟨rfl, HB.out⟩

theorem readyGo_ok : ∀ (l : List M) (st : Bool), readyGo l st = 0 → ∀ m ∈ l, checkF m = 0
  | [], _, _, m, h => by cases h
  | x :: t, st, hr, m, h => by
    unfold readyGo at hr
    split at hr
    · rename_i h0
      rcases List.mem_cons.1 h with rfl | h
      · exact h0
      · exact readyGo_ok t _ hr m h
    · rename_i h0; exact absurd hr h0
theorem right_ok {l : List M} (h : rightF l = 0) : ∀ m ∈ l, checkF m = 0 := by
  unfold rightF at h
  split at h
  · cases h
  · exact readyGo_ok l false h

set_option maxHeartbeats 2000000 in
theorem right_any (l : List M) (lv : Value) (w : World) (hl : Ms w lv l) (hT : Lib.Utf8Tabs 0 1 w) (hw : 2 ≤ w.heap.size) :
    Calls Tryd.prog 16 #[lv] w (IntBelow w (rightF l)) := by
  have R := Lib.hid (ready_any l lv w hl hT hw)
  clear hl hT hw
  go_enter Tryd.func16, Tryd.ntmps16
  go_wp2_with fail
  refine R.out.mono ?_
  rintro e w1 ⟨hb, h⟩
  rcases h with ⟨h0, v, qs, rfl, _, _⟩ | ⟨hn, rfl⟩
  · go_wp2_with fail
    go_ret
    rw [h0]
    exact ⟨rfl, hb⟩
  · go_wp2_with fail
    go_ret
    exact ⟨rfl, hb⟩

set_option maxHeartbeats 2000000 in
theorem all_any (l : List M) (mv : Value) (x : List L) (lv : Value) (w : World) (hm : Ms w mv l) (hl : Lb w lv x) (hT : Lib.Utf8Tabs 0 1 w) (hw : 2 ≤ w.heap.size) :
    Calls Tryd.prog 24 #[mv, lv] w (BoolBelow w (allF l x)) := by
  have R := Lib.hid (ready_any l mv w hm hT hw)
  have HL := Lib.hid hl
  clear hl hT hw hm
  go_enter Tryd.func24, Tryd.ntmps24
  go_wp2_with fail
  refine R.out.mono ?_
  rintro e w1 ⟨hb, h⟩
  rcases h with ⟨h0, v, qs, rfl, hq, hr⟩ | ⟨hn, rfl⟩
  · have P := Lib.hid (pass_any w.heap.size qs v x lv w1 hr (HL.out.below hb) (fun q h => by
      obtain ⟨h1, h4, _⟩ := checkF_ok (right_ok h0 q.1 (by rw [← hq]; exact List.mem_map_of_mem h))
      exact ⟨h1, h4⟩))
    have E : Hid (allF l x = passAll (qs.map (·.1)) x) := by show _ = _; unfold allF; rw [h0, hq]; simp
    clear h0 hq hr
    go_wp2_with fail
    refine P.out.mono ?_
    rintro e w2 ⟨rfl, hb2⟩
    go_wp2_with fail
    go_ret
    rw [E.out]
    exact ⟨rfl, hb.trans (hb2.mono hb.size)⟩
  · have E : Hid (allF l x = false) := by show _ = _; unfold allF; rw [decide_eq_false hn]; rfl
    have hne : (rightF l == 0) = false := by simpa using hn
    clear hn
    generalize rightF l = er at *
    go_wp2_with fail
    go_ret
    rw [E.out]
    exact ⟨rfl, hb⟩

set_option maxHeartbeats 2000000 in
theorem one_any (k : Int) (n v a : ByteArray) (w : World) (ha : a.size ≤ 900000) (hT : Lib.Utf8Tabs 0 1 w) (hw : 2 ≤ w.heap.size) :
    Calls Tryd.prog 25 #[.agg #[.int .i64 k, .string n, .string v], .string a] w (BoolBelow w (oneB ⟨k, n, v⟩ a)) := by
  have B0 : Hid (Below w.heap.size w (w.alloc (.cells #[.int .i64 k, .string n, .string v] 26))) := (Below.refl _ _).alloc (Nat.le_refl _) _
  have R := Lib.hid (ask_any k n v (w.alloc (.cells #[.int .i64 k, .string n, .string v] 26)) (tabs_below hT B0.out) (Nat.le_trans hw B0.out.size))
  clear hT
  go_enter Tryd.func25, Tryd.ntmps25
  go_wp2_with fail
  refine R.out.mono ?_
  rintro e w1 ⟨hb, h⟩
  have HB : Hid (Below w.heap.size w w1) := B0.out.trans (hb.mono B0.out.size)
  rcases h with ⟨h0, px, rfl, hq⟩ | ⟨hn, rfl⟩
  · obtain ⟨h1, h4, _, _⟩ := checkF_ok h0
    have E : Hid (oneB ⟨k, n, v⟩ a = passF ⟨k, n, v⟩ a) := by show _ = _; unfold oneB; rw [h0]; simp
    have B2 : Hid (Below w.heap.size w (w1.alloc (.cells #[.int .i64 k, .string n, .string v, .pointer px] 70))) := HB.out.alloc HB.out.size _
    have P := Lib.hid (passes_any k n v px a (w1.alloc (.cells #[.int .i64 k, .string n, .string v, .pointer px] 70)) ((hq 0 (by simp)).ok.below ((Below.refl _ _).alloc (Nat.le_refl _) _)) ha h1 h4)
    clear h0 hq hb h1 h4
    go_wp2_with fail
    refine P.out.mono ?_
    rintro e w2 ⟨rfl, hb2⟩
    go_wp2_with fail
    go_ret
    rw [E.out]
    exact ⟨rfl, B2.out.trans (hb2.mono B2.out.size)⟩
  · have E : Hid (oneB ⟨k, n, v⟩ a = false) := by show _ = _; unfold oneB; rw [decide_eq_false hn]; rfl
    have hne : (checkF ⟨k, n, v⟩ == 0) = false := by simpa using hn
    clear hn hb
    generalize checkF ⟨k, n, v⟩ = er at *
    go_wp2_with fail
    go_ret
    rw [E.out]
    exact ⟨rfl, HB.out.alloc HB.out.size _⟩
end Go.Proofs.YthlabaijaadocaaDoor

/-! Texts between quotes. -/
namespace Go.Proofs.YthlabaijaadocaaDoor
open Go.RowKit Ut Rx Mt

def byC (l : List UInt8) : List Value := l.map fun b => .int .u8 (b.toNat : Int)
theorem byC_append (a b : List UInt8) : byC (a ++ b) = byC a ++ byC b := List.map_append
theorem byC_length (a : List UInt8) : (byC a).length = a.length := List.length_map ..
theorem byC_one (l : List UInt8) : ∀ u ∈ byC l, u.oneCell' = true := by
  intro u hu
  obtain ⟨b, _, rfl⟩ := List.mem_map.1 hu
  rfl
/-- bytes in a row of their own -/
def By (w : World) (base : Nat) (v : Value) (l : List UInt8) : Prop := w.ownsRow base 5 1 v l.length (byC l)
theorem By.back {w : World} {base : Nat} {v : Value} {l : List UInt8} (h : By w base v l) : (convert 126 9 v).run Tryd.prog w = .ok (.string ⟨l.toArray⟩) w := by
  rcases row_kinds h with ⟨rfl, hn⟩ | ⟨g, c, rfl, hc⟩
  · obtain rfl := List.eq_nil_of_length_eq_zero hn
    rw [run_convert_bytes_string w 126 9 5 none 0 0 (by kernel_rfl) (by kernel_rfl) (by kernel_rfl)]
    rfl
  · refine run_convert_bytes_back w 126 9 5 ⟨g, 0, none⟩ c l (by kernel_rfl) (by kernel_rfl) (by kernel_rfl) fun j hj => ?_
    have := World.ownsRow.cells h (g := g) rfl j (.int .u8 ((l[j]'hj).toNat : Int)) (by unfold byC; rw [List.getElem?_map, List.getElem?_eq_getElem hj]; rfl)
    exact this
theorem By.below {w w' : World} {base : Nat} {v : Value} {l : List UInt8} (h : By w base v l) (b : Below w.heap.size w w') : By w' base v l :=
  World.ownsRow.kept (row := none) h ⟨b.os, b.tape, b.output, b.size, fun k hk _ => b.block k hk⟩ (by cases v.ownBlock <;> simp)
theorem below_pushed {w wa wb : World} {base : Nat} {v : Value} {e size n : Nat} {xs : List Value} (hb : Below w.heap.size w wa) (h : wa.ownsRow base e size v n xs) (g : wa.grownBy wb v.ownBlock) (hk : w.heap.size ≤ base) : Below w.heap.size w wb := by
  cases hv : v.ownBlock with
  | none =>
    rw [hv] at g
    exact ⟨g.os.trans hb.os, g.tape.trans hb.tape, g.output.trans hb.output, Nat.le_trans hb.size g.size, fun q hq => (g.block q (Nat.lt_of_lt_of_le hq hb.size) (by simp)).trans (hb.block q hq)⟩
  | some k =>
    rw [hv] at g
    exact below_grown hb g (Nat.le_trans hk (h.lt k hv).1)
theorem infoU8 : (Tryd.prog.info? 5).map (fun i => (i.zero, i.size, i.bytes)) = some (some (.int .u8 0), 1, 1) := by kernel_rfl
theorem news_u8 (w : World) (b : Nat) (cs : Array Value) (xs : List Value) (h : cs.toList = xs) (hb : b = w.heap.size) : ∀ j u, xs[j]? = some u → (w.alloc (.cells cs 5)).cell? ((⟨b, 0, none⟩ : Addr).add j) = some u := by
  intro j u hu
  subst hb
  have e : ((⟨w.heap.size, 0, none⟩ : Addr).add j) = ⟨w.heap.size, j, none⟩ := by simp [Addr.add]; omega
  rw [e]
  rw [World.cell?_alloc_at _ _ _ _ rfl, ← hu, ← h]
  simp

theorem ub_eq (c : UInt8) (n : Nat) (hn : n < 256) : (((c.toNat : Int) == (n : Int)) = decide (c = UInt8.ofNat n)) := by
  by_cases h : c = UInt8.ofNat n
  · subst h
    have : (UInt8.ofNat n).toNat = n := by simp; omega
    rw [this]; simp
  · rw [decide_eq_false h]
    simp only [beq_eq_false_iff_ne, ne_eq]
    intro e
    have : c.toNat = n := by omega
    exact h (by rw [← this]; simp)
theorem uc_eq (c : UInt8) (n : Nat) (hn : n < 256) : (((c.toNat : Int) = (n : Int)) ↔ c = UInt8.ofNat n) := by
  constructor
  · intro h
    have : c.toNat = n := by omega
    rw [← this]; simp
  · rintro rfl
    have : (UInt8.ofNat n).toNat = n := by simp; omega
    rw [this]

theorem By.pushed {w wr w5 : World} {vo v' : Value} {acc nw : List UInt8} {o : Obj} (h : By wr w.heap.size vo acc) (b : Below w.heap.size w wr) (own : w5.ownsRow w.heap.size 5 1 v' (acc.length + nw.length) (byC acc ++ byC nw)) (g : (wr.alloc o).grownBy w5 vo.ownBlock) :
    By w5 w.heap.size v' (acc ++ nw) ∧ Below w.heap.size w w5 := by
  refine ⟨?_, below_pushed (b.alloc b.size o) (h.alloc o) g (Nat.le_refl _)⟩
  unfold By
  rw [byC_append, List.length_append]
  exact own

set_option maxRecDepth 100000 in
set_option maxHeartbeats 4000000 in
theorem quote_any (s : ByteArray) (w : World) (hs : s.size ≤ 1000000) : Calls Tryd.prog 63 #[.string s] w (StrBelow w ⟨(quoteF (by_ s)).toArray⟩) := by
  obtain ⟨i0, hi, hz0, hz1, hz2⟩ := info_parts infoU8
  have I0 : Hid (i0.zero = some (.int .u8 0) ∧ i0.size = 1 ∧ i0.bytes = 1 ∧ Tryd.prog.info? 5 = some i0) := ⟨hz0, hz1, hz2, hi⟩
  have O0 : Hid (By (w.alloc (.cells #[.int .u8 34] 5)) w.heap.size (.slice (some ⟨w.heap.size, 0, none⟩) 1 1) [34]) := World.ownsRow_lit w #[.int .u8 34] 1 (Nat.le_refl _) (by unfold maxLen; omega) rfl
  have B0 : Hid (Below w.heap.size w (w.alloc (.cells #[.int .u8 34] 5))) := (Below.refl _ _).alloc (Nat.le_refl _) _
  clear hz0 hz1 hz2 hi
  go_enter Tryd.func63, Tryd.ntmps63
  go_wp2_with fail
  go_loopg [3, 8] s.size (fun gk vo vk wr => ∃ (k : Nat) (acc : List UInt8), vk = .int .i64 k ∧ k + gk = s.size ∧ acc.length ≤ 1 + 2 * k ∧ Hid (acc ++ quoGo ((by_ s).drop k) = quoteF (by_ s)) ∧ Hid (Below w.heap.size w wr) ∧ Hid (By wr w.heap.size vo acc))
  case atStart => exact ⟨0, [34], rfl, by omega, by simp, rfl, B0, O0⟩
  case round =>
    obtain ⟨k, acc, rfl, hk, hal, HR, HB, HO⟩ := hrel
    clear B0 O0
    by_cases hlt : k < s.size
    · have hlt' : k < (by_ s).length := by rw [tl_len]; exact hlt
      have HD : Hid ((by_ s).drop k = (s[k]'hlt) :: (by_ s).drop (k + 1)) := by show _ = _; rw [List.drop_eq_getElem_cons hlt', tl_get s k hlt hlt']
      clear hlt'
      have OW := Lib.hid (fun (o : Obj) => World.ownsRow.alloc HO.out o)
      have u34 := ub_eq (s[k]'hlt) 34 (by omega)
      have u92 := ub_eq (s[k]'hlt) 92 (by omega)
      have u10 := ub_eq (s[k]'hlt) 10 (by omega)
      by_cases h34 : (s[k]'hlt) = 34
      · rw [decide_eq_true (show (s[k]'hlt) = UInt8.ofNat 34 from h34)] at u34
        have H34 := Lib.hid h34
        clear h34
        have R2 : Hid (acc ++ [92, s[k]'hlt] ++ quoGo ((by_ s).drop (k + 1)) = quoteF (by_ s)) := by
          have := HR.out
          rw [HD.out, quoGo, if_pos (by rw [H34.out]; rfl)] at this
          show _ = _
          rw [← this]; simp
        go_wp2_with (at_builtin; refine wpList_append_own_at _ rfl (.tmp 23) (.tmp 27) 126 rfl w.heap.size 5 i0 (.int .u8 0) 1 1 Tryd.underlying126 I0.out.2.2.2 I0.out.1 I0.out.2.1 I0.out.2.2.1 rfl (by decide) _ acc.length _ rfl (OW.out _) _ 2 2 (byC [92, s[k]'hlt]) rfl rfl ?c1 (byC_one _) (by unfold maxLen; omega) (by omega) ?c3 ?_)
        case c1 => exact news_u8 _ _ #[.int .u8 92, .int .u8 ((s[k]'hlt).toNat : Int)] _ rfl rfl
        case c3 => have := HB.out.size; simp; omega
        intro v' w5 own5 grow5 _ _
        obtain ⟨o5, b5⟩ := HO.out.pushed (nw := [92, s[k]'hlt]) HB.out own5 grow5
        have O5 := Lib.hid o5
        have B5 := Lib.hid b5
        clear o5 b5 own5 grow5
        go_wp2_with fail
        go_roundg (s.size - (k + 1))
        case measure => omega
        case rel => exact ⟨k + 1, _, by simp, by omega, by simp; omega, R2, B5, O5⟩
      · rw [decide_eq_false (show ¬ (s[k]'hlt) = UInt8.ofNat 34 from h34)] at u34
        have H34 := Lib.hid h34
        by_cases h92 : (s[k]'hlt) = 92
        · rw [decide_eq_true (show (s[k]'hlt) = UInt8.ofNat 92 from h92)] at u92
          have H92 := Lib.hid h92
          clear h34 h92
          have R2 : Hid (acc ++ [92, s[k]'hlt] ++ quoGo ((by_ s).drop (k + 1)) = quoteF (by_ s)) := by
            have := HR.out
            rw [HD.out, quoGo, if_pos (by rw [H92.out]; rfl)] at this
            show _ = _
            rw [← this]; simp
          go_wp2_with (at_builtin; refine wpList_append_own_at _ rfl (.tmp 23) (.tmp 27) 126 rfl w.heap.size 5 i0 (.int .u8 0) 1 1 Tryd.underlying126 I0.out.2.2.2 I0.out.1 I0.out.2.1 I0.out.2.2.1 rfl (by decide) _ acc.length _ rfl (OW.out _) _ 2 2 (byC [92, s[k]'hlt]) rfl rfl ?c1 (byC_one _) (by unfold maxLen; omega) (by omega) ?c3 ?_)
          case c1 => exact news_u8 _ _ #[.int .u8 92, .int .u8 ((s[k]'hlt).toNat : Int)] _ rfl rfl
          case c3 => have := HB.out.size; simp; omega
          intro v' w5 own5 grow5 _ _
          obtain ⟨o5, b5⟩ := HO.out.pushed (nw := [92, s[k]'hlt]) HB.out own5 grow5
          have O5 := Lib.hid o5
          have B5 := Lib.hid b5
          clear o5 b5 own5 grow5
          go_wp2_with fail
          go_roundg (s.size - (k + 1))
          case measure => omega
          case rel => exact ⟨k + 1, _, by simp, by omega, by simp; omega, R2, B5, O5⟩
        · rw [decide_eq_false (show ¬ (s[k]'hlt) = UInt8.ofNat 92 from h92)] at u92
          have H92 := Lib.hid h92
          have HN : Hid (¬ (((s[k]'hlt) == 34 || (s[k]'hlt) == 92) = true)) := by show ¬ _; simp [H34.out, H92.out]
          by_cases h10 : (s[k]'hlt) = 10
          · rw [decide_eq_true (show (s[k]'hlt) = UInt8.ofNat 10 from h10)] at u10
            have H10 := Lib.hid h10
            clear h34 h92 h10
            have R2 : Hid (acc ++ [92, 110] ++ quoGo ((by_ s).drop (k + 1)) = quoteF (by_ s)) := by
              have := HR.out
              rw [HD.out, quoGo, if_neg HN.out, if_pos (by rw [H10.out]; rfl)] at this
              show _ = _
              rw [← this]; simp
            go_wp2_with (at_builtin; refine wpList_append_own_at _ rfl (.tmp 31) (.tmp 32) 126 rfl w.heap.size 5 i0 (.int .u8 0) 1 1 Tryd.underlying126 I0.out.2.2.2 I0.out.1 I0.out.2.1 I0.out.2.2.1 rfl (by decide) _ acc.length _ rfl (OW.out _) _ 2 2 (byC [92, 110]) rfl rfl ?c1 (byC_one _) (by unfold maxLen; omega) (by omega) ?c3 ?_)
            case c1 => exact news_u8 _ _ #[.int .u8 92, .int .u8 110] _ rfl rfl
            case c3 => have := HB.out.size; simp; omega
            intro v' w5 own5 grow5 _ _
            obtain ⟨o5, b5⟩ := HO.out.pushed (nw := [92, 110]) HB.out own5 grow5
            have O5 := Lib.hid o5
            have B5 := Lib.hid b5
            clear o5 b5 own5 grow5
            go_wp2_with fail
            go_roundg (s.size - (k + 1))
            case measure => omega
            case rel => exact ⟨k + 1, _, by simp, by omega, by simp; omega, R2, B5, O5⟩
          · rw [decide_eq_false (show ¬ (s[k]'hlt) = UInt8.ofNat 10 from h10)] at u10
            have H10 := Lib.hid h10
            have HM : Hid (¬ (((s[k]'hlt) == 10) = true)) := by show ¬ _; simp [H10.out]
            clear h34 h92 h10
            have R2 : Hid (acc ++ [s[k]'hlt] ++ quoGo ((by_ s).drop (k + 1)) = quoteF (by_ s)) := by
              have := HR.out
              rw [HD.out, quoGo, if_neg HN.out, if_neg HM.out] at this
              show _ = _
              rw [← this]; simp
            go_wp2_with (at_builtin; refine wpList_append_own_at _ rfl (.tmp 14) (.tmp 18) 126 rfl w.heap.size 5 i0 (.int .u8 0) 1 1 Tryd.underlying126 I0.out.2.2.2 I0.out.1 I0.out.2.1 I0.out.2.2.1 rfl (by decide) _ acc.length _ rfl (OW.out _) _ 1 1 (byC [s[k]'hlt]) rfl rfl ?c1 (byC_one _) (by unfold maxLen; omega) (by omega) ?c3 ?_)
            case c1 => exact news_u8 _ _ #[.int .u8 ((s[k]'hlt).toNat : Int)] _ rfl rfl
            case c3 => have := HB.out.size; simp; omega
            intro v' w5 own5 grow5 _ _
            obtain ⟨o5, b5⟩ := HO.out.pushed (nw := [s[k]'hlt]) HB.out own5 grow5
            have O5 := Lib.hid o5
            have B5 := Lib.hid b5
            clear o5 b5 own5 grow5
            go_wp2_with fail
            go_roundg (s.size - (k + 1))
            case measure => omega
            case rel => exact ⟨k + 1, _, by simp, by omega, by simp; omega, R2, B5, O5⟩
    · have hkl : k = s.size := by omega
      subst hkl
      have E : Hid (quoteF (by_ s) = acc ++ [34]) := by
        have := HR.out
        rw [List.drop_of_length_le (by rw [tl_len]; exact Nat.le_refl _)] at this
        exact this.symm
      have OW := Lib.hid (fun (o : Obj) => World.ownsRow.alloc HO.out o)
      go_wp2_with (at_builtin; refine wpList_append_own_at _ rfl (.tmp 35) (.tmp 36) 126 rfl w.heap.size 5 i0 (.int .u8 0) 1 1 Tryd.underlying126 I0.out.2.2.2 I0.out.1 I0.out.2.1 I0.out.2.2.1 rfl (by decide) _ acc.length _ rfl (OW.out _) _ 1 1 (byC [34]) rfl rfl ?c1 (byC_one _) (by unfold maxLen; omega) (by omega) ?c3 ?_)
      case c1 => exact news_u8 _ _ #[.int .u8 34] _ rfl rfl
      case c3 => have := HB.out.size; simp; omega
      intro v' w5 own5 grow5 _ _
      obtain ⟨o5, b5⟩ := HO.out.pushed (nw := [34]) HB.out own5 grow5
      have hcv := o5.back
      go_wp2_with fail
      go_ret
      rw [E.out]
      exact ⟨rfl, b5⟩
end Go.Proofs.YthlabaijaadocaaDoor
