import Derived.Test.YthlabaijaadocaaDoorXQw
import Derived.Test.YthlabaijaadocaaDoorXNb
import Derived.Test.YthlabaijaadocaaDoorXA7
/-! The reference's matching: all parts; a text's runes; a whole text. -/
namespace Go.Proofs.YthlabaijaadocaaDoor
open Go.RowKit Ut Rx Mt Go.Lib

theorem oneF_congr {sp sp' : List Span} {but : Bool} (h : ∀ y, hasS sp y = hasS sp' y) : oneF sp but = oneF sp' but := by
  funext l v
  unfold oneF
  simp only [h]
/-- what was read leads where it says -/
theorem leads_of {w : World} {c : Cx} {x : PV} {ns : List Nd} (h : Ps w c x ns) (hl : ns.length ≤ 1000000) {i : Nat} {p : Pat} (r : Nr w ns i p) : Leads w c.g i (den p) := by
  induction r with
  | one i v sp sp' but a b h1 h2 h3 =>
    have := leads_set w c.g i a b v sp but (h.node hl h1) h2
    rwa [oneF_congr h3] at this
  | nil i nd h1 h2 hs => exact leads_nil w c.g i nd (h.node hl h1) h2 hs
  | cat i j k nd p q h1 h2 hs h3 h4 _ _ ih1 ih2 => exact leads_cat w c.g i j k (den p) (den q) nd (h.node hl h1) h2 hs h3 h4 ih1 ih2 (den_keeps p)
  | alt i j k nd p q h1 h2 hs h3 h4 _ _ ih1 ih2 => exact leads_alt w c.g i j k (den p) (den q) nd (h.node hl h1) h2 hs h3 h4 ih1 ih2 (den_keeps p) (den_keeps q)
  | again i j nd p s h1 h2 hs h3 _ ih => exact leads_again w c.g i j (den p) nd s (h.node hl h1) h2 hs h3 ih (fun l => den_lin l p)

set_option maxRecDepth 100000 in
set_option maxHeartbeats 2000000 in
theorem rRunes_any (s : ByteArray) (w : World) (hs : s.size ≤ 1000000) : Calls Tryd.prog 82 #[.string s] w (RunesPost w (rn s.data.toList)) := by
  obtain ⟨i0, hi, hz0, hz1, hz2⟩ := info_parts infoRu
  have I0 : Hid (i0.zero = some (.int .i32 0) ∧ i0.size = 1 ∧ i0.bytes = 4 ∧ Tryd.prog.info? 21 = some i0) := ⟨hz0, hz1, hz2, hi⟩
  clear hz0 hz1 hz2 hi
  go_enter Tryd.func82, Tryd.ntmps82
  go_wp2_with fail
  go_loopg [3] s.size (fun gk v wr => ∃ (pos : Nat) (acc : List Int), pos ≤ s.size ∧ s.size - pos ≤ gk ∧ acc.length ≤ pos ∧ Hid (acc ++ rn (s.data.toList.drop pos) = rn s.data.toList) ∧ Hid (wr.heap[w.heap.size]? = some (.stringIter s pos)) ∧ Hid (wr.ownsRow (w.heap.size + 1) 21 1 v acc.length (acc.map (Value.int .i32))) ∧ Hid (Below w.heap.size w wr))
  case atStart =>
    exact ⟨0, [], Nat.zero_le _, by omega, Nat.le_refl _, by show _ = _; simp, World.iter_heap _ _ _, World.ownsRow_nil _ _ _ _, (Below.refl _ _).alloc (Nat.le_refl _) _⟩
  case round =>
    obtain ⟨pos, acc, hps, hgk, hal, HR, HI, HO, HB⟩ := hrel
    by_cases hp : pos < s.size
    · have hnx : ∀ ty, (Instr.next (.pointer (some ⟨w.heap.size, 0, none⟩)) true ty).run Tryd.prog wr = _ := fun ty => Go.Lib.run_next_any_at wr w.heap.size s pos ty HI.out hp
      have hw := Lib.decode_width_pos s pos hp
      have hfit : (Utf8.decode s pos).2 ≤ s.size - pos := by
        have hne : s.data.toList.drop pos ≠ [] := fun e => by
          have := congrArg List.length e
          rw [List.length_drop, tl_len] at this; simp at this; omega
        have := Lib.decodeL_le _ hne
        rw [Lib.decodeL_drop, List.length_drop, tl_len] at this
        exact this
      have RT := Lib.hid (rn_take s pos hp)
      generalize (Utf8.decode s pos).1 = c at hnx RT
      generalize (Utf8.decode s pos).2 = wd at hnx RT hw hfit
      have HI2 := Lib.hid (Go.Lib.iterAt_heap wr w.heap.size s pos (pos + wd) HI.out)
      have HO2 := Lib.hid (ownsRow_iterAt HO.out (Nat.lt_succ_self w.heap.size) s (pos + wd))
      have HB2 := Lib.hid (Go.Lib.below_iterAt HB.out (Nat.le_refl _) s (pos + wd))
      have hz : w.heap.size + 1 ≤ (wr.iterAt w.heap.size s (pos + wd)).heap.size := by rw [Go.Lib.iterAt_size]; exact (Array.getElem?_eq_some_iff.1 HI.out).1
      generalize wr.iterAt w.heap.size s (pos + wd) = wi at *
      have N1 : Hid (∀ j u, [Value.int .i32 (c : Int)][j]? = some u → (wi.alloc (.cells #[.int .i32 (c : Int)] 21)).cell? ((⟨wi.heap.size, 0, none⟩ : Addr).add j) = some u) := fun j u hu => by
        cases j with
        | zero =>
          have : u = .int .i32 (c : Int) := by simpa using hu.symm
          subst this
          exact World.cell?_alloc_at _ _ _ _ rfl
        | succ j => simp at hu
      have N2 : Hid (∀ u ∈ [Value.int .i32 (c : Int)], u.oneCell' = true) := fun u hu => by
        have : u = .int .i32 (c : Int) := (by simpa using hu)
        subst this; rfl
      clear HO HB
      go_wp2_with (at_builtin; refine wpList_append_own _ rfl (.tmp 11) (.tmp 13) 127 rfl (w.heap.size + 1) 21 i0 (.int .i32 0) 1 4 Tryd.underlying127 I0.out.2.2.2 I0.out.1 I0.out.2.1 I0.out.2.2.1 rfl (by decide) _ acc.length _ rfl (HO2.out.alloc _) _ 1 1 [.int .i32 (c : Int)] rfl rfl N1.out N2.out (by unfold maxLen; omega) (by omega) (by simp; omega) ?_)
      intro v' w5 own5 grow5 _
      obtain ⟨A5, n5, c5, rfl⟩ := ownsRow_is own5
      have HB3 : Hid (Below (w.heap.size + 1) wi w5) := by
        have b : Below (w.heap.size + 1) wi (wi.alloc (.cells #[.int .i32 (c : Int)] 21)) := (Below.refl _ _).alloc hz _
        refine ⟨grow5.os.trans b.os, grow5.tape.trans b.tape, grow5.output.trans b.output, Nat.le_trans b.size grow5.size, fun k hk => (grow5.block k (by simp; omega) (fun e => ?_)).trans (b.block k hk)⟩
        have := (HO2.out.lt k e.symm).1; omega
      have OW := Lib.hid own5
      clear own5 grow5 N1 N2 HO2
      go_wp2_with fail
      go_roundg (gk - 1)
      case measure => omega
      case rel =>
        refine ⟨pos + wd, acc ++ [(c : Int)], by omega, by omega, by rw [List.length_append]; simp only [List.length_cons, List.length_nil]; omega, ?_, (HB3.out.block _ (Nat.lt_succ_self _)).trans HI2.out, ?_, HB2.out.trans (HB3.out.mono (Nat.le_succ _))⟩
        · show _ = _
          rw [← HR.out, RT.out]; simp
        · show World.ownsRow _ _ _ _ _ _ _
          rw [List.length_append, List.map_append]; exact OW.out
    · obtain rfl : pos = s.size := by omega
      have hnx : ∀ ty, (Instr.next (.pointer (some ⟨w.heap.size, 0, none⟩)) true ty).run Tryd.prog wr = _ := fun ty => Go.Lib.run_next_end_at wr w.heap.size s s.size ty HI.out hp
      go_wp2_with fail
      go_ret
      have hr := HR.out
      have e : s.data.toList.drop s.size = [] := List.drop_of_length_le (by rw [tl_len]; exact Nat.le_refl _)
      rw [e, rn_nil, List.append_nil] at hr
      subst hr
      refine ⟨_, rfl, ?_, HB.out⟩
      have ho := HO.out
      refine ⟨ho.1, ?_⟩
      rcases ho.2 with h1 | ⟨g, cap, cur, e1, e2, e3⟩
      · exact Or.inl h1
      · exact Or.inr ⟨g, cap, cur, e1, Nat.zero_le _, e3⟩

/-- the reference's pattern at block g means p -/
structure RexL (w : World) (g : Nat) (p : Pat) : Prop where
  ex : ∃ i : Nat, w.cell? ⟨g, 4, none⟩ = some (.int .i64 i) ∧ Leads w g i (den p)
theorem RexR.leads {B : Nat} {w : World} {g : Nat} {s : ByteArray} {p : Pat} (h : RexR B w g s p) : RexL w g p := by
  obtain ⟨c, x, ns, i, hp, rfl, _, _, ht, hr, hl⟩ := h
  have := hp.cells.c4
  rw [ht] at this
  exact ⟨i, this, leads_of hp (by omega) hr⟩
set_option maxRecDepth 100000 in
set_option maxHeartbeats 2000000 in
theorem rMatch_any (g : Nat) (p : Pat) (s : ByteArray) (w : World) (hx : RexL w g p) (hs : s.size ≤ 900000) :
    Calls Tryd.prog 68 #[.pointer (some ⟨g, 3, none⟩), .string s] w (BoolBelow w (fullB p (rn s.data.toList))) := by
  obtain ⟨i, hc, hL⟩ := hx.ex
  have lrb := World.block_lt_of_cell? w _ hc
  have K1 : Hid (∀ w', Below w.heap.size w w' → w'.cell? ⟨g, 4, none⟩ = some (.int .i64 i)) := fun w' h => (h.cell (p := ⟨g, 4, none⟩) lrb).trans hc
  have k1 := K1.out w (Below.refl _ _)
  have DEN : Hid (∀ w', Below w.heap.size w w' → ∀ l lv v fv, Rns w' lv l → Bls w' fv v → v.length = l.length + 1 → l.length ≤ 1000000 → Calls Tryd.prog 83 #[.pointer (some ⟨g, 3, none⟩), .int .i64 (i : Int), lv, fv] w' (EndsPost true w' fv (den p l v))) := fun w' h l lv v fv h1 h2 h3 h4 => hL w' h l lv v fv h1 h2 h3 h4
  clear hc hL lrb
  have LE := Lib.hid (rn_le s.data.toList)
  have LS := Lib.hid (tl_len s)
  clear hx
  go_enter Tryd.func68, Tryd.ntmps68
  go_wp2_with fail
  refine (rRunes_any s w (by omega)).mono ?_
  rintro e w1 ⟨v, rfl, hv, hb1⟩
  have HV := Lib.hid hv
  have HB := Lib.hid hb1
  generalize rn s.data.toList = l at *
  have hl9 : l.length ≤ 900000 := by have := LE.out; have := LS.out; omega
  have FB : Hid (fullB p l = (den p l (firstB l.length)).getD l.length false) := rfl
  clear hb1 k1 LE LS
  rcases row_kinds hv with ⟨rfl, hn⟩ | ⟨g, cap, rfl, hcap⟩
  · obtain rfl : l = [] := List.eq_nil_of_length_eq_zero hn
    have hmk : (Instr.makeSlice 129 (.int .i64 1) (.int .i64 1)).run Tryd.prog w1 = .ok (.slice (some ⟨w1.heap.size, 0, none⟩) 1 1) (w1.alloc (.cells (bz 1) 4)) := run_mk 1 (by omega) w1
    have hz0 : (bz 1)[0]? = some (.bool false) := bz_zero 0
    clear hv hn
    have B2 : Below w.heap.size w (w1.alloc (.cells ((bz (1)).setIfInBounds 0 (.bool true)) 4)) := HB.out.alloc HB.out.size _
    have k1 := K1.out _ B2
    have E := Lib.hid (DEN.out _ B2 [] _ (firstB 0) _ (HV.out.below ((Below.refl _ _).alloc (Nat.le_refl _) _)) (made_first 0 (by simp) w1) (firstB_length _) (by simp))
    have B2H := Lib.hid B2
    have OL := Lib.hid (den_keeps p [] (firstB 0) (firstB_length _))
    clear B2
    go_wp2_with fail
    refine E.out.mono ?_
    rintro e w3 ⟨rv, rfl, hrv, _, hb3⟩
    generalize den p [] (firstB 0) = out at *
    obtain ⟨go, co, rfl, hco⟩ : ∃ g c, rv = .slice (some ⟨g, 0, none⟩) out.length c ∧ out.length ≤ c := by
      rcases row_kinds hrv with ⟨_, hn⟩ | h
      · have := OL.out; omega
      · exact h
    have hlt : 0 < out.length := by have := OL.out; omega
    have hlti : ((0 : Nat) : Int) < out.length := by omega
    have cl : w3.cell? ⟨go, 0, none⟩ = some (.bool (out[0]'hlt)) := (row_cell hrv rfl).2.2 _ _ (by rw [List.getElem?_map, List.getElem?_eq_getElem hlt]; rfl)
    have R : Hid (fullB p [] = out[0]'hlt) := by
      show _ = _
      rw [FB.out]
      show out.getD _ false = _
      rw [List.getD_eq_getElem?_getD]
      exact (congrArg (fun o => o.getD false) (List.getElem?_eq_getElem hlt))
    have HB3 := Lib.hid hb3
    clear hrv hb3 E OL
    go_wp2_with fail
    go_ret
    rw [R.out]
    exact ⟨rfl, B2H.out.trans (HB3.out.mono B2H.out.size)⟩
  · have hmk := run_mk (l.length + 1) (by omega) w1
    have ec : ((l.length + 1 : Nat) : Int) = (l.length : Int) + 1 := by omega
    rw [ec] at hmk
    have hz0 := bz_zero l.length
    clear hv ec
    have B2 : Below w.heap.size w (w1.alloc (.cells ((bz (l.length + 1)).setIfInBounds 0 (.bool true)) 4)) := HB.out.alloc HB.out.size _
    have k1 := K1.out _ B2
    have E := Lib.hid (DEN.out _ B2 l _ (firstB (l).length) _ (HV.out.below ((Below.refl _ _).alloc (Nat.le_refl _) _)) (made_first (l).length (by omega) w1) (firstB_length _) (by omega))
    have B2H := Lib.hid B2
    have OL := Lib.hid (den_keeps p l (firstB (l).length) (firstB_length _))
    clear B2
    go_wp2_with fail
    refine E.out.mono ?_
    rintro e w3 ⟨rv, rfl, hrv, _, hb3⟩
    generalize den p l (firstB (l).length) = out at *
    obtain ⟨go, co, rfl, hco⟩ : ∃ g c, rv = .slice (some ⟨g, 0, none⟩) out.length c ∧ out.length ≤ c := by
      rcases row_kinds hrv with ⟨_, hn⟩ | h
      · have := OL.out; omega
      · exact h
    have hlt : (l).length < out.length := by have := OL.out; omega
    have hlti : (((l).length : Nat) : Int) < out.length := by omega
    have cl : w3.cell? ⟨go, (l).length, none⟩ = some (.bool (out[(l).length]'hlt)) := (row_cell hrv rfl).2.2 _ _ (by rw [List.getElem?_map, List.getElem?_eq_getElem hlt]; rfl)
    have R : Hid (fullB p l = out[(l).length]'hlt) := by
      show _ = _
      rw [FB.out]
      show out.getD _ false = _
      rw [List.getD_eq_getElem?_getD]
      exact (congrArg (fun o => o.getD false) (List.getElem?_eq_getElem hlt))
    have HB3 := Lib.hid hb3
    clear hrv hb3 E OL
    go_wp2_with fail
    go_ret
    rw [R.out]
    exact ⟨rfl, B2H.out.trans (HB3.out.mono B2H.out.size)⟩

theorem matchB_of {r : Except Int Pat} {p : Pat} (h : r = .ok p) (s : List Int) : matchB r s = fullB p s := by rw [h]; rfl
set_option maxRecDepth 100000 in
set_option maxHeartbeats 2000000 in
theorem rFull_any (p s : ByteArray) (w : World) (hp : p.size ≤ 256) (hv : validD (by_ p) = true) (hs : s.size ≤ 900000) : Calls Tryd.prog 49 #[.string p, .string s] w (BoolBelow w (matchB (rexF (rn (by_ p))) (rn (by_ s)))) := by
  have P := Lib.hid (rParse_any p w hp hv)
  clear hp hv
  go_enter Tryd.func49, Tryd.ntmps49
  go_wp2_with fail
  refine P.out.mono ?_
  rintro e w1 ⟨hb, hr⟩
  cases h : rexF (rn (by_ p)) with
  | ok q =>
    simp only [h] at hr
    obtain ⟨g, rfl, hx⟩ := hr
    have B1 := Lib.hid hb
    have M := Lib.hid (rMatch_any g q s w1 hx.leads hs)
    have E : Hid (matchB (rexF (rn (by_ p))) (rn (by_ s)) = fullB q (rn s.data.toList)) := by show _ = _; rw [h]; rfl
    clear hb h hx P
    go_wp2_with fail
    refine M.out.mono ?_
    rintro e w2 ⟨rfl, hb2⟩
    go_wp2_with fail
    go_ret
    rw [E.out]
    exact ⟨rfl, B1.out.trans (hb2.mono B1.out.size)⟩
  | error er =>
    simp only [h] at hr
    obtain ⟨q, rfl⟩ := hr
    have her : (er == 0) = false := by
      have : er ≠ 0 := by rcases rexF_err h with e | e <;> omega
      simpa using this
    have B1 := Lib.hid hb
    have E : Hid (matchB (rexF (rn (by_ p))) (rn (by_ s)) = false) := by show _ = _; rw [h]; rfl
    clear hb h P
    go_wp2_with fail
    go_ret
    rw [E.out]
    exact ⟨rfl, B1.out⟩
end Go.Proofs.YthlabaijaadocaaDoor

/-! The reference's answers on matchers: what is wrong, whether a value passes, what is wrong with some. -/
namespace Go.Proofs.YthlabaijaadocaaDoor
open Go.RowKit Ut Rx Mt Go.Lib

/-- a matcher in a block of its own -/
def mBox (w : World) (k : Int) (n v : ByteArray) : World := w.alloc (.cells #[.int .i64 k, .string n, .string v] 26)
theorem mBox_at (w : World) (k : Int) (n v : ByteArray) (w' : World) (b : Below (mBox w k n v).heap.size (mBox w k n v) w') : w'.cell? ⟨w.heap.size, 0, none⟩ = some (.int .i64 k) ∧ w'.cell? ⟨w.heap.size, 1, none⟩ = some (.string n) ∧ w'.cell? ⟨w.heap.size, 2, none⟩ = some (.string v) ∧ Below w.heap.size w w' := by
  have lt : w.heap.size < (mBox w k n v).heap.size := by simp [mBox]
  have B0 : Below w.heap.size w (mBox w k n v) := (Below.refl _ _).alloc (Nat.le_refl _) _
  exact ⟨(b.cell (p := ⟨w.heap.size, 0, none⟩) lt).trans (World.cell?_alloc_at _ _ _ _ rfl), (b.cell (p := ⟨w.heap.size, 1, none⟩) lt).trans (World.cell?_alloc_at _ _ _ _ rfl), (b.cell (p := ⟨w.heap.size, 2, none⟩) lt).trans (World.cell?_alloc_at _ _ _ _ rfl), B0.trans (b.mono B0.size)⟩

set_option maxRecDepth 100000 in
set_option maxHeartbeats 2000000 in
theorem rCheck_any (k : Int) (n v : ByteArray) (w : World) (hn : n.size ≤ maxLen) :
    Calls Tryd.prog 15 #[.agg #[.int .i64 k, .string n, .string v]] w (IntBelow w (checkF ⟨k, n, v⟩)) := by
  have C0 := Lib.hid (mBox_at w k n v)
  have N := Lib.hid (rNamed_any n (mBox w k n v) hn)
  have V := Lib.hid (rValued_any v (mBox w k n v))
  clear hn
  by_cases hk : k < 1 ∨ k > 4
  · have E : Hid (checkF ⟨k, n, v⟩ = 70) := by
      show checkF _ = _
      unfold checkF
      rcases hk with h | h <;> simp [h]
    have hw2 : k < 1 ∨ (¬ k < 1 ∧ k > 4) := by omega
    have B0 : Hid (Below w.heap.size w (w.alloc (.cells #[.int .i64 k, .string n, .string v] 26))) := (Below.refl _ _).alloc (Nat.le_refl _) _
    clear hk C0 N V
    rcases hw2 with h | ⟨h, h2⟩
    · have hd : decide (k < 1) = true := by simpa using h
      go_enter Tryd.func15, Tryd.ntmps15
      go_wp2_with fail
      go_ret
      rw [E.out]
      exact ⟨rfl, B0.out⟩
    · have hd : decide (k < 1) = false := by simpa using h
      have hd2 : decide (4 < k) = true := by simpa using h2
      go_enter Tryd.func15, Tryd.ntmps15
      go_wp2_with fail
      go_ret
      rw [E.out]
      exact ⟨rfl, B0.out⟩
  · have h1 : ¬ k < 1 := fun h => hk (Or.inl h)
    have h4 : ¬ k > 4 := fun h => hk (Or.inr h)
    have hd : decide (k < 1) = false := by simpa using h1
    have hd2 : decide (4 < k) = false := by simpa using h4
    have E : Hid (checkF ⟨k, n, v⟩ = if !namedF n.data.toList then 50 else if !valuedB v then 51 else if k < 3 then 0 else errF (rexF (rn v.data.toList))) := by
      show checkF _ = _
      unfold checkF
      rw [if_neg (by simp [h1, h4])]
    have hk4 : k = 1 ∨ k = 2 ∨ k = 3 ∨ k = 4 := by omega
    clear hk h1 h4
    obtain ⟨w1, hw1⟩ : ∃ x, x = mBox w k n v := ⟨_, rfl⟩
    rw [← hw1] at C0 N V
    obtain ⟨a0, a1, a2, ba⟩ := C0.out w1 (Below.refl _ _)
    have BA := Lib.hid ba
    clear ba
    unfold mBox at hw1
    have a0' := a0
    have a1' := a1
    have a2' := a2
    rw [hw1] at a0' a1' a2'
    clear a0 a1 a2
    go_enter Tryd.func15, Tryd.ntmps15
    go_upto_region 3 with fail
    rw [← hw1]
    rw [← hw1] at a0' a1' a2'
    clear hw1
    go_wp2_with fail
    refine N.out.mono ?_
    rintro e wq ⟨rfl, hq⟩
    subst hq
    clear N
    cases hn : namedF (by_ n) with
    | false =>
      have E2 : Hid (checkF ⟨k, n, v⟩ = 50) := by show _ = _; rw [E.out, hn]; rfl
      clear hn
      go_wp2_with fail
      go_ret
      rw [E2.out]
      exact ⟨rfl, BA.out⟩
    | true =>
      have E2 : Hid (checkF ⟨k, n, v⟩ = if !valuedB v then 51 else if k < 3 then 0 else errF (rexF (rn v.data.toList))) := by show _ = _; rw [E.out, hn]; rfl
      clear hn E
      go_wp2_with fail
      refine V.out.mono ?_
      rintro e w2 ⟨rfl, hb2⟩
      obtain ⟨c0, c1, c2, bw2⟩ := C0.out w2 hb2
      have BW2 := Lib.hid bw2
      clear a0' a1' a2' bw2 hb2 V
      cases hv : valuedB v with
      | false =>
        have E3 : Hid (checkF ⟨k, n, v⟩ = 51) := by show _ = _; rw [E2.out, hv]; rfl
        clear hv
        go_wp2_with fail
        go_ret
        rw [E3.out]
        exact ⟨rfl, BW2.out⟩
      | true =>
        obtain ⟨hs, hvd⟩ := valuedB_size hv
        have E3 : Hid (checkF ⟨k, n, v⟩ = if k < 3 then 0 else errF (rexF (rn v.data.toList))) := by show _ = _; rw [E2.out, hv]; rfl
        have P := Lib.hid (rrCheck_any v w2 (by omega) hvd)
        clear hv E2 hs hvd hd hd2
        rcases hk4 with rfl | rfl | rfl | rfl
        · have E4 : Hid (checkF ⟨1, n, v⟩ = 0) := by show _ = _; rw [E3.out, if_pos (by decide)]
          go_wp2_with fail
          go_ret
          rw [E4.out]
          exact ⟨rfl, BW2.out⟩
        · have E4 : Hid (checkF ⟨2, n, v⟩ = 0) := by show _ = _; rw [E3.out, if_pos (by decide)]
          go_wp2_with fail
          go_ret
          rw [E4.out]
          exact ⟨rfl, BW2.out⟩
        · have E4 : Hid (checkF ⟨3, n, v⟩ = errF (rexF (rn v.data.toList))) := by show _ = _; rw [E3.out, if_neg (by decide)]
          clear E3
          go_wp2_with fail
          refine P.out.mono ?_
          rintro e w3 ⟨rfl, hb3⟩
          have BW3 : Hid (Below w.heap.size w w3) := BW2.out.trans (hb3.mono BW2.out.size)
          clear hb3 P
          go_wp2_with fail
          go_ret
          rw [E4.out]
          exact ⟨rfl, BW3.out⟩
        · have E4 : Hid (checkF ⟨4, n, v⟩ = errF (rexF (rn v.data.toList))) := by show _ = _; rw [E3.out, if_neg (by decide)]
          clear E3
          go_wp2_with fail
          refine P.out.mono ?_
          rintro e w3 ⟨rfl, hb3⟩
          have BW3 : Hid (Below w.heap.size w w3) := BW2.out.trans (hb3.mono BW2.out.size)
          clear hb3 P
          go_wp2_with fail
          go_ret
          rw [E4.out]
          exact ⟨rfl, BW3.out⟩

set_option maxRecDepth 100000 in
set_option maxHeartbeats 2000000 in
theorem rOne_any (k : Int) (n v a : ByteArray) (w : World) (hn : n.size ≤ maxLen) (ha : a.size ≤ 900000) :
    Calls Tryd.prog 26 #[.agg #[.int .i64 k, .string n, .string v], .string a] w (BoolBelow w (oneB ⟨k, n, v⟩ a)) := by
  have C0 := Lib.hid (mBox_at w k n v)
  have C := Lib.hid (rCheck_any k n v (mBox w k n v) hn)
  clear hn
  obtain ⟨w1, hw1⟩ : ∃ x, x = mBox w k n v := ⟨_, rfl⟩
  rw [← hw1] at C0 C
  obtain ⟨a0, a1, a2, ba⟩ := C0.out w1 (Below.refl _ _)
  clear ba
  unfold mBox at hw1
  rw [hw1] at a0 a1 a2
  go_enter Tryd.func26, Tryd.ntmps26
  go_upto_region 1 with fail
  rw [← hw1]
  rw [← hw1] at a0 a1 a2
  clear hw1
  go_wp2_with fail
  refine C.out.mono ?_
  rintro e w2 ⟨rfl, hb2⟩
  obtain ⟨c0, c1, c2, bw2⟩ := C0.out w2 hb2
  have BW2 := Lib.hid bw2
  clear a0 a1 a2 C bw2 hb2 C0
  by_cases hz : checkF ⟨k, n, v⟩ = 0
  · obtain ⟨hk1, hk4, hv, _⟩ := checkF_ok hz
    obtain ⟨hs, hvd⟩ := valuedB_size hv
    have E : Hid (oneB ⟨k, n, v⟩ a = passF ⟨k, n, v⟩ a) := by show _ = _; unfold oneB; rw [hz]; rfl
    have F := Lib.hid (rFull_any v a w2 (by omega) hvd ha)
    have hk : k = 1 ∨ k = 2 ∨ k = 3 ∨ k = 4 := by omega
    have hzb : (checkF ⟨k, n, v⟩ != 0) = false := by simp [hz]
    clear hz hv hs hvd hk1 hk4
    generalize checkF ⟨k, n, v⟩ = cf at *
    rcases hk with rfl | rfl | rfl | rfl
    · have E2 : Hid (passF ⟨1, n, v⟩ a = (a.toList == v.toList)) := by show _ = _; rw [tl_eq, tl_eq]; rfl
      clear F
      go_wp2_with fail
      go_ret
      rw [E.out, E2.out]
      exact ⟨rfl, BW2.out⟩
    · have E2 : Hid (passF ⟨2, n, v⟩ a = (a.toList != v.toList)) := by show _ = _; rw [tl_eq, tl_eq]; rfl
      clear F
      go_wp2_with fail
      go_ret
      rw [E.out, E2.out]
      exact ⟨rfl, BW2.out⟩
    · have E2 : Hid (passF ⟨3, n, v⟩ a = matchB (rexF (rn (by_ v))) (rn (by_ a))) := rfl
      go_wp2_with fail
      refine F.out.mono ?_
      rintro e w3 ⟨rfl, hb3⟩
      have BW3 : Hid (Below w.heap.size w w3) := BW2.out.trans (hb3.mono BW2.out.size)
      clear hb3 F
      go_wp2_with fail
      go_ret
      rw [E.out, E2.out]
      exact ⟨rfl, BW3.out⟩
    · have E2 : Hid (passF ⟨4, n, v⟩ a = !matchB (rexF (rn (by_ v))) (rn (by_ a))) := rfl
      go_wp2_with fail
      refine F.out.mono ?_
      rintro e w3 ⟨rfl, hb3⟩
      have BW3 : Hid (Below w.heap.size w w3) := BW2.out.trans (hb3.mono BW2.out.size)
      clear hb3 F
      go_wp2_with fail
      go_ret
      rw [E.out, E2.out]
      exact ⟨rfl, BW3.out⟩
  · have hzb : (checkF ⟨k, n, v⟩ != 0) = true := by simpa using hz
    have E : Hid (oneB ⟨k, n, v⟩ a = false) := by show _ = _; unfold oneB; rw [decide_eq_false hz]; rfl
    clear hz
    generalize checkF ⟨k, n, v⟩ = cf at *
    go_wp2_with fail
    go_ret
    rw [E.out]
    exact ⟨rfl, BW2.out⟩

set_option maxRecDepth 100000 in
set_option maxHeartbeats 4000000 in
theorem rRight_any (l : List M) (lv : Value) (w : World) (hl : Ms w lv l) (hsz : ∀ m ∈ l, m.n.size ≤ maxLen) :
    Calls Tryd.prog 17 #[lv] w (IntBelow w (rightF l)) := by
  have HSZ := Lib.hid hsz
  clear hsz
  obtain ⟨A, c, rfl, hbig, hcells⟩ := hl
  by_cases h16 : l.length > 16
  · have E : Hid (rightF l = 3) := by show _ = _; unfold rightF; rw [if_pos h16]
    have h16i : (16 : Int) < l.length := by omega
    have B0 : Hid (Below w.heap.size w w) := Below.refl _ _
    clear hcells
    go_enter Tryd.func17, Tryd.ntmps17
    go_wp2_with fail
    go_ret
    rw [E.out]
    exact ⟨rfl, B0.out⟩
  · have E : Hid (rightF l = readyGo l false) := by show _ = _; unfold rightF; rw [if_neg h16]
    have h16i : ¬ (16 : Int) < l.length := by omega
    have B0 : Hid (Below w.heap.size w w) := Below.refl _ _
    have HC := Lib.hid hcells
    clear hcells
    go_enter Tryd.func17, Tryd.ntmps17
    go_wp2_with fail
    go_loopg [3, 12] l.length (fun gk vs vk wr => ∃ (k : Nat) (st : Bool), vk = .int .i64 k ∧ k + gk = l.length ∧ vs = .bool st ∧ Hid (readyGo (l.drop k) st = readyGo l false) ∧ Hid (Below w.heap.size w wr))
    case atStart => exact ⟨0, false, rfl, by omega, rfl, rfl, B0⟩
    case round =>
      obtain ⟨k, st, rfl, hk, rfl, HR, HB⟩ := hrel
      clear B0
      by_cases hlt : k < l.length
      · obtain ⟨b, off, rfl, hc⟩ := HC.out (fun e => by rw [e] at hlt; simp at hlt)
        obtain ⟨c0', c1', c2'⟩ := hc k hlt
        have lb : b < w.heap.size := World.block_lt_of_cell? w _ c0'
        have c0 := (HB.out.cell (p := ⟨b, off + k * 3, none⟩) lb).trans c0'
        have c1 := (HB.out.cell (p := ⟨b, off + k * 3 + 1, none⟩) lb).trans c1'
        have c2 := (HB.out.cell (p := ⟨b, off + k * 3 + 2, none⟩) lb).trans c2'
        have HD : Hid (l.drop k = ⟨(l[k]'hlt).k, (l[k]'hlt).n, (l[k]'hlt).v⟩ :: l.drop (k + 1)) := List.drop_eq_getElem_cons hlt
        have NS := Lib.hid (HSZ.out _ (List.getElem_mem hlt))
        clear hc c0' c1' c2' HC
        generalize (l[k]'hlt).k = mk at *
        generalize (l[k]'hlt).n = mn at *
        generalize (l[k]'hlt).v = mv at *
        have C0 := Lib.hid (mBox_at wr mk mn mv)
        have CH := Lib.hid (rCheck_any mk mn mv (mBox wr mk mn mv) NS.out)
        obtain ⟨w1, hw1⟩ : ∃ x, x = mBox wr mk mn mv := ⟨_, rfl⟩
        rw [← hw1] at C0 CH
        obtain ⟨a0, a1, a2, _⟩ := C0.out w1 (Below.refl _ _)
        unfold mBox at hw1
        rw [hw1] at a0 a1 a2
        go_upto_region 7 with fail
        rw [← hw1]
        rw [← hw1] at a0 a1 a2
        clear hw1
        go_wp2_with fail
        refine CH.out.mono ?_
        rintro e w2 ⟨rfl, hb2⟩
        obtain ⟨d0, d1, d2, bw2⟩ := C0.out w2 hb2
        have B2 := Lib.hid (HB.out.trans (bw2.mono HB.out.size))
        clear a0 a1 a2 CH bw2 c0 c1 c2
        by_cases hz : checkF ⟨mk, mn, mv⟩ = 0
        · have R2 : Hid (readyGo (l.drop (k + 1)) (st || !passF ⟨mk, mn, mv⟩ ⟨#[]⟩) = readyGo l false) := by
            have := HR.out
            rw [HD.out, readyGo, if_pos hz] at this
            exact this
          have hzb : (checkF ⟨mk, mn, mv⟩ != 0) = false := by simp [hz]
          have EO : Hid (oneB ⟨mk, mn, mv⟩ ⟨#[]⟩ = passF ⟨mk, mn, mv⟩ ⟨#[]⟩) := by show _ = _; unfold oneB; rw [hz]; rfl
          clear hz HD HR C0 hb2
          have ON := Lib.hid (rOne_any mk mn mv ⟨#[]⟩ w2 NS.out (by show 0 ≤ _; omega))
          generalize checkF ⟨mk, mn, mv⟩ = cf at *
          cases st with
          | true =>
            clear ON EO
            go_wp2_with fail
            go_roundg (l.length - (k + 1))
            case measure => omega
            case rel => exact ⟨k + 1, true, by simp, by omega, rfl, by show _ = _; have := R2.out; simpa using this, B2⟩
          | false =>
            go_wp2_with fail
            refine ON.out.mono ?_
            rintro e w3 ⟨rfl, hb3⟩
            have B3 := Lib.hid (B2.out.trans (hb3.mono B2.out.size))
            have R3 : Hid (readyGo (l.drop (k + 1)) (!oneB ⟨mk, mn, mv⟩ ⟨#[]⟩) = readyGo l false) := by
              show _ = _
              rw [EO.out]
              have := R2.out
              simpa using this
            clear hb3 ON R2 EO
            generalize oneB ⟨mk, mn, mv⟩ ⟨#[]⟩ = o at *
            go_wp2_with fail
            go_roundg (l.length - (k + 1))
            case measure => omega
            case rel => exact ⟨k + 1, _, by simp, by omega, rfl, R3, B3⟩
        · have ER : Hid (rightF l = checkF ⟨mk, mn, mv⟩) := by
            have := HR.out
            rw [HD.out, readyGo, if_neg hz] at this
            exact E.out.trans this.symm
          have hne : (checkF ⟨mk, mn, mv⟩ != 0) = true := by simpa using hz
          clear hz hb2 HD HR C0 E
          generalize checkF ⟨mk, mn, mv⟩ = er at *
          go_wp2_with fail
          go_ret
          rw [ER.out]
          exact ⟨rfl, B2.out⟩
      · have hkl : k = l.length := by omega
        subst hkl
        have ER : Hid (rightF l = if st then 0 else 71) := by
          have := HR.out
          rw [List.drop_length, readyGo] at this
          exact E.out.trans this.symm
        clear HR E
        cases st with
        | true =>
          go_wp2_with fail
          go_ret
          rw [ER.out]
          exact ⟨rfl, HB.out⟩
        | false =>
          go_wp2_with fail
          go_ret
          rw [ER.out]
          exact ⟨rfl, HB.out⟩

set_option maxRecDepth 100000 in
set_option maxHeartbeats 4000000 in
theorem rGet_any (l : List L) (lv : Value) (n : ByteArray) (w : World) (hl : Lb w lv l) :
    Calls Tryd.prog 50 #[lv, .string n] w (StrBelow w (getF l (by_ n))) := by
  obtain ⟨A, c, rfl, hbig, hsz, hcells⟩ := hl
  have HC := Lib.hid hcells
  clear hcells hsz
  have B0 : Hid (Below w.heap.size w w) := Below.refl _ _
  go_enter Tryd.func50, Tryd.ntmps50
  go_wp2_with fail
  go_loopg [9] l.length (fun gk vk wr => ∃ k : Nat, vk = .int .i64 k ∧ k + gk = l.length ∧ Hid (getF (l.drop k) (by_ n) = getF l (by_ n)) ∧ Hid (Below w.heap.size w wr))
  case atStart => exact ⟨0, rfl, by omega, rfl, B0⟩
  case round =>
    obtain ⟨k, rfl, hk, HR, HB⟩ := hrel
    clear B0
    by_cases hlt : k < l.length
    · obtain ⟨b, off, rfl, hc⟩ := HC.out (fun e => by rw [e] at hlt; simp at hlt)
      obtain ⟨c0', c1'⟩ := hc k hlt
      have lb : b < w.heap.size := World.block_lt_of_cell? w _ c0'
      have c0 := (HB.out.cell (p := ⟨b, off + k * 2, none⟩) lb).trans c0'
      have c1 := (HB.out.cell (p := ⟨b, off + k * 2 + 1, none⟩) lb).trans c1'
      have HD : Hid (l.drop k = ⟨(l[k]'hlt).n, (l[k]'hlt).v⟩ :: l.drop (k + 1)) := List.drop_eq_getElem_cons hlt
      clear hc c0' c1' HC
      generalize (l[k]'hlt).n = mn at *
      generalize (l[k]'hlt).v = mv at *
      by_cases hq : mn = n
      · subst hq
        have E : Hid (getF l (by_ mn) = mv) := by
          have := HR.out
          rw [HD.out, getF, if_pos (by simp)] at this
          exact this.symm
        go_wp2_with fail
        go_ret
        rw [E.out]
        exact ⟨rfl, HB.out.alloc HB.out.size _⟩
      · have hne : (mn.toList == n.toList) = false := by
          rw [tl_eq, tl_eq]
          simp only [beq_eq_false_iff_ne, ne_eq]
          intro e
          exact hq (ByteArray.ext (Array.ext' e))
        have R2 : Hid (getF (l.drop (k + 1)) (by_ n) = getF l (by_ n)) := by
          have := HR.out
          rw [HD.out, getF, if_neg (by rw [tl_eq, tl_eq] at hne; simpa using hne)] at this
          exact this
        clear hq
        go_wp2_with fail
        go_roundg (l.length - (k + 1))
        case measure => omega
        case rel => exact ⟨k + 1, by simp, by omega, R2, HB.out.alloc HB.out.size _⟩
    · have hkl : k = l.length := by omega
      subst hkl
      have E : Hid (getF l (by_ n) = ⟨#[]⟩) := by
        have := HR.out
        rw [List.drop_length] at this
        exact this.symm
      go_wp2_with fail
      go_ret
      rw [E.out]
      exact ⟨rfl, HB.out⟩
end Go.Proofs.YthlabaijaadocaaDoor
