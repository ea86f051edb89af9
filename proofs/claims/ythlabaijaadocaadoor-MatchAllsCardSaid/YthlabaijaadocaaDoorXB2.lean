import Derived.Test.YthlabaijaadocaaDoorXB1
/-! Sets of matchers. -/
namespace Go.Proofs.YthlabaijaadocaaDoor
open Go.RowKit Ut Rx Mt

/-- a Set that stands in memory: nil, empty, or matchers made ready; no block of these is turned by what comes -/
def NewPost (w : World) (l : List M) (e : Ending) (w' : World) : Prop :=
  Below w.heap.size w w' ∧ ((rightF l = 0 ∧ ∃ g v qs, e = .returned (.tuple #[.pointer (some ⟨g, 0, none⟩), .int .i64 0]) ∧ w'.cell? ⟨g, 0, none⟩ = some v ∧ qs.map (·.1) = l ∧ AsR w' w.heap.size v qs) ∨ (rightF l ≠ 0 ∧ e = .returned (.tuple #[.pointer none, .int .i64 (rightF l)])))

theorem AsR.slice {w : World} {base : Nat} {v : Value} {qs : List (M × Option Addr)} (h : AsR w base v qs) : ∃ g cap, v = .slice (some ⟨g, 0, none⟩) qs.length cap ∧ base ≤ g ∧ g < w.heap.size ∧ qs.length ≤ 9223372036854775807 := by
  obtain ⟨h1, g, hg, _⟩ := h
  have hlt := h1.lt g hg
  obtain ⟨_, h2⟩ := h1
  rcases h2 with ⟨rfl, _⟩ | ⟨g', cap, _, rfl, _, _, h1, h2, _⟩
  · cases hg
  · cases hg
    unfold maxLen at h2
    exact ⟨_, _, rfl, hlt.1, hlt.2, by omega⟩

set_option maxHeartbeats 2000000 in
theorem new_any (l : List M) (lv : Value) (w : World) (hl : Ms w lv l) (hT : Lib.Utf8Tabs 0 1 w) (hw : 2 ≤ w.heap.size) :
    Calls Tryd.prog 29 #[lv] w (NewPost w l) := by
  have R := Lib.hid (ready_any l lv w hl hT hw)
  clear hl hT hw
  go_enter Tryd.func29, Tryd.ntmps29
  go_wp2_with fail
  refine R.out.mono ?_
  rintro e w1 ⟨hb, h⟩
  rcases h with ⟨h0, v, qs, rfl, hq, hr⟩ | ⟨hn, rfl⟩
  · have HR := Lib.hid hr
    have HQ := Lib.hid hq
    have H0 := Lib.hid h0
    obtain ⟨g, cap, rfl, _, _, _⟩ := hr.slice
    clear hr hq h0
    go_wp2_with fail
    go_ret2
    exact ⟨hb.alloc hb.size _, Or.inl ⟨H0.out, _, _, qs, rfl, World.cell?_alloc_at _ _ _ _ rfl, HQ.out, HR.out.below ((Below.refl _ _).alloc (Nat.le_refl _) _)⟩⟩
  · have hne : (rightF l != 0) = true := by simpa using hn
    have HN := Lib.hid hn
    clear hn
    generalize hre : rightF l = er at *
    have HRE := Lib.hid hre
    clear hre
    go_wp2_with fail
    go_ret2
    exact ⟨hb, Or.inr ⟨by rw [HRE.out]; exact HN.out, by rw [HRE.out]; rfl⟩⟩

/-- what a Set's call may find -/
def SetAt (w : World) (base : Nat) (px : Option Addr) (qs : List (M × Option Addr)) : Prop :=
  (qs = [] ∧ (px = none ∨ ∃ g, px = some ⟨g, 0, none⟩ ∧ w.cell? ⟨g, 0, none⟩ = some (.slice none 0 0))) ∨ (qs ≠ [] ∧ ∃ g v, px = some ⟨g, 0, none⟩ ∧ w.cell? ⟨g, 0, none⟩ = some v ∧ AsR w base v qs)
theorem SetAt.below {w w' : World} {base : Nat} {px : Option Addr} {qs : List (M × Option Addr)} (h : SetAt w base px qs) (b : Below w.heap.size w w') : SetAt w' base px qs := by
  rcases h with ⟨h0, rfl | ⟨g, rfl, hc⟩⟩ | ⟨h0, g, v, rfl, hc, ha⟩
  · exact Or.inl ⟨h0, Or.inl rfl⟩
  · exact Or.inl ⟨h0, Or.inr ⟨g, rfl, (b.cell (p := ⟨g, 0, none⟩) (World.block_lt_of_cell? w _ hc)).trans hc⟩⟩
  · exact Or.inr ⟨h0, g, v, rfl, (b.cell (p := ⟨g, 0, none⟩) (World.block_lt_of_cell? w _ hc)).trans hc, ha.below b⟩
def setB (qs : List (M × Option Addr)) (x : List L) : Bool := decide (qs ≠ []) && passAll (qs.map (·.1)) x

set_option maxRecDepth 100000 in
set_option maxHeartbeats 2000000 in
theorem setMatch_any (base : Nat) (px : Option Addr) (qs : List (M × Option Addr)) (x : List L) (lv : Value) (w : World) (hs : SetAt w base px qs) (hl : Lb w lv x) (hok : ∀ q ∈ qs, 1 ≤ q.1.k ∧ q.1.k ≤ 4) :
    Calls Tryd.prog 27 #[.pointer px, lv] w (BoolBelow w (setB qs x)) := by
  rcases hs with ⟨rfl, rfl | ⟨g, rfl, hc⟩⟩ | ⟨h0, g, v, rfl, hc, ha⟩
  · have E : Hid (setB [] x = false) := rfl
    clear hl hok
    go_enter Tryd.func27, Tryd.ntmps27
    go_wp2_with fail
    go_ret
    rw [E.out]
    exact ⟨rfl, Below.refl _ _⟩
  · have E : Hid (setB [] x = false) := rfl
    clear hl hok
    go_enter Tryd.func27, Tryd.ntmps27
    go_wp2_with fail
    go_ret
    rw [E.out]
    exact ⟨rfl, Below.refl _ _⟩
  · have E : Hid (setB qs x = passAll (qs.map (·.1)) x) := by show _ = _; unfold setB; rw [decide_eq_true h0, Bool.true_and]
    have P := Lib.hid (pass_any base qs v x lv w ha hl hok)
    obtain ⟨g', cap, rfl, _, _, hln⟩ := ha.slice
    have hpos : 0 < qs.length := List.length_pos_iff.2 h0
    have hpi : (0 : Int) < qs.length := by omega
    clear ha hl hok h0
    go_enter Tryd.func27, Tryd.ntmps27
    go_wp2_with fail
    refine P.out.mono ?_
    rintro e w1 ⟨rfl, hb⟩
    go_wp2_with fail
    go_ret
    rw [E.out]
    exact ⟨rfl, hb⟩

def ListPost (w : World) (l : List M) (e : Ending) (w' : World) : Prop := ∃ v, e = .returned v ∧ MsR w' w.heap.size v l ∧ Below w.heap.size w w'

set_option maxRecDepth 100000 in
set_option maxHeartbeats 4000000 in
theorem setList_any (base : Nat) (px : Option Addr) (qs : List (M × Option Addr)) (w : World) (hs : SetAt w base px qs) (hn : qs.length ≤ 1000000) :
    Calls Tryd.prog 28 #[.pointer px] w (ListPost w (qs.map (·.1))) := by
  rcases hs with ⟨rfl, rfl | ⟨g, rfl, hc⟩⟩ | ⟨h0, g, v, rfl, hc, ha⟩
  · go_enter Tryd.func28, Tryd.ntmps28
    go_wp2_with fail
    go_ret
    exact ⟨_, rfl, World.ownsRow_nil _ _ _ _, Below.refl _ _⟩
  · go_enter Tryd.func28, Tryd.ntmps28
    go_wp2_with fail
    go_loopg [3, 13] 0 (fun gk vo vk wr => vo = .slice none 0 0 ∧ vk = .int .i64 0 ∧ wr = w)
    case atStart => exact ⟨rfl, rfl, rfl⟩
    case round =>
      obtain ⟨rfl, rfl, rfl⟩ := hrel
      go_wp2_with fail
      go_ret
      exact ⟨_, rfl, World.ownsRow_nil _ _ _ _, Below.refl _ _⟩
  · obtain ⟨i0, hi, hz0, hz1, hz2⟩ := info_parts infoM
    have I0 : Hid (i0.zero = some (.agg #[.int .i64 0, .string ⟨#[]⟩, .string ⟨#[]⟩]) ∧ i0.size = 3 ∧ i0.bytes = 40 ∧ Tryd.prog.info? 26 = some i0) := ⟨hz0, hz1, hz2, hi⟩
    obtain ⟨g', cap, rfl, _, lg, hln⟩ := ha.slice
    have HQ := Lib.hid ha
    have B0 : Hid (Below w.heap.size w w) := Below.refl _ _
    have O0 : Hid (MsR w w.heap.size (.slice none 0 0) []) := World.ownsRow_nil _ _ _ _
    clear ha h0 hz0 hz1 hz2 hi
    go_enter Tryd.func28, Tryd.ntmps28
    go_wp2_with fail
    go_loopg [3, 13] qs.length (fun gk vo vk wr => ∃ k : Nat, vk = .int .i64 k ∧ k + gk = qs.length ∧ Hid (Below w.heap.size w wr) ∧ Hid (MsR wr w.heap.size vo ((qs.take k).map (·.1))))
    case atStart => exact ⟨0, rfl, by omega, B0, O0⟩
    case round =>
      obtain ⟨k, rfl, hk, HB, HO⟩ := hrel
      clear B0 O0 hc
      by_cases hlt : k < qs.length
      · obtain ⟨e0, e1, e2, e3⟩ := asC_at qs k hlt
        have cc : ∀ j u, (asC qs)[j]? = some u → wr.cell? ⟨g', j, none⟩ = some u := fun j u h => by
          have := HQ.out.1.cells (g := g') rfl j u h
          have e : ((⟨g', 0, none⟩ : Addr).add j) = ⟨g', j, none⟩ := by simp [Addr.add]; omega
          rw [e] at this
          exact (HB.out.cell (p := ⟨g', j, none⟩) lg).trans this
        have c0 := cc _ _ e0
        have c1 := cc _ _ e1
        have c2 := cc _ _ e2
        have c3 := cc _ _ e3
        have HD : Hid ((qs.take (k + 1)).map (·.1) = (qs.take k).map (·.1) ++ [(qs[k]'hlt).1]) := by show _ = _; rw [List.take_succ_eq_append_getElem hlt, List.map_append]; rfl
        have HLen : ((qs.take k).map (·.1)).length ≤ k := by simp; omega
        clear cc e0 e1 e2 e3
        generalize (qs[k]'hlt).2 = px at *
        generalize (qs[k]'hlt).1 = m at *
        obtain ⟨mk, mn, mv⟩ := m
        simp only at c0 c1 c2 c3
        generalize (qs.take k).map (·.1) = acc at *
        have OW := Lib.hid (fun (o o' : Obj) => (HO.out.alloc o).alloc o')
        have B1 := Lib.hid ((HB.out.alloc HB.out.size (.cells #[.int .i64 mk, .string mn, .string mv, .pointer px] 70)))
        go_wp2_with (at_builtin; refine wpList_append_own_at _ rfl (.tmp 17) (.tmp 20) 22 rfl w.heap.size 26 i0 (.agg #[.int .i64 0, .string ⟨#[]⟩, .string ⟨#[]⟩]) 3 40 Tryd.underlying22 I0.out.2.2.2 I0.out.1 I0.out.2.1 I0.out.2.2.1 rfl (by decide) _ acc.length _ rfl (OW.out _ _) _ 1 1 [.int .i64 mk, .string mn, .string mv] rfl rfl ?c1 (one3 _ _ _) (by unfold maxLen; omega) (by omega) ?c3 ?_)
        case c1 => exact news3 _ _ _ _ _ (by simp)
        case c3 => have := HB.out.size; simp; omega
        intro v' w5 own5 grow5 _ _
        have B5 : Hid (Below w.heap.size w w5) := below_pushed (HB.out.alloc HB.out.size _ |>.alloc (by have := HB.out.size; simp; omega) _) (OW.out _ _) grow5 (Nat.le_refl _)
        have O5 : Hid (MsR w5 w.heap.size v' (acc ++ [⟨mk, mn, mv⟩])) := by
          show MsR _ _ _ _
          unfold MsR
          rw [msC_append, List.length_append]
          exact own5
        clear own5 grow5 OW B1 HO HB
        go_wp2_with fail
        go_roundg (qs.length - (k + 1))
        case measure => omega
        case rel => exact ⟨k + 1, by simp, by omega, B5, by show MsR _ _ _ _; rw [HD.out]; exact O5.out⟩
      · have hkl : k = qs.length := by omega
        subst hkl
        have E' := HO.out
        rw [List.take_length] at E'
        have E := Lib.hid E'
        clear HO E'
        go_wp2_with fail
        go_ret
        exact ⟨_, rfl, E.out, HB.out⟩
end Go.Proofs.YthlabaijaadocaaDoor

/-! The chapter's examples. -/
namespace Go.Proofs.YthlabaijaadocaaDoor
open Go.RowKit Ut Rx Mt

def lit1 : ByteArray := ⟨#[117, 112, 123, 106, 111, 98, 61, 34, 97, 34, 44, 99, 111, 100, 101, 33, 126, 34, 53, 46, 46, 34, 125]⟩
def lit2 : ByteArray := ⟨#[123, 97, 61, 34, 34, 125]⟩
def live1 : List M := [⟨1, ⟨#[95, 95, 110, 97, 109, 101, 95, 95]⟩, ⟨#[117, 112]⟩⟩, ⟨1, ⟨#[106, 111, 98]⟩, ⟨#[97]⟩⟩, ⟨4, ⟨#[99, 111, 100, 101]⟩, ⟨#[53, 46, 46]⟩⟩]
def liveL : List L := [⟨⟨#[95, 95, 110, 97, 109, 101, 95, 95]⟩, ⟨#[117, 112]⟩⟩, ⟨⟨#[99, 111, 100, 101]⟩, ⟨#[52, 48, 52]⟩⟩, ⟨⟨#[106, 111, 98]⟩, ⟨#[97]⟩⟩]
theorem live_parse1 : parseP (by_ lit1) = .ok live1 := by kernel_rfl
theorem live_parse2 : parseP (by_ lit2) = .error 71 := by kernel_rfl
theorem live_print : printF live1 = [117, 112, 123, 106, 111, 98, 61, 34, 97, 34, 44, 32, 99, 111, 100, 101, 33, 126, 34, 53, 46, 46, 34, 125] := by kernel_rfl
theorem live_all : allF live1 liveL = true := by kernel_rfl

theorem MsR.slice {w : World} {base : Nat} {v : Value} {l : List M} (h : MsR w base v l) : ∃ A c, v = .slice A l.length c ∧ l.length ≤ c := by
  rcases row_kinds h with ⟨rfl, h0⟩ | ⟨g, c, rfl, hc⟩
  · exact ⟨none, 0, by rw [h0], by omega⟩
  · exact ⟨_, _, rfl, hc⟩
theorem live_sizes : ∀ m ∈ live1, m.n.size ≤ 100000 ∧ m.v.size ≤ 100000 := by
  intro m hm
  simp only [live1, List.mem_cons, List.not_mem_nil, or_false] at hm
  rcases hm with rfl | rfl | rfl <;> exact ⟨by decide, by decide⟩
theorem liveL_sizes : ∀ x ∈ liveL, x.v.size ≤ 900000 := by
  intro m hm
  simp only [liveL, List.mem_cons, List.not_mem_nil, or_false] at hm
  rcases hm with rfl | rfl | rfl <;> decide
theorem liveL_at (w : World) : Lb (w.alloc (.cells #[.string ⟨#[95, 95, 110, 97, 109, 101, 95, 95]⟩, .string ⟨#[117, 112]⟩, .string ⟨#[99, 111, 100, 101]⟩, .string ⟨#[52, 48, 52]⟩, .string ⟨#[106, 111, 98]⟩, .string ⟨#[97]⟩] 51))
    (.slice (some ⟨w.heap.size, 0, none⟩) 3 3) liveL := by
  refine ⟨_, _, rfl, by decide, liveL_sizes, fun _ => ⟨_, _, rfl, fun i hi => ?_⟩⟩
  have e : ∀ j u, (#[Value.string ⟨#[95, 95, 110, 97, 109, 101, 95, 95]⟩, .string ⟨#[117, 112]⟩, .string ⟨#[99, 111, 100, 101]⟩, .string ⟨#[52, 48, 52]⟩, .string ⟨#[106, 111, 98]⟩, .string ⟨#[97]⟩] : Array Value)[j]? = some u → (w.alloc (.cells #[.string ⟨#[95, 95, 110, 97, 109, 101, 95, 95]⟩, .string ⟨#[117, 112]⟩, .string ⟨#[99, 111, 100, 101]⟩, .string ⟨#[52, 48, 52]⟩, .string ⟨#[106, 111, 98]⟩, .string ⟨#[97]⟩] 51)).cell? ⟨w.heap.size, j, none⟩ = some u := fun j u h => by
    rw [World.cell?_alloc_at _ _ _ _ rfl]; exact h
  match i, hi with
  | 0, _ => exact ⟨e _ _ rfl, e _ _ rfl⟩
  | 1, _ => exact ⟨e _ _ rfl, e _ _ rfl⟩
  | 2, _ => exact ⟨e _ _ rfl, e _ _ rfl⟩

set_option maxRecDepth 100000 in
set_option maxHeartbeats 4000000 in
theorem live_any (w : World) (hT : Lib.Utf8Tabs 0 1 w) (hw : 2 ≤ w.heap.size) : Calls Tryd.prog 12 #[] w (BoolBelow w true) := by
  have HT := Lib.hid hT
  have P1 := Lib.hid (parseT_any lit1 w (by decide) hT hw)
  clear hT
  go_enter Tryd.func12, Tryd.ntmps12
  go_wp2_with fail
  refine P1.out.mono ?_
  rintro e w1 ⟨hb1, h1⟩
  rw [live_parse1] at h1
  obtain ⟨v1, rfl, O1⟩ := h1
  obtain ⟨A1, c1, rfl, hc1⟩ := O1.slice
  have HB1 := Lib.hid hb1
  have HO1 := Lib.hid O1
  have P2 := Lib.hid (parseT_any lit2 w1 (by decide) (tabs_below HT.out hb1) (Nat.le_trans hw hb1.size))
  clear hb1 O1 P1
  go_wp2_with fail
  refine P2.out.mono ?_
  rintro e w2 ⟨hb2, h2⟩
  rw [live_parse2] at h2
  obtain ⟨_, rfl⟩ := h2
  have HB2 : Hid (Below w.heap.size w w2) := HB1.out.trans (hb2.mono HB1.out.size)
  have HO2 := Lib.hid (HO1.out.below hb2)
  have MS2 := Lib.hid (MsR.ms HO2.out (by decide))
  have P3 := Lib.hid (print_any live1 A1 c1 w2 MS2.out hc1 (by decide) live_sizes)
  have e3 : live1.length = 3 := rfl
  rw [e3] at P3
  clear hb2 P2 HO1 HB1 e3
  go_wp2_with fail
  refine P3.out.mono ?_
  rintro e w3 ⟨rfl, hb3⟩
  have HB3 : Hid (Below w.heap.size w w3) := HB2.out.trans (hb3.mono HB2.out.size)
  have MS3 := Lib.hid (MS2.out.below hb3)
  rw [live_print]
  clear P3 hb3 HB2 HO2 MS2
  go_wp2_with fail
  have HB4 : Hid (Below w.heap.size w (w3.alloc (.cells #[.string ⟨#[95, 95, 110, 97, 109, 101, 95, 95]⟩, .string ⟨#[117, 112]⟩, .string ⟨#[99, 111, 100, 101]⟩, .string ⟨#[52, 48, 52]⟩, .string ⟨#[106, 111, 98]⟩, .string ⟨#[97]⟩] 51))) := HB3.out.alloc HB3.out.size _
  refine (all_any live1 _ liveL _ _ (MS3.out.below ((Below.refl _ _).alloc (Nat.le_refl _) _)) (liveL_at w3) (tabs_below HT.out HB4.out) (Nat.le_trans hw HB4.out.size)).mono ?_
  rintro e w4 ⟨rfl, hb4⟩
  rw [live_all]
  go_wp2_with fail
  go_ret
  exact ⟨rfl, HB4.out.trans (hb4.mono HB4.out.size)⟩
end Go.Proofs.YthlabaijaadocaaDoor
