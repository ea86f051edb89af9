import Derived.Test.YthlabaijaadocaaDoorXB2
/-! Matchers made ready lie above what was there: what is written below does not touch them. -/
namespace Go.Proofs.YthlabaijaadocaaDoor
open Go.RowKit Ut Rx Mt

def AskB (B g : Nat) (w : World) (m : M) (x : Value) : Prop := (m.k < 3 → x = .pointer none) ∧ (3 ≤ m.k → ∃ p lo hi, rexF (rn m.v.data.toList) = .ok p ∧ RexAt lo hi w x p ∧ (g < lo ∨ hi ≤ g) ∧ B ≤ lo)
theorem AskB.at_ {B g : Nat} {w : World} {m : M} {x : Value} (h : AskB B g w m x) : AskAt g w m x := ⟨h.1, fun h3 => let ⟨p, lo, hi, e, hx, a, _⟩ := h.2 h3; ⟨p, lo, hi, e, hx, a⟩⟩
theorem AskB.ok {B g : Nat} {w : World} {m : M} {x : Value} (h : AskB B g w m x) : AskOk w m x := h.at_.ok
theorem AskB.low {B B' g : Nat} {w : World} {m : M} {x : Value} (h : AskB B g w m x) (hb : B' ≤ B) : AskB B' g w m x := ⟨h.1, fun h3 => let ⟨p, lo, hi, e, hx, a, b⟩ := h.2 h3; ⟨p, lo, hi, e, hx, a, Nat.le_trans hb b⟩⟩
theorem AskB.below {B g : Nat} {w w' : World} {m : M} {x : Value} (h : AskB B g w m x) (b : Below w.heap.size w w') : AskB B g w' m x :=
  ⟨h.1, fun h3 => let ⟨p, lo, hi, e, hx, a, c⟩ := h.2 h3; ⟨p, lo, hi, e, hx.below b, a, c⟩⟩
theorem AskB.grown {B g : Nat} {w w' : World} {m : M} {x : Value} (h : AskB B g w m x) (b : w.grownBy w' (some g)) : AskB B g w' m x :=
  ⟨h.1, fun h3 => let ⟨p, lo, hi, e, hx, a, c⟩ := h.2 h3; ⟨p, lo, hi, e, hx.grown b a, a, c⟩⟩
theorem AskB.regrown {B g : Nat} {w w' : World} {m : M} {x : Value} (h : AskB B g w m x) (b : w.grownBy w' (some g)) : AskB B w.heap.size w' m x :=
  ⟨h.1, fun h3 => let ⟨p, lo, hi, e, hx, a, c⟩ := h.2 h3; ⟨p, lo, hi, e, hx.grown b a, Or.inr hx.1, c⟩⟩
theorem AskB.other {B g r : Nat} {w w' : World} {m : M} {x : Value} (h : AskB B g w m x) (b : w.grownBy w' (some r)) (hr : r < B) : AskB B g w' m x :=
  ⟨h.1, fun h3 => let ⟨p, lo, hi, e, hx, a, c⟩ := h.2 h3; ⟨p, lo, hi, e, hx.grown b (Or.inl (Nat.lt_of_lt_of_le hr c)), a, c⟩⟩
def AskPostB (w : World) (k : Int) (n v : ByteArray) (e : Ending) (w' : World) : Prop :=
  Below w.heap.size w w' ∧ ((checkF ⟨k, n, v⟩ = 0 ∧ ∃ px, e = .returned (.tuple #[.agg #[.int .i64 k, .string n, .string v, .pointer px], .int .i64 0]) ∧ ∀ g, g < w.heap.size → AskB w.heap.size g w' ⟨k, n, v⟩ (.pointer px)) ∨
    (checkF ⟨k, n, v⟩ ≠ 0 ∧ e = .returned (.tuple #[.agg #[.int .i64 0, .string ⟨#[]⟩, .string ⟨#[]⟩, .pointer none], .int .i64 (checkF ⟨k, n, v⟩)])))
set_option maxRecDepth 100000 in
set_option maxHeartbeats 2000000 in
theorem askB_any (k : Int) (n v : ByteArray) (w : World) (hT : Lib.Utf8Tabs 0 1 w) (hw : 2 ≤ w.heap.size) :
    Calls Tryd.prog 47 #[.agg #[.int .i64 k, .string n, .string v]] w (AskPostB w k n v) := by
  have HT := Lib.hid hT
  clear hT
  have B0 : Hid (Below w.heap.size w ((w.alloc (.cells #[.int .i64 k, .string n, .string v] 26)).alloc (.cells #[.int .i64 0, .string ⟨#[]⟩, .string ⟨#[]⟩, .pointer none] 70))) := ((Below.refl _ _).alloc (Nat.le_refl _) _).alloc (by simp) _
  have SZ : Hid (((w.alloc (.cells #[.int .i64 k, .string n, .string v] 26)).alloc (.cells #[.int .i64 0, .string ⟨#[]⟩, .string ⟨#[]⟩, .pointer none] 70)).heap.size = w.heap.size + 1 + 1) := by show _ = _; simp
  have C0 : Hid (∀ w', Below ((w.alloc (.cells #[.int .i64 k, .string n, .string v] 26)).alloc (.cells #[.int .i64 0, .string ⟨#[]⟩, .string ⟨#[]⟩, .pointer none] 70)).heap.size ((w.alloc (.cells #[.int .i64 k, .string n, .string v] 26)).alloc (.cells #[.int .i64 0, .string ⟨#[]⟩, .string ⟨#[]⟩, .pointer none] 70)) w' →
      w'.heap[w.heap.size]? = some (.cells #[.int .i64 k, .string n, .string v] 26 (0, 0)) ∧ w'.heap[w.heap.size + 1]? = some (.cells #[.int .i64 0, .string ⟨#[]⟩, .string ⟨#[]⟩, .pointer none] 70 (0, 0)) ∧ Below w.heap.size w w') := fun w' b => by
    have sz := SZ.out
    refine ⟨(b.block _ (by omega)).trans ?_, (b.block _ (by omega)).trans ?_, B0.out.trans (b.mono B0.out.size)⟩
    · rw [heap_alloc_old _ _ (by simp)]; exact heap_alloc_new w _
    · have e : w.heap.size + 1 = (w.alloc (.cells #[.int .i64 k, .string n, .string v] 26)).heap.size := by simp
      rw [e]; exact heap_alloc_new _ _
  have CH := Lib.hid (check_any k n v ((w.alloc (.cells #[.int .i64 k, .string n, .string v] 26)).alloc (.cells #[.int .i64 0, .string ⟨#[]⟩, .string ⟨#[]⟩, .pointer none] 70)) (tabs_below HT.out B0.out) (by rw [SZ.out]; omega))
  go_enter Tryd.func47, Tryd.ntmps47
  go_wp2_with fail
  refine CH.out.mono ?_
  rintro e w1 ⟨rfl, hb1⟩
  obtain ⟨hm, hr, hbw⟩ := C0.out w1 hb1
  have HM := Lib.hid hm
  have HR := Lib.hid hr
  have HB := Lib.hid hbw
  obtain ⟨m0, m1, m2, _⟩ := cells3 hm
  obtain ⟨r0, r1, r2, r3, rf0, rf1, rf2, rf3⟩ := cells4 hr
  clear hm hr hbw hb1 CH
  by_cases h0 : checkF ⟨k, n, v⟩ = 0
  · obtain ⟨k1, k4, hvd, hre⟩ := checkF_ok h0
    have E := Lib.hid h0
    rw [h0]
    clear h0
    have b3 : Below w1.heap.size w1 (w1.alloc (.cells #[.int .i64 k, .string n, .string v, .pointer none] 70)) := (Below.refl _ _).alloc (Nat.le_refl _) _
    have hm3 := (b3.block _ (Array.getElem?_eq_some_iff.1 HM.out).1).trans HM.out
    have hr3 := (b3.block _ (Array.getElem?_eq_some_iff.1 HR.out).1).trans HR.out
    obtain ⟨m0', m1', m2', _⟩ := cells3 hm3
    obtain ⟨r0', r1', r2', r3', rf0', rf1', rf2', rf3'⟩ := cells4 hr3
    have HM3 := Lib.hid hm3
    have HR3 := Lib.hid hr3
    have B3 := Lib.hid b3
    have HA3 : Hid ((w1.alloc (.cells #[.int .i64 k, .string n, .string v, .pointer none] 70)).heap[w1.heap.size]? = some (.cells #[.int .i64 k, .string n, .string v, .pointer none] 70 (0, 0))) := heap_alloc_new w1 _
    clear hm3 hr3 b3
    by_cases h3 : k < 3
    · have h3b : ¬ (3 : Int) ≤ k := by omega
      go_wp2_with fail
      obtain ⟨hf, gf⟩ := set4 HR3.out (.int .i64 k) (.string n) (.string v) (.pointer none)
      generalize (((((w1.alloc (.cells #[.int .i64 k, .string n, .string v, .pointer none] 70)).setCell ⟨w.heap.size + 1, 0, none⟩ (.int .i64 k)).setCell ⟨w.heap.size + 1, 1, none⟩ (.string n)).setCell ⟨w.heap.size + 1, 2, none⟩ (.string v)).setCell ⟨w.heap.size + 1, 3, none⟩ (.pointer none)) = wf at *
      obtain ⟨f0, f1, f2, f3, _⟩ := cells4 hf
      have bf : Below w.heap.size w wf := below_grown (HB.out.trans (B3.out.mono HB.out.size)) gf (Nat.le_succ _)
      exact bodyPost_ret (v := .tuple #[.agg #[.int .i64 k, .string n, .string v, .pointer none], .int .i64 0]) (by simp [results, Tryd.results47, go_sem, f0, f1, f2, f3]) rfl ⟨bf, Or.inl ⟨E.out, none, rfl, fun g _ => ⟨fun _ => rfl, fun h => absurd h (by show ¬ (3 : Int) ≤ k; omega)⟩⟩⟩
    · have h3b : (3 : Int) ≤ k := by omega
      obtain ⟨hs, hvv⟩ := valuedB_size hvd
      have P := Lib.hid (parse_any v (w1.alloc (.cells #[.int .i64 k, .string n, .string v, .pointer none] 70)) (by omega) hvv (tabs_below HT.out (HB.out.trans (B3.out.mono HB.out.size))) (Nat.le_trans hw (HB.out.trans (B3.out.mono HB.out.size)).size))
      have RE := Lib.hid (hre h3b)
      clear hs hvv hvd hre
      go_wp2_with fail
      refine P.out.mono ?_
      rintro e w4 ⟨hb4, h4⟩
      obtain ⟨p, hp⟩ := RE.out
      rw [hp] at h4
      obtain ⟨x, rfl, hrx⟩ := h4
      obtain ⟨px, rfl⟩ : ∃ px, x = .pointer px := by obtain ⟨_, rb, _, _, _, _, e, _⟩ := hrx; exact ⟨_, e⟩
      have ha4 := (hb4.block _ (Array.getElem?_eq_some_iff.1 HA3.out).1).trans HA3.out
      have hr4 := (hb4.block _ (Array.getElem?_eq_some_iff.1 HR3.out).1).trans HR3.out
      obtain ⟨a0, a1, a2, a3, af0, af1, af2, af3⟩ := cells4 ha4
      have HA4 := Lib.hid ha4
      have HR4 := Lib.hid hr4
      have HP := Lib.hid hp
      have HX := Lib.hid hrx
      have B4 : Hid (Below w.heap.size w w4) := (HB.out.trans (B3.out.mono HB.out.size)).trans (hb4.mono (HB.out.trans (B3.out.mono HB.out.size)).size)
      have l1 : w.heap.size + 1 < w1.heap.size := (Array.getElem?_eq_some_iff.1 HR.out).1
      clear ha4 hr4 hp hrx hb4 P RE m0' m1' m2' r0' r1' r2' r3' rf0' rf1' rf2' rf3'
      go_upto_region 7 with fail
      have g5 := grown_setCell w4 w1.heap.size 3 (.pointer px)
      have ha5 := set1 (j := 3) HA4.out (.pointer px)
      have hr5 := (g5.block (w.heap.size + 1) (Array.getElem?_eq_some_iff.1 HR4.out).1 (fun e => by have : w.heap.size + 1 = w1.heap.size := Option.some.inj e; omega)).trans HR4.out
      have B5 := Lib.hid (below_grown B4.out g5 (by omega))
      have HX5 := Lib.hid (HX.out.grown g5 (Or.inl (by simp)))
      generalize (w4.setCell ⟨w1.heap.size, 3, none⟩ (.pointer px)) = w5 at *
      obtain ⟨a0', a1', a2', a3', _⟩ := cells4 ha5
      obtain ⟨r0, r1, r2, r3, rf0, rf1, rf2, rf3⟩ := cells4 hr5
      have HR5 := Lib.hid hr5
      clear ha5 hr5 g5
      go_wp2_with fail
      obtain ⟨hf, gf⟩ := set4 HR5.out (.int .i64 k) (.string n) (.string v) (.pointer px)
      generalize ((((w5.setCell ⟨w.heap.size + 1, 0, none⟩ (.int .i64 k)).setCell ⟨w.heap.size + 1, 1, none⟩ (.string n)).setCell ⟨w.heap.size + 1, 2, none⟩ (.string v)).setCell ⟨w.heap.size + 1, 3, none⟩ (.pointer px)) = wf at *
      obtain ⟨f0, f1, f2, f3, _⟩ := cells4 hf
      have bf : Below w.heap.size w wf := below_grown B5.out gf (Nat.le_succ _)
      exact bodyPost_ret (v := .tuple #[.agg #[.int .i64 k, .string n, .string v, .pointer px], .int .i64 0]) (by simp [results, Tryd.results47, go_sem, f0, f1, f2, f3]) rfl ⟨bf, Or.inl ⟨E.out, px, rfl, fun g hg => ⟨fun h => absurd h (by show ¬ k < 3; omega), fun _ => ⟨p, _, _, HP.out, HX5.out.grown gf (Or.inl (by simp; omega)), Or.inl (by simp; omega), by have := HB.out.size; simp; omega⟩⟩⟩⟩
  · have hne : (checkF ⟨k, n, v⟩ != 0) = true := by simpa using h0
    have E := Lib.hid h0
    clear h0
    obtain ⟨er, her⟩ : ∃ er, checkF ⟨k, n, v⟩ = er := ⟨_, rfl⟩
    have ER := Lib.hid her
    rw [her] at hne ⊢
    have E : Hid (er ≠ 0) := by show er ≠ 0; rw [← ER.out]; exact E.out
    clear her
    go_wp2_with fail
    obtain ⟨hf, gf⟩ := set4 HR.out (.int .i64 0) (.string ⟨#[]⟩) (.string ⟨#[]⟩) (.pointer none)
    generalize ((((w1.setCell ⟨w.heap.size + 1, 0, none⟩ (.int .i64 0)).setCell ⟨w.heap.size + 1, 1, none⟩ (.string ⟨#[]⟩)).setCell ⟨w.heap.size + 1, 2, none⟩ (.string ⟨#[]⟩)).setCell ⟨w.heap.size + 1, 3, none⟩ (.pointer none)) = wf at *
    obtain ⟨f0, f1, f2, f3, _⟩ := cells4 hf
    have bf : Below w.heap.size w wf := below_grown HB.out gf (Nat.le_succ _)
    exact bodyPost_ret (v := .tuple #[.agg #[.int .i64 0, .string ⟨#[]⟩, .string ⟨#[]⟩, .pointer none], .int .i64 er]) (by simp [results, Tryd.results47, go_sem, f0, f1, f2, f3]) rfl ⟨bf, Or.inr ⟨by rw [ER.out]; exact E.out, by rw [ER.out]⟩⟩

/-- matchers made ready, in a row of their own, above base -/
def AsB (w : World) (base : Nat) (v : Value) (qs : List (M × Option Addr)) : Prop :=
  w.ownsRow base 70 4 v qs.length (asC qs) ∧ ∃ g, v.ownBlock = some g ∧ ∀ a ∈ qs, AskB base g w a.1 (.pointer a.2)
theorem AsB.asR {w : World} {base : Nat} {v : Value} {qs : List (M × Option Addr)} (h : AsB w base v qs) : AsR w base v qs :=
  let ⟨h1, g, hg, ha⟩ := h; ⟨h1, g, hg, fun a h => (ha a h).at_⟩
theorem AsB.below {w w' : World} {base : Nat} {v : Value} {qs : List (M × Option Addr)} (h : AsB w base v qs) (b : Below w.heap.size w w') : AsB w' base v qs := by
  obtain ⟨h1, g, hg, ha⟩ := h
  exact ⟨h1.kept (row := none) ⟨b.os, b.tape, b.output, b.size, fun k hk _ => b.block k hk⟩ (by cases v.ownBlock <;> simp), g, hg, fun a h => (ha a h).below b⟩
/-- what is written below base does not touch them -/
theorem AsB.other {w w' : World} {base r : Nat} {v : Value} {qs : List (M × Option Addr)} (h : AsB w base v qs) (b : w.grownBy w' (some r)) (hr : r < base) : AsB w' base v qs := by
  obtain ⟨h1, g, hg, ha⟩ := h
  exact ⟨h1.kept b (Or.inr fun e => by have := (h1.lt r e).1; omega), g, hg, fun a h => (ha a h).other b hr⟩
theorem AsB.slice {w : World} {base : Nat} {v : Value} {qs : List (M × Option Addr)} (h : AsB w base v qs) : ∃ g cap, v = .slice (some ⟨g, 0, none⟩) qs.length cap ∧ base ≤ g ∧ g < w.heap.size ∧ qs.length ≤ 9223372036854775807 := h.asR.slice
theorem AsB.pushed {w w4 w5 : World} {base n0 : Nat} {v v' : Value} {qs : List (M × Option Addr)} {a : M} {px : Option Addr} (h : AsB w base v qs) (hn : ∀ g, v.ownBlock = some g → g < n0) (hask : ∀ g, g < n0 → AskB base g w a (.pointer px)) (b : Below w.heap.size w w4)
    (gr : w4.grownBy w5 v.ownBlock) (own : w5.ownsRow base 70 4 v' (qs.length + 1) (asC qs ++ [.int .i64 a.k, .string a.n, .string a.v, .pointer px])) (at_ : v'.ownBlock = v.ownBlock ∨ v'.ownBlock = some w4.heap.size) : AsB w5 base v' (qs ++ [(a, px)]) := by
  obtain ⟨h1, g, hg, ha⟩ := h
  have all4 : ∀ q ∈ qs ++ [(a, px)], AskB base g w4 q.1 (.pointer q.2) := fun q hq => by
    rcases List.mem_append.1 hq with hq | hq
    · exact (ha q hq).below b
    · have e := pair_list hq
      subst e
      exact (hask g (hn g hg)).below b
  rw [hg] at gr at_
  refine ⟨?_, ?_⟩
  · rw [asC_append, List.length_append]; exact own
  · rcases at_ with e | e
    · exact ⟨g, e, fun q hq => (all4 q hq).grown gr⟩
    · exact ⟨_, e, fun q hq => (all4 q hq).regrown gr⟩
theorem mk0_rowB (n : Nat) (hn : n ≤ 16) (w : World) : AsB (w.alloc (.cells (az n) 70)) w.heap.size (.slice (some ⟨w.heap.size, 0, none⟩) 0 n) [] :=
  ⟨World.ownsRow_made w (az n) n (Nat.le_refl _) (by unfold maxLen; omega) (size_madeCells _ _), _, rfl, fun a ha => by cases ha⟩
def ReadyPostB (w : World) (l : List M) (e : Ending) (w' : World) : Prop :=
  Below w.heap.size w w' ∧ ((rightF l = 0 ∧ ∃ v qs, e = .returned (.tuple #[v, .int .i64 0]) ∧ qs.map (·.1) = l ∧ AsB w' w.heap.size v qs) ∨ (rightF l ≠ 0 ∧ e = .returned (.tuple #[.slice none 0 0, .int .i64 (rightF l)])))

set_option maxRecDepth 100000 in
set_option maxHeartbeats 4000000 in
theorem readyB_any (l : List M) (lv : Value) (w : World) (hl : Ms w lv l) (hT : Lib.Utf8Tabs 0 1 w) (hw : 2 ≤ w.heap.size) :
    Calls Tryd.prog 37 #[lv] w (ReadyPostB w l) := by
  have HT := Lib.hid hT
  have HL := Lib.hid hl
  clear hT
  obtain ⟨A, c, rfl, hbig, hcells⟩ := hl
  by_cases h16 : l.length > 16
  · have E : Hid (rightF l = 3) := by show _ = _; unfold rightF; rw [if_pos h16]
    have h16i : (16 : Int) < l.length := by omega
    clear hcells
    go_enter Tryd.func37, Tryd.ntmps37
    go_wp2_with fail
    exact bodyPost_ret (v := .tuple #[.slice none 0 0, .int .i64 3]) (by simp [results, Tryd.results37, go_sem]) rfl ⟨Below.refl _ _, Or.inr ⟨by rw [E.out]; decide, by rw [E.out]⟩⟩
  · have E : Hid (rightF l = readyGo l false) := by show _ = _; unfold rightF; rw [if_neg h16]
    have h16i : ¬ (16 : Int) < l.length := by omega
    have hmk := run_mk0 l.length (by omega) w
    obtain ⟨i0, hi, hz0, hz1, hz2⟩ := info_parts infoAs
    have I0 : Hid (i0.zero = some (.agg #[.int .i64 0, .string ⟨#[]⟩, .string ⟨#[]⟩, .pointer none]) ∧ i0.size = 4 ∧ i0.bytes = 48 ∧ Tryd.prog.info? 70 = some i0) := ⟨hz0, hz1, hz2, hi⟩
    have AR0 := Lib.hid (mk0_rowB l.length (by omega) w)
    have B0 : Hid (Below w.heap.size w (w.alloc (.cells (az l.length) 70))) := (Below.refl _ _).alloc (Nat.le_refl _) _
    have HC := Lib.hid hcells
    clear hz0 hz1 hz2 hi hcells
    go_enter Tryd.func37, Tryd.ntmps37
    go_wp2_with fail
    go_loopg [4, 5, 18] l.length (fun gk vo vs vk wr => ∃ (k : Nat) (qs : List (M × Option Addr)) (st : Bool), vk = .int .i64 k ∧ k + gk = l.length ∧ vs = .bool st ∧ Hid (qs.map (·.1) = l.take k) ∧ Hid (readyGo (l.drop k) st = readyGo l false) ∧ Hid (Below w.heap.size w wr) ∧ Hid (AsB wr w.heap.size vo qs))
    case atStart => exact ⟨0, [], false, rfl, by omega, rfl, by show _ = _; simp, by show _ = _; simp, B0, AR0⟩
    case round =>
      obtain ⟨k, qs, st, rfl, hk, rfl, HA, HR, HB, HO⟩ := hrel
      clear AR0 B0 hmk
      by_cases hlt : k < l.length
      · obtain ⟨b, off, rfl, hc⟩ := HC.out (fun e => by rw [e] at hlt; simp at hlt)
        obtain ⟨c0', c1', c2'⟩ := hc k hlt
        have lb : b < w.heap.size := World.block_lt_of_cell? w _ c0'
        have c0 := (HB.out.cell (p := ⟨b, off + k * 3, none⟩) lb).trans c0'
        have c1 := (HB.out.cell (p := ⟨b, off + k * 3 + 1, none⟩) lb).trans c1'
        have c2 := (HB.out.cell (p := ⟨b, off + k * 3 + 2, none⟩) lb).trans c2'
        have HD : Hid (l.drop k = ⟨(l[k]'hlt).k, (l[k]'hlt).n, (l[k]'hlt).v⟩ :: l.drop (k + 1)) := List.drop_eq_getElem_cons hlt
        have HTk : Hid (l.take (k + 1) = l.take k ++ [⟨(l[k]'hlt).k, (l[k]'hlt).n, (l[k]'hlt).v⟩]) := List.take_succ_eq_append_getElem hlt
        clear hc c0' c1' c2' HC
        generalize (l[k]'hlt).k = mk at *
        generalize (l[k]'hlt).n = mn at *
        generalize (l[k]'hlt).v = mv at *
        have AK := Lib.hid (askB_any mk mn mv (wr.alloc (.cells #[.int .i64 mk, .string mn, .string mv] 26)) (tabs_below HT.out (HB.out.alloc HB.out.size _)) (Nat.le_trans hw (HB.out.alloc HB.out.size _).size))
        go_wp2_with fail
        refine AK.out.mono ?_
        rintro e w2 ⟨hb2, h2⟩
        have B2 : Hid (Below w.heap.size w w2) := (HB.out.alloc HB.out.size _).trans (hb2.mono (HB.out.alloc HB.out.size _).size)
        have B2r : Hid (Below wr.heap.size wr w2) := ((Below.refl _ _).alloc (Nat.le_refl _) _).trans (hb2.mono (by simp))
        rcases h2 with ⟨hz, px, rfl, hask⟩ | ⟨hnz, rfl⟩
        · have HZ := Lib.hid hz
          have R2 : Hid (readyGo (l.drop (k + 1)) (st || !passF ⟨mk, mn, mv⟩ ⟨#[]⟩) = readyGo l false) := by
            have := HR.out
            rw [HD.out, readyGo, if_pos hz] at this
            exact this
          have ASK := Lib.hid (fun g hg => (hask g hg).low (HB.out.alloc HB.out.size _).size)
          obtain ⟨hk1, hk4, _, _⟩ := checkF_ok hz
          clear hz hask hb2 HD HR AK c0 c1 c2
          have OW := Lib.hid (fun (o o' : Obj) => ((HO.out.below B2r.out).1.alloc o).alloc o')
          have SZ := Lib.hid B2.out.size
          have lq : qs.length = k := by have := congrArg List.length HA.out; rw [List.length_map, List.length_take] at this; omega
          go_wp2_with (at_builtin; refine wpList_append_own_at _ rfl (.tmp 30) (.tmp 32) 43 rfl w.heap.size 70 i0 (.agg #[.int .i64 0, .string ⟨#[]⟩, .string ⟨#[]⟩, .pointer none]) 4 48 Tryd.underlying43 I0.out.2.2.2 I0.out.1 I0.out.2.1 I0.out.2.2.1 rfl (by decide) _ qs.length _ rfl (OW.out _ _) _ 1 1 [.int .i64 mk, .string mn, .string mv, .pointer px] rfl rfl ?c1 ?c2 (by unfold maxLen; omega) (by omega) ?c3 ?_)
          case c1 => exact news4 _ _ _ _ _ _ (by simp)
          case c2 => exact one4 _ _ _ _
          case c3 => have := SZ.out; simp; omega
          intro v' w5 own5 grow5 _ at5
          have b4 : Below w2.heap.size w2 ((w2.alloc (.cells #[.int .i64 mk, .string mn, .string mv, .pointer px] 70)).alloc (.cells #[.int .i64 mk, .string mn, .string mv, .pointer px] 70)) := ((Below.refl _ _).alloc (Nat.le_refl _) _).alloc (by simp) _
          have hv4 : ((w2.alloc (.cells #[.int .i64 mk, .string mn, .string mv, .pointer px] 70)).alloc (.cells #[.int .i64 mk, .string mn, .string mv, .pointer px] 70)).heap[w2.heap.size]? = some (.cells #[.int .i64 mk, .string mn, .string mv, .pointer px] 70 (0, 0)) := by
            rw [heap_alloc_old _ _ (by simp)]; exact heap_alloc_new w2 _
          have B4 : Hid (Below w.heap.size w ((w2.alloc (.cells #[.int .i64 mk, .string mn, .string mv, .pointer px] 70)).alloc (.cells #[.int .i64 mk, .string mn, .string mv, .pointer px] 70))) := B2.out.trans (b4.mono B2.out.size)
          have S4 : ((w2.alloc (.cells #[.int .i64 mk, .string mn, .string mv, .pointer px] 70)).alloc (.cells #[.int .i64 mk, .string mn, .string mv, .pointer px] 70)).heap.size = w2.heap.size + 1 + 1 := by simp
          generalize ((w2.alloc (.cells #[.int .i64 mk, .string mn, .string mv, .pointer px] 70)).alloc (.cells #[.int .i64 mk, .string mn, .string mv, .pointer px] 70)) = w4 at *
          have P5 := Lib.hid ((HO.out.below B2r.out).pushed (a := ⟨mk, mn, mv⟩) (px := px) (fun g hg => by have := (HO.out.1.lt g hg).2; simp; omega) ASK.out b4 grow5 (show w5.ownsRow w.heap.size 70 4 v' (qs.length + 1) _ by rw [lq]; exact own5) (by rw [S4]; exact at5))
          obtain ⟨_, g, hg, _⟩ := HO.out
          have lg := (HO.out.1.lt g hg)
          rw [hg] at grow5
          have B5 := Lib.hid (below_grown B4.out grow5 lg.1)
          have hv5 := (grow5.block _ (Array.getElem?_eq_some_iff.1 hv4).1 (fun e => by have : w2.heap.size = g := Option.some.inj e; have := B2r.out.size; omega)).trans hv4
          have HA5 : Hid ((qs ++ [((⟨mk, mn, mv⟩ : M), px)]).map (·.1) = l.take (k + 1)) := by show _ = _; rw [List.map_append, HA.out, HTk.out]; rfl
          obtain ⟨y0, y1, y2, y3, _⟩ := cells4 hv5
          clear hv5 hv4 b4 B4 grow5 own5 at5 hg lg OW SZ ASK HTk HA HO HB B2 B2r
          cases st with
          | true =>
            go_wp2_with fail
            go_roundg (l.length - (k + 1))
            case measure => omega
            case rel => exact ⟨k + 1, _, true, by simp, by omega, rfl, HA5, by show _ = _; have := R2.out; simpa using this, B5, P5⟩
          | false =>
            obtain ⟨_, g, _, hq⟩ := P5.out
            have PA := Lib.hid (passes_any mk mn mv px ⟨#[]⟩ w5 (hq _ (List.mem_append_right _ (List.mem_singleton.2 rfl))).ok (by show 0 ≤ _; omega) hk1 hk4)
            clear hq hk1 hk4
            go_wp2_with fail
            refine PA.out.mono ?_
            rintro e w6 ⟨rfl, hb6⟩
            have B6 := Lib.hid (B5.out.trans (hb6.mono B5.out.size))
            have P6 := Lib.hid (P5.out.below hb6)
            clear hb6 P5 B5
            go_wp2_with fail
            go_roundg (l.length - (k + 1))
            case measure => omega
            case rel => exact ⟨k + 1, _, _, by simp, by omega, rfl, HA5, by show _ = _; have := R2.out; simpa using this, B6, P6⟩
        · have E2 : Hid (readyGo l false = checkF ⟨mk, mn, mv⟩) := by
            have := HR.out
            rw [HD.out, readyGo, if_neg hnz] at this
            exact this.symm
          have ER : Hid (rightF l = checkF ⟨mk, mn, mv⟩) := E.out.trans E2.out
          have HZ := Lib.hid hnz
          have hne : (checkF ⟨mk, mn, mv⟩ != 0) = true := by simpa using hnz
          clear hnz hb2 HD HR AK c0 c1 c2 HA HTk E E2
          generalize checkF ⟨mk, mn, mv⟩ = er at *
          go_wp2_with fail
          exact bodyPost_ret (v := .tuple #[.slice none 0 0, .int .i64 er]) (by simp [results, Tryd.results37, go_sem]) rfl ⟨B2.out.alloc B2.out.size _, Or.inr ⟨by rw [ER.out]; exact HZ.out, by rw [ER.out]⟩⟩
      · have hkl : k = l.length := by omega
        subst hkl
        have ER : Hid (rightF l = if st then 0 else 71) := by
          have := HR.out
          rw [List.drop_length, readyGo] at this
          exact E.out.trans this.symm
        have HA2 : Hid (qs.map (·.1) = l) := by show _ = _; rw [HA.out, List.take_length]
        clear HR HA E
        cases st with
        | true =>
          go_wp2_with fail
          exact bodyPost_ret (v := .tuple #[_, .int .i64 0]) (by simp [results, Tryd.results37, go_sem]) rfl ⟨HB.out, Or.inl ⟨ER.out, _, qs, rfl, HA2.out, HO.out⟩⟩
        | false =>
          go_wp2_with fail
          exact bodyPost_ret (v := .tuple #[.slice none 0 0, .int .i64 71]) (by simp [results, Tryd.results37, go_sem]) rfl ⟨HB.out, Or.inr ⟨by rw [ER.out]; decide, by rw [ER.out]; rfl⟩⟩

def NewPostB (w : World) (l : List M) (e : Ending) (w' : World) : Prop :=
  Below w.heap.size w w' ∧ ((rightF l = 0 ∧ ∃ g v qs, e = .returned (.tuple #[.pointer (some ⟨g, 0, none⟩), .int .i64 0]) ∧ w'.cell? ⟨g, 0, none⟩ = some v ∧ qs.map (·.1) = l ∧ AsB w' w.heap.size v qs) ∨ (rightF l ≠ 0 ∧ e = .returned (.tuple #[.pointer none, .int .i64 (rightF l)])))

set_option maxHeartbeats 2000000 in
theorem newB_any (l : List M) (lv : Value) (w : World) (hl : Ms w lv l) (hT : Lib.Utf8Tabs 0 1 w) (hw : 2 ≤ w.heap.size) :
    Calls Tryd.prog 29 #[lv] w (NewPostB w l) := by
  have R := Lib.hid (readyB_any l lv w hl hT hw)
  clear hl hT hw
  go_enter Tryd.func29, Tryd.ntmps29
  go_wp2_with fail
  refine R.out.mono ?_
  rintro e w1 ⟨hb, h⟩
  rcases h with ⟨h0, v, qs, rfl, hq, hr⟩ | ⟨hn, rfl⟩
  · have HR := Lib.hid hr
    have HQ := Lib.hid hq
    have H0 := Lib.hid h0
    obtain ⟨g, cap, rfl, _, _, _⟩ := hr.slice
    clear hr hq h0
    go_wp2_with fail
    go_ret2
    exact ⟨hb.alloc hb.size _, Or.inl ⟨H0.out, _, _, qs, rfl, World.cell?_alloc_at _ _ _ _ rfl, HQ.out, HR.out.below ((Below.refl _ _).alloc (Nat.le_refl _) _)⟩⟩
  · have hne : (rightF l != 0) = true := by simpa using hn
    have HN := Lib.hid hn
    clear hn
    generalize hre : rightF l = er at *
    have HRE := Lib.hid hre
    clear hre
    go_wp2_with fail
    go_ret2
    exact ⟨hb, Or.inr ⟨by rw [HRE.out]; exact HN.out, by rw [HRE.out]; rfl⟩⟩
end Go.Proofs.YthlabaijaadocaaDoor
