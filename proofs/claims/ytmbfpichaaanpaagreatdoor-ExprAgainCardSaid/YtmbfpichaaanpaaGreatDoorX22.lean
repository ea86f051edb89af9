import Derived.Test.YtmbfpichaaanpaaGreatDoorX21
/-! Few matchers, and short ones; few labels, and short ones. -/
namespace Go.Proofs.YtmbfpichaaanpaaGreatDoor
open Go.RowKit Ut Rx Mt

def shortM (m : M) : Bool := decide (m.n.size ≤ 300) && decide (m.v.size ≤ 300)
def fewB (l : List M) : Bool := decide (l.length ≤ 40) && l.all shortM
def shortL (x : L) : Bool := decide (x.n.size ≤ 300) && decide (x.v.size ≤ 200)
def shortB (l : List L) : Bool := decide (l.length ≤ 40) && l.all shortL

/-- labels, in whatever memory, of any size -/
def Lb0 (w : World) (v : Value) (l : List L) : Prop :=
  ∃ A c, v = .slice A l.length c ∧ (l ≠ [] → ∃ b off, A = some ⟨b, off, none⟩ ∧ ∀ i (h : i < l.length), w.cell? ⟨b, off + i * 2, none⟩ = some (.string (l[i]'h).n) ∧ w.cell? ⟨b, off + i * 2 + 1, none⟩ = some (.string (l[i]'h).v))
theorem Lb0.below {w w' : World} {v : Value} {l : List L} (h : Lb0 w v l) (b : Below w.heap.size w w') : Lb0 w' v l := by
  obtain ⟨A, c, e, hl⟩ := h
  refine ⟨A, c, e, fun hne => ?_⟩
  obtain ⟨bb, off, ea, hc⟩ := hl hne
  refine ⟨bb, off, ea, fun i hi => ?_⟩
  obtain ⟨c0, c1⟩ := hc i hi
  have lt : bb < w.heap.size := World.block_lt_of_cell? w _ c0
  exact ⟨(b.cell (p := ⟨bb, off + i * 2, none⟩) lt).trans c0, (b.cell (p := ⟨bb, off + i * 2 + 1, none⟩) lt).trans c1⟩
theorem Lb0.lb {w : World} {v : Value} {l : List L} (h : Lb0 w v l) (hs : shortB l = true) : Lb w v l := by
  obtain ⟨A, c, e, hl⟩ := h
  unfold shortB at hs
  simp only [Bool.and_eq_true, List.all_eq_true, decide_eq_true_eq] at hs
  refine ⟨A, c, e, by omega, fun x hx => ?_, hl⟩
  have := hs.2 x hx
  unfold shortL at this
  simp only [Bool.and_eq_true, decide_eq_true_eq] at this
  omega
/-- matchers, in whatever memory, of any size -/
def Ms0 (w : World) (v : Value) (l : List M) : Prop :=
  ∃ A c, v = .slice A l.length c ∧ l.length ≤ c ∧ (l ≠ [] → ∃ b off, A = some ⟨b, off, none⟩ ∧ ∀ i (h : i < l.length), w.cell? ⟨b, off + i * 3, none⟩ = some (.int .i64 (l[i]'h).k) ∧ w.cell? ⟨b, off + i * 3 + 1, none⟩ = some (.string (l[i]'h).n) ∧ w.cell? ⟨b, off + i * 3 + 2, none⟩ = some (.string (l[i]'h).v))
theorem few_of {l : List M} (h : fewB l = true) : l.length ≤ 40 ∧ ∀ m ∈ l, m.n.size ≤ 300 ∧ m.v.size ≤ 300 := by
  unfold fewB at h
  simp only [Bool.and_eq_true, List.all_eq_true, decide_eq_true_eq] at h
  refine ⟨h.1, fun m hm => ?_⟩
  have := h.2 m hm
  unfold shortM at this
  simpa only [Bool.and_eq_true, decide_eq_true_eq] using this
theorem Ms0.ms {w : World} {v : Value} {l : List M} (h : Ms0 w v l) (hf : fewB l = true) : Ms w v l := by
  obtain ⟨A, c, e, _, hl⟩ := h
  have := (few_of hf).1
  exact ⟨A, c, e, by omega, hl⟩
theorem Ms0.below {w w' : World} {v : Value} {l : List M} (h : Ms0 w v l) (b : Below w.heap.size w w') : Ms0 w' v l := by
  obtain ⟨A, c, e, hb, hl⟩ := h
  refine ⟨A, c, e, hb, fun hne => ?_⟩
  obtain ⟨bb, off, ea, hc⟩ := hl hne
  refine ⟨bb, off, ea, fun i hi => ?_⟩
  obtain ⟨c0, c1, c2⟩ := hc i hi
  have lt : bb < w.heap.size := World.block_lt_of_cell? w _ c0
  exact ⟨(b.cell (p := ⟨bb, off + i * 3, none⟩) lt).trans c0, (b.cell (p := ⟨bb, off + i * 3 + 1, none⟩) lt).trans c1, (b.cell (p := ⟨bb, off + i * 3 + 2, none⟩) lt).trans c2⟩




end Go.Proofs.YtmbfpichaaanpaaGreatDoor

/-! Expressions in memory. -/
namespace Go.Proofs.YtmbfpichaaanpaaGreatDoor
open Go.RowKit Ut Rx Mt

/-- texts, in whatever memory -/
def Ws0 (w : World) (v : Value) (l : List ByteArray) : Prop :=
  ∃ A c, v = .slice A l.length c ∧ l.length ≤ c ∧ (l ≠ [] → ∃ b off, A = some ⟨b, off, none⟩ ∧ ∀ i (h : i < l.length), w.cell? ⟨b, off + i, none⟩ = some (.string (l[i]'h)))
theorem Ws0.below {w w' : World} {v : Value} {l : List ByteArray} (h : Ws0 w v l) (b : Below w.heap.size w w') : Ws0 w' v l := by
  obtain ⟨A, c, e, hb, hl⟩ := h
  refine ⟨A, c, e, hb, fun hne => ?_⟩
  obtain ⟨bb, off, ea, hc⟩ := hl hne
  refine ⟨bb, off, ea, fun i hi => ?_⟩
  have c0 := hc i hi
  exact (b.cell (p := ⟨bb, off + i, none⟩) (World.block_lt_of_cell? w _ c0)).trans c0
/-- a node's eight values -/
def ndV (n : Ex.Nd) (sv nv : Value) : List Value := [.int .i64 n.k, .int .i64 n.op, .int .u64 (n.v : Int), .int .u64 (n.wd : Int), sv, .bool n.bl, .bool n.gb, nv]
structure NdAt (w : World) (b o : Nat) (n : Ex.Nd) (sv nv : Value) : Prop where
  c0 : w.cell? ⟨b, o, none⟩ = some (.int .i64 n.k)
  c1 : w.cell? ⟨b, o + 1, none⟩ = some (.int .i64 n.op)
  c2 : w.cell? ⟨b, o + 2, none⟩ = some (.int .u64 (n.v : Int))
  c3 : w.cell? ⟨b, o + 3, none⟩ = some (.int .u64 (n.wd : Int))
  c4 : w.cell? ⟨b, o + 4, none⟩ = some sv
  c5 : w.cell? ⟨b, o + 5, none⟩ = some (.bool n.bl)
  c6 : w.cell? ⟨b, o + 6, none⟩ = some (.bool n.gb)
  c7 : w.cell? ⟨b, o + 7, none⟩ = some nv
  sel : Ms0 w sv n.sel
  nm : Ws0 w nv n.nm
  hv : n.v < 18446744073709551616
  hw : n.wd < 18446744073709551616
theorem NdAt.below {w w' : World} {b o : Nat} {n : Ex.Nd} {sv nv : Value} (h : NdAt w b o n sv nv) (bl : Below w.heap.size w w') : NdAt w' b o n sv nv := by
  have k : ∀ {p : Addr} {u : Value}, w.cell? p = some u → w'.cell? p = some u := fun hp => (bl.cell (World.block_lt_of_cell? w _ hp)).trans hp
  exact ⟨k h.c0, k h.c1, k h.c2, k h.c3, k h.c4, k h.c5, k h.c6, k h.c7, h.sel.below bl, h.nm.below bl, h.hv, h.hw⟩
/-- nodes, in whatever memory -/
def Es0 (w : World) (v : Value) (l : List Ex.Nd) : Prop :=
  ∃ A c, v = .slice A l.length c ∧ l.length ≤ c ∧ (l ≠ [] → ∃ b off, A = some ⟨b, off, none⟩ ∧ ∀ i (h : i < l.length), ∃ sv nv, NdAt w b (off + i * 8) (l[i]'h) sv nv)
theorem Es0.below {w w' : World} {v : Value} {l : List Ex.Nd} (h : Es0 w v l) (b : Below w.heap.size w w') : Es0 w' v l := by
  obtain ⟨A, c, e, hb, hl⟩ := h
  refine ⟨A, c, e, hb, fun hne => ?_⟩
  obtain ⟨bb, off, ea, hc⟩ := hl hne
  refine ⟨bb, off, ea, fun i hi => ?_⟩
  obtain ⟨sv, nv, h⟩ := hc i hi
  exact ⟨sv, nv, h.below b⟩
end Go.Proofs.YtmbfpichaaanpaaGreatDoor

/-! The reference's names. -/
namespace Go.Proofs.YtmbfpichaaanpaaGreatDoor
open Go.RowKit Ut Rx Mt

theorem ret_b {a c : Bool} (h : a = c) : Ending.returned (.bool a) = .returned (.bool c) := by rw [h]
def BoolSame (w : World) (b : Bool) (e : Ending) (w' : World) : Prop := e = .returned (.bool b) ∧ w = w'
set_option maxRecDepth 100000 in
theorem rLetter_any (c : Int) (w : World) : Calls Tryz.prog 82 #[.int .u8 c] w (BoolSame w (letB c)) := by
  go_enter Tryz.func82, Tryz.ntmps82
  go_wp2_with fail
  all_goals
    go_ret
    refine ⟨ret_b ?_, rfl⟩
    rw [Bool.eq_iff_iff]; simp [letB, firB, digB]; try omega

theorem namedF_all {s : ByteArray} (hl : ∀ j (hj : j < s.size), letB (s[j]'hj).toNat = true) : namedF (by_ s) = (decide (1 ≤ s.size) && decide (s.size ≤ 64) && firB ((by_ s).getD 0 0).toNat) := by
  unfold namedF
  have : ((by_ s).all fun b => letB b.toNat) = true := by
    rw [List.all_eq_true]
    intro b hb
    obtain ⟨j, hj, rfl⟩ := List.getElem_of_mem hb
    rw [tl_get s j (by rw [← tl_len]; exact hj)]
    exact hl j _
  rw [this, tl_len, Bool.and_true]
theorem fir_of_let {c : Int} (h : letB c = true) : firB c = (decide (c < 48) || decide (57 < c)) := by
  rw [Bool.eq_iff_iff]
  unfold letB firB digB at *
  simp only [Bool.or_eq_true, Bool.and_eq_true, decide_eq_true_eq] at *
  omega

set_option maxRecDepth 100000 in
set_option maxHeartbeats 2000000 in
theorem rNamed_any (s : ByteArray) (w : World) (hs : s.size ≤ maxLen) : Calls Tryz.prog 58 #[.string s] w (BoolSame w (namedF (by_ s))) := by
  unfold maxLen at hs
  have R0 : Hid (∀ j (hj : j < s.size), j < 0 → letB (s[j]'hj).toNat = true) := fun j hj h => by omega
  go_enter Tryz.func58, Tryz.ntmps58
  go_wp2_with fail
  go_loopg [6] s.size (fun gk vk wr => ∃ k : Nat, vk = .int .i64 k ∧ k + gk = s.size ∧ Hid (∀ j (hj : j < s.size), j < k → letB (s[j]'hj).toNat = true) ∧ wr = w)
  case atStart => exact ⟨0, rfl, by omega, R0, rfl⟩
  case round =>
    obtain ⟨k, rfl, hk, HR, rfl⟩ := hrel
    clear R0
    by_cases hlt : k < s.size
    · cases hL : letB ((s[k]'hlt).toNat : Int) with
      | false =>
        have E := Lib.hid (namedF_no_letter hlt hL)
        have C : Hid (Calls Tryz.prog 82 #[.int .u8 ((s[k]'hlt).toNat : Int)] wr (BoolSame wr false)) := by show Calls _ _ _ _ _; rw [← hL]; exact rLetter_any _ _
        clear hL HR
        go_wp2_with fail
        refine C.out.mono ?_
        rintro e w' ⟨rfl, rfl⟩
        go_wp2_with fail
        go_ret
        exact ⟨ret_b (Eq.symm E.out), rfl⟩
      | true =>
        have R2 : Hid (∀ j (hj : j < s.size), j < k + 1 → letB (s[j]'hj).toNat = true) := fun j hj h => by
          by_cases e : j = k
          · subst e; exact hL
          · exact HR.out j hj (by omega)
        have C : Hid (Calls Tryz.prog 82 #[.int .u8 ((s[k]'hlt).toNat : Int)] wr (BoolSame wr true)) := by show Calls _ _ _ _ _; rw [← hL]; exact rLetter_any _ _
        clear hL HR
        go_wp2_with fail
        refine C.out.mono ?_
        rintro e w' ⟨rfl, rfl⟩
        go_wp2_with fail
        go_roundg (s.size - (k + 1))
        case measure => omega
        case rel => exact ⟨k + 1, by simp, by omega, R2, rfl⟩
    · have hkl : k = s.size := by omega
      subst hkl
      have E := Lib.hid (namedF_all (s := s) fun j hj => HR.out j hj hj)
      by_cases h1 : 1 ≤ s.size
      · have F := Lib.hid (HR.out 0 h1 h1)
        have E2 : Hid (namedF (by_ s) = (decide (s.size ≤ 64) && (decide (((s[0]'h1).toNat : Int) < 48) || decide ((57 : Int) < (s[0]'h1).toNat)))) := by
          show _ = _
          rw [E.out, decide_eq_true h1, Bool.true_and, tl_getD s h1, fir_of_let F.out]
        have h1i : (1 : Int) ≤ s.size := by omega
        clear HR E F
        by_cases h64 : s.size ≤ 64
        · have h64i : (s.size : Int) ≤ 64 := by omega
          have E3 : Hid (namedF (by_ s) = (decide (((s[0]'h1).toNat : Int) < 48) || decide ((57 : Int) < (s[0]'h1).toNat))) := by show _ = _; rw [E2.out, decide_eq_true h64, Bool.true_and]
          clear E2
          rcases (show ((s[0]'h1).toNat : Int) < 48 ∨ ((48 : Int) ≤ (s[0]'h1).toNat ∧ ((s[0]'h1).toNat : Int) ≤ 57) ∨ ((48 : Int) ≤ (s[0]'h1).toNat ∧ (57 : Int) < (s[0]'h1).toNat) by omega) with g | ⟨g, g2⟩ | ⟨g, g2⟩
          · have E4 : Hid (namedF (by_ s) = true) := by show _ = _; rw [E3.out, decide_eq_true g]; rfl
            go_wp2_with fail
            go_ret
            first | exact ⟨ret_b (Eq.symm E4.out), rfl⟩ | exact ⟨ret_b (Eq.symm E3.out), rfl⟩
          · have E4 : Hid (namedF (by_ s) = false) := by show _ = _; rw [E3.out, decide_eq_false (by omega), decide_eq_false (by omega)]; rfl
            go_wp2_with fail
            go_ret
            first | exact ⟨ret_b (Eq.symm E4.out), rfl⟩ | exact ⟨ret_b (Eq.symm E3.out), rfl⟩
          · have E4 : Hid (namedF (by_ s) = true) := by show _ = _; rw [E3.out, decide_eq_true g2, Bool.or_true]
            go_wp2_with fail
            go_ret
            first | exact ⟨ret_b (Eq.symm E4.out), rfl⟩ | exact ⟨ret_b (Eq.symm E3.out), rfl⟩
        · have h64i : ¬ (s.size : Int) ≤ 64 := by omega
          have E3 : Hid (namedF (by_ s) = false) := by show _ = _; rw [E2.out, decide_eq_false h64, Bool.false_and]
          clear E2
          go_wp2_with fail
          go_ret
          exact ⟨ret_b (Eq.symm E3.out), rfl⟩
      · have h1i : ¬ (1 : Int) ≤ s.size := by omega
        have E3 : Hid (namedF (by_ s) = false) := by show _ = _; rw [E.out, decide_eq_false h1]; rfl
        clear E HR
        go_wp2_with fail
        go_ret
        exact ⟨ret_b (Eq.symm E3.out), rfl⟩
end Go.Proofs.YtmbfpichaaanpaaGreatDoor

/-! A node by itself: how many Ops its kind has, of how many it is, whether all is nought that it does not use. -/
namespace Go.Proofs.YtmbfpichaaanpaaGreatDoor
open Go.RowKit Ut Rx Mt

def ndA (n : Ex.Nd) (sv nv : Value) : Value := .agg #[.int .i64 n.k, .int .i64 n.op, .int .u64 (n.v : Int), .int .u64 (n.wd : Int), sv, .bool n.bl, .bool n.gb, nv]
def nBox (w : World) (n : Ex.Nd) (sv nv : Value) : World := w.alloc (.cells #[.int .i64 n.k, .int .i64 n.op, .int .u64 (n.v : Int), .int .u64 (n.wd : Int), sv, .bool n.bl, .bool n.gb, nv] 37)
theorem ndAt_blk {w : World} {g : Nat} {cs : Array Value} {t : TypeId} (h : w.heap[g]? = some (.cells cs t (0, 0))) (j : Nat) : w.cell? ⟨g, j, none⟩ = cs[j]? := cell_of_row w g j cs t (0, 0) h
structure NB (w : World) (g : Nat) (n : Ex.Nd) (sv nv : Value) : Prop where
  c0 : w.cell? ⟨g, 0, none⟩ = some (.int .i64 n.k)
  c1 : w.cell? ⟨g, 1, none⟩ = some (.int .i64 n.op)
  c2 : w.cell? ⟨g, 2, none⟩ = some (.int .u64 (n.v : Int))
  c3 : w.cell? ⟨g, 3, none⟩ = some (.int .u64 (n.wd : Int))
  c4 : w.cell? ⟨g, 4, none⟩ = some sv
  c5 : w.cell? ⟨g, 5, none⟩ = some (.bool n.bl)
  c6 : w.cell? ⟨g, 6, none⟩ = some (.bool n.gb)
  c7 : w.cell? ⟨g, 7, none⟩ = some nv
theorem nBox_size (w : World) (n : Ex.Nd) (sv nv : Value) : (nBox w n sv nv).heap.size = w.heap.size + 1 := by simp [nBox]
theorem nBox_below (w : World) (n : Ex.Nd) (sv nv : Value) : Below w.heap.size w (nBox w n sv nv) := (Below.refl _ _).alloc (Nat.le_refl _) _
theorem nBox_at (w : World) (n : Ex.Nd) (sv nv : Value) (w' : World) (b : Below (nBox w n sv nv).heap.size (nBox w n sv nv) w') : NB w' w.heap.size n sv nv ∧ Below w.heap.size w w' := by
  have h := (b.block w.heap.size (by rw [nBox_size]; omega)).trans (heap_alloc_new w _)
  exact ⟨⟨ndAt_blk h 0, ndAt_blk h 1, ndAt_blk h 2, ndAt_blk h 3, ndAt_blk h 4, ndAt_blk h 5, ndAt_blk h 6, ndAt_blk h 7⟩, (nBox_below w n sv nv).trans (b.mono (nBox_below w n sv nv).size)⟩
def IntSame (w : World) (n : Int) (e : Ending) (w' : World) : Prop := e = .returned (.int .i64 n) ∧ w = w'

set_option maxHeartbeats 1000000 in
theorem ops_any (k : Int) (w : World) : Calls Tryz.prog 43 #[.int .i64 k] w (IntSame w (Ex.opsE k)) := by
  by_cases h0 : k = 0
  · subst h0
    go_enter Tryz.func43, Tryz.ntmps43
    go_wp2_with fail
    go_ret
    exact ⟨rfl, rfl⟩
  by_cases h1 : k = 1
  · subst h1
    go_enter Tryz.func43, Tryz.ntmps43
    go_wp2_with fail
    go_ret
    exact ⟨rfl, rfl⟩
  by_cases h2 : k = 2
  · subst h2
    go_enter Tryz.func43, Tryz.ntmps43
    go_wp2_with fail
    go_ret
    exact ⟨rfl, rfl⟩
  by_cases h3 : k = 3
  · subst h3
    go_enter Tryz.func43, Tryz.ntmps43
    go_wp2_with fail
    go_ret
    exact ⟨rfl, rfl⟩
  by_cases h4 : k = 4
  · subst h4
    go_enter Tryz.func43, Tryz.ntmps43
    go_wp2_with fail
    go_ret
    exact ⟨rfl, rfl⟩
  by_cases h5 : k = 5
  · subst h5
    go_enter Tryz.func43, Tryz.ntmps43
    go_wp2_with fail
    go_ret
    exact ⟨rfl, rfl⟩
  by_cases h6 : k = 6
  · subst h6
    go_enter Tryz.func43, Tryz.ntmps43
    go_wp2_with fail
    go_ret
    exact ⟨rfl, rfl⟩
  by_cases h7 : k = 7
  · subst h7
    go_enter Tryz.func43, Tryz.ntmps43
    go_wp2_with fail
    go_ret
    exact ⟨rfl, rfl⟩
  by_cases h8 : k = 8
  · subst h8
    go_enter Tryz.func43, Tryz.ntmps43
    go_wp2_with fail
    go_ret
    exact ⟨rfl, rfl⟩
  have E : Hid (Ex.opsE k = -1) := by show _ = _; unfold Ex.opsE; simp [h0, h1, h2, h3, h4, h5, h6, h7, h8]
  have g0 : (k == 0) = false := by simpa using h0
  have g1 : (k == 1) = false := by simpa using h1
  have g2 : (k == 2) = false := by simpa using h2
  have g3 : (k == 3) = false := by simpa using h3
  have g4 : (k == 4) = false := by simpa using h4
  have g5 : (k == 5) = false := by simpa using h5
  have g6 : (k == 6) = false := by simpa using h6
  have g7 : (k == 7) = false := by simpa using h7
  have g8 : (k == 8) = false := by simpa using h8
  clear h0 h1 h2 h3 h4 h5 h6 h7 h8
  go_enter Tryz.func43, Tryz.ntmps43
  go_wp2_with fail
  go_ret
  rw [E.out]
  exact ⟨rfl, rfl⟩

set_option maxRecDepth 100000 in
set_option maxHeartbeats 2000000 in
theorem takes_any (n : Ex.Nd) (sv nv : Value) (w : World) : Calls Tryz.prog 22 #[ndA n sv nv] w (IntBelow w (Ex.takesE n)) := by
  have B0 := Lib.hid (nBox_below w n sv nv)
  unfold nBox at B0
  obtain ⟨k, op, v, wd, sel, bl, gb, nm⟩ := n
  unfold ndA
  simp only at B0 ⊢
  by_cases h0 : k = 0
  · subst h0
    go_enter Tryz.func22, Tryz.ntmps22
    go_wp2_with fail
    go_ret
    exact ⟨rfl, B0.out⟩
  by_cases h1 : k = 1
  · subst h1
    go_enter Tryz.func22, Tryz.ntmps22
    go_wp2_with fail
    go_ret
    exact ⟨rfl, B0.out⟩
  by_cases h2 : k = 2
  · subst h2
    go_enter Tryz.func22, Tryz.ntmps22
    go_wp2_with fail
    go_ret
    exact ⟨rfl, B0.out⟩
  by_cases h3 : k = 3
  · subst h3
    go_enter Tryz.func22, Tryz.ntmps22
    go_wp2_with fail
    go_ret
    exact ⟨rfl, B0.out⟩
  by_cases h4 : k = 4
  · subst h4
    go_enter Tryz.func22, Tryz.ntmps22
    go_wp2_with fail
    go_ret
    exact ⟨rfl, B0.out⟩
  by_cases h5 : k = 5
  · subst h5
    go_enter Tryz.func22, Tryz.ntmps22
    go_wp2_with fail
    go_ret
    exact ⟨rfl, B0.out⟩
  by_cases h6 : k = 6
  · subst h6
    go_enter Tryz.func22, Tryz.ntmps22
    go_wp2_with fail
    go_ret
    exact ⟨rfl, B0.out⟩
  by_cases h7 : k = 7
  · subst h7
    go_enter Tryz.func22, Tryz.ntmps22
    go_wp2_with fail
    go_ret
    exact ⟨rfl, B0.out⟩
  by_cases h8 : k = 8
  · subst h8
    by_cases h5 : op = 5
    · subst h5
      go_enter Tryz.func22, Tryz.ntmps22
      go_wp2_with fail
      go_ret
      exact ⟨rfl, B0.out⟩
    · have hb : (op == 5) = false := by simpa using h5
      have E : Hid (Ex.takesE ⟨8, op, v, wd, sel, bl, gb, nm⟩ = 1) := by show _ = _; unfold Ex.takesE; simp [h5]
      clear h5
      go_enter Tryz.func22, Tryz.ntmps22
      go_wp2_with fail
      go_ret
      rw [E.out]
      exact ⟨rfl, B0.out⟩
  have E : Hid (Ex.takesE ⟨k, op, v, wd, sel, bl, gb, nm⟩ = -1) := by show _ = _; unfold Ex.takesE; simp [h0, h1, h2, h3, h4, h5, h6, h7, h8]
  have g0 : (k == 0) = false := by simpa using h0
  have g1 : (k == 1) = false := by simpa using h1
  have g2 : (k == 2) = false := by simpa using h2
  have g3 : (k == 3) = false := by simpa using h3
  have g4 : (k == 4) = false := by simpa using h4
  have g5 : (k == 5) = false := by simpa using h5
  have g6 : (k == 6) = false := by simpa using h6
  have g7 : (k == 7) = false := by simpa using h7
  have g8 : (k == 8) = false := by simpa using h8
  clear h0 h1 h2 h3 h4 h5 h6 h7 h8
  go_enter Tryz.func22, Tryz.ntmps22
  go_wp2_with fail
  go_ret
  rw [E.out]
  exact ⟨rfl, B0.out⟩

set_option maxRecDepth 100000 in
set_option maxHeartbeats 8000000 in
theorem plain_any (n : Ex.Nd) (sv nv : Value) (w : World) (hs : ∃ A c, sv = .slice A n.sel.length c) (hn : ∃ A c, nv = .slice A n.nm.length c) : Calls Tryz.prog 44 #[ndA n sv nv] w (BoolBelow w (Ex.plainE n)) := by
  have B0 := Lib.hid (nBox_below w n sv nv)
  unfold nBox at B0
  obtain ⟨k, op, v, wd, sel, bl, gb, nm⟩ := n
  unfold ndA
  simp only at B0 hs hn ⊢
  obtain ⟨A1, c1, rfl⟩ := hs
  obtain ⟨A2, c2, rfl⟩ := hn
  have E : Hid (Ex.plainE ⟨k, op, v, wd, sel, bl, gb, nm⟩ = ((decide (k = 0) || decide (v = 0)) && (decide (k = 2) || decide (wd = 0)) && (decide (k = 1) || decide (k = 2) || decide (sel.length = 0)) && (decide (k = 6) || !bl) && (decide (k = 8) || !gb && decide (nm.length = 0)))) := by
    show _ = _
    unfold Ex.plainE
    have e1 : sel.isEmpty = decide (sel.length = 0) := by cases sel <;> rfl
    have e2 : nm.isEmpty = decide (nm.length = 0) := by cases nm <;> rfl
    rw [e1, e2]
  have vd : ((v : Int) == 0) = decide (v = 0) := by by_cases h : v = 0 <;> simp [h]
  have wdd : ((wd : Int) == 0) = decide (wd = 0) := by by_cases h : wd = 0 <;> simp [h]
  have sd : ((sel.length : Int) == 0) = decide (sel.length = 0) := by by_cases h : sel.length = 0 <;> simp [h]
  have nd : ((nm.length : Int) == 0) = decide (nm.length = 0) := by by_cases h : nm.length = 0 <;> simp [h]
  generalize sel.length = sl at *
  generalize nm.length = nl at *
  generalize (v : Int) = vI at *
  generalize (wd : Int) = wI at *
  generalize decide (v = 0) = v0 at *
  generalize decide (wd = 0) = w0 at *
  generalize decide (sl = 0) = s0 at *
  generalize decide (nl = 0) = n0 at *
  by_cases h0 : k = 0
  · subst h0
    cases w0 with
    | false =>
      go_enter Tryz.func44, Tryz.ntmps44
      go_wp2_with fail
      go_ret
      exact ⟨by rw [E.out]; rfl, B0.out⟩
    | true =>
      cases s0 with
      | false =>
        go_enter Tryz.func44, Tryz.ntmps44
        go_wp2_with fail
        go_ret
        exact ⟨by rw [E.out]; rfl, B0.out⟩
      | true =>
        cases bl with
        | true =>
          go_enter Tryz.func44, Tryz.ntmps44
          go_wp2_with fail
          go_ret
          exact ⟨by rw [E.out]; rfl, B0.out⟩
        | false =>
          cases gb with
          | true =>
            go_enter Tryz.func44, Tryz.ntmps44
            go_wp2_with fail
            go_ret
            exact ⟨by rw [E.out]; rfl, B0.out⟩
          | false =>
            cases n0 with
            | false =>
              go_enter Tryz.func44, Tryz.ntmps44
              go_wp2_with fail
              go_ret
              exact ⟨by rw [E.out]; rfl, B0.out⟩
            | true =>
              go_enter Tryz.func44, Tryz.ntmps44
              go_wp2_with fail
              go_ret
              exact ⟨by rw [E.out]; rfl, B0.out⟩
  by_cases h1 : k = 1
  · subst h1
    cases v0 with
    | false =>
      go_enter Tryz.func44, Tryz.ntmps44
      go_wp2_with fail
      go_ret
      exact ⟨by rw [E.out]; rfl, B0.out⟩
    | true =>
      cases w0 with
      | false =>
        go_enter Tryz.func44, Tryz.ntmps44
        go_wp2_with fail
        go_ret
        exact ⟨by rw [E.out]; rfl, B0.out⟩
      | true =>
        cases bl with
        | true =>
          go_enter Tryz.func44, Tryz.ntmps44
          go_wp2_with fail
          go_ret
          exact ⟨by rw [E.out]; rfl, B0.out⟩
        | false =>
          cases gb with
          | true =>
            go_enter Tryz.func44, Tryz.ntmps44
            go_wp2_with fail
            go_ret
            exact ⟨by rw [E.out]; rfl, B0.out⟩
          | false =>
            cases n0 with
            | false =>
              go_enter Tryz.func44, Tryz.ntmps44
              go_wp2_with fail
              go_ret
              exact ⟨by rw [E.out]; rfl, B0.out⟩
            | true =>
              go_enter Tryz.func44, Tryz.ntmps44
              go_wp2_with fail
              go_ret
              exact ⟨by rw [E.out]; rfl, B0.out⟩
  by_cases h2 : k = 2
  · subst h2
    cases v0 with
    | false =>
      go_enter Tryz.func44, Tryz.ntmps44
      go_wp2_with fail
      go_ret
      exact ⟨by rw [E.out]; rfl, B0.out⟩
    | true =>
      cases bl with
      | true =>
        go_enter Tryz.func44, Tryz.ntmps44
        go_wp2_with fail
        go_ret
        exact ⟨by rw [E.out]; rfl, B0.out⟩
      | false =>
        cases gb with
        | true =>
          go_enter Tryz.func44, Tryz.ntmps44
          go_wp2_with fail
          go_ret
          exact ⟨by rw [E.out]; rfl, B0.out⟩
        | false =>
          cases n0 with
          | false =>
            go_enter Tryz.func44, Tryz.ntmps44
            go_wp2_with fail
            go_ret
            exact ⟨by rw [E.out]; rfl, B0.out⟩
          | true =>
            go_enter Tryz.func44, Tryz.ntmps44
            go_wp2_with fail
            go_ret
            exact ⟨by rw [E.out]; rfl, B0.out⟩
  by_cases h6 : k = 6
  · subst h6
    cases v0 with
    | false =>
      go_enter Tryz.func44, Tryz.ntmps44
      go_wp2_with fail
      go_ret
      exact ⟨by rw [E.out]; rfl, B0.out⟩
    | true =>
      cases w0 with
      | false =>
        go_enter Tryz.func44, Tryz.ntmps44
        go_wp2_with fail
        go_ret
        exact ⟨by rw [E.out]; rfl, B0.out⟩
      | true =>
        cases s0 with
        | false =>
          go_enter Tryz.func44, Tryz.ntmps44
          go_wp2_with fail
          go_ret
          exact ⟨by rw [E.out]; rfl, B0.out⟩
        | true =>
          cases gb with
          | true =>
            go_enter Tryz.func44, Tryz.ntmps44
            go_wp2_with fail
            go_ret
            exact ⟨by rw [E.out]; rfl, B0.out⟩
          | false =>
            cases n0 with
            | false =>
              go_enter Tryz.func44, Tryz.ntmps44
              go_wp2_with fail
              go_ret
              exact ⟨by rw [E.out]; rfl, B0.out⟩
            | true =>
              go_enter Tryz.func44, Tryz.ntmps44
              go_wp2_with fail
              go_ret
              exact ⟨by rw [E.out]; rfl, B0.out⟩
  by_cases h8 : k = 8
  · subst h8
    cases v0 with
    | false =>
      go_enter Tryz.func44, Tryz.ntmps44
      go_wp2_with fail
      go_ret
      exact ⟨by rw [E.out]; rfl, B0.out⟩
    | true =>
      cases w0 with
      | false =>
        go_enter Tryz.func44, Tryz.ntmps44
        go_wp2_with fail
        go_ret
        exact ⟨by rw [E.out]; rfl, B0.out⟩
      | true =>
        cases s0 with
        | false =>
          go_enter Tryz.func44, Tryz.ntmps44
          go_wp2_with fail
          go_ret
          exact ⟨by rw [E.out]; rfl, B0.out⟩
        | true =>
          cases bl with
          | true =>
            go_enter Tryz.func44, Tryz.ntmps44
            go_wp2_with fail
            go_ret
            exact ⟨by rw [E.out]; rfl, B0.out⟩
          | false =>
            go_enter Tryz.func44, Tryz.ntmps44
            go_wp2_with fail
            go_ret
            exact ⟨by rw [E.out]; rfl, B0.out⟩
  have g0 : (k == 0) = false := by simpa using h0
  have g1 : (k == 1) = false := by simpa using h1
  have g2 : (k == 2) = false := by simpa using h2
  have g6 : (k == 6) = false := by simpa using h6
  have g8 : (k == 8) = false := by simpa using h8
  have E : Hid (Ex.plainE ⟨k, op, v, wd, sel, bl, gb, nm⟩ = (v0 && w0 && s0 && !bl && (!gb && n0))) := by
    show _ = _
    rw [E.out]; simp [h0, h1, h2, h6, h8]
  clear h0 h1 h2 h6 h8
  cases v0 with
  | false =>
    go_enter Tryz.func44, Tryz.ntmps44
    go_wp2_with fail
    go_ret
    exact ⟨by rw [E.out]; rfl, B0.out⟩
  | true =>
    cases w0 with
    | false =>
      go_enter Tryz.func44, Tryz.ntmps44
      go_wp2_with fail
      go_ret
      exact ⟨by rw [E.out]; rfl, B0.out⟩
    | true =>
      cases s0 with
      | false =>
        go_enter Tryz.func44, Tryz.ntmps44
        go_wp2_with fail
        go_ret
        exact ⟨by rw [E.out]; rfl, B0.out⟩
      | true =>
        cases bl with
        | true =>
          go_enter Tryz.func44, Tryz.ntmps44
          go_wp2_with fail
          go_ret
          exact ⟨by rw [E.out]; rfl, B0.out⟩
        | false =>
          cases gb with
          | true =>
            go_enter Tryz.func44, Tryz.ntmps44
            go_wp2_with fail
            go_ret
            exact ⟨by rw [E.out]; rfl, B0.out⟩
          | false =>
            cases n0 with
            | false =>
              go_enter Tryz.func44, Tryz.ntmps44
              go_wp2_with fail
              go_ret
              exact ⟨by rw [E.out]; rfl, B0.out⟩
            | true =>
              go_enter Tryz.func44, Tryz.ntmps44
              go_wp2_with fail
              go_ret
              exact ⟨by rw [E.out]; rfl, B0.out⟩
end Go.Proofs.YtmbfpichaaanpaaGreatDoor
