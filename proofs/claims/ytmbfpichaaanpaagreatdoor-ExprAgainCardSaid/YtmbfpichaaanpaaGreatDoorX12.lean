import Derived.Test.YtmbfpichaaanpaaGreatDoorX11
import Derived.Recover
import Derived.RegionTactic
import Derived.Defers
import Derived.Test.YtmbfpichaaanpaaGreatDoorX01
import Derived.Test.YtmbfpichaaanpaaGreatDoorX03
/-! Parse: what is deferred. -/
namespace Go.Proofs.YtmbfpichaaanpaaGreatDoor
open Go.RowKit Ut Rx

/-- the variables of Parse: the reader's, x, at, e -/
structure Vars (w : World) (rv xv av ev : Nat) : Prop where
  x : w.cell? ⟨xv, 0, none⟩ = some (.pointer none)
  a : ∃ q, w.cell? ⟨av, 0, none⟩ = some (.int .i64 q)
  e : ∃ q, w.cell? ⟨ev, 0, none⟩ = some (.int .i64 q)
  fx : w.frozen? ⟨xv, 0, none⟩ = false
  fa : w.frozen? ⟨av, 0, none⟩ = false
  fe : w.frozen? ⟨ev, 0, none⟩ = false

set_option maxRecDepth 100000 in
theorem run_assert (a b : Int) (w : World) : (Instr.typeAssert (.iface 123 (.agg #[.int .i64 a, .int .i64 b])) 20 123 true).run Tryz.prog w = .ok (.tuple #[.agg #[.int .i64 a, .int .i64 b], .bool true]) w := by kernel_rfl
def CatchEnd (B : Nat) (w : World) (xv av ev : Nat) (at_ er : Int) (e : Exit) (a : Act) (w' : World) : Prop :=
  e = .normal ∧ a.defers = [] ∧ Below B w w' ∧ w'.cell? ⟨xv, 0, none⟩ = some (.pointer none) ∧ w'.cell? ⟨av, 0, none⟩ = some (.int .i64 at_) ∧ w'.cell? ⟨ev, 0, none⟩ = some (.int .i64 er)
set_option maxRecDepth 100000 in
set_option maxHeartbeats 1000000 in
theorem catch_bad (rv xv av ev : Nat) (at_ er : Int) (older : List PanicEntry) (w : World) (h : Vars w rv xv av ev) (h1 : xv ≠ av) (h2 : xv ≠ ev) (h3 : av ≠ ev) (B : Nat) (hB : B ≤ xv ∧ B ≤ av ∧ B ≤ ev ∧ B ≤ w.heap.size) :
    CallsD Tryz.prog 128 #[.pointer (some ⟨rv, 0, none⟩), .pointer (some ⟨xv, 0, none⟩), .pointer (some ⟨av, 0, none⟩), .pointer (some ⟨ev, 0, none⟩)] (.panicking ({ v := faultV at_ er, recovered := false, goexit := false } :: older)) w fun e u' w' =>
      e = .returned (.tuple #[]) ∧ u' = .panicking ({ v := faultV at_ er, recovered := true, goexit := false } :: older) ∧ Below B w w' ∧
      w'.cell? ⟨xv, 0, none⟩ = some (.pointer none) ∧ w'.cell? ⟨av, 0, none⟩ = some (.int .i64 at_) ∧ w'.cell? ⟨ev, 0, none⟩ = some (.int .i64 er) := by
  obtain ⟨x, ⟨qa, a⟩, ⟨qe, e⟩, fx, fa, fe⟩ := h
  have hta := run_assert at_ er
  refine callsD_of_wpS Tryz.func128 rfl fun c₀ cs hu => ?_
  apply wpS_seq
  apply wpS_region
  simp [wpOpsS, go_sem, recoverD, hu, Tryz.ntmps128, Exit.thenS]
  have et : ∀ F : Value, ((#[.pointer (some ⟨rv, 0, none⟩), .pointer (some ⟨xv, 0, none⟩), .pointer (some ⟨av, 0, none⟩), .pointer (some ⟨ev, 0, none⟩)] : Array Value) ++ ((Array.replicate 22 undef).setIfInBounds 3 F).setIfInBounds 0 F) = #[.pointer (some ⟨rv, 0, none⟩), .pointer (some ⟨xv, 0, none⟩), .pointer (some ⟨av, 0, none⟩), .pointer (some ⟨ev, 0, none⟩), F, undef, undef, F, undef, undef, undef, undef, undef, undef, undef, undef, undef, undef, undef, undef, undef, undef, undef, undef, undef, undef] := fun F => by
    simp [Array.replicate, List.replicate]
  rw [et]
  clear et
  refine wpS_of_wp (wp_mono (Q := CatchEnd B w xv av ev at_ er) ?_ ?_)
  · unfold faultV
    go_wp2_with fail
    have lx : xv < w.heap.size := World.block_lt_of_cell? w _ x
    have la : av < w.heap.size := World.block_lt_of_cell? w _ a
    have le : ev < w.heap.size := World.block_lt_of_cell? w _ e
    have b : Below w.heap.size w (w.alloc (.cells #[.int .i64 at_, .int .i64 er] 123)) := (Below.refl _ _).alloc (Nat.le_refl _) _
    have y0 : (w.alloc (.cells #[.int .i64 at_, .int .i64 er] 123)).cell? ⟨w.heap.size, 0, none⟩ = some (.int .i64 at_) := World.cell?_alloc_at _ _ _ _ rfl
    have y1 : (w.alloc (.cells #[.int .i64 at_, .int .i64 er] 123)).cell? ⟨w.heap.size, 1, none⟩ = some (.int .i64 er) := World.cell?_alloc_at _ _ _ _ rfl
    have x' := (b.cell (p := ⟨xv, 0, none⟩) lx).trans x
    have a' := (b.cell (p := ⟨av, 0, none⟩) la).trans a
    have e' := (b.cell (p := ⟨ev, 0, none⟩) le).trans e
    have fx' := (b.frozen (p := ⟨xv, 0, none⟩) lx).trans fx
    have fa' := (b.frozen (p := ⟨av, 0, none⟩) la).trans fa
    have fe' := (b.frozen (p := ⟨ev, 0, none⟩) le).trans fe
    have BW := Lib.hid (b.mono hB.2.2.2)
    have HB := Lib.hid hB
    clear hB
    generalize w.alloc (.cells #[.int .i64 at_, .int .i64 er] 123) = W at *
    generalize w.heap.size = fb at *
    have n1 : fb ≠ xv := by omega
    have n2 : fb ≠ av := by omega
    have n3 : fb ≠ ev := by omega
    have n4 : av ≠ xv := Ne.symm h1
    have n5 : ev ≠ xv := Ne.symm h2
    have n6 : ev ≠ av := Ne.symm h3
    clear b x a e fx fa fe hta hu lx la le
    go_region
    all_goals
      go_wp2_with fail
      refine ⟨rfl, rfl, ?_, ?_, ?_, ?_⟩
      · exact ((((BW.out.setCell HB.out.1 _).setCell HB.out.2.1 _).setCell HB.out.2.2.1 _)).drew
      · show (((W.setCell _ _).setCell _ _).setCell _ _).cell? _ = _
        rw [World.cell?_setCell_other _ _ _ _ (by simp), World.cell?_setCell_other _ _ _ _ (by simp), World.cell?_setCell_same _ _ _ x']
      · show (((W.setCell _ _).setCell _ _).setCell _ _).cell? _ = _
        rw [World.cell?_setCell_other _ _ _ _ (by simp)]
        exact World.cell?_setCell_same _ _ _ ((World.cell?_setCell_other _ _ _ _ (by simp)).trans a')
      · show (((W.setCell _ _).setCell _ _).setCell _ _).cell? _ = _
        refine World.cell?_setCell_same _ _ _ (u := .int .i64 qe) ?_
        rw [World.cell?_setCell_other _ _ _ _ (by simp), World.cell?_setCell_other _ _ _ _ (by simp)]
        exact e'
  · rintro e2 a2 w2 ⟨rfl, hd, hb, c1, c2, c3⟩
    cases c₀
    simp_all [bodyPostS, results, Tryz.results128]

theorem catch_idle (ps : Array Value) (hps : ps.size = 4) (w : World) :
    CallsD Tryz.prog 128 ps .returning w fun e u' w' => e = .returned (.tuple #[]) ∧ u' = .returning ∧ w' = w := by
  obtain ⟨p0, p1, p2, p3, rfl⟩ : ∃ a b c d, ps = #[a, b, c, d] := by
    match ps, hps with
    | ⟨[a, b, c, d]⟩, _ => exact ⟨a, b, c, d, rfl⟩
  refine callsD_of_wpS Tryz.func128 rfl fun c₀ cs hu => ?_
  apply wpS_seq
  apply wpS_region
  simp [wpOpsS, go_sem, recoverD, hu, Tryz.ntmps128, Exit.thenS]
  have et : ∀ F : Value, ((#[p0, p1, p2, p3] : Array Value) ++ ((Array.replicate 22 undef).setIfInBounds 3 F).setIfInBounds 0 F) = #[p0, p1, p2, p3, F, undef, undef, F, undef, undef, undef, undef, undef, undef, undef, undef, undef, undef, undef, undef, undef, undef, undef, undef, undef, undef] := fun F => by
    simp [Array.replicate, List.replicate]
  rw [et]
  clear et
  refine wpS_of_wp (wp_mono (Q := fun e a w' => e = .normal ∧ a.defers = [] ∧ w' = w) ?_ ?_)
  · go_wp2_with fail
  · rintro e2 a2 w2 ⟨rfl, hd, rfl⟩
    cases c₀
    simp_all [bodyPostS, results, Tryz.results128]
end Go.Proofs.YtmbfpichaaanpaaGreatDoor

/-! Parse. -/
namespace Go.Proofs.YtmbfpichaaanpaaGreatDoor
open Go.RowKit Ut Rx

def ParsePost (w : World) (s : ByteArray) (e : Ending) (w' : World) : Prop :=
  Below w.heap.size w w' ∧ match rexF (rn s.data.toList) with
  | .ok p => ∃ x, e = .returned (.tuple #[x, .int .i64 0, .int .i64 0]) ∧ RexAt w.heap.size w'.heap.size w' x p
  | .error er => ∃ q : Int, e = .returned (.tuple #[.pointer none, .int .i64 q, .int .i64 er])
theorem vars_grown {w w' : World} {rv xv av ev r : Nat} (h : Vars w rv xv av ev) (g : w.grownBy w' (some r)) (h1 : xv ≠ r) (h2 : av ≠ r) (h3 : ev ≠ r) : Vars w' rv xv av ev := by
  obtain ⟨x, ⟨qa, a⟩, ⟨qe, e⟩, fx, fa, fe⟩ := h
  have ne : ∀ k, k ≠ r → some k ≠ some r := fun k hk e => hk (Option.some.inj e)
  have fz : ∀ k, k < w.heap.size → k ≠ r → w'.frozen? ⟨k, 0, none⟩ = w.frozen? ⟨k, 0, none⟩ := fun k hk hr => World.frozen?_of_block (a := ⟨k, 0, none⟩) (g.block k hk (ne k hr))
  exact ⟨g.cell x (ne _ h1), ⟨qa, g.cell a (ne _ h2)⟩, ⟨qe, g.cell e (ne _ h3)⟩, (fz _ (World.block_lt_of_cell? w _ x) h1).trans fx, (fz _ (World.block_lt_of_cell? w _ a) h2).trans fa, (fz _ (World.block_lt_of_cell? w _ e) h3).trans fe⟩

/-- what is left must be nothing -/
def outF : Out → Except Int Pat
  | .ok (p, []) => .ok p
  | .ok (_, _ :: _) => .error 8
  | .error e => .error e
theorem rexF_of {l : List Int} {res : Out} (h : parF (3 * l.length + 4) .pat 0 l = some res) : rexF l = outF res := by
  unfold rexF
  rw [h]
  cases res with
  | error er => rfl
  | ok x => obtain ⟨p, t⟩ := x; cases t <;> rfl

/-- where pattern is called -/
structure Set0 (w W : World) (s : ByteArray) : Prop where
  here : At W (w.heap.size + 1 + 1 + 1) s (rn s.data.toList) ((0 : Nat) : Int) 0
  vars : Vars W (w.heap.size + 1 + 1 + 1 + 1) w.heap.size (w.heap.size + 1) (w.heap.size + 1 + 1)
  rv : W.cell? ⟨w.heap.size + 1 + 1 + 1 + 1, 0, none⟩ = some (.pointer (some ⟨w.heap.size + 1 + 1 + 1, 0, none⟩))
  below : Below w.heap.size w W
theorem set0 (w : World) (s : ByteArray) (hv : Lib.validD s.data.toList = true) :
    Set0 w (((((w.alloc (.cells #[.pointer none] 91)).alloc (.cells #[.int .i64 0] 3)).alloc (.cells #[.int .i64 0] 25)).alloc (.cells #[.string s, .int .i64 0, .int .i64 0, .int .i64 0] 121)).alloc (.cells #[.pointer (some ⟨w.heap.size + 1 + 1 + 1, 0, none⟩)] 119)) s := by
  generalize h1 : w.alloc (.cells #[.pointer none] 91) = w1
  generalize h2 : w1.alloc (.cells #[.int .i64 0] 3) = w2
  generalize h3 : w2.alloc (.cells #[.int .i64 0] 25) = w3
  generalize h4 : w3.alloc (.cells #[.string s, .int .i64 0, .int .i64 0, .int .i64 0] 121) = w4
  have s1 : w1.heap.size = w.heap.size + 1 := by rw [← h1]; simp
  have s2 : w2.heap.size = w.heap.size + 1 + 1 := by rw [← h2, ← s1]; simp
  have s3 : w3.heap.size = w.heap.size + 1 + 1 + 1 := by rw [← h3, ← s2]; simp
  have s4 : w4.heap.size = w.heap.size + 1 + 1 + 1 + 1 := by rw [← h4, ← s3]; simp
  generalize h5 : w4.alloc (.cells #[.pointer (some ⟨w.heap.size + 1 + 1 + 1, 0, none⟩)] 119) = w5
  have s5 : w5.heap.size = w.heap.size + 1 + 1 + 1 + 1 + 1 := by rw [← h5, ← s4]; simp
  have e1 : w1.heap[w.heap.size]? = some (.cells #[.pointer none] 91 (0, 0)) := by rw [← h1]; exact heap_alloc_new w _
  have e2 : w2.heap[w.heap.size + 1]? = some (.cells #[.int .i64 0] 3 (0, 0)) := by rw [← h2, ← s1]; exact heap_alloc_new w1 _
  have e3 : w3.heap[w.heap.size + 1 + 1]? = some (.cells #[.int .i64 0] 25 (0, 0)) := by rw [← h3, ← s2]; exact heap_alloc_new w2 _
  have e4 : w4.heap[w.heap.size + 1 + 1 + 1]? = some (.cells #[.string s, .int .i64 0, .int .i64 0, .int .i64 0] 121 (0, 0)) := by rw [← h4, ← s3]; exact heap_alloc_new w3 _
  have e5 : w5.heap[w.heap.size + 1 + 1 + 1 + 1]? = some (.cells #[.pointer (some ⟨w.heap.size + 1 + 1 + 1, 0, none⟩)] 119 (0, 0)) := by rw [← h5, ← s4]; exact heap_alloc_new w4 _
  have b5 : Below w4.heap.size w4 w5 := by rw [← h5]; exact (Below.refl _ _).alloc (Nat.le_refl _) _
  have b4 : Below w3.heap.size w3 w5 := by
    have : Below w3.heap.size w3 w4 := by rw [← h4]; exact (Below.refl _ _).alloc (Nat.le_refl _) _
    exact this.trans (b5.mono this.size)
  have b3 : Below w2.heap.size w2 w5 := by
    have : Below w2.heap.size w2 w3 := by rw [← h3]; exact (Below.refl _ _).alloc (Nat.le_refl _) _
    exact this.trans (b4.mono this.size)
  have b2 : Below w1.heap.size w1 w5 := by
    have : Below w1.heap.size w1 w2 := by rw [← h2]; exact (Below.refl _ _).alloc (Nat.le_refl _) _
    exact this.trans (b3.mono this.size)
  have b1 : Below w.heap.size w w5 := by
    have : Below w.heap.size w w1 := by rw [← h1]; exact (Below.refl _ _).alloc (Nat.le_refl _) _
    exact this.trans (b2.mono this.size)
  have x1 := (b2.block w.heap.size (by omega)).trans e1
  have x2 := (b3.block (w.heap.size + 1) (by omega)).trans e2
  have x3 := (b4.block (w.heap.size + 1 + 1) (by omega)).trans e3
  have x4 := (b5.block (w.heap.size + 1 + 1 + 1) (by omega)).trans e4
  have fr : ∀ {k : Nat} {c : Array Value} {t : TypeId} (j : Nat), w5.heap[k]? = some (.cells c t (0, 0)) → w5.frozen? ⟨k, j, none⟩ = false := fun j h => by unfold World.frozen?; rw [h]; simp
  have ce : ∀ {k : Nat} {c : Array Value} {t : TypeId} (j : Nat), w5.heap[k]? = some (.cells c t (0, 0)) → w5.cell? ⟨k, j, none⟩ = c[j]? := fun j h => by unfold World.cell?; rw [h]; rfl
  refine ⟨⟨0, ⟨(ce 0 x4).trans rfl, (ce 1 x4).trans rfl, (ce 2 x4).trans rfl, (ce 3 x4).trans rfl, fun j => fr j x4, by omega⟩, Pos.start hv⟩, ⟨(ce 0 x1).trans rfl, ⟨0, (ce 0 x2).trans rfl⟩, ⟨0, (ce 0 x3).trans rfl⟩, fr 0 x1, fr 0 x2, fr 0 x3⟩, (ce 0 e5).trans rfl, b1⟩

set_option maxRecDepth 100000 in
set_option maxHeartbeats 2000000 in
theorem parse_any (s : ByteArray) (w : World) (hs : s.size ≤ 256) (hv : Lib.validD s.data.toList = true) (hT : Lib.Utf8Tabs 6 7 w) (hw : 8 ≤ w.heap.size) :
    Calls Tryz.prog 107 #[.string s] w (ParsePost w s) := by
  have hmf : ∀ (fn : Fn) (first cap : Array Value) (w : World), (Instr.makeFunc fn first cap).run Tryz.prog w = .ok (.func fn first cap) w := fun _ _ _ _ => rfl
  have hsz : ¬ (256 : Int) < s.size := by omega
  have HV := Lib.hid hv
  have HT := Lib.hid hT
  clear hv hT
  go_enter_defers Tryz.func107, Tryz.ntmps107
  go_wp2_with fail
  have S0 := Lib.hid (set0 w s HV.out)
  have HT0 := Lib.hid (tabs_below HT.out S0.out.below)
  generalize (((((w.alloc (.cells #[.pointer none] 91)).alloc (.cells #[.int .i64 0] 3)).alloc (.cells #[.int .i64 0] 25)).alloc (.cells #[.string s, .int .i64 0, .int .i64 0, .int .i64 0] 121)).alloc (.cells #[.pointer (some ⟨w.heap.size + 1 + 1 + 1, 0, none⟩)] 119)) = W at *
  have hl : (rn s.data.toList).length ≤ 256 := Nat.le_trans (rn_le _) (by rw [tl_len]; exact hs)
  obtain ⟨res, hres0, hres⟩ := parF_more (l := rn s.data.toList) (Nat.le_refl _)
  have IH := Lib.hid ((reads (3 * (rn s.data.toList).length + 4) (by omega)).1 0 (rn s.data.toList) res hres (w.heap.size + 1 + 1 + 1) s 0 W S0.out.here (by omega) HT0.out hs (by omega))
  have RX := Lib.hid (rexF_of hres)
  clear hres hres0 hl
  -- the ways on which it panics
  have DIE : Hid (∀ (at_ er : Int) (w6 : World), W.grownBy w6 (some (w.heap.size + 1 + 1 + 1)) → rexF (rn s.data.toList) = .error er → ∀ (ts : Array Value), (∀ j, j < 5 → ts[j]? = (#[.string s, undef, .pointer (some ⟨w.heap.size, 0, none⟩), .pointer (some ⟨w.heap.size + 1, 0, none⟩), .pointer (some ⟨w.heap.size + 1 + 1, 0, none⟩)] : Array Value)[j]?) →
      Leaves Tryz.prog Tryz.f107 ts (ParsePost w s) [{ target := .fn (.func 128) #[.pointer (some ⟨w.heap.size + 1 + 1 + 1 + 1, 0, none⟩), .pointer (some ⟨w.heap.size, 0, none⟩), .pointer (some ⟨w.heap.size + 1, 0, none⟩), .pointer (some ⟨w.heap.size + 1 + 1, 0, none⟩)], args := #[] }]
        (.panicking [{ v := faultV at_ er, recovered := false, goexit := false }]) w6) := by
    intro at_ er w6 g6 hr ts hts
    refine leaves_cons (f := 128) (args := #[.pointer (some ⟨w.heap.size + 1 + 1 + 1 + 1, 0, none⟩), .pointer (some ⟨w.heap.size, 0, none⟩), .pointer (some ⟨w.heap.size + 1, 0, none⟩), .pointer (some ⟨w.heap.size + 1 + 1, 0, none⟩)]) (by simp) (by simp [go_sem]) ?_
    have gsz := g6.size
    have bsz := S0.out.below.size
    refine (catch_bad _ _ _ _ at_ er [] w6 (vars_grown S0.out.vars g6 (by omega) (by omega) (by omega)) (by omega) (by omega) (by omega) w.heap.size ⟨by omega, by omega, by omega, by omega⟩).mono ?_
    rintro e u' w7 ⟨rfl, rfl, hb, c1, c2, c3⟩
    simp only [Leaves, settle, List.dropWhile_nil]
    have t2 : ts[2]? = some (.pointer (some ⟨w.heap.size, 0, none⟩)) := hts 2 (by omega)
    have t3 : ts[3]? = some (.pointer (some ⟨w.heap.size + 1, 0, none⟩)) := hts 3 (by omega)
    have t4 : ts[4]? = some (.pointer (some ⟨w.heap.size + 1 + 1, 0, none⟩)) := hts 4 (by omega)
    refine ⟨.tuple #[.pointer none, .int .i64 at_, .int .i64 er], ?_, ?_, ?_⟩
    · clear hts hmf IH RX HT0 S0 HV HT hr
      simp [results, Tryz.results107, go_sem, t2, t3, t4, c1, c2, c3]
    · exact (S0.out.below.trans ((below_then (Below.refl _ _) g6).size |> fun _ => ⟨g6.os, g6.tape, g6.output, gsz, fun k hk => g6.block k (Nat.lt_of_lt_of_le hk bsz) (fun e => by have : k = w.heap.size + 1 + 1 + 1 := Option.some.inj e; omega)⟩)).trans hb
    · rw [hr]; exact ⟨at_, rfl⟩
  clear hmf
  refine IH.out.mono ?_
  rintro e w6 ⟨g6, h6⟩
  clear IH
  cases res with
  | error er =>
    obtain ⟨at_, rfl⟩ := h6
    exact DIE.out at_ er w6 g6 (by rw [RX.out]; rfl) _ (fun j hj => by match j, hj with | 0, _ => rfl | 1, _ => rfl | 2, _ => rfl | 3, _ => rfl | 4, _ => rfl)
  | ok x =>
    obtain ⟨p, t⟩ := x
    obtain ⟨b, z', rfl, ⟨q, hrd, hpos⟩, hden⟩ := h6
    have krv := g6.cell S0.out.rv (fun e => by have : w.heap.size + 1 + 1 + 1 + 1 = w.heap.size + 1 + 1 + 1 := Option.some.inj e; omega)
    have k1 := hrd.p
    have k3 := hrd.z
    have HD := Lib.hid hden
    have HR := Lib.hid hrd
    have G6 := Lib.hid g6
    cases t with
    | nil =>
      obtain rfl := hpos.nil
      have V6 := Lib.hid (vars_grown S0.out.vars g6 (by omega) (by omega) (by omega))
      obtain ⟨vx, ⟨qa, va⟩, ⟨qe, ve⟩, fx, fa, fe⟩ := V6.out
      have E : Hid (rexF (rn s.data.toList) = .ok p) := by show _ = _; rw [RX.out]; rfl
      have b7 : Below w6.heap.size w6 (w6.alloc (.cells #[.string s, .pointer (some ⟨b, 0, none⟩), .int .i64 z'] 129)) := (Below.refl _ _).alloc (Nat.le_refl _) _
      have lx : w.heap.size < w6.heap.size := World.block_lt_of_cell? w6 _ vx
      have la : w.heap.size + 1 < w6.heap.size := World.block_lt_of_cell? w6 _ va
      have le : w.heap.size + 1 + 1 < w6.heap.size := World.block_lt_of_cell? w6 _ ve
      have vx7 := (b7.cell (p := ⟨w.heap.size, 0, none⟩) lx).trans vx
      have va7 := (b7.cell (p := ⟨w.heap.size + 1, 0, none⟩) la).trans va
      have ve7 := (b7.cell (p := ⟨w.heap.size + 1 + 1, 0, none⟩) le).trans ve
      have fx7 := (b7.frozen (p := ⟨w.heap.size, 0, none⟩) lx).trans fx
      have fa7 := (b7.frozen (p := ⟨w.heap.size + 1, 0, none⟩) la).trans fa
      have fe7 := (b7.frozen (p := ⟨w.heap.size + 1 + 1, 0, none⟩) le).trans fe
      clear hden hrd hpos g6 RX DIE b7
      go_wp2_with fail
      refine leaves_cons (f := 128) (args := #[.pointer (some ⟨w.heap.size + 1 + 1 + 1 + 1, 0, none⟩), .pointer (some ⟨w.heap.size, 0, none⟩), .pointer (some ⟨w.heap.size + 1, 0, none⟩), .pointer (some ⟨w.heap.size + 1 + 1, 0, none⟩)]) (by simp) (by simp [go_sem]) ?_
      refine (catch_idle _ rfl _).mono ?_
      rintro e u' w8 ⟨rfl, rfl, rfl⟩
      simp only [Leaves, settle]
      have g1 := grown_setCell w6 w.heap.size 0 (.pointer (some ⟨w6.heap.size, 0, none⟩))
      have x1 := World.cell?_setCell_same w6 ⟨w.heap.size, 0, none⟩ (.pointer (some ⟨w6.heap.size, 0, none⟩)) vx
      have a1 := (World.cell?_setCell_other w6 ⟨w.heap.size, 0, none⟩ ⟨w.heap.size + 1, 0, none⟩ (.pointer (some ⟨w6.heap.size, 0, none⟩)) (by simp)).trans va
      have e1 := (World.cell?_setCell_other w6 ⟨w.heap.size, 0, none⟩ ⟨w.heap.size + 1 + 1, 0, none⟩ (.pointer (some ⟨w6.heap.size, 0, none⟩)) (by simp; try omega)).trans ve
      have z1 := World.size_setCell w6 ⟨w.heap.size, 0, none⟩ (.pointer (some ⟨w6.heap.size, 0, none⟩))
      generalize w6.setCell ⟨w.heap.size, 0, none⟩ (.pointer (some ⟨w6.heap.size, 0, none⟩)) = y1 at *
      have g2 := grown_setCell y1 (w.heap.size + 1) 0 (.int .i64 0)
      have x2 := (World.cell?_setCell_other y1 ⟨w.heap.size + 1, 0, none⟩ ⟨w.heap.size, 0, none⟩ (.int .i64 0) (by simp)).trans x1
      have a2 := World.cell?_setCell_same y1 ⟨w.heap.size + 1, 0, none⟩ (.int .i64 0) a1
      have e2 := (World.cell?_setCell_other y1 ⟨w.heap.size + 1, 0, none⟩ ⟨w.heap.size + 1 + 1, 0, none⟩ (.int .i64 0) (by simp)).trans e1
      have z2 := World.size_setCell y1 ⟨w.heap.size + 1, 0, none⟩ (.int .i64 0)
      generalize y1.setCell ⟨w.heap.size + 1, 0, none⟩ (.int .i64 0) = y2 at *
      have g3 := grown_setCell y2 (w.heap.size + 1 + 1) 0 (.int .i64 0)
      have x3 := (World.cell?_setCell_other y2 ⟨w.heap.size + 1 + 1, 0, none⟩ ⟨w.heap.size, 0, none⟩ (.int .i64 0) (by simp; try omega)).trans x2
      have a3 := (World.cell?_setCell_other y2 ⟨w.heap.size + 1 + 1, 0, none⟩ ⟨w.heap.size + 1, 0, none⟩ (.int .i64 0) (by simp)).trans a2
      have e3 := World.cell?_setCell_same y2 ⟨w.heap.size + 1 + 1, 0, none⟩ (.int .i64 0) e2
      have z3 := World.size_setCell y2 ⟨w.heap.size + 1 + 1, 0, none⟩ (.int .i64 0)
      generalize y2.setCell ⟨w.heap.size + 1 + 1, 0, none⟩ (.int .i64 0) = y3 at *
      have hz : y3.heap.size = w6.heap.size := by omega
      have g4 : Below y3.heap.size y3 (y3.alloc (.cells #[.string s, .pointer (some ⟨b, 0, none⟩), .int .i64 z'] 129)) := (Below.refl _ _).alloc (Nat.le_refl _) _
      have PB : (y3.alloc (.cells #[.string s, .pointer (some ⟨b, 0, none⟩), .int .i64 z'] 129)).heap[w6.heap.size]? = some (.cells #[.string s, .pointer (some ⟨b, 0, none⟩), .int .i64 z'] 129 (0, 0)) := by rw [← hz]; exact heap_alloc_new y3 _
      have z4 : (y3.alloc (.cells #[.string s, .pointer (some ⟨b, 0, none⟩), .int .i64 z'] 129)).heap.size = y3.heap.size + 1 := by simp
      have x4 := (g4.cell (p := ⟨w.heap.size, 0, none⟩) (by show w.heap.size < _; omega)).trans x3
      have a4 := (g4.cell (p := ⟨w.heap.size + 1, 0, none⟩) (by show w.heap.size + 1 < _; omega)).trans a3
      have e4 := (g4.cell (p := ⟨w.heap.size + 1 + 1, 0, none⟩) (by show w.heap.size + 1 + 1 < _; omega)).trans e3
      generalize y3.alloc (.cells #[.string s, .pointer (some ⟨b, 0, none⟩), .int .i64 z'] 129) = y4 at *
      have kb : ∀ k, k < w6.heap.size → k ≠ w.heap.size → k ≠ w.heap.size + 1 → k ≠ w.heap.size + 1 + 1 → y4.heap[k]? = w6.heap[k]? := fun k hk n1 n2 n3 =>
        (((g4.block k (by omega)).trans (g3.block k (by omega) (fun e => n3 (Option.some.inj e)))).trans (g2.block k (by omega) (fun e => n2 (Option.some.inj e)))).trans (g1.block k hk (fun e => n1 (Option.some.inj e)))
      have bs := S0.out.below.size
      have gs := G6.out.size
      have lrv : w.heap.size + 1 + 1 + 1 + 1 < W.heap.size := World.block_lt_of_cell? W _ S0.out.rv
      refine ⟨.tuple #[.pointer (some ⟨w6.heap.size, 0, none⟩), .int .i64 0, .int .i64 0], ?_, ⟨g4.os.trans (g3.os.trans (g2.os.trans (g1.os.trans (G6.out.os.trans S0.out.below.os)))), g4.tape.trans (g3.tape.trans (g2.tape.trans (g1.tape.trans (G6.out.tape.trans S0.out.below.tape)))), g4.output.trans (g3.output.trans (g2.output.trans (g1.output.trans (G6.out.output.trans S0.out.below.output)))), by omega, fun k hk => ?_⟩, ?_⟩
      · simp [results, Tryz.results107, go_sem, x4, a4, e4]
      · rw [kb k (by omega) (by omega) (by omega) (by omega), G6.out.block k (by omega) (fun e => by have : k = w.heap.size + 1 + 1 + 1 := Option.some.inj e; omega)]
        exact S0.out.below.block k hk
      · rw [E.out]
        refine ⟨_, rfl, Nat.le_refl _, w6.heap.size, b, z', s, _, rfl, PB, HD.out.move (by omega) (fun k hk => kb k hk.2 (by have := hk.1; omega) (by have := hk.1; omega) (by have := hk.1; omega)) (fun _ h => h), fun k hk => ⟨by have := hk.1; omega, by have := hk.2; omega⟩, by omega, by omega⟩
    | cons c u =>
      have hlt : (q : Int) < s.size := by obtain ⟨h1, _⟩ := hpos.cons; omega
      have E : Hid (rexF (rn s.data.toList) = .error 8) := by show _ = _; rw [RX.out]; rfl
      clear hden hpos g6 RX hrd
      go_wp2_with fail
      refine (bad_any _ s q _ z' 8 w6 HR.out).mono ?_
      rintro e w7 ⟨⟨at_, rfl⟩, rfl⟩
      exact DIE.out at_ 8 w6 G6.out E.out _ (fun j hj => by match j, hj with | 0, _ => rfl | 1, _ => rfl | 2, _ => rfl | 3, _ => rfl | 4, _ => rfl)
end Go.Proofs.YtmbfpichaaanpaaGreatDoor

/-! Matchers, plainly. No program in sight. -/
namespace Go.Proofs.YtmbfpichaaanpaaGreatDoor
namespace Mt
open Ut Rx Go.Lib
/-- a matcher: kind, name, value -/
structure M where
  k : Int
  n : ByteArray
  v : ByteArray
/-- a label -/
structure L where
  n : ByteArray
  v : ByteArray

abbrev by_ (s : ByteArray) : List UInt8 := s.data.toList
def valuedB (s : ByteArray) : Bool := decide (s.size ≤ 128) && validD s.data.toList
def errF (r : Except Int Pat) : Int := match r with | .ok _ => 0 | .error e => e
/-- what is wrong with a matcher -/
def checkF (m : M) : Int :=
  if decide (m.k < 1) || decide (m.k > 4) then 70 else
  if !namedF (by_ m.n) then 50 else
  if !valuedB m.v then 51 else
  if m.k < 3 then 0 else errF (rexF (rn (by_ m.v)))
def matchB (r : Except Int Pat) (s : List Int) : Bool := match r with | .ok p => fullB p s | .error _ => false
def passF (m : M) (v : ByteArray) : Bool :=
  if m.k = 1 then by_ v == by_ m.v else if m.k = 2 then by_ v != by_ m.v else
  if m.k = 3 then matchB (rexF (rn (by_ m.v))) (rn (by_ v)) else if m.k = 4 then !matchB (rexF (rn (by_ m.v))) (rn (by_ v)) else false
def oneB (m : M) (v : ByteArray) : Bool := decide (checkF m = 0) && passF m v
/-- the loop of `ready` -/
def readyGo : List M → Bool → Int
  | [], strict => if strict then 0 else 71
  | m :: t, strict => if checkF m = 0 then readyGo t (strict || !passF m ⟨#[]⟩) else checkF m
def rightF (l : List M) : Int := if l.length > 16 then 3 else readyGo l false
def getF : List L → List UInt8 → ByteArray
  | [], _ => ⟨#[]⟩
  | x :: t, n => if by_ x.n == n then x.v else getF t n
def passAll (l : List M) (x : List L) : Bool := l.all fun m => passF m (getF x (by_ m.n))
def allF (l : List M) (x : List L) : Bool := decide (rightF l = 0) && passAll l x

/-! ### texts -/
def bareF (l : List UInt8) : List UInt8 := l.dropWhile (· == 32)
def letU (b : UInt8) : Bool := letB b.toNat
def unqF : List UInt8 → Except Int (List UInt8 × List UInt8)
  | [] => .error 6
  | c :: t =>
    if c == 34 then .ok ([], t) else if c == 10 then .error 8 else if c == 92 then
      (match t with
      | [] => .error 6
      | d :: u => if d == 34 || d == 92 then (match unqF u with | .ok (s, r) => .ok (d :: s, r) | .error e => .error e)
        else if d == 110 then (match unqF u with | .ok (s, r) => .ok (10 :: s, r) | .error e => .error e) else .error 8)
    else match unqF t with | .ok (s, r) => .ok (c :: s, r) | .error e => .error e
def unquoteF : List UInt8 → Except Int (List UInt8 × List UInt8)
  | [] => .error 6
  | c :: t => if c == 34 then unqF t else .error 8
def quoGo : List UInt8 → List UInt8
  | [] => [34]
  | c :: t => if c == 34 || c == 92 then 92 :: c :: quoGo t else if c == 10 then 92 :: 110 :: quoGo t else c :: quoGo t
def quoteF (l : List UInt8) : List UInt8 := 34 :: quoGo l
end Mt
end Go.Proofs.YtmbfpichaaanpaaGreatDoor
