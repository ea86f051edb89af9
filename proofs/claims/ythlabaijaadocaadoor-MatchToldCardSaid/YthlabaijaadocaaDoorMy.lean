import Derived.Test.YthlabaijaadocaaDoorMx
import Derived.Recover
import Derived.RegionTactic
import Derived.Defers
/-! Parse: what is deferred. -/
namespace Go.Proofs.YthlabaijaadocaaDoor
open Go.RowKit Ut Rx

/-- the variables of Parse: the reader's, x, at, e -/
structure Vars (w : World) (rv xv av ev : Nat) : Prop where
  x : w.cell? ⟨xv, 0, none⟩ = some (.pointer none)
  a : ∃ q, w.cell? ⟨av, 0, none⟩ = some (.int .i64 q)
  e : ∃ q, w.cell? ⟨ev, 0, none⟩ = some (.int .i64 q)
  fx : w.frozen? ⟨xv, 0, none⟩ = false
  fa : w.frozen? ⟨av, 0, none⟩ = false
  fe : w.frozen? ⟨ev, 0, none⟩ = false

theorem run_assert (a b : Int) (w : World) : (Instr.typeAssert (.iface 81 (.agg #[.int .i64 a, .int .i64 b])) 20 81 true).run Tryd.prog w = .ok (.tuple #[.agg #[.int .i64 a, .int .i64 b], .bool true]) w := by kernel_rfl
def CatchEnd (B : Nat) (w : World) (xv av ev : Nat) (at_ er : Int) (e : Exit) (a : Act) (w' : World) : Prop :=
  e = .normal ∧ a.defers = [] ∧ Below B w w' ∧ w'.cell? ⟨xv, 0, none⟩ = some (.pointer none) ∧ w'.cell? ⟨av, 0, none⟩ = some (.int .i64 at_) ∧ w'.cell? ⟨ev, 0, none⟩ = some (.int .i64 er)
set_option maxRecDepth 100000 in
set_option maxHeartbeats 1000000 in
theorem catch_bad (rv xv av ev : Nat) (at_ er : Int) (older : List PanicEntry) (w : World) (h : Vars w rv xv av ev) (h1 : xv ≠ av) (h2 : xv ≠ ev) (h3 : av ≠ ev) (B : Nat) (hB : B ≤ xv ∧ B ≤ av ∧ B ≤ ev ∧ B ≤ w.heap.size) :
    CallsD Tryd.prog 53 #[.pointer (some ⟨rv, 0, none⟩), .pointer (some ⟨xv, 0, none⟩), .pointer (some ⟨av, 0, none⟩), .pointer (some ⟨ev, 0, none⟩)] (.panicking ({ v := faultV at_ er, recovered := false, goexit := false } :: older)) w fun e u' w' =>
      e = .returned (.tuple #[]) ∧ u' = .panicking ({ v := faultV at_ er, recovered := true, goexit := false } :: older) ∧ Below B w w' ∧
      w'.cell? ⟨xv, 0, none⟩ = some (.pointer none) ∧ w'.cell? ⟨av, 0, none⟩ = some (.int .i64 at_) ∧ w'.cell? ⟨ev, 0, none⟩ = some (.int .i64 er) := by
  obtain ⟨x, ⟨qa, a⟩, ⟨qe, e⟩, fx, fa, fe⟩ := h
  have hta := run_assert at_ er
  refine callsD_of_wpS Tryd.func53 rfl fun c₀ cs hu => ?_
  apply wpS_seq
  apply wpS_region
  simp [wpOpsS, go_sem, recoverD, hu, Tryd.ntmps53, Exit.thenS]
  have et : ∀ F : Value, ((#[.pointer (some ⟨rv, 0, none⟩), .pointer (some ⟨xv, 0, none⟩), .pointer (some ⟨av, 0, none⟩), .pointer (some ⟨ev, 0, none⟩)] : Array Value) ++ ((Array.replicate 22 undef).setIfInBounds 3 F).setIfInBounds 0 F) = #[.pointer (some ⟨rv, 0, none⟩), .pointer (some ⟨xv, 0, none⟩), .pointer (some ⟨av, 0, none⟩), .pointer (some ⟨ev, 0, none⟩), F, undef, undef, F, undef, undef, undef, undef, undef, undef, undef, undef, undef, undef, undef, undef, undef, undef, undef, undef, undef, undef] := fun F => by
    simp [Array.replicate, List.replicate]
  rw [et]
  clear et
  refine wpS_of_wp (wp_mono (Q := CatchEnd B w xv av ev at_ er) ?_ ?_)
  · unfold faultV
    go_wp2_with fail
    have lx : xv < w.heap.size := World.block_lt_of_cell? w _ x
    have la : av < w.heap.size := World.block_lt_of_cell? w _ a
    have le : ev < w.heap.size := World.block_lt_of_cell? w _ e
    have b : Below w.heap.size w (w.alloc (.cells #[.int .i64 at_, .int .i64 er] 81)) := (Below.refl _ _).alloc (Nat.le_refl _) _
    have y0 : (w.alloc (.cells #[.int .i64 at_, .int .i64 er] 81)).cell? ⟨w.heap.size, 0, none⟩ = some (.int .i64 at_) := World.cell?_alloc_at _ _ _ _ rfl
    have y1 : (w.alloc (.cells #[.int .i64 at_, .int .i64 er] 81)).cell? ⟨w.heap.size, 1, none⟩ = some (.int .i64 er) := World.cell?_alloc_at _ _ _ _ rfl
    have x' := (b.cell (p := ⟨xv, 0, none⟩) lx).trans x
    have a' := (b.cell (p := ⟨av, 0, none⟩) la).trans a
    have e' := (b.cell (p := ⟨ev, 0, none⟩) le).trans e
    have fx' := (b.frozen (p := ⟨xv, 0, none⟩) lx).trans fx
    have fa' := (b.frozen (p := ⟨av, 0, none⟩) la).trans fa
    have fe' := (b.frozen (p := ⟨ev, 0, none⟩) le).trans fe
    have BW := Lib.hid (b.mono hB.2.2.2)
    have HB := Lib.hid hB
    clear hB
    generalize w.alloc (.cells #[.int .i64 at_, .int .i64 er] 81) = W at *
    generalize w.heap.size = fb at *
    have n1 : fb ≠ xv := by omega
    have n2 : fb ≠ av := by omega
    have n3 : fb ≠ ev := by omega
    have n4 : av ≠ xv := Ne.symm h1
    have n5 : ev ≠ xv := Ne.symm h2
    have n6 : ev ≠ av := Ne.symm h3
    clear b x a e fx fa fe hta hu lx la le
    go_region
    all_goals
      go_wp2_with fail
      refine ⟨rfl, rfl, ?_, ?_, ?_, ?_⟩
      · exact ((((BW.out.setCell HB.out.1 _).setCell HB.out.2.1 _).setCell HB.out.2.2.1 _)).drew
      · show (((W.setCell _ _).setCell _ _).setCell _ _).cell? _ = _
        rw [World.cell?_setCell_other _ _ _ _ (by simp), World.cell?_setCell_other _ _ _ _ (by simp), World.cell?_setCell_same _ _ _ x']
      · show (((W.setCell _ _).setCell _ _).setCell _ _).cell? _ = _
        rw [World.cell?_setCell_other _ _ _ _ (by simp)]
        exact World.cell?_setCell_same _ _ _ ((World.cell?_setCell_other _ _ _ _ (by simp)).trans a')
      · show (((W.setCell _ _).setCell _ _).setCell _ _).cell? _ = _
        refine World.cell?_setCell_same _ _ _ (u := .int .i64 qe) ?_
        rw [World.cell?_setCell_other _ _ _ _ (by simp), World.cell?_setCell_other _ _ _ _ (by simp)]
        exact e'
  · rintro e2 a2 w2 ⟨rfl, hd, hb, c1, c2, c3⟩
    cases c₀
    simp_all [bodyPostS, results, Tryd.results53]

theorem catch_idle (ps : Array Value) (hps : ps.size = 4) (w : World) :
    CallsD Tryd.prog 53 ps .returning w fun e u' w' => e = .returned (.tuple #[]) ∧ u' = .returning ∧ w' = w := by
  obtain ⟨p0, p1, p2, p3, rfl⟩ : ∃ a b c d, ps = #[a, b, c, d] := by
    match ps, hps with
    | ⟨[a, b, c, d]⟩, _ => exact ⟨a, b, c, d, rfl⟩
  refine callsD_of_wpS Tryd.func53 rfl fun c₀ cs hu => ?_
  apply wpS_seq
  apply wpS_region
  simp [wpOpsS, go_sem, recoverD, hu, Tryd.ntmps53, Exit.thenS]
  have et : ∀ F : Value, ((#[p0, p1, p2, p3] : Array Value) ++ ((Array.replicate 22 undef).setIfInBounds 3 F).setIfInBounds 0 F) = #[p0, p1, p2, p3, F, undef, undef, F, undef, undef, undef, undef, undef, undef, undef, undef, undef, undef, undef, undef, undef, undef, undef, undef, undef, undef] := fun F => by
    simp [Array.replicate, List.replicate]
  rw [et]
  clear et
  refine wpS_of_wp (wp_mono (Q := fun e a w' => e = .normal ∧ a.defers = [] ∧ w' = w) ?_ ?_)
  · go_wp2_with fail
  · rintro e2 a2 w2 ⟨rfl, hd, rfl⟩
    cases c₀
    simp_all [bodyPostS, results, Tryd.results53]
end Go.Proofs.YthlabaijaadocaaDoor
