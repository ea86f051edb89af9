-- by a program of this session (the printer, turned: functions with floats go by contracts of this session)
import Derived.Test.YthhbbmebfmfgjaaGreatDoorPBx0
namespace Go.Proofs.YthhbbmebfmfgjaaGreatDoor.PB
open Go.RowKit Go.Proofs.YthhbbmebfmfgjaaGreatDoorW.PrintWords Go.Proofs.YthhbbmebfmfgjaaGreatDoorW.PrintLast Go.Proofs.YthhbbmebfmfgjaaGreatDoorW.PrintMore
attribute [local go_sem] max2_int min2_int max_two min_two max_three min_three max_four min_four   -- for this text's walks alone
set_option linter.unusedVariables false
set_option linter.unusedSimpArgs false

/-! ### eval_Right: function 18, given -/
def eval_Right.f (l0 : List S33) : Option (Bool) := if l0.length = 0 then some true else none
set_option maxRecDepth 100000 in
theorem eval_Right.calls (A0 : Option Addr) (c0 : Nat) (l0 : List S33) (r : Bool) (w : World) (hr0 : Kd.C k33 w A0 l0.length l0) (hc0 : l0.length ≤ c0) (h : eval_Right.f l0 = some r) :
    Calls Tryz.prog 18 #[.slice A0 l0.length c0] w fun e w' => e = .returned (.bool r) ∧ Below w.heap.size w w' := by
  unfold eval_Right.f at h
  split at h
  · rename_i h0
    obtain rfl := Option.some.inj h
    rw [h0]
    clear hr0 hc0 h h0
    go_enter Tryz.func18, Tryz.ntmps18
    go_wp2
    go_loopw [7] (fun i wr => i = .int .i64 0 ∧ wr = w) (fun _ _ => 0)
    case atStart => exact ⟨rfl, rfl⟩
    case round =>
      obtain ⟨rfl, rfl⟩ := hrel
      go_wp2
      go_ret
      exact ⟨rfl, Below.refl _ _⟩
  · cases h


/-! ### real_Of: function 56, given -/
def real_Of.f (a0 : Int) : Option (Int) := some ((ofS a0 : Nat) : Int)
set_option maxRecDepth 100000 in
theorem real_Of.calls (a0 : Int) (r : Int) (w : World) (h : real_Of.f a0 = some r) :
    Calls Tryz.prog 56 #[.int .i64 a0] w fun e w' => e = .returned (.int .u64 r) ∧ Drawn0 w w' := by
  obtain rfl := Option.some.inj h
  refine (of_any a0 w).mono fun e w' h => ⟨h.1, ?_⟩
  obtain ⟨_, rfl⟩ := h
  exact Drawn0.refl _


/-! ### real_Do: function 100, given -/
def real_Do.f (a0 : Int) (a1 : Int) (a2 : Int) : Option (Int) := if word a1 = true then (if word a2 = true then (some ((doS a0 a1.toNat a2.toNat : Nat) : Int)) else (none)) else (none)
set_option maxRecDepth 100000 in
theorem real_Do.calls (a0 : Int) (a1 : Int) (a2 : Int) (r : Int) (w : World) (h : real_Do.f a0 a1 a2 = some r) :
    Calls Tryz.prog 100 #[.int .i64 a0, .int .u64 a1, .int .u64 a2] w fun e w' => e = .returned (.int .u64 r) ∧ Drawn0 w w' := by
  unfold real_Do.f at h
  split at h <;> rename_i h1
  · split at h <;> rename_i h2
    · obtain rfl := Option.some.inj h
      have c := do_any a0 a1.toNat a2.toNat (word_lt h1) (word_lt h2) w
      rw [word_toNat h1, word_toNat h2] at c
      exact c.mono fun e w' h => ⟨h.1, ⟨h.2⟩⟩
    · cases h
  · cases h


/-! ### eval_less: function 62 -/
def eval_less.f (a0 : Int) (a1 : Int) : Option (Int) := (real_Do.f 1 a0 a1).bind fun t101 => (some t101)
set_option maxHeartbeats 8000000 in
set_option maxRecDepth 100000 in
theorem eval_less.calls (a0 : Int) (a1 : Int) (r : Int) (w : World) (h : eval_less.f a0 a1 = some r) :
    Calls Tryz.prog 62 #[.int .u64 a0, .int .u64 a1] w fun e w' => e = .returned (.int .u64 r) ∧ Drawn0 w w' := by
  have H : ((real_Do.f 1 a0 a1).bind fun t101 => (some t101)) = some r := h
  clear h
  replace H := Option.bind_eq_some_iff.mp H
  obtain ⟨t101, A30, H⟩ := H
  replace H : (some t101) = some r := H
  have A3 := Aside0.mk A30
  clear A30
  obtain rfl := Option.some.inj H
  go_enter Tryz.func62, Tryz.ntmps62
  go_wp2_with (first | ((with_reducible refine gate_callee (f := 100) rfl ?_); refine goesL_ (some 7) rfl rfl Tryz.func100 (by kernel_rfl) rfl #[.int .i64 1, .int .u64 a0, .int .u64 a1] rfl (by (try simp only [List.map_toArray, List.map_cons, List.map_nil]); first | done | rfl | (simp only [List.length_drop, List.length_take]; rfl)) ?_; (with_reducible refine (real_Do.calls 1 a0 a1 t101 _ A3.out).mono ?_); rintro e w' ⟨rfl, ⟨nd, rfl⟩⟩; refine ⟨_, rfl, ?_⟩))
  go_ret
  exact ⟨by first | rfl | (simp; done) | (simp [*]; done), by repeat (first | exact Drawn0.refl _ | apply Drawn0.step)⟩

/-! ### real_Holds: function 63, given -/
def real_Holds.f (a0 : Int) (a1 : Int) (a2 : Int) : Option (Bool) := if word a1 = true then (if word a2 = true then (some (holdsS a0 a1.toNat a2.toNat)) else (none)) else (none)
set_option maxRecDepth 100000 in
theorem real_Holds.calls (a0 : Int) (a1 : Int) (a2 : Int) (r : Bool) (w : World) (h : real_Holds.f a0 a1 a2 = some r) :
    Calls Tryz.prog 63 #[.int .i64 a0, .int .u64 a1, .int .u64 a2] w fun e w' => e = .returned (.bool r) ∧ Drawn0 w w' := by
  unfold real_Holds.f at h
  split at h <;> rename_i h1
  · split at h <;> rename_i h2
    · obtain rfl := Option.some.inj h
      have c := holds_any a0 a1.toNat a2.toNat w
      rw [word_toNat h1, word_toNat h2] at c
      refine c.mono fun e w' h => ⟨h.1, ?_⟩
      obtain ⟨_, rfl⟩ := h
      exact Drawn0.refl _
    · cases h
  · cases h


/-! ### eval_plus: function 64 -/
def eval_plus.f (a0 : Int) (a1 : Int) : Option (Int) := (real_Do.f 0 a0 a1).bind fun t102 => (some t102)
set_option maxHeartbeats 8000000 in
set_option maxRecDepth 100000 in
theorem eval_plus.calls (a0 : Int) (a1 : Int) (r : Int) (w : World) (h : eval_plus.f a0 a1 = some r) :
    Calls Tryz.prog 64 #[.int .u64 a0, .int .u64 a1] w fun e w' => e = .returned (.int .u64 r) ∧ Drawn0 w w' := by
  have H : ((real_Do.f 0 a0 a1).bind fun t102 => (some t102)) = some r := h
  clear h
  replace H := Option.bind_eq_some_iff.mp H
  obtain ⟨t102, A30, H⟩ := H
  replace H : (some t102) = some r := H
  have A3 := Aside0.mk A30
  clear A30
  obtain rfl := Option.some.inj H
  go_enter Tryz.func64, Tryz.ntmps64
  go_wp2_with (first | ((with_reducible refine gate_callee (f := 100) rfl ?_); refine goesL_ (some 7) rfl rfl Tryz.func100 (by kernel_rfl) rfl #[.int .i64 0, .int .u64 a0, .int .u64 a1] rfl (by (try simp only [List.map_toArray, List.map_cons, List.map_nil]); first | done | rfl | (simp only [List.length_drop, List.length_take]; rfl)) ?_; (with_reducible refine (real_Do.calls 0 a0 a1 t102 _ A3.out).mono ?_); rintro e w' ⟨rfl, ⟨nd, rfl⟩⟩; refine ⟨_, rfl, ?_⟩))
  go_ret
  exact ⟨by first | rfl | (simp; done) | (simp [*]; done), by repeat (first | exact Drawn0.refl _ | apply Drawn0.step)⟩

/-! ### eval_ticks: function 65 -/
def eval_ticks.f (a0 : Int) : Option (Int) := (real_Of.f (wrap64 (a0))).bind fun t103 => (some t103)
set_option maxHeartbeats 8000000 in
set_option maxRecDepth 100000 in
theorem eval_ticks.calls (a0 : Int) (r : Int) (w : World) (h : eval_ticks.f a0 = some r) :
    Calls Tryz.prog 65 #[.int .u64 a0] w fun e w' => e = .returned (.int .u64 r) ∧ Drawn0 w w' := by
  have H : ((real_Of.f (wrap64 (a0))).bind fun t103 => (some t103)) = some r := h
  clear h
  replace H := Option.bind_eq_some_iff.mp H
  obtain ⟨t103, A20, H⟩ := H
  replace H : (some t103) = some r := H
  have A2 := Aside0.mk A20
  clear A20
  obtain rfl := Option.some.inj H
  go_enter Tryz.func65, Tryz.ntmps65
  go_wp2_with (first | ((with_reducible refine gate_callee (f := 56) rfl ?_); refine goesL_ (some 5) rfl rfl Tryz.func56 (by kernel_rfl) rfl #[.int .i64 (wrap64 (a0))] rfl (by (try simp only [List.map_toArray, List.map_cons, List.map_nil]); first | done | rfl | (simp only [List.length_drop, List.length_take]; rfl)) ?_; (with_reducible refine (real_Of.calls (wrap64 (a0)) t103 _ A2.out).mono ?_); rintro e w' ⟨rfl, ⟨nd, rfl⟩⟩; refine ⟨_, rfl, ?_⟩))
  go_ret
  exact ⟨by first | rfl | (simp; done) | (simp [*]; done), by repeat (first | exact Drawn0.refl _ | apply Drawn0.step)⟩

/-! ### eval_by: function 66 -/
def eval_by.f (a0 : Int) (a1 : Int) : Option (Int) := (real_Do.f 3 a0 a1).bind fun t104 => (some t104)
set_option maxHeartbeats 8000000 in
set_option maxRecDepth 100000 in
theorem eval_by.calls (a0 : Int) (a1 : Int) (r : Int) (w : World) (h : eval_by.f a0 a1 = some r) :
    Calls Tryz.prog 66 #[.int .u64 a0, .int .u64 a1] w fun e w' => e = .returned (.int .u64 r) ∧ Drawn0 w w' := by
  have H : ((real_Do.f 3 a0 a1).bind fun t104 => (some t104)) = some r := h
  clear h
  replace H := Option.bind_eq_some_iff.mp H
  obtain ⟨t104, A30, H⟩ := H
  replace H : (some t104) = some r := H
  have A3 := Aside0.mk A30
  clear A30
  obtain rfl := Option.some.inj H
  go_enter Tryz.func66, Tryz.ntmps66
  go_wp2_with (first | ((with_reducible refine gate_callee (f := 100) rfl ?_); refine goesL_ (some 7) rfl rfl Tryz.func100 (by kernel_rfl) rfl #[.int .i64 3, .int .u64 a0, .int .u64 a1] rfl (by (try simp only [List.map_toArray, List.map_cons, List.map_nil]); first | done | rfl | (simp only [List.length_drop, List.length_take]; rfl)) ?_; (with_reducible refine (real_Do.calls 3 a0 a1 t104 _ A3.out).mono ?_); rintro e w' ⟨rfl, ⟨nd, rfl⟩⟩; refine ⟨_, rfl, ?_⟩))
  go_ret
  exact ⟨by first | rfl | (simp; done) | (simp [*]; done), by repeat (first | exact Drawn0.refl _ | apply Drawn0.step)⟩

/-! ### eval_times: function 67 -/
def eval_times.f (a0 : Int) (a1 : Int) : Option (Int) := (real_Do.f 2 a0 a1).bind fun t105 => (some t105)
set_option maxHeartbeats 8000000 in
set_option maxRecDepth 100000 in
theorem eval_times.calls (a0 : Int) (a1 : Int) (r : Int) (w : World) (h : eval_times.f a0 a1 = some r) :
    Calls Tryz.prog 67 #[.int .u64 a0, .int .u64 a1] w fun e w' => e = .returned (.int .u64 r) ∧ Drawn0 w w' := by
  have H : ((real_Do.f 2 a0 a1).bind fun t105 => (some t105)) = some r := h
  clear h
  replace H := Option.bind_eq_some_iff.mp H
  obtain ⟨t105, A30, H⟩ := H
  replace H : (some t105) = some r := H
  have A3 := Aside0.mk A30
  clear A30
  obtain rfl := Option.some.inj H
  go_enter Tryz.func67, Tryz.ntmps67
  go_wp2_with (first | ((with_reducible refine gate_callee (f := 100) rfl ?_); refine goesL_ (some 7) rfl rfl Tryz.func100 (by kernel_rfl) rfl #[.int .i64 2, .int .u64 a0, .int .u64 a1] rfl (by (try simp only [List.map_toArray, List.map_cons, List.map_nil]); first | done | rfl | (simp only [List.length_drop, List.length_take]; rfl)) ?_; (with_reducible refine (real_Do.calls 2 a0 a1 t105 _ A3.out).mono ?_); rintro e w' ⟨rfl, ⟨nd, rfl⟩⟩; refine ⟨_, rfl, ?_⟩))
  go_ret
  exact ⟨by first | rfl | (simp; done) | (simp [*]; done), by repeat (first | exact Drawn0.refl _ | apply Drawn0.step)⟩

end Go.Proofs.YthhbbmebfmfgjaaGreatDoor.PB
