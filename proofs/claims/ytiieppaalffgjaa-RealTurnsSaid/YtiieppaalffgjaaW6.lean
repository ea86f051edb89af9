/- One: both texts. -/
import Derived.Test.YtiieppaalffgjaaW5
namespace Go.Proofs.Ytiieppaalffgjaa
open Go.RowKit

/-- the opposite word -/
def oppW (n : Nat) : Nat := D.word (!sgn n) (rung n)

def oneOpS (op : Int) (v : Nat) : Nat :=
  if fnan v then nanC else if op = 0 then rung v else if op = 1 then oppW v else if op = 2 then toldS (intg .down v)
  else if op = 3 then toldS (intg .up v) else if op = 4 then optT (D.sqrt v) else nanC

theorem fnan_oppW (v : Nat) : fnan (oppW v) = fnan v := by
  unfold fnan oppW; rw [(word_sgn _ _ (rung_lt v)).2]

theorem toldS_of_num {v : Nat} (h : fnan v = false) : toldS v = v := by unfold toldS; rw [h]; rfl
theorem toldS_of_nan {v : Nat} (h : fnan v = true) : toldS v = nanC := by unfold toldS; rw [h]; rfl

/-- a value, some draws later -/
def Told (v : Nat) (w : World) (e : Ending) (w' : World) : Prop := e = .returned (.int .u64 (v : Nat)) ∧ ∃ k, w' = w.drewN k

theorem Told.same {u v : Nat} {w : World} (h : u = v) : Told v w (.returned (.int .u64 (u : Nat))) w := ⟨by rw [h], 0, rfl⟩
theorem Told.some {u v : Nat} {w w' : World} {k : Nat} (h : u = v) (hw : w' = w.drewN k) : Told v w (.returned (.int .u64 (u : Nat))) w' := ⟨by rw [h], k, hw⟩

theorem sqrt_nan {v : Nat} (h : fnan v = true) : D.sqrt v = none := by
  obtain ⟨s, t, hd⟩ := read_nan h
  unfold Ieee.Format.sqrt
  rw [hd]; rfl

theorem one_end {op : Int} {v : Nat} (_ : (op == 0) = false) (_ : (op == 1) = false) (_ : (op == 2) = false) (_ : (op == 3) = false) (_ : (op == 4) = false) : oneOpS op v = nanC := by
  unfold oneOpS; simp_all

set_option maxHeartbeats 800000 in
theorem realOne_num (op : Int) (v : Nat) (hv : v < 18446744073709551616) (h : fnan v = false) (w : World) :
    Calls Try.prog 31 #[.int .i64 op, .int .u64 v] w (Told (oneOpS op v) w) := by
  have hx := xor_sign v hv
  rw [show (Ieee.Format.word D (!sgn v) (rung v)) = oppW v from rfl] at hx
  have hfl := floor_any v h
  have hce := ceil_any v h
  have Hn := Lib.hid h
  clear h
  go_enter Try.func31, Try.ntmps31
  go_wp2_with (first | (go_at_call 35; refine (num_any _ _).mono ?_; rintro e w' ⟨rfl, rfl⟩) | (go_at_call 47; refine (abs_any _ hv _).mono ?_; rintro e w' ⟨rfl, rfl⟩) | (go_at_call 51; refine (hfl _).mono ?_; rintro e w' ⟨rfl, rfl⟩) | (go_at_call 53; refine (hce _).mono ?_; rintro e w' ⟨rfl, rfl⟩) | (go_at_call 54; refine (sqrt_any _ _).mono ?_; rintro e w' ⟨r, rfl, ha, k, hk⟩; have Ha := Lib.hid ha; have Hk := Lib.hid hk; clear ha hk) | (go_at_call 41; refine (told_any _ _).mono ?_; rintro e w' ⟨rfl, rfl⟩))
  · go_ret
    exact Told.same (by rw [toldS_of_num (by rw [fnan_rung]; exact Hn.out)]; unfold oneOpS; rw [Hn.out]; simp_all)
  · go_ret
    exact Told.same (by rw [toldS_of_num (by rw [fnan_oppW]; exact Hn.out)]; unfold oneOpS; rw [Hn.out]; simp_all)
  · go_ret
    exact Told.same (by unfold oneOpS; rw [Hn.out]; simp_all)
  · go_ret
    exact Told.same (by unfold oneOpS; rw [Hn.out]; simp_all)
  · go_ret
    exact Told.some (by rw [toldS_arith Ha.out]; unfold oneOpS; rw [Hn.out]; simp_all) Hk.out
  · go_ret
    exact Told.same (by rw [one_end (by assumption) (by assumption) (by assumption) (by assumption) (by assumption)]; rfl)

set_option maxHeartbeats 800000 in
theorem realOne_nan (op : Int) (v : Nat) (hv : v < 18446744073709551616) (h : fnan v = true) (w : World) :
    Calls Try.prog 31 #[.int .i64 op, .int .u64 v] w (Told (oneOpS op v) w) := by
  have hx := xor_sign v hv
  rw [show (Ieee.Format.word D (!sgn v) (rung v)) = oppW v from rfl] at hx
  have hfl := floor_nan v h
  have hce := ceil_nan v h
  have hr : oneOpS op v = nanC := by unfold oneOpS; rw [h]; rfl
  rw [hr]
  have Hn := Lib.hid h
  clear h hr
  go_enter Try.func31, Try.ntmps31
  go_wp2_with (first | (go_at_call 35; refine (num_any _ _).mono ?_; rintro e w' ⟨rfl, rfl⟩) | (go_at_call 47; refine (abs_any _ hv _).mono ?_; rintro e w' ⟨rfl, rfl⟩) | (go_at_call 51; refine (hfl _).mono ?_; rintro e w' ⟨r, rfl, ha, k, hk⟩; have Ha := Lib.hid ha; have Hk := Lib.hid hk; clear ha hk) | (go_at_call 53; refine (hce _).mono ?_; rintro e w' ⟨r, rfl, ha, k, hk⟩; have Ha := Lib.hid ha; have Hk := Lib.hid hk; clear ha hk) | (go_at_call 54; refine (sqrt_any _ _).mono ?_; rintro e w' ⟨r, rfl, ha, k, hk⟩; have Ha := Lib.hid ha; have Hk := Lib.hid hk; clear ha hk) | (go_at_call 41; refine (told_any _ _).mono ?_; rintro e w' ⟨rfl, rfl⟩))
  · go_ret
    exact Told.same (toldS_of_nan (by rw [fnan_rung]; exact Hn.out))
  · go_ret
    exact Told.same (toldS_of_nan (by rw [fnan_oppW]; exact Hn.out))
  · go_ret
    exact Told.some (toldS_of_nan Ha.out) Hk.out
  · go_ret
    exact Told.some (toldS_of_nan Ha.out) Hk.out
  · go_ret
    exact Told.some (by rw [toldS_arith Ha.out, sqrt_nan Hn.out]; rfl) Hk.out
  · go_ret
    exact Told.same rfl

theorem realOne_any (op : Int) (v : Nat) (hv : v < 18446744073709551616) (w : World) :
    Calls Try.prog 31 #[.int .i64 op, .int .u64 v] w (Told (oneOpS op v) w) := by
  cases h : fnan v
  · exact realOne_num op v hv h w
  · exact realOne_nan op v hv h w

theorem mod_sign (v : Nat) : (v : Int) % 9223372036854775808 = ((rung v : Nat) : Int) := by unfold rung; omega

set_option maxHeartbeats 800000 in
theorem refOne_any (op : Int) (v : Nat) (hv : v < 18446744073709551616) (w : World) :
    Calls Try.prog 32 #[.int .i64 op, .int .u64 v] w (Told (oneOpS op v) w) := by
  have hx := xor_sign v hv
  rw [show (Ieee.Format.word D (!sgn v) (rung v)) = oppW v from rfl] at hx
  have hm := mod_sign v
  have cn := nan_any v
  cases h : fnan v
  · rw [h] at cn
    have hfl := floor_any v h
    have hce := ceil_any v h
    have Hn := Lib.hid h
    clear h
    go_enter Try.func32, Try.ntmps32
    go_wp2_with (first | (go_at_call 37; refine (cn _).mono ?_; rintro e w' ⟨rfl, rfl⟩) | (go_at_call 40; refine (Num_any _ _).mono ?_; rintro e w' ⟨rfl, rfl⟩) | (go_at_call 51; refine (hfl _).mono ?_; rintro e w' ⟨rfl, rfl⟩) | (go_at_call 53; refine (hce _).mono ?_; rintro e w' ⟨rfl, rfl⟩) | (go_at_call 54; refine (sqrt_any _ _).mono ?_; rintro e w' ⟨r, rfl, ha, k, hk⟩; have Ha := Lib.hid ha; have Hk := Lib.hid hk; clear ha hk) | (go_at_call 44; refine (Bits_any _ _).mono ?_; rintro e w' ⟨rfl, rfl⟩))
    · go_ret
      exact Told.same (by unfold oneOpS; rw [Hn.out]; simp_all; rfl)
    · go_ret
      exact Told.same (by unfold oneOpS; rw [Hn.out]; simp_all)
    · go_ret
      exact Told.same (by unfold oneOpS; rw [Hn.out]; simp_all)
    · go_ret
      exact Told.same (by unfold oneOpS; rw [Hn.out]; simp_all)
    · go_ret
      exact Told.some (by rw [toldS_arith Ha.out]; unfold oneOpS; rw [Hn.out]; simp_all) Hk.out
    · go_ret
      exact Told.same (by rw [one_end (by assumption) (by assumption) (by assumption) (by assumption) (by assumption)]; rfl)
  · rw [h] at cn
    have hr : oneOpS op v = nanC := by unfold oneOpS; rw [h]; rfl
    rw [hr]
    clear h hr
    go_enter Try.func32, Try.ntmps32
    go_wp2_with (first | (go_at_call 37; refine (cn _).mono ?_; rintro e w' ⟨rfl, rfl⟩))
    go_ret
    exact Told.same rfl
end Go.Proofs.Ytiieppaalffgjaa
