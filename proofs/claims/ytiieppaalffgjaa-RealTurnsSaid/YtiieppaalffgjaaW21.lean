/- Mod at a nought; rest, left; Do: both texts, whole. -/
import Derived.Test.YtiieppaalffgjaaW20
import Derived.Test.YtiieppaalffgjaaW12
namespace Go.Proofs.Ytiieppaalffgjaa
open Go.RowKit

set_option maxHeartbeats 1600000 in
theorem mod_zero (x y : Nat) (hx : x < 18446744073709551616) (hy : y < 18446744073709551616) (fx : rung x < 9218868437227405312) (fy : rung y < 9218868437227405312) (y0 : 0 < rung y) (x0 : rung x = 0) (w : World) :
    Calls Try.prog 64 #[.float .f64 x, .float .f64 y] w fun e w' => e = .returned (.float .f64 (modS x y)) ∧ w = w' := by
  have cx := isNaN_any x
  rw [fnan_fin fx] at cx
  have cy := isNaN_any y
  rw [fnan_fin fy] at cy
  have ci := isInf_any x hx
  rw [show decide (rung x = 9218868437227405312) = false by simp; omega] at ci
  have hz : (D.order y 0 == some .eq) = false := by rw [zero_test]; simp; omega
  have hlt := lt_zero_test fx
  rw [show decide (rung x ≠ 0) = false by simp; omega, Bool.and_false] at hlt
  have ca := abs_any y hy
  have cf := Frexp_any (rung y) y0 fy
  have hR : Hid (modS x y = x) := Lib.hid (by unfold modS; rw [if_pos x0])
  have hge : (D.order x (rung y) == some .gt || D.order x (rung y) == some .eq) = false := by
    rw [order_key, fnan_fin fx, fnan_rung, fnan_fin fy]
    unfold skey
    rw [x0, sgn_rung, rung_rung]
    cases sgn x <;> simp [cmp_lt (show (0 : Int) < (rung y : Int) by omega)]
  generalize modS x y = res at *
  generalize hY : rung y = Y at *
  clear hY x0
  go_enter Try.func64, Try.ntmps64
  go_wp2_with (first | (go_at_call 36; refine (ci _).mono ?_; rintro e w' ⟨rfl, rfl⟩) | (go_at_call 66; (first | (with_reducible refine (cx _).mono ?_) | (with_reducible refine (cy _).mono ?_)); rintro e w' ⟨rfl, rfl⟩) | (go_at_call 47; refine (ca _).mono ?_; rintro e w' ⟨rfl, rfl⟩) | (go_at_call 69; refine (cf _).mono ?_; rintro e w' ⟨rfl, rfl⟩))
  go_loop [7] (fun r => r = .float .f64 x) (fun _ => 0)
  case atStart => rfl
  case round =>
    obtain rfl := hrel
    go_wp2_with fail
    go_ret
    refine ⟨?_, rfl⟩
    rw [hR.out]
    rfl

set_option maxHeartbeats 400000 in
theorem Mod_any (x y : Nat) (hx : x < 18446744073709551616) (hy : y < 18446744073709551616) (fx : rung x < 9218868437227405312) (fy : rung y < 9218868437227405312) (y0 : 0 < rung y) (w : World) :
    Calls Try.prog 55 #[.float .f64 x, .float .f64 y] w fun e w' => e = .returned (.float .f64 (modS x y)) ∧ w = w' := by
  have c : ∀ w, Calls Try.prog 64 #[.float .f64 x, .float .f64 y] w fun e w' => e = .returned (.float .f64 (modS x y)) ∧ w = w' := by
    intro w
    rcases Nat.eq_zero_or_pos (rung x) with h | h
    · exact mod_zero x y hx hy fx fy y0 h w
    · exact mod_in x y hx hy fx fy y0 h w
  generalize modS x y = r at *
  go_enter Try.func55, Try.ntmps55
  go_wp2_with (go_at_call 64; refine (c _).mono ?_; rintro e w' ⟨rfl, rfl⟩)
  go_ret
  exact ⟨rfl, rfl⟩

def restS (a b : Nat) : Nat :=
  if fnan a then nanC else if fnan b then nanC else if rung a = 9218868437227405312 then nanC else if rung b = 0 then nanC else if rung b = 9218868437227405312 then a else toldS (modS a b)

theorem rung_fin {n : Nat} (h1 : fnan n = false) (h2 : rung n ≠ 9218868437227405312) : rung n < 9218868437227405312 := by
  unfold fnan at h1; simp at h1; omega

set_option maxHeartbeats 1600000 in
theorem rest_any (a b : Nat) (hA : a < 18446744073709551616) (hB : b < 18446744073709551616) (w : World) :
    Calls Try.prog 42 #[.int .u64 a, .int .u64 b] w (Told (restS a b) w) := by
  have o1 := order_self a
  have o2 := order_self b
  have c1 := isInf_any a hA
  have c2 := isInf_any b hB
  have z2 := zero_test b
  have cm : fnan a = false → fnan b = false → rung a ≠ 9218868437227405312 → rung b ≠ 0 → rung b ≠ 9218868437227405312 → ∀ w, Calls Try.prog 55 #[.float .f64 a, .float .f64 b] w fun e w' => e = .returned (.float .f64 (modS a b)) ∧ w = w' :=
    fun h1 h2 h3 h4 h5 => Mod_any a b hA hB (rung_fin h1 h3) (rung_fin h2 h5) (by omega)
  unfold restS
  cases h1 : fnan a
  · cases h2 : fnan b
    · rw [h1] at o1
      rw [h2] at o2
      by_cases h3 : rung a = 9218868437227405312
      · rw [show decide (rung a = 9218868437227405312) = true by simpa using h3] at c1
        rw [if_pos h3]
        clear h1 h2 h3 cm
        go_enter Try.func42, Try.ntmps42
        go_wp2_with (first | (go_at_call 35; refine (num_any _ _).mono ?_; rintro e w' ⟨rfl, rfl⟩) | (go_at_call 36; refine (c1 _).mono ?_; rintro e w' ⟨rfl, rfl⟩))
        go_ret
        exact Told.same rfl
      · rw [show decide (rung a = 9218868437227405312) = false by simpa using h3] at c1
        rw [if_neg h3]
        by_cases h4 : rung b = 0
        · rw [show decide (rung b = 0) = true by simpa using h4] at z2
          rw [if_pos h4]
          clear h1 h2 h3 h4 cm
          go_enter Try.func42, Try.ntmps42
          go_wp2_with (first | (go_at_call 35; refine (num_any _ _).mono ?_; rintro e w' ⟨rfl, rfl⟩) | (go_at_call 36; refine (c1 _).mono ?_; rintro e w' ⟨rfl, rfl⟩))
          go_ret
          exact Told.same rfl
        · rw [show decide (rung b = 0) = false by simpa using h4] at z2
          rw [if_neg h4]
          by_cases h5 : rung b = 9218868437227405312
          · rw [show decide (rung b = 9218868437227405312) = true by simpa using h5] at c2
            rw [if_pos h5]
            clear h1 h2 h3 h4 h5 cm
            go_enter Try.func42, Try.ntmps42
            go_wp2_with (first | (go_at_call 35; refine (num_any _ _).mono ?_; rintro e w' ⟨rfl, rfl⟩) | (go_at_call 36; (first | (with_reducible refine (c1 _).mono ?_) | (with_reducible refine (c2 _).mono ?_)); rintro e w' ⟨rfl, rfl⟩))
            go_ret
            exact Told.same rfl
          · rw [show decide (rung b = 9218868437227405312) = false by simpa using h5] at c2
            rw [if_neg h5]
            have cmm := cm h1 h2 h3 h4 h5
            clear h1 h2 h3 h4 h5 cm
            generalize modS a b = m at *
            go_enter Try.func42, Try.ntmps42
            go_wp2_with (first | (go_at_call 35; refine (num_any _ _).mono ?_; rintro e w' ⟨rfl, rfl⟩) | (go_at_call 36; (first | (with_reducible refine (c1 _).mono ?_) | (with_reducible refine (c2 _).mono ?_)); rintro e w' ⟨rfl, rfl⟩) | (go_at_call 55; refine (cmm _).mono ?_; rintro e w' ⟨rfl, rfl⟩) | (go_at_call 41; refine (told_any _ _).mono ?_; rintro e w' ⟨rfl, rfl⟩))
            go_ret
            exact Told.same rfl
    · rw [h1] at o1
      rw [h2] at o2
      clear h1 h2 cm
      go_enter Try.func42, Try.ntmps42
      go_wp2_with (first | (go_at_call 35; refine (num_any _ _).mono ?_; rintro e w' ⟨rfl, rfl⟩) | (go_at_call 36; refine (c1 _).mono ?_; rintro e w' ⟨rfl, rfl⟩))
      go_ret
      exact Told.same rfl
  · rw [h1] at o1
    clear h1 cm
    go_enter Try.func42, Try.ntmps42
    go_wp2_with (first | (go_at_call 35; refine (num_any _ _).mono ?_; rintro e w' ⟨rfl, rfl⟩) | (go_at_call 36; refine (c1 _).mono ?_; rintro e w' ⟨rfl, rfl⟩))
    go_ret
    exact Told.same rfl

set_option maxHeartbeats 1600000 in
theorem left_any (a b : Nat) (hA : a < 18446744073709551616) (hB : b < 18446744073709551616) (w : World) :
    Calls Try.prog 45 #[.int .u64 a, .int .u64 b] w (Told (restS a b) w) := by
  have o1 := nan_any a
  have o2 := nan_any b
  have c1 := inf_any a
  have c2 := inf_any b
  have z2 := shl_zero b
  have cm : fnan a = false → fnan b = false → rung a ≠ 9218868437227405312 → rung b ≠ 0 → rung b ≠ 9218868437227405312 → ∀ w, Calls Try.prog 55 #[.float .f64 a, .float .f64 b] w fun e w' => e = .returned (.float .f64 (modS a b)) ∧ w = w' :=
    fun h1 h2 h3 h4 h5 => Mod_any a b hA hB (rung_fin h1 h3) (rung_fin h2 h5) (by omega)
  unfold restS
  cases h1 : fnan a
  · cases h2 : fnan b
    · rw [h1] at o1
      rw [h2] at o2
      by_cases h3 : rung a = 9218868437227405312
      · rw [show decide (rung a = 9218868437227405312) = true by simpa using h3] at c1
        rw [if_pos h3]
        clear h1 h2 h3 cm
        go_enter Try.func45, Try.ntmps45
        go_wp2_with (first | (go_at_call 37; (first | (with_reducible refine (o1 _).mono ?_) | (with_reducible refine (o2 _).mono ?_)); rintro e w' ⟨rfl, rfl⟩) | (go_at_call 38; refine (c1 _).mono ?_; rintro e w' ⟨rfl, rfl⟩))
        go_ret
        exact Told.same rfl
      · rw [show decide (rung a = 9218868437227405312) = false by simpa using h3] at c1
        rw [if_neg h3]
        by_cases h4 : rung b = 0
        · rw [show decide (rung b = 0) = true by simpa using h4] at z2
          rw [if_pos h4]
          clear h1 h2 h3 h4 cm
          go_enter Try.func45, Try.ntmps45
          go_wp2_with (first | (go_at_call 37; (first | (with_reducible refine (o1 _).mono ?_) | (with_reducible refine (o2 _).mono ?_)); rintro e w' ⟨rfl, rfl⟩) | (go_at_call 38; refine (c1 _).mono ?_; rintro e w' ⟨rfl, rfl⟩))
          go_ret
          exact Told.same rfl
        · rw [show decide (rung b = 0) = false by simpa using h4] at z2
          rw [if_neg h4]
          by_cases h5 : rung b = 9218868437227405312
          · rw [show decide (rung b = 9218868437227405312) = true by simpa using h5] at c2
            rw [if_pos h5]
            clear h1 h2 h3 h4 h5 cm
            go_enter Try.func45, Try.ntmps45
            go_wp2_with (first | (go_at_call 37; (first | (with_reducible refine (o1 _).mono ?_) | (with_reducible refine (o2 _).mono ?_)); rintro e w' ⟨rfl, rfl⟩) | (go_at_call 38; (first | (with_reducible refine (c1 _).mono ?_) | (with_reducible refine (c2 _).mono ?_)); rintro e w' ⟨rfl, rfl⟩))
            go_ret
            exact Told.same rfl
          · rw [show decide (rung b = 9218868437227405312) = false by simpa using h5] at c2
            rw [if_neg h5]
            have cmm := cm h1 h2 h3 h4 h5
            clear h1 h2 h3 h4 h5 cm
            generalize modS a b = m at *
            go_enter Try.func45, Try.ntmps45
            go_wp2_with (first | (go_at_call 37; (first | (with_reducible refine (o1 _).mono ?_) | (with_reducible refine (o2 _).mono ?_)); rintro e w' ⟨rfl, rfl⟩) | (go_at_call 38; (first | (with_reducible refine (c1 _).mono ?_) | (with_reducible refine (c2 _).mono ?_)); rintro e w' ⟨rfl, rfl⟩) | (go_at_call 40; refine (Num_any _ _).mono ?_; rintro e w' ⟨rfl, rfl⟩) | (go_at_call 55; refine (cmm _).mono ?_; rintro e w' ⟨rfl, rfl⟩) | (go_at_call 44; refine (Bits_any _ _).mono ?_; rintro e w' ⟨rfl, rfl⟩))
            go_ret
            exact Told.same rfl
    · rw [h1] at o1
      rw [h2] at o2
      clear h1 h2 cm
      go_enter Try.func45, Try.ntmps45
      go_wp2_with (first | (go_at_call 37; (first | (with_reducible refine (o1 _).mono ?_) | (with_reducible refine (o2 _).mono ?_)); rintro e w' ⟨rfl, rfl⟩))
      go_ret
      exact Told.same rfl
  · rw [h1] at o1
    clear h1 cm
    go_enter Try.func45, Try.ntmps45
    go_wp2_with (first | (go_at_call 37; refine (o1 _).mono ?_; rintro e w' ⟨rfl, rfl⟩))
    go_ret
    exact Told.same rfl

/-- what two values come to -/
def doS (op : Int) (a b : Nat) : Nat := doM (restS a b) op a b

theorem do_any (op : Int) (a b : Nat) (hA : a < 18446744073709551616) (hB : b < 18446744073709551616) (w : World) :
    Calls Try.prog 22 #[.int .i64 op, .int .u64 a, .int .u64 b] w fun e w' => e = .returned (.int .u64 (doS op a b : Nat)) ∧ ∃ k, w' = w.drewN k :=
  realDo_of (restS a b) op a b w fun _ => rest_any a b hA hB w
theorem Do_any (op : Int) (a b : Nat) (hA : a < 18446744073709551616) (hB : b < 18446744073709551616) (w : World) :
    Calls Try.prog 23 #[.int .i64 op, .int .u64 a, .int .u64 b] w fun e w' => e = .returned (.int .u64 (doS op a b : Nat)) ∧ ∃ k, w' = w.drewN k :=
  refDo_of (restS a b) op a b hA hB w fun _ => left_any a b hA hB w

set_option maxHeartbeats 400000 in
theorem realDoes_walk (op : Int) (a b : Nat) (hA : a < 18446744073709551616) (hB : b < 18446744073709551616) (w : World) :
    Calls Try.prog 5 #[.int .i64 op, .int .u64 a, .int .u64 b] w (Yes w) := by
  go_enter Try.func5, Try.ntmps5
  go_wp2_with (first | (go_at_call 13; refine (live_any _).mono ?_; rintro e w' ⟨rfl, k1, rfl⟩) | (go_at_call 22; refine (do_any _ _ _ hA hB _).mono ?_; rintro e w' ⟨rfl, k2, rfl⟩) | (go_at_call 23; refine (Do_any _ _ _ hA hB _).mono ?_; rintro e w' ⟨rfl, k3, rfl⟩))
  go_ret
  exact ⟨rfl, _, rfl⟩
end Go.Proofs.Ytiieppaalffgjaa
