/- Mod: the walk; Do, whole. -/
import Derived.Test.YtiieppaalffgjaaW19
namespace Go.Proofs.Ytiieppaalffgjaa
open Go.RowKit

/-- what is taken away in a round, as the program makes it -/
def takeW (r y : Nat) : Nat := if 52 ≤ gk r y then (gk r y - 51) * 4503599627370496 + fr y else (D.mul 4368491638549381120 ((gk r y + 2) * 4503599627370496 + fr y)).getD 0
/-- what a round leaves -/
def leftW (r y : Nat) : Nat := (D.sub r (takeW r y)).getD 0

theorem left_spec {r y : Nat} (hy : 0 < y) (h : y ≤ r) (hr : r < 9218868437227405312) :
    ge y ≤ gk r y ∧ gk r y ≤ ge r ∧ takeW r y < 9218868437227405312 ∧ units (takeW r y) * 2 ^ 52 = (4503599627370496 + fr y) * 2 ^ gk r y ∧ D.sub r (takeW r y) = some (leftW r y) ∧ leftW r y < r := by
  obtain ⟨g1, g2, c, d, c1, d1, hc, hd, hlt⟩ := round_spec hy h hr
  have ht : takeW r y = c := by
    unfold takeW
    by_cases g : 52 ≤ gk r y
    · rw [if_pos g, ld_big g hc]
    · rw [if_neg g, ld_small (by omega) c1 hc]; rfl
  have hs := sub_exact hr c1 d1 hd
  have hl : leftW r y = d := by unfold leftW; rw [ht, hs]; rfl
  rw [ht, hl]
  exact ⟨g1, g2, c1, hc, hs, hlt⟩

/-- what is left at last -/
def modRun (y r : Nat) : Nat := if y ≤ r ∧ leftW r y < r then modRun y (leftW r y) else r
termination_by r
decreasing_by rename_i h; exact h.2

theorem modRun_step {y r : Nat} (hy : 0 < y) (h : y ≤ r) (hr : r < 9218868437227405312) : modRun y r = modRun y (leftW r y) := by
  rw [modRun, if_pos ⟨h, (left_spec hy h hr).2.2.2.2.2⟩]
theorem modRun_stop {y r : Nat} (h : ¬ y ≤ r) : modRun y r = r := by
  rw [modRun, if_neg (fun g => h g.1)]

/-- what is left of x by y, both finite, y no nought -/
def modS (x y : Nat) : Nat := if rung x = 0 then x else if sgn x then oppW (modRun (rung y) (rung x)) else modRun (rung y) (rung x)

theorem lt_zero_test {x : Nat} (hx : rung x < 9218868437227405312) : (D.order x 0 == some .lt) = (sgn x && decide (rung x ≠ 0)) := by
  rw [order_key, fnan_fin hx, show fnan 0 = false by simp [fnan, rung], show skey 0 = 0 by simp [skey, sgn, rung]]
  unfold skey
  rw [Bool.eq_iff_iff]
  cases sgn x <;> simp [cmp_lt_iff] <;> omega

theorem xor_opp (n : Nat) (hn : n < 18446744073709551616) : n ^^^ 9223372036854775808 = oppW n := by
  have h1 := u64_xor_nat n 9223372036854775808 hn (by omega)
  have h2 := xor_sign n hn
  rw [show ((9223372036854775808 : Nat) : Int) = 9223372036854775808 from rfl] at h1
  rw [h1] at h2
  unfold oppW
  exact Int.ofNat.inj h2

@[go_sem] theorem unary_neg_float (k : FloatKind) (b : Nat) : Op.unary .neg (.float k b) = pure (.float k (Op.negFloat k b)) := rfl

theorem neg_float (n : Nat) (hn : n < 18446744073709551616) : Op.negFloat .f64 n = oppW n := xor_opp n hn

set_option maxHeartbeats 400000 in
theorem nan_fn (w : World) : Calls Try.prog 68 #[] w fun e w' => e = .returned (.float .f64 9221120237041090561) ∧ w = w' := by
  go_enter Try.func68, Try.ntmps68
  go_wp2
  go_ret
  exact ⟨rfl, rfl⟩

def floatOf : Value → Nat
  | .float _ n => n
  | _ => 0

set_option maxHeartbeats 1600000 in
theorem mod_in (x y : Nat) (hx : x < 18446744073709551616) (hy : y < 18446744073709551616) (fx : rung x < 9218868437227405312) (fy : rung y < 9218868437227405312) (y0 : 0 < rung y) (x0 : 0 < rung x) (w : World) :
    Calls Try.prog 64 #[.float .f64 x, .float .f64 y] w fun e w' => e = .returned (.float .f64 (modS x y)) ∧ w = w' := by
  have cx := isNaN_any x
  rw [fnan_fin fx] at cx
  have cy := isNaN_any y
  rw [fnan_fin fy] at cy
  have ci := isInf_any x hx
  rw [show decide (rung x = 9218868437227405312) = false by simp; omega] at ci
  have hz : (D.order y 0 == some .eq) = false := by rw [zero_test]; simp; omega
  have hlt := lt_zero_test fx
  rw [show decide (rung x ≠ 0) = true by simp; omega, Bool.and_true] at hlt
  have ca := abs_any y hy
  have cf := Frexp_any (rung y) y0 fy
  have hneg := neg_float x hx
  cases hs : sgn x
  · rw [hs] at hlt
    have hX : x = rung x := by
      have := word_self x hx
      rw [hs] at this
      exact this.symm
    have hR : Hid (modS x y = modRun (rung y) (rung x)) := Lib.hid (by unfold modS; rw [if_neg (by omega), hs]; rfl)
    have HX := Lib.hid hX
    clear hX hs
    generalize modS x y = res at *
    generalize hY : rung y = Y at *
    generalize hXX : rung x = X at *
    clear hY hXX
    go_enter Try.func64, Try.ntmps64
    go_wp2_with (first | (go_at_call 36; refine (ci _).mono ?_; rintro e w' ⟨rfl, rfl⟩) | (go_at_call 66; (first | (with_reducible refine (cx _).mono ?_) | (with_reducible refine (cy _).mono ?_)); rintro e w' ⟨rfl, rfl⟩) | (go_at_call 47; refine (ca _).mono ?_; rintro e w' ⟨rfl, rfl⟩) | (go_at_call 69; refine (cf _).mono ?_; rintro e w' ⟨rfl, rfl⟩))
    go_loop [7] (fun r => ∃ r' : Nat, r = .float .f64 r' ∧ r' < 9218868437227405312 ∧ modRun Y r' = modRun Y X) (fun r => floatOf r)
    case atStart => exact ⟨x, rfl, by have := HX.out; omega, congrArg (modRun Y) HX.out⟩
    case round =>
      obtain ⟨r, rfl, hr, hrun⟩ := hrel
      have hge := geq_test hr fy
      by_cases hle : Y ≤ r
      · obtain ⟨g1, g2, t1, t2, t3, t4⟩ := left_spec y0 hle hr
        have hstep := modRun_step y0 hle hr
        have HR2 : Hid (modRun Y (leftW r Y) = modRun Y X) := Lib.hid (hstep.symm.trans hrun)
        rw [show decide (Y ≤ r) = true by simpa using hle] at hge
        have cr := Frexp_any r (by omega) hr
        have hfr := fr_order (fr_lt r) (fr_lt Y)
        have hop := fun w => run_float_arith (P := Try.prog) w .sub 42 .f64 r (takeW r Y) (leftW r Y) t3
        have b1 := ge_lt (n := r) (by omega) hr
        have b2 := ge_lt y0 fy
        have hgk : Hid (gk r Y = if fr r < fr Y then ge r - 1 else ge r) := Lib.hid rfl
        have hgr : ge Y ≤ ge r := by omega
        have t4' : leftW r Y < 9218868437227405312 := by omega
        clear hstep hrun t3
        by_cases hf : fr r < fr Y
        · rw [show decide (fr r < fr Y) = true by simpa using hf] at hfr
          have hg := hgk.out
          rw [if_pos hf] at hg
          have hpos : 1 ≤ ge r := by
            rcases Nat.lt_or_ge 0 (ge r) with q | q
            · exact q
            · exfalso
              have e0 : ge r = 0 := by omega
              have e1 : ge Y = 0 := by omega
              have := (ge_mono y0 hle).2 (by rw [e0, e1])
              omega
          have cl := Ldexp_any Y (gk r Y) (takeW r Y) ((ge r : Int) - 1073 - 1 - ((ge Y : Int) - 1073)) y0 fy (by omega) (by omega) t1 t2
          clear hg t2 hf hgk
          generalize 4602678819172646912 + fr r = p at *
          generalize 4602678819172646912 + fr Y = q at *
          go_wp2_with (first | (go_at_call 69; refine (cr _).mono ?_; rintro e w' ⟨rfl, rfl⟩) | (go_at_call 70; refine (cl _).mono ?_; rintro e w' ⟨rfl, rfl⟩))
          go_round
          case rel => exact ⟨_, rfl, t4', HR2.out⟩
          case measure => exact t4
        · rw [show decide (fr r < fr Y) = false by simpa using hf] at hfr
          have hg := hgk.out
          rw [if_neg hf] at hg
          have cl := Ldexp_any Y (gk r Y) (takeW r Y) ((ge r : Int) - 1073 - ((ge Y : Int) - 1073)) y0 fy (by omega) (by omega) t1 t2
          clear hg t2 hf hgk
          generalize 4602678819172646912 + fr r = p at *
          generalize 4602678819172646912 + fr Y = q at *
          go_wp2_with (first | (go_at_call 69; refine (cr _).mono ?_; rintro e w' ⟨rfl, rfl⟩) | (go_at_call 70; refine (cl _).mono ?_; rintro e w' ⟨rfl, rfl⟩))
          go_round
          case rel => exact ⟨_, rfl, t4', HR2.out⟩
          case measure => exact t4
      · rw [show decide (Y ≤ r) = false by simpa using hle] at hge
        have hst := modRun_stop hle
        have HE : Hid (r = modRun Y X) := Lib.hid (hst.symm.trans hrun)
        clear hst hrun
        go_wp2_with fail
        go_ret
        refine ⟨?_, rfl⟩
        rw [hR.out, ← HE.out]
        rfl
  · rw [hs] at hlt
    have hX : rung (oppW x) = rung x ∧ oppW x = rung x := by
      unfold oppW
      rw [hs]
      exact ⟨(word_sgn _ _ (rung_lt x)).2, rfl⟩
    rw [hX.2] at hneg
    have hR : Hid (modS x y = oppW (modRun (rung y) (rung x))) := Lib.hid (by unfold modS; rw [if_neg (by omega), hs]; rfl)
    have HX := Lib.hid hX
    clear hX hs
    generalize modS x y = res at *
    generalize hY : rung y = Y at *
    generalize hXX : rung x = X at *
    clear hY hXX
    go_enter Try.func64, Try.ntmps64
    go_wp2_with (first | (go_at_call 36; refine (ci _).mono ?_; rintro e w' ⟨rfl, rfl⟩) | (go_at_call 66; (first | (with_reducible refine (cx _).mono ?_) | (with_reducible refine (cy _).mono ?_)); rintro e w' ⟨rfl, rfl⟩) | (go_at_call 47; refine (ca _).mono ?_; rintro e w' ⟨rfl, rfl⟩) | (go_at_call 69; refine (cf _).mono ?_; rintro e w' ⟨rfl, rfl⟩))
    go_loop [7] (fun r => ∃ r' : Nat, r = .float .f64 r' ∧ r' < 9218868437227405312 ∧ modRun Y r' = modRun Y X) (fun r => floatOf r)
    case atStart => exact ⟨X, rfl, fx, rfl⟩
    case round =>
      obtain ⟨r, rfl, hr, hrun⟩ := hrel
      have hge := geq_test hr fy
      by_cases hle : Y ≤ r
      · obtain ⟨g1, g2, t1, t2, t3, t4⟩ := left_spec y0 hle hr
        have hstep := modRun_step y0 hle hr
        have HR2 : Hid (modRun Y (leftW r Y) = modRun Y X) := Lib.hid (hstep.symm.trans hrun)
        rw [show decide (Y ≤ r) = true by simpa using hle] at hge
        have cr := Frexp_any r (by omega) hr
        have hfr := fr_order (fr_lt r) (fr_lt Y)
        have hop := fun w => run_float_arith (P := Try.prog) w .sub 42 .f64 r (takeW r Y) (leftW r Y) t3
        have b1 := ge_lt (n := r) (by omega) hr
        have b2 := ge_lt y0 fy
        have hgk : Hid (gk r Y = if fr r < fr Y then ge r - 1 else ge r) := Lib.hid rfl
        have hgr : ge Y ≤ ge r := by omega
        have t4' : leftW r Y < 9218868437227405312 := by omega
        clear hstep hrun t3
        by_cases hf : fr r < fr Y
        · rw [show decide (fr r < fr Y) = true by simpa using hf] at hfr
          have hg := hgk.out
          rw [if_pos hf] at hg
          have hpos : 1 ≤ ge r := by
            rcases Nat.lt_or_ge 0 (ge r) with q | q
            · exact q
            · exfalso
              have e0 : ge r = 0 := by omega
              have e1 : ge Y = 0 := by omega
              have := (ge_mono y0 hle).2 (by rw [e0, e1])
              omega
          have cl := Ldexp_any Y (gk r Y) (takeW r Y) ((ge r : Int) - 1073 - 1 - ((ge Y : Int) - 1073)) y0 fy (by omega) (by omega) t1 t2
          clear hg t2 hf hgk
          generalize 4602678819172646912 + fr r = p at *
          generalize 4602678819172646912 + fr Y = q at *
          go_wp2_with (first | (go_at_call 69; refine (cr _).mono ?_; rintro e w' ⟨rfl, rfl⟩) | (go_at_call 70; refine (cl _).mono ?_; rintro e w' ⟨rfl, rfl⟩))
          go_round
          case rel => exact ⟨_, rfl, t4', HR2.out⟩
          case measure => exact t4
        · rw [show decide (fr r < fr Y) = false by simpa using hf] at hfr
          have hg := hgk.out
          rw [if_neg hf] at hg
          have cl := Ldexp_any Y (gk r Y) (takeW r Y) ((ge r : Int) - 1073 - ((ge Y : Int) - 1073)) y0 fy (by omega) (by omega) t1 t2
          clear hg t2 hf hgk
          generalize 4602678819172646912 + fr r = p at *
          generalize 4602678819172646912 + fr Y = q at *
          go_wp2_with (first | (go_at_call 69; refine (cr _).mono ?_; rintro e w' ⟨rfl, rfl⟩) | (go_at_call 70; refine (cl _).mono ?_; rintro e w' ⟨rfl, rfl⟩))
          go_round
          case rel => exact ⟨_, rfl, t4', HR2.out⟩
          case measure => exact t4
      · rw [show decide (Y ≤ r) = false by simpa using hle] at hge
        have hst := modRun_stop hle
        have HE : Hid (r = modRun Y X) := Lib.hid (hst.symm.trans hrun)
        have hnr := neg_float r (by omega)
        clear hst hrun
        go_wp2_with fail
        go_ret
        refine ⟨?_, rfl⟩
        rw [hR.out, ← HE.out]
        rfl
end Go.Proofs.Ytiieppaalffgjaa
