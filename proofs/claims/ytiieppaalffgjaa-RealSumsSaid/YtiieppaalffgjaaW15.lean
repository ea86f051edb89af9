/- Sum of the reference; Mean: both texts; RealSums. -/
import Derived.Test.YtiieppaalffgjaaW14
namespace Go.Proofs.Ytiieppaalffgjaa
open Go.RowKit

set_option maxHeartbeats 1600000 in
theorem refSum_any (a : Option Addr) (cap : Nat) (ns : List Nat) (hbig : ns.length ≤ 9223372036854775807) (hlt : ∀ x ∈ ns, x < 18446744073709551616) (w : World) (hc : Words w a ns) :
    Calls Try.prog 25 #[.slice a ns.length cap] w (Told (sumS ns) w) := by
  go_enter Try.func25, Try.ntmps25
  go_wp2
  go_loopw [3, 4, 13] (fun s c i wr => SumAt w ns s c i wr) (fun _ _ i _ => ns.length - (intOf i).toNat)
  case atStart => exact ⟨0, 0, 0, Nat.zero_le _, rfl, rfl, rfl, by omega, by rw [toldS_zero]; rfl, 0, rfl⟩
  case round =>
    obtain ⟨k, s', c', hk, rfl, rfl, rfl, hs, hf, hw⟩ := hrel
    by_cases hkl : k < ns.length
    · obtain ⟨b, off, rfl, hcell⟩ := hc k hkl
      have hx : ns.getD k 0 < 18446744073709551616 := by
        rw [List.getD_eq_getElem?_getD, List.getElem?_eq_getElem hkl]; exact hlt _ (List.getElem_mem hkl)
      have hf2 := sumFold_succ ns k hkl
      rw [← hf] at hf2
      have hcell2 : wr.cell? ⟨b, off + k, none⟩ = some (.int .u64 ((ns.getD k 0 : Nat) : Int)) := by obtain ⟨q, rfl⟩ := hw; exact hcell
      have HF := Lib.hid hf2
      have HW := Lib.hid hw
      have HK := Lib.hid hc
      clear hf hf2 hw hcell hc
      generalize ns.getD k 0 = x at *
      obtain ⟨t, w1, h1, a1, b1, q1⟩ := arith_at .add (Or.inl rfl) 42 s' x wr
      cases hge : absGe s' x
      · obtain ⟨d, w2, h2, a2, b2, q2⟩ := arith_at .sub (Or.inr (Or.inl rfl)) 42 x t w1
        obtain ⟨g, w3, h3, a3, b3, q3⟩ := arith_at .add (Or.inl rfl) 42 d s' w2
        obtain ⟨u, w4, h4, a4, b4, q4⟩ := arith_at .add (Or.inl rfl) 42 c' g w3
        have HS := Lib.hid (HF.out.trans (step_lt hge a1.out a2.out a3.out a4.out))
        unfold absGe at hge
        have hw4 : Hid (∃ q, w4 = w.drewN q) := Lib.hid (chain4 HW.out q1.out q2.out q3.out q4.out)
        clear HF
        cases hi : decide (rung t = 9218868437227405312)
        · have ci := fun w => hi ▸ inf_any t w
          rw [hi] at HS
          clear hi
          go_wp2_with (first | (go_at_call 40; refine (Num_any _ _).mono ?_; rintro e w' ⟨rfl, rfl⟩) | (go_at_call 47; (first | (with_reducible refine (abs_any s' hs _).mono ?_) | (with_reducible refine (abs_any x hx _).mono ?_)); rintro e w' ⟨rfl, rfl⟩) | (go_at_call 38; refine (ci _).mono ?_; rintro e w' ⟨rfl, rfl⟩))
          go_roundw
          case rel => exact ⟨k + 1, t, u, by omega, by go_num, rfl, rfl, b1, by rw [HS.out]; rfl, hw4.out⟩
          case measure => simp [intOf]; omega
        · have ci := fun w => hi ▸ inf_any t w
          rw [hi] at HS
          clear hi
          go_wp2_with (first | (go_at_call 40; refine (Num_any _ _).mono ?_; rintro e w' ⟨rfl, rfl⟩) | (go_at_call 47; (first | (with_reducible refine (abs_any s' hs _).mono ?_) | (with_reducible refine (abs_any x hx _).mono ?_)); rintro e w' ⟨rfl, rfl⟩) | (go_at_call 38; refine (ci _).mono ?_; rintro e w' ⟨rfl, rfl⟩))
          go_roundw
          case rel => exact ⟨k + 1, t, 0, by omega, by go_num, rfl, rfl, b1, by rw [HS.out, toldS_zero]; rfl, hw4.out⟩
          case measure => simp [intOf]; omega
      · obtain ⟨d, w2, h2, a2, b2, q2⟩ := arith_at .sub (Or.inr (Or.inl rfl)) 42 s' t w1
        obtain ⟨g, w3, h3, a3, b3, q3⟩ := arith_at .add (Or.inl rfl) 42 d x w2
        obtain ⟨u, w4, h4, a4, b4, q4⟩ := arith_at .add (Or.inl rfl) 42 c' g w3
        have HS := Lib.hid (HF.out.trans (step_ge hge a1.out a2.out a3.out a4.out))
        unfold absGe at hge
        have hw4 : Hid (∃ q, w4 = w.drewN q) := Lib.hid (chain4 HW.out q1.out q2.out q3.out q4.out)
        clear HF
        cases hi : decide (rung t = 9218868437227405312)
        · have ci := fun w => hi ▸ inf_any t w
          rw [hi] at HS
          clear hi
          go_wp2_with (first | (go_at_call 40; refine (Num_any _ _).mono ?_; rintro e w' ⟨rfl, rfl⟩) | (go_at_call 47; (first | (with_reducible refine (abs_any s' hs _).mono ?_) | (with_reducible refine (abs_any x hx _).mono ?_)); rintro e w' ⟨rfl, rfl⟩) | (go_at_call 38; refine (ci _).mono ?_; rintro e w' ⟨rfl, rfl⟩))
          go_roundw
          case rel => exact ⟨k + 1, t, u, by omega, by go_num, rfl, rfl, b1, by rw [HS.out]; rfl, hw4.out⟩
          case measure => simp [intOf]; omega
        · have ci := fun w => hi ▸ inf_any t w
          rw [hi] at HS
          clear hi
          go_wp2_with (first | (go_at_call 40; refine (Num_any _ _).mono ?_; rintro e w' ⟨rfl, rfl⟩) | (go_at_call 47; (first | (with_reducible refine (abs_any s' hs _).mono ?_) | (with_reducible refine (abs_any x hx _).mono ?_)); rintro e w' ⟨rfl, rfl⟩) | (go_at_call 38; refine (ci _).mono ?_; rintro e w' ⟨rfl, rfl⟩))
          go_roundw
          case rel => exact ⟨k + 1, t, 0, by omega, by go_num, rfl, rfl, b1, by rw [HS.out, toldS_zero]; rfl, hw4.out⟩
          case measure => simp [intOf]; omega
    · obtain rfl : k = ns.length := by omega
      rw [List.take_length] at hf
      have HF := Lib.hid hf
      have HW := Lib.hid hw
      clear hf hw hc
      cases hi : decide (rung s' = 9218868437227405312)
      · have ci := fun w => hi ▸ inf_any s' w
        obtain ⟨t, w1, h1, a1, b1, q1⟩ := arith_at .add (Or.inl rfl) 42 s' c' wr
        have HR : Hid (toldS t = sumS ns) := Lib.hid (sum_end_add HF.out hi a1.out)
        have hw1 : Hid (∃ q, w1 = w.drewN q) := Lib.hid (chain1 HW.out q1.out)
        clear hi HF
        go_wp2_with (first | (go_at_call 38; refine (ci _).mono ?_; rintro e w' ⟨rfl, rfl⟩) | (go_at_call 44; refine (Bits_any _ _).mono ?_; rintro e w' ⟨rfl, rfl⟩))
        go_ret
        obtain ⟨q, hq⟩ := hw1.out
        exact Told.some HR.out hq
      · have ci := fun w => hi ▸ inf_any s' w
        have HR : Hid (toldS s' = sumS ns) := Lib.hid (sum_end_inf HF.out hi)
        clear hi HF
        go_wp2_with (first | (go_at_call 38; refine (ci _).mono ?_; rintro e w' ⟨rfl, rfl⟩) | (go_at_call 44; refine (Bits_any _ _).mono ?_; rintro e w' ⟨rfl, rfl⟩))
        go_ret
        obtain ⟨q, hq⟩ := HW.out
        exact Told.some HR.out hq

def meanS (l : List Nat) : Nat := if l.length = 0 then nanC else optT (D.div (sumS l) (floatOfInt .f64 l.length))

set_option maxHeartbeats 1600000 in
theorem realMean_any (a : Option Addr) (cap : Nat) (ns : List Nat) (hbig : ns.length ≤ 9223372036854775807) (hlt : ∀ x ∈ ns, x < 18446744073709551616) (w : World) (hc : ∀ q, Words (w.drewN q) a ns) :
    Calls Try.prog 26 #[.slice a ns.length cap] w (Told (meanS ns) w) := by
  have cs := fun q => realSum_any a cap ns hbig hlt (w.drewN q) (hc q)
  clear hc hlt
  by_cases h0 : ns.length = 0
  · have hb : (((ns.length : Nat) : Int) == 0) = true := by simp [h0]
    have hm : Hid (meanS ns = nanC) := Lib.hid (by unfold meanS; rw [if_pos h0])
    clear h0 cs
    go_enter Try.func26, Try.ntmps26
    go_wp2
    go_ret
    exact Told.same hm.out.symm
  · have hb : (((ns.length : Nat) : Int) == 0) = false := by rw [beq_eq_false_iff_ne]; omega
    have hm : Hid (meanS ns = optT (D.div (sumS ns) (floatOfInt .f64 ns.length))) := Lib.hid (by unfold meanS; rw [if_neg h0])
    clear h0
    go_enter Try.func26, Try.ntmps26
    go_wp2_with (first | (go_at_call 24; refine (cs 0).mono ?_; rintro e w' ⟨rfl, q, rfl⟩; obtain ⟨r, w1, h1, a1, b1, q1⟩ := arith_at .quo (Or.inr (Or.inr (Or.inr rfl))) 42 (sumS ns) (floatOfInt .f64 ns.length) (World.drewN w q)) | (go_at_call 35; refine (num_any _ _).mono ?_; rintro e w' ⟨rfl, rfl⟩) | (go_at_call 41; refine (told_any _ _).mono ?_; rintro e w' ⟨rfl, rfl⟩))
    go_ret
    obtain ⟨k, hk⟩ := chain1 ⟨_, rfl⟩ q1.out
    exact Told.some ((toldS_arith a1.out).trans hm.out.symm) hk

set_option maxHeartbeats 1600000 in
theorem refMean_any (a : Option Addr) (cap : Nat) (ns : List Nat) (hbig : ns.length ≤ 9223372036854775807) (hlt : ∀ x ∈ ns, x < 18446744073709551616) (w : World) (hc : ∀ q, Words (w.drewN q) a ns) :
    Calls Try.prog 27 #[.slice a ns.length cap] w (Told (meanS ns) w) := by
  have cs := fun q => refSum_any a cap ns hbig hlt (w.drewN q) (hc q)
  clear hc hlt
  by_cases h0 : ns.length = 0
  · have hb : (((ns.length : Nat) : Int) == 0) = true := by simp [h0]
    have hm : Hid (meanS ns = nanC) := Lib.hid (by unfold meanS; rw [if_pos h0])
    clear h0 cs
    go_enter Try.func27, Try.ntmps27
    go_wp2
    go_ret
    exact Told.same hm.out.symm
  · have hb : (((ns.length : Nat) : Int) == 0) = false := by rw [beq_eq_false_iff_ne]; omega
    have hm : Hid (meanS ns = optT (D.div (sumS ns) (floatOfInt .f64 ns.length))) := Lib.hid (by unfold meanS; rw [if_neg h0])
    clear h0
    go_enter Try.func27, Try.ntmps27
    go_wp2_with (first | (go_at_call 25; refine (cs 0).mono ?_; rintro e w' ⟨rfl, q, rfl⟩; obtain ⟨r, w1, h1, a1, b1, q1⟩ := arith_at .quo (Or.inr (Or.inr (Or.inr rfl))) 42 (sumS ns) (floatOfInt .f64 ns.length) (World.drewN w q)) | (go_at_call 40; refine (Num_any _ _).mono ?_; rintro e w' ⟨rfl, rfl⟩) | (go_at_call 44; refine (Bits_any _ _).mono ?_; rintro e w' ⟨rfl, rfl⟩))
    go_ret
    obtain ⟨k, hk⟩ := chain1 ⟨_, rfl⟩ q1.out
    exact Told.some ((toldS_arith a1.out).trans hm.out.symm) hk

set_option maxHeartbeats 1600000 in
theorem realSums_walk (a : Option Addr) (cap : Nat) (ns : List Nat) (hbig : ns.length ≤ 9223372036854775807) (hlt : ∀ x ∈ ns, x < 18446744073709551616) (w : World) (hc : ∀ q, Words (w.drewN q) a ns) :
    Calls Try.prog 6 #[.slice a ns.length cap] w (Yes w) := by
  have hw : ∀ q r, Words ((w.drewN q).drewN r) a ns := fun q _ => hc q
  have c1 := fun q => realSum_any a cap ns hbig hlt (w.drewN q) (hc q)
  have c2 := fun q => refSum_any a cap ns hbig hlt (w.drewN q) (hc q)
  have c3 := fun q => realMean_any a cap ns hbig hlt (w.drewN q) (hw q)
  have c4 := fun q => refMean_any a cap ns hbig hlt (w.drewN q) (hw q)
  clear hc hw hlt
  by_cases h0 : 2000 < ns.length
  · go_enter Try.func6, Try.ntmps6
    go_wp2_with (first | (go_at_call 13; refine (live_any _).mono ?_; rintro e w' ⟨rfl, k1, rfl⟩))
    go_ret
    exact ⟨rfl, _, rfl⟩
  · go_enter Try.func6, Try.ntmps6
    go_wp2_with (first | (go_at_call 13; refine (live_any _).mono ?_; rintro e w' ⟨rfl, k1, rfl⟩) | (go_at_call 24; refine (c1 _).mono ?_; rintro e w' ⟨rfl, k2, rfl⟩) | (go_at_call 25; refine (c2 _).mono ?_; rintro e w' ⟨rfl, k3, rfl⟩) | (go_at_call 26; refine (c3 _).mono ?_; rintro e w' ⟨rfl, k4, rfl⟩) | (go_at_call 27; refine (c4 _).mono ?_; rintro e w' ⟨rfl, k5, rfl⟩))
    go_ret
    exact ⟨rfl, _, rfl⟩
end Go.Proofs.Ytiieppaalffgjaa
