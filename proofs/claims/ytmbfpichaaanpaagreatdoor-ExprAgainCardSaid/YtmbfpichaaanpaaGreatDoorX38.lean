import Derived.Test.YtmbfpichaaanpaaGreatDoorX37
/- Whole: both texts. -/
namespace Go.Proofs.YtmbfpichaaanpaaGreatDoor
open Go.RowKit

def wholeS (n : Nat) : Int := if wholeB n then wholeN n else 0

/-- 'f != trunc(f) || f < -(1<<63) || f >= 1<<63', test by test -/
theorem whole_no {n : Nat} (hn : n < 18446744073709551616) (hf : fnan n = false) (way : Ieee.Toward)
    (h : (D.order n (intg way n) != some .eq) = true ∨ (D.order n 14114281232179134464 == some .lt) = true ∨ (D.order n 4890909195324358656 == some .gt || D.order n 4890909195324358656 == some .eq) = true) : wholeB n = false := by
  rw [lo_test, hi_test, hf] at h
  unfold wholeB
  rcases h with h | h | h
  · by_cases g : rung n < 9218868437227405312
    · have e := (whole_test way hn g).1
      unfold bne at h
      rw [e] at h
      simp at h
      rw [h]; simp
    · simp [g]
  · simp at h
    simp; intros; omega
  · simp at h
    simp; intros; omega

theorem whole_no' {n : Nat} (hn : n < 18446744073709551616) (hf : fnan n = false) (way : Ieee.Toward)
    (h : (D.order (intg way n) n != some .eq) = true ∨ (D.order n 14114281232179134464 == some .lt) = true ∨ (D.order n 4890909195324358656 == some .gt || D.order n 4890909195324358656 == some .eq) = true) : wholeB n = false := by
  rw [lo_test, hi_test, hf] at h
  unfold wholeB
  rcases h with h | h | h
  · by_cases g : rung n < 9218868437227405312
    · have e := (whole_test way hn g).2
      unfold bne at h
      rw [e] at h
      simp at h
      rw [h]; simp
    · simp [g]
  · simp at h
    simp; intros; omega
  · simp at h
    simp; intros; omega

theorem fin_of {n : Nat} (hf : fnan n = false) (h1 : -4890909195324358656 ≤ skey n) (h2 : skey n < 4890909195324358656) : rung n < 9218868437227405312 := by
  unfold fnan at hf
  unfold skey at h1 h2
  simp at hf
  cases hs : sgn n <;> rw [hs] at h1 h2 <;> simp at h1 h2 <;> omega

theorem whole_yes {n : Nat} (hn : n < 18446744073709551616) (hf : fnan n = false) (way : Ieee.Toward)
    (h1 : (D.order n (intg way n) != some .eq) = false) (h2 : (D.order n 14114281232179134464 == some .lt) = false) (h3 : (D.order n 4890909195324358656 == some .gt || D.order n 4890909195324358656 == some .eq) = false) : wholeB n = true := by
  rw [lo_test, hf] at h2
  rw [hi_test, hf] at h3
  simp at h2 h3
  have g := fin_of hf h2 h3
  have e := (whole_test way hn g).1
  unfold bne at h1
  rw [e] at h1
  simp at h1
  unfold wholeB
  simp [g, h1, h2, h3]

theorem whole_yes' {n : Nat} (hn : n < 18446744073709551616) (hf : fnan n = false) (way : Ieee.Toward)
    (h1 : (D.order (intg way n) n != some .eq) = false) (h2 : (D.order n 14114281232179134464 == some .lt) = false) (h3 : (D.order n 4890909195324358656 == some .gt || D.order n 4890909195324358656 == some .eq) = false) : wholeB n = true := by
  rw [lo_test, hf] at h2
  rw [hi_test, hf] at h3
  simp at h2 h3
  have g := fin_of hf h2 h3
  have e := (whole_test way hn g).2
  unfold bne at h1
  rw [e] at h1
  simp at h1
  unfold wholeB
  simp [g, h1, h2, h3]

theorem wholeB_nan {n : Nat} (hf : fnan n = true) : wholeB n = false := by
  unfold fnan at hf
  simp at hf
  unfold wholeB
  simp; intros; omega

/-- 'n, is', some draws later -/
def ToldWhole (n : Nat) (w : World) (e : Ending) (w' : World) : Prop := e = .returned (.tuple #[.int .i64 (wholeS n), .bool (wholeB n)]) ∧ ∃ k, w' = w.drewN k

theorem ToldWhole.no {n : Nat} {w w' : World} {k : Nat} (h : wholeB n = false) (hw : w' = w.drewN k) : ToldWhole n w (.returned (.tuple #[.int .i64 0, .bool false])) w' := by
  refine ⟨?_, k, hw⟩
  unfold wholeS
  rw [h]; rfl
theorem ToldWhole.yes {n : Nat} {w w' : World} {k : Nat} (h : wholeB n = true) (hw : w' = w.drewN k) : ToldWhole n w (.returned (.tuple #[.int .i64 (wholeN n), .bool true])) w' := by
  refine ⟨?_, k, hw⟩
  unfold wholeS
  rw [h]; rfl

set_option maxRecDepth 100000 in
set_option maxHeartbeats 800000 in
theorem realWhole_num (n : Nat) (hn : n < 18446744073709551616) (hf : fnan n = false) (w : World) :
    Calls Tryz.prog 68 #[.int .u64 n] w (ToldWhole n w) := by
  have ct := trunc_any n hf
  cases h1 : (D.order n (intg .zero n) != some .eq)
  · cases h2 : (D.order n 14114281232179134464 == some .lt)
    · cases h3 : (D.order n 4890909195324358656 == some .gt || D.order n 4890909195324358656 == some .eq)
      · have hb := whole_yes hn hf .zero h1 h2 h3
        have hv := run_convert_float_int (P := Tryz.prog) (src := 96) (dst := 2) (h := whole_val hb) (hs := by rw [Tryz.underlying96]; rfl) (hd := Tryz.underlying2)
        have Hb := Lib.hid hb
        clear hb hf
        go_enter Tryz.func68, Tryz.ntmps68
        go_wp2_with (first | (go_at_call 88; refine (num_any _ _).mono ?_; rintro e w' ⟨rfl, rfl⟩) | (go_at_call 89; refine (ct _).mono ?_; rintro e w' ⟨rfl, rfl⟩))
        go_ret2
        exact ToldWhole.yes Hb.out (drewN_zero _).symm
      · have hb := whole_no hn hf .zero (Or.inr (Or.inr h3))
        have Hb := Lib.hid hb
        clear hb hf
        go_enter Tryz.func68, Tryz.ntmps68
        go_wp2_with (first | (go_at_call 88; refine (num_any _ _).mono ?_; rintro e w' ⟨rfl, rfl⟩) | (go_at_call 89; refine (ct _).mono ?_; rintro e w' ⟨rfl, rfl⟩))
        go_ret2
        exact ToldWhole.no Hb.out (drewN_zero _).symm
    · have hb := whole_no hn hf .zero (Or.inr (Or.inl h2))
      have Hb := Lib.hid hb
      clear hb hf
      go_enter Tryz.func68, Tryz.ntmps68
      go_wp2_with (first | (go_at_call 88; refine (num_any _ _).mono ?_; rintro e w' ⟨rfl, rfl⟩) | (go_at_call 89; refine (ct _).mono ?_; rintro e w' ⟨rfl, rfl⟩))
      go_ret2
      exact ToldWhole.no Hb.out (drewN_zero _).symm
  · have hb := whole_no hn hf .zero (Or.inl h1)
    have Hb := Lib.hid hb
    clear hb hf
    go_enter Tryz.func68, Tryz.ntmps68
    go_wp2_with (first | (go_at_call 88; refine (num_any _ _).mono ?_; rintro e w' ⟨rfl, rfl⟩) | (go_at_call 89; refine (ct _).mono ?_; rintro e w' ⟨rfl, rfl⟩))
    go_ret2
    exact ToldWhole.no Hb.out (drewN_zero _).symm

theorem order_nan {n m : Nat} (h : fnan n = true) : (D.order n m != some .eq) = true := by
  rw [order_key, h]; rfl

set_option maxRecDepth 100000 in
set_option maxHeartbeats 800000 in
theorem realWhole_nan (n : Nat) (hf : fnan n = true) (w : World) :
    Calls Tryz.prog 68 #[.int .u64 n] w (ToldWhole n w) := by
  have ct := trunc_nan n hf
  have ho := fun m => @order_nan n m hf
  have Hb := Lib.hid (wholeB_nan hf)
  clear hf
  go_enter Tryz.func68, Tryz.ntmps68
  go_wp2_with (first | (go_at_call 88; refine (num_any _ _).mono ?_; rintro e w' ⟨rfl, rfl⟩) | (go_at_call 89; refine (ct _).mono ?_; rintro e w' ⟨r, rfl, ha, k, hk⟩; have Hk := Lib.hid hk; clear ha hk))
  go_ret2
  exact ToldWhole.no Hb.out Hk.out

theorem realWhole_any (n : Nat) (hn : n < 18446744073709551616) (w : World) : Calls Tryz.prog 68 #[.int .u64 n] w (ToldWhole n w) := by
  cases h : fnan n
  · exact realWhole_num n hn h w
  · exact realWhole_nan n h w

set_option maxRecDepth 100000 in
set_option maxHeartbeats 800000 in
theorem refWhole_any (n : Nat) (hn : n < 18446744073709551616) (w : World) :
    Calls Tryz.prog 83 #[.int .u64 n] w (ToldWhole n w) := by
  have cn := nan_any n
  cases hf : fnan n
  · rw [hf] at cn
    have ct := floor_any n hf
    cases h1 : (D.order (intg .down n) n != some .eq)
    · cases h2 : (D.order n 14114281232179134464 == some .lt)
      · cases h3 : (D.order n 4890909195324358656 == some .gt || D.order n 4890909195324358656 == some .eq)
        · have hb := whole_yes' hn hf .down h1 h2 h3
          have hv := run_convert_float_int (P := Tryz.prog) (src := 96) (dst := 2) (h := whole_val hb) (hs := by rw [Tryz.underlying96]; rfl) (hd := Tryz.underlying2)
          have Hb := Lib.hid hb
          clear hb hf
          go_enter Tryz.func83, Tryz.ntmps83
          go_wp2_with (first | (go_at_call 101; refine (Num_any _ _).mono ?_; rintro e w' ⟨rfl, rfl⟩) | (go_at_call 102; refine (cn _).mono ?_; rintro e w' ⟨rfl, rfl⟩) | (go_at_call 103; refine (ct _).mono ?_; rintro e w' ⟨rfl, rfl⟩))
          go_ret2
          exact ToldWhole.yes Hb.out (drewN_zero _).symm
        · have hb := whole_no' hn hf .down (Or.inr (Or.inr h3))
          have Hb := Lib.hid hb
          clear hb hf
          go_enter Tryz.func83, Tryz.ntmps83
          go_wp2_with (first | (go_at_call 101; refine (Num_any _ _).mono ?_; rintro e w' ⟨rfl, rfl⟩) | (go_at_call 102; refine (cn _).mono ?_; rintro e w' ⟨rfl, rfl⟩) | (go_at_call 103; refine (ct _).mono ?_; rintro e w' ⟨rfl, rfl⟩))
          go_ret2
          exact ToldWhole.no Hb.out (drewN_zero _).symm
      · have hb := whole_no' hn hf .down (Or.inr (Or.inl h2))
        have Hb := Lib.hid hb
        clear hb hf
        go_enter Tryz.func83, Tryz.ntmps83
        go_wp2_with (first | (go_at_call 101; refine (Num_any _ _).mono ?_; rintro e w' ⟨rfl, rfl⟩) | (go_at_call 102; refine (cn _).mono ?_; rintro e w' ⟨rfl, rfl⟩) | (go_at_call 103; refine (ct _).mono ?_; rintro e w' ⟨rfl, rfl⟩))
        go_ret2
        exact ToldWhole.no Hb.out (drewN_zero _).symm
    · have hb := whole_no' hn hf .down (Or.inl h1)
      have Hb := Lib.hid hb
      clear hb hf
      go_enter Tryz.func83, Tryz.ntmps83
      cases h2 : (D.order n 14114281232179134464 == some .lt) <;> cases h3 : (D.order n 4890909195324358656 == some .gt || D.order n 4890909195324358656 == some .eq)
      all_goals
        go_wp2_with (first | (go_at_call 101; refine (Num_any _ _).mono ?_; rintro e w' ⟨rfl, rfl⟩) | (go_at_call 102; refine (cn _).mono ?_; rintro e w' ⟨rfl, rfl⟩) | (go_at_call 103; refine (ct _).mono ?_; rintro e w' ⟨rfl, rfl⟩))
        go_ret2
        exact ToldWhole.no Hb.out (drewN_zero _).symm
  · rw [hf] at cn
    have Hb := Lib.hid (wholeB_nan hf)
    clear hf
    go_enter Tryz.func83, Tryz.ntmps83
    go_wp2_with (first | (go_at_call 101; refine (Num_any _ _).mono ?_; rintro e w' ⟨rfl, rfl⟩) | (go_at_call 102; refine (cn _).mono ?_; rintro e w' ⟨rfl, rfl⟩))
    go_ret2
    exact ToldWhole.no Hb.out (drewN_zero _).symm
end Go.Proofs.YtmbfpichaaanpaaGreatDoor
