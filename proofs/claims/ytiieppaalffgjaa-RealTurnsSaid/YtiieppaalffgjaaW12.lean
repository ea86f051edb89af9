/- The walks of RealTotal, RealBoth. -/
import Derived.Test.YtiieppaalffgjaaW11
namespace Go.Proofs.Ytiieppaalffgjaa
open Go.RowKit

set_option maxHeartbeats 1600000 in
theorem realTotal_core (a b c : Nat) (y z v : Int) (hv1 : -1 ≤ v) (hv2 : v ≤ 1) 
    (_HE : Hid ((-v == 0) = ((a : Int) == (b : Int)))) (HT : Hid (v < 0 ∨ 0 < y ∨ z ≤ 0))
    (c1 : ∀ w, Calls Try.prog 18 #[.int .u64 a, .int .u64 b] w fun e w' => e = .returned (.int .i64 (-v)) ∧ w = w')
    (c2 : ∀ w, Calls Try.prog 18 #[.int .u64 b, .int .u64 c] w fun e w' => e = .returned (.int .i64 y) ∧ w = w')
    (c3 : ∀ w, Calls Try.prog 18 #[.int .u64 a, .int .u64 c] w fun e w' => e = .returned (.int .i64 z) ∧ w = w')
    (c4 : ∀ w, Calls Try.prog 18 #[.int .u64 b, .int .u64 a] w fun e w' => e = .returned (.int .i64 v) ∧ w = w')
    (w : World) :
    Calls Try.prog 7 #[.int .u64 a, .int .u64 b, .int .u64 c] w (Yes w) := by
  go_enter Try.func7, Try.ntmps7
  go_wp2_with (first | (go_at_call 13; refine (live_any _).mono ?_; rintro e w' ⟨rfl, k1, rfl⟩) | (go_at_call 18; (first | (with_reducible refine (c1 _).mono ?_) | (with_reducible refine (c2 _).mono ?_) | (with_reducible refine (c3 _).mono ?_) | (with_reducible refine (c4 _).mono ?_)); rintro e w' ⟨rfl, rfl⟩))
  · have h2 : ¬ 0 < y := by have : y ≤ 0 := by assumption
                            omega
    have h1 : ¬ v < 0 := by have : 0 ≤ v := by assumption
                            omega
    have hT := HT.out
    go_ret
    refine ⟨bool_ret ?_, _, rfl⟩
    simp only [h1, h2, decide_false, Bool.false_or, decide_eq_true_eq]
    omega
  · go_ret
    exact ⟨rfl, _, rfl⟩
  · go_ret
    exact ⟨rfl, _, rfl⟩

theorem order_flip (a b : Nat) : orderS a b = -orderS b a := by
  unfold orderS
  cases negS a <;> cases negS b <;> simp only [if_true, if_false, Bool.false_eq_true] <;> (repeat' split) <;> first | rfl | omega

theorem order_zero_iff (a b : Nat) : (-orderS b a == 0) = ((a : Int) == (b : Int)) := by
  rw [← order_flip, Bool.eq_iff_iff]
  simp only [beq_iff_eq]
  constructor
  · intro h; have := order_zero h; omega
  · intro h
    have : a = b := by omega
    unfold orderS; rw [if_pos this]

theorem order_trans (a b c : Nat) : orderS b a < 0 ∨ 0 < orderS b c ∨ orderS a c ≤ 0 := by
  unfold orderS negS
  repeat' split
  all_goals simp_all
  all_goals omega

theorem realTotal_walk (a b c : Nat) (w : World) : Calls Try.prog 7 #[.int .u64 a, .int .u64 b, .int .u64 c] w (Yes w) := by
  have hb := order_three b a
  exact realTotal_core a b c (orderS b c) (orderS a c) (orderS b a) (by omega) (by omega) (Lib.hid (order_zero_iff a b)) (Lib.hid (order_trans a b c))
    (fun w => order_flip a b ▸ order_any a b w) (order_any b c) (order_any a c) (order_any b a) w

theorem kind_low (a : Nat) : (fnan a = true → kindS a ≤ 1) ∧ (fnan a = false → 1 < kindS a) := by
  unfold kindS
  constructor
  · intro h
    split
    · omega
    · first | omega | (rw [if_pos h]; omega)
  · intro h
    rw [if_neg (by intro e; subst e; revert h; decide +kernel), if_neg (by simp [h])]
    split
    · omega
    · split
      · omega
      · split <;> omega

theorem do_calls (op : Int) (h4 : op ≠ 4) (a b x : Nat) (hx : doM 0 op a b = x) (w : World) :
    Calls Try.prog 22 #[.int .i64 op, .int .u64 a, .int .u64 b] w fun e w' => e = .returned (.int .u64 (x : Nat)) ∧ ∃ k, w' = w.drewN k :=
  (realDo_of 0 op a b w (by intro h; rw [beq_iff_eq] at h; exact absurd h h4)).mono fun _ _ h => ⟨by rw [h.1, hx], h.2⟩

set_option maxHeartbeats 1600000 in
theorem realBoth_core (a b x y : Nat) (z : Int) (hz : z ≤ 0) (hA : a < 18446744073709551616) (hB : b < 18446744073709551616)
    (c5 : ∀ w, Calls Try.prog 22 #[.int .i64 5, .int .u64 a, .int .u64 b] w fun e w' => e = .returned (.int .u64 (x : Nat)) ∧ ∃ k, w' = w.drewN k)
    (c6 : ∀ w, Calls Try.prog 22 #[.int .i64 6, .int .u64 a, .int .u64 b] w fun e w' => e = .returned (.int .u64 (y : Nat)) ∧ ∃ k, w' = w.drewN k)
    (co : ∀ w, Calls Try.prog 18 #[.int .u64 x, .int .u64 y] w fun e w' => e = .returned (.int .i64 z) ∧ w = w')
    (h : Hid (fnan a = true ∧ fnan b = true ∧ x = nanC ∧ y = nanC ∨ fnan a = true ∧ fnan b = false ∧ x = b ∧ y = b ∨ fnan a = false ∧ fnan b = true ∧ x = a ∧ y = a ∨ fnan a = false ∧ fnan b = false ∧ (x = a ∧ y = b ∨ x = b ∧ y = a))) (w : World) :
    Calls Try.prog 8 #[.int .u64 a, .int .u64 b] w (Yes w) := by
  rcases h.out with ⟨h1, h2, rfl, rfl⟩ | ⟨h1, h2, rfl, rfl⟩ | ⟨h1, h2, rfl, rfl⟩ | ⟨h1, h2, h3⟩
  · have ka := (kind_low a).1 h1
    have kb := (kind_low b).1 h2
    clear h h1 h2
    unfold nanC at c5 c6
    go_enter Try.func8, Try.ntmps8
    go_wp2_with (first | (go_at_call 13; refine (live_any _).mono ?_; rintro e w' ⟨rfl, k1, rfl⟩) | (go_at_call 14; (first | (with_reducible refine (kind_any a hA _).mono ?_) | (with_reducible refine (kind_any b hB _).mono ?_)); rintro e w' ⟨rfl, rfl⟩) | (go_at_call 22; (first | (with_reducible refine (c5 _).mono ?_) | (with_reducible refine (c6 _).mono ?_)); rintro e w' ⟨rfl, k2, rfl⟩))
    go_ret
    exact ⟨rfl, _, rfl⟩
  · have ka := (kind_low a).1 h1
    have kb := (kind_low y).2 h2
    clear h h1 h2
    go_enter Try.func8, Try.ntmps8
    go_wp2_with (first | (go_at_call 13; refine (live_any _).mono ?_; rintro e w' ⟨rfl, k1, rfl⟩) | (go_at_call 14; (first | (with_reducible refine (kind_any a hA _).mono ?_) | (with_reducible refine (kind_any y hB _).mono ?_)); rintro e w' ⟨rfl, rfl⟩) | (go_at_call 22; (first | (with_reducible refine (c5 _).mono ?_) | (with_reducible refine (c6 _).mono ?_)); rintro e w' ⟨rfl, k2, rfl⟩))
    go_ret
    exact ⟨rfl, _, rfl⟩
  · have ka := (kind_low y).2 h1
    have kb := (kind_low b).1 h2
    clear h h1 h2
    go_enter Try.func8, Try.ntmps8
    go_wp2_with (first | (go_at_call 13; refine (live_any _).mono ?_; rintro e w' ⟨rfl, k1, rfl⟩) | (go_at_call 14; (first | (with_reducible refine (kind_any y hA _).mono ?_) | (with_reducible refine (kind_any b hB _).mono ?_)); rintro e w' ⟨rfl, rfl⟩) | (go_at_call 22; (first | (with_reducible refine (c5 _).mono ?_) | (with_reducible refine (c6 _).mono ?_)); rintro e w' ⟨rfl, k2, rfl⟩))
    go_ret
    exact ⟨rfl, _, rfl⟩
  · have ka := (kind_low a).2 h1
    have kb := (kind_low b).2 h2
    clear h h1 h2
    rcases h3 with ⟨rfl, rfl⟩ | ⟨rfl, rfl⟩
    · go_enter Try.func8, Try.ntmps8
      go_wp2_with (first | (go_at_call 13; refine (live_any _).mono ?_; rintro e w' ⟨rfl, k1, rfl⟩) | (go_at_call 18; refine (co _).mono ?_; rintro e w' ⟨rfl, rfl⟩) | (go_at_call 14; (first | (with_reducible refine (kind_any x hA _).mono ?_) | (with_reducible refine (kind_any y hB _).mono ?_)); rintro e w' ⟨rfl, rfl⟩) | (go_at_call 22; (first | (with_reducible refine (c5 _).mono ?_) | (with_reducible refine (c6 _).mono ?_)); rintro e w' ⟨rfl, k2, rfl⟩))
      all_goals
        go_ret
        exact ⟨rfl, _, rfl⟩
    · have hbeq : ((x : Int) == (x : Int)) = true := by simp
      go_enter Try.func8, Try.ntmps8
      go_wp2_with (first | (go_at_call 13; refine (live_any _).mono ?_; rintro e w' ⟨rfl, k1, rfl⟩) | (go_at_call 18; refine (co _).mono ?_; rintro e w' ⟨rfl, rfl⟩) | (go_at_call 14; (first | (with_reducible refine (kind_any y hA _).mono ?_) | (with_reducible refine (kind_any x hB _).mono ?_)); rintro e w' ⟨rfl, rfl⟩) | (go_at_call 22; (first | (with_reducible refine (c5 _).mono ?_) | (with_reducible refine (c6 _).mono ?_)); rintro e w' ⟨rfl, k2, rfl⟩))
      all_goals
        go_ret
        exact ⟨rfl, _, rfl⟩

theorem realBoth_walk (a b : Nat) (hA : a < 18446744073709551616) (hB : b < 18446744073709551616) (w : World) :
    Calls Try.prog 8 #[.int .u64 a, .int .u64 b] w (Yes w) := by
  have e5 : doM 0 5 a b = betterS a b (-1) := rfl
  have e6 : doM 0 6 a b = betterS a b 1 := rfl
  have c5 := fun x hx => do_calls 5 (by decide) a b x (e5.trans hx)
  have c6 := fun x hx => do_calls 6 (by decide) a b x (e6.trans hx)
  cases ha : fnan a
  · cases hb : fnan b
    · rcases order_three a b with h | h | h
      · exact realBoth_core a b a b (orderS a b) (by omega) hA hB (c5 a (by unfold betterS; rw [ha, hb, h]; rfl)) (c6 b (by unfold betterS; rw [ha, hb, h]; rfl)) (order_any a b)
          (Lib.hid (Or.inr (Or.inr (Or.inr ⟨ha, hb, Or.inl ⟨rfl, rfl⟩⟩)))) w
      · have := order_zero h
        subst this
        exact realBoth_core a a a a (orderS a a) (by omega) hA hB (c5 a (by unfold betterS; rw [ha, h]; rfl)) (c6 a (by unfold betterS; rw [ha, h]; rfl)) (order_any a a)
          (Lib.hid (Or.inr (Or.inr (Or.inr ⟨ha, hb, Or.inl ⟨rfl, rfl⟩⟩)))) w
      · exact realBoth_core a b b a (orderS b a) (by rw [order_flip, h]; omega) hA hB (c5 b (by unfold betterS; rw [ha, hb, h]; rfl)) (c6 a (by unfold betterS; rw [ha, hb, h]; rfl)) (order_any b a)
          (Lib.hid (Or.inr (Or.inr (Or.inr ⟨ha, hb, Or.inr ⟨rfl, rfl⟩⟩)))) w
    · have h0 : orderS a a ≤ 0 := by unfold orderS; rw [if_pos rfl]; omega
      exact realBoth_core a b a a _ h0 hA hB (c5 a (by unfold betterS; rw [ha, hb]; rfl)) (c6 a (by unfold betterS; rw [ha, hb]; rfl)) (order_any a a)
        (Lib.hid (Or.inr (Or.inr (Or.inl ⟨ha, hb, rfl, rfl⟩)))) w
  · cases hb : fnan b
    · have h0 : orderS b b ≤ 0 := by unfold orderS; rw [if_pos rfl]; omega
      exact realBoth_core a b b b _ h0 hA hB (c5 b (by unfold betterS; rw [ha]; exact toldS_of_num hb)) (c6 b (by unfold betterS; rw [ha]; exact toldS_of_num hb)) (order_any b b)
        (Lib.hid (Or.inr (Or.inl ⟨ha, hb, rfl, rfl⟩))) w
    · have h0 : orderS nanC nanC ≤ 0 := by unfold orderS; rw [if_pos rfl]; omega
      exact realBoth_core a b nanC nanC _ h0 hA hB (c5 nanC (by unfold betterS; rw [ha]; exact toldS_of_nan hb)) (c6 nanC (by unfold betterS; rw [ha]; exact toldS_of_nan hb)) (order_any nanC nanC)
        (Lib.hid (Or.inl ⟨ha, hb, rfl, rfl⟩)) w
end Go.Proofs.Ytiieppaalffgjaa
