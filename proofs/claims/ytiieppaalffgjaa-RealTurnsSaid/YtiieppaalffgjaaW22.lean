/- RealTurns: the plain facts, and the walk. -/
import Derived.Test.YtiieppaalffgjaaW21
import Derived.Test.YtiieppaalffgjaaW13
namespace Go.Proofs.Ytiieppaalffgjaa
open Go.RowKit Ieee

theorem sum_comm (d e : Datum) : d.sum e = e.sum d := by
  cases d <;> cases e <;> try rfl
  · rename_i s m i t n j
    unfold Datum.sum
    dsimp only
    rw [Int.min_comm j i, Int.add_comm (signed t n _), Bool.and_comm t s]
  · rename_i s t
    unfold Datum.sum
    dsimp only
    by_cases h : s = t
    · subst h; rfl
    · rw [if_neg h, if_neg (fun e => h e.symm)]
theorem product_comm (d e : Datum) : d.product e = e.product d := by
  cases d <;> cases e <;> try rfl
  · rename_i s m i t n j
    unfold Datum.product
    dsimp only
    rw [Nat.mul_comm, Int.add_comm, Bool.xor_comm]
  · unfold Datum.product; dsimp only; rw [Bool.xor_comm]

theorem add_comm (a b : Nat) : D.add a b = D.add b a := by unfold Format.add; rw [sum_comm]
theorem mul_comm (a b : Nat) : D.mul a b = D.mul b a := by unfold Format.mul; rw [product_comm]

theorem read_opp {b : Nat} (h : fnan b = false) : D.read (oppW b) = (D.read b).opposite := by
  unfold oppW
  obtain ⟨h1, h2⟩ := word_sgn (!sgn b) (rung b) (rung_lt b)
  rw [read_word, read_word, h1, h2]
  unfold fnan at h
  simp at h
  by_cases g : rung b < 9218868437227405312
  · rw [if_pos g, if_pos g]; rfl
  · rw [if_neg g, if_pos (by omega), if_neg g, if_pos (by omega)]; rfl

theorem sub_opp (a b : Nat) : optT (D.sub a b) = optT (D.add a (oneOpS 1 b)) := by
  cases h : fnan b
  · have e : oneOpS 1 b = oppW b := by unfold oneOpS; rw [h]; rfl
    rw [e]
    unfold Format.sub Format.add
    rw [read_opp h]
  · have e : oneOpS 1 b = nanC := by unfold oneOpS; rw [h]; rfl
    rw [e, (@add_nan a b (Or.inr h)).2.1, (@add_nan a nanC (Or.inr fnan_nanC)).1]

theorem better_told (a b : Nat) (w : Int) : toldS (betterS a b w) = betterS a b w := by
  unfold betterS
  cases h1 : fnan a
  · cases h2 : fnan b
    · simp only [Bool.false_eq_true, if_false]
      split
      · exact toldS_of_num h1
      · exact toldS_of_num h2
    · simp only [Bool.false_eq_true, if_false, if_true]; exact toldS_of_num h1
  · simp only [if_true]; exact told_told b

theorem nanC_told : toldS nanC = nanC := toldS_of_nan fnan_nanC

theorem rest_told (a b : Nat) : toldS (restS a b) = restS a b := by
  unfold restS
  cases h1 : fnan a
  · cases h2 : fnan b
    · simp only [Bool.false_eq_true, if_false]
      split
      · exact nanC_told
      · split
        · exact nanC_told
        · split
          · exact toldS_of_num h1
          · exact told_told _
    · exact nanC_told
  · exact nanC_told

theorem do_told (op : Int) (a b : Nat) : toldS (doS op a b) = doS op a b := by
  unfold doS doM
  repeat' split
  all_goals first | exact optT_told | exact rest_told a b | exact better_told .. | exact nanC_told

theorem kind_told {v : Nat} (h : toldS v = v) : (kindS v == 1) = false ∧ (kindS v = 0 → v = 9221120237041090561) := by
  have hn : fnan v = true → v = nanC := fun g => by rw [toldS_of_nan g] at h; exact h.symm
  constructor
  · rw [beq_eq_false_iff_ne]
    intro e
    unfold kindS at e
    split at e
    · rename_i g
      subst g
      have := hn (by unfold fnan rung; simp)
      unfold nanC at this
      omega
    · repeat (split at e; omega)
      omega
  · intro e
    unfold kindS at e
    split at e
    · omega
    · split at e
      · rename_i g; exact hn g
      · repeat (split at e; omega)
        omega


theorem oppW_lt (n : Nat) : oppW n < 18446744073709551616 := by
  unfold oppW Format.word
  rw [D_sign]
  have := rung_lt n
  split <;> omega
theorem modRun_le (y : Nat) : ∀ r, modRun y r ≤ r := by
  intro r
  induction r using Nat.strongRecOn with
  | ind r ih =>
    rw [modRun]
    split
    · rename_i h
      have := ih _ h.2
      omega
    · exact Nat.le_refl _
theorem modS_lt (a b : Nat) (hA : a < 18446744073709551616) : modS a b < 18446744073709551616 := by
  unfold modS
  split
  · exact hA
  · split
    · exact oppW_lt _
    · have := modRun_le (rung b) (rung a)
      have := rung_lt a
      omega
theorem optT_lt {op : BinOp} {a b : Nat} : optT (floatBits op .f64 a b) < 18446744073709551616 := by
  cases h : floatBits op .f64 a b with
  | some r => exact toldS_lt r (floatBits_lt h)
  | none => exact (by unfold nanC; omega : nanC < 18446744073709551616)
theorem better_lt {a b : Nat} {w : Int} (hA : a < 18446744073709551616) (hB : b < 18446744073709551616) : betterS a b w < 18446744073709551616 := by
  unfold betterS
  repeat' split
  all_goals first | exact hA | exact hB | exact toldS_lt b hB
theorem rest_lt {a b : Nat} (hA : a < 18446744073709551616) : restS a b < 18446744073709551616 := by
  unfold restS
  repeat' split
  all_goals first | exact hA | exact toldS_lt _ (modS_lt a b hA) | (unfold nanC; omega)
theorem doS_lt (op : Int) {a b : Nat} (hA : a < 18446744073709551616) (hB : b < 18446744073709551616) : doS op a b < 18446744073709551616 := by
  unfold doS doM
  repeat' split
  · exact @optT_lt .add a b
  · exact @optT_lt .sub a b
  · exact @optT_lt .mul a b
  · exact @optT_lt .quo a b
  · exact rest_lt hA
  · exact better_lt hA hB
  · exact better_lt hA hB
  · unfold nanC; omega
theorem oneOp_lt (op : Int) {v : Nat} (h : op = 1) : oneOpS op v < 18446744073709551616 := by
  subst h
  unfold oneOpS
  split
  · unfold nanC; omega
  · exact oppW_lt v

def OpsAt (B : Nat) (wr : World) : Prop := ∀ k : Nat, k < 7 → wr.cell? ⟨B, k, none⟩ = some (.int .i64 (k : Int))
theorem opsAt_start (w : World) : OpsAt w.heap.size (w.alloc (.cells #[.int .i64 0, .int .i64 1, .int .i64 2, .int .i64 3, .int .i64 4, .int .i64 5, .int .i64 6] 3)) := by
  intro k hk
  have e : (w.alloc (.cells #[.int .i64 0, .int .i64 1, .int .i64 2, .int .i64 3, .int .i64 4, .int .i64 5, .int .i64 6] 3)).heap[w.heap.size]? = some (.cells #[.int .i64 0, .int .i64 1, .int .i64 2, .int .i64 3, .int .i64 4, .int .i64 5, .int .i64 6] 3 (0, 0)) := heap_alloc_new w _
  simp only [World.cell?, e]
  match k, hk with
  | 0, _ | 1, _ | 2, _ | 3, _ | 4, _ | 5, _ | 6, _ => rfl

set_option maxHeartbeats 1600000 in
theorem realTurns_walk (a b : Nat) (hA : a < 18446744073709551616) (hB : b < 18446744073709551616) (w : World) :
    Calls Try.prog 11 #[.int .u64 a, .int .u64 b] w fun e w' => e = .returned (.bool true) ∧ Grown w w' := by
  have c0 := do_any 0 a b hA hB
  have c0' := do_any 0 b a hB hA
  rw [show doS 0 b a = doS 0 a b from (congrArg optT (add_comm b a) : optT (D.add b a) = optT (D.add a b))] at c0'
  have c2 := do_any 2 a b hA hB
  have c2' := do_any 2 b a hB hA
  rw [show doS 2 b a = doS 2 a b from (congrArg optT (mul_comm b a) : optT (D.mul b a) = optT (D.mul a b))] at c2'
  have c1 := do_any 1 a b hA hB
  have cn := one_calls 1 b hB
  have c1' := do_any 0 a (oneOpS 1 b) hA (oneOp_lt 1 rfl)
  rw [show doS 0 a (oneOpS 1 b) = doS 1 a b from (sub_opp a b).symm] at c1'
  generalize oneOpS 1 b = ob at *
  generalize doS 0 a b = s0 at *
  generalize doS 2 a b = s2 at *
  generalize doS 1 a b = s1 at *
  have HS : ∀ k1, Hid (OpsAt w.heap.size ((w.drewN k1).alloc (.cells #[.int .i64 0, .int .i64 1, .int .i64 2, .int .i64 3, .int .i64 4, .int .i64 5, .int .i64 6] 3)) ∧ Grown w ((w.drewN k1).alloc (.cells #[.int .i64 0, .int .i64 1, .int .i64 2, .int .i64 3, .int .i64 4, .int .i64 5, .int .i64 6] 3))) := fun k1 =>
    Lib.hid ⟨opsAt_start (w.drewN k1), (grown_drewN ⟨k1, rfl⟩).alloc _ _⟩
  go_enter Try.func11, Try.ntmps11
  go_wp2_with (first | (go_at_call 13; refine (live_any _).mono ?_; rintro e w' ⟨rfl, k1, rfl⟩))
  generalize w.heap.size = B at *
  go_loopw [12] (fun i wr => ∃ k : Nat, k ≤ 7 ∧ i = .int .i64 k ∧ OpsAt B wr ∧ Grown w wr) (fun i _ => 7 - (intOf i).toNat)
  case atStart => exact ⟨0, by omega, rfl, (HS _).out.1, (HS _).out.2⟩
  case round =>
    clear HS
    obtain ⟨k, hk, rfl, hops, hgr⟩ := hrel
    have HO := Lib.hid hops
    have HG := Lib.hid hgr
    clear hops hgr
    by_cases hkl : k < 7
    · have hc := HO.out k hkl
      have cd := do_any (k : Int) a b hA hB
      have hlt := doS_lt (k : Int) hA hB
      obtain ⟨k1, k0⟩ := kind_told (do_told (k : Int) a b)
      have ck := kind_any _ hlt
      have hkl2 : (k : Int) < 7 := by omega
      generalize doS (k : Int) a b = v at *
      have K0 := Lib.hid k0
      clear k0
      have hfin : Hid (∀ q, OpsAt B (wr.drewN q) ∧ Grown w (wr.drewN q)) := Lib.hid fun q => ⟨HO.out, HG.out⟩
      cases hk0 : (kindS v == 0)
      · generalize kindS v = kv at *
        go_wp2_with (first | (go_at_call 22; refine (cd _).mono ?_; rintro e w' ⟨rfl, q, rfl⟩) | (go_at_call 14; refine (ck _).mono ?_; rintro e w' ⟨rfl, rfl⟩))
        go_roundw
        case rel => exact ⟨k + 1, by omega, by go_num, (hfin.out _).1, (hfin.out _).2⟩
        case measure => simp [intOf]; omega
      · have hv : ((v : Int) != 9221120237041090561) = false := by
          have := K0.out (by simpa using hk0)
          subst this
          simp
        generalize kindS v = kv at *
        go_wp2_with (first | (go_at_call 22; refine (cd _).mono ?_; rintro e w' ⟨rfl, q, rfl⟩) | (go_at_call 14; refine (ck _).mono ?_; rintro e w' ⟨rfl, rfl⟩))
        go_roundw
        case rel => exact ⟨k + 1, by omega, by go_num, (hfin.out _).1, (hfin.out _).2⟩
        case measure => simp [intOf]; omega
    · obtain rfl : k = 7 := by omega
      have hfin : Hid (∀ q, Grown w (wr.drewN q)) := Lib.hid fun q => HG.out
      go_wp2_with (first | (go_at_call 22; (first | (with_reducible refine (c0 _).mono ?_) | (with_reducible refine (c0' _).mono ?_) | (with_reducible refine (c1 _).mono ?_) | (with_reducible refine (c2 _).mono ?_) | (with_reducible refine (c2' _).mono ?_) | (with_reducible refine (c1' _).mono ?_)); rintro e w' ⟨rfl, q, rfl⟩) | (go_at_call 31; refine (cn _).mono ?_; rintro e w' ⟨rfl, q, rfl⟩))
      go_ret
      exact ⟨rfl, hfin.out _⟩
end Go.Proofs.Ytiieppaalffgjaa
