import Derived.Test.YthlabaijaadocaaDoorXB2
import Derived.BigQuiet
import Derived.Deep.QuietTactic
import Derived.IntWalk
/-! The reference's names. -/
namespace Go.Proofs.YthlabaijaadocaaDoor
open Go.RowKit Ut Rx Mt

theorem ret_b {a c : Bool} (h : a = c) : Ending.returned (.bool a) = .returned (.bool c) := by rw [h]
def BoolSame (w : World) (b : Bool) (e : Ending) (w' : World) : Prop := e = .returned (.bool b) ∧ w = w'
set_option maxRecDepth 100000 in
theorem rLetter_any (c : Int) (w : World) : Calls Tryd.prog 56 #[.int .u8 c] w (BoolSame w (letB c)) := by
  go_enter Tryd.func56, Tryd.ntmps56
  go_wp2_with fail
  all_goals
    go_ret
    refine ⟨ret_b ?_, rfl⟩
    rw [Bool.eq_iff_iff]; simp [letB, firB, digB]; try omega

theorem namedF_all {s : ByteArray} (hl : ∀ j (hj : j < s.size), letB (s[j]'hj).toNat = true) : namedF (by_ s) = (decide (1 ≤ s.size) && decide (s.size ≤ 64) && firB ((by_ s).getD 0 0).toNat) := by
  unfold namedF
  have : ((by_ s).all fun b => letB b.toNat) = true := by
    rw [List.all_eq_true]
    intro b hb
    obtain ⟨j, hj, rfl⟩ := List.getElem_of_mem hb
    rw [tl_get s j (by rw [← tl_len]; exact hj)]
    exact hl j _
  rw [this, tl_len, Bool.and_true]
theorem fir_of_let {c : Int} (h : letB c = true) : firB c = (decide (c < 48) || decide (57 < c)) := by
  rw [Bool.eq_iff_iff]
  unfold letB firB digB at *
  simp only [Bool.or_eq_true, Bool.and_eq_true, decide_eq_true_eq] at *
  omega

set_option maxRecDepth 100000 in
set_option maxHeartbeats 2000000 in
theorem rNamed_any (s : ByteArray) (w : World) (hs : s.size ≤ maxLen) : Calls Tryd.prog 34 #[.string s] w (BoolSame w (namedF (by_ s))) := by
  unfold maxLen at hs
  have R0 : Hid (∀ j (hj : j < s.size), j < 0 → letB (s[j]'hj).toNat = true) := fun j hj h => by omega
  go_enter Tryd.func34, Tryd.ntmps34
  go_wp2_with fail
  go_loopg [6] s.size (fun gk vk wr => ∃ k : Nat, vk = .int .i64 k ∧ k + gk = s.size ∧ Hid (∀ j (hj : j < s.size), j < k → letB (s[j]'hj).toNat = true) ∧ wr = w)
  case atStart => exact ⟨0, rfl, by omega, R0, rfl⟩
  case round =>
    obtain ⟨k, rfl, hk, HR, rfl⟩ := hrel
    clear R0
    by_cases hlt : k < s.size
    · cases hL : letB ((s[k]'hlt).toNat : Int) with
      | false =>
        have E := Lib.hid (namedF_no_letter hlt hL)
        have C : Hid (Calls Tryd.prog 56 #[.int .u8 ((s[k]'hlt).toNat : Int)] wr (BoolSame wr false)) := by show Calls _ _ _ _ _; rw [← hL]; exact rLetter_any _ _
        clear hL HR
        go_wp2_with fail
        refine C.out.mono ?_
        rintro e w' ⟨rfl, rfl⟩
        go_wp2_with fail
        go_ret
        exact ⟨ret_b (Eq.symm E.out), rfl⟩
      | true =>
        have R2 : Hid (∀ j (hj : j < s.size), j < k + 1 → letB (s[j]'hj).toNat = true) := fun j hj h => by
          by_cases e : j = k
          · subst e; exact hL
          · exact HR.out j hj (by omega)
        have C : Hid (Calls Tryd.prog 56 #[.int .u8 ((s[k]'hlt).toNat : Int)] wr (BoolSame wr true)) := by show Calls _ _ _ _ _; rw [← hL]; exact rLetter_any _ _
        clear hL HR
        go_wp2_with fail
        refine C.out.mono ?_
        rintro e w' ⟨rfl, rfl⟩
        go_wp2_with fail
        go_roundg (s.size - (k + 1))
        case measure => omega
        case rel => exact ⟨k + 1, by simp, by omega, R2, rfl⟩
    · have hkl : k = s.size := by omega
      subst hkl
      have E := Lib.hid (namedF_all (s := s) fun j hj => HR.out j hj hj)
      by_cases h1 : 1 ≤ s.size
      · have F := Lib.hid (HR.out 0 h1 h1)
        have E2 : Hid (namedF (by_ s) = (decide (s.size ≤ 64) && (decide (((s[0]'h1).toNat : Int) < 48) || decide ((57 : Int) < (s[0]'h1).toNat)))) := by
          show _ = _
          rw [E.out, decide_eq_true h1, Bool.true_and, tl_getD s h1, fir_of_let F.out]
        have h1i : (1 : Int) ≤ s.size := by omega
        clear HR E F
        by_cases h64 : s.size ≤ 64
        · have h64i : (s.size : Int) ≤ 64 := by omega
          have E3 : Hid (namedF (by_ s) = (decide (((s[0]'h1).toNat : Int) < 48) || decide ((57 : Int) < (s[0]'h1).toNat))) := by show _ = _; rw [E2.out, decide_eq_true h64, Bool.true_and]
          clear E2
          rcases (show ((s[0]'h1).toNat : Int) < 48 ∨ ((48 : Int) ≤ (s[0]'h1).toNat ∧ ((s[0]'h1).toNat : Int) ≤ 57) ∨ ((48 : Int) ≤ (s[0]'h1).toNat ∧ (57 : Int) < (s[0]'h1).toNat) by omega) with g | ⟨g, g2⟩ | ⟨g, g2⟩
          · have E4 : Hid (namedF (by_ s) = true) := by show _ = _; rw [E3.out, decide_eq_true g]; rfl
            go_wp2_with fail
            go_ret
            first | exact ⟨ret_b (Eq.symm E4.out), rfl⟩ | exact ⟨ret_b (Eq.symm E3.out), rfl⟩
          · have E4 : Hid (namedF (by_ s) = false) := by show _ = _; rw [E3.out, decide_eq_false (by omega), decide_eq_false (by omega)]; rfl
            go_wp2_with fail
            go_ret
            first | exact ⟨ret_b (Eq.symm E4.out), rfl⟩ | exact ⟨ret_b (Eq.symm E3.out), rfl⟩
          · have E4 : Hid (namedF (by_ s) = true) := by show _ = _; rw [E3.out, decide_eq_true g2, Bool.or_true]
            go_wp2_with fail
            go_ret
            first | exact ⟨ret_b (Eq.symm E4.out), rfl⟩ | exact ⟨ret_b (Eq.symm E3.out), rfl⟩
        · have h64i : ¬ (s.size : Int) ≤ 64 := by omega
          have E3 : Hid (namedF (by_ s) = false) := by show _ = _; rw [E2.out, decide_eq_false h64, Bool.false_and]
          clear E2
          go_wp2_with fail
          go_ret
          exact ⟨ret_b (Eq.symm E3.out), rfl⟩
      · have h1i : ¬ (1 : Int) ≤ s.size := by omega
        have E3 : Hid (namedF (by_ s) = false) := by show _ = _; rw [E.out, decide_eq_false h1]; rfl
        clear E HR
        go_wp2_with fail
        go_ret
        exact ⟨ret_b (Eq.symm E3.out), rfl⟩
end Go.Proofs.YthlabaijaadocaaDoor

/-! The reference's values: is a text valid UTF-8? -/
namespace Go.Proofs.YthlabaijaadocaaDoor
open Go.RowKit Ut Rx Mt Go.Lib

/-- byte i of a text, 0 behind its end -/
def bt (l : List UInt8) (i : Nat) : Nat := (l.getD i 0).toNat
theorem bt_lt (l : List UInt8) (i : Nat) : bt l i < 256 := (l.getD i 0).toNat_lt
theorem bt_drop (l : List UInt8) (p j : Nat) : bt (l.drop p) j = bt l (p + j) := by
  unfold bt
  rw [List.getD_eq_getElem?_getD, List.getElem?_drop, ← List.getD_eq_getElem?_getD]
theorem bt_get {s : ByteArray} {i : Nat} (h : i < s.size) : bt (by_ s) i = (s[i]'h).toNat := by
  unfold bt
  rw [List.getD_eq_getElem?_getD, List.getElem?_eq_getElem (by rw [tl_len]; exact h), Option.getD_some, tl_get s i h]
def ct (l : List UInt8) (i : Nat) : Bool := decide (bt l i / 64 = 2)
def moreB (s : ByteArray) (a n : Nat) : Bool := decide (a + n ≤ s.size) && (List.range n).all fun i => ct (by_ s) (a + i)
theorem all_range_false {n k : Nat} (hk : k < n) {p : Nat → Bool} (h : p k = false) : (List.range n).all p = false := by
  rw [List.all_eq_false]
  exact ⟨k, List.mem_range.2 hk, by rw [h]; simp⟩

set_option maxRecDepth 100000 in
set_option maxHeartbeats 2000000 in
theorem more_any (s : ByteArray) (a n : Nat) (w : World) (hs : s.size ≤ 1000) (ha : a ≤ 1001) (hn : n ≤ 3) : Calls Tryd.prog 87 #[.string s, .int .i64 a, .int .i64 n] w (BoolSame w (moreB s a n)) := by
  by_cases hsz : a + n ≤ s.size
  · have hsi : ¬ (s.size : Int) - n < a := by omega
    have E : Hid (moreB s a n = (List.range n).all fun i => ct (by_ s) (a + i)) := by show _ = _; unfold moreB; rw [decide_eq_true hsz, Bool.true_and]
    have R0 : Hid (∀ j, j < 0 → ct (by_ s) (a + j) = true) := fun j h => by omega
    go_enter Tryd.func87, Tryd.ntmps87
    go_wp2_with fail
    go_loopg [15] n (fun gk vk wr => ∃ k : Nat, vk = .int .i64 k ∧ k + gk = n ∧ Hid (∀ j, j < k → ct (by_ s) (a + j) = true) ∧ wr = w)
    case atStart => exact ⟨0, rfl, by omega, R0, rfl⟩
    case round =>
      obtain ⟨k, rfl, hk, HR, rfl⟩ := hrel
      clear R0
      by_cases hlt : k < n
      · have hin : a + k < s.size := by omega
        have e1 : ((a : Int) + k).toNat = a + k := by omega
        have g1 : (0 : Int) ≤ (a : Int) + k := by omega
        have g2 : (a : Int) + k < s.size := by omega
        have hct : ct (by_ s) (a + k) = decide ((s[a + k]'hin).toNat / 64 = 2) := by unfold ct; rw [bt_get hin]
        have hb := (s[a + k]'hin).toNat_lt
        by_cases h2 : (s[a + k]'hin).toNat / 64 = 2
        · have R2 : Hid (∀ j, j < k + 1 → ct (by_ s) (a + j) = true) := fun j hj => by
            by_cases e : j = k
            · subst e; rw [hct, decide_eq_true h2]
            · exact HR.out j (by omega)
          have h3 : (((s[a + k]'hin).toNat : Int) / 64 == 2) = true := by rw [beq_iff_eq]; omega
          have h4 : (((s[a + k]'hin).toNat : Int) / 64 != 2) = false := by unfold bne; rw [h3]; rfl
          have h5 : (0 : Int) ≤ (s[a + k]'hin).toNat := by omega
          have h6 : ((s[a + k]'hin).toNat : Int) < 256 := by omega
          clear hct h2 HR
          go_wp2_with fail
          go_roundg (n - (k + 1))
          case measure => omega
          case rel => exact ⟨k + 1, by simp, by omega, R2, rfl⟩
        · have E2 : Hid (moreB s a n = false) := by show _ = _; rw [E.out]; exact all_range_false hlt (by rw [hct, decide_eq_false h2])
          have h3 : (((s[a + k]'hin).toNat : Int) / 64 == 2) = false := by rw [beq_eq_false_iff_ne]; omega
          have h4 : (((s[a + k]'hin).toNat : Int) / 64 != 2) = true := by unfold bne; rw [h3]; rfl
          have h5 : (0 : Int) ≤ (s[a + k]'hin).toNat := by omega
          have h6 : ((s[a + k]'hin).toNat : Int) < 256 := by omega
          clear hct h2 HR E
          go_wp2_with fail
          go_ret
          exact ⟨ret_b (Eq.symm E2.out), rfl⟩
      · have hkn : k = n := by omega
        subst hkn
        have E2 : Hid (moreB s a k = true) := by
          show _ = _
          rw [E.out, List.all_eq_true]
          intro i hi
          exact HR.out i (List.mem_range.1 hi)
        clear HR E
        go_wp2_with fail
        go_ret
        exact ⟨ret_b (Eq.symm E2.out), rfl⟩
  · have hsi : (s.size : Int) - n < a := by omega
    have E : Hid (moreB s a n = false) := by show _ = _; unfold moreB; rw [decide_eq_false hsz, Bool.false_and]
    go_enter Tryd.func87, Tryd.ntmps87
    go_wp2_with fail
    go_ret
    exact ⟨ret_b (Eq.symm E.out), rfl⟩

/-- how far the reference goes on: 0 where decoding fails -/
def stp (d : Nat × Nat) : Int := if d.1 = 65533 ∧ d.2 = 1 then 0 else (d.2 : Int)

theorem stp_bad : stp (65533, 1) = 0 := rfl
theorem stp_two (v : Nat) : stp (v, 2) = 2 := by unfold stp; rw [if_neg (by simp)]; rfl
theorem stp_three (v : Nat) : stp (v, 3) = 3 := by unfold stp; rw [if_neg (by simp)]; rfl
theorem stp_four (v : Nat) : stp (v, 4) = 4 := by unfold stp; rw [if_neg (by simp)]; rfl
theorem dB (n b0 b1 b2 b3 : Nat) (h1 : 128 ≤ b0) (h2 : b0 < 194) : stp (decodeN n b0 b1 b2 b3) = 0 := by
  have e : decodeN n b0 b1 b2 b3 = (65533, 1) := by
    unfold decodeN
    rw [if_neg (by omega : ¬ b0 < 128), if_neg (by omega : ¬ (b0 / 16 = 14 ∧ _)), if_neg (by omega : ¬ (b0 / 8 = 30 ∧ _))]
    by_cases h : b0 / 32 = 6 ∧ (1 < n ∧ b1 / 64 = 2)
    · rw [if_pos h, if_neg (by omega)]
    · rw [if_neg h]
  rw [e, stp_bad]
theorem dF (n b0 b1 b2 b3 : Nat) (h1 : 245 ≤ b0) : stp (decodeN n b0 b1 b2 b3) = 0 := by
  have e : decodeN n b0 b1 b2 b3 = (65533, 1) := by
    unfold decodeN
    rw [if_neg (by omega : ¬ b0 < 128), if_neg (by omega : ¬ (b0 / 32 = 6 ∧ _)), if_neg (by omega : ¬ (b0 / 16 = 14 ∧ _))]
    by_cases h : b0 / 8 = 30 ∧ (1 < n ∧ b1 / 64 = 2) ∧ (2 < n ∧ b2 / 64 = 2) ∧ (3 < n ∧ b3 / 64 = 2)
    · rw [if_pos h, if_neg (by omega)]
    · rw [if_neg h]
  rw [e, stp_bad]
theorem dC (n b0 b1 b2 b3 : Nat) (h1 : 194 ≤ b0) (h2 : b0 < 224) : stp (decodeN n b0 b1 b2 b3) = if 1 < n ∧ b1 / 64 = 2 then 2 else 0 := by
  by_cases h : 1 < n ∧ b1 / 64 = 2
  · have e : ∃ v, decodeN n b0 b1 b2 b3 = (v, 2) := by
      unfold decodeN
      rw [if_neg (by omega : ¬ b0 < 128), if_pos ⟨by omega, h⟩, if_pos (by omega)]; exact ⟨_, rfl⟩
    obtain ⟨v, e⟩ := e
    rw [e, stp_two, if_pos h]
  · have e : decodeN n b0 b1 b2 b3 = (65533, 1) := by
      unfold decodeN
      rw [if_neg (by omega : ¬ b0 < 128), if_neg (fun e => h e.2), if_neg (by omega : ¬ (b0 / 16 = 14 ∧ _)), if_neg (by omega : ¬ (b0 / 8 = 30 ∧ _))]
    rw [e, stp_bad, if_neg h]
theorem dD (n b0 b1 b2 b3 : Nat) (h1 : 224 ≤ b0) (h2 : b0 < 240) : stp (decodeN n b0 b1 b2 b3) = if ((1 < n ∧ b1 / 64 = 2) ∧ (2 < n ∧ b2 / 64 = 2)) ∧ (2048 ≤ b0 % 16 * 4096 + b1 % 64 * 64 + b2 % 64 ∧ (b0 % 16 * 4096 + b1 % 64 * 64 + b2 % 64 < 55296 ∨ 57343 < b0 % 16 * 4096 + b1 % 64 * 64 + b2 % 64)) then 3 else 0 := by
  have d : decodeN n b0 b1 b2 b3 = if b0 / 16 = 14 ∧ (1 < n ∧ b1 / 64 = 2) ∧ (2 < n ∧ b2 / 64 = 2) then (if b0 % 16 * 4096 + b1 % 64 * 64 + b2 % 64 ≥ 2048 ∧ (b0 % 16 * 4096 + b1 % 64 * 64 + b2 % 64 < 55296 ∨ (57344 ≤ b0 % 16 * 4096 + b1 % 64 * 64 + b2 % 64 ∧ b0 % 16 * 4096 + b1 % 64 * 64 + b2 % 64 ≤ 1114111)) then (b0 % 16 * 4096 + b1 % 64 * 64 + b2 % 64, 3) else (65533, 1)) else (65533, 1) := by
    unfold decodeN
    rw [if_neg (by omega : ¬ b0 < 128), if_neg (by omega : ¬ (b0 / 32 = 6 ∧ _)), if_neg (by omega : ¬ (b0 / 8 = 30 ∧ _))]
  have hm : b0 % 16 * 4096 + b1 % 64 * 64 + b2 % 64 ≤ 1114111 := by omega
  rw [d]
  generalize b0 % 16 * 4096 + b1 % 64 * 64 + b2 % 64 = v at *
  by_cases h : (1 < n ∧ b1 / 64 = 2) ∧ (2 < n ∧ b2 / 64 = 2)
  · rw [if_pos ⟨by omega, h⟩]
    by_cases k : 2048 ≤ v ∧ (v < 55296 ∨ 57343 < v)
    · rw [if_pos (by omega), if_pos ⟨h, k⟩, stp_three]
    · rw [if_neg (by omega), if_neg (fun e => k e.2), stp_bad]
  · rw [if_neg (fun e => h e.2), if_neg (fun e => h e.1), stp_bad]
theorem dE (n b0 b1 b2 b3 : Nat) (h1 : 240 ≤ b0) (h2 : b0 < 245) : stp (decodeN n b0 b1 b2 b3) = if ((1 < n ∧ b1 / 64 = 2) ∧ (2 < n ∧ b2 / 64 = 2) ∧ (3 < n ∧ b3 / 64 = 2)) ∧ (65536 ≤ b0 % 8 * 262144 + b1 % 64 * 4096 + b2 % 64 * 64 + b3 % 64 ∧ b0 % 8 * 262144 + b1 % 64 * 4096 + b2 % 64 * 64 + b3 % 64 ≤ 1114111) then 4 else 0 := by
  have d : decodeN n b0 b1 b2 b3 = if b0 / 8 = 30 ∧ (1 < n ∧ b1 / 64 = 2) ∧ (2 < n ∧ b2 / 64 = 2) ∧ (3 < n ∧ b3 / 64 = 2) then (if b0 % 8 * 262144 + b1 % 64 * 4096 + b2 % 64 * 64 + b3 % 64 ≥ 65536 ∧ (b0 % 8 * 262144 + b1 % 64 * 4096 + b2 % 64 * 64 + b3 % 64 < 55296 ∨ (57344 ≤ b0 % 8 * 262144 + b1 % 64 * 4096 + b2 % 64 * 64 + b3 % 64 ∧ b0 % 8 * 262144 + b1 % 64 * 4096 + b2 % 64 * 64 + b3 % 64 ≤ 1114111)) then (b0 % 8 * 262144 + b1 % 64 * 4096 + b2 % 64 * 64 + b3 % 64, 4) else (65533, 1)) else (65533, 1) := by
    unfold decodeN
    rw [if_neg (by omega : ¬ b0 < 128), if_neg (by omega : ¬ (b0 / 32 = 6 ∧ _)), if_neg (by omega : ¬ (b0 / 16 = 14 ∧ _))]
  rw [d]
  generalize b0 % 8 * 262144 + b1 % 64 * 4096 + b2 % 64 * 64 + b3 % 64 = v at *
  by_cases h : (1 < n ∧ b1 / 64 = 2) ∧ (2 < n ∧ b2 / 64 = 2) ∧ (3 < n ∧ b3 / 64 = 2)
  · rw [if_pos ⟨by omega, h⟩]
    by_cases k : 65536 ≤ v ∧ v ≤ 1114111
    · rw [if_pos (by omega), if_pos ⟨h, k⟩, stp_four]
    · rw [if_neg (by omega), if_neg (fun e => k e.2), stp_bad]
  · rw [if_neg (fun e => h e.2), if_neg (fun e => h e.1), stp_bad]


theorem tm_nat (b c : Nat) : Int.tmod (b : Int) (c : Int) = ((b % c : Nat) : Int) := by rw [Int.tmod_eq_emod_of_nonneg (by omega)]; omega
theorem wr_nat (x : Nat) (h : x < 1000000000) : IntKind.i64.wrap (x : Int) = (x : Int) := by rw [IntKind.wrap_i64]; omega
theorem wr_nat' (x : Nat) (h : x ≤ 1000 * 1000000) : IntKind.i64.wrap (x : Int) = (x : Int) := by rw [IntKind.wrap_i64]; omega
theorem wr_mul (x c : Nat) (h : x < 1000) (hc : c < 1000000) : IntKind.i64.wrap ((x : Int) * (c : Int)) = ((x * c : Nat) : Int) := by
  have h2 : x * c ≤ 1000 * 1000000 := Nat.mul_le_mul (by omega) (by omega)
  have e : (x : Int) * (c : Int) = ((x * c : Nat) : Int) := by push_cast; rfl
  rw [e]
  exact wr_nat' (x * c) h2
theorem wr_add (x y : Nat) (h : x + y < 1000000000) : IntKind.i64.wrap ((x : Int) + (y : Int)) = ((x + y : Nat) : Int) := by rw [IntKind.wrap_i64]; omega
/-- how far the reference's step goes -/
def stepN (s : ByteArray) (p : Nat) : Int := stp (decodeL ((by_ s).drop p))
theorem stepN_eq (s : ByteArray) (p : Nat) : stepN s p = stp (decodeN (s.size - p) (bt (by_ s) p) (bt (by_ s) (p + 1)) (bt (by_ s) (p + 2)) (bt (by_ s) (p + 3))) := by
  unfold stepN
  rw [decodeL_N, List.length_drop, tl_len]
  have := fun j => bt_drop (by_ s) p j
  unfold bt at *
  rw [this 0, this 1, this 2, this 3]
  rfl

set_option maxRecDepth 100000 in
set_option maxHeartbeats 8000000 in
theorem step_any (s : ByteArray) (p : Nat) (w : World) (hs : s.size ≤ 900) (hp : p < s.size) : Calls Tryd.prog 73 #[.string s, .int .i64 p] w (fun e w' => e = .returned (.int .i64 (stepN s p)) ∧ Below w.heap.size w w') := by
  have E := Lib.hid (stepN_eq s p)
  have hb0 := (s[p]'hp).toNat_lt
  have hpi : (0 : Int) ≤ p := by omega
  have hpj : (p : Int) < s.size := by omega
  rw [bt_get hp] at E
  by_cases h1 : (s[p]'hp).toNat < 128
  · have h1i : ((s[p]'hp).toNat : Int) < 128 := by omega
    have E2 : Hid (stepN s p = 1) := by show _ = _; rw [E.out]; unfold decodeN; rw [if_pos h1]; unfold stp; simp; omega
    clear E
    go_enter Tryd.func73, Tryd.ntmps73
    go_wp2_with fail
    go_ret
    exact ⟨by rw [E2.out]; rfl, Below.refl _ _⟩
  · by_cases h2 : (s[p]'hp).toNat < 194
    · have h1i : ¬ ((s[p]'hp).toNat : Int) < 128 := by omega
      have h2i : ((s[p]'hp).toNat : Int) < 194 := by omega
      have E2 : Hid (stepN s p = 0) := by show _ = _; rw [E.out]; exact dB _ _ _ _ _ (by omega) h2
      clear E
      go_enter Tryd.func73, Tryd.ntmps73
      go_wp2_with fail
      go_ret
      exact ⟨by rw [E2.out]; rfl, Below.refl _ _⟩
    · by_cases h3 : 245 ≤ (s[p]'hp).toNat
      · have h1i : ¬ ((s[p]'hp).toNat : Int) < 245 := by omega
        have E2 : Hid (stepN s p = 0) := by show _ = _; rw [E.out]; exact dF _ _ _ _ _ h3
        clear E
        go_enter Tryd.func73, Tryd.ntmps73
        go_wp2_with fail
        go_ret
        exact ⟨by rw [E2.out]; rfl, Below.refl _ _⟩
      · by_cases h4 : (s[p]'hp).toNat < 224
        · have h1i : ¬ ((s[p]'hp).toNat : Int) < 194 := by omega
          have h2i : ((s[p]'hp).toNat : Int) < 224 := by omega
          have C : Hid (Calls Tryd.prog 87 #[.string s, .int .i64 ((p : Int) + 1), .int .i64 1] w (BoolSame w (moreB s (p + 1) 1))) := by
            show Calls _ _ _ _ _
            rw [show ((p : Int) + 1) = ((p + 1 : Nat) : Int) by omega]
            exact more_any s (p + 1) 1 w (by omega) (by omega) (by omega)
          have E2 : Hid (stepN s p = if moreB s (p + 1) 1 = true then 2 else 0) := by
            show _ = _
            rw [E.out, dC _ _ _ _ _ (by omega) h4]
            have : (1 < s.size - p ∧ bt (by_ s) (p + 1) / 64 = 2) ↔ moreB s (p + 1) 1 = true := by
              unfold moreB ct
              simp [List.range_succ]
              omega
            by_cases hm : moreB s (p + 1) 1 = true
            · rw [if_pos hm, if_pos (this.2 hm)]
            · rw [if_neg hm, if_neg (fun e => hm (this.1 e))]
          clear E h1 h2 h3 h4
          generalize moreB s (p + 1) 1 = m at *
          go_enter Tryd.func73, Tryd.ntmps73
          go_wp2_with fail
          refine C.out.mono ?_
          rintro e w' ⟨rfl, rfl⟩
          cases m with
          | true =>
            go_wp2_with fail
            go_ret
            exact ⟨by rw [E2.out]; rfl, Below.refl _ _⟩
          | false =>
            go_wp2_with fail
            go_ret
            exact ⟨by rw [E2.out]; rfl, Below.refl _ _⟩
        · by_cases h5 : (s[p]'hp).toNat < 240
          · have h1i : ¬ ((s[p]'hp).toNat : Int) < 224 := by omega
            have h2i : ((s[p]'hp).toNat : Int) < 240 := by omega
            have C : Hid (Calls Tryd.prog 87 #[.string s, .int .i64 ((p : Int) + 1), .int .i64 2] w (BoolSame w (moreB s (p + 1) 2))) := by
              show Calls _ _ _ _ _
              rw [show ((p : Int) + 1) = ((p + 1 : Nat) : Int) by omega]
              exact more_any s (p + 1) 2 w (by omega) (by omega) (by omega)
            have hD := dD (s.size - p) (s[p]'hp).toNat (bt (by_ s) (p + 1)) (bt (by_ s) (p + 2)) (bt (by_ s) (p + 3)) (by omega) h5
            rw [← E.out] at hD
            have hiff : ((1 < s.size - p ∧ bt (by_ s) (p + 1) / 64 = 2) ∧ (2 < s.size - p ∧ bt (by_ s) (p + 2) / 64 = 2)) ↔ moreB s (p + 1) 2 = true := by
              unfold moreB ct
              simp [List.range_succ]
              rw [show p + 1 + 1 = p + 2 by omega]
              omega
            cases hm : moreB s (p + 1) 2 with
            | false =>
              have E2 : Hid (stepN s p = 0) := by
                show _ = _
                rw [hD, if_neg (fun e => by have := hiff.1 e.1; rw [hm] at this; cases this)]
              rw [hm] at C
              clear E h1 h2 h3 h4 hD hiff hm
              go_enter Tryd.func73, Tryd.ntmps73
              go_wp2_with fail
              refine C.out.mono ?_
              rintro e w' ⟨rfl, rfl⟩
              go_wp2_with fail
              go_ret
              exact ⟨by rw [E2.out]; rfl, Below.refl _ _⟩
            | true =>
              have hx := hiff.2 hm
              have hp1 : p + 1 < s.size := by omega
              have hp2 : p + 2 < s.size := by omega
              rw [bt_get hp1, bt_get hp2] at hD
              rw [bt_get hp1, bt_get hp2] at hx
              have E2 : Hid (stepN s p = if 2048 ≤ (s[p]'hp).toNat % 16 * 4096 + (s[p + 1]'hp1).toNat % 64 * 64 + (s[p + 2]'hp2).toNat % 64 ∧ ((s[p]'hp).toNat % 16 * 4096 + (s[p + 1]'hp1).toNat % 64 * 64 + (s[p + 2]'hp2).toNat % 64 < 55296 ∨ 57343 < (s[p]'hp).toNat % 16 * 4096 + (s[p + 1]'hp1).toNat % 64 * 64 + (s[p + 2]'hp2).toNat % 64) then 3 else 0) := by
                show _ = _
                rw [hD]
                by_cases hv : 2048 ≤ (s[p]'hp).toNat % 16 * 4096 + (s[p + 1]'hp1).toNat % 64 * 64 + (s[p + 2]'hp2).toNat % 64 ∧ ((s[p]'hp).toNat % 16 * 4096 + (s[p + 1]'hp1).toNat % 64 * 64 + (s[p + 2]'hp2).toNat % 64 < 55296 ∨ 57343 < (s[p]'hp).toNat % 16 * 4096 + (s[p + 1]'hp1).toNat % 64 * 64 + (s[p + 2]'hp2).toNat % 64)
                · rw [if_pos ⟨hx, hv⟩, if_pos hv]
                · rw [if_neg (fun e => hv e.2), if_neg hv]
              rw [hm] at C
              have q1 : IntKind.i64.wrap ((p : Int) + 1) = (p : Int) + 1 := by rw [IntKind.wrap_i64]; omega
              have q2 : IntKind.i64.wrap ((p : Int) + 2) = (p : Int) + 2 := by rw [IntKind.wrap_i64]; omega
              have e1 : ((p : Int) + 1).toNat = p + 1 := by omega
              have e2 : ((p : Int) + 2).toNat = p + 2 := by omega
              have g1 : (0 : Int) ≤ (p : Int) + 1 := by omega
              have g2 : (p : Int) + 1 < s.size := by omega
              have g3 : (0 : Int) ≤ (p : Int) + 2 := by omega
              have g4 : (p : Int) + 2 < s.size := by omega
              have FH := Lib.hid (⟨q1, q2, e1, e2⟩ : _ ∧ _ ∧ _ ∧ _)
              have hb1 := (s[p + 1]'hp1).toNat_lt
              have hb2 := (s[p + 2]'hp2).toNat_lt
              have hv : ((s[p]'hp).toNat : Int) % 16 * 4096 + ((s[p + 1]'hp1).toNat : Int) % 64 * 64 + ((s[p + 2]'hp2).toNat : Int) % 64 < 2048 ∨ ((2048 : Int) ≤ ((s[p]'hp).toNat : Int) % 16 * 4096 + ((s[p + 1]'hp1).toNat : Int) % 64 * 64 + ((s[p + 2]'hp2).toNat : Int) % 64 ∧ ((s[p]'hp).toNat : Int) % 16 * 4096 + ((s[p + 1]'hp1).toNat : Int) % 64 * 64 + ((s[p + 2]'hp2).toNat : Int) % 64 < 55296) ∨ ((55296 : Int) ≤ ((s[p]'hp).toNat : Int) % 16 * 4096 + ((s[p + 1]'hp1).toNat : Int) % 64 * 64 + ((s[p + 2]'hp2).toNat : Int) % 64 ∧ ((s[p]'hp).toNat : Int) % 16 * 4096 + ((s[p + 1]'hp1).toNat : Int) % 64 * 64 + ((s[p + 2]'hp2).toNat : Int) % 64 ≤ 57343) ∨ (¬ ((s[p]'hp).toNat : Int) % 16 * 4096 + ((s[p + 1]'hp1).toNat : Int) % 64 * 64 + ((s[p + 2]'hp2).toNat : Int) % 64 < 2048 ∧ ¬ ((s[p]'hp).toNat : Int) % 16 * 4096 + ((s[p + 1]'hp1).toNat : Int) % 64 * 64 + ((s[p + 2]'hp2).toNat : Int) % 64 < 55296 ∧ (57343 : Int) < ((s[p]'hp).toNat : Int) % 16 * 4096 + ((s[p + 1]'hp1).toNat : Int) % 64 * 64 + ((s[p + 2]'hp2).toNat : Int) % 64) := by omega
              have EA : Hid (((s[p]'hp).toNat : Int) % 16 * 4096 + ((s[p + 1]'hp1).toNat : Int) % 64 * 64 + ((s[p + 2]'hp2).toNat : Int) % 64 < 2048 → stepN s p = 0) := fun h => by rw [E2.out, if_neg (by omega)]
              have EB : Hid ((2048 : Int) ≤ ((s[p]'hp).toNat : Int) % 16 * 4096 + ((s[p + 1]'hp1).toNat : Int) % 64 * 64 + ((s[p + 2]'hp2).toNat : Int) % 64 → ((s[p]'hp).toNat : Int) % 16 * 4096 + ((s[p + 1]'hp1).toNat : Int) % 64 * 64 + ((s[p + 2]'hp2).toNat : Int) % 64 < 55296 → stepN s p = 3) := fun h h' => by rw [E2.out, if_pos (by omega)]
              have EC : Hid ((55296 : Int) ≤ ((s[p]'hp).toNat : Int) % 16 * 4096 + ((s[p + 1]'hp1).toNat : Int) % 64 * 64 + ((s[p + 2]'hp2).toNat : Int) % 64 → ((s[p]'hp).toNat : Int) % 16 * 4096 + ((s[p + 1]'hp1).toNat : Int) % 64 * 64 + ((s[p + 2]'hp2).toNat : Int) % 64 ≤ 57343 → stepN s p = 0) := fun h h' => by rw [E2.out, if_neg (by omega)]
              have ED : Hid ((57343 : Int) < ((s[p]'hp).toNat : Int) % 16 * 4096 + ((s[p + 1]'hp1).toNat : Int) % 64 * 64 + ((s[p + 2]'hp2).toNat : Int) % 64 → stepN s p = 3) := fun h => by rw [E2.out, if_pos (by omega)]
              clear E h1 h2 h3 h4 hD hiff hm hx q1 q2 e1 e2
              go_enter Tryd.func73, Tryd.ntmps73
              go_wp2_with fail
              refine C.out.mono ?_
              rintro e w' ⟨rfl, rfl⟩
              go_wp2_with fail
              obtain ⟨q1, q2, e1, e2⟩ := FH.out
              go_quiet (fail)
              clear q1 q2 FH
              generalize ((s[p]'hp).toNat : Int) % 16 * 4096 + ((s[p + 1]'hp1).toNat : Int) % 64 * 64 + ((s[p + 2]'hp2).toNat : Int) % 64 = z at *
              rcases hv with hv | ⟨hv, hv2⟩ | ⟨hv, hv2⟩ | ⟨hv, hv2, hv3⟩
              · have E3 := Lib.hid (EA.out hv)
                go_wp2_with fail
                go_ret
                exact ⟨by rw [E3.out]; rfl, below_drewN (Below.refl _ _) _⟩
              · have E3 := Lib.hid (EB.out hv hv2)
                go_wp2_with fail
                go_ret
                exact ⟨by rw [E3.out]; rfl, below_drewN (Below.refl _ _) _⟩
              · have E3 := Lib.hid (EC.out hv hv2)
                go_wp2_with fail
                go_ret
                exact ⟨by rw [E3.out]; rfl, below_drewN (Below.refl _ _) _⟩
              · have E3 := Lib.hid (ED.out hv3)
                go_wp2_with fail
                go_ret
                exact ⟨by rw [E3.out]; rfl, below_drewN (Below.refl _ _) _⟩
          · have h1i : ¬ ((s[p]'hp).toNat : Int) < 240 := by omega
            have h2i : ((s[p]'hp).toNat : Int) < 245 := by omega
            have C : Hid (Calls Tryd.prog 87 #[.string s, .int .i64 ((p : Int) + 1), .int .i64 3] w (BoolSame w (moreB s (p + 1) 3))) := by
              show Calls _ _ _ _ _
              rw [show ((p : Int) + 1) = ((p + 1 : Nat) : Int) by omega]
              exact more_any s (p + 1) 3 w (by omega) (by omega) (by omega)
            have hD := dE (s.size - p) (s[p]'hp).toNat (bt (by_ s) (p + 1)) (bt (by_ s) (p + 2)) (bt (by_ s) (p + 3)) (by omega) (by omega)
            rw [← E.out] at hD
            have hiff : ((1 < s.size - p ∧ bt (by_ s) (p + 1) / 64 = 2) ∧ (2 < s.size - p ∧ bt (by_ s) (p + 2) / 64 = 2) ∧ (3 < s.size - p ∧ bt (by_ s) (p + 3) / 64 = 2)) ↔ moreB s (p + 1) 3 = true := by
              unfold moreB ct
              simp [List.range_succ]
              rw [show p + 1 + 1 = p + 2 by omega, show p + 1 + 2 = p + 3 by omega]
              omega
            cases hm : moreB s (p + 1) 3 with
            | false =>
              have E2 : Hid (stepN s p = 0) := by
                show _ = _
                rw [hD, if_neg (fun e => by have := hiff.1 e.1; rw [hm] at this; cases this)]
              rw [hm] at C
              clear E h1 h2 h3 h4 h5 hD hiff hm
              go_enter Tryd.func73, Tryd.ntmps73
              go_wp2_with fail
              refine C.out.mono ?_
              rintro e w' ⟨rfl, rfl⟩
              go_wp2_with fail
              go_ret
              exact ⟨by rw [E2.out]; rfl, Below.refl _ _⟩
            | true =>
              have hx := hiff.2 hm
              have hp1 : p + 1 < s.size := by omega
              have hp2 : p + 2 < s.size := by omega
              have hp3 : p + 3 < s.size := by omega
              rw [bt_get hp1, bt_get hp2, bt_get hp3] at hD
              rw [bt_get hp1, bt_get hp2, bt_get hp3] at hx
              have E2 : Hid (stepN s p = if 65536 ≤ (s[p]'hp).toNat % 8 * 262144 + (s[p + 1]'hp1).toNat % 64 * 4096 + (s[p + 2]'hp2).toNat % 64 * 64 + (s[p + 3]'hp3).toNat % 64 ∧ (s[p]'hp).toNat % 8 * 262144 + (s[p + 1]'hp1).toNat % 64 * 4096 + (s[p + 2]'hp2).toNat % 64 * 64 + (s[p + 3]'hp3).toNat % 64 ≤ 1114111 then 4 else 0) := by
                show _ = _
                rw [hD]
                by_cases hv : 65536 ≤ (s[p]'hp).toNat % 8 * 262144 + (s[p + 1]'hp1).toNat % 64 * 4096 + (s[p + 2]'hp2).toNat % 64 * 64 + (s[p + 3]'hp3).toNat % 64 ∧ (s[p]'hp).toNat % 8 * 262144 + (s[p + 1]'hp1).toNat % 64 * 4096 + (s[p + 2]'hp2).toNat % 64 * 64 + (s[p + 3]'hp3).toNat % 64 ≤ 1114111
                · rw [if_pos ⟨hx, hv⟩, if_pos hv]
                · rw [if_neg (fun e => hv e.2), if_neg hv]
              rw [hm] at C
              have q1 : IntKind.i64.wrap ((p : Int) + 1) = (p : Int) + 1 := by rw [IntKind.wrap_i64]; omega
              have q2 : IntKind.i64.wrap ((p : Int) + 2) = (p : Int) + 2 := by rw [IntKind.wrap_i64]; omega
              have q3 : IntKind.i64.wrap ((p : Int) + 3) = (p : Int) + 3 := by rw [IntKind.wrap_i64]; omega
              have e1 : ((p : Int) + 1).toNat = p + 1 := by omega
              have e2 : ((p : Int) + 2).toNat = p + 2 := by omega
              have e3 : ((p : Int) + 3).toNat = p + 3 := by omega
              have g1 : (0 : Int) ≤ (p : Int) + 1 := by omega
              have g2 : (p : Int) + 1 < s.size := by omega
              have g3 : (0 : Int) ≤ (p : Int) + 2 := by omega
              have g4 : (p : Int) + 2 < s.size := by omega
              have g5 : (0 : Int) ≤ (p : Int) + 3 := by omega
              have g6 : (p : Int) + 3 < s.size := by omega
              have FH := Lib.hid (⟨q1, q2, q3, e1, e2, e3⟩ : _ ∧ _ ∧ _ ∧ _ ∧ _ ∧ _)
              have hb1 := (s[p + 1]'hp1).toNat_lt
              have hb2 := (s[p + 2]'hp2).toNat_lt
              have hb3 := (s[p + 3]'hp3).toNat_lt
              have hv : ((s[p]'hp).toNat : Int) % 8 * 262144 + ((s[p + 1]'hp1).toNat : Int) % 64 * 4096 + ((s[p + 2]'hp2).toNat : Int) % 64 * 64 + ((s[p + 3]'hp3).toNat : Int) % 64 < 65536 ∨ ((65536 : Int) ≤ ((s[p]'hp).toNat : Int) % 8 * 262144 + ((s[p + 1]'hp1).toNat : Int) % 64 * 4096 + ((s[p + 2]'hp2).toNat : Int) % 64 * 64 + ((s[p + 3]'hp3).toNat : Int) % 64 ∧ ((s[p]'hp).toNat : Int) % 8 * 262144 + ((s[p + 1]'hp1).toNat : Int) % 64 * 4096 + ((s[p + 2]'hp2).toNat : Int) % 64 * 64 + ((s[p + 3]'hp3).toNat : Int) % 64 ≤ 1114111) ∨ (¬ ((s[p]'hp).toNat : Int) % 8 * 262144 + ((s[p + 1]'hp1).toNat : Int) % 64 * 4096 + ((s[p + 2]'hp2).toNat : Int) % 64 * 64 + ((s[p + 3]'hp3).toNat : Int) % 64 < 65536 ∧ (1114111 : Int) < ((s[p]'hp).toNat : Int) % 8 * 262144 + ((s[p + 1]'hp1).toNat : Int) % 64 * 4096 + ((s[p + 2]'hp2).toNat : Int) % 64 * 64 + ((s[p + 3]'hp3).toNat : Int) % 64) := by omega
              have EA : Hid (((s[p]'hp).toNat : Int) % 8 * 262144 + ((s[p + 1]'hp1).toNat : Int) % 64 * 4096 + ((s[p + 2]'hp2).toNat : Int) % 64 * 64 + ((s[p + 3]'hp3).toNat : Int) % 64 < 65536 → stepN s p = 0) := fun h => by rw [E2.out, if_neg (by omega)]
              have EB : Hid ((65536 : Int) ≤ ((s[p]'hp).toNat : Int) % 8 * 262144 + ((s[p + 1]'hp1).toNat : Int) % 64 * 4096 + ((s[p + 2]'hp2).toNat : Int) % 64 * 64 + ((s[p + 3]'hp3).toNat : Int) % 64 → ((s[p]'hp).toNat : Int) % 8 * 262144 + ((s[p + 1]'hp1).toNat : Int) % 64 * 4096 + ((s[p + 2]'hp2).toNat : Int) % 64 * 64 + ((s[p + 3]'hp3).toNat : Int) % 64 ≤ 1114111 → stepN s p = 4) := fun h h' => by rw [E2.out, if_pos (by omega)]
              have EC : Hid ((1114111 : Int) < ((s[p]'hp).toNat : Int) % 8 * 262144 + ((s[p + 1]'hp1).toNat : Int) % 64 * 4096 + ((s[p + 2]'hp2).toNat : Int) % 64 * 64 + ((s[p + 3]'hp3).toNat : Int) % 64 → stepN s p = 0) := fun h => by rw [E2.out, if_neg (by omega)]
              clear E h1 h2 h3 h4 h5 hD hiff hm hx q1 q2 q3 e1 e2 e3
              go_enter Tryd.func73, Tryd.ntmps73
              go_wp2_with fail
              refine C.out.mono ?_
              rintro e w' ⟨rfl, rfl⟩
              go_wp2_with fail
              obtain ⟨q1, q2, q3, e1, e2, e3⟩ := FH.out
              go_quiet (fail)
              clear q1 q2 q3 FH
              generalize ((s[p]'hp).toNat : Int) % 8 * 262144 + ((s[p + 1]'hp1).toNat : Int) % 64 * 4096 + ((s[p + 2]'hp2).toNat : Int) % 64 * 64 + ((s[p + 3]'hp3).toNat : Int) % 64 = z at *
              rcases hv with hv | ⟨hv, hv2⟩ | ⟨hv, hv2⟩
              · have E3 := Lib.hid (EA.out hv)
                go_wp2_with fail
                go_ret
                exact ⟨by rw [E3.out]; rfl, below_drewN (Below.refl _ _) _⟩
              · have E3 := Lib.hid (EB.out hv hv2)
                go_wp2_with fail
                go_ret
                exact ⟨by rw [E3.out]; rfl, below_drewN (Below.refl _ _) _⟩
              · have E3 := Lib.hid (EC.out hv2)
                go_wp2_with fail
                go_ret
                exact ⟨by rw [E3.out]; rfl, below_drewN (Below.refl _ _) _⟩
end Go.Proofs.YthlabaijaadocaaDoor

/-! The reference's values. -/
namespace Go.Proofs.YthlabaijaadocaaDoor
open Go.RowKit Ut Rx Mt Go.Lib

set_option maxRecDepth 100000 in
set_option maxHeartbeats 2000000 in
theorem rValid_any (s : ByteArray) (w : World) (hs : s.size ≤ 900) : Calls Tryd.prog 57 #[.string s] w (BoolBelow w (validD (by_ s))) := by
  have B0 : Hid (Below w.heap.size w w) := Below.refl _ _
  have R0 : Hid (validD ((by_ s).drop 0) = validD (by_ s)) := rfl
  go_enter Tryd.func57, Tryd.ntmps57
  go_wp2_with fail
  go_loopg [3] s.size (fun gk vk wr => ∃ p : Nat, vk = .int .i64 p ∧ p + gk = s.size ∧ Hid (validD ((by_ s).drop p) = validD (by_ s)) ∧ Hid (Below w.heap.size w wr))
  case atStart => exact ⟨0, rfl, by omega, R0, B0⟩
  case round =>
    obtain ⟨p, rfl, hk, HR, HB⟩ := hrel
    clear R0 B0
    by_cases hlt : p < s.size
    · have hne : (by_ s).drop p ≠ [] := fun e => by
        have := congrArg List.length e
        rw [List.length_drop, tl_len] at this
        simp at this; omega
      have ST := Lib.hid (step_any s p wr hs hlt)
      have hv := validD_step _ hne
      have hw1 := decodeL_width ((by_ s).drop p)
      have hw2 := decodeL_le _ hne
      rw [List.length_drop, tl_len] at hw2
      by_cases hbad : (decodeL ((by_ s).drop p)).1 = 65533 ∧ (decodeL ((by_ s).drop p)).2 = 1
      · have E1 : stepN s p = 0 := by unfold stepN stp; rw [if_pos hbad]
        have E2 : Hid (validD (by_ s) = false) := by show _ = _; rw [← HR.out, hv, if_pos hbad]
        rw [E1] at ST
        clear hv hw1 hw2 hbad E1 HR hne
        go_wp2_with fail
        refine ST.out.mono ?_
        rintro e w1 ⟨rfl, hb1⟩
        go_wp2_with fail
        go_ret
        rw [E2.out]
        exact ⟨rfl, HB.out.trans (hb1.mono HB.out.size)⟩
      · obtain ⟨m, hm⟩ : ∃ m : Nat, m = (decodeL ((by_ s).drop p)).2 := ⟨_, rfl⟩
        have E1 : stepN s p = (m : Int) := by unfold stepN stp; rw [if_neg hbad, hm]
        have R2 : Hid (validD ((by_ s).drop (p + m)) = validD (by_ s)) := by show _ = _; rw [← HR.out, hv, if_neg hbad, List.drop_drop, hm]
        rw [← hm] at hw1 hw2
        rw [E1] at ST
        clear hv hbad E1 HR hne hm
        have hm0 : ((m : Int) == 0) = false := by rw [beq_eq_false_iff_ne]; omega
        have hml : (m : Int) ≤ 1000 := by omega
        go_wp2_with fail
        refine ST.out.mono ?_
        rintro e w1 ⟨rfl, hb1⟩
        have HB2 := Lib.hid (HB.out.trans (hb1.mono HB.out.size))
        go_wp2_with fail
        go_roundg (s.size - (p + m))
        case measure => omega
        case rel => exact ⟨p + m, by simp, by omega, R2, HB2⟩
    · have hkl : p = s.size := by omega
      subst hkl
      have E2 : Hid (validD (by_ s) = true) := by
        have := HR.out
        rw [List.drop_of_length_le (by rw [tl_len]; exact Nat.le_refl _)] at this
        exact this.symm
      go_wp2_with fail
      go_ret
      rw [E2.out]
      exact ⟨rfl, HB.out⟩

set_option maxRecDepth 100000 in
theorem rValued_any (s : ByteArray) (w : World) : Calls Tryd.prog 35 #[.string s] w (BoolBelow w (valuedB s)) := by
  by_cases h : s.size ≤ 128
  · have hz : (s.size : Int) ≤ 128 := by omega
    have e : valuedB s = validD (by_ s) := by unfold valuedB; rw [decide_eq_true h, Bool.true_and]
    rw [e]
    have C := Lib.hid (rValid_any s w (by omega))
    clear h e
    go_enter Tryd.func35, Tryd.ntmps35
    go_wp2_with fail
    refine C.out.mono ?_
    rintro e w1 ⟨rfl, hb⟩
    go_wp2_with fail
    go_ret
    exact ⟨rfl, hb⟩
  · have e : valuedB s = false := by unfold valuedB; rw [decide_eq_false h, Bool.false_and]
    rw [e]
    have hz : ¬ (s.size : Int) ≤ 128 := by omega
    go_enter Tryd.func35, Tryd.ntmps35
    go_wp2_with fail
    go_ret
    exact ⟨rfl, Below.refl _ _⟩
end Go.Proofs.YthlabaijaadocaaDoor
