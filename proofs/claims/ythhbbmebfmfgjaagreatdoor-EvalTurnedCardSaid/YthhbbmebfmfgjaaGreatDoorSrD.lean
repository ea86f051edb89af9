import Derived.Test.YthhbbmebfmfgjaaGreatDoorSrC
/-! Go's stable sort: the rotation. -/
namespace Go.Proofs.YthhbbmebfmfgjaaGreatDoor
open Go.RowKit Go.Sort Stb
variable {α : Type} [Inhabited α]

set_option maxRecDepth 1000000 in
set_option maxHeartbeats 4000000 in
theorem rotate_any (enc : α → List Value) (k : Nat) (hk2 : k = 2) (g : Nat) (cb : Array Value) (cf : α → α → Int) (blk off cap size a m b lo hi : Nat) (d : Array α) (w0 w : World)
    (R : RowB Tryz.prog enc k g cb cf w0 blk off size) (hs : d.size = size) (S : SB enc k w0 blk off d w) (hlo : lo ≤ a) (ham : a < m) (hmb : m < b) (hb : b ≤ hi) (hhi : hi ≤ size) (hsz : size < 4611686018427387904) :
    Calls Tryz.prog 202 #[.slice (some ⟨blk, off, none⟩) size cap, .int .i64 a, .int .i64 m, .int .i64 b, .func (.func g) #[] cb] w fun e w' =>
      e = .returned (.tuple #[]) ∧ ∃ d', Mv lo hi d d' (ro a m b fun t => d[t]!) ∧ SB enc k w0 blk off d' w' := by
  have S0 : Aside (SB enc k w0 blk off d w) := S
  clear S
  go_enter Tryz.func202, Tryz.ntmps202
  go_wp2
  go_loopw [10, 11] (fun vi vj wr => ∃ (i j : Nat) (dk : Array α), vi = .int .i64 i ∧ vj = .int .i64 j ∧ 0 < i ∧ 0 < j ∧ i ≤ m - a ∧ j ≤ b - m ∧ dk.size = size ∧ Hid (PermIn lo hi d dk) ∧ Hid (ro (m - i) m (m + j) (fun t => dk[t]!) = ro a m b (fun t => d[t]!)) ∧ Aside (SB enc k w0 blk off dk wr)) (fun vi vj _ => (intOf vi).toNat + (intOf vj).toNat)
  case atStart => exact ⟨m - a, b - m, d, by congr 1; omega, by congr 1; omega, by omega, by omega, Nat.le_refl _, Nat.le_refl _, hs, permIn_refl _ _ _, by rw [show m - (m - a) = a by omega, show m + (b - m) = b by omega]; rfl, S0⟩
  case round =>
    clear S0
    obtain ⟨i, j, dk, rfl, rfl, hi0, hj0, hil, hj, hds, PM, RO, S1⟩ := hrel
    have e1 : (m : Int) - (i : Int) = ((m - i : Nat) : Int) := by omega
    have e2 : (m : Int) + (j : Int) - (i : Int) = ((m + j - i : Nat) : Int) := by omega
    rcases Nat.lt_trichotomy i j with h | h | h
    · have hij : (i : Int) < (j : Int) := by omega
      have hne : ((i : Int) == (j : Int)) = false := by simp; omega
      have hne' : ((i : Int) != (j : Int)) = true := by simp; omega
      have hgt : ¬ ((j : Int) < (i : Int)) := by omega
      go_wp2_with fail
      refine (swapRange_any enc k hk2 g cb cf blk off cap size (m - i) (m + j - i) i lo hi dk w0 _ R hds S1.out (by omega) (by omega) (by omega) hhi hsz).mono ?_
      rintro e w1 ⟨rfl, d1, M1, S2⟩
      have SS2 : Aside (SB enc k w0 blk off d1 w1) := S2
      have MM : Aside (Mv lo hi dk d1 (sw (m - i) (m + j - i) i fun t => dk[t]!)) := M1
      clear S2 M1
      go_wp2
      go_roundw
      case rel => exact ⟨i, j - i, d1, rfl, by congr 1; omega, hi0, by omega, hil, by omega, MM.out.size.trans hds, permIn_trans _ _ _ _ _ PM.out MM.out.perm, by rw [← RO.out, ← ro_less m i j _ (by omega) h]; congr 1; funext t; exact MM.out.val t, SS2⟩
      case measure => simp [intOf]; omega
    · subst h
      go_wp2_with fail
      refine (swapRange_any enc k hk2 g cb cf blk off cap size (m - i) m i lo hi dk w0 _ R hds S1.out (by omega) (by omega) (by omega) hhi hsz).mono ?_
      rintro e w1 ⟨rfl, d1, M1, S2⟩
      have SS2 : Aside (SB enc k w0 blk off d1 w1) := S2
      have MM : Aside (Mv lo hi dk d1 (sw (m - i) m i fun t => dk[t]!)) := M1
      clear S2 M1
      go_wp2
      go_end0
      refine ⟨rfl, d1, ⟨permIn_trans _ _ _ _ _ PM.out MM.out.perm, fun t => ?_⟩, SS2.out⟩
      rw [← RO.out, ← ro_same m i _ (by omega)]
      exact MM.out.val t
    · have hij : (j : Int) < (i : Int) := by omega
      have hne : ((i : Int) == (j : Int)) = false := by simp; omega
      have hne' : ((i : Int) != (j : Int)) = true := by simp; omega
      go_wp2_with fail
      refine (swapRange_any enc k hk2 g cb cf blk off cap size (m - i) m j lo hi dk w0 _ R hds S1.out (by omega) (by omega) (by omega) hhi hsz).mono ?_
      rintro e w1 ⟨rfl, d1, M1, S2⟩
      have SS2 : Aside (SB enc k w0 blk off d1 w1) := S2
      have MM : Aside (Mv lo hi dk d1 (sw (m - i) m j fun t => dk[t]!)) := M1
      clear S2 M1
      go_wp2
      go_roundw
      case rel => exact ⟨i - j, j, d1, by congr 1; omega, rfl, by omega, hj0, by omega, hj, MM.out.size.trans hds, permIn_trans _ _ _ _ _ PM.out MM.out.perm, by rw [← RO.out, ← ro_more m i j _ (by omega) h]; congr 1; funext t; exact MM.out.val t, SS2⟩
      case measure => simp [intOf]; omega

end Go.Proofs.YthhbbmebfmfgjaaGreatDoor
