import Derived.Test.YthhbbmebfmfgjaaGreatDoorRows
import Derived.Test.YthhbbmebfmfgjaaGreatDoorSrB
import Derived.WalkSpells
import Derived.WalkLawsBesides
import Derived.Outline
import Derived.BigRegion
import Derived.BigQuiet
import Derived.Deep.LoopGhost
import Derived.Lib.Hide
/-! The walks of Go's stable sort of elements of two cells, at a comparison that lays blocks. -/
namespace Go.Proofs.YthhbbmebfmfgjaaGreatDoor
open Go.RowKit Go.Sort Stb
variable {α : Type} [Inhabited α]

set_option maxRecDepth 1000000 in
set_option maxHeartbeats 4000000 in
theorem swapRange_any (enc : α → List Value) (k : Nat) (hk2 : k = 2) (g : Nat) (cb : Array Value) (cf : α → α → Int) (blk off cap size a b n lo hi : Nat) (d : Array α) (w0 w : World)
    (R : RowB Tryz.prog enc k g cb cf w0 blk off size) (hs : d.size = size) (S : SB enc k w0 blk off d w) (hlo : lo ≤ a) (hab : a + n ≤ b) (hb : b + n ≤ hi) (hhi : hi ≤ size) (hsz : size < 4611686018427387904) :
    Calls Tryz.prog 223 #[.slice (some ⟨blk, off, none⟩) size cap, .int .i64 a, .int .i64 b, .int .i64 n, .func (.func g) #[] cb] w fun e w' =>
      e = .returned (.tuple #[]) ∧ ∃ d', Mv lo hi d d' (sw a b n fun t => d[t]!) ∧ SB enc k w0 blk off d' w' := by
  have S0 : Aside (SB enc k w0 blk off d w) := S
  have aE : ∀ w, (isAgg 33).run Tryz.prog w = .ok true w := fun _ => by kernel_rfl
  have zE : ∀ w, (Go.sizeOf 33).run Tryz.prog w = .ok k w := fun _ => by rw [hk2]; kernel_rfl
  clear S hk2
  go_enter Tryz.func223, Tryz.ntmps223
  go_wp2
  go_loopw [10] (fun vi wr => ∃ (i : Nat) (dk : Array α), vi = .int .i64 i ∧ i ≤ n ∧ Aside (Mv lo hi d dk (sw a b i fun t => d[t]!)) ∧ Aside (SB enc k w0 blk off dk wr)) (fun vi _ => n - (intOf vi).toNat)
  case atStart => exact ⟨0, d, rfl, Nat.zero_le _, by rw [sw_zero]; exact Mv.start _ _ _, S0⟩
  case round =>
    clear S0
    obtain ⟨i, dk, rfl, hin, M, S1⟩ := hrel
    have hds : dk.size = size := M.out.size.trans hs
    by_cases hlt : i < n
    · have M2 : Aside (Mv lo hi d (swp dk (a + i) (b + i)) (sw a b (i + 1) fun t => d[t]!)) :=
        (M.out.step (a + i) (b + i) (by omega) (by omega) (by omega) (by omega) (by omega)).congr (by
          refine sw_succ a b i _ _ (by omega) fun t => ?_
          by_cases h1 : t = b + i
          · subst h1; rw [if_pos rfl, if_neg (by omega), if_pos rfl]
          · rw [if_neg h1]
            by_cases h2 : t = a + i
            · rw [if_pos h2, if_pos h2]
            · rw [if_neg h2, if_neg h2, if_neg h1])
      have ea : ((a : Int) + (i : Int)).toNat = a + i := by omega
      have pa : (0 : Int) ≤ (a : Int) + (i : Int) := by omega
      have ba : (a : Int) + (i : Int) < (size : Int) := by omega
      have ra : IntKind.i64.wrap ((a : Int) + (i : Int)) = (a : Int) + (i : Int) := by rw [IntKind.wrap_i64]; omega
      have ec : ((b : Int) + (i : Int)).toNat = b + i := by omega
      have pc : (0 : Int) ≤ (b : Int) + (i : Int) := by omega
      have bc : (b : Int) + (i : Int) < (size : Int) := by omega
      have rc : IntKind.i64.wrap ((b : Int) + (i : Int)) = (b : Int) + (i : Int) := by rw [IntKind.wrap_i64]; omega
      have S2 : Aside (SB enc k w0 blk off (swp dk (a + i) (b + i)) ((wr.drew.setCells blk (off + (a + i) * k) (enc dk[b + i]!)).setCells blk (off + (b + i) * k) (enc dk[a + i]!))) := S1.out.swapped R (a + i) (b + i) (by omega) (by omega)
      have la := S1.out.ld1 R (a + i) (by omega)
      have lb := S1.out.ld1 R (b + i) (by omega)
      have sa := S1.out.st1 R (a + i) (by omega) dk[b + i]!
      have sb := S1.out.st2 R (a + i) (b + i) (by omega) (by omega) dk[b + i]! dk[a + i]!
      have na : (enc dk[a + i]!).length = k := R.hk _
      have nb : (enc dk[b + i]!).length = k := R.hk _
      generalize enc dk[a + i]! = cI at S2 la sb na
      generalize enc dk[b + i]! = cJ at S2 lb sa sb nb
      clear S1
      go_wp2_with fail
      go_big_region
      clear la lb sa sb
      generalize (wr.drew.setCells blk (off + (a + i) * k) cJ).setCells blk (off + (b + i) * k) cI = w2 at S2 ⊢
      go_wp2
      go_roundw
      case rel => exact ⟨i + 1, _, by go_num, by omega, M2, S2⟩
      case measure => simp [intOf]; omega
    · have : i = n := by omega
      subst this
      go_wp2
      go_end0
      exact ⟨rfl, dk, M.out, S1.out⟩

end Go.Proofs.YthhbbmebfmfgjaaGreatDoor
