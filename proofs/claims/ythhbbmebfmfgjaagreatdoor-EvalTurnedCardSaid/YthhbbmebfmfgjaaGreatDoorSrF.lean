import Derived.Test.YthhbbmebfmfgjaaGreatDoorSrD
/-! Go's stable sort: the merge in place, one element on the left. -/
namespace Go.Proofs.YthhbbmebfmfgjaaGreatDoor
open Go.RowKit Go.Sort Stb
variable {α : Type} [Inhabited α]

set_option maxRecDepth 1000000 in
set_option maxHeartbeats 4000000 in
theorem symMerge_left (enc : α → List Value) (k : Nat) (hk2 : k = 2) (g : Nat) (cb : Array Value) (cf : α → α → Int) (hO : SWO (ltOf cf)) (blk off cap size a b : Nat) (d : Array α) (w0 w : World)
    (eg : ∀ args w, (callFunc g args).run Tryz.prog w = .ok (.enter g args) w)
    (R : RowB Tryz.prog enc k g cb cf w0 blk off size) (hs : d.size = size) (S : SB enc k w0 blk off d w) (hmb : a + 1 < b) (hb : b ≤ size) (hsz : size < 4611686018427387904) (hB : SortedIn (ltOf cf) (a + 1) b d) :
    Calls Tryz.prog 166 #[.slice (some ⟨blk, off, none⟩) size cap, .int .i64 a, .int .i64 (a + 1), .int .i64 b, .func (.func g) #[] cb] w fun e w' =>
      e = .returned (.tuple #[]) ∧ ∃ d', PermIn a b d d' ∧ SortedIn (ltOf cf) a b d' ∧ SB enc k w0 blk off d' w' := by
  have S0 : Aside (SB enc k w0 blk off d w) := S
  have aE : ∀ w, (isAgg 33).run Tryz.prog w = .ok true w := fun _ => by kernel_rfl
  have zE : ∀ w, (Go.sizeOf 33).run Tryz.prog w = .ok k w := fun _ => by rw [hk2]; kernel_rfl
  have HB : Aside _ := hB
  clear S hk2 hB
  have t1 : ((a : Int) + 1 - (a : Int) == 1) = true := by simp; omega
  go_enter Tryz.func166, Tryz.ntmps166
  go_wp2_with fail
  go_loopw [10, 11] (fun vi vj wr => ∃ (i j : Nat), vi = .int .i64 i ∧ vj = .int .i64 j ∧ a + 1 ≤ i ∧ i ≤ j ∧ j ≤ b ∧ Aside (∀ t, a + 1 ≤ t → t < i → ltOf cf d[t]! d[a]! = true) ∧ Aside (∀ t, j ≤ t → t < b → ltOf cf d[t]! d[a]! = false) ∧ Aside (SB enc k w0 blk off d wr)) (fun vi vj _ => (intOf vj).toNat - (intOf vi).toNat)
  case atStart => exact ⟨a + 1, b, by go_num, rfl, Nat.le_refl _, by omega, Nat.le_refl _, fun t _ _ => by omega, fun t _ _ => by omega, S0⟩
  case round =>
    clear S0
    obtain ⟨i, j, rfl, rfl, hi, hij, hj, HY, HN, S1⟩ := hrel
    by_cases hlt : i < j
    · have hltz : (i : Int) < (j : Int) := by omega
      obtain ⟨h, hh⟩ : ∃ h : Nat, h = (i + j) / 2 := ⟨_, rfl⟩
      have hh1 : i ≤ h := by omega
      have hh2 : h < j := by omega
      have he : ((i : Int) + (j : Int)) / 2 = (h : Int) := by omega
      clear hh
      cases hl : ltOf cf d[h]! d[a]! with
      | true =>
        have HL : Aside _ := hl
        clear hl
        go_wp2_with fail
        have ea1 : ((h : Int)).toNat = h := by omega
        have pa1 : (0 : Int) ≤ (h : Int) := by omega
        have ba1 : (h : Int) < (size : Int) := by omega
        have ra1 : IntKind.i64.wrap ((h : Int)) = (h : Int) := by rw [IntKind.wrap_i64]; omega
        have ec1 : ((a : Int)).toNat = a := by omega
        have pc1 : (0 : Int) ≤ (a : Int) := by omega
        have bc1 : (a : Int) < (size : Int) := by omega
        have rc1 : IntKind.i64.wrap ((a : Int)) = (a : Int) := by rw [IntKind.wrap_i64]; omega
        obtain ⟨x1, hx1⟩ : ∃ x, d[h]! = x := ⟨_, rfl⟩
        obtain ⟨y1, hy1⟩ : ∃ x, d[a]! = x := ⟨_, rfl⟩
        have la1 := S1.out.ld R (h) (by omega)
        have lb1 := S1.out.ld R (a) (by omega)
        rw [hx1] at la1
        rw [hy1] at lb1
        have hc1 := S1.out.cmp R (by omega) x1 y1
        have hv1 : cf x1 y1 < 0 := by have q := HL.out; rw [hx1, hy1] at q; exact of_decide_eq_true q
        have hd1 : decide (cf x1 y1 < 0) = true := decide_eq_true hv1
        clear hx1 hy1
        go_wp2_with fail
        refine wp_region_below (by kernel_rfl) (by kernel_rfl) ?_
        repeat (quiet_step ((go_at_fn g; exact hc1 _)))
        refine wpQuiet_nil ?_
        intro _ hw'
        obtain ⟨pq, hw''⟩ := hw'
        subst hw''
        have S2 : Aside (SB enc k w0 blk off d pq.world) := S1.out.bw R.hblk pq
        clear la1 lb1 hc1 S1 hd1 hv1
        generalize pq.world = wq at S2 ⊢
        clear pq
        go_wp2
        go_roundw
        case rel => exact ⟨h + 1, j, by go_num, rfl, by omega, by omega, hj, fun t h1 h2 => up_mono hO HB.out (by omega) (by omega) HL.out t h1 (by omega), HN, S2⟩
        case measure => simp [intOf]; omega
      | false =>
        have HL : Aside _ := hl
        clear hl
        go_wp2_with fail
        have ea1 : ((h : Int)).toNat = h := by omega
        have pa1 : (0 : Int) ≤ (h : Int) := by omega
        have ba1 : (h : Int) < (size : Int) := by omega
        have ra1 : IntKind.i64.wrap ((h : Int)) = (h : Int) := by rw [IntKind.wrap_i64]; omega
        have ec1 : ((a : Int)).toNat = a := by omega
        have pc1 : (0 : Int) ≤ (a : Int) := by omega
        have bc1 : (a : Int) < (size : Int) := by omega
        have rc1 : IntKind.i64.wrap ((a : Int)) = (a : Int) := by rw [IntKind.wrap_i64]; omega
        obtain ⟨x1, hx1⟩ : ∃ x, d[h]! = x := ⟨_, rfl⟩
        obtain ⟨y1, hy1⟩ : ∃ x, d[a]! = x := ⟨_, rfl⟩
        have la1 := S1.out.ld R (h) (by omega)
        have lb1 := S1.out.ld R (a) (by omega)
        rw [hx1] at la1
        rw [hy1] at lb1
        have hc1 := S1.out.cmp R (by omega) x1 y1
        have hv1 : ¬ cf x1 y1 < 0 := by have q := HL.out; rw [hx1, hy1] at q; exact of_decide_eq_false q
        have hd1 : decide (cf x1 y1 < 0) = false := decide_eq_false hv1
        clear hx1 hy1
        go_wp2_with fail
        refine wp_region_below (by kernel_rfl) (by kernel_rfl) ?_
        repeat (quiet_step ((go_at_fn g; exact hc1 _)))
        refine wpQuiet_nil ?_
        intro _ hw'
        obtain ⟨pq, hw''⟩ := hw'
        subst hw''
        have S2 : Aside (SB enc k w0 blk off d pq.world) := S1.out.bw R.hblk pq
        clear la1 lb1 hc1 S1 hd1 hv1
        generalize pq.world = wq at S2 ⊢
        clear pq
        go_wp2
        go_roundw
        case rel => exact ⟨i, h, rfl, rfl, hi, hh1, by omega, HY, fun t h1 h2 => up_mono_no hO HB.out (by omega) HL.out t h1 h2, S2⟩
        case measure => simp [intOf]; omega
    · obtain rfl : j = i := by omega
      have hltz : ¬ (j : Int) < (j : Int) := by omega
      go_wp2_with fail
      go_loopw [13] (fun vk w2 => ∃ (q : Nat) (dk : Array α), vk = .int .i64 q ∧ a ≤ q ∧ q ≤ j - 1 ∧ Aside (Mv a b d dk (upTo a (q + 1) fun t => d[t]!)) ∧ Aside (SB enc k w0 blk off dk w2)) (fun vk _ => b - (intOf vk).toNat)
      case atStart => exact ⟨a, d, rfl, Nat.le_refl _, by omega, by rw [← upTo_start]; exact Mv.start _ _ _, S1⟩
      case round =>
        clear S1
        obtain ⟨q, dk, rfl, haq, hqj, M, S2⟩ := hrel
        have hds : dk.size = size := M.out.size.trans hs
        by_cases hlt2 : q < j - 1
        · have hltz2 : (q : Int) < (j : Int) - 1 := by omega
          have M2 : Aside (Mv a b d (swp dk q (q + 1)) (upTo a (q + 2) fun t => d[t]!)) := (M.out.step q (q + 1) haq (by omega) (by omega) (by omega) (by omega)).congr (upTo_step a q _ haq)
          go_wp2_with fail
          have ea2 : ((q : Int)).toNat = q := by omega
          have pa2 : (0 : Int) ≤ (q : Int) := by omega
          have ba2 : (q : Int) < (size : Int) := by omega
          have ra2 : IntKind.i64.wrap ((q : Int)) = (q : Int) := by rw [IntKind.wrap_i64]; omega
          have ec2 : ((q : Int) + 1).toNat = q + 1 := by omega
          have pc2 : (0 : Int) ≤ (q : Int) + 1 := by omega
          have bc2 : (q : Int) + 1 < (size : Int) := by omega
          have rc2 : IntKind.i64.wrap ((q : Int) + 1) = (q : Int) + 1 := by rw [IntKind.wrap_i64]; omega
          have S3 : Aside (SB enc k w0 blk off (swp dk (q) (q + 1)) ((wr.drew.setCells blk (off + (q) * k) (enc dk[q + 1]!)).setCells blk (off + (q + 1) * k) (enc dk[q]!))) := S2.out.swapped R (q) (q + 1) (by omega) (by omega)
          have la2 := S2.out.ld1 R (q) (by omega)
          have lb2 := S2.out.ld1 R (q + 1) (by omega)
          have sa2 := S2.out.st1 R (q) (by omega) dk[q + 1]!
          have sb2 := S2.out.st2 R (q) (q + 1) (by omega) (by omega) dk[q + 1]! dk[q]!
          have na2 : (enc dk[q]!).length = k := R.hk _
          have nb2 : (enc dk[q + 1]!).length = k := R.hk _
          generalize enc dk[q]! = cI2 at S3 la2 sb2 na2
          generalize enc dk[q + 1]! = cJ2 at S3 lb2 sa2 sb2 nb2
          clear S2
          go_wp2_with fail
          go_big_region
          clear la2 lb2 sa2 sb2
          generalize (wr.drew.setCells blk (off + (q) * k) cJ2).setCells blk (off + (q + 1) * k) cI2 = w2 at S3 ⊢
          go_wp2
          go_roundw
          case rel => exact ⟨q + 1, _, by go_num, by omega, by omega, M2, S3⟩
          case measure => simp [intOf]; omega
        · have hltz2 : ¬ (q : Int) < (j : Int) - 1 := by omega
          obtain rfl : q = j - 1 := by omega
          go_wp2_with fail
          refine bodyPost_ret (results_none rfl _ _ _) rfl ?_
          refine ⟨rfl, dk, M.out.perm, ?_, S2.out⟩
          exact up_sorted hO (i := j) (by omega) hj HB.out HY.out HN.out (fun t => by have := M.out.val t; rwa [show j - 1 + 1 = j by omega] at this)

end Go.Proofs.YthhbbmebfmfgjaaGreatDoor
