import Derived.Test.YthhbbmebfmfgjaaGreatDoorSrU
import Derived.Deep.DeepCutAuto
/-! Go's stable sort: the merge in place, one element on the left. -/
namespace Go.Proofs.YthhbbmebfmfgjaaGreatDoor
open Go.RowKit Go.Sort Stb
variable {α : Type} [Inhabited α]

set_option maxRecDepth 1000000 in
set_option maxHeartbeats 4000000 in
theorem symMerge_left (enc : α → List Value) (k : Nat) (hk2 : k = 2) (g : Nat) (cb : Array Value) (cf : α → α → Int) (hO : SWO (ltOf cf)) (blk off cap size a b : Nat) (d : Array α) (w0 w : World)
    (eg : ∀ args w, (callFunc g args).run Tryz.prog w = .ok (.enter g args) w)
    (R : RowB Tryz.prog enc k g cb cf w0 blk off size) (hs : d.size = size) (S : SB enc k w0 blk off d w) (hmb : a + 1 < b) (hb : b ≤ size) (hsz : size < 4611686018427387904) (hB : SortedIn (ltOf cf) (a + 1) b d) :
    Calls Tryz.prog 166 #[.slice (some ⟨blk, off, none⟩) size cap, .int .i64 a, .int .i64 (a + 1), .int .i64 b, .func (.func g) #[] cb] w fun e w' =>
      e = .returned (.tuple #[]) ∧ ∃ d', PermIn a b d d' ∧ SortedIn (ltOf cf) a b d' ∧ SB enc k w0 blk off d' w' := by
  have S0 : Aside (SB enc k w0 blk off d w) := S
  have aE : ∀ w, (isAgg 33).run Tryz.prog w = .ok true w := fun _ => by kernel_rfl
  have zE : ∀ w, (Go.sizeOf 33).run Tryz.prog w = .ok k w := fun _ => by rw [hk2]; kernel_rfl
  have HB : Aside _ := hB
  clear S hk2 hB
  have t1 : ((a : Int) + 1 - (a : Int) == 1) = true := by simp; omega
  go_enter Tryz.func166, Tryz.ntmps166
  go_wp2_with fail
  go_loopw [10, 11] (fun vi vj wr => ∃ (i j : Nat), vi = .int .i64 i ∧ vj = .int .i64 j ∧ a + 1 ≤ i ∧ i ≤ j ∧ j ≤ b ∧ Aside (∀ t, a + 1 ≤ t → t < i → ltOf cf d[t]! d[a]! = true) ∧ Aside (∀ t, j ≤ t → t < b → ltOf cf d[t]! d[a]! = false) ∧ Aside (SB enc k w0 blk off d wr)) (fun vi vj _ => (intOf vj).toNat - (intOf vi).toNat)
  case atStart => exact ⟨a + 1, b, by go_num, rfl, Nat.le_refl _, by omega, Nat.le_refl _, fun t _ _ => by omega, fun t _ _ => by omega, S0⟩
  case round =>
    clear S0
    obtain ⟨i, j, rfl, rfl, hi, hij, hj, HY, HN, S1⟩ := hrel
    by_cases hlt : i < j
    · have hltz : (i : Int) < (j : Int) := by omega
      obtain ⟨h, hh⟩ : ∃ h : Nat, h = (i + j) / 2 := ⟨_, rfl⟩
      have hh1 : i ≤ h := by omega
      have hh2 : h < j := by omega
      have he : ((i : Int) + (j : Int)) / 2 = (h : Int) := by omega
      clear hh
      cases hl : ltOf cf d[h]! d[a]! with
      | true =>
        have HL : Aside _ := hl
        clear hl
        go_wp2_with fail
        have ea1 : ((h : Int)).toNat = h := by omega
        have pa1 : (0 : Int) ≤ (h : Int) := by omega
        have ba1 : (h : Int) < (size : Int) := by omega
        have ra1 : IntKind.i64.wrap ((h : Int)) = (h : Int) := by rw [IntKind.wrap_i64]; omega
        have ec1 : ((a : Int)).toNat = a := by omega
        have pc1 : (0 : Int) ≤ (a : Int) := by omega
        have bc1 : (a : Int) < (size : Int) := by omega
        have rc1 : IntKind.i64.wrap ((a : Int)) = (a : Int) := by rw [IntKind.wrap_i64]; omega
        obtain ⟨x1, hx1⟩ : ∃ x, d[h]! = x := ⟨_, rfl⟩
        obtain ⟨y1, hy1⟩ : ∃ x, d[a]! = x := ⟨_, rfl⟩
        have la1 := S1.out.ld R (h) (by omega)
        have lb1 := S1.out.ld R (a) (by omega)
        rw [hx1] at la1
        rw [hy1] at lb1
        have hc1 := S1.out.cmp R (by omega) x1 y1
        have hv1 : cf x1 y1 < 0 := by have q := HL.out; rw [hx1, hy1] at q; exact of_decide_eq_true q
        have hd1 : decide (cf x1 y1 < 0) = true := decide_eq_true hv1
        clear hx1 hy1
        go_wp2_with fail
        refine wp_region_below (by kernel_rfl) (by kernel_rfl) ?_
        repeat (quiet_step ((go_at_fn g; exact hc1 _)))
        refine wpQuiet_nil ?_
        intro _ hw'
        obtain ⟨pq, hw''⟩ := hw'
        subst hw''
        have S2 : Aside (SB enc k w0 blk off d pq.world) := S1.out.bw R.hblk pq
        clear la1 lb1 hc1 S1 hd1 hv1
        generalize pq.world = wq at S2 ⊢
        clear pq
        go_wp2
        go_roundw
        case rel => exact ⟨h + 1, j, by go_num, rfl, by omega, by omega, hj, fun t h1 h2 => up_mono hO HB.out (by omega) (by omega) HL.out t h1 (by omega), HN, S2⟩
        case measure => simp [intOf]; omega
      | false =>
        have HL : Aside _ := hl
        clear hl
        go_wp2_with fail
        have ea1 : ((h : Int)).toNat = h := by omega
        have pa1 : (0 : Int) ≤ (h : Int) := by omega
        have ba1 : (h : Int) < (size : Int) := by omega
        have ra1 : IntKind.i64.wrap ((h : Int)) = (h : Int) := by rw [IntKind.wrap_i64]; omega
        have ec1 : ((a : Int)).toNat = a := by omega
        have pc1 : (0 : Int) ≤ (a : Int) := by omega
        have bc1 : (a : Int) < (size : Int) := by omega
        have rc1 : IntKind.i64.wrap ((a : Int)) = (a : Int) := by rw [IntKind.wrap_i64]; omega
        obtain ⟨x1, hx1⟩ : ∃ x, d[h]! = x := ⟨_, rfl⟩
        obtain ⟨y1, hy1⟩ : ∃ x, d[a]! = x := ⟨_, rfl⟩
        have la1 := S1.out.ld R (h) (by omega)
        have lb1 := S1.out.ld R (a) (by omega)
        rw [hx1] at la1
        rw [hy1] at lb1
        have hc1 := S1.out.cmp R (by omega) x1 y1
        have hv1 : ¬ cf x1 y1 < 0 := by have q := HL.out; rw [hx1, hy1] at q; exact of_decide_eq_false q
        have hd1 : decide (cf x1 y1 < 0) = false := decide_eq_false hv1
        clear hx1 hy1
        go_wp2_with fail
        refine wp_region_below (by kernel_rfl) (by kernel_rfl) ?_
        repeat (quiet_step ((go_at_fn g; exact hc1 _)))
        refine wpQuiet_nil ?_
        intro _ hw'
        obtain ⟨pq, hw''⟩ := hw'
        subst hw''
        have S2 : Aside (SB enc k w0 blk off d pq.world) := S1.out.bw R.hblk pq
        clear la1 lb1 hc1 S1 hd1 hv1
        generalize pq.world = wq at S2 ⊢
        clear pq
        go_wp2
        go_roundw
        case rel => exact ⟨i, h, rfl, rfl, hi, hh1, by omega, HY, fun t h1 h2 => up_mono_no hO HB.out (by omega) HL.out t h1 h2, S2⟩
        case measure => simp [intOf]; omega
    · obtain rfl : j = i := by omega
      have hltz : ¬ (j : Int) < (j : Int) := by omega
      go_wp2_with fail
      go_loopw [13] (fun vk w2 => ∃ (q : Nat) (dk : Array α), vk = .int .i64 q ∧ a ≤ q ∧ q ≤ j - 1 ∧ Aside (Mv a b d dk (upTo a (q + 1) fun t => d[t]!)) ∧ Aside (SB enc k w0 blk off dk w2)) (fun vk _ => b - (intOf vk).toNat)
      case atStart => exact ⟨a, d, rfl, Nat.le_refl _, by omega, by rw [← upTo_start]; exact Mv.start _ _ _, S1⟩
      case round =>
        clear S1
        obtain ⟨q, dk, rfl, haq, hqj, M, S2⟩ := hrel
        have hds : dk.size = size := M.out.size.trans hs
        by_cases hlt2 : q < j - 1
        · have hltz2 : (q : Int) < (j : Int) - 1 := by omega
          have M2 : Aside (Mv a b d (swp dk q (q + 1)) (upTo a (q + 2) fun t => d[t]!)) := (M.out.step q (q + 1) haq (by omega) (by omega) (by omega) (by omega)).congr (upTo_step a q _ haq)
          go_wp2_with fail
          have ea2 : ((q : Int)).toNat = q := by omega
          have pa2 : (0 : Int) ≤ (q : Int) := by omega
          have ba2 : (q : Int) < (size : Int) := by omega
          have ra2 : IntKind.i64.wrap ((q : Int)) = (q : Int) := by rw [IntKind.wrap_i64]; omega
          have ec2 : ((q : Int) + 1).toNat = q + 1 := by omega
          have pc2 : (0 : Int) ≤ (q : Int) + 1 := by omega
          have bc2 : (q : Int) + 1 < (size : Int) := by omega
          have rc2 : IntKind.i64.wrap ((q : Int) + 1) = (q : Int) + 1 := by rw [IntKind.wrap_i64]; omega
          have S3 : Aside (SB enc k w0 blk off (swp dk (q) (q + 1)) ((wr.drew.setCells blk (off + (q) * k) (enc dk[q + 1]!)).setCells blk (off + (q + 1) * k) (enc dk[q]!))) := S2.out.swapped R (q) (q + 1) (by omega) (by omega)
          have la2 := S2.out.ld1 R (q) (by omega)
          have lb2 := S2.out.ld1 R (q + 1) (by omega)
          have sa2 := S2.out.st1 R (q) (by omega) dk[q + 1]!
          have sb2 := S2.out.st2 R (q) (q + 1) (by omega) (by omega) dk[q + 1]! dk[q]!
          have na2 : (enc dk[q]!).length = k := R.hk _
          have nb2 : (enc dk[q + 1]!).length = k := R.hk _
          generalize enc dk[q]! = cI2 at S3 la2 sb2 na2
          generalize enc dk[q + 1]! = cJ2 at S3 lb2 sa2 sb2 nb2
          clear S2
          go_wp2_with fail
          go_big_region
          clear la2 lb2 sa2 sb2
          generalize (wr.drew.setCells blk (off + (q) * k) cJ2).setCells blk (off + (q + 1) * k) cI2 = w2 at S3 ⊢
          go_wp2
          go_roundw
          case rel => exact ⟨q + 1, _, by go_num, by omega, by omega, M2, S3⟩
          case measure => simp [intOf]; omega
        · have hltz2 : ¬ (q : Int) < (j : Int) - 1 := by omega
          obtain rfl : q = j - 1 := by omega
          go_wp2_with fail
          refine bodyPost_ret (results_none rfl _ _ _) rfl ?_
          refine ⟨rfl, dk, M.out.perm, ?_, S2.out⟩
          exact up_sorted hO (i := j) (by omega) hj HB.out HY.out HN.out (fun t => by have := M.out.val t; rwa [show j - 1 + 1 = j by omega] at this)

end Go.Proofs.YthhbbmebfmfgjaaGreatDoor

/-! Go's stable sort: the merge in place, one element on the right. -/
namespace Go.Proofs.YthhbbmebfmfgjaaGreatDoor
open Go.RowKit Go.Sort Stb
variable {α : Type} [Inhabited α]

set_option maxRecDepth 1000000 in
set_option maxHeartbeats 4000000 in
theorem symMerge_right (enc : α → List Value) (k : Nat) (hk2 : k = 2) (g : Nat) (cb : Array Value) (cf : α → α → Int) (hO : SWO (ltOf cf)) (blk off cap size a m : Nat) (d : Array α) (w0 w : World)
    (eg : ∀ args w, (callFunc g args).run Tryz.prog w = .ok (.enter g args) w)
    (R : RowB Tryz.prog enc k g cb cf w0 blk off size) (hs : d.size = size) (S : SB enc k w0 blk off d w) (ham : a + 1 < m) (hb : m + 1 ≤ size) (hsz : size < 4611686018427387904) (hA : SortedIn (ltOf cf) a m d) :
    Calls Tryz.prog 166 #[.slice (some ⟨blk, off, none⟩) size cap, .int .i64 a, .int .i64 m, .int .i64 (m + 1), .func (.func g) #[] cb] w fun e w' =>
      e = .returned (.tuple #[]) ∧ ∃ d', PermIn a (m + 1) d d' ∧ SortedIn (ltOf cf) a (m + 1) d' ∧ SB enc k w0 blk off d' w' := by
  have S0 : Aside (SB enc k w0 blk off d w) := S
  have aE : ∀ w, (isAgg 33).run Tryz.prog w = .ok true w := fun _ => by kernel_rfl
  have zE : ∀ w, (Go.sizeOf 33).run Tryz.prog w = .ok k w := fun _ => by rw [hk2]; kernel_rfl
  have HA : Aside _ := hA
  clear S hk2 hA
  have t1 : ((m : Int) - (a : Int) == 1) = false := by simp; omega
  have t2 : ((m : Int) + 1 - (m : Int) == 1) = true := by simp; omega
  go_enter Tryz.func166, Tryz.ntmps166
  go_wp2_with fail
  go_loopw [14, 15] (fun vi vj wr => ∃ (i j : Nat), vi = .int .i64 i ∧ vj = .int .i64 j ∧ a ≤ i ∧ i ≤ j ∧ j ≤ m ∧ Aside (∀ t, a ≤ t → t < i → ltOf cf d[m]! d[t]! = false) ∧ Aside (∀ t, j ≤ t → t < m → ltOf cf d[m]! d[t]! = true) ∧ Aside (SB enc k w0 blk off d wr)) (fun vi vj _ => (intOf vj).toNat - (intOf vi).toNat)
  case atStart => exact ⟨a, m, rfl, rfl, Nat.le_refl _, by omega, Nat.le_refl _, fun t _ _ => by omega, fun t _ _ => by omega, S0⟩
  case round =>
    clear S0
    obtain ⟨i, j, rfl, rfl, hi, hij, hj, HY, HN, S1⟩ := hrel
    by_cases hlt : i < j
    · have hltz : (i : Int) < (j : Int) := by omega
      obtain ⟨h, hh⟩ : ∃ h : Nat, h = (i + j) / 2 := ⟨_, rfl⟩
      have hh1 : i ≤ h := by omega
      have hh2 : h < j := by omega
      have he : ((i : Int) + (j : Int)) / 2 = (h : Int) := by omega
      clear hh
      cases hl : ltOf cf d[m]! d[h]! with
      | true =>
        have HL : Aside _ := hl
        clear hl
        go_wp2_with fail
        have ea1 : ((m : Int)).toNat = m := by omega
        have pa1 : (0 : Int) ≤ (m : Int) := by omega
        have ba1 : (m : Int) < (size : Int) := by omega
        have ra1 : IntKind.i64.wrap ((m : Int)) = (m : Int) := by rw [IntKind.wrap_i64]; omega
        have ec1 : ((h : Int)).toNat = h := by omega
        have pc1 : (0 : Int) ≤ (h : Int) := by omega
        have bc1 : (h : Int) < (size : Int) := by omega
        have rc1 : IntKind.i64.wrap ((h : Int)) = (h : Int) := by rw [IntKind.wrap_i64]; omega
        obtain ⟨x1, hx1⟩ : ∃ x, d[m]! = x := ⟨_, rfl⟩
        obtain ⟨y1, hy1⟩ : ∃ x, d[h]! = x := ⟨_, rfl⟩
        have la1 := S1.out.ld R (m) (by omega)
        have lb1 := S1.out.ld R (h) (by omega)
        rw [hx1] at la1
        rw [hy1] at lb1
        have hc1 := S1.out.cmp R (by omega) x1 y1
        have hv1 : cf x1 y1 < 0 := by have q := HL.out; rw [hx1, hy1] at q; exact of_decide_eq_true q
        have hd1 : decide (cf x1 y1 < 0) = true := decide_eq_true hv1
        clear hx1 hy1
        go_wp2_with fail
        refine wp_region_below (by kernel_rfl) (by kernel_rfl) ?_
        repeat (quiet_step ((go_at_fn g; exact hc1 _)))
        refine wpQuiet_nil ?_
        intro _ hw'
        obtain ⟨pq, hw''⟩ := hw'
        subst hw''
        have S2 : Aside (SB enc k w0 blk off d pq.world) := S1.out.bw R.hblk pq
        clear la1 lb1 hc1 S1 hd1 hv1
        generalize pq.world = wq at S2 ⊢
        clear pq
        go_wp2
        go_roundw
        case rel => exact ⟨i, h, rfl, rfl, hi, hh1, by omega, HY, fun t h1 h2 => dn_mono_no hO HA.out (by omega) HL.out t h1 h2, S2⟩
        case measure => simp [intOf]; omega
      | false =>
        have HL : Aside _ := hl
        clear hl
        go_wp2_with fail
        have ea1 : ((m : Int)).toNat = m := by omega
        have pa1 : (0 : Int) ≤ (m : Int) := by omega
        have ba1 : (m : Int) < (size : Int) := by omega
        have ra1 : IntKind.i64.wrap ((m : Int)) = (m : Int) := by rw [IntKind.wrap_i64]; omega
        have ec1 : ((h : Int)).toNat = h := by omega
        have pc1 : (0 : Int) ≤ (h : Int) := by omega
        have bc1 : (h : Int) < (size : Int) := by omega
        have rc1 : IntKind.i64.wrap ((h : Int)) = (h : Int) := by rw [IntKind.wrap_i64]; omega
        obtain ⟨x1, hx1⟩ : ∃ x, d[m]! = x := ⟨_, rfl⟩
        obtain ⟨y1, hy1⟩ : ∃ x, d[h]! = x := ⟨_, rfl⟩
        have la1 := S1.out.ld R (m) (by omega)
        have lb1 := S1.out.ld R (h) (by omega)
        rw [hx1] at la1
        rw [hy1] at lb1
        have hc1 := S1.out.cmp R (by omega) x1 y1
        have hv1 : ¬ cf x1 y1 < 0 := by have q := HL.out; rw [hx1, hy1] at q; exact of_decide_eq_false q
        have hd1 : decide (cf x1 y1 < 0) = false := decide_eq_false hv1
        clear hx1 hy1
        go_wp2_with fail
        refine wp_region_below (by kernel_rfl) (by kernel_rfl) ?_
        repeat (quiet_step ((go_at_fn g; exact hc1 _)))
        refine wpQuiet_nil ?_
        intro _ hw'
        obtain ⟨pq, hw''⟩ := hw'
        subst hw''
        have S2 : Aside (SB enc k w0 blk off d pq.world) := S1.out.bw R.hblk pq
        clear la1 lb1 hc1 S1 hd1 hv1
        generalize pq.world = wq at S2 ⊢
        clear pq
        go_wp2
        go_roundw
        case rel => exact ⟨h + 1, j, by go_num, rfl, by omega, by omega, hj, fun t h1 h2 => dn_mono hO HA.out (by omega) HL.out t h1 (by omega), HN, S2⟩
        case measure => simp [intOf]; omega
    · obtain rfl : j = i := by omega
      have hltz : ¬ (j : Int) < (j : Int) := by omega
      go_wp2_with fail
      go_loopw [17] (fun vk w2 => ∃ (q : Nat) (dk : Array α), vk = .int .i64 q ∧ j ≤ q ∧ q ≤ m ∧ Aside (Mv a (m + 1) d dk (dnTo m q fun t => d[t]!)) ∧ Aside (SB enc k w0 blk off dk w2)) (fun vk _ => (intOf vk).toNat)
      case atStart => exact ⟨m, d, rfl, hj, Nat.le_refl _, by rw [← dnTo_start]; exact Mv.start _ _ _, S1⟩
      case round =>
        clear S1
        obtain ⟨q, dk, rfl, hjq, hqm, M, S2⟩ := hrel
        have hds : dk.size = size := M.out.size.trans hs
        by_cases hlt2 : j < q
        · obtain ⟨qp, rfl⟩ : ∃ qp, q = qp + 1 := ⟨q - 1, by omega⟩
          have hltz2 : (j : Int) < (qp : Int) + 1 := by omega
          have M2 : Aside (Mv a (m + 1) d (swp dk (qp + 1) qp) (dnTo m qp fun t => d[t]!)) := (M.out.step (qp + 1) qp (by omega) (by omega) (by omega) (by omega) (by omega)).congr (dnTo_step m qp _ hqm)
          go_wp2_with fail
          have ea2 : ((qp : Int) + 1).toNat = qp + 1 := by omega
          have pa2 : (0 : Int) ≤ (qp : Int) + 1 := by omega
          have ba2 : (qp : Int) + 1 < (size : Int) := by omega
          have ra2 : IntKind.i64.wrap ((qp : Int) + 1) = (qp : Int) + 1 := by rw [IntKind.wrap_i64]; omega
          have ec2 : ((qp : Int)).toNat = qp := by omega
          have pc2 : (0 : Int) ≤ (qp : Int) := by omega
          have bc2 : (qp : Int) < (size : Int) := by omega
          have rc2 : IntKind.i64.wrap ((qp : Int)) = (qp : Int) := by rw [IntKind.wrap_i64]; omega
          have S3 : Aside (SB enc k w0 blk off (swp dk (qp + 1) (qp)) ((wr.drew.setCells blk (off + (qp + 1) * k) (enc dk[qp]!)).setCells blk (off + (qp) * k) (enc dk[qp + 1]!))) := S2.out.swapped R (qp + 1) (qp) (by omega) (by omega)
          have la2 := S2.out.ld1 R (qp + 1) (by omega)
          have lb2 := S2.out.ld1 R (qp) (by omega)
          have sa2 := S2.out.st1 R (qp + 1) (by omega) dk[qp]!
          have sb2 := S2.out.st2 R (qp + 1) (qp) (by omega) (by omega) dk[qp]! dk[qp + 1]!
          have na2 : (enc dk[qp + 1]!).length = k := R.hk _
          have nb2 : (enc dk[qp]!).length = k := R.hk _
          generalize enc dk[qp + 1]! = cI2 at S3 la2 sb2 na2
          generalize enc dk[qp]! = cJ2 at S3 lb2 sa2 sb2 nb2
          clear S2
          go_wp2_with fail
          go_big_region
          clear la2 lb2 sa2 sb2
          generalize (wr.drew.setCells blk (off + (qp + 1) * k) cJ2).setCells blk (off + (qp) * k) cI2 = w2 at S3 ⊢
          go_wp2
          go_roundw
          case rel => exact ⟨qp, _, by first | rfl | go_num, by omega, by omega, M2, S3⟩
          case measure => simp [intOf]
        · obtain rfl : q = j := by omega
          have hltz2 : ¬ (q : Int) < (q : Int) := by omega
          go_wp2_with fail
          refine bodyPost_ret (results_none rfl _ _ _) rfl ?_
          refine ⟨rfl, dk, M.out.perm, ?_, S2.out⟩
          exact dn_sorted hO hi hqm HA.out HY.out HN.out M.out.val

end Go.Proofs.YthhbbmebfmfgjaaGreatDoor

/-! Go's stable sort: the merge in place, whole. -/
namespace Go.Proofs.YthhbbmebfmfgjaaGreatDoor
open Go.RowKit Go.Sort Stb
variable {α : Type} [Inhabited α]

omit [Inhabited α] in
theorem ro_id (s m e : Nat) (f : Nat → α) (h : s = m ∨ m = e) (h1 : s ≤ m) (h2 : m ≤ e) : ro s m e f = f := by
  funext t
  unfold ro
  repeat' split
  all_goals first | (exfalso; omega) | (congr 1; omega) | rfl

/-- what the merge of [a, b) at m comes to, for all parts that are shorter than n -/
def MergeTo (enc : α → List Value) (k : Nat) (g : Nat) (cb : Array Value) (cf : α → α → Int) (blk off cap size : Nat) (w0 : World) (n : Nat) : Prop :=
  ∀ (a m b : Nat) (d : Array α) (w : World), b - a < n → d.size = size → SB enc k w0 blk off d w → a < m → m < b → b ≤ size → SortedIn (ltOf cf) a m d → SortedIn (ltOf cf) m b d →
    Calls Tryz.prog 166 #[.slice (some ⟨blk, off, none⟩) size cap, .int .i64 a, .int .i64 m, .int .i64 b, .func (.func g) #[] cb] w fun e w' =>
      e = .returned (.tuple #[]) ∧ ∃ d', PermIn a b d d' ∧ SortedIn (ltOf cf) a b d' ∧ SB enc k w0 blk off d' w'

set_option maxRecDepth 1000000 in
set_option maxHeartbeats 8000000 in
theorem symMerge_step (enc : α → List Value) (k : Nat) (hk2 : k = 2) (g : Nat) (cb : Array Value) (cf : α → α → Int) (hO : SWO (ltOf cf)) (blk off cap size a m b : Nat) (d : Array α) (w0 w : World)
    (eg : ∀ args w, (callFunc g args).run Tryz.prog w = .ok (.enter g args) w)
    (R : RowB Tryz.prog enc k g cb cf w0 blk off size) (hs : d.size = size) (S : SB enc k w0 blk off d w) (ham : a + 1 < m) (hmb : m + 1 < b) (hb : b ≤ size) (hsz : size < 4611686018427387904) (hA : SortedIn (ltOf cf) a m d) (hB : SortedIn (ltOf cf) m b d)
    (IH : MergeTo enc k g cb cf blk off cap size w0 (b - a)) :
    Calls Tryz.prog 166 #[.slice (some ⟨blk, off, none⟩) size cap, .int .i64 a, .int .i64 m, .int .i64 b, .func (.func g) #[] cb] w fun e w' =>
      e = .returned (.tuple #[]) ∧ ∃ d', PermIn a b d d' ∧ SortedIn (ltOf cf) a b d' ∧ SB enc k w0 blk off d' w' := by
  have S0 : Aside (SB enc k w0 blk off d w) := S
  have aE : ∀ w, (isAgg 33).run Tryz.prog w = .ok true w := fun _ => by kernel_rfl
  have zE : ∀ w, (Go.sizeOf 33).run Tryz.prog w = .ok k w := fun _ => by rw [hk2]; kernel_rfl
  have HA : Aside _ := hA
  have HB : Aside _ := hB
  have HK : Hid (k = 2) := hk2
  clear S hk2 hA hB
  have t1 : ((m : Int) - (a : Int) == 1) = false := by simp; omega
  have t2 : ((b : Int) - (m : Int) == 1) = false := by simp; omega
  obtain ⟨q, hq⟩ : ∃ q : Nat, q = (a + b) / 2 := ⟨_, rfl⟩
  have hq1 : a < q := by omega
  have hq2 : q < b := by omega
  have hqe : ((a : Int) + (b : Int)) / 2 = (q : Int) := by omega
  have HQ : Hid (q = (a + b) / 2) := hq
  clear hq
  -- where the search begins
  obtain ⟨s0, r0, h0⟩ : ∃ s0 r0 : Nat, (q < m ∧ s0 = q + m - b ∧ r0 = q) ∨ (m ≤ q ∧ s0 = a ∧ r0 = m) := by
    by_cases h : q < m
    · exact ⟨_, _, Or.inl ⟨h, rfl, rfl⟩⟩
    · exact ⟨_, _, Or.inr ⟨by omega, rfl, rfl⟩⟩
  have H0 : Aside _ := h0
  have u1 : a ≤ s0 := by have := HQ.out; omega
  have u2 : s0 ≤ r0 := by have := HQ.out; omega
  have u3 : r0 ≤ m := by omega
  have u4 : m + r0 ≤ q + m := by omega
  have u5 : q + m ≤ b + s0 := by have := HQ.out; omega
  have u6 : r0 ≤ q := by omega
  have hp : (q : Int) + (m : Int) - 1 = ((q + m - 1 : Nat) : Int) := by omega
  obtain ⟨pp, hpp⟩ : ∃ pp : Nat, pp = q + m - 1 := ⟨_, rfl⟩
  rw [← hpp] at hp
  have hpp2 : pp + 1 = q + m := by omega
  clear hpp
  by_cases hqm : q < m
  · have hqz : (q : Int) < (m : Int) := by omega
    have hs0 : (q : Int) + (m : Int) - (b : Int) = (s0 : Int) := by omega
    have HRQ : Hid (r0 = q) := by show _ = _; omega
    clear h0
    go_enter Tryz.func166, Tryz.ntmps166
    go_wp2_with fail
    go_loopw [20, 21] (fun vi vj wr => ∃ (s r : Nat), vi = .int .i64 s ∧ vj = .int .i64 r ∧ s0 ≤ s ∧ s ≤ r ∧ r ≤ r0 ∧ Aside (Cut (ltOf cf) d s0 r0 pp s r) ∧ Aside (SB enc k w0 blk off d wr)) (fun vi vj _ => (intOf vj).toNat - (intOf vi).toNat)
    case atStart => exact ⟨s0, r0, rfl, by rw [HRQ.out], Nat.le_refl _, u2, Nat.le_refl _, Cut.start u2, S0⟩
    case round =>
      clear S0
      obtain ⟨s, r, rfl, rfl, hs1, hs2, hs3, HC, S1⟩ := hrel
      by_cases hlt : s < r
      · have hltz : (s : Int) < (r : Int) := by omega
        obtain ⟨c, hc⟩ : ∃ c : Nat, c = (s + r) / 2 := ⟨_, rfl⟩
        have hc1 : s ≤ c := by omega
        have hc2 : c < r := by omega
        have hce : ((s : Int) + (r : Int)) / 2 = (c : Int) := by omega
        have hpc : (pp : Int) - (c : Int) = ((pp - c : Nat) : Int) := by omega
        clear hc
        cases hl : ltOf cf d[pp - c]! d[c]! with
        | true =>
          have HL : Aside _ := hl
          clear hl
          go_wp2_with fail
          have ea1 : (((pp - c : Nat) : Int)).toNat = pp - c := by omega
          have pa1 : (0 : Int) ≤ ((pp - c : Nat) : Int) := by omega
          have ba1 : ((pp - c : Nat) : Int) < (size : Int) := by omega
          have ra1 : IntKind.i64.wrap (((pp - c : Nat) : Int)) = ((pp - c : Nat) : Int) := by rw [IntKind.wrap_i64]; omega
          have ec1 : ((c : Int)).toNat = c := by omega
          have pc1 : (0 : Int) ≤ (c : Int) := by omega
          have bc1 : (c : Int) < (size : Int) := by omega
          have rc1 : IntKind.i64.wrap ((c : Int)) = (c : Int) := by rw [IntKind.wrap_i64]; omega
          obtain ⟨x1, hx1⟩ : ∃ x, d[pp - c]! = x := ⟨_, rfl⟩
          obtain ⟨y1, hy1⟩ : ∃ x, d[c]! = x := ⟨_, rfl⟩
          have la1 := S1.out.ld R (pp - c) (by omega)
          have lb1 := S1.out.ld R (c) (by omega)
          rw [hx1] at la1
          rw [hy1] at lb1
          have hc1 := S1.out.cmp R (by omega) x1 y1
          have hv1 : cf x1 y1 < 0 := by have q := HL.out; rw [hx1, hy1] at q; exact of_decide_eq_true q
          have hd1 : decide (cf x1 y1 < 0) = true := decide_eq_true hv1
          clear hx1 hy1
          go_wp2_with fail
          refine wp_region_below (by kernel_rfl) (by kernel_rfl) ?_
          repeat (quiet_step ((go_at_fn g; exact hc1 _)))
          refine wpQuiet_nil ?_
          intro _ hw'
          obtain ⟨pq, hw''⟩ := hw'
          subst hw''
          have S2 : Aside (SB enc k w0 blk off d pq.world) := S1.out.bw R.hblk pq
          clear la1 lb1 hc1 S1 hd1 hv1
          generalize pq.world = wq at S2 ⊢
          clear pq
          go_wp2
          go_roundw
          case rel => exact ⟨s, c, rfl, rfl, hs1, hc1, by omega, HC.out.no' hO HA.out HB.out hc1 hc2 u1 u3 (by omega) (by omega) HL.out, S2⟩
          case measure => simp [intOf]; omega
        | false =>
          have HL : Aside _ := hl
          clear hl
          go_wp2_with fail
          have ea1 : (((pp - c : Nat) : Int)).toNat = pp - c := by omega
          have pa1 : (0 : Int) ≤ ((pp - c : Nat) : Int) := by omega
          have ba1 : ((pp - c : Nat) : Int) < (size : Int) := by omega
          have ra1 : IntKind.i64.wrap (((pp - c : Nat) : Int)) = ((pp - c : Nat) : Int) := by rw [IntKind.wrap_i64]; omega
          have ec1 : ((c : Int)).toNat = c := by omega
          have pc1 : (0 : Int) ≤ (c : Int) := by omega
          have bc1 : (c : Int) < (size : Int) := by omega
          have rc1 : IntKind.i64.wrap ((c : Int)) = (c : Int) := by rw [IntKind.wrap_i64]; omega
          obtain ⟨x1, hx1⟩ : ∃ x, d[pp - c]! = x := ⟨_, rfl⟩
          obtain ⟨y1, hy1⟩ : ∃ x, d[c]! = x := ⟨_, rfl⟩
          have la1 := S1.out.ld R (pp - c) (by omega)
          have lb1 := S1.out.ld R (c) (by omega)
          rw [hx1] at la1
          rw [hy1] at lb1
          have hc1 := S1.out.cmp R (by omega) x1 y1
          have hv1 : ¬ cf x1 y1 < 0 := by have q := HL.out; rw [hx1, hy1] at q; exact of_decide_eq_false q
          have hd1 : decide (cf x1 y1 < 0) = false := decide_eq_false hv1
          clear hx1 hy1
          go_wp2_with fail
          refine wp_region_below (by kernel_rfl) (by kernel_rfl) ?_
          repeat (quiet_step ((go_at_fn g; exact hc1 _)))
          refine wpQuiet_nil ?_
          intro _ hw'
          obtain ⟨pq, hw''⟩ := hw'
          subst hw''
          have S2 : Aside (SB enc k w0 blk off d pq.world) := S1.out.bw R.hblk pq
          clear la1 lb1 hc1 S1 hd1 hv1
          generalize pq.world = wq at S2 ⊢
          clear pq
          go_wp2
          go_roundw
          case rel => exact ⟨c + 1, r, by go_num, rfl, by omega, by omega, hs3, HC.out.yes' hO HA.out HB.out hc1 hc2 u1 u3 (by omega) (by omega) HL.out, S2⟩
          case measure => simp [intOf]; omega
      · obtain rfl : r = s := by omega
        have hltz : ¬ (r : Int) < (r : Int) := by omega
        obtain ⟨e, hee⟩ : ∃ e : Nat, e = q + m - r := ⟨_, rfl⟩
        have hez : (q : Int) + (m : Int) - (r : Int) = (e : Int) := by omega
        have hee2 : e + r = q + m := by have := HQ.out; have := H0.out; omega
        have hbd : a ≤ r ∧ r ≤ m ∧ r ≤ q ∧ m ≤ e ∧ q ≤ e ∧ e ≤ b := by have := HQ.out; have := H0.out; omega
        obtain ⟨g1, g2, g3, g4, g5, g6⟩ := hbd
        have HV : Aside (∀ d' : Array α, (∀ t, d'[t]! = ro r m e (fun t => d[t]!) t) → Halves (ltOf cf) a r q e b d') := fun d' hv => by
          rw [hee] at hv ⊢
          exact (halves hO (by omega) (by omega) HA.out HB.out q s0 r0 r HQ.out H0.out (by rw [show q + m - 1 = pp by omega]; exact HC.out) hv).1
        clear hee HC
        by_cases k0 : r < q
        · by_cases k2 : a < r
          · by_cases k4 : e < b
            · have za1 : (r : Int) < (m : Int) := by omega
              have za2 : (m : Int) < (e : Int) := by omega
              have zb1 : (a : Int) < (r : Int) := by omega
              have zb2 : (r : Int) < (q : Int) := by omega
              have zc1 : (q : Int) < (e : Int) := by omega
              have zc2 : (e : Int) < (b : Int) := by omega
              go_wp2_with fail
              refine (rotate_any enc k HK.out g cb cf blk off cap size r m e a b d w0 _ R hs S1.out g1 (by omega) (by omega) g6 hb hsz).mono ?_
              rintro e1 w1 ⟨rfl, d1, M1, S2⟩
              have SS2 : Aside (SB enc k w0 blk off d1 w1) := S2
              have P1 : Aside (PermIn a b d d1) := M1.perm
              have HH : Aside (Halves (ltOf cf) a r q e b d1) := HV.out d1 M1.val
              have hd1 : d1.size = size := M1.size.trans hs
              clear S2 M1 S1 HV
              go_wp2_with fail
              refine (IH a r q d1 _ (by omega) hd1 SS2.out (by omega) (by omega) (by omega) HH.out.l1 HH.out.l2).mono ?_
              rintro e1 w2 ⟨rfl, d2, M1, M2, S3⟩
              have SS3 : Aside (SB enc k w0 blk off d2 w2) := S3
              have P2 : Aside (PermIn a q d1 d2) := M1
              have SO2 : Aside (SortedIn (ltOf cf) a q d2) := M2
              have hd2 : d2.size = size := M1.1.trans hd1
              clear S3 M1 M2 SS2
              have fin : ∀ d3, PermIn q b d2 d3 → SortedIn (ltOf cf) q b d3 → PermIn a b d d3 ∧ SortedIn (ltOf cf) a b d3 := fun d3 p s => by
                have z := halves_done HH.out (by omega) (by omega) (by omega) P2.out SO2.out p s
                exact ⟨permIn_trans _ _ _ _ _ P1.out z.1, z.2⟩
              have FIN : Aside _ := fin
              clear fin
              go_wp2_with fail
              refine (IH q e b d2 _ (by omega) hd2 SS3.out (by omega) (by omega) hb (sorted_keep HH.out.r1 P2.out (Or.inr (Nat.le_refl _))) (sorted_keep HH.out.r2 P2.out (Or.inr (by omega)))).mono ?_
              rintro e1 w3 ⟨rfl, d3, M1, M2, S4⟩
              have SS4 : Aside (SB enc k w0 blk off d3 w3) := S4
              have MM : Aside _ := FIN.out d3 M1 M2
              clear S4 M1 M2 FIN
              go_wp2_with fail
              go_end0
              exact ⟨rfl, d3, MM.out.1, MM.out.2, SS4.out⟩
            · have za1 : (r : Int) < (m : Int) := by omega
              have za2 : (m : Int) < (e : Int) := by omega
              have zb1 : (a : Int) < (r : Int) := by omega
              have zb2 : (r : Int) < (q : Int) := by omega
              have zc1 : (q : Int) < (e : Int) := by omega
              have zc2 : ¬ (e : Int) < (b : Int) := by omega
              go_wp2_with fail
              refine (rotate_any enc k HK.out g cb cf blk off cap size r m e a b d w0 _ R hs S1.out g1 (by omega) (by omega) g6 hb hsz).mono ?_
              rintro e1 w1 ⟨rfl, d1, M1, S2⟩
              have SS2 : Aside (SB enc k w0 blk off d1 w1) := S2
              have P1 : Aside (PermIn a b d d1) := M1.perm
              have HH : Aside (Halves (ltOf cf) a r q e b d1) := HV.out d1 M1.val
              have hd1 : d1.size = size := M1.size.trans hs
              clear S2 M1 S1 HV
              go_wp2_with fail
              refine (IH a r q d1 _ (by omega) hd1 SS2.out (by omega) (by omega) (by omega) HH.out.l1 HH.out.l2).mono ?_
              rintro e1 w2 ⟨rfl, d2, M1, M2, S3⟩
              have SS3 : Aside (SB enc k w0 blk off d2 w2) := S3
              have P2 : Aside (PermIn a q d1 d2) := M1
              have SO2 : Aside (SortedIn (ltOf cf) a q d2) := M2
              have hd2 : d2.size = size := M1.1.trans hd1
              clear S3 M1 M2 SS2
              have fin : ∀ d3, PermIn q b d2 d3 → SortedIn (ltOf cf) q b d3 → PermIn a b d d3 ∧ SortedIn (ltOf cf) a b d3 := fun d3 p s => by
                have z := halves_done HH.out (by omega) (by omega) (by omega) P2.out SO2.out p s
                exact ⟨permIn_trans _ _ _ _ _ P1.out z.1, z.2⟩
              have FIN : Aside _ := fin
              clear fin
              have MM : Aside _ := FIN.out d2 (permIn_refl _ _ _) (by have h := sorted_keep HH.out.r1 P2.out (Or.inr (by omega)); rw [show e = b by omega] at h; exact h)
              clear FIN
              go_wp2_with fail
              go_end0
              exact ⟨rfl, d2, MM.out.1, MM.out.2, SS3.out⟩
          · by_cases k4 : e < b
            · have za1 : (r : Int) < (m : Int) := by omega
              have za2 : (m : Int) < (e : Int) := by omega
              have zb1 : ¬ (a : Int) < (r : Int) := by omega
              have zc1 : (q : Int) < (e : Int) := by omega
              have zc2 : (e : Int) < (b : Int) := by omega
              go_wp2_with fail
              refine (rotate_any enc k HK.out g cb cf blk off cap size r m e a b d w0 _ R hs S1.out g1 (by omega) (by omega) g6 hb hsz).mono ?_
              rintro e1 w1 ⟨rfl, d1, M1, S2⟩
              have SS2 : Aside (SB enc k w0 blk off d1 w1) := S2
              have P1 : Aside (PermIn a b d d1) := M1.perm
              have HH : Aside (Halves (ltOf cf) a r q e b d1) := HV.out d1 M1.val
              have hd1 : d1.size = size := M1.size.trans hs
              clear S2 M1 S1 HV
              have SS3 : Aside (SB enc k w0 blk off d1 _) := SS2.out
              have P2 : Aside (PermIn a q d1 d1) := permIn_refl _ _ _
              have SO2 : Aside (SortedIn (ltOf cf) a q d1) := (by have h := HH.out.l2; rw [show r = a by omega] at h; exact h : SortedIn (ltOf cf) a q d1)
              have hd2 : d1.size = size := hd1
              clear SS2
              have fin : ∀ d3, PermIn q b d1 d3 → SortedIn (ltOf cf) q b d3 → PermIn a b d d3 ∧ SortedIn (ltOf cf) a b d3 := fun d3 p s => by
                have z := halves_done HH.out (by omega) (by omega) (by omega) P2.out SO2.out p s
                exact ⟨permIn_trans _ _ _ _ _ P1.out z.1, z.2⟩
              have FIN : Aside _ := fin
              clear fin
              go_wp2_with fail
              refine (IH q e b d1 _ (by omega) hd2 SS3.out (by omega) (by omega) hb (sorted_keep HH.out.r1 P2.out (Or.inr (Nat.le_refl _))) (sorted_keep HH.out.r2 P2.out (Or.inr (by omega)))).mono ?_
              rintro e1 w3 ⟨rfl, d3, M1, M2, S4⟩
              have SS4 : Aside (SB enc k w0 blk off d3 w3) := S4
              have MM : Aside _ := FIN.out d3 M1 M2
              clear S4 M1 M2 FIN
              go_wp2_with fail
              go_end0
              exact ⟨rfl, d3, MM.out.1, MM.out.2, SS4.out⟩
            · have za1 : (r : Int) < (m : Int) := by omega
              have za2 : (m : Int) < (e : Int) := by omega
              have zb1 : ¬ (a : Int) < (r : Int) := by omega
              have zc1 : (q : Int) < (e : Int) := by omega
              have zc2 : ¬ (e : Int) < (b : Int) := by omega
              go_wp2_with fail
              refine (rotate_any enc k HK.out g cb cf blk off cap size r m e a b d w0 _ R hs S1.out g1 (by omega) (by omega) g6 hb hsz).mono ?_
              rintro e1 w1 ⟨rfl, d1, M1, S2⟩
              have SS2 : Aside (SB enc k w0 blk off d1 w1) := S2
              have P1 : Aside (PermIn a b d d1) := M1.perm
              have HH : Aside (Halves (ltOf cf) a r q e b d1) := HV.out d1 M1.val
              have hd1 : d1.size = size := M1.size.trans hs
              clear S2 M1 S1 HV
              have SS3 : Aside (SB enc k w0 blk off d1 _) := SS2.out
              have P2 : Aside (PermIn a q d1 d1) := permIn_refl _ _ _
              have SO2 : Aside (SortedIn (ltOf cf) a q d1) := (by have h := HH.out.l2; rw [show r = a by omega] at h; exact h : SortedIn (ltOf cf) a q d1)
              have hd2 : d1.size = size := hd1
              clear SS2
              have fin : ∀ d3, PermIn q b d1 d3 → SortedIn (ltOf cf) q b d3 → PermIn a b d d3 ∧ SortedIn (ltOf cf) a b d3 := fun d3 p s => by
                have z := halves_done HH.out (by omega) (by omega) (by omega) P2.out SO2.out p s
                exact ⟨permIn_trans _ _ _ _ _ P1.out z.1, z.2⟩
              have FIN : Aside _ := fin
              clear fin
              have MM : Aside _ := FIN.out d1 (permIn_refl _ _ _) (by have h := sorted_keep HH.out.r1 P2.out (Or.inr (by omega)); rw [show e = b by omega] at h; exact h)
              clear FIN
              go_wp2_with fail
              go_end0
              exact ⟨rfl, d1, MM.out.1, MM.out.2, SS3.out⟩
        · by_cases k2 : a < r
          · have za1 : (r : Int) < (m : Int) := by omega
            have za2 : ¬ (m : Int) < (e : Int) := by omega
            have zb1 : (a : Int) < (r : Int) := by omega
            have zb2 : ¬ (r : Int) < (q : Int) := by omega
            have zc1 : (q : Int) < (e : Int) := by omega
            have zc2 : (e : Int) < (b : Int) := by omega
            have SS2 : Aside (SB enc k w0 blk off d wr) := S1
            have P1 : Aside (PermIn a b d d) := permIn_refl _ _ _
            have HH : Aside (Halves (ltOf cf) a r q e b d) := HV.out d (fun t => by rw [ro_id r m e _ (Or.inr (by omega)) g2 g4])
            have hd1 : d.size = size := hs
            clear S1 HV
            have SS3 : Aside (SB enc k w0 blk off d _) := SS2.out
            have P2 : Aside (PermIn a q d d) := permIn_refl _ _ _
            have SO2 : Aside (SortedIn (ltOf cf) a q d) := (by have h := HH.out.l1; rw [show r = q by omega] at h; exact h : SortedIn (ltOf cf) a q d)
            have hd2 : d.size = size := hd1
            clear SS2
            have fin : ∀ d3, PermIn q b d d3 → SortedIn (ltOf cf) q b d3 → PermIn a b d d3 ∧ SortedIn (ltOf cf) a b d3 := fun d3 p s => by
              have z := halves_done HH.out (by omega) (by omega) (by omega) P2.out SO2.out p s
              exact ⟨permIn_trans _ _ _ _ _ P1.out z.1, z.2⟩
            have FIN : Aside _ := fin
            clear fin
            go_wp2_with fail
            refine (IH q e b d _ (by omega) hd2 SS3.out (by omega) (by omega) hb (sorted_keep HH.out.r1 P2.out (Or.inr (Nat.le_refl _))) (sorted_keep HH.out.r2 P2.out (Or.inr (by omega)))).mono ?_
            rintro e1 w3 ⟨rfl, d3, M1, M2, S4⟩
            have SS4 : Aside (SB enc k w0 blk off d3 w3) := S4
            have MM : Aside _ := FIN.out d3 M1 M2
            clear S4 M1 M2 FIN
            go_wp2_with fail
            go_end0
            exact ⟨rfl, d3, MM.out.1, MM.out.2, SS4.out⟩
          · have za1 : (r : Int) < (m : Int) := by omega
            have za2 : ¬ (m : Int) < (e : Int) := by omega
            have zb1 : ¬ (a : Int) < (r : Int) := by omega
            have zc1 : (q : Int) < (e : Int) := by omega
            have zc2 : (e : Int) < (b : Int) := by omega
            have SS2 : Aside (SB enc k w0 blk off d wr) := S1
            have P1 : Aside (PermIn a b d d) := permIn_refl _ _ _
            have HH : Aside (Halves (ltOf cf) a r q e b d) := HV.out d (fun t => by rw [ro_id r m e _ (Or.inr (by omega)) g2 g4])
            have hd1 : d.size = size := hs
            clear S1 HV
            have SS3 : Aside (SB enc k w0 blk off d _) := SS2.out
            have P2 : Aside (PermIn a q d d) := permIn_refl _ _ _
            have SO2 : Aside (SortedIn (ltOf cf) a q d) := (by have h := HH.out.l2; rw [show r = a by omega] at h; exact h : SortedIn (ltOf cf) a q d)
            have hd2 : d.size = size := hd1
            clear SS2
            have fin : ∀ d3, PermIn q b d d3 → SortedIn (ltOf cf) q b d3 → PermIn a b d d3 ∧ SortedIn (ltOf cf) a b d3 := fun d3 p s => by
              have z := halves_done HH.out (by omega) (by omega) (by omega) P2.out SO2.out p s
              exact ⟨permIn_trans _ _ _ _ _ P1.out z.1, z.2⟩
            have FIN : Aside _ := fin
            clear fin
            go_wp2_with fail
            refine (IH q e b d _ (by omega) hd2 SS3.out (by omega) (by omega) hb (sorted_keep HH.out.r1 P2.out (Or.inr (Nat.le_refl _))) (sorted_keep HH.out.r2 P2.out (Or.inr (by omega)))).mono ?_
            rintro e1 w3 ⟨rfl, d3, M1, M2, S4⟩
            have SS4 : Aside (SB enc k w0 blk off d3 w3) := S4
            have MM : Aside _ := FIN.out d3 M1 M2
            clear S4 M1 M2 FIN
            go_wp2_with fail
            go_end0
            exact ⟨rfl, d3, MM.out.1, MM.out.2, SS4.out⟩
  · have hqz : ¬ (q : Int) < (m : Int) := by omega
    have HSA : Hid (s0 = a ∧ r0 = m) := by show _ ∧ _; omega
    clear h0
    go_enter Tryz.func166, Tryz.ntmps166
    go_wp2_with fail
    go_loopw [20, 21] (fun vi vj wr => ∃ (s r : Nat), vi = .int .i64 s ∧ vj = .int .i64 r ∧ s0 ≤ s ∧ s ≤ r ∧ r ≤ r0 ∧ Aside (Cut (ltOf cf) d s0 r0 pp s r) ∧ Aside (SB enc k w0 blk off d wr)) (fun vi vj _ => (intOf vj).toNat - (intOf vi).toNat)
    case atStart => exact ⟨s0, r0, by rw [HSA.out.1], by rw [HSA.out.2], Nat.le_refl _, u2, Nat.le_refl _, Cut.start u2, S0⟩
    case round =>
      clear S0
      obtain ⟨s, r, rfl, rfl, hs1, hs2, hs3, HC, S1⟩ := hrel
      by_cases hlt : s < r
      · have hltz : (s : Int) < (r : Int) := by omega
        obtain ⟨c, hc⟩ : ∃ c : Nat, c = (s + r) / 2 := ⟨_, rfl⟩
        have hc1 : s ≤ c := by omega
        have hc2 : c < r := by omega
        have hce : ((s : Int) + (r : Int)) / 2 = (c : Int) := by omega
        have hpc : (pp : Int) - (c : Int) = ((pp - c : Nat) : Int) := by omega
        clear hc
        cases hl : ltOf cf d[pp - c]! d[c]! with
        | true =>
          have HL : Aside _ := hl
          clear hl
          go_wp2_with fail
          have ea1 : (((pp - c : Nat) : Int)).toNat = pp - c := by omega
          have pa1 : (0 : Int) ≤ ((pp - c : Nat) : Int) := by omega
          have ba1 : ((pp - c : Nat) : Int) < (size : Int) := by omega
          have ra1 : IntKind.i64.wrap (((pp - c : Nat) : Int)) = ((pp - c : Nat) : Int) := by rw [IntKind.wrap_i64]; omega
          have ec1 : ((c : Int)).toNat = c := by omega
          have pc1 : (0 : Int) ≤ (c : Int) := by omega
          have bc1 : (c : Int) < (size : Int) := by omega
          have rc1 : IntKind.i64.wrap ((c : Int)) = (c : Int) := by rw [IntKind.wrap_i64]; omega
          obtain ⟨x1, hx1⟩ : ∃ x, d[pp - c]! = x := ⟨_, rfl⟩
          obtain ⟨y1, hy1⟩ : ∃ x, d[c]! = x := ⟨_, rfl⟩
          have la1 := S1.out.ld R (pp - c) (by omega)
          have lb1 := S1.out.ld R (c) (by omega)
          rw [hx1] at la1
          rw [hy1] at lb1
          have hc1 := S1.out.cmp R (by omega) x1 y1
          have hv1 : cf x1 y1 < 0 := by have q := HL.out; rw [hx1, hy1] at q; exact of_decide_eq_true q
          have hd1 : decide (cf x1 y1 < 0) = true := decide_eq_true hv1
          clear hx1 hy1
          go_wp2_with fail
          refine wp_region_below (by kernel_rfl) (by kernel_rfl) ?_
          repeat (quiet_step ((go_at_fn g; exact hc1 _)))
          refine wpQuiet_nil ?_
          intro _ hw'
          obtain ⟨pq, hw''⟩ := hw'
          subst hw''
          have S2 : Aside (SB enc k w0 blk off d pq.world) := S1.out.bw R.hblk pq
          clear la1 lb1 hc1 S1 hd1 hv1
          generalize pq.world = wq at S2 ⊢
          clear pq
          go_wp2
          go_roundw
          case rel => exact ⟨s, c, rfl, rfl, hs1, hc1, by omega, HC.out.no' hO HA.out HB.out hc1 hc2 u1 u3 (by omega) (by omega) HL.out, S2⟩
          case measure => simp [intOf]; omega
        | false =>
          have HL : Aside _ := hl
          clear hl
          go_wp2_with fail
          have ea1 : (((pp - c : Nat) : Int)).toNat = pp - c := by omega
          have pa1 : (0 : Int) ≤ ((pp - c : Nat) : Int) := by omega
          have ba1 : ((pp - c : Nat) : Int) < (size : Int) := by omega
          have ra1 : IntKind.i64.wrap (((pp - c : Nat) : Int)) = ((pp - c : Nat) : Int) := by rw [IntKind.wrap_i64]; omega
          have ec1 : ((c : Int)).toNat = c := by omega
          have pc1 : (0 : Int) ≤ (c : Int) := by omega
          have bc1 : (c : Int) < (size : Int) := by omega
          have rc1 : IntKind.i64.wrap ((c : Int)) = (c : Int) := by rw [IntKind.wrap_i64]; omega
          obtain ⟨x1, hx1⟩ : ∃ x, d[pp - c]! = x := ⟨_, rfl⟩
          obtain ⟨y1, hy1⟩ : ∃ x, d[c]! = x := ⟨_, rfl⟩
          have la1 := S1.out.ld R (pp - c) (by omega)
          have lb1 := S1.out.ld R (c) (by omega)
          rw [hx1] at la1
          rw [hy1] at lb1
          have hc1 := S1.out.cmp R (by omega) x1 y1
          have hv1 : ¬ cf x1 y1 < 0 := by have q := HL.out; rw [hx1, hy1] at q; exact of_decide_eq_false q
          have hd1 : decide (cf x1 y1 < 0) = false := decide_eq_false hv1
          clear hx1 hy1
          go_wp2_with fail
          refine wp_region_below (by kernel_rfl) (by kernel_rfl) ?_
          repeat (quiet_step ((go_at_fn g; exact hc1 _)))
          refine wpQuiet_nil ?_
          intro _ hw'
          obtain ⟨pq, hw''⟩ := hw'
          subst hw''
          have S2 : Aside (SB enc k w0 blk off d pq.world) := S1.out.bw R.hblk pq
          clear la1 lb1 hc1 S1 hd1 hv1
          generalize pq.world = wq at S2 ⊢
          clear pq
          go_wp2
          go_roundw
          case rel => exact ⟨c + 1, r, by go_num, rfl, by omega, by omega, hs3, HC.out.yes' hO HA.out HB.out hc1 hc2 u1 u3 (by omega) (by omega) HL.out, S2⟩
          case measure => simp [intOf]; omega
      · obtain rfl : r = s := by omega
        have hltz : ¬ (r : Int) < (r : Int) := by omega
        obtain ⟨e, hee⟩ : ∃ e : Nat, e = q + m - r := ⟨_, rfl⟩
        have hez : (q : Int) + (m : Int) - (r : Int) = (e : Int) := by omega
        have hee2 : e + r = q + m := by have := HQ.out; have := H0.out; omega
        have hbd : a ≤ r ∧ r ≤ m ∧ r ≤ q ∧ m ≤ e ∧ q ≤ e ∧ e ≤ b := by have := HQ.out; have := H0.out; omega
        obtain ⟨g1, g2, g3, g4, g5, g6⟩ := hbd
        have HV : Aside (∀ d' : Array α, (∀ t, d'[t]! = ro r m e (fun t => d[t]!) t) → Halves (ltOf cf) a r q e b d') := fun d' hv => by
          rw [hee] at hv ⊢
          exact (halves hO (by omega) (by omega) HA.out HB.out q s0 r0 r HQ.out H0.out (by rw [show q + m - 1 = pp by omega]; exact HC.out) hv).1
        clear hee HC
        by_cases k0 : r < m
        · by_cases k2 : a < r
          · by_cases k4 : e < b
            · have za1 : (r : Int) < (m : Int) := by omega
              have za2 : (m : Int) < (e : Int) := by omega
              have zb1 : (a : Int) < (r : Int) := by omega
              have zb2 : (r : Int) < (q : Int) := by omega
              have zc1 : (q : Int) < (e : Int) := by omega
              have zc2 : (e : Int) < (b : Int) := by omega
              go_wp2_with fail
              refine (rotate_any enc k HK.out g cb cf blk off cap size r m e a b d w0 _ R hs S1.out g1 (by omega) (by omega) g6 hb hsz).mono ?_
              rintro e1 w1 ⟨rfl, d1, M1, S2⟩
              have SS2 : Aside (SB enc k w0 blk off d1 w1) := S2
              have P1 : Aside (PermIn a b d d1) := M1.perm
              have HH : Aside (Halves (ltOf cf) a r q e b d1) := HV.out d1 M1.val
              have hd1 : d1.size = size := M1.size.trans hs
              clear S2 M1 S1 HV
              go_wp2_with fail
              refine (IH a r q d1 _ (by omega) hd1 SS2.out (by omega) (by omega) (by omega) HH.out.l1 HH.out.l2).mono ?_
              rintro e1 w2 ⟨rfl, d2, M1, M2, S3⟩
              have SS3 : Aside (SB enc k w0 blk off d2 w2) := S3
              have P2 : Aside (PermIn a q d1 d2) := M1
              have SO2 : Aside (SortedIn (ltOf cf) a q d2) := M2
              have hd2 : d2.size = size := M1.1.trans hd1
              clear S3 M1 M2 SS2
              have fin : ∀ d3, PermIn q b d2 d3 → SortedIn (ltOf cf) q b d3 → PermIn a b d d3 ∧ SortedIn (ltOf cf) a b d3 := fun d3 p s => by
                have z := halves_done HH.out (by omega) (by omega) (by omega) P2.out SO2.out p s
                exact ⟨permIn_trans _ _ _ _ _ P1.out z.1, z.2⟩
              have FIN : Aside _ := fin
              clear fin
              go_wp2_with fail
              refine (IH q e b d2 _ (by omega) hd2 SS3.out (by omega) (by omega) hb (sorted_keep HH.out.r1 P2.out (Or.inr (Nat.le_refl _))) (sorted_keep HH.out.r2 P2.out (Or.inr (by omega)))).mono ?_
              rintro e1 w3 ⟨rfl, d3, M1, M2, S4⟩
              have SS4 : Aside (SB enc k w0 blk off d3 w3) := S4
              have MM : Aside _ := FIN.out d3 M1 M2
              clear S4 M1 M2 FIN
              go_wp2_with fail
              go_end0
              exact ⟨rfl, d3, MM.out.1, MM.out.2, SS4.out⟩
            · have za1 : (r : Int) < (m : Int) := by omega
              have za2 : (m : Int) < (e : Int) := by omega
              have zb1 : (a : Int) < (r : Int) := by omega
              have zb2 : (r : Int) < (q : Int) := by omega
              have zc1 : (q : Int) < (e : Int) := by omega
              have zc2 : ¬ (e : Int) < (b : Int) := by omega
              go_wp2_with fail
              refine (rotate_any enc k HK.out g cb cf blk off cap size r m e a b d w0 _ R hs S1.out g1 (by omega) (by omega) g6 hb hsz).mono ?_
              rintro e1 w1 ⟨rfl, d1, M1, S2⟩
              have SS2 : Aside (SB enc k w0 blk off d1 w1) := S2
              have P1 : Aside (PermIn a b d d1) := M1.perm
              have HH : Aside (Halves (ltOf cf) a r q e b d1) := HV.out d1 M1.val
              have hd1 : d1.size = size := M1.size.trans hs
              clear S2 M1 S1 HV
              go_wp2_with fail
              refine (IH a r q d1 _ (by omega) hd1 SS2.out (by omega) (by omega) (by omega) HH.out.l1 HH.out.l2).mono ?_
              rintro e1 w2 ⟨rfl, d2, M1, M2, S3⟩
              have SS3 : Aside (SB enc k w0 blk off d2 w2) := S3
              have P2 : Aside (PermIn a q d1 d2) := M1
              have SO2 : Aside (SortedIn (ltOf cf) a q d2) := M2
              have hd2 : d2.size = size := M1.1.trans hd1
              clear S3 M1 M2 SS2
              have fin : ∀ d3, PermIn q b d2 d3 → SortedIn (ltOf cf) q b d3 → PermIn a b d d3 ∧ SortedIn (ltOf cf) a b d3 := fun d3 p s => by
                have z := halves_done HH.out (by omega) (by omega) (by omega) P2.out SO2.out p s
                exact ⟨permIn_trans _ _ _ _ _ P1.out z.1, z.2⟩
              have FIN : Aside _ := fin
              clear fin
              have MM : Aside _ := FIN.out d2 (permIn_refl _ _ _) (by have h := sorted_keep HH.out.r1 P2.out (Or.inr (by omega)); rw [show e = b by omega] at h; exact h)
              clear FIN
              go_wp2_with fail
              go_end0
              exact ⟨rfl, d2, MM.out.1, MM.out.2, SS3.out⟩
          · by_cases k4 : e < b
            · have za1 : (r : Int) < (m : Int) := by omega
              have za2 : (m : Int) < (e : Int) := by omega
              have zb1 : ¬ (a : Int) < (r : Int) := by omega
              have zc1 : (q : Int) < (e : Int) := by omega
              have zc2 : (e : Int) < (b : Int) := by omega
              go_wp2_with fail
              refine (rotate_any enc k HK.out g cb cf blk off cap size r m e a b d w0 _ R hs S1.out g1 (by omega) (by omega) g6 hb hsz).mono ?_
              rintro e1 w1 ⟨rfl, d1, M1, S2⟩
              have SS2 : Aside (SB enc k w0 blk off d1 w1) := S2
              have P1 : Aside (PermIn a b d d1) := M1.perm
              have HH : Aside (Halves (ltOf cf) a r q e b d1) := HV.out d1 M1.val
              have hd1 : d1.size = size := M1.size.trans hs
              clear S2 M1 S1 HV
              have SS3 : Aside (SB enc k w0 blk off d1 _) := SS2.out
              have P2 : Aside (PermIn a q d1 d1) := permIn_refl _ _ _
              have SO2 : Aside (SortedIn (ltOf cf) a q d1) := (by have h := HH.out.l2; rw [show r = a by omega] at h; exact h : SortedIn (ltOf cf) a q d1)
              have hd2 : d1.size = size := hd1
              clear SS2
              have fin : ∀ d3, PermIn q b d1 d3 → SortedIn (ltOf cf) q b d3 → PermIn a b d d3 ∧ SortedIn (ltOf cf) a b d3 := fun d3 p s => by
                have z := halves_done HH.out (by omega) (by omega) (by omega) P2.out SO2.out p s
                exact ⟨permIn_trans _ _ _ _ _ P1.out z.1, z.2⟩
              have FIN : Aside _ := fin
              clear fin
              go_wp2_with fail
              refine (IH q e b d1 _ (by omega) hd2 SS3.out (by omega) (by omega) hb (sorted_keep HH.out.r1 P2.out (Or.inr (Nat.le_refl _))) (sorted_keep HH.out.r2 P2.out (Or.inr (by omega)))).mono ?_
              rintro e1 w3 ⟨rfl, d3, M1, M2, S4⟩
              have SS4 : Aside (SB enc k w0 blk off d3 w3) := S4
              have MM : Aside _ := FIN.out d3 M1 M2
              clear S4 M1 M2 FIN
              go_wp2_with fail
              go_end0
              exact ⟨rfl, d3, MM.out.1, MM.out.2, SS4.out⟩
            · have za1 : (r : Int) < (m : Int) := by omega
              have za2 : (m : Int) < (e : Int) := by omega
              have zb1 : ¬ (a : Int) < (r : Int) := by omega
              have zc1 : (q : Int) < (e : Int) := by omega
              have zc2 : ¬ (e : Int) < (b : Int) := by omega
              go_wp2_with fail
              refine (rotate_any enc k HK.out g cb cf blk off cap size r m e a b d w0 _ R hs S1.out g1 (by omega) (by omega) g6 hb hsz).mono ?_
              rintro e1 w1 ⟨rfl, d1, M1, S2⟩
              have SS2 : Aside (SB enc k w0 blk off d1 w1) := S2
              have P1 : Aside (PermIn a b d d1) := M1.perm
              have HH : Aside (Halves (ltOf cf) a r q e b d1) := HV.out d1 M1.val
              have hd1 : d1.size = size := M1.size.trans hs
              clear S2 M1 S1 HV
              have SS3 : Aside (SB enc k w0 blk off d1 _) := SS2.out
              have P2 : Aside (PermIn a q d1 d1) := permIn_refl _ _ _
              have SO2 : Aside (SortedIn (ltOf cf) a q d1) := (by have h := HH.out.l2; rw [show r = a by omega] at h; exact h : SortedIn (ltOf cf) a q d1)
              have hd2 : d1.size = size := hd1
              clear SS2
              have fin : ∀ d3, PermIn q b d1 d3 → SortedIn (ltOf cf) q b d3 → PermIn a b d d3 ∧ SortedIn (ltOf cf) a b d3 := fun d3 p s => by
                have z := halves_done HH.out (by omega) (by omega) (by omega) P2.out SO2.out p s
                exact ⟨permIn_trans _ _ _ _ _ P1.out z.1, z.2⟩
              have FIN : Aside _ := fin
              clear fin
              have MM : Aside _ := FIN.out d1 (permIn_refl _ _ _) (by have h := sorted_keep HH.out.r1 P2.out (Or.inr (by omega)); rw [show e = b by omega] at h; exact h)
              clear FIN
              go_wp2_with fail
              go_end0
              exact ⟨rfl, d1, MM.out.1, MM.out.2, SS3.out⟩
        · by_cases k2 : r < q
          · have za1 : ¬ (r : Int) < (m : Int) := by omega
            have zb1 : (a : Int) < (r : Int) := by omega
            have zb2 : (r : Int) < (q : Int) := by omega
            have zc1 : ¬ (q : Int) < (e : Int) := by omega
            have SS2 : Aside (SB enc k w0 blk off d wr) := S1
            have P1 : Aside (PermIn a b d d) := permIn_refl _ _ _
            have HH : Aside (Halves (ltOf cf) a r q e b d) := HV.out d (fun t => by rw [ro_id r m e _ (Or.inl (by omega)) g2 g4])
            have hd1 : d.size = size := hs
            clear S1 HV
            go_wp2_with fail
            refine (IH a r q d _ (by omega) hd1 SS2.out (by omega) (by omega) (by omega) HH.out.l1 HH.out.l2).mono ?_
            rintro e1 w2 ⟨rfl, d2, M1, M2, S3⟩
            have SS3 : Aside (SB enc k w0 blk off d2 w2) := S3
            have P2 : Aside (PermIn a q d d2) := M1
            have SO2 : Aside (SortedIn (ltOf cf) a q d2) := M2
            have hd2 : d2.size = size := M1.1.trans hd1
            clear S3 M1 M2 SS2
            have fin : ∀ d3, PermIn q b d2 d3 → SortedIn (ltOf cf) q b d3 → PermIn a b d d3 ∧ SortedIn (ltOf cf) a b d3 := fun d3 p s => by
              have z := halves_done HH.out (by omega) (by omega) (by omega) P2.out SO2.out p s
              exact ⟨permIn_trans _ _ _ _ _ P1.out z.1, z.2⟩
            have FIN : Aside _ := fin
            clear fin
            have MM : Aside _ := FIN.out d2 (permIn_refl _ _ _) (by have h := sorted_keep HH.out.r2 P2.out (Or.inr (by omega)); rw [show e = q by omega] at h; exact h)
            clear FIN
            go_wp2_with fail
            go_end0
            exact ⟨rfl, d2, MM.out.1, MM.out.2, SS3.out⟩
          · have za1 : ¬ (r : Int) < (m : Int) := by omega
            have zb1 : (a : Int) < (r : Int) := by omega
            have zb2 : ¬ (r : Int) < (q : Int) := by omega
            have zc1 : ¬ (q : Int) < (e : Int) := by omega
            have SS2 : Aside (SB enc k w0 blk off d wr) := S1
            have P1 : Aside (PermIn a b d d) := permIn_refl _ _ _
            have HH : Aside (Halves (ltOf cf) a r q e b d) := HV.out d (fun t => by rw [ro_id r m e _ (Or.inl (by omega)) g2 g4])
            have hd1 : d.size = size := hs
            clear S1 HV
            have SS3 : Aside (SB enc k w0 blk off d _) := SS2.out
            have P2 : Aside (PermIn a q d d) := permIn_refl _ _ _
            have SO2 : Aside (SortedIn (ltOf cf) a q d) := (by have h := HH.out.l1; rw [show r = q by omega] at h; exact h : SortedIn (ltOf cf) a q d)
            have hd2 : d.size = size := hd1
            clear SS2
            have fin : ∀ d3, PermIn q b d d3 → SortedIn (ltOf cf) q b d3 → PermIn a b d d3 ∧ SortedIn (ltOf cf) a b d3 := fun d3 p s => by
              have z := halves_done HH.out (by omega) (by omega) (by omega) P2.out SO2.out p s
              exact ⟨permIn_trans _ _ _ _ _ P1.out z.1, z.2⟩
            have FIN : Aside _ := fin
            clear fin
            have MM : Aside _ := FIN.out d (permIn_refl _ _ _) (by have h := sorted_keep HH.out.r2 P2.out (Or.inr (by omega)); rw [show e = q by omega] at h; exact h)
            clear FIN
            go_wp2_with fail
            go_end0
            exact ⟨rfl, d, MM.out.1, MM.out.2, SS3.out⟩

end Go.Proofs.YthhbbmebfmfgjaaGreatDoor

/-! Go's stable sort, whole. -/
namespace Go.Proofs.YthhbbmebfmfgjaaGreatDoor
open Go.RowKit Go.Sort Stb
variable {α : Type} [Inhabited α]

theorem symMerge_all (enc : α → List Value) (k : Nat) (hk2 : k = 2) (g : Nat) (cb : Array Value) (cf : α → α → Int) (hO : SWO (ltOf cf)) (blk off cap size : Nat) (w0 : World)
    (eg : ∀ args w, (callFunc g args).run Tryz.prog w = .ok (.enter g args) w)
    (R : RowB Tryz.prog enc k g cb cf w0 blk off size) (hsz : size < 4611686018427387904) : ∀ n, MergeTo enc k g cb cf blk off cap size w0 n
  | 0 => fun a m b d w h => by omega
  | n + 1 => fun a m b d w h hs S ham hmb hb hA hB => by
    by_cases h1 : m = a + 1
    · subst h1
      have c := symMerge_left enc k hk2 g cb cf hO blk off cap size a b d w0 w eg R hs S hmb hb hsz hB
      rw [show ((a + 1 : Nat) : Int) = (a : Int) + 1 by omega]
      exact c
    · by_cases h2 : b = m + 1
      · subst h2
        have c := symMerge_right enc k hk2 g cb cf hO blk off cap size a m d w0 w eg R hs S (by omega) hb hsz hA
        rw [show ((m + 1 : Nat) : Int) = (m : Int) + 1 by omega]
        exact c
      · exact symMerge_step enc k hk2 g cb cf hO blk off cap size a m b d w0 w eg R hs S (by omega) (by omega) hb hsz hA hB
          (fun a' m' b' d' w' h' => symMerge_all enc k hk2 g cb cf hO blk off cap size w0 eg R hsz n a' m' b' d' w' (by omega))

/-! the blocks -/
/-- the blocks of K elements that end at a or before are in order -/
def Ahead (lt : α → α → Bool) (K a : Nat) (d : Array α) : Prop := (∃ c, a = c * K) ∧ ∀ p, p * K + K ≤ a → SortedIn lt (p * K) (p * K + K) d
/-- the blocks of K elements that begin at a or behind are in order -/
def Rest (lt : α → α → Bool) (K a n : Nat) (d : Array α) : Prop := (∃ c, a = c * K) ∧ ∀ p, a ≤ p * K → SortedIn lt (p * K) (min (p * K + K) n) d

variable {lt : α → α → Bool}
theorem mul_cases (K c p : Nat) : p * K + K ≤ c * K ∨ p * K = c * K ∨ c * K + K ≤ p * K := by
  rcases Nat.lt_trichotomy p c with h | h | h
  · have := Nat.mul_le_mul_right K h; rw [Nat.succ_mul] at this; exact Or.inl this
  · exact Or.inr (Or.inl (by rw [h]))
  · have := Nat.mul_le_mul_right K h; rw [Nat.succ_mul] at this; exact Or.inr (Or.inr this)

theorem Ahead.start (K : Nat) (d : Array α) (hK : 0 < K) : Ahead lt K 0 d := ⟨⟨0, by simp⟩, fun p h => by omega⟩
theorem Ahead.step {K a : Nat} {d d' : Array α} (h : Ahead lt K a d) (hp : PermIn a (a + K) d d') (hs : SortedIn lt a (a + K) d') : Ahead lt K (a + K) d' := by
  obtain ⟨⟨c, rfl⟩, h2⟩ := h
  refine ⟨⟨c + 1, by rw [Nat.succ_mul]⟩, fun p hle => ?_⟩
  rcases mul_cases K c p with e | e | e
  · exact sorted_keep (h2 p e) hp (Or.inl e)
  · rw [e]; exact hs
  · exact sorted_trivial (by omega)
theorem Ahead.done {K a n : Nat} {d : Array α} (h : Ahead lt K a d) (han : n < a + K) (hs : SortedIn lt a n d) : Blocks lt K n d := by
  obtain ⟨⟨c, rfl⟩, h2⟩ := h
  intro p
  rcases mul_cases K c p with e | e | e
  · intro i j hi hij hj; exact h2 p e i j hi hij (by omega)
  · rw [e]; intro i j hi hij hj; exact hs i j hi hij (by omega)
  · exact sorted_trivial (by omega)
theorem Rest.start {K n : Nat} {d : Array α} (h : Blocks lt K n d) : Rest lt K 0 n d := ⟨⟨0, by simp⟩, fun p _ => h p⟩
theorem Rest.first {K a n : Nat} {d : Array α} (h : Rest lt K a n d) : SortedIn lt a (min (a + K) n) d := by
  obtain ⟨⟨c, rfl⟩, h2⟩ := h
  exact h2 c (Nat.le_refl _)
theorem Rest.second {K a n : Nat} {d : Array α} (h : Rest lt K a n d) : SortedIn lt (a + K) (min (a + 2 * K) n) d := by
  obtain ⟨⟨c, rfl⟩, h2⟩ := h
  have := h2 (c + 1) (by rw [Nat.succ_mul]; omega)
  rw [Nat.succ_mul] at this
  rw [show c * K + 2 * K = c * K + K + K by omega]
  exact this
theorem Rest.step {K a n : Nat} {d d' : Array α} (h : Rest lt K a n d) (hp : PermIn a (a + 2 * K) d d') : Rest lt K (a + 2 * K) n d' := by
  obtain ⟨⟨c, rfl⟩, h2⟩ := h
  exact ⟨⟨c + 2, by rw [Nat.add_mul]⟩, fun p hle => sorted_keep (h2 p (by omega)) hp (Or.inr hle)⟩

set_option maxRecDepth 1000000 in
set_option maxHeartbeats 4000000 in
theorem stable_any (enc : α → List Value) (k : Nat) (hk2 : k = 2) (g : Nat) (cb : Array Value) (cf : α → α → Int) (hO : SWO (ltOf cf)) (blk off cap size : Nat) (d : Array α) (w0 w : World)
    (eg : ∀ args w, (callFunc g args).run Tryz.prog w = .ok (.enter g args) w)
    (R : RowB Tryz.prog enc k g cb cf w0 blk off size) (hs : d.size = size) (S : SB enc k w0 blk off d w) (hsz : size < 1152921504606846976) :
    Calls Tryz.prog 127 #[.slice (some ⟨blk, off, none⟩) size cap, .int .i64 size, .func (.func g) #[] cb] w fun e w' =>
      e = .returned (.tuple #[]) ∧ ∃ d', PermIn 0 size d d' ∧ SortedIn (ltOf cf) 0 size d' ∧ SB enc k w0 blk off d' w' := by
  have S0 : Aside (SB enc k w0 blk off d w) := S
  have IH := symMerge_all enc k hk2 g cb cf hO blk off cap size w0 eg R (by omega) (size + 1)
  have HK : Hid (k = 2) := hk2
  clear S hk2
  go_enter Tryz.func127, Tryz.ntmps127
  go_wp2_with fail
  go_loopw [7, 8] (fun va vb wr => ∃ (a : Nat) (dk : Array α), va = .int .i64 a ∧ vb = .int .i64 (a + 20) ∧ a ≤ size ∧ dk.size = size ∧ Aside (PermIn 0 size d dk) ∧ Aside (Ahead (ltOf cf) 20 a dk) ∧ Aside (SB enc k w0 blk off dk wr)) (fun va _ _ => size - (intOf va).toNat)
  case atStart => exact ⟨0, d, rfl, rfl, Nat.zero_le _, hs, permIn_refl _ _ _, Ahead.start _ _ (by omega), S0⟩
  case round =>
    clear S0
    obtain ⟨a, dk, rfl, rfl, ha, hds, PM, AH, S1⟩ := hrel
    by_cases hlt : a + 20 ≤ size
    · have hltz : (a : Int) + 20 ≤ (size : Int) := by omega
      have C1 := insertion_any enc k HK.out g cb cf blk off cap size a (a + 20) dk w0 wr eg R hds S1.out (by omega) hlt (by omega)
      rw [show ((a + 20 : Nat) : Int) = (a : Int) + 20 by omega] at C1
      have CC : Aside _ := C1
      clear C1
      have hi := insertionSort_holds hO dk a (a + 20) (by omega) (by omega)
      have HI : Aside _ := hi
      clear hi
      go_wp2_with fail
      refine Go.Calls.mono CC.out ?_
      rintro e w1 ⟨rfl, S2⟩
      have SS2 : Aside _ := S2
      clear S2 S1 CC
      go_wp2
      go_roundw
      case rel => exact ⟨a + 20, _, by go_num, by first | rfl | go_num, by omega, HI.out.1.1.trans hds, permIn_trans _ _ _ _ _ PM.out (permIn_mono _ _ _ _ _ _ (Nat.zero_le _) hlt (by omega) HI.out.1), AH.out.step HI.out.1 HI.out.2, SS2⟩
      case measure => simp [intOf]; omega
    · have hltz : ¬ (a : Int) + 20 ≤ (size : Int) := by omega
      have C1 := insertion_any enc k HK.out g cb cf blk off cap size a size dk w0 wr eg R hds S1.out ha (Nat.le_refl _) (by omega)
      have CC : Aside _ := C1
      clear C1
      have hi := insertionSort_holds hO dk a size ha (by omega)
      have HI : Aside _ := hi
      clear hi
      go_wp2_with fail
      refine Go.Calls.mono CC.out ?_
      rintro e w1 ⟨rfl, S2⟩
      have SS2 : Aside _ := S2
      clear S2 S1 CC
      have BL : Aside (Blocks (ltOf cf) 20 size (Sort.insertionSort (ltOf cf) dk a size)) := by
        refine Ahead.done ⟨AH.out.1, fun p hp => sorted_keep (AH.out.2 p hp) HI.out.1 (Or.inl hp)⟩ (by omega) HI.out.2
      have PM1 : Aside (PermIn 0 size d (Sort.insertionSort (ltOf cf) dk a size)) := permIn_trans _ _ _ _ _ PM.out (permIn_mono _ _ _ _ _ _ (Nat.zero_le _) (Nat.le_refl _) (by omega) HI.out.1)
      generalize Sort.insertionSort (ltOf cf) dk a size = d1 at BL PM1 SS2 HI
      clear HI AH PM
      go_wp2_with fail
      go_loopw [6, 7, 8, 9] (fun vs _ _ _ wr => ∃ (bs : Nat) (dk : Array α), vs = .int .i64 bs ∧ 0 < bs ∧ (bs ≤ 20 ∨ bs ≤ 2 * size) ∧ dk.size = size ∧ Aside (PermIn 0 size d dk) ∧ Aside (Blocks (ltOf cf) bs size dk) ∧ Aside (SB enc k w0 blk off dk wr)) (fun vs _ _ _ _ => size - (intOf vs).toNat)
      case atStart => exact ⟨20, d1, rfl, by omega, Or.inl (Nat.le_refl _), PM1.out.1.trans hs, PM1, BL, SS2⟩
      case round =>
        clear SS2 BL PM1
        obtain ⟨bs, dk, rfl, hb0, hb1, hds, PM, BL, S1⟩ := hrel
        by_cases hbn : bs < size
        · have hbz : (bs : Int) < (size : Int) := by omega
          go_wp2_with fail
          go_loopw [7, 8] (fun va vb wr => ∃ (a : Nat) (dk : Array α), va = .int .i64 a ∧ vb = .int .i64 (a + 2 * bs) ∧ a ≤ size ∧ dk.size = size ∧ Aside (PermIn 0 size d dk) ∧ Aside (Ahead (ltOf cf) (2 * bs) a dk) ∧ Aside (Rest (ltOf cf) bs a size dk) ∧ Aside (SB enc k w0 blk off dk wr)) (fun va _ _ => size - (intOf va).toNat)
          case atStart => exact ⟨0, dk, rfl, by first | rfl | go_num | (congr 1; omega), Nat.zero_le _, hds, PM, Ahead.start _ _ (by omega), Rest.start BL.out, S1⟩
          case round =>
            clear S1 BL PM
            obtain ⟨a, dj, rfl, rfl, ha, hdj, PM, AH, RE, S1⟩ := hrel
            by_cases hlt : a + 2 * bs ≤ size
            · have hltz : (a : Int) + 2 * (bs : Int) ≤ (size : Int) := by omega
              have C1 := IH a (a + bs) (a + 2 * bs) dj _ (by omega) hdj S1.out (by omega) (by omega) hlt (by have h := RE.out.first; rw [show min (a + bs) size = a + bs by omega] at h; exact h) (by have h := RE.out.second; rw [show min (a + 2 * bs) size = a + 2 * bs by omega] at h; exact h)
              rw [show ((a + bs : Nat) : Int) = (a : Int) + (bs : Int) by omega, show ((a + 2 * bs : Nat) : Int) = (a : Int) + 2 * (bs : Int) by omega] at C1
              have CC : Aside _ := C1
              clear C1
              go_wp2_with fail
              refine Go.Calls.mono CC.out ?_
              rintro e w2 ⟨rfl, d2, P2, O2, S2⟩
              have SS2 : Aside _ := S2
              have PP2 : Aside _ := P2
              have OO2 : Aside (SortedIn (ltOf cf) a (a + 2 * bs) d2) := O2
              clear S2 S1 CC P2 O2
              go_wp2
              go_roundw
              case rel => exact ⟨a + 2 * bs, d2, by first | rfl | go_num | (congr 1; omega), by first | rfl | go_num | (congr 1; omega), by omega, PP2.out.1.trans hdj, permIn_trans _ _ _ _ _ PM.out (permIn_mono _ _ _ _ _ _ (Nat.zero_le _) hlt (by omega) PP2.out), AH.out.step PP2.out OO2.out, RE.out.step PP2.out, SS2⟩
              case measure => simp [intOf]; omega
            · have hltz : ¬ (a : Int) + 2 * (bs : Int) ≤ (size : Int) := by omega
              by_cases hm : a + bs < size
              · have hmz : (a : Int) + (bs : Int) < (size : Int) := by omega
                have C1 := IH a (a + bs) size dj _ (by omega) hdj S1.out (by omega) hm (Nat.le_refl _) (by have h := RE.out.first; rw [show min (a + bs) size = a + bs by omega] at h; exact h) (by have h := RE.out.second; rw [show min (a + 2 * bs) size = size by omega] at h; exact h)
                rw [show ((a + bs : Nat) : Int) = (a : Int) + (bs : Int) by omega] at C1
                have CC : Aside _ := C1
                clear C1
                go_wp2_with fail
                refine Go.Calls.mono CC.out ?_
                rintro e w2 ⟨rfl, d2, P2, O2, S2⟩
                have SS2 : Aside _ := S2
                have PP2 : Aside _ := P2
                have OO2 : Aside (SortedIn (ltOf cf) a size d2) := O2
                clear S2 S1 CC P2 O2
                go_wp2
                go_roundw
                case rel => exact ⟨2 * bs, d2, by first | rfl | go_num | (congr 1; omega), by omega, by omega, PP2.out.1.trans hdj, permIn_trans _ _ _ _ _ PM.out (permIn_mono _ _ _ _ _ _ (Nat.zero_le _) (Nat.le_refl _) (by omega) PP2.out), Ahead.done ⟨AH.out.1, fun p hp => sorted_keep (AH.out.2 p hp) PP2.out (Or.inl hp)⟩ (by omega) OO2.out, SS2⟩
                case measure => simp [intOf]; omega
              · have hmz : ¬ (a : Int) + (bs : Int) < (size : Int) := by omega
                go_wp2
                go_roundw
                case rel => exact ⟨2 * bs, dj, by first | rfl | go_num | (congr 1; omega), by omega, by omega, hdj, PM, Ahead.done AH.out (by omega) (by have h := RE.out.first; rw [show min (a + bs) size = size by omega] at h; exact h), S1⟩
                case measure => simp [intOf]; omega
        · have hbz : ¬ (bs : Int) < (size : Int) := by omega
          go_wp2
          go_end0
          exact ⟨rfl, dk, PM.out, blocks_all BL.out (by omega), S1.out⟩

set_option maxRecDepth 1000000 in
set_option maxHeartbeats 4000000 in
theorem sortStable_any (enc : α → List Value) (k : Nat) (hk2 : k = 2) (g : Nat) (cb : Array Value) (cf : α → α → Int) (hO : SWO (ltOf cf)) (blk off cap size : Nat) (d : Array α) (w0 w : World)
    (eg : ∀ args w, (callFunc g args).run Tryz.prog w = .ok (.enter g args) w)
    (R : RowB Tryz.prog enc k g cb cf w0 blk off size) (hs : d.size = size) (S : SB enc k w0 blk off d w) (hsz : size < 1152921504606846976) :
    Calls Tryz.prog 89 #[.slice (some ⟨blk, off, none⟩) size cap, .func (.func g) #[] cb] w fun e w' =>
      e = .returned (.tuple #[]) ∧ ∃ d', PermIn 0 size d d' ∧ SortedIn (ltOf cf) 0 size d' ∧ SB enc k w0 blk off d' w' := by
  have CC : Aside _ := stable_any enc k hk2 g cb cf hO blk off cap size d w0 w eg R hs S hsz
  clear S hk2
  go_enter Tryz.func89, Tryz.ntmps89
  go_wp2_with fail
  refine Go.Calls.mono CC.out ?_
  rintro e w1 ⟨rfl, d2, P2, O2, S2⟩
  have SS2 : Aside _ := S2
  have PP2 : Aside _ := P2
  have OO2 : Aside (SortedIn (ltOf cf) 0 size d2) := O2
  clear S2 CC P2 O2
  go_wp2
  go_end0
  exact ⟨rfl, d2, PP2.out, OO2.out, SS2.out⟩

end Go.Proofs.YthhbbmebfmfgjaaGreatDoor
