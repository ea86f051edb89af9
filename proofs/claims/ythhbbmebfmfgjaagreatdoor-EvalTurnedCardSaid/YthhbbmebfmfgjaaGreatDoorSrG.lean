import Derived.Test.YthhbbmebfmfgjaaGreatDoorSrD
/-! Go's stable sort: the merge in place, one element on the right. -/
namespace Go.Proofs.YthhbbmebfmfgjaaGreatDoor
open Go.RowKit Go.Sort Stb
variable {α : Type} [Inhabited α]

set_option maxRecDepth 1000000 in
set_option maxHeartbeats 4000000 in
theorem symMerge_right (enc : α → List Value) (k : Nat) (hk2 : k = 2) (g : Nat) (cb : Array Value) (cf : α → α → Int) (hO : SWO (ltOf cf)) (blk off cap size a m : Nat) (d : Array α) (w0 w : World)
    (eg : ∀ args w, (callFunc g args).run Tryz.prog w = .ok (.enter g args) w)
    (R : RowB Tryz.prog enc k g cb cf w0 blk off size) (hs : d.size = size) (S : SB enc k w0 blk off d w) (ham : a + 1 < m) (hb : m + 1 ≤ size) (hsz : size < 4611686018427387904) (hA : SortedIn (ltOf cf) a m d) :
    Calls Tryz.prog 166 #[.slice (some ⟨blk, off, none⟩) size cap, .int .i64 a, .int .i64 m, .int .i64 (m + 1), .func (.func g) #[] cb] w fun e w' =>
      e = .returned (.tuple #[]) ∧ ∃ d', PermIn a (m + 1) d d' ∧ SortedIn (ltOf cf) a (m + 1) d' ∧ SB enc k w0 blk off d' w' := by
  have S0 : Aside (SB enc k w0 blk off d w) := S
  have aE : ∀ w, (isAgg 33).run Tryz.prog w = .ok true w := fun _ => by kernel_rfl
  have zE : ∀ w, (Go.sizeOf 33).run Tryz.prog w = .ok k w := fun _ => by rw [hk2]; kernel_rfl
  have HA : Aside _ := hA
  clear S hk2 hA
  have t1 : ((m : Int) - (a : Int) == 1) = false := by simp; omega
  have t2 : ((m : Int) + 1 - (m : Int) == 1) = true := by simp; omega
  go_enter Tryz.func166, Tryz.ntmps166
  go_wp2_with fail
  go_loopw [14, 15] (fun vi vj wr => ∃ (i j : Nat), vi = .int .i64 i ∧ vj = .int .i64 j ∧ a ≤ i ∧ i ≤ j ∧ j ≤ m ∧ Aside (∀ t, a ≤ t → t < i → ltOf cf d[m]! d[t]! = false) ∧ Aside (∀ t, j ≤ t → t < m → ltOf cf d[m]! d[t]! = true) ∧ Aside (SB enc k w0 blk off d wr)) (fun vi vj _ => (intOf vj).toNat - (intOf vi).toNat)
  case atStart => exact ⟨a, m, rfl, rfl, Nat.le_refl _, by omega, Nat.le_refl _, fun t _ _ => by omega, fun t _ _ => by omega, S0⟩
  case round =>
    clear S0
    obtain ⟨i, j, rfl, rfl, hi, hij, hj, HY, HN, S1⟩ := hrel
    by_cases hlt : i < j
    · have hltz : (i : Int) < (j : Int) := by omega
      obtain ⟨h, hh⟩ : ∃ h : Nat, h = (i + j) / 2 := ⟨_, rfl⟩
      have hh1 : i ≤ h := by omega
      have hh2 : h < j := by omega
      have he : ((i : Int) + (j : Int)) / 2 = (h : Int) := by omega
      clear hh
      cases hl : ltOf cf d[m]! d[h]! with
      | true =>
        have HL : Aside _ := hl
        clear hl
        go_wp2_with fail
        have ea1 : ((m : Int)).toNat = m := by omega
        have pa1 : (0 : Int) ≤ (m : Int) := by omega
        have ba1 : (m : Int) < (size : Int) := by omega
        have ra1 : IntKind.i64.wrap ((m : Int)) = (m : Int) := by rw [IntKind.wrap_i64]; omega
        have ec1 : ((h : Int)).toNat = h := by omega
        have pc1 : (0 : Int) ≤ (h : Int) := by omega
        have bc1 : (h : Int) < (size : Int) := by omega
        have rc1 : IntKind.i64.wrap ((h : Int)) = (h : Int) := by rw [IntKind.wrap_i64]; omega
        obtain ⟨x1, hx1⟩ : ∃ x, d[m]! = x := ⟨_, rfl⟩
        obtain ⟨y1, hy1⟩ : ∃ x, d[h]! = x := ⟨_, rfl⟩
        have la1 := S1.out.ld R (m) (by omega)
        have lb1 := S1.out.ld R (h) (by omega)
        rw [hx1] at la1
        rw [hy1] at lb1
        have hc1 := S1.out.cmp R (by omega) x1 y1
        have hv1 : cf x1 y1 < 0 := by have q := HL.out; rw [hx1, hy1] at q; exact of_decide_eq_true q
        have hd1 : decide (cf x1 y1 < 0) = true := decide_eq_true hv1
        clear hx1 hy1
        go_wp2_with fail
        refine wp_region_below (by kernel_rfl) (by kernel_rfl) ?_
        repeat (quiet_step ((go_at_fn g; exact hc1 _)))
        refine wpQuiet_nil ?_
        intro _ hw'
        obtain ⟨pq, hw''⟩ := hw'
        subst hw''
        have S2 : Aside (SB enc k w0 blk off d pq.world) := S1.out.bw R.hblk pq
        clear la1 lb1 hc1 S1 hd1 hv1
        generalize pq.world = wq at S2 ⊢
        clear pq
        go_wp2
        go_roundw
        case rel => exact ⟨i, h, rfl, rfl, hi, hh1, by omega, HY, fun t h1 h2 => dn_mono_no hO HA.out (by omega) HL.out t h1 h2, S2⟩
        case measure => simp [intOf]; omega
      | false =>
        have HL : Aside _ := hl
        clear hl
        go_wp2_with fail
        have ea1 : ((m : Int)).toNat = m := by omega
        have pa1 : (0 : Int) ≤ (m : Int) := by omega
        have ba1 : (m : Int) < (size : Int) := by omega
        have ra1 : IntKind.i64.wrap ((m : Int)) = (m : Int) := by rw [IntKind.wrap_i64]; omega
        have ec1 : ((h : Int)).toNat = h := by omega
        have pc1 : (0 : Int) ≤ (h : Int) := by omega
        have bc1 : (h : Int) < (size : Int) := by omega
        have rc1 : IntKind.i64.wrap ((h : Int)) = (h : Int) := by rw [IntKind.wrap_i64]; omega
        obtain ⟨x1, hx1⟩ : ∃ x, d[m]! = x := ⟨_, rfl⟩
        obtain ⟨y1, hy1⟩ : ∃ x, d[h]! = x := ⟨_, rfl⟩
        have la1 := S1.out.ld R (m) (by omega)
        have lb1 := S1.out.ld R (h) (by omega)
        rw [hx1] at la1
        rw [hy1] at lb1
        have hc1 := S1.out.cmp R (by omega) x1 y1
        have hv1 : ¬ cf x1 y1 < 0 := by have q := HL.out; rw [hx1, hy1] at q; exact of_decide_eq_false q
        have hd1 : decide (cf x1 y1 < 0) = false := decide_eq_false hv1
        clear hx1 hy1
        go_wp2_with fail
        refine wp_region_below (by kernel_rfl) (by kernel_rfl) ?_
        repeat (quiet_step ((go_at_fn g; exact hc1 _)))
        refine wpQuiet_nil ?_
        intro _ hw'
        obtain ⟨pq, hw''⟩ := hw'
        subst hw''
        have S2 : Aside (SB enc k w0 blk off d pq.world) := S1.out.bw R.hblk pq
        clear la1 lb1 hc1 S1 hd1 hv1
        generalize pq.world = wq at S2 ⊢
        clear pq
        go_wp2
        go_roundw
        case rel => exact ⟨h + 1, j, by go_num, rfl, by omega, by omega, hj, fun t h1 h2 => dn_mono hO HA.out (by omega) HL.out t h1 (by omega), HN, S2⟩
        case measure => simp [intOf]; omega
    · obtain rfl : j = i := by omega
      have hltz : ¬ (j : Int) < (j : Int) := by omega
      go_wp2_with fail
      go_loopw [17] (fun vk w2 => ∃ (q : Nat) (dk : Array α), vk = .int .i64 q ∧ j ≤ q ∧ q ≤ m ∧ Aside (Mv a (m + 1) d dk (dnTo m q fun t => d[t]!)) ∧ Aside (SB enc k w0 blk off dk w2)) (fun vk _ => (intOf vk).toNat)
      case atStart => exact ⟨m, d, rfl, hj, Nat.le_refl _, by rw [← dnTo_start]; exact Mv.start _ _ _, S1⟩
      case round =>
        clear S1
        obtain ⟨q, dk, rfl, hjq, hqm, M, S2⟩ := hrel
        have hds : dk.size = size := M.out.size.trans hs
        by_cases hlt2 : j < q
        · obtain ⟨qp, rfl⟩ : ∃ qp, q = qp + 1 := ⟨q - 1, by omega⟩
          have hltz2 : (j : Int) < (qp : Int) + 1 := by omega
          have M2 : Aside (Mv a (m + 1) d (swp dk (qp + 1) qp) (dnTo m qp fun t => d[t]!)) := (M.out.step (qp + 1) qp (by omega) (by omega) (by omega) (by omega) (by omega)).congr (dnTo_step m qp _ hqm)
          go_wp2_with fail
          have ea2 : ((qp : Int) + 1).toNat = qp + 1 := by omega
          have pa2 : (0 : Int) ≤ (qp : Int) + 1 := by omega
          have ba2 : (qp : Int) + 1 < (size : Int) := by omega
          have ra2 : IntKind.i64.wrap ((qp : Int) + 1) = (qp : Int) + 1 := by rw [IntKind.wrap_i64]; omega
          have ec2 : ((qp : Int)).toNat = qp := by omega
          have pc2 : (0 : Int) ≤ (qp : Int) := by omega
          have bc2 : (qp : Int) < (size : Int) := by omega
          have rc2 : IntKind.i64.wrap ((qp : Int)) = (qp : Int) := by rw [IntKind.wrap_i64]; omega
          have S3 : Aside (SB enc k w0 blk off (swp dk (qp + 1) (qp)) ((wr.drew.setCells blk (off + (qp + 1) * k) (enc dk[qp]!)).setCells blk (off + (qp) * k) (enc dk[qp + 1]!))) := S2.out.swapped R (qp + 1) (qp) (by omega) (by omega)
          have la2 := S2.out.ld1 R (qp + 1) (by omega)
          have lb2 := S2.out.ld1 R (qp) (by omega)
          have sa2 := S2.out.st1 R (qp + 1) (by omega) dk[qp]!
          have sb2 := S2.out.st2 R (qp + 1) (qp) (by omega) (by omega) dk[qp]! dk[qp + 1]!
          have na2 : (enc dk[qp + 1]!).length = k := R.hk _
          have nb2 : (enc dk[qp]!).length = k := R.hk _
          generalize enc dk[qp + 1]! = cI2 at S3 la2 sb2 na2
          generalize enc dk[qp]! = cJ2 at S3 lb2 sa2 sb2 nb2
          clear S2
          go_wp2_with fail
          go_big_region
          clear la2 lb2 sa2 sb2
          generalize (wr.drew.setCells blk (off + (qp + 1) * k) cJ2).setCells blk (off + (qp) * k) cI2 = w2 at S3 ⊢
          go_wp2
          go_roundw
          case rel => exact ⟨qp, _, by first | rfl | go_num, by omega, by omega, M2, S3⟩
          case measure => simp [intOf]
        · obtain rfl : q = j := by omega
          have hltz2 : ¬ (q : Int) < (q : Int) := by omega
          go_wp2_with fail
          refine bodyPost_ret (results_none rfl _ _ _) rfl ?_
          refine ⟨rfl, dk, M.out.perm, ?_, S2.out⟩
          exact dn_sorted hO hi hqm HA.out HY.out HN.out M.out.val

end Go.Proofs.YthhbbmebfmfgjaaGreatDoor
