import Derived.Deep.DeepCutAuto
import Derived.Test.YthhbbmebfmfgjaaGreatDoorSrF
import Derived.Test.YthhbbmebfmfgjaaGreatDoorSrG
/-! Go's stable sort: the merge in place, whole. -/
namespace Go.Proofs.YthhbbmebfmfgjaaGreatDoor
open Go.RowKit Go.Sort Stb
variable {α : Type} [Inhabited α]

omit [Inhabited α] in
theorem ro_id (s m e : Nat) (f : Nat → α) (h : s = m ∨ m = e) (h1 : s ≤ m) (h2 : m ≤ e) : ro s m e f = f := by
  funext t
  unfold ro
  repeat' split
  all_goals first | (exfalso; omega) | (congr 1; omega) | rfl

/-- what the merge of [a, b) at m comes to, for all parts that are shorter than n -/
def MergeTo (enc : α → List Value) (k : Nat) (g : Nat) (cb : Array Value) (cf : α → α → Int) (blk off cap size : Nat) (w0 : World) (n : Nat) : Prop :=
  ∀ (a m b : Nat) (d : Array α) (w : World), b - a < n → d.size = size → SB enc k w0 blk off d w → a < m → m < b → b ≤ size → SortedIn (ltOf cf) a m d → SortedIn (ltOf cf) m b d →
    Calls Tryz.prog 166 #[.slice (some ⟨blk, off, none⟩) size cap, .int .i64 a, .int .i64 m, .int .i64 b, .func (.func g) #[] cb] w fun e w' =>
      e = .returned (.tuple #[]) ∧ ∃ d', PermIn a b d d' ∧ SortedIn (ltOf cf) a b d' ∧ SB enc k w0 blk off d' w'

set_option maxRecDepth 1000000 in
set_option maxHeartbeats 8000000 in
theorem symMerge_step (enc : α → List Value) (k : Nat) (hk2 : k = 2) (g : Nat) (cb : Array Value) (cf : α → α → Int) (hO : SWO (ltOf cf)) (blk off cap size a m b : Nat) (d : Array α) (w0 w : World)
    (eg : ∀ args w, (callFunc g args).run Tryz.prog w = .ok (.enter g args) w)
    (R : RowB Tryz.prog enc k g cb cf w0 blk off size) (hs : d.size = size) (S : SB enc k w0 blk off d w) (ham : a + 1 < m) (hmb : m + 1 < b) (hb : b ≤ size) (hsz : size < 4611686018427387904) (hA : SortedIn (ltOf cf) a m d) (hB : SortedIn (ltOf cf) m b d)
    (IH : MergeTo enc k g cb cf blk off cap size w0 (b - a)) :
    Calls Tryz.prog 166 #[.slice (some ⟨blk, off, none⟩) size cap, .int .i64 a, .int .i64 m, .int .i64 b, .func (.func g) #[] cb] w fun e w' =>
      e = .returned (.tuple #[]) ∧ ∃ d', PermIn a b d d' ∧ SortedIn (ltOf cf) a b d' ∧ SB enc k w0 blk off d' w' := by
  have S0 : Aside (SB enc k w0 blk off d w) := S
  have aE : ∀ w, (isAgg 33).run Tryz.prog w = .ok true w := fun _ => by kernel_rfl
  have zE : ∀ w, (Go.sizeOf 33).run Tryz.prog w = .ok k w := fun _ => by rw [hk2]; kernel_rfl
  have HA : Aside _ := hA
  have HB : Aside _ := hB
  have HK : Hid (k = 2) := hk2
  clear S hk2 hA hB
  have t1 : ((m : Int) - (a : Int) == 1) = false := by simp; omega
  have t2 : ((b : Int) - (m : Int) == 1) = false := by simp; omega
  obtain ⟨q, hq⟩ : ∃ q : Nat, q = (a + b) / 2 := ⟨_, rfl⟩
  have hq1 : a < q := by omega
  have hq2 : q < b := by omega
  have hqe : ((a : Int) + (b : Int)) / 2 = (q : Int) := by omega
  have HQ : Hid (q = (a + b) / 2) := hq
  clear hq
  -- where the search begins
  obtain ⟨s0, r0, h0⟩ : ∃ s0 r0 : Nat, (q < m ∧ s0 = q + m - b ∧ r0 = q) ∨ (m ≤ q ∧ s0 = a ∧ r0 = m) := by
    by_cases h : q < m
    · exact ⟨_, _, Or.inl ⟨h, rfl, rfl⟩⟩
    · exact ⟨_, _, Or.inr ⟨by omega, rfl, rfl⟩⟩
  have H0 : Aside _ := h0
  have u1 : a ≤ s0 := by have := HQ.out; omega
  have u2 : s0 ≤ r0 := by have := HQ.out; omega
  have u3 : r0 ≤ m := by omega
  have u4 : m + r0 ≤ q + m := by omega
  have u5 : q + m ≤ b + s0 := by have := HQ.out; omega
  have u6 : r0 ≤ q := by omega
  have hp : (q : Int) + (m : Int) - 1 = ((q + m - 1 : Nat) : Int) := by omega
  obtain ⟨pp, hpp⟩ : ∃ pp : Nat, pp = q + m - 1 := ⟨_, rfl⟩
  rw [← hpp] at hp
  have hpp2 : pp + 1 = q + m := by omega
  clear hpp
  by_cases hqm : q < m
  · have hqz : (q : Int) < (m : Int) := by omega
    have hs0 : (q : Int) + (m : Int) - (b : Int) = (s0 : Int) := by omega
    have HRQ : Hid (r0 = q) := by show _ = _; omega
    clear h0
    go_enter Tryz.func166, Tryz.ntmps166
    go_wp2_with fail
    go_loopw [20, 21] (fun vi vj wr => ∃ (s r : Nat), vi = .int .i64 s ∧ vj = .int .i64 r ∧ s0 ≤ s ∧ s ≤ r ∧ r ≤ r0 ∧ Aside (Cut (ltOf cf) d s0 r0 pp s r) ∧ Aside (SB enc k w0 blk off d wr)) (fun vi vj _ => (intOf vj).toNat - (intOf vi).toNat)
    case atStart => exact ⟨s0, r0, rfl, by rw [HRQ.out], Nat.le_refl _, u2, Nat.le_refl _, Cut.start u2, S0⟩
    case round =>
      clear S0
      obtain ⟨s, r, rfl, rfl, hs1, hs2, hs3, HC, S1⟩ := hrel
      by_cases hlt : s < r
      · have hltz : (s : Int) < (r : Int) := by omega
        obtain ⟨c, hc⟩ : ∃ c : Nat, c = (s + r) / 2 := ⟨_, rfl⟩
        have hc1 : s ≤ c := by omega
        have hc2 : c < r := by omega
        have hce : ((s : Int) + (r : Int)) / 2 = (c : Int) := by omega
        have hpc : (pp : Int) - (c : Int) = ((pp - c : Nat) : Int) := by omega
        clear hc
        cases hl : ltOf cf d[pp - c]! d[c]! with
        | true =>
          have HL : Aside _ := hl
          clear hl
          go_wp2_with fail
          have ea1 : (((pp - c : Nat) : Int)).toNat = pp - c := by omega
          have pa1 : (0 : Int) ≤ ((pp - c : Nat) : Int) := by omega
          have ba1 : ((pp - c : Nat) : Int) < (size : Int) := by omega
          have ra1 : IntKind.i64.wrap (((pp - c : Nat) : Int)) = ((pp - c : Nat) : Int) := by rw [IntKind.wrap_i64]; omega
          have ec1 : ((c : Int)).toNat = c := by omega
          have pc1 : (0 : Int) ≤ (c : Int) := by omega
          have bc1 : (c : Int) < (size : Int) := by omega
          have rc1 : IntKind.i64.wrap ((c : Int)) = (c : Int) := by rw [IntKind.wrap_i64]; omega
          obtain ⟨x1, hx1⟩ : ∃ x, d[pp - c]! = x := ⟨_, rfl⟩
          obtain ⟨y1, hy1⟩ : ∃ x, d[c]! = x := ⟨_, rfl⟩
          have la1 := S1.out.ld R (pp - c) (by omega)
          have lb1 := S1.out.ld R (c) (by omega)
          rw [hx1] at la1
          rw [hy1] at lb1
          have hc1 := S1.out.cmp R (by omega) x1 y1
          have hv1 : cf x1 y1 < 0 := by have q := HL.out; rw [hx1, hy1] at q; exact of_decide_eq_true q
          have hd1 : decide (cf x1 y1 < 0) = true := decide_eq_true hv1
          clear hx1 hy1
          go_wp2_with fail
          refine wp_region_below (by kernel_rfl) (by kernel_rfl) ?_
          repeat (quiet_step ((go_at_fn g; exact hc1 _)))
          refine wpQuiet_nil ?_
          intro _ hw'
          obtain ⟨pq, hw''⟩ := hw'
          subst hw''
          have S2 : Aside (SB enc k w0 blk off d pq.world) := S1.out.bw R.hblk pq
          clear la1 lb1 hc1 S1 hd1 hv1
          generalize pq.world = wq at S2 ⊢
          clear pq
          go_wp2
          go_roundw
          case rel => exact ⟨s, c, rfl, rfl, hs1, hc1, by omega, HC.out.no' hO HA.out HB.out hc1 hc2 u1 u3 (by omega) (by omega) HL.out, S2⟩
          case measure => simp [intOf]; omega
        | false =>
          have HL : Aside _ := hl
          clear hl
          go_wp2_with fail
          have ea1 : (((pp - c : Nat) : Int)).toNat = pp - c := by omega
          have pa1 : (0 : Int) ≤ ((pp - c : Nat) : Int) := by omega
          have ba1 : ((pp - c : Nat) : Int) < (size : Int) := by omega
          have ra1 : IntKind.i64.wrap (((pp - c : Nat) : Int)) = ((pp - c : Nat) : Int) := by rw [IntKind.wrap_i64]; omega
          have ec1 : ((c : Int)).toNat = c := by omega
          have pc1 : (0 : Int) ≤ (c : Int) := by omega
          have bc1 : (c : Int) < (size : Int) := by omega
          have rc1 : IntKind.i64.wrap ((c : Int)) = (c : Int) := by rw [IntKind.wrap_i64]; omega
          obtain ⟨x1, hx1⟩ : ∃ x, d[pp - c]! = x := ⟨_, rfl⟩
          obtain ⟨y1, hy1⟩ : ∃ x, d[c]! = x := ⟨_, rfl⟩
          have la1 := S1.out.ld R (pp - c) (by omega)
          have lb1 := S1.out.ld R (c) (by omega)
          rw [hx1] at la1
          rw [hy1] at lb1
          have hc1 := S1.out.cmp R (by omega) x1 y1
          have hv1 : ¬ cf x1 y1 < 0 := by have q := HL.out; rw [hx1, hy1] at q; exact of_decide_eq_false q
          have hd1 : decide (cf x1 y1 < 0) = false := decide_eq_false hv1
          clear hx1 hy1
          go_wp2_with fail
          refine wp_region_below (by kernel_rfl) (by kernel_rfl) ?_
          repeat (quiet_step ((go_at_fn g; exact hc1 _)))
          refine wpQuiet_nil ?_
          intro _ hw'
          obtain ⟨pq, hw''⟩ := hw'
          subst hw''
          have S2 : Aside (SB enc k w0 blk off d pq.world) := S1.out.bw R.hblk pq
          clear la1 lb1 hc1 S1 hd1 hv1
          generalize pq.world = wq at S2 ⊢
          clear pq
          go_wp2
          go_roundw
          case rel => exact ⟨c + 1, r, by go_num, rfl, by omega, by omega, hs3, HC.out.yes' hO HA.out HB.out hc1 hc2 u1 u3 (by omega) (by omega) HL.out, S2⟩
          case measure => simp [intOf]; omega
      · obtain rfl : r = s := by omega
        have hltz : ¬ (r : Int) < (r : Int) := by omega
        obtain ⟨e, hee⟩ : ∃ e : Nat, e = q + m - r := ⟨_, rfl⟩
        have hez : (q : Int) + (m : Int) - (r : Int) = (e : Int) := by omega
        have hee2 : e + r = q + m := by have := HQ.out; have := H0.out; omega
        have hbd : a ≤ r ∧ r ≤ m ∧ r ≤ q ∧ m ≤ e ∧ q ≤ e ∧ e ≤ b := by have := HQ.out; have := H0.out; omega
        obtain ⟨g1, g2, g3, g4, g5, g6⟩ := hbd
        have HV : Aside (∀ d' : Array α, (∀ t, d'[t]! = ro r m e (fun t => d[t]!) t) → Halves (ltOf cf) a r q e b d') := fun d' hv => by
          rw [hee] at hv ⊢
          exact (halves hO (by omega) (by omega) HA.out HB.out q s0 r0 r HQ.out H0.out (by rw [show q + m - 1 = pp by omega]; exact HC.out) hv).1
        clear hee HC
        by_cases k0 : r < q
        · by_cases k2 : a < r
          · by_cases k4 : e < b
            · have za1 : (r : Int) < (m : Int) := by omega
              have za2 : (m : Int) < (e : Int) := by omega
              have zb1 : (a : Int) < (r : Int) := by omega
              have zb2 : (r : Int) < (q : Int) := by omega
              have zc1 : (q : Int) < (e : Int) := by omega
              have zc2 : (e : Int) < (b : Int) := by omega
              go_wp2_with fail
              refine (rotate_any enc k HK.out g cb cf blk off cap size r m e a b d w0 _ R hs S1.out g1 (by omega) (by omega) g6 hb hsz).mono ?_
              rintro e1 w1 ⟨rfl, d1, M1, S2⟩
              have SS2 : Aside (SB enc k w0 blk off d1 w1) := S2
              have P1 : Aside (PermIn a b d d1) := M1.perm
              have HH : Aside (Halves (ltOf cf) a r q e b d1) := HV.out d1 M1.val
              have hd1 : d1.size = size := M1.size.trans hs
              clear S2 M1 S1 HV
              go_wp2_with fail
              refine (IH a r q d1 _ (by omega) hd1 SS2.out (by omega) (by omega) (by omega) HH.out.l1 HH.out.l2).mono ?_
              rintro e1 w2 ⟨rfl, d2, M1, M2, S3⟩
              have SS3 : Aside (SB enc k w0 blk off d2 w2) := S3
              have P2 : Aside (PermIn a q d1 d2) := M1
              have SO2 : Aside (SortedIn (ltOf cf) a q d2) := M2
              have hd2 : d2.size = size := M1.1.trans hd1
              clear S3 M1 M2 SS2
              have fin : ∀ d3, PermIn q b d2 d3 → SortedIn (ltOf cf) q b d3 → PermIn a b d d3 ∧ SortedIn (ltOf cf) a b d3 := fun d3 p s => by
                have z := halves_done HH.out (by omega) (by omega) (by omega) P2.out SO2.out p s
                exact ⟨permIn_trans _ _ _ _ _ P1.out z.1, z.2⟩
              have FIN : Aside _ := fin
              clear fin
              go_wp2_with fail
              refine (IH q e b d2 _ (by omega) hd2 SS3.out (by omega) (by omega) hb (sorted_keep HH.out.r1 P2.out (Or.inr (Nat.le_refl _))) (sorted_keep HH.out.r2 P2.out (Or.inr (by omega)))).mono ?_
              rintro e1 w3 ⟨rfl, d3, M1, M2, S4⟩
              have SS4 : Aside (SB enc k w0 blk off d3 w3) := S4
              have MM : Aside _ := FIN.out d3 M1 M2
              clear S4 M1 M2 FIN
              go_wp2_with fail
              go_end0
              exact ⟨rfl, d3, MM.out.1, MM.out.2, SS4.out⟩
            · have za1 : (r : Int) < (m : Int) := by omega
              have za2 : (m : Int) < (e : Int) := by omega
              have zb1 : (a : Int) < (r : Int) := by omega
              have zb2 : (r : Int) < (q : Int) := by omega
              have zc1 : (q : Int) < (e : Int) := by omega
              have zc2 : ¬ (e : Int) < (b : Int) := by omega
              go_wp2_with fail
              refine (rotate_any enc k HK.out g cb cf blk off cap size r m e a b d w0 _ R hs S1.out g1 (by omega) (by omega) g6 hb hsz).mono ?_
              rintro e1 w1 ⟨rfl, d1, M1, S2⟩
              have SS2 : Aside (SB enc k w0 blk off d1 w1) := S2
              have P1 : Aside (PermIn a b d d1) := M1.perm
              have HH : Aside (Halves (ltOf cf) a r q e b d1) := HV.out d1 M1.val
              have hd1 : d1.size = size := M1.size.trans hs
              clear S2 M1 S1 HV
              go_wp2_with fail
              refine (IH a r q d1 _ (by omega) hd1 SS2.out (by omega) (by omega) (by omega) HH.out.l1 HH.out.l2).mono ?_
              rintro e1 w2 ⟨rfl, d2, M1, M2, S3⟩
              have SS3 : Aside (SB enc k w0 blk off d2 w2) := S3
              have P2 : Aside (PermIn a q d1 d2) := M1
              have SO2 : Aside (SortedIn (ltOf cf) a q d2) := M2
              have hd2 : d2.size = size := M1.1.trans hd1
              clear S3 M1 M2 SS2
              have fin : ∀ d3, PermIn q b d2 d3 → SortedIn (ltOf cf) q b d3 → PermIn a b d d3 ∧ SortedIn (ltOf cf) a b d3 := fun d3 p s => by
                have z := halves_done HH.out (by omega) (by omega) (by omega) P2.out SO2.out p s
                exact ⟨permIn_trans _ _ _ _ _ P1.out z.1, z.2⟩
              have FIN : Aside _ := fin
              clear fin
              have MM : Aside _ := FIN.out d2 (permIn_refl _ _ _) (by have h := sorted_keep HH.out.r1 P2.out (Or.inr (by omega)); rw [show e = b by omega] at h; exact h)
              clear FIN
              go_wp2_with fail
              go_end0
              exact ⟨rfl, d2, MM.out.1, MM.out.2, SS3.out⟩
          · by_cases k4 : e < b
            · have za1 : (r : Int) < (m : Int) := by omega
              have za2 : (m : Int) < (e : Int) := by omega
              have zb1 : ¬ (a : Int) < (r : Int) := by omega
              have zc1 : (q : Int) < (e : Int) := by omega
              have zc2 : (e : Int) < (b : Int) := by omega
              go_wp2_with fail
              refine (rotate_any enc k HK.out g cb cf blk off cap size r m e a b d w0 _ R hs S1.out g1 (by omega) (by omega) g6 hb hsz).mono ?_
              rintro e1 w1 ⟨rfl, d1, M1, S2⟩
              have SS2 : Aside (SB enc k w0 blk off d1 w1) := S2
              have P1 : Aside (PermIn a b d d1) := M1.perm
              have HH : Aside (Halves (ltOf cf) a r q e b d1) := HV.out d1 M1.val
              have hd1 : d1.size = size := M1.size.trans hs
              clear S2 M1 S1 HV
              have SS3 : Aside (SB enc k w0 blk off d1 _) := SS2.out
              have P2 : Aside (PermIn a q d1 d1) := permIn_refl _ _ _
              have SO2 : Aside (SortedIn (ltOf cf) a q d1) := (by have h := HH.out.l2; rw [show r = a by omega] at h; exact h : SortedIn (ltOf cf) a q d1)
              have hd2 : d1.size = size := hd1
              clear SS2
              have fin : ∀ d3, PermIn q b d1 d3 → SortedIn (ltOf cf) q b d3 → PermIn a b d d3 ∧ SortedIn (ltOf cf) a b d3 := fun d3 p s => by
                have z := halves_done HH.out (by omega) (by omega) (by omega) P2.out SO2.out p s
                exact ⟨permIn_trans _ _ _ _ _ P1.out z.1, z.2⟩
              have FIN : Aside _ := fin
              clear fin
              go_wp2_with fail
              refine (IH q e b d1 _ (by omega) hd2 SS3.out (by omega) (by omega) hb (sorted_keep HH.out.r1 P2.out (Or.inr (Nat.le_refl _))) (sorted_keep HH.out.r2 P2.out (Or.inr (by omega)))).mono ?_
              rintro e1 w3 ⟨rfl, d3, M1, M2, S4⟩
              have SS4 : Aside (SB enc k w0 blk off d3 w3) := S4
              have MM : Aside _ := FIN.out d3 M1 M2
              clear S4 M1 M2 FIN
              go_wp2_with fail
              go_end0
              exact ⟨rfl, d3, MM.out.1, MM.out.2, SS4.out⟩
            · have za1 : (r : Int) < (m : Int) := by omega
              have za2 : (m : Int) < (e : Int) := by omega
              have zb1 : ¬ (a : Int) < (r : Int) := by omega
              have zc1 : (q : Int) < (e : Int) := by omega
              have zc2 : ¬ (e : Int) < (b : Int) := by omega
              go_wp2_with fail
              refine (rotate_any enc k HK.out g cb cf blk off cap size r m e a b d w0 _ R hs S1.out g1 (by omega) (by omega) g6 hb hsz).mono ?_
              rintro e1 w1 ⟨rfl, d1, M1, S2⟩
              have SS2 : Aside (SB enc k w0 blk off d1 w1) := S2
              have P1 : Aside (PermIn a b d d1) := M1.perm
              have HH : Aside (Halves (ltOf cf) a r q e b d1) := HV.out d1 M1.val
              have hd1 : d1.size = size := M1.size.trans hs
              clear S2 M1 S1 HV
              have SS3 : Aside (SB enc k w0 blk off d1 _) := SS2.out
              have P2 : Aside (PermIn a q d1 d1) := permIn_refl _ _ _
              have SO2 : Aside (SortedIn (ltOf cf) a q d1) := (by have h := HH.out.l2; rw [show r = a by omega] at h; exact h : SortedIn (ltOf cf) a q d1)
              have hd2 : d1.size = size := hd1
              clear SS2
              have fin : ∀ d3, PermIn q b d1 d3 → SortedIn (ltOf cf) q b d3 → PermIn a b d d3 ∧ SortedIn (ltOf cf) a b d3 := fun d3 p s => by
                have z := halves_done HH.out (by omega) (by omega) (by omega) P2.out SO2.out p s
                exact ⟨permIn_trans _ _ _ _ _ P1.out z.1, z.2⟩
              have FIN : Aside _ := fin
              clear fin
              have MM : Aside _ := FIN.out d1 (permIn_refl _ _ _) (by have h := sorted_keep HH.out.r1 P2.out (Or.inr (by omega)); rw [show e = b by omega] at h; exact h)
              clear FIN
              go_wp2_with fail
              go_end0
              exact ⟨rfl, d1, MM.out.1, MM.out.2, SS3.out⟩
        · by_cases k2 : a < r
          · have za1 : (r : Int) < (m : Int) := by omega
            have za2 : ¬ (m : Int) < (e : Int) := by omega
            have zb1 : (a : Int) < (r : Int) := by omega
            have zb2 : ¬ (r : Int) < (q : Int) := by omega
            have zc1 : (q : Int) < (e : Int) := by omega
            have zc2 : (e : Int) < (b : Int) := by omega
            have SS2 : Aside (SB enc k w0 blk off d wr) := S1
            have P1 : Aside (PermIn a b d d) := permIn_refl _ _ _
            have HH : Aside (Halves (ltOf cf) a r q e b d) := HV.out d (fun t => by rw [ro_id r m e _ (Or.inr (by omega)) g2 g4])
            have hd1 : d.size = size := hs
            clear S1 HV
            have SS3 : Aside (SB enc k w0 blk off d _) := SS2.out
            have P2 : Aside (PermIn a q d d) := permIn_refl _ _ _
            have SO2 : Aside (SortedIn (ltOf cf) a q d) := (by have h := HH.out.l1; rw [show r = q by omega] at h; exact h : SortedIn (ltOf cf) a q d)
            have hd2 : d.size = size := hd1
            clear SS2
            have fin : ∀ d3, PermIn q b d d3 → SortedIn (ltOf cf) q b d3 → PermIn a b d d3 ∧ SortedIn (ltOf cf) a b d3 := fun d3 p s => by
              have z := halves_done HH.out (by omega) (by omega) (by omega) P2.out SO2.out p s
              exact ⟨permIn_trans _ _ _ _ _ P1.out z.1, z.2⟩
            have FIN : Aside _ := fin
            clear fin
            go_wp2_with fail
            refine (IH q e b d _ (by omega) hd2 SS3.out (by omega) (by omega) hb (sorted_keep HH.out.r1 P2.out (Or.inr (Nat.le_refl _))) (sorted_keep HH.out.r2 P2.out (Or.inr (by omega)))).mono ?_
            rintro e1 w3 ⟨rfl, d3, M1, M2, S4⟩
            have SS4 : Aside (SB enc k w0 blk off d3 w3) := S4
            have MM : Aside _ := FIN.out d3 M1 M2
            clear S4 M1 M2 FIN
            go_wp2_with fail
            go_end0
            exact ⟨rfl, d3, MM.out.1, MM.out.2, SS4.out⟩
          · have za1 : (r : Int) < (m : Int) := by omega
            have za2 : ¬ (m : Int) < (e : Int) := by omega
            have zb1 : ¬ (a : Int) < (r : Int) := by omega
            have zc1 : (q : Int) < (e : Int) := by omega
            have zc2 : (e : Int) < (b : Int) := by omega
            have SS2 : Aside (SB enc k w0 blk off d wr) := S1
            have P1 : Aside (PermIn a b d d) := permIn_refl _ _ _
            have HH : Aside (Halves (ltOf cf) a r q e b d) := HV.out d (fun t => by rw [ro_id r m e _ (Or.inr (by omega)) g2 g4])
            have hd1 : d.size = size := hs
            clear S1 HV
            have SS3 : Aside (SB enc k w0 blk off d _) := SS2.out
            have P2 : Aside (PermIn a q d d) := permIn_refl _ _ _
            have SO2 : Aside (SortedIn (ltOf cf) a q d) := (by have h := HH.out.l2; rw [show r = a by omega] at h; exact h : SortedIn (ltOf cf) a q d)
            have hd2 : d.size = size := hd1
            clear SS2
            have fin : ∀ d3, PermIn q b d d3 → SortedIn (ltOf cf) q b d3 → PermIn a b d d3 ∧ SortedIn (ltOf cf) a b d3 := fun d3 p s => by
              have z := halves_done HH.out (by omega) (by omega) (by omega) P2.out SO2.out p s
              exact ⟨permIn_trans _ _ _ _ _ P1.out z.1, z.2⟩
            have FIN : Aside _ := fin
            clear fin
            go_wp2_with fail
            refine (IH q e b d _ (by omega) hd2 SS3.out (by omega) (by omega) hb (sorted_keep HH.out.r1 P2.out (Or.inr (Nat.le_refl _))) (sorted_keep HH.out.r2 P2.out (Or.inr (by omega)))).mono ?_
            rintro e1 w3 ⟨rfl, d3, M1, M2, S4⟩
            have SS4 : Aside (SB enc k w0 blk off d3 w3) := S4
            have MM : Aside _ := FIN.out d3 M1 M2
            clear S4 M1 M2 FIN
            go_wp2_with fail
            go_end0
            exact ⟨rfl, d3, MM.out.1, MM.out.2, SS4.out⟩
  · have hqz : ¬ (q : Int) < (m : Int) := by omega
    have HSA : Hid (s0 = a ∧ r0 = m) := by show _ ∧ _; omega
    clear h0
    go_enter Tryz.func166, Tryz.ntmps166
    go_wp2_with fail
    go_loopw [20, 21] (fun vi vj wr => ∃ (s r : Nat), vi = .int .i64 s ∧ vj = .int .i64 r ∧ s0 ≤ s ∧ s ≤ r ∧ r ≤ r0 ∧ Aside (Cut (ltOf cf) d s0 r0 pp s r) ∧ Aside (SB enc k w0 blk off d wr)) (fun vi vj _ => (intOf vj).toNat - (intOf vi).toNat)
    case atStart => exact ⟨s0, r0, by rw [HSA.out.1], by rw [HSA.out.2], Nat.le_refl _, u2, Nat.le_refl _, Cut.start u2, S0⟩
    case round =>
      clear S0
      obtain ⟨s, r, rfl, rfl, hs1, hs2, hs3, HC, S1⟩ := hrel
      by_cases hlt : s < r
      · have hltz : (s : Int) < (r : Int) := by omega
        obtain ⟨c, hc⟩ : ∃ c : Nat, c = (s + r) / 2 := ⟨_, rfl⟩
        have hc1 : s ≤ c := by omega
        have hc2 : c < r := by omega
        have hce : ((s : Int) + (r : Int)) / 2 = (c : Int) := by omega
        have hpc : (pp : Int) - (c : Int) = ((pp - c : Nat) : Int) := by omega
        clear hc
        cases hl : ltOf cf d[pp - c]! d[c]! with
        | true =>
          have HL : Aside _ := hl
          clear hl
          go_wp2_with fail
          have ea1 : (((pp - c : Nat) : Int)).toNat = pp - c := by omega
          have pa1 : (0 : Int) ≤ ((pp - c : Nat) : Int) := by omega
          have ba1 : ((pp - c : Nat) : Int) < (size : Int) := by omega
          have ra1 : IntKind.i64.wrap (((pp - c : Nat) : Int)) = ((pp - c : Nat) : Int) := by rw [IntKind.wrap_i64]; omega
          have ec1 : ((c : Int)).toNat = c := by omega
          have pc1 : (0 : Int) ≤ (c : Int) := by omega
          have bc1 : (c : Int) < (size : Int) := by omega
          have rc1 : IntKind.i64.wrap ((c : Int)) = (c : Int) := by rw [IntKind.wrap_i64]; omega
          obtain ⟨x1, hx1⟩ : ∃ x, d[pp - c]! = x := ⟨_, rfl⟩
          obtain ⟨y1, hy1⟩ : ∃ x, d[c]! = x := ⟨_, rfl⟩
          have la1 := S1.out.ld R (pp - c) (by omega)
          have lb1 := S1.out.ld R (c) (by omega)
          rw [hx1] at la1
          rw [hy1] at lb1
          have hc1 := S1.out.cmp R (by omega) x1 y1
          have hv1 : cf x1 y1 < 0 := by have q := HL.out; rw [hx1, hy1] at q; exact of_decide_eq_true q
          have hd1 : decide (cf x1 y1 < 0) = true := decide_eq_true hv1
          clear hx1 hy1
          go_wp2_with fail
          refine wp_region_below (by kernel_rfl) (by kernel_rfl) ?_
          repeat (quiet_step ((go_at_fn g; exact hc1 _)))
          refine wpQuiet_nil ?_
          intro _ hw'
          obtain ⟨pq, hw''⟩ := hw'
          subst hw''
          have S2 : Aside (SB enc k w0 blk off d pq.world) := S1.out.bw R.hblk pq
          clear la1 lb1 hc1 S1 hd1 hv1
          generalize pq.world = wq at S2 ⊢
          clear pq
          go_wp2
          go_roundw
          case rel => exact ⟨s, c, rfl, rfl, hs1, hc1, by omega, HC.out.no' hO HA.out HB.out hc1 hc2 u1 u3 (by omega) (by omega) HL.out, S2⟩
          case measure => simp [intOf]; omega
        | false =>
          have HL : Aside _ := hl
          clear hl
          go_wp2_with fail
          have ea1 : (((pp - c : Nat) : Int)).toNat = pp - c := by omega
          have pa1 : (0 : Int) ≤ ((pp - c : Nat) : Int) := by omega
          have ba1 : ((pp - c : Nat) : Int) < (size : Int) := by omega
          have ra1 : IntKind.i64.wrap (((pp - c : Nat) : Int)) = ((pp - c : Nat) : Int) := by rw [IntKind.wrap_i64]; omega
          have ec1 : ((c : Int)).toNat = c := by omega
          have pc1 : (0 : Int) ≤ (c : Int) := by omega
          have bc1 : (c : Int) < (size : Int) := by omega
          have rc1 : IntKind.i64.wrap ((c : Int)) = (c : Int) := by rw [IntKind.wrap_i64]; omega
          obtain ⟨x1, hx1⟩ : ∃ x, d[pp - c]! = x := ⟨_, rfl⟩
          obtain ⟨y1, hy1⟩ : ∃ x, d[c]! = x := ⟨_, rfl⟩
          have la1 := S1.out.ld R (pp - c) (by omega)
          have lb1 := S1.out.ld R (c) (by omega)
          rw [hx1] at la1
          rw [hy1] at lb1
          have hc1 := S1.out.cmp R (by omega) x1 y1
          have hv1 : ¬ cf x1 y1 < 0 := by have q := HL.out; rw [hx1, hy1] at q; exact of_decide_eq_false q
          have hd1 : decide (cf x1 y1 < 0) = false := decide_eq_false hv1
          clear hx1 hy1
          go_wp2_with fail
          refine wp_region_below (by kernel_rfl) (by kernel_rfl) ?_
          repeat (quiet_step ((go_at_fn g; exact hc1 _)))
          refine wpQuiet_nil ?_
          intro _ hw'
          obtain ⟨pq, hw''⟩ := hw'
          subst hw''
          have S2 : Aside (SB enc k w0 blk off d pq.world) := S1.out.bw R.hblk pq
          clear la1 lb1 hc1 S1 hd1 hv1
          generalize pq.world = wq at S2 ⊢
          clear pq
          go_wp2
          go_roundw
          case rel => exact ⟨c + 1, r, by go_num, rfl, by omega, by omega, hs3, HC.out.yes' hO HA.out HB.out hc1 hc2 u1 u3 (by omega) (by omega) HL.out, S2⟩
          case measure => simp [intOf]; omega
      · obtain rfl : r = s := by omega
        have hltz : ¬ (r : Int) < (r : Int) := by omega
        obtain ⟨e, hee⟩ : ∃ e : Nat, e = q + m - r := ⟨_, rfl⟩
        have hez : (q : Int) + (m : Int) - (r : Int) = (e : Int) := by omega
        have hee2 : e + r = q + m := by have := HQ.out; have := H0.out; omega
        have hbd : a ≤ r ∧ r ≤ m ∧ r ≤ q ∧ m ≤ e ∧ q ≤ e ∧ e ≤ b := by have := HQ.out; have := H0.out; omega
        obtain ⟨g1, g2, g3, g4, g5, g6⟩ := hbd
        have HV : Aside (∀ d' : Array α, (∀ t, d'[t]! = ro r m e (fun t => d[t]!) t) → Halves (ltOf cf) a r q e b d') := fun d' hv => by
          rw [hee] at hv ⊢
          exact (halves hO (by omega) (by omega) HA.out HB.out q s0 r0 r HQ.out H0.out (by rw [show q + m - 1 = pp by omega]; exact HC.out) hv).1
        clear hee HC
        by_cases k0 : r < m
        · by_cases k2 : a < r
          · by_cases k4 : e < b
            · have za1 : (r : Int) < (m : Int) := by omega
              have za2 : (m : Int) < (e : Int) := by omega
              have zb1 : (a : Int) < (r : Int) := by omega
              have zb2 : (r : Int) < (q : Int) := by omega
              have zc1 : (q : Int) < (e : Int) := by omega
              have zc2 : (e : Int) < (b : Int) := by omega
              go_wp2_with fail
              refine (rotate_any enc k HK.out g cb cf blk off cap size r m e a b d w0 _ R hs S1.out g1 (by omega) (by omega) g6 hb hsz).mono ?_
              rintro e1 w1 ⟨rfl, d1, M1, S2⟩
              have SS2 : Aside (SB enc k w0 blk off d1 w1) := S2
              have P1 : Aside (PermIn a b d d1) := M1.perm
              have HH : Aside (Halves (ltOf cf) a r q e b d1) := HV.out d1 M1.val
              have hd1 : d1.size = size := M1.size.trans hs
              clear S2 M1 S1 HV
              go_wp2_with fail
              refine (IH a r q d1 _ (by omega) hd1 SS2.out (by omega) (by omega) (by omega) HH.out.l1 HH.out.l2).mono ?_
              rintro e1 w2 ⟨rfl, d2, M1, M2, S3⟩
              have SS3 : Aside (SB enc k w0 blk off d2 w2) := S3
              have P2 : Aside (PermIn a q d1 d2) := M1
              have SO2 : Aside (SortedIn (ltOf cf) a q d2) := M2
              have hd2 : d2.size = size := M1.1.trans hd1
              clear S3 M1 M2 SS2
              have fin : ∀ d3, PermIn q b d2 d3 → SortedIn (ltOf cf) q b d3 → PermIn a b d d3 ∧ SortedIn (ltOf cf) a b d3 := fun d3 p s => by
                have z := halves_done HH.out (by omega) (by omega) (by omega) P2.out SO2.out p s
                exact ⟨permIn_trans _ _ _ _ _ P1.out z.1, z.2⟩
              have FIN : Aside _ := fin
              clear fin
              go_wp2_with fail
              refine (IH q e b d2 _ (by omega) hd2 SS3.out (by omega) (by omega) hb (sorted_keep HH.out.r1 P2.out (Or.inr (Nat.le_refl _))) (sorted_keep HH.out.r2 P2.out (Or.inr (by omega)))).mono ?_
              rintro e1 w3 ⟨rfl, d3, M1, M2, S4⟩
              have SS4 : Aside (SB enc k w0 blk off d3 w3) := S4
              have MM : Aside _ := FIN.out d3 M1 M2
              clear S4 M1 M2 FIN
              go_wp2_with fail
              go_end0
              exact ⟨rfl, d3, MM.out.1, MM.out.2, SS4.out⟩
            · have za1 : (r : Int) < (m : Int) := by omega
              have za2 : (m : Int) < (e : Int) := by omega
              have zb1 : (a : Int) < (r : Int) := by omega
              have zb2 : (r : Int) < (q : Int) := by omega
              have zc1 : (q : Int) < (e : Int) := by omega
              have zc2 : ¬ (e : Int) < (b : Int) := by omega
              go_wp2_with fail
              refine (rotate_any enc k HK.out g cb cf blk off cap size r m e a b d w0 _ R hs S1.out g1 (by omega) (by omega) g6 hb hsz).mono ?_
              rintro e1 w1 ⟨rfl, d1, M1, S2⟩
              have SS2 : Aside (SB enc k w0 blk off d1 w1) := S2
              have P1 : Aside (PermIn a b d d1) := M1.perm
              have HH : Aside (Halves (ltOf cf) a r q e b d1) := HV.out d1 M1.val
              have hd1 : d1.size = size := M1.size.trans hs
              clear S2 M1 S1 HV
              go_wp2_with fail
              refine (IH a r q d1 _ (by omega) hd1 SS2.out (by omega) (by omega) (by omega) HH.out.l1 HH.out.l2).mono ?_
              rintro e1 w2 ⟨rfl, d2, M1, M2, S3⟩
              have SS3 : Aside (SB enc k w0 blk off d2 w2) := S3
              have P2 : Aside (PermIn a q d1 d2) := M1
              have SO2 : Aside (SortedIn (ltOf cf) a q d2) := M2
              have hd2 : d2.size = size := M1.1.trans hd1
              clear S3 M1 M2 SS2
              have fin : ∀ d3, PermIn q b d2 d3 → SortedIn (ltOf cf) q b d3 → PermIn a b d d3 ∧ SortedIn (ltOf cf) a b d3 := fun d3 p s => by
                have z := halves_done HH.out (by omega) (by omega) (by omega) P2.out SO2.out p s
                exact ⟨permIn_trans _ _ _ _ _ P1.out z.1, z.2⟩
              have FIN : Aside _ := fin
              clear fin
              have MM : Aside _ := FIN.out d2 (permIn_refl _ _ _) (by have h := sorted_keep HH.out.r1 P2.out (Or.inr (by omega)); rw [show e = b by omega] at h; exact h)
              clear FIN
              go_wp2_with fail
              go_end0
              exact ⟨rfl, d2, MM.out.1, MM.out.2, SS3.out⟩
          · by_cases k4 : e < b
            · have za1 : (r : Int) < (m : Int) := by omega
              have za2 : (m : Int) < (e : Int) := by omega
              have zb1 : ¬ (a : Int) < (r : Int) := by omega
              have zc1 : (q : Int) < (e : Int) := by omega
              have zc2 : (e : Int) < (b : Int) := by omega
              go_wp2_with fail
              refine (rotate_any enc k HK.out g cb cf blk off cap size r m e a b d w0 _ R hs S1.out g1 (by omega) (by omega) g6 hb hsz).mono ?_
              rintro e1 w1 ⟨rfl, d1, M1, S2⟩
              have SS2 : Aside (SB enc k w0 blk off d1 w1) := S2
              have P1 : Aside (PermIn a b d d1) := M1.perm
              have HH : Aside (Halves (ltOf cf) a r q e b d1) := HV.out d1 M1.val
              have hd1 : d1.size = size := M1.size.trans hs
              clear S2 M1 S1 HV
              have SS3 : Aside (SB enc k w0 blk off d1 _) := SS2.out
              have P2 : Aside (PermIn a q d1 d1) := permIn_refl _ _ _
              have SO2 : Aside (SortedIn (ltOf cf) a q d1) := (by have h := HH.out.l2; rw [show r = a by omega] at h; exact h : SortedIn (ltOf cf) a q d1)
              have hd2 : d1.size = size := hd1
              clear SS2
              have fin : ∀ d3, PermIn q b d1 d3 → SortedIn (ltOf cf) q b d3 → PermIn a b d d3 ∧ SortedIn (ltOf cf) a b d3 := fun d3 p s => by
                have z := halves_done HH.out (by omega) (by omega) (by omega) P2.out SO2.out p s
                exact ⟨permIn_trans _ _ _ _ _ P1.out z.1, z.2⟩
              have FIN : Aside _ := fin
              clear fin
              go_wp2_with fail
              refine (IH q e b d1 _ (by omega) hd2 SS3.out (by omega) (by omega) hb (sorted_keep HH.out.r1 P2.out (Or.inr (Nat.le_refl _))) (sorted_keep HH.out.r2 P2.out (Or.inr (by omega)))).mono ?_
              rintro e1 w3 ⟨rfl, d3, M1, M2, S4⟩
              have SS4 : Aside (SB enc k w0 blk off d3 w3) := S4
              have MM : Aside _ := FIN.out d3 M1 M2
              clear S4 M1 M2 FIN
              go_wp2_with fail
              go_end0
              exact ⟨rfl, d3, MM.out.1, MM.out.2, SS4.out⟩
            · have za1 : (r : Int) < (m : Int) := by omega
              have za2 : (m : Int) < (e : Int) := by omega
              have zb1 : ¬ (a : Int) < (r : Int) := by omega
              have zc1 : (q : Int) < (e : Int) := by omega
              have zc2 : ¬ (e : Int) < (b : Int) := by omega
              go_wp2_with fail
              refine (rotate_any enc k HK.out g cb cf blk off cap size r m e a b d w0 _ R hs S1.out g1 (by omega) (by omega) g6 hb hsz).mono ?_
              rintro e1 w1 ⟨rfl, d1, M1, S2⟩
              have SS2 : Aside (SB enc k w0 blk off d1 w1) := S2
              have P1 : Aside (PermIn a b d d1) := M1.perm
              have HH : Aside (Halves (ltOf cf) a r q e b d1) := HV.out d1 M1.val
              have hd1 : d1.size = size := M1.size.trans hs
              clear S2 M1 S1 HV
              have SS3 : Aside (SB enc k w0 blk off d1 _) := SS2.out
              have P2 : Aside (PermIn a q d1 d1) := permIn_refl _ _ _
              have SO2 : Aside (SortedIn (ltOf cf) a q d1) := (by have h := HH.out.l2; rw [show r = a by omega] at h; exact h : SortedIn (ltOf cf) a q d1)
              have hd2 : d1.size = size := hd1
              clear SS2
              have fin : ∀ d3, PermIn q b d1 d3 → SortedIn (ltOf cf) q b d3 → PermIn a b d d3 ∧ SortedIn (ltOf cf) a b d3 := fun d3 p s => by
                have z := halves_done HH.out (by omega) (by omega) (by omega) P2.out SO2.out p s
                exact ⟨permIn_trans _ _ _ _ _ P1.out z.1, z.2⟩
              have FIN : Aside _ := fin
              clear fin
              have MM : Aside _ := FIN.out d1 (permIn_refl _ _ _) (by have h := sorted_keep HH.out.r1 P2.out (Or.inr (by omega)); rw [show e = b by omega] at h; exact h)
              clear FIN
              go_wp2_with fail
              go_end0
              exact ⟨rfl, d1, MM.out.1, MM.out.2, SS3.out⟩
        · by_cases k2 : r < q
          · have za1 : ¬ (r : Int) < (m : Int) := by omega
            have zb1 : (a : Int) < (r : Int) := by omega
            have zb2 : (r : Int) < (q : Int) := by omega
            have zc1 : ¬ (q : Int) < (e : Int) := by omega
            have SS2 : Aside (SB enc k w0 blk off d wr) := S1
            have P1 : Aside (PermIn a b d d) := permIn_refl _ _ _
            have HH : Aside (Halves (ltOf cf) a r q e b d) := HV.out d (fun t => by rw [ro_id r m e _ (Or.inl (by omega)) g2 g4])
            have hd1 : d.size = size := hs
            clear S1 HV
            go_wp2_with fail
            refine (IH a r q d _ (by omega) hd1 SS2.out (by omega) (by omega) (by omega) HH.out.l1 HH.out.l2).mono ?_
            rintro e1 w2 ⟨rfl, d2, M1, M2, S3⟩
            have SS3 : Aside (SB enc k w0 blk off d2 w2) := S3
            have P2 : Aside (PermIn a q d d2) := M1
            have SO2 : Aside (SortedIn (ltOf cf) a q d2) := M2
            have hd2 : d2.size = size := M1.1.trans hd1
            clear S3 M1 M2 SS2
            have fin : ∀ d3, PermIn q b d2 d3 → SortedIn (ltOf cf) q b d3 → PermIn a b d d3 ∧ SortedIn (ltOf cf) a b d3 := fun d3 p s => by
              have z := halves_done HH.out (by omega) (by omega) (by omega) P2.out SO2.out p s
              exact ⟨permIn_trans _ _ _ _ _ P1.out z.1, z.2⟩
            have FIN : Aside _ := fin
            clear fin
            have MM : Aside _ := FIN.out d2 (permIn_refl _ _ _) (by have h := sorted_keep HH.out.r2 P2.out (Or.inr (by omega)); rw [show e = q by omega] at h; exact h)
            clear FIN
            go_wp2_with fail
            go_end0
            exact ⟨rfl, d2, MM.out.1, MM.out.2, SS3.out⟩
          · have za1 : ¬ (r : Int) < (m : Int) := by omega
            have zb1 : (a : Int) < (r : Int) := by omega
            have zb2 : ¬ (r : Int) < (q : Int) := by omega
            have zc1 : ¬ (q : Int) < (e : Int) := by omega
            have SS2 : Aside (SB enc k w0 blk off d wr) := S1
            have P1 : Aside (PermIn a b d d) := permIn_refl _ _ _
            have HH : Aside (Halves (ltOf cf) a r q e b d) := HV.out d (fun t => by rw [ro_id r m e _ (Or.inl (by omega)) g2 g4])
            have hd1 : d.size = size := hs
            clear S1 HV
            have SS3 : Aside (SB enc k w0 blk off d _) := SS2.out
            have P2 : Aside (PermIn a q d d) := permIn_refl _ _ _
            have SO2 : Aside (SortedIn (ltOf cf) a q d) := (by have h := HH.out.l1; rw [show r = q by omega] at h; exact h : SortedIn (ltOf cf) a q d)
            have hd2 : d.size = size := hd1
            clear SS2
            have fin : ∀ d3, PermIn q b d d3 → SortedIn (ltOf cf) q b d3 → PermIn a b d d3 ∧ SortedIn (ltOf cf) a b d3 := fun d3 p s => by
              have z := halves_done HH.out (by omega) (by omega) (by omega) P2.out SO2.out p s
              exact ⟨permIn_trans _ _ _ _ _ P1.out z.1, z.2⟩
            have FIN : Aside _ := fin
            clear fin
            have MM : Aside _ := FIN.out d (permIn_refl _ _ _) (by have h := sorted_keep HH.out.r2 P2.out (Or.inr (by omega)); rw [show e = q by omega] at h; exact h)
            clear FIN
            go_wp2_with fail
            go_end0
            exact ⟨rfl, d, MM.out.1, MM.out.2, SS3.out⟩

end Go.Proofs.YthhbbmebfmfgjaaGreatDoor
