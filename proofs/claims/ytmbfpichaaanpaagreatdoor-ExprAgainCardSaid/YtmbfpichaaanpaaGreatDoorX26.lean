import Derived.Test.YtmbfpichaaanpaaGreatDoorX25
/-! The reader of expressions: whole numbers. -/
namespace Go.Proofs.YtmbfpichaaanpaaGreatDoor
open Go.RowKit Ut Rx Mt

def PNum (w : World) (t : Nat) (lv : Value) (v : Nat) (l : List UInt8) (bad : Bool) (n : Int) (e : Ending) (w' : World) : Prop := e = .returned (.int .u64 (v : Int)) ∧ w.grownBy w' (some t) ∧ Px w' t lv l bad n
theorem digC_iff (c : UInt8) : Ex.digC c = true ↔ (48 ≤ (c.toNat : Int) ∧ (c.toNat : Int) ≤ 57) := by
  unfold Ex.digC
  simp only [Bool.and_eq_true, decide_eq_true_eq]
  omega
theorem who_cons (most n k : Nat) (c : UInt8) (t : List UInt8) : Ex.whoGo most n k (c :: t) = if Ex.digC c then (if (most - (c.toNat - 48)) / 10 < n then none else Ex.whoGo most (10 * n + (c.toNat - 48)) (k + 1) t) else some (n, k, c :: t) := by rw [Ex.whoGo]
theorem who_nil (most n k : Nat) : Ex.whoGo most n k [] = some (n, k, []) := by rw [Ex.whoGo]
set_option maxRecDepth 100000 in
set_option maxHeartbeats 4000000 in
theorem wholeX_any (t : Nat) (lv : Value) (p : Ex.P) (most : Nat) (w : World) (h : Px w t lv p.s p.bad p.e) (hll : p.s.length ≤ 1000000) (hm : 9 ≤ most) (hm2 : most < 18446744073709551616) : Calls Tryz.prog 73 #[.pointer (some ⟨t, 0, none⟩), .int .u64 (most : Int)] w (PNum w t lv (Ex.wholeP most p).1 (Ex.wholeP most p).2.s (Ex.wholeP most p).2.bad p.e) := by
  have BA := Lib.hid (bareX_any t lv p.s p.bad p.e w h)
  have hlb : (bareF p.s).length ≤ 1000000 := Nat.le_trans (List.dropWhile_sublist _).length_le hll
  have EQ : Hid ((match Ex.whoGo most 0 0 (bareF p.s) with
    | none => (0, bareF p.s, true)
    | some (n, k, r) => (n, r, p.bad || decide (k = 0) || (decide (1 < k) && decide ((bareF p.s).head? = some 48)))) = ((Ex.wholeP most p).1, (Ex.wholeP most p).2.s, (Ex.wholeP most p).2.bad)) := by
    show _ = _
    unfold Ex.wholeP Ex.bareP
    cases Ex.whoGo most 0 0 (bareF p.s) <;> rfl
  generalize Ex.wholeP most p = R at *
  obtain ⟨r1, r2⟩ := R
  obtain ⟨l0, pl, bad, n⟩ := p
  simp only at *
  generalize r2.s = rs at *
  generalize r2.bad = rb at *
  clear h hll r2
  generalize bareF l0 = l at *
  clear pl
  go_enter Tryz.func73, Tryz.ntmps73
  go_wp2_with fail
  refine BA.out.mono ?_
  rintro e1 w1 ⟨rfl, hg1, s, h0, rfl⟩
  have HG := Lib.hid hg1
  have HS := Lib.hid h0
  obtain ⟨c0, c1, c2, c3, f0, f1, f2, f3⟩ := px_cells h0
  have hsz : s.size ≤ 1000000 := by rw [tl_len] at hlb; exact hlb
  clear h0 BA hg1 hlb
  go_wp2_with fail
  go_loopg [5, 6] s.size (fun gk v5 v6 wr => ∃ (k m : Nat), v5 = .int .u64 m ∧ v6 = .int .i64 k ∧ k + gk = s.size ∧ m ≤ most ∧ wr = w1 ∧ Hid (Ex.whoGo most m k ((by_ s).drop k) = Ex.whoGo most 0 0 (by_ s)))
  case atStart => exact ⟨0, 0, rfl, rfl, by omega, by omega, rfl, by show _ = _; rfl⟩
  case round =>
    obtain ⟨k, m, rfl, rfl, hk, hmm, rfl, HR⟩ := hrel
    by_cases hlt : k < s.size
    · have HC := Lib.hid (drop_two hlt)
      have hle : (k : Int) ≤ s.size := by omega
      have hlti : (k : Int) < s.size := by omega
      cases hd : Ex.digC (s[k]'hlt) with
      | true =>
        have HW : Hid (Ex.whoGo most 0 0 (by_ s) = if (most - ((s[k]'hlt).toNat - 48)) / 10 < m then none else Ex.whoGo most (10 * m + ((s[k]'hlt).toNat - 48)) (k + 1) ((by_ s).drop (k + 1))) := by
          have := HR.out
          rw [HC.out, who_cons, if_pos hd] at this
          exact this.symm
        rw [digC_iff] at hd
        obtain ⟨hd1, hd2⟩ := hd
        obtain ⟨d, hdd⟩ : ∃ d : Nat, (d : Int) = ((s[k]'hlt).toNat : Int) - 48 := ⟨(s[k]'hlt).toNat - 48, by omega⟩
        have hdn : (s[k]'hlt).toNat - 48 = d := by omega
        rw [hdn] at HW
        have hd9 : d ≤ 9 := by omega
        have x1 : IntKind.u8.wrap (((s[k]'hlt).toNat : Int) - 48) = ((s[k]'hlt).toNat : Int) - 48 := IntWalk.u8_in _ (by omega)
        have x2 : IntKind.u64.wrap (((s[k]'hlt).toNat : Int) - 48) = ((s[k]'hlt).toNat : Int) - 48 := IntWalk.u64_in _ (by omega)
        have x3 : IntKind.u64.wrap ((most : Int) - d) = (most : Int) - d := IntWalk.u64_in _ (by omega)
        have x4 : IntKind.u64.wrap (Int.tdiv ((most : Int) - d) 10) = (((most - d) / 10 : Nat) : Int) := by
          rw [Int.tdiv_eq_ediv_of_nonneg (by omega), IntWalk.u64_in _ (by omega)]
          omega
        by_cases hq : (most - d) / 10 < m
        · have E : Hid ((0, by_ s, true) = (r1, rs, rb)) := by
            have := EQ.out
            rw [HW.out, if_pos hq] at this
            exact this
          rw [Prod.mk.injEq, Prod.mk.injEq] at E
          obtain ⟨rfl, rfl, rfl⟩ := E
          have hqi : (((most - d) / 10 : Nat) : Int) < (m : Int) := by omega
          clear EQ HW HR HC hdn
          generalize (((most - d) / 10 : Nat) : Int) = qq at *
          go_upto_region 6 with fail
          rw [← hdd]
          go_wp2_with fail
          go_ret
          exact ⟨rfl, grown_trans HG.out (grown_setCell _ _ _ _), s, px_put2 HS.out, rfl⟩
        · have hqi : ¬ (((most - d) / 10 : Nat) : Int) < (m : Int) := by omega
          have R2 : Hid (Ex.whoGo most (10 * m + d) (k + 1) ((by_ s).drop (k + 1)) = Ex.whoGo most 0 0 (by_ s)) := by show _ = _; rw [HW.out, if_neg hq]
          have hm10 : 10 * m + d ≤ most := by omega
          have x6 : IntKind.u64.wrap (10 * (m : Int)) = 10 * (m : Int) := IntWalk.u64_in _ (by omega)
          have x7 : IntKind.u64.wrap (10 * (m : Int) + d) = 10 * (m : Int) + d := IntWalk.u64_in _ (by omega)
          clear EQ HW HR HC hdn
          generalize (((most - d) / 10 : Nat) : Int) = qq at *
          go_upto_region 6 with fail
          rw [← hdd]
          go_wp2_with fail
          go_roundg (s.size - (k + 1))
          case measure => omega
          case rel => exact ⟨k + 1, 10 * m + d, by go_num, by go_num, by omega, hm10, rfl, R2⟩
      | false =>
        have FIN : Hid (Ex.whoGo most 0 0 (by_ s) = some (m, k, (by_ s).drop k)) := by
          have := HR.out
          rw [HC.out, who_cons, if_neg (by rw [hd]; simp), ← HC.out] at this
          exact this.symm
        have hd2 : ¬ Ex.digC (s[k]'hlt) = true := by rw [hd]; simp
        rw [digC_iff] at hd2
        have hd3 : ((s[k]'hlt).toNat : Int) < 48 ∨ 57 < ((s[k]'hlt).toNat : Int) := by omega
        clear HR HC hd hd2
        rcases hd3 with hd3 | hd3
        · have hd4 : ¬ 48 ≤ ((s[k]'hlt).toNat : Int) := by omega
          by_cases k0 : k = 0
          · have hflag : (bad || decide (k = 0) || (decide (1 < k) && decide ((by_ s).head? = some 48))) = true := by simp [k0]
            have kk : ((k : Int) == 0) = true := by simp [k0]
            subst k0
            have E : Hid ((m, (by_ s).drop 0, true) = (r1, rs, rb)) := by
              have := EQ.out
              rw [FIN.out] at this
              simp only at this
              show _ = _
              rw [← this]; simp
            rw [Prod.mk.injEq, Prod.mk.injEq] at E
            obtain ⟨rfl, rfl, rfl⟩ := E
            clear EQ FIN hflag
            go_wp2_with fail
            go_ret
            exact ⟨rfl, grown_trans (grown_trans HG.out (grown_setCell _ _ _ _)) (grown_setCell _ _ _ _), s, px_put0 (px_put2 HS.out), by simp⟩
          · have kk : ((k : Int) == 0) = false := by
              have : (k : Int) ≠ 0 := by omega
              simpa using this
            by_cases k1 : 1 < k
            · have kk1 : (1 : Int) < k := by omega
              have hp : 0 < s.size := by omega
              by_cases h48 : (s[0]'hp) = 48
              · have hflag : (bad || decide (k = 0) || (decide (1 < k) && decide ((by_ s).head? = some 48))) = true := by rw [headC, dif_pos hp]; simp [k1, h48]
                have h48i : (((s[0]'hp).toNat : Int) == 48) = true := by rw [h48]; rfl
                clear h48
                have E : Hid ((m, (by_ s).drop k, true) = (r1, rs, rb)) := by
                  have := EQ.out
                  rw [FIN.out] at this
                  simp only at this
                  rw [hflag] at this
                  exact this
                rw [Prod.mk.injEq, Prod.mk.injEq] at E
                obtain ⟨rfl, rfl, rfl⟩ := E
                clear EQ FIN hflag
                go_wp2_with fail
                go_ret
                exact ⟨rfl, grown_trans (grown_trans HG.out (grown_setCell _ _ _ _)) (grown_setCell _ _ _ _), s.extract k s.size, px_put0 (px_put2 HS.out), by rw [by_drop]⟩
              · have hflag : (bad || decide (k = 0) || (decide (1 < k) && decide ((by_ s).head? = some 48))) = bad := by rw [headC, dif_pos hp]; simp [k0, h48]
                have h48i : (((s[0]'hp).toNat : Int) == 48) = false := by
                  have : ((s[0]'hp).toNat : Int) ≠ 48 := fun e => h48 (UInt8.toNat_inj.1 (by show _ = 48; omega))
                  simpa using this
                clear h48
                have E : Hid ((m, (by_ s).drop k, bad) = (r1, rs, rb)) := by
                  have := EQ.out
                  rw [FIN.out] at this
                  simp only at this
                  rw [hflag] at this
                  exact this
                rw [Prod.mk.injEq, Prod.mk.injEq] at E
                obtain ⟨rfl, rfl, rfl⟩ := E
                clear EQ FIN hflag
                go_wp2_with fail
                go_ret
                exact ⟨rfl, grown_trans HG.out (grown_setCell _ _ _ _), s.extract k s.size, px_put0 HS.out, by rw [by_drop]⟩
            · have kk1 : ¬ (1 : Int) < k := by omega
              have hflag : (bad || decide (k = 0) || (decide (1 < k) && decide ((by_ s).head? = some 48))) = bad := by simp [k0, k1]
              have E : Hid ((m, (by_ s).drop k, bad) = (r1, rs, rb)) := by
                have := EQ.out
                rw [FIN.out] at this
                simp only at this
                rw [hflag] at this
                exact this
              rw [Prod.mk.injEq, Prod.mk.injEq] at E
              obtain ⟨rfl, rfl, rfl⟩ := E
              clear EQ FIN hflag
              go_wp2_with fail
              go_ret
              exact ⟨rfl, grown_trans HG.out (grown_setCell _ _ _ _), s.extract k s.size, px_put0 HS.out, by rw [by_drop]⟩
        · have hd4 : 48 ≤ ((s[k]'hlt).toNat : Int) := by omega
          have hd5 : ¬ ((s[k]'hlt).toNat : Int) ≤ 57 := by omega
          by_cases k0 : k = 0
          · have hflag : (bad || decide (k = 0) || (decide (1 < k) && decide ((by_ s).head? = some 48))) = true := by simp [k0]
            have kk : ((k : Int) == 0) = true := by simp [k0]
            subst k0
            have E : Hid ((m, (by_ s).drop 0, true) = (r1, rs, rb)) := by
              have := EQ.out
              rw [FIN.out] at this
              simp only at this
              show _ = _
              rw [← this]; simp
            rw [Prod.mk.injEq, Prod.mk.injEq] at E
            obtain ⟨rfl, rfl, rfl⟩ := E
            clear EQ FIN hflag
            go_wp2_with fail
            go_ret
            exact ⟨rfl, grown_trans (grown_trans HG.out (grown_setCell _ _ _ _)) (grown_setCell _ _ _ _), s, px_put0 (px_put2 HS.out), by simp⟩
          · have kk : ((k : Int) == 0) = false := by
              have : (k : Int) ≠ 0 := by omega
              simpa using this
            by_cases k1 : 1 < k
            · have kk1 : (1 : Int) < k := by omega
              have hp : 0 < s.size := by omega
              by_cases h48 : (s[0]'hp) = 48
              · have hflag : (bad || decide (k = 0) || (decide (1 < k) && decide ((by_ s).head? = some 48))) = true := by rw [headC, dif_pos hp]; simp [k1, h48]
                have h48i : (((s[0]'hp).toNat : Int) == 48) = true := by rw [h48]; rfl
                clear h48
                have E : Hid ((m, (by_ s).drop k, true) = (r1, rs, rb)) := by
                  have := EQ.out
                  rw [FIN.out] at this
                  simp only at this
                  rw [hflag] at this
                  exact this
                rw [Prod.mk.injEq, Prod.mk.injEq] at E
                obtain ⟨rfl, rfl, rfl⟩ := E
                clear EQ FIN hflag
                go_wp2_with fail
                go_ret
                exact ⟨rfl, grown_trans (grown_trans HG.out (grown_setCell _ _ _ _)) (grown_setCell _ _ _ _), s.extract k s.size, px_put0 (px_put2 HS.out), by rw [by_drop]⟩
              · have hflag : (bad || decide (k = 0) || (decide (1 < k) && decide ((by_ s).head? = some 48))) = bad := by rw [headC, dif_pos hp]; simp [k0, h48]
                have h48i : (((s[0]'hp).toNat : Int) == 48) = false := by
                  have : ((s[0]'hp).toNat : Int) ≠ 48 := fun e => h48 (UInt8.toNat_inj.1 (by show _ = 48; omega))
                  simpa using this
                clear h48
                have E : Hid ((m, (by_ s).drop k, bad) = (r1, rs, rb)) := by
                  have := EQ.out
                  rw [FIN.out] at this
                  simp only at this
                  rw [hflag] at this
                  exact this
                rw [Prod.mk.injEq, Prod.mk.injEq] at E
                obtain ⟨rfl, rfl, rfl⟩ := E
                clear EQ FIN hflag
                go_wp2_with fail
                go_ret
                exact ⟨rfl, grown_trans HG.out (grown_setCell _ _ _ _), s.extract k s.size, px_put0 HS.out, by rw [by_drop]⟩
            · have kk1 : ¬ (1 : Int) < k := by omega
              have hflag : (bad || decide (k = 0) || (decide (1 < k) && decide ((by_ s).head? = some 48))) = bad := by simp [k0, k1]
              have E : Hid ((m, (by_ s).drop k, bad) = (r1, rs, rb)) := by
                have := EQ.out
                rw [FIN.out] at this
                simp only at this
                rw [hflag] at this
                exact this
              rw [Prod.mk.injEq, Prod.mk.injEq] at E
              obtain ⟨rfl, rfl, rfl⟩ := E
              clear EQ FIN hflag
              go_wp2_with fail
              go_ret
              exact ⟨rfl, grown_trans HG.out (grown_setCell _ _ _ _), s.extract k s.size, px_put0 HS.out, by rw [by_drop]⟩
    · have hkl : k = s.size := by omega
      have hki : ¬ (k : Int) < s.size := by omega
      have hle : (k : Int) ≤ s.size := by omega
      have FIN : Hid (Ex.whoGo most 0 0 (by_ s) = some (m, k, (by_ s).drop k)) := by
        have := HR.out
        rw [List.drop_of_length_le (by rw [tl_len]; omega), who_nil] at this
        rw [List.drop_of_length_le (by rw [tl_len]; omega)]
        exact this.symm
      clear hkl HR
      by_cases k0 : k = 0
      · have hflag : (bad || decide (k = 0) || (decide (1 < k) && decide ((by_ s).head? = some 48))) = true := by simp [k0]
        have kk : ((k : Int) == 0) = true := by simp [k0]
        subst k0
        have E : Hid ((m, (by_ s).drop 0, true) = (r1, rs, rb)) := by
          have := EQ.out
          rw [FIN.out] at this
          simp only at this
          show _ = _
          rw [← this]; simp
        rw [Prod.mk.injEq, Prod.mk.injEq] at E
        obtain ⟨rfl, rfl, rfl⟩ := E
        clear EQ FIN hflag
        go_wp2_with fail
        go_ret
        exact ⟨rfl, grown_trans (grown_trans HG.out (grown_setCell _ _ _ _)) (grown_setCell _ _ _ _), s, px_put0 (px_put2 HS.out), by simp⟩
      · have kk : ((k : Int) == 0) = false := by
          have : (k : Int) ≠ 0 := by omega
          simpa using this
        by_cases k1 : 1 < k
        · have kk1 : (1 : Int) < k := by omega
          have hp : 0 < s.size := by omega
          by_cases h48 : (s[0]'hp) = 48
          · have hflag : (bad || decide (k = 0) || (decide (1 < k) && decide ((by_ s).head? = some 48))) = true := by rw [headC, dif_pos hp]; simp [k1, h48]
            have h48i : (((s[0]'hp).toNat : Int) == 48) = true := by rw [h48]; rfl
            clear h48
            have E : Hid ((m, (by_ s).drop k, true) = (r1, rs, rb)) := by
              have := EQ.out
              rw [FIN.out] at this
              simp only at this
              rw [hflag] at this
              exact this
            rw [Prod.mk.injEq, Prod.mk.injEq] at E
            obtain ⟨rfl, rfl, rfl⟩ := E
            clear EQ FIN hflag
            go_wp2_with fail
            go_ret
            exact ⟨rfl, grown_trans (grown_trans HG.out (grown_setCell _ _ _ _)) (grown_setCell _ _ _ _), s.extract k s.size, px_put0 (px_put2 HS.out), by rw [by_drop]⟩
          · have hflag : (bad || decide (k = 0) || (decide (1 < k) && decide ((by_ s).head? = some 48))) = bad := by rw [headC, dif_pos hp]; simp [k0, h48]
            have h48i : (((s[0]'hp).toNat : Int) == 48) = false := by
              have : ((s[0]'hp).toNat : Int) ≠ 48 := fun e => h48 (UInt8.toNat_inj.1 (by show _ = 48; omega))
              simpa using this
            clear h48
            have E : Hid ((m, (by_ s).drop k, bad) = (r1, rs, rb)) := by
              have := EQ.out
              rw [FIN.out] at this
              simp only at this
              rw [hflag] at this
              exact this
            rw [Prod.mk.injEq, Prod.mk.injEq] at E
            obtain ⟨rfl, rfl, rfl⟩ := E
            clear EQ FIN hflag
            go_wp2_with fail
            go_ret
            exact ⟨rfl, grown_trans HG.out (grown_setCell _ _ _ _), s.extract k s.size, px_put0 HS.out, by rw [by_drop]⟩
        · have kk1 : ¬ (1 : Int) < k := by omega
          have hflag : (bad || decide (k = 0) || (decide (1 < k) && decide ((by_ s).head? = some 48))) = bad := by simp [k0, k1]
          have E : Hid ((m, (by_ s).drop k, bad) = (r1, rs, rb)) := by
            have := EQ.out
            rw [FIN.out] at this
            simp only at this
            rw [hflag] at this
            exact this
          rw [Prod.mk.injEq, Prod.mk.injEq] at E
          obtain ⟨rfl, rfl, rfl⟩ := E
          clear EQ FIN hflag
          go_wp2_with fail
          go_ret
          exact ⟨rfl, grown_trans HG.out (grown_setCell _ _ _ _), s.extract k s.size, px_put0 HS.out, by rw [by_drop]⟩
end Go.Proofs.YtmbfpichaaanpaaGreatDoor

/-! The reader of expressions: a value's bits. -/
namespace Go.Proofs.YtmbfpichaaanpaaGreatDoor
open Go.RowKit Ut Rx Mt

theorem digits_at (c : UInt8) (d : Nat) (hd : d < 16) : ((((#[48, 49, 50, 51, 52, 53, 54, 55, 56, 57, 97, 98, 99, 100, 101, 102] : Array UInt8).getD d 0).toNat : Int) == (c.toNat : Int)) = decide (Ex.hexV c = some d) := by
  have hc := c.toNat_lt
  rw [Bool.eq_iff_iff, beq_iff_eq, decide_eq_true_eq]
  have hv : Ex.hexV c = some d ↔ (48 ≤ c.toNat ∧ c.toNat ≤ 57 ∧ c.toNat - 48 = d) ∨ (97 ≤ c.toNat ∧ c.toNat ≤ 102 ∧ c.toNat - 87 = d) := by
    unfold Ex.hexV
    split
    · simp; omega
    · split
      · simp; omega
      · simp; omega
  rw [hv]
  have ha : (((#[48, 49, 50, 51, 52, 53, 54, 55, 56, 57, 97, 98, 99, 100, 101, 102] : Array UInt8).getD d 0).toNat : Int) = if d < 10 then 48 + (d : Int) else 87 + (d : Int) := by
    rcases d with _ | _ | _ | _ | _ | _ | _ | _ | _ | _ | _ | _ | _ | _ | _ | _ | d
    all_goals (first | rfl | omega)
  rw [ha]
  split <;> omega
theorem hexV_lt {c : UInt8} {d : Nat} (h : Ex.hexV c = some d) : d < 16 := by
  unfold Ex.hexV at h
  split at h
  · simp at h; omega
  · split at h
    · simp at h; omega
    · simp at h
theorem hexGo_cons (k v : Nat) (c : UInt8) (t : List UInt8) : Ex.hexGo (k + 1) v (c :: t) = match Ex.hexV c with | some d => Ex.hexGo k ((16 * v + d) % 18446744073709551616) t | none => (v, k + 1, c :: t) := by
  rw [Ex.hexGo]
  rfl
theorem hexGo_nil (k v : Nat) : Ex.hexGo k v [] = (v, k, []) := by cases k <;> rw [Ex.hexGo]
theorem hexGo_zero (v : Nat) (l : List UInt8) : Ex.hexGo 0 v l = (v, 0, l) := by cases l <;> rw [Ex.hexGo]

set_option maxRecDepth 100000 in
set_option maxHeartbeats 4000000 in
theorem bitsX_any (t : Nat) (lv : Value) (p : Ex.P) (w : World) (h : Px w t lv p.s p.bad p.e) (hll : p.s.length ≤ 1000000) : Calls Tryz.prog 74 #[.pointer (some ⟨t, 0, none⟩)] w (PNum w t lv (Ex.bitsP p).1 (Ex.bitsP p).2.s (Ex.bitsP p).2.bad p.e) := by
  have ht := h.lt
  obtain ⟨l0, pl, bad, n⟩ := p
  simp only at *
  obtain ⟨s, h0, rfl⟩ := h
  have HS := Lib.hid h0
  have hsz : s.size ≤ 1000000 := by rw [tl_len] at hll; exact hll
  have EQ : Hid (((Ex.hexGo 16 0 (by_ s)).1, (Ex.hexGo 16 0 (by_ s)).2.2, bad || decide ((Ex.hexGo 16 0 (by_ s)).2.1 ≠ 0)) = ((Ex.bitsP ⟨by_ s, pl, bad, n⟩).1, (Ex.bitsP ⟨by_ s, pl, bad, n⟩).2.s, (Ex.bitsP ⟨by_ s, pl, bad, n⟩).2.bad)) := rfl
  generalize Ex.bitsP ⟨by_ s, pl, bad, n⟩ = R at *
  obtain ⟨r1, r2⟩ := R
  simp only at *
  generalize r2.s = rs at *
  generalize r2.bad = rb at *
  clear r2 hll pl h0
  have KP : Hid (∀ w', Below w.heap.size w w' → w'.heap[t]? = some (pxC s lv bad n)) := fun w' b => (b.block _ ht).trans HS.out
  have B0 : Hid (Below w.heap.size w w) := Below.refl _ _
  go_enter Tryz.func74, Tryz.ntmps74
  go_wp2_with fail
  go_step3
  go_wp2_with fail
  go_step3
  go_wp2_with fail
  go_loopg [3, 4] (16 : Nat) (fun gk v3 v4 wr => ∃ (k m : Nat), v3 = .int .u64 m ∧ v4 = .int .i64 k ∧ k + gk = 16 ∧ k ≤ s.size ∧ m < 18446744073709551616 ∧ Hid (Below w.heap.size w wr) ∧ Hid (Ex.hexGo (16 - k) m ((by_ s).drop k) = Ex.hexGo 16 0 (by_ s)))
  case atStart => exact ⟨0, 0, rfl, rfl, by omega, by omega, by omega, B0, by show _ = _; rfl⟩
  case round =>
    obtain ⟨k, m, rfl, rfl, hk, hks, hm, HB, HR⟩ := hrel
    have hst := KP.out _ HB.out
    obtain ⟨c0, c1, c2, c3, f0, f1, f2, f3⟩ := px_cells hst
    have HST := Lib.hid hst
    clear hst B0
    by_cases h16 : k < 16
    · have h16i : (k : Int) < 16 := by omega
      by_cases hlt : k < s.size
      · have hlti : (k : Int) < s.size := by omega
        have HC := Lib.hid (drop_two hlt)
        have HX : Hid (Ex.hexGo 16 0 (by_ s) = match Ex.hexV (s[k]'hlt) with | some d => Ex.hexGo (16 - (k + 1)) ((16 * m + d) % 18446744073709551616) ((by_ s).drop (k + 1)) | none => (m, 16 - k, (by_ s).drop k)) := by
          have := HR.out
          rw [HC.out, show 16 - k = (16 - (k + 1)) + 1 by omega, hexGo_cons] at this
          rw [show 16 - k = (16 - (k + 1)) + 1 by omega, HC.out]
          exact this.symm
        clear HR HC
        go_wp2_with fail
        go_loopg [3, 19] (16 : Nat) (fun gk v3 v19 wi => ∃ d : Nat, v3 = .int .u64 m ∧ v19 = .int .i64 d ∧ d + gk = 16 ∧ Hid (Below w.heap.size w wi) ∧ Hid (∀ d2, d2 < d → Ex.hexV (s[k]'hlt) ≠ some d2))
        case atStart => exact ⟨0, rfl, rfl, by omega, HB, fun d2 h => absurd h (Nat.not_lt_zero _)⟩
        case round =>
          obtain ⟨d, rfl, rfl, hdk, HBI, HNO⟩ := hrel
          have hsi := KP.out _ HBI.out
          obtain ⟨c0, c1, c2, c3, f0, f1, f2, f3⟩ := px_cells hsi
          have HSI := Lib.hid hsi
          clear hsi HB HST
          by_cases hd16 : d < 16
          · have hd16i : (d : Int) < 16 := by omega
            have DG := Lib.hid (digits_at (s[k]'hlt) d hd16)
            have y2 : IntKind.u64.wrap (d : Int) = d := IntWalk.u64_in _ (by omega)
            have y1 : IntKind.u64.wrap (IntKind.u64.wrap (16 * (m : Int)) + d) = (((16 * m + d) % 18446744073709551616 : Nat) : Int) := by
              simp [IntKind.wrap, IntKind.bits, IntKind.signed]
            go_wp2_with fail
            go_quiet (fail)
            have hb : ∀ h, ((⟨#[48, 49, 50, 51, 52, 53, 54, 55, 56, 57, 97, 98, 99, 100, 101, 102]⟩ : ByteArray)[d]'h) = (#[48, 49, 50, 51, 52, 53, 54, 55, 56, 57, 97, 98, 99, 100, 101, 102] : Array UInt8).getD d 0 := fun h => by
              show (#[48, 49, 50, 51, 52, 53, 54, 55, 56, 57, 97, 98, 99, 100, 101, 102] : Array UInt8)[d] = _
              unfold Array.getD
              rw [dif_pos (by simpa using hd16)]
              rfl
            rw [hb, DG.out]
            clear hb DG
            have BQ := Lib.hid (below_drewN HBI.out nq)
            by_cases hx : Ex.hexV (s[k]'hlt) = some d
            · have R2 : Hid (Ex.hexGo (16 - (k + 1)) ((16 * m + d) % 18446744073709551616) ((by_ s).drop (k + 1)) = Ex.hexGo 16 0 (by_ s)) := by
                have := HX.out
                rw [hx] at this
                exact this.symm
              rw [decide_eq_true hx]
              clear hx HX HNO
              go_wp2_with fail
              go_roundg (16 - (k + 1))
              case measure => omega
              case rel => exact ⟨k + 1, (16 * m + d) % 18446744073709551616, by go_num, by go_num, by omega, by omega, Nat.mod_lt _ (by decide), BQ, R2⟩
            · have N2 : Hid (∀ d2, d2 < d + 1 → Ex.hexV (s[k]'hlt) ≠ some d2) := by
                intro d2 h2
                by_cases e : d2 = d
                · rw [e]; exact hx
                · exact HNO.out d2 (by omega)
              rw [decide_eq_false hx]
              clear hx HX HNO
              go_wp2_with fail
              go_roundg (16 - (d + 1))
              case measure => omega
              case rel => exact ⟨d + 1, rfl, by go_num, by omega, BQ, N2⟩
          · have hd16i : ¬ (d : Int) < 16 := by omega
            have FIN : Hid (Ex.hexGo 16 0 (by_ s) = (m, 16 - k, (by_ s).drop k)) := by
              have := HX.out
              cases hx : Ex.hexV (s[k]'hlt) with
              | some d0 => exact absurd hx (HNO.out d0 (by have := hexV_lt hx; omega))
              | none => rw [hx] at this; exact this
            clear HX HNO
            have hkz : (k : Int) ≤ s.size := by omega
            have E : Hid ((m, (by_ s).drop k, true) = (r1, rs, rb)) := by
              have := EQ.out
              rw [FIN.out] at this
              rw [← this]
              show _ = _
              rw [show decide (16 - k ≠ 0) = true from decide_eq_true (by omega), Bool.or_true]
            rw [Prod.mk.injEq, Prod.mk.injEq] at E
            obtain ⟨rfl, rfl, rfl⟩ := E
            clear EQ FIN
            go_wp2_with fail
            go_ret
            exact ⟨rfl, grown_trans (grown_trans (grown_below HBI.out) (grown_setCell _ _ _ _)) (grown_setCell _ _ _ _), s.extract k s.size, px_put0 (px_put2 HSI.out), by rw [by_drop]⟩
      · have hki : ¬ (k : Int) < s.size := by omega
        have hkz : (k : Int) ≤ s.size := by omega
        have FIN : Hid (Ex.hexGo 16 0 (by_ s) = (m, 16 - k, (by_ s).drop k)) := by
          have := HR.out
          rw [List.drop_of_length_le (by rw [tl_len]; omega), hexGo_nil] at this
          rw [List.drop_of_length_le (by rw [tl_len]; omega)]
          exact this.symm
        clear HR
        have E : Hid ((m, (by_ s).drop k, true) = (r1, rs, rb)) := by
          have := EQ.out
          rw [FIN.out] at this
          rw [← this]
          show _ = _
          rw [show decide (16 - k ≠ 0) = true from decide_eq_true (by omega), Bool.or_true]
        rw [Prod.mk.injEq, Prod.mk.injEq] at E
        obtain ⟨rfl, rfl, rfl⟩ := E
        clear EQ FIN
        go_wp2_with fail
        go_ret
        exact ⟨rfl, grown_trans (grown_trans (grown_below HB.out) (grown_setCell _ _ _ _)) (grown_setCell _ _ _ _), s.extract k s.size, px_put0 (px_put2 HST.out), by rw [by_drop]⟩
    · have h16i : ¬ (k : Int) < 16 := by omega
      have hkz : (k : Int) ≤ s.size := by omega
      have FIN : Hid (Ex.hexGo 16 0 (by_ s) = (m, 16 - k, (by_ s).drop k)) := by
        have := HR.out
        rw [show 16 - k = 0 by omega, hexGo_zero] at this
        rw [show 16 - k = 0 by omega]
        exact this.symm
      clear HR
      have E : Hid ((m, (by_ s).drop k, bad) = (r1, rs, rb)) := by
        have := EQ.out
        rw [FIN.out] at this
        rw [← this]
        show _ = _
        rw [show decide (16 - k ≠ 0) = false from decide_eq_false (by omega), Bool.or_false]
      rw [Prod.mk.injEq, Prod.mk.injEq] at E
      obtain ⟨rfl, rfl, rfl⟩ := E
      clear EQ FIN
      go_wp2_with fail
      go_ret
      exact ⟨rfl, grown_trans (grown_below HB.out) (grown_setCell _ _ _ _), s.extract k s.size, px_put0 HST.out, by rw [by_drop]⟩
end Go.Proofs.YtmbfpichaaanpaaGreatDoor
