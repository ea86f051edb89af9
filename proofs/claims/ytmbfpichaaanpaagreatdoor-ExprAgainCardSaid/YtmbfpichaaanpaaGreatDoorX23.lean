import Derived.Test.YtmbfpichaaanpaaGreatDoorX22
import Derived.Test.YtmbfpichaaanpaaGreatDoorX14
/-! What is wrong with a node by itself. -/
namespace Go.Proofs.YtmbfpichaaanpaaGreatDoor
open Go.RowKit Ut Rx Mt

set_option maxRecDepth 100000 in
set_option maxHeartbeats 8000000 in
theorem alone_any (n : Ex.Nd) (sv nv : Value) (w : World) (hs : Ms w sv n.sel) (hn : Ws0 w nv n.nm) (hT : Lib.Utf8Tabs 6 7 w) (hw : 8 ≤ w.heap.size) : Calls Tryz.prog 21 #[ndA n sv nv] w (IntBelow w (Ex.aloneE n)) := by
  have HT := Lib.hid hT
  have HS := Lib.hid hs
  have C0 := Lib.hid (nBox_at w n sv nv)
  have B0 := Lib.hid (nBox_below w n sv nv)
  have PL := Lib.hid (fun w' => plain_any n sv nv w' (by obtain ⟨A, c, e, _⟩ := hs; exact ⟨A, c, e⟩) (by obtain ⟨A, c, e, _⟩ := hn; exact ⟨A, c, e⟩))
  obtain ⟨W0, hW0⟩ : ∃ x, x = nBox w n sv nv := ⟨_, rfl⟩
  rw [← hW0] at C0 B0
  obtain ⟨A2, c2, rfl, hcap, hcl⟩ := hn
  have HN := Lib.hid hcl
  have AL : Hid (Ex.aloneE n = if Ex.argE n then 1 else if n.k = 2 ∧ (n.wd = 0 ∨ 9223372036854775808 ≤ n.wd) then 1 else if n.k = 1 ∨ n.k = 2 then rightF n.sel else if 16 < n.nm.length then 3 else Ex.namesE n.nm) := rfl
  have AR : Hid (Ex.argE n = (decide (Ex.opsE n.k < 0) || decide (n.op < 0) || (decide (0 < Ex.opsE n.k) && decide (Ex.opsE n.k ≤ n.op)) || (decide (Ex.opsE n.k = 0) && !decide (n.op = 0)) || !Ex.plainE n)) := rfl
  have OPS := Lib.hid (ops_any n.k W0)
  obtain ⟨a0, a1, a2, a3, a4, a5, a6, a7⟩ := (C0.out W0 (Below.refl _ _)).1
  unfold nBox at hW0
  clear hs hT hcl
  unfold ndA at PL ⊢
  go_enter Tryz.func21, Tryz.ntmps21
  go_upto_region 1 with fail
  rw [← hW0]
  clear hW0
  go_wp2_with fail
  refine OPS.out.mono ?_
  rintro e w1 ⟨rfl, rfl⟩
  clear OPS
  generalize Ex.opsE n.k = m at *
  go_upto_region 2 with fail
  go_cut [9] (fun v9 wx => v9 = .bool (Ex.argE n) ∧ Hid (Below W0.heap.size W0 wx))
  case first =>
    have R0 : Hid (Below W0.heap.size W0 W0) := Below.refl _ _
    have P0 := Lib.hid (PL.out W0)
    generalize Ex.plainE n = pl at *
    by_cases h1 : m < 0
    · have E : Hid (Ex.argE n = true) := by show _ = _; rw [AR.out]; simp [h1]
      go_wp2_with fail
      go_meet
      case rel => exact ⟨by rw [E.out], R0⟩
    · by_cases h2 : n.op < 0
      · have E : Hid (Ex.argE n = true) := by show _ = _; rw [AR.out]; simp [h2]
        go_wp2_with fail
        go_meet
        case rel => exact ⟨by rw [E.out], R0⟩
      · by_cases h3 : 0 < m
        · by_cases h4 : m ≤ n.op
          · have E : Hid (Ex.argE n = true) := by show _ = _; rw [AR.out]; simp [h3, h4]
            go_wp2_with fail
            go_meet
            case rel => exact ⟨by rw [E.out], R0⟩
          · have h5 : (m == 0) = false := by have : m ≠ 0 := by omega
                                             simpa using this
            have E : Hid (Ex.argE n = !pl) := by show _ = _; rw [AR.out]; simp [h1, h2, h4, show ¬ m = 0 by omega]
            go_wp2_with fail
            refine P0.out.mono ?_
            rintro e w2 ⟨rfl, hb2⟩
            have HB2 := Lib.hid hb2
            clear hb2 P0
            go_wp2_with fail
            go_meet
            case rel => exact ⟨by rw [E.out], HB2⟩
        · have h3' : m = 0 := by omega
          subst h3'
          by_cases h4 : n.op = 0
          · have h5 : (n.op != 0) = false := by simp [h4]
            have E : Hid (Ex.argE n = !pl) := by show _ = _; rw [AR.out]; simp [h4]
            clear h4
            go_wp2_with fail
            refine P0.out.mono ?_
            rintro e w2 ⟨rfl, hb2⟩
            have HB2 := Lib.hid hb2
            clear hb2 P0
            go_wp2_with fail
            go_meet
            case rel => exact ⟨by rw [E.out], HB2⟩
          · have h5 : (n.op != 0) = true := by simpa using h4
            have E : Hid (Ex.argE n = true) := by show _ = _; rw [AR.out]; simp [h4]
            clear h4
            go_wp2_with fail
            go_meet
            case rel => exact ⟨by rw [E.out], R0⟩
  case rest =>
    obtain ⟨rfl, HB⟩ := hcut
    obtain ⟨⟨c0, c1, c2', c3, c4, c5, c6, c7⟩, bw⟩ := C0.out wc HB.out
    have BW := Lib.hid bw
    clear PL AR bw a0 a1 a2 a3 a4 a5 a6 a7
    cases hA : Ex.argE n with
    | true =>
      have E : Hid (Ex.aloneE n = 1) := by show _ = _; rw [AL.out, if_pos hA]
      clear hA AL
      go_wp2_with fail
      go_ret
      rw [E.out]
      exact ⟨rfl, BW.out⟩
    | false =>
      have AL2 : Hid (Ex.aloneE n = if n.k = 2 ∧ (n.wd = 0 ∨ 9223372036854775808 ≤ n.wd) then 1 else if n.k = 1 ∨ n.k = 2 then rightF n.sel else if 16 < n.nm.length then 3 else Ex.namesE n.nm) := by show _ = _; rw [AL.out, if_neg (by rw [hA]; decide)]
      have RT := Lib.hid (right_any n.sel sv wc (HS.out.below BW.out) (tabs_below HT.out BW.out) (Nat.le_trans hw BW.out.size))
      clear hA AL
      by_cases h2 : n.k = 2
      · have k2 : (n.k == 2) = true := by simp [h2]
        have k1 : (n.k == 1) = false := by simp [h2]
        by_cases hz : n.wd = 0
        · have z0 : ((n.wd : Int) == 0) = true := by simp [hz]
          have E : Hid (Ex.aloneE n = 1) := by show _ = _; rw [AL2.out, if_pos ⟨h2, Or.inl hz⟩]
          clear AL2 RT h2 hz
          go_wp2_with fail
          go_ret
          rw [E.out]
          exact ⟨rfl, BW.out⟩
        · have z0 : ((n.wd : Int) == 0) = false := by simpa using hz
          by_cases hb : 9223372036854775808 ≤ n.wd
          · have zb : (9223372036854775808 : Int) ≤ (n.wd : Int) := by omega
            have E : Hid (Ex.aloneE n = 1) := by show _ = _; rw [AL2.out, if_pos ⟨h2, Or.inr hb⟩]
            clear AL2 RT h2 hz hb
            go_wp2_with fail
            go_ret
            rw [E.out]
            exact ⟨rfl, BW.out⟩
          · have zb : ¬ (9223372036854775808 : Int) ≤ (n.wd : Int) := by omega
            have E : Hid (Ex.aloneE n = rightF n.sel) := by show _ = _; rw [AL2.out, if_neg (fun h => h.2.elim hz hb), if_pos (Or.inr h2)]
            clear AL2 h2 hz hb
            go_wp2_with fail
            refine RT.out.mono ?_
            rintro e w3 ⟨rfl, hb3⟩
            have B3 := Lib.hid (BW.out.trans (hb3.mono BW.out.size))
            clear hb3 RT
            go_wp2_with fail
            go_ret
            rw [E.out]
            exact ⟨rfl, B3.out⟩
      · have k2 : (n.k == 2) = false := by simpa using h2
        by_cases h1 : n.k = 1
        · have k1 : (n.k == 1) = true := by simp [h1]
          have E : Hid (Ex.aloneE n = rightF n.sel) := by show _ = _; rw [AL2.out, if_neg (fun h => h2 h.1), if_pos (Or.inl h1)]
          clear AL2 h2 h1
          go_wp2_with fail
          refine RT.out.mono ?_
          rintro e w3 ⟨rfl, hb3⟩
          have B3 := Lib.hid (BW.out.trans (hb3.mono BW.out.size))
          clear hb3 RT
          go_wp2_with fail
          go_ret
          rw [E.out]
          exact ⟨rfl, B3.out⟩
        · have k1 : (n.k == 1) = false := by simpa using h1
          have AL3 : Hid (Ex.aloneE n = if 16 < n.nm.length then 3 else Ex.namesE n.nm) := by show _ = _; rw [AL2.out, if_neg (fun h => h2 h.1), if_neg (fun h => h.elim h1 h2)]
          clear AL2 h1 h2 RT
          by_cases hl : 16 < n.nm.length
          · have hli : (16 : Int) < n.nm.length := by omega
            have E : Hid (Ex.aloneE n = 3) := by show _ = _; rw [AL3.out, if_pos hl]
            clear AL3 hl
            go_wp2_with fail
            go_ret
            rw [E.out]
            exact ⟨rfl, BW.out⟩
          · have hli : ¬ (16 : Int) < n.nm.length := by omega
            have E : Hid (Ex.aloneE n = Ex.namesE n.nm) := by show _ = _; rw [AL3.out, if_neg hl]
            clear AL3 hl
            go_wp2_with fail
            go_loopg [75] n.nm.length (fun gk vk wr => ∃ k : Nat, vk = .int .i64 k ∧ k + gk = n.nm.length ∧ Hid (Ex.namesE (n.nm.drop k) = Ex.namesE n.nm) ∧ Hid (Below w.heap.size w wr))
            case atStart => exact ⟨0, rfl, by omega, rfl, BW⟩
            case round =>
              obtain ⟨k, rfl, hk, HR, HW⟩ := hrel
              clear BW HB
              by_cases hlt : k < n.nm.length
              · obtain ⟨b, off, rfl, hc⟩ := HN.out (fun e => by rw [e] at hlt; simp at hlt)
                have d0' := hc k hlt
                have lb : b < w.heap.size := World.block_lt_of_cell? w _ d0'
                have d0 := (HW.out.cell (p := ⟨b, off + k, none⟩) lb).trans d0'
                have hlti : (k : Int) < n.nm.length := by omega
                have HD : Hid (Ex.namesE (n.nm.drop k) = if namedF (by_ (n.nm[k]'hlt)) then Ex.namesE (n.nm.drop (k + 1)) else 50) := by show _ = _; rw [List.drop_eq_getElem_cons hlt]; rfl
                clear hc d0' HN
                generalize (n.nm[k]'hlt) = s at *
                have NM := Lib.hid (named_any s wr)
                go_wp2_with fail
                refine NM.out.mono ?_
                rintro e w3 ⟨rfl, hb3⟩
                have B3 := Lib.hid (HW.out.trans (hb3.mono HW.out.size))
                clear hb3 NM
                cases hnm : namedF s.data.toList with
                | true =>
                  have R2 : Hid (Ex.namesE (n.nm.drop (k + 1)) = Ex.namesE n.nm) := by
                    have := HR.out
                    rw [HD.out, if_pos hnm] at this
                    exact this
                  clear hnm HD HR
                  go_wp2_with fail
                  go_roundg (gk - 1)
                  case measure => omega
                  case rel => exact ⟨k + 1, by go_num, by omega, R2, B3⟩
                | false =>
                  have R2 : Hid (Ex.namesE n.nm = 50) := by
                    have := HR.out
                    rw [HD.out, if_neg (by rw [show namedF (by_ s) = false from hnm]; decide)] at this
                    exact this.symm
                  clear hnm HD HR
                  go_wp2_with fail
                  go_ret
                  rw [E.out, R2.out]
                  exact ⟨rfl, B3.out⟩
              · have hkl : k = n.nm.length := by omega
                have hki : ¬ (k : Int) < n.nm.length := by omega
                have R2 : Hid (Ex.namesE n.nm = 0) := by
                  have := HR.out
                  rw [List.drop_of_length_le (by omega)] at this
                  exact this.symm
                clear HR hkl
                go_wp2_with fail
                go_ret
                rw [E.out, R2.out]
                exact ⟨rfl, HW.out⟩
end Go.Proofs.YtmbfpichaaanpaaGreatDoor

/-! The types of nodes of one and of two. -/
namespace Go.Proofs.YtmbfpichaaanpaaGreatDoor
open Go.RowKit Ut Rx Mt

set_option maxHeartbeats 1000000 in
theorem valued_ty (t : Int) (w : World) : Calls Tryz.prog 47 #[.int .i64 t] w (BoolSame w (Ex.valuedE t)) := by
  by_cases h1 : t = 1
  · subst h1
    go_enter Tryz.func47, Tryz.ntmps47
    go_wp2_with fail
    go_ret
    exact ⟨rfl, rfl⟩
  · have g1 : (t == 1) = false := by simpa using h1
    by_cases h2 : t = 2
    · subst h2
      go_enter Tryz.func47, Tryz.ntmps47
      go_wp2_with fail
      go_ret
      exact ⟨rfl, rfl⟩
    · have g2 : (t == 2) = false := by simpa using h2
      have E : Hid (Ex.valuedE t = false) := by show _ = _; unfold Ex.valuedE; simp [h1, h2]
      clear h1 h2
      go_enter Tryz.func47, Tryz.ntmps47
      go_wp2_with fail
      go_ret
      rw [E.out]
      exact ⟨rfl, rfl⟩

set_option maxRecDepth 100000 in
set_option maxHeartbeats 4000000 in
theorem oneTy_any (n : Ex.Nd) (sv nv : Value) (a : Int) (w : World) : Calls Tryz.prog 23 #[ndA n sv nv, .int .i64 a] w (IntBelow w (Ex.oneE n a)) := by
  have B0 := Lib.hid (nBox_below w n sv nv)
  have C0 := Lib.hid (nBox_at w n sv nv)
  obtain ⟨W0, hW0⟩ : ∃ x, x = nBox w n sv nv := ⟨_, rfl⟩
  rw [← hW0] at B0 C0
  obtain ⟨a0, a1, a2, a3, a4, a5, a6, a7⟩ := (C0.out W0 (Below.refl _ _)).1
  clear C0
  unfold nBox at hW0
  unfold ndA
  obtain ⟨k, op, v, wd, sel, bl, gb, nm⟩ := n
  simp only at hW0 a0 a1 a2 a3 a4 a5 a6 a7 ⊢
  go_enter Tryz.func23, Tryz.ntmps23
  go_upto_region 1 with fail
  rw [← hW0]
  clear hW0
  by_cases h4 : k = 4
  · subst h4
    have V := Lib.hid (valued_ty a W0)
    cases hv : Ex.valuedE a with
    | true =>
      rw [hv] at V
      have E : Hid (Ex.oneE ⟨4, op, v, wd, sel, bl, gb, nm⟩ a = a) := by show _ = _; unfold Ex.oneE; simp [hv]
      clear hv
      go_wp2_with fail
      refine (V.out).mono ?_
      rintro e w1 ⟨rfl, rfl⟩
      clear V
      go_wp2_with fail
      go_ret
      rw [E.out]
      exact ⟨rfl, B0.out⟩
    | false =>
      rw [hv] at V
      have E : Hid (Ex.oneE ⟨4, op, v, wd, sel, bl, gb, nm⟩ a = 0) := by show _ = _; unfold Ex.oneE; simp [hv]
      clear hv
      go_wp2_with fail
      refine (V.out).mono ?_
      rintro e w1 ⟨rfl, rfl⟩
      clear V
      go_wp2_with fail
      go_ret
      rw [E.out]
      exact ⟨rfl, B0.out⟩
  have g4 : (k == 4) = false := by simpa using h4
  by_cases h3 : k = 3
  · subst h3
    by_cases h8 : op ≤ 8
    · by_cases ha : a = 3
      · have gn : (a != 3) = false := by simp [ha]
        have E : Hid (Ex.oneE ⟨3, op, v, wd, sel, bl, gb, nm⟩ a = 2) := by show _ = _; unfold Ex.oneE; simp [ha, h8]
        clear ha
        go_wp2_with fail
        go_ret
        rw [E.out]
        exact ⟨rfl, B0.out⟩
      · have gn : (a != 3) = true := by simpa using ha
        have E : Hid (Ex.oneE ⟨3, op, v, wd, sel, bl, gb, nm⟩ a = 0) := by show _ = _; unfold Ex.oneE; simp [ha, h8]
        clear ha
        go_wp2_with fail
        go_ret
        rw [E.out]
        exact ⟨rfl, B0.out⟩
    · have g13 : ∀ z : Int, op = z → (op == z) = true := fun z h => by simp [h]
      by_cases h13 : op = 13
      · subst h13
        clear g13 h8
        by_cases ha : a = 2
        · have gn : (a != 2) = false := by simp [ha]
          have E : Hid (Ex.oneE ⟨3, 13, v, wd, sel, bl, gb, nm⟩ a = 1) := by show _ = _; unfold Ex.oneE; simp [ha]
          clear ha
          go_wp2_with fail
          go_ret
          rw [E.out]
          exact ⟨rfl, B0.out⟩
        · have gn : (a != 2) = true := by simpa using ha
          have E : Hid (Ex.oneE ⟨3, 13, v, wd, sel, bl, gb, nm⟩ a = 0) := by show _ = _; unfold Ex.oneE; simp [ha]
          clear ha
          go_wp2_with fail
          go_ret
          rw [E.out]
          exact ⟨rfl, B0.out⟩
      · have k13 : (op == 13) = false := by simpa using h13
        by_cases h14 : op = 14
        · subst h14
          clear g13 h8 k13 h13
          by_cases ha : a = 1
          · have gn : (a != 1) = false := by simp [ha]
            have E : Hid (Ex.oneE ⟨3, 14, v, wd, sel, bl, gb, nm⟩ a = 2) := by show _ = _; unfold Ex.oneE; simp [ha]
            clear ha
            go_wp2_with fail
            go_ret
            rw [E.out]
            exact ⟨rfl, B0.out⟩
          · have gn : (a != 1) = true := by simpa using ha
            have E : Hid (Ex.oneE ⟨3, 14, v, wd, sel, bl, gb, nm⟩ a = 0) := by show _ = _; unfold Ex.oneE; simp [ha]
            clear ha
            go_wp2_with fail
            go_ret
            rw [E.out]
            exact ⟨rfl, B0.out⟩
        · have k14 : (op == 14) = false := by simpa using h14
          clear g13
          by_cases ha : a = 2
          · have gn : (a != 2) = false := by simp [ha]
            have E : Hid (Ex.oneE ⟨3, op, v, wd, sel, bl, gb, nm⟩ a = 2) := by show _ = _; unfold Ex.oneE; simp [ha, h8, h13, h14]
            clear ha
            go_wp2_with fail
            go_ret
            rw [E.out]
            exact ⟨rfl, B0.out⟩
          · have gn : (a != 2) = true := by simpa using ha
            have E : Hid (Ex.oneE ⟨3, op, v, wd, sel, bl, gb, nm⟩ a = 0) := by show _ = _; unfold Ex.oneE; simp [ha, h8, h13, h14]
            clear ha
            go_wp2_with fail
            go_ret
            rw [E.out]
            exact ⟨rfl, B0.out⟩
  · have g3 : (k == 3) = false := by simpa using h3
    by_cases ha : a = 2
    · have gn : (a != 2) = false := by simp [ha]
      have E : Hid (Ex.oneE ⟨k, op, v, wd, sel, bl, gb, nm⟩ a = 2) := by show _ = _; unfold Ex.oneE; simp [ha, h3, h4]
      clear ha
      go_wp2_with fail
      go_ret
      rw [E.out]
      exact ⟨rfl, B0.out⟩
    · have gn : (a != 2) = true := by simpa using ha
      have E : Hid (Ex.oneE ⟨k, op, v, wd, sel, bl, gb, nm⟩ a = 0) := by show _ = _; unfold Ex.oneE; simp [ha, h3, h4]
      clear ha
      go_wp2_with fail
      go_ret
      rw [E.out]
      exact ⟨rfl, B0.out⟩

set_option maxRecDepth 100000 in
set_option maxHeartbeats 4000000 in
theorem twoTy_any (n : Ex.Nd) (sv nv : Value) (a b : Int) (w : World) : Calls Tryz.prog 24 #[ndA n sv nv, .int .i64 a, .int .i64 b] w (IntBelow w (Ex.twoE n a b)) := by
  have B0 := Lib.hid (nBox_below w n sv nv)
  have C0 := Lib.hid (nBox_at w n sv nv)
  obtain ⟨W0, hW0⟩ : ∃ x, x = nBox w n sv nv := ⟨_, rfl⟩
  rw [← hW0] at B0 C0
  obtain ⟨a0, a1, a2, a3, a4, a5, a6, a7⟩ := (C0.out W0 (Below.refl _ _)).1
  clear C0
  unfold nBox at hW0
  unfold ndA
  obtain ⟨k, op, v, wd, sel, bl, gb, nm⟩ := n
  simp only at hW0 a0 a1 a2 a3 a4 a5 a6 a7 ⊢
  go_enter Tryz.func24, Tryz.ntmps24
  go_upto_region 1 with fail
  rw [← hW0]
  clear hW0
  by_cases h7 : k = 7
  · subst h7
    by_cases ha : a = 2
    · have ga : (a == 2) = true := by simp [ha]
      by_cases hb : b = 2
      · have gb' : (b == 2) = true := by simp [hb]
        have E : Hid (Ex.twoE ⟨7, op, v, wd, sel, bl, gb, nm⟩ a b = 2) := by show _ = _; unfold Ex.twoE; simp [ha, hb]
        clear ha hb
        go_wp2_with fail
        go_ret
        rw [E.out]
        exact ⟨rfl, B0.out⟩
      · have gb' : (b == 2) = false := by simpa using hb
        have E : Hid (Ex.twoE ⟨7, op, v, wd, sel, bl, gb, nm⟩ a b = 0) := by show _ = _; unfold Ex.twoE; simp [ha, hb]
        clear ha hb
        go_wp2_with fail
        go_ret
        rw [E.out]
        exact ⟨rfl, B0.out⟩
    · have ga : (a == 2) = false := by simpa using ha
      have E : Hid (Ex.twoE ⟨7, op, v, wd, sel, bl, gb, nm⟩ a b = 0) := by show _ = _; unfold Ex.twoE; simp [ha]
      clear ha
      go_wp2_with fail
      go_ret
      rw [E.out]
      exact ⟨rfl, B0.out⟩
  have g7 : (k == 7) = false := by simpa using h7
  by_cases h8 : k = 8
  · subst h8
    by_cases ha : a = 1
    · have ga : (a == 1) = true := by simp [ha]
      by_cases hb : b = 2
      · have gb' : (b == 2) = true := by simp [hb]
        have E : Hid (Ex.twoE ⟨8, op, v, wd, sel, bl, gb, nm⟩ a b = 2) := by show _ = _; unfold Ex.twoE; simp [ha, hb]
        clear ha hb
        go_wp2_with fail
        go_ret
        rw [E.out]
        exact ⟨rfl, B0.out⟩
      · have gb' : (b == 2) = false := by simpa using hb
        have E : Hid (Ex.twoE ⟨8, op, v, wd, sel, bl, gb, nm⟩ a b = 0) := by show _ = _; unfold Ex.twoE; simp [ha, hb]
        clear ha hb
        go_wp2_with fail
        go_ret
        rw [E.out]
        exact ⟨rfl, B0.out⟩
    · have ga : (a == 1) = false := by simpa using ha
      have E : Hid (Ex.twoE ⟨8, op, v, wd, sel, bl, gb, nm⟩ a b = 0) := by show _ = _; unfold Ex.twoE; simp [ha]
      clear ha
      go_wp2_with fail
      go_ret
      rw [E.out]
      exact ⟨rfl, B0.out⟩
  have g8 : (k == 8) = false := by simpa using h8
  have VA := Lib.hid (valued_ty a W0)
  have VB := Lib.hid (valued_ty b W0)
  cases hva : Ex.valuedE a with
  | false =>
    rw [hva] at VA
    have E : Hid (Ex.twoE ⟨k, op, v, wd, sel, bl, gb, nm⟩ a b = 0) := by show _ = _; unfold Ex.twoE; simp [h7, h8, hva]
    clear hva h7 h8
    go_wp2_with fail
    refine (VA.out).mono ?_
    rintro e w1 ⟨rfl, rfl⟩
    clear VA VB
    go_wp2_with fail
    go_ret
    rw [E.out]
    exact ⟨rfl, B0.out⟩
  | true =>
    rw [hva] at VA
    cases hvb : Ex.valuedE b with
    | false =>
      rw [hvb] at VB
      have E : Hid (Ex.twoE ⟨k, op, v, wd, sel, bl, gb, nm⟩ a b = 0) := by show _ = _; unfold Ex.twoE; simp [h7, h8, hvb]
      clear hva hvb h7 h8
      go_wp2_with fail
      refine (VA.out).mono ?_
      rintro e w1 ⟨rfl, rfl⟩
      clear VA
      go_wp2_with fail
      refine (VB.out).mono ?_
      rintro e w2 ⟨rfl, rfl⟩
      clear VB
      go_wp2_with fail
      go_ret
      rw [E.out]
      exact ⟨rfl, B0.out⟩
    | true =>
      rw [hvb] at VB
      by_cases ha : a = 2
      · have ga : (a == 2) = true := by simp [ha]
        have E : Hid (Ex.twoE ⟨k, op, v, wd, sel, bl, gb, nm⟩ a b = 2) := by show _ = _; unfold Ex.twoE; rw [hva, hvb]; simp [h7, h8, ha]
        clear hva hvb h7 h8 ha
        go_wp2_with fail
        refine (VA.out).mono ?_
        rintro e w1 ⟨rfl, rfl⟩
        clear VA
        go_wp2_with fail
        refine (VB.out).mono ?_
        rintro e w2 ⟨rfl, rfl⟩
        clear VB
        go_wp2_with fail
        go_ret
        rw [E.out]
        exact ⟨rfl, B0.out⟩
      · have ga : (a == 2) = false := by simpa using ha
        by_cases hb : b = 2
        · have gb' : (b == 2) = true := by simp [hb]
          have E : Hid (Ex.twoE ⟨k, op, v, wd, sel, bl, gb, nm⟩ a b = 2) := by show _ = _; unfold Ex.twoE; rw [hva, hvb]; simp [h7, h8, hb]
          clear hva hvb h7 h8 ha hb
          go_wp2_with fail
          refine (VA.out).mono ?_
          rintro e w1 ⟨rfl, rfl⟩
          clear VA
          go_wp2_with fail
          refine (VB.out).mono ?_
          rintro e w2 ⟨rfl, rfl⟩
          clear VB
          go_wp2_with fail
          go_ret
          rw [E.out]
          exact ⟨rfl, B0.out⟩
        · have gb' : (b == 2) = false := by simpa using hb
          by_cases h5 : k = 5
          · have g5 : (k == 5) = true := by simp [h5]
            have E : Hid (Ex.twoE ⟨k, op, v, wd, sel, bl, gb, nm⟩ a b = 1) := by show _ = _; unfold Ex.twoE; rw [hva, hvb]; simp [ha, hb, h5]
            clear hva hvb h7 h8 ha hb h5
            go_wp2_with fail
            refine (VA.out).mono ?_
            rintro e w1 ⟨rfl, rfl⟩
            clear VA
            go_wp2_with fail
            refine (VB.out).mono ?_
            rintro e w2 ⟨rfl, rfl⟩
            clear VB
            go_wp2_with fail
            go_ret
            rw [E.out]
            exact ⟨rfl, B0.out⟩
          · have g5 : (k == 5) = false := by simpa using h5
            cases bl with
            | true =>
              have E : Hid (Ex.twoE ⟨k, op, v, wd, sel, true, gb, nm⟩ a b = 1) := by show _ = _; unfold Ex.twoE; rw [hva, hvb]; simp [h7, h8, ha, hb, h5]
              clear hva hvb h7 h8 ha hb h5
              go_wp2_with fail
              refine (VA.out).mono ?_
              rintro e w1 ⟨rfl, rfl⟩
              clear VA
              go_wp2_with fail
              refine (VB.out).mono ?_
              rintro e w2 ⟨rfl, rfl⟩
              clear VB
              go_wp2_with fail
              go_ret
              rw [E.out]
              exact ⟨rfl, B0.out⟩
            | false =>
              have E : Hid (Ex.twoE ⟨k, op, v, wd, sel, false, gb, nm⟩ a b = 0) := by show _ = _; unfold Ex.twoE; rw [hva, hvb]; simp [h7, h8, ha, hb, h5]
              clear hva hvb h7 h8 ha hb h5
              go_wp2_with fail
              refine (VA.out).mono ?_
              rintro e w1 ⟨rfl, rfl⟩
              clear VA
              go_wp2_with fail
              refine (VB.out).mono ?_
              rintro e w2 ⟨rfl, rfl⟩
              clear VB
              go_wp2_with fail
              go_ret
              rw [E.out]
              exact ⟨rfl, B0.out⟩
end Go.Proofs.YtmbfpichaaanpaaGreatDoor
