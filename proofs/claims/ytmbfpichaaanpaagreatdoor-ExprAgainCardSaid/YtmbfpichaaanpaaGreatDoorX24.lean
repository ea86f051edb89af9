import Derived.Test.YtmbfpichaaanpaaGreatDoorX23
import Derived.Deep.RegionHeld3
/-! What is wrong with an expression; where a part begins. -/
namespace Go.Proofs.YtmbfpichaaanpaaGreatDoor
open Go.RowKit Ut Rx Mt

theorem Ms0.msn {w : World} {v : Value} {l : List M} (h : Ms0 w v l) (hl : l.length ≤ 1000000) : Ms w v l := by
  obtain ⟨A, c, e, _, hc⟩ := h
  exact ⟨A, c, e, by omega, hc⟩
theorem Es0.at_ {w : World} {A : Option Addr} {c : Nat} {l : List Ex.Nd} (h : Es0 w (.slice A l.length c) l) : l ≠ [] → ∃ b off, A = some ⟨b, off, none⟩ ∧ ∀ i (h : i < l.length), ∃ sv nv, NdAt w b (off + i * 8) (l[i]'h) sv nv := by
  obtain ⟨A', c', e, _, hl⟩ := h
  simp only [Value.slice.injEq, true_and] at e
  obtain ⟨rfl, rfl⟩ := e
  exact hl
theorem alone_kind {n : Ex.Nd} (h : Ex.aloneE n = 0) : Ex.takesE n = 0 ∧ (n.k = 0 ∨ n.k = 1 ∨ n.k = 2) ∨ Ex.takesE n = 1 ∧ n.k ≠ 0 ∧ n.k ≠ 1 ∧ n.k ≠ 2 ∨ Ex.takesE n = 2 ∧ n.k ≠ 0 ∧ n.k ≠ 1 ∧ n.k ≠ 2 := by
  have ho : ¬ Ex.opsE n.k < 0 := by
    intro ho
    unfold Ex.aloneE Ex.argE at h
    simp [ho] at h
  unfold Ex.opsE at ho
  unfold Ex.takesE
  by_cases h0 : n.k = 0
  · simp [h0]
  by_cases h1 : n.k = 1
  · simp [h1]
  by_cases h2 : n.k = 2
  · simp [h2]
  by_cases h8 : n.k = 8
  · by_cases h5 : n.op = 5
    · simp [h8, h5]
    · simp [h8, h5]
  by_cases h3 : n.k = 3
  · simp [h3]
  by_cases h4 : n.k = 4
  · simp [h4]
  by_cases h5 : n.k = 5
  · simp [h5]
  by_cases h6 : n.k = 6
  · simp [h6]
  by_cases h7 : n.k = 7
  · simp [h7]
  simp [h0, h1, h2, h3, h4, h5, h6, h7, h8] at ho
theorem own_pre {w : World} {B e n k c : Nat} {A : Option Addr} {xs : List Value} (h : w.ownsRow B e 1 (.slice A n c) n xs) (hk : k ≤ n) : w.ownsRow B e 1 (.slice A k c) k (xs.take k) := by
  refine ⟨by rw [List.length_take, h.1]; omega, ?_⟩
  rcases h.2 with ⟨e1, h0⟩ | ⟨g, c', cur, e1, hb, hg, hc, hm, hs, ht⟩
  · left
    simp only [Value.slice.injEq] at e1
    obtain ⟨rfl, _, rfl⟩ := e1
    obtain rfl : k = 0 := by omega
    exact ⟨rfl, rfl⟩
  · simp only [Value.slice.injEq, true_and] at e1
    obtain ⟨rfl, rfl⟩ := e1
    refine Or.inr ⟨g, c, cur, rfl, hb, hg, by omega, hm, hs, ?_⟩
    rw [← ht, List.take_take]
    congr 1; omega
set_option maxRecDepth 100000 in
theorem infoInt : (Tryz.prog.info? 3).map (fun i => (i.zero, i.size, i.bytes)) = some (some (.int .i64 0), 1, 8) := by kernel_rfl
def iC (l : List Int) : List Value := l.map (Value.int .i64)
theorem iC_one (l : List Int) : ∀ u ∈ iC l, u.oneCell' = true := fun u hu => by
  obtain ⟨b, _, rfl⟩ := List.mem_map.1 hu
  rfl
theorem news_int (w : World) (b : Nat) (x : Int) (hb : b = w.heap.size) : ∀ j u, (iC [x])[j]? = some u → (w.alloc (.cells #[.int .i64 x] 3)).cell? ((⟨b, 0, none⟩ : Addr).add j) = some u := by
  intro j u hu
  subst hb
  match j with
  | 0 => simp [iC] at hu; subst hu; exact World.cell?_alloc_at _ _ _ _ rfl
  | j + 1 => simp [iC] at hu
def CkPost (w : World) (l : List Ex.Nd) (e : Ending) (w' : World) : Prop := e = .returned (.tuple #[.int .i64 (Ex.checkE l).1, .int .i64 (Ex.checkE l).2]) ∧ Below w.heap.size w w'
theorem checkE_err {l : List Ex.Nd} {x : Int} (h : Ex.checkGo l [] = .error x) (hl : ¬ 64 < l.length) : Ex.checkE l = (0, x) := by unfold Ex.checkE; rw [if_neg hl, h]

set_option maxRecDepth 100000 in
set_option maxHeartbeats 40000000 in
theorem checkX_any (l : List Ex.Nd) (lv : Value) (w : World) (hl : Es0 w lv l) (hz : ∀ n ∈ l, n.sel.length ≤ 1000000) (hT : Lib.Utf8Tabs 6 7 w) (hw : 8 ≤ w.heap.size) : Calls Tryz.prog 10 #[lv] w (CkPost w l) := by
  have HT := Lib.hid hT
  have HZ := Lib.hid hz
  obtain ⟨A, c, rfl, hcap, _⟩ := id hl
  have HC := Lib.hid hl.at_
  have R0 : Hid (w.ownsRow w.heap.size 3 1 (.slice none 0 0) 0 (iC [])) := World.ownsRow_nil _ _ _ _
  have B0 : Hid (Below w.heap.size w w) := Below.refl _ _
  obtain ⟨i0, hi, hz0, hz1, hz2⟩ := info_parts infoInt
  have I0 : Hid (i0.zero = some (.int .i64 0) ∧ i0.size = 1 ∧ i0.bytes = 8 ∧ Tryz.prog.info? 3 = some i0) := ⟨hz0, hz1, hz2, hi⟩
  clear hz hT hl hz0 hz1 hz2 hi
  by_cases h64 : 64 < l.length
  · have h64i : (64 : Int) < l.length := by omega
    have E : Hid (Ex.checkE l = (0, 3)) := by show _ = _; unfold Ex.checkE; rw [if_pos h64]
    clear h64
    go_enter Tryz.func10, Tryz.ntmps10
    go_wp2_with fail
    exact bodyPost_ret (v := .tuple #[.int .i64 0, .int .i64 3]) (by simp [results, Tryz.results10, go_sem]) rfl ⟨by rw [E.out], B0.out⟩
  · have h64i : ¬ (64 : Int) < l.length := by omega
    go_enter Tryz.func10, Tryz.ntmps10
    go_wp2_with fail
    go_loopg [4, 15] l.length (fun gk v4 v15 wr => ∃ (k : Nat) (st : List Int), v15 = .int .i64 k ∧ k + gk = l.length ∧ st.length ≤ k ∧ Hid (Ex.checkGo (l.drop k) st.reverse = Ex.checkGo l []) ∧ Hid (wr.ownsRow w.heap.size 3 1 v4 st.length (iC st)) ∧ Hid (Below w.heap.size w wr))
    case atStart => exact ⟨0, [], rfl, by omega, Nat.le_refl _, rfl, R0, B0⟩
    case round =>
      obtain ⟨k, st, rfl, hk, hst, HR, HO, HB⟩ := hrel
      clear R0 B0
      obtain ⟨A4, n4, c4, rfl⟩ := ownsRow_is HO.out
      obtain rfl : n4 = st.length := by
        rcases row_kinds HO.out with ⟨e, h⟩ | ⟨g, c, e, _⟩
        · simp only [Value.slice.injEq] at e; rw [h]; exact e.2.1
        · simp only [Value.slice.injEq] at e; exact e.2.1
      by_cases hlt : k < l.length
      · have hlti : (k : Int) < l.length := by omega
        obtain ⟨b, off, rfl, hc⟩ := HC.out (fun e => by rw [e] at hlt; simp at hlt)
        obtain ⟨sv, nv, hnd⟩ := hc k hlt
        have HSL := Lib.hid (HZ.out _ (List.getElem_mem hlt))
        have HD : Hid (Ex.checkGo (l.drop k) st.reverse = match Ex.stepE (l[k]'hlt) st.reverse with | .ok l2 => Ex.checkGo (l.drop (k + 1)) l2 | .error e => .error e) := by show _ = _; rw [List.drop_eq_getElem_cons hlt]; rfl
        generalize (l[k]'hlt) = n at *
        have hnr := hnd.below HB.out
        obtain ⟨As, cs, rfl⟩ : ∃ A c, sv = .slice A n.sel.length c := by obtain ⟨A, c, e, _⟩ := hnr.sel; exact ⟨A, c, e⟩
        obtain ⟨An, cn, rfl⟩ : ∃ A c, nv = .slice A n.nm.length c := by obtain ⟨A, c, e, _⟩ := hnr.nm; exact ⟨A, c, e⟩
        have MS := Lib.hid (hnr.sel.msn HSL.out)
        have WS := Lib.hid hnr.nm
        obtain ⟨q0, q1, q2, q3, q4, q5, q6, q7, _, _, _, _⟩ := hnr
        clear hc hnd HC HZ
        -- THE REST IS PRINTED BY mkeg.py
        have C0 := Lib.hid (nBox_at wr n (.slice As n.sel.length cs) (.slice An n.nm.length cn))
        obtain ⟨w3, hw3⟩ : ∃ x, x = nBox wr n (.slice As n.sel.length cs) (.slice An n.nm.length cn) := ⟨_, rfl⟩
        rw [← hw3] at C0
        obtain ⟨⟨a0, a1, a2, a3, a4, a5, a6, a7⟩, bw3⟩ := C0.out w3 (Below.refl _ _)
        have B3 := Lib.hid (HB.out.trans (bw3.mono HB.out.size))
        have AL := Lib.hid (alone_any n (.slice As n.sel.length cs) (.slice An n.nm.length cn) w3 (MS.out.below bw3) (WS.out.below bw3) (tabs_below HT.out B3.out) (Nat.le_trans hw B3.out.size))
        have TK := Lib.hid (fun w' => takes_any n (.slice As n.sel.length cs) (.slice An n.nm.length cn) w')
        have ONE := Lib.hid (fun a w' => oneTy_any n (.slice As n.sel.length cs) (.slice An n.nm.length cn) a w')
        have TWO := Lib.hid (fun a b w' => twoTy_any n (.slice As n.sel.length cs) (.slice An n.nm.length cn) a b w')
        unfold nBox at hw3
        unfold ndA at AL TK ONE TWO
        clear bw3
        go_upto_region 7 with fail
        rw [← hw3]
        clear hw3 q0 q1 q2 q3 q4 q5 q6 q7 MS WS
        generalize (Value.slice As n.sel.length cs) = sv at *
        generalize (Value.slice An n.nm.length cn) = nv at *
        go_wp2_with fail
        refine AL.out.mono ?_
        rintro e w4 ⟨rfl, hb4⟩
        obtain ⟨⟨d0, d1, d2, d3, d4, d5, d6, d7⟩, bw4⟩ := C0.out w4 hb4
        have B4 := Lib.hid (HB.out.trans (bw4.mono HB.out.size))
        have HB4 := Lib.hid hb4
        have BR4 := Lib.hid bw4
        clear a0 a1 a2 a3 a4 a5 a6 a7 AL hb4 bw4 B3
        by_cases ha : Ex.aloneE n = 0
        · have AK := alone_kind ha
          have SE : Hid (Ex.stepE n st.reverse = if (st.length : Int) < Ex.takesE n then .error 8 else
              if n.k = 0 then .ok (1 :: st.reverse) else if n.k = 1 then .ok (2 :: st.reverse) else if n.k = 2 then .ok (3 :: st.reverse) else
              if Ex.takesE n = 1 then (match st.reverse with
                | a :: t => if Ex.oneE n a = 0 then .error 260 else .ok (Ex.oneE n a :: t)
                | [] => .error 8)
              else match st.reverse with
                | b :: a :: t => if Ex.twoE n a b = 0 then .error 260 else .ok (Ex.twoE n a b :: t)
                | _ => .error 8) := by
            show _ = _
            unfold Ex.stepE
            rw [if_neg (by rw [ha]; decide), List.length_reverse]
            rfl
          rw [ha]
          clear ha
          have T4 := Lib.hid (TK.out w4)
          generalize Ex.takesE n = t at *
          go_wp2_with fail
          refine T4.out.mono ?_
          rintro e w6 ⟨rfl, hb6⟩
          have B6 := Lib.hid (B4.out.trans (hb6.mono B4.out.size))
          have BR6 := Lib.hid (BR4.out.trans (hb6.mono BR4.out.size))
          have HB6 := Lib.hid (HB4.out.trans (hb6.mono HB4.out.size))
          obtain ⟨⟨f0, f1, f2, f3, f4, f5, f6, f7⟩, _⟩ := C0.out w6 HB6.out
          have O5 : Hid (w6.ownsRow w.heap.size 3 1 (.slice A4 st.length c4) st.length (iC st)) := HO.out.kept (row := none) ⟨BR6.out.os, BR6.out.tape, BR6.out.output, BR6.out.size, fun k hk _ => BR6.out.block k hk⟩ (by cases (Value.slice A4 st.length c4).ownBlock <;> simp)
          clear d0 d1 d2 d3 d4 d5 d6 d7 T4 hb6 HB4 BR4 B4
          have hst64 : st.length ≤ 64 := by omega
          have ht01 : t = 0 ∨ t = 1 ∨ t = 2 := by rcases AK with ⟨h, _⟩ | ⟨h, _⟩ | ⟨h, _⟩ <;> omega
          by_cases hlen : (st.length : Int) < t
          · have E : Hid (Ex.checkGo l [] = .error 8) := by
              have := HR.out
              rw [HD.out, SE.out, if_pos hlen] at this
              exact this.symm
            have hsub : IntKind.i64.wrap ((st.length : Int) - t) = (st.length : Int) - t := IntWalk.i64_in _ (by omega)
            have hneg : (st.length : Int) - t < 0 := by omega
            clear hlen SE HD HR AK
            go_wp2_with fail
            exact bodyPost_ret (v := .tuple #[.int .i64 0, .int .i64 8]) (by simp [results, Tryz.results10, go_sem]) rfl ⟨by rw [checkE_err E.out h64], B6.out⟩
          · have SE2 : Hid (Ex.stepE n st.reverse = if n.k = 0 then .ok (1 :: st.reverse) else if n.k = 1 then .ok (2 :: st.reverse) else if n.k = 2 then .ok (3 :: st.reverse) else
              if t = 1 then (match st.reverse with
                | a :: t => if Ex.oneE n a = 0 then .error 260 else .ok (Ex.oneE n a :: t)
                | [] => .error 8)
              else match st.reverse with
                | b :: a :: t => if Ex.twoE n a b = 0 then .error 260 else .ok (Ex.twoE n a b :: t)
                | _ => .error 8) := by show _ = _; rw [SE.out, if_neg hlen]
            obtain ⟨j, hj⟩ : ∃ j : Nat, (j : Int) = (st.length : Int) - t := ⟨((st.length : Int) - t).toNat, by omega⟩
            have hsub : IntKind.i64.wrap ((st.length : Int) - t) = (j : Int) := by rw [← hj]; exact IntWalk.i64_in _ (by omega)
            have hjn : ¬ (j : Int) < 0 := by omega
            clear SE hlen
            have BX0 : Hid (Below w6.heap.size w6 w6) := Below.refl _ _
            have hjs : j ≤ st.length := by omega
            go_upto_block 2 with fail
            rw [← hj]
            go_cut [9] from 16 to 72 (fun v9 wx => ∃ ty : Int, v9 = .int .i64 ty ∧ Hid (Below w6.heap.size w6 wx) ∧ Hid (Ex.stepE n st.reverse = if ty = 0 then .error 260 else .ok (ty :: (st.take j).reverse)))
            case first =>
              clear HR HD B6 BR6
              rcases AK with ⟨ht, hkk⟩ | ⟨ht, h0, h1, h2⟩ | ⟨ht, h0, h1, h2⟩
              · have hjl : j = st.length := by omega
                subst hjl
                clear hj ht01 TK ONE TWO O5 C0 HB6
                rcases hkk with hk0 | hk0 | hk0
                · have R2 : Hid (Ex.stepE n st.reverse = if (1 : Int) = 0 then .error 260 else .ok ((1 : Int) :: (st.take st.length).reverse)) := by
                    show _ = _
                    rw [SE2.out, hk0, List.take_length]
                    simp
                  have g0 : (n.k == 0) = true := by rw [hk0]; rfl
                  have g1 : (n.k == 1) = false := by rw [hk0]; rfl
                  have g2 : (n.k == 2) = false := by rw [hk0]; rfl
                  clear hk0 SE2
                  go_wp2_with fail
                  go_meet
                  case rel => exact ⟨1, rfl, BX0, R2⟩
                · have R2 : Hid (Ex.stepE n st.reverse = if (2 : Int) = 0 then .error 260 else .ok ((2 : Int) :: (st.take st.length).reverse)) := by
                    show _ = _
                    rw [SE2.out, hk0, List.take_length]
                    simp
                  have g0 : (n.k == 0) = false := by rw [hk0]; rfl
                  have g1 : (n.k == 1) = true := by rw [hk0]; rfl
                  have g2 : (n.k == 2) = false := by rw [hk0]; rfl
                  clear hk0 SE2
                  go_wp2_with fail
                  go_meet
                  case rel => exact ⟨2, rfl, BX0, R2⟩
                · have R2 : Hid (Ex.stepE n st.reverse = if (3 : Int) = 0 then .error 260 else .ok ((3 : Int) :: (st.take st.length).reverse)) := by
                    show _ = _
                    rw [SE2.out, hk0, List.take_length]
                    simp
                  have g0 : (n.k == 0) = false := by rw [hk0]; rfl
                  have g1 : (n.k == 1) = false := by rw [hk0]; rfl
                  have g2 : (n.k == 2) = true := by rw [hk0]; rfl
                  clear hk0 SE2
                  go_wp2_with fail
                  go_meet
                  case rel => exact ⟨3, rfl, BX0, R2⟩
              · obtain ⟨pre, a, rfl⟩ : ∃ pre a, st = pre ++ [a] := by
                  have hne : st ≠ [] := fun e => by rw [e] at hj; simp at hj; omega
                  exact ⟨st.dropLast, st.getLast hne, (List.dropLast_concat_getLast hne).symm⟩
                rw [List.length_append, List.length_cons, List.length_nil] at hj hst64 hst
                have hjl : j = pre.length := by omega
                subst hjl
                have SE3 : Hid (Ex.stepE n (pre ++ [a]).reverse = if Ex.oneE n a = 0 then .error 260 else .ok (Ex.oneE n a :: pre.reverse)) := by
                  show _ = _
                  rw [SE2.out, if_neg h0, if_neg h1, if_neg h2, if_pos ht, List.reverse_append]; rfl
                have g0 : (n.k == 0) = false := by simpa using h0
                have g1 : (n.k == 1) = false := by simpa using h1
                have g2 : (n.k == 2) = false := by simpa using h2
                have gt : (t == 1) = true := by simp [ht]
                obtain ⟨g, rfl, hc4⟩ : ∃ g, A4 = some ⟨g, 0, none⟩ ∧ (pre ++ [a]).length ≤ c4 := by
                  rcases row_kinds O5.out with ⟨_, h⟩ | ⟨g, c5, e4, hc⟩
                  · simp at h
                  · simp only [Value.slice.injEq, true_and] at e4
                    obtain ⟨rfl, rfl⟩ := e4
                    exact ⟨g, rfl, hc⟩
                have cs : w6.cell? ⟨g, pre.length, none⟩ = some (.int .i64 a) := (row_cell O5.out rfl).2.2 pre.length _ (by simp [iC])
                have lg := World.block_lt_of_cell? w6 _ cs
                have hidx : (pre.length : Int) < (pre ++ [a]).length := by rw [List.length_append]; simp only [List.length_cons, List.length_nil]; omega
                have hidn : pre.length < (pre ++ [a]).length := by omega
                have hci : (pre.length : Int) ≤ c4 := by simp at hc4; omega
                have hle : pre.length ≤ (pre ++ [a]).length := by rw [List.length_append]; simp only [List.length_cons, List.length_nil]; omega
                have O1 := Lib.hid (ONE.out a)
                have T6 := Lib.hid (TK.out w6)
                clear h0 h1 h2 ht SE2 hj ht01 TK ONE TWO
                generalize hLn : (pre ++ [a]).length = Ln at *
                clear hLn
                go_wp2_with fail
                refine T6.out.mono ?_
                rintro e w8 ⟨rfl, hb8⟩
                have HB8 := Lib.hid hb8
                obtain ⟨⟨x0, x1, x2, x3, x4, x5, x6, x7⟩, _⟩ := C0.out w8 (HB6.out.trans (hb8.mono HB6.out.size))
                have cs' : w8.cell? ⟨g, pre.length, none⟩ = some (.int .i64 a) := (hb8.cell (p := ⟨g, pre.length, none⟩) lg).trans cs
                have KP : Hid (∀ w', Below w8.heap.size w8 w' → w'.cell? ⟨wr.heap.size, 0, none⟩ = some (.int .i64 n.k) ∧ w'.cell? ⟨wr.heap.size, 1, none⟩ = some (.int .i64 n.op) ∧ w'.cell? ⟨wr.heap.size, 2, none⟩ = some (.int .u64 (n.v : Int)) ∧ w'.cell? ⟨wr.heap.size, 3, none⟩ = some (.int .u64 (n.wd : Int)) ∧ w'.cell? ⟨wr.heap.size, 4, none⟩ = some sv ∧ w'.cell? ⟨wr.heap.size, 5, none⟩ = some (.bool n.bl) ∧ w'.cell? ⟨wr.heap.size, 6, none⟩ = some (.bool n.gb) ∧ w'.cell? ⟨wr.heap.size, 7, none⟩ = some nv ∧ w'.cell? ⟨g, pre.length, none⟩ = some (.int .i64 a) ∧ Below w8.heap.size w8 w') := fun w' hb => by
                  have k : ∀ {p : Addr} {u : Value}, w8.cell? p = some u → w'.cell? p = some u := fun hp => (hb.cell (World.block_lt_of_cell? w8 _ hp)).trans hp
                  exact ⟨k x0, k x1, k x2, k x3, k x4, k x5, k x6, k x7, k cs', hb⟩
                have OE : Hid (∀ w', Below w8.heap.size w8 w' → Calls Tryz.prog 23 #[.agg #[.int .i64 n.k, .int .i64 n.op, .int .u64 (n.v : Int), .int .u64 (n.wd : Int), sv, .bool n.bl, .bool n.gb, nv], .int .i64 a] w' (fun e w9 => e = .returned (.int .i64 (Ex.oneE n a)) ∧ Below w8.heap.size w8 w9)) := fun w' b => (O1.out w').mono fun e w9 h => ⟨h.1, b.trans (h.2.mono b.size)⟩
                have hb0 : Below w8.heap.size w8 w8 := Below.refl _ _
                clear f0 f1 f2 f3 f4 f5 f6 f7 cs hb8 T6 O1 O5 HB6 C0
                generalize hres : Ex.oneE n a = res at *
                have R2 : Hid (Ex.stepE n (pre ++ [a]).reverse = if res = 0 then .error 260 else .ok (res :: ((pre ++ [a]).take pre.length).reverse)) := by
                  show _ = _
                  rw [SE3.out, List.take_left]
                clear hres SE3
                go_upto_region 22 with fail
                go_region_held3 (fun w' => w'.cell? ⟨wr.heap.size, 0, none⟩ = some (.int .i64 n.k) ∧ w'.cell? ⟨wr.heap.size, 1, none⟩ = some (.int .i64 n.op) ∧ w'.cell? ⟨wr.heap.size, 2, none⟩ = some (.int .u64 (n.v : Int)) ∧ w'.cell? ⟨wr.heap.size, 3, none⟩ = some (.int .u64 (n.wd : Int)) ∧ w'.cell? ⟨wr.heap.size, 4, none⟩ = some sv ∧ w'.cell? ⟨wr.heap.size, 5, none⟩ = some (.bool n.bl) ∧ w'.cell? ⟨wr.heap.size, 6, none⟩ = some (.bool n.gb) ∧ w'.cell? ⟨wr.heap.size, 7, none⟩ = some nv ∧ w'.cell? ⟨g, pre.length, none⟩ = some (.int .i64 a) ∧ Below w8.heap.size w8 w')
                  ((refine KP.out _ ?_; (try go_split_ands); (repeat (first | refine Below.drew ?_ | refine below_drewN ?_ _)); assumption))
                  ((go_at_call 23; refine Calls.mono (OE.out _ ?_) ?_; (repeat (first | refine Below.drew ?_ | refine below_drewN ?_ _)); assumption; rintro e w9 ⟨rfl, hb9⟩))
                all_goals
                  have HB9 := Lib.hid (HB8.out.trans (hb9.mono HB8.out.size))
                  clear KP OE hb9 hb0 x0 x1 x2 x3 x4 x5 x6 x7 cs' HB8
                  go_wp2_with fail
                  go_meet
                  case rel => exact ⟨res, rfl, HB9, R2⟩
              · obtain ⟨pre, a, b, rfl⟩ : ∃ pre a b, st = pre ++ [a, b] := by
                  have h2l : 2 ≤ st.length := by omega
                  refine ⟨st.take (st.length - 2), st[st.length - 2], st[st.length - 1], ?_⟩
                  apply List.ext_getElem (by simp; omega)
                  intro i hi1 hi2
                  by_cases h : i < st.length - 2
                  · rw [List.getElem_append_left (by simp; omega)]; simp
                  · by_cases h' : i = st.length - 2
                    · subst h'
                      rw [List.getElem_append_right (by simp)]; simp
                    · have : i = st.length - 1 := by omega
                      subst this
                      rw [List.getElem_append_right (by simp; omega)]
                      simp [show st.length - 1 - (st.length - 2) = 1 by omega]
                have hL2 : (pre ++ [a, b]).length = pre.length + 2 := by simp
                rw [hL2] at hj hst64 hst
                have hjl : j = pre.length := by omega
                subst hjl
                have SE3 : Hid (Ex.stepE n (pre ++ [a, b]).reverse = if Ex.twoE n a b = 0 then .error 260 else .ok (Ex.twoE n a b :: pre.reverse)) := by
                  show _ = _
                  rw [SE2.out, if_neg h0, if_neg h1, if_neg h2, if_neg (by omega), List.reverse_append]; rfl
                have g0 : (n.k == 0) = false := by simpa using h0
                have g1 : (n.k == 1) = false := by simpa using h1
                have g2 : (n.k == 2) = false := by simpa using h2
                have gt : (t == 1) = false := by simp [ht]
                obtain ⟨g, rfl, hc4⟩ : ∃ g, A4 = some ⟨g, 0, none⟩ ∧ (pre ++ [a, b]).length ≤ c4 := by
                  rcases row_kinds O5.out with ⟨_, h⟩ | ⟨g, c5, e4, hc⟩
                  · simp at h
                  · simp only [Value.slice.injEq, true_and] at e4
                    obtain ⟨rfl, rfl⟩ := e4
                    exact ⟨g, rfl, hc⟩
                have cs : w6.cell? ⟨g, pre.length, none⟩ = some (.int .i64 a) := (row_cell O5.out rfl).2.2 pre.length _ (by simp [iC])
                have cs2 : w6.cell? ⟨g, pre.length + 1, none⟩ = some (.int .i64 b) := (row_cell O5.out rfl).2.2 (pre.length + 1) _ (by simp [iC])
                have lg := World.block_lt_of_cell? w6 _ cs
                have hidx : (pre.length : Int) < (pre ++ [a, b]).length := by rw [hL2]; omega
                have hidx2 : (pre.length : Int) + 1 < (pre ++ [a, b]).length := by rw [hL2]; omega
                have hidn : pre.length < (pre ++ [a, b]).length := by omega
                have hidn2 : pre.length + 1 < (pre ++ [a, b]).length := by omega
                have hci : (pre.length : Int) ≤ c4 := by rw [hL2] at hc4; omega
                have hle : pre.length ≤ (pre ++ [a, b]).length := by rw [hL2]; omega
                have O1 := Lib.hid (TWO.out a b)
                have T6 := Lib.hid (TK.out w6)
                have s1 : IntKind.i64.wrap ((pre.length : Int) + 1) = (pre.length : Int) + 1 := IntWalk.i64_in _ (by omega)
                have s2 : ((pre.length : Int) + 1).toNat = pre.length + 1 := by omega
                have s3 : (0 : Int) ≤ (pre.length : Int) + 1 := by omega
                clear h0 h1 h2 ht SE2 hj ht01 TK ONE TWO hL2
                generalize hLn : (pre ++ [a, b]).length = Ln at *
                clear hLn
                go_wp2_with fail
                refine T6.out.mono ?_
                rintro e w8 ⟨rfl, hb8⟩
                have HB8 := Lib.hid hb8
                obtain ⟨⟨x0, x1, x2, x3, x4, x5, x6, x7⟩, _⟩ := C0.out w8 (HB6.out.trans (hb8.mono HB6.out.size))
                have cs' : w8.cell? ⟨g, pre.length, none⟩ = some (.int .i64 a) := (hb8.cell (p := ⟨g, pre.length, none⟩) lg).trans cs
                have cs2' : w8.cell? ⟨g, pre.length + 1, none⟩ = some (.int .i64 b) := (hb8.cell (p := ⟨g, pre.length + 1, none⟩) lg).trans cs2
                have KP : Hid (∀ w', Below w8.heap.size w8 w' → w'.cell? ⟨wr.heap.size, 0, none⟩ = some (.int .i64 n.k) ∧ w'.cell? ⟨wr.heap.size, 1, none⟩ = some (.int .i64 n.op) ∧ w'.cell? ⟨wr.heap.size, 2, none⟩ = some (.int .u64 (n.v : Int)) ∧ w'.cell? ⟨wr.heap.size, 3, none⟩ = some (.int .u64 (n.wd : Int)) ∧ w'.cell? ⟨wr.heap.size, 4, none⟩ = some sv ∧ w'.cell? ⟨wr.heap.size, 5, none⟩ = some (.bool n.bl) ∧ w'.cell? ⟨wr.heap.size, 6, none⟩ = some (.bool n.gb) ∧ w'.cell? ⟨wr.heap.size, 7, none⟩ = some nv ∧ w'.cell? ⟨g, pre.length, none⟩ = some (.int .i64 a) ∧ w'.cell? ⟨g, pre.length + 1, none⟩ = some (.int .i64 b) ∧ Below w8.heap.size w8 w') := fun w' hb => by
                  have k : ∀ {p : Addr} {u : Value}, w8.cell? p = some u → w'.cell? p = some u := fun hp => (hb.cell (World.block_lt_of_cell? w8 _ hp)).trans hp
                  exact ⟨k x0, k x1, k x2, k x3, k x4, k x5, k x6, k x7, k cs', k cs2', hb⟩
                have OE : Hid (∀ w', Below w8.heap.size w8 w' → Calls Tryz.prog 24 #[.agg #[.int .i64 n.k, .int .i64 n.op, .int .u64 (n.v : Int), .int .u64 (n.wd : Int), sv, .bool n.bl, .bool n.gb, nv], .int .i64 a, .int .i64 b] w' (fun e w9 => e = .returned (.int .i64 (Ex.twoE n a b)) ∧ Below w8.heap.size w8 w9)) := fun w' b => (O1.out w').mono fun e w9 h => ⟨h.1, b.trans (h.2.mono b.size)⟩
                have hb0 : Below w8.heap.size w8 w8 := Below.refl _ _
                clear f0 f1 f2 f3 f4 f5 f6 f7 cs cs2 hb8 T6 O1 O5 HB6 C0
                generalize hres : Ex.twoE n a b = res at *
                have R2 : Hid (Ex.stepE n (pre ++ [a, b]).reverse = if res = 0 then .error 260 else .ok (res :: ((pre ++ [a, b]).take pre.length).reverse)) := by
                  show _ = _
                  rw [SE3.out, List.take_left]
                clear hres SE3
                go_upto_region 14 with fail
                go_region_held3 (fun w' => w'.cell? ⟨wr.heap.size, 0, none⟩ = some (.int .i64 n.k) ∧ w'.cell? ⟨wr.heap.size, 1, none⟩ = some (.int .i64 n.op) ∧ w'.cell? ⟨wr.heap.size, 2, none⟩ = some (.int .u64 (n.v : Int)) ∧ w'.cell? ⟨wr.heap.size, 3, none⟩ = some (.int .u64 (n.wd : Int)) ∧ w'.cell? ⟨wr.heap.size, 4, none⟩ = some sv ∧ w'.cell? ⟨wr.heap.size, 5, none⟩ = some (.bool n.bl) ∧ w'.cell? ⟨wr.heap.size, 6, none⟩ = some (.bool n.gb) ∧ w'.cell? ⟨wr.heap.size, 7, none⟩ = some nv ∧ w'.cell? ⟨g, pre.length, none⟩ = some (.int .i64 a) ∧ w'.cell? ⟨g, pre.length + 1, none⟩ = some (.int .i64 b) ∧ Below w8.heap.size w8 w')
                  ((refine KP.out _ ?_; (try go_split_ands); (repeat (first | refine Below.drew ?_ | refine below_drewN ?_ _)); assumption))
                  ((go_at_call 24; refine Calls.mono (OE.out _ ?_) ?_; (repeat (first | refine Below.drew ?_ | refine below_drewN ?_ _)); assumption; rintro e w9 ⟨rfl, hb9⟩))
                all_goals
                  have HB9 := Lib.hid (HB8.out.trans (hb9.mono HB8.out.size))
                  clear KP OE hb9 hb0 x0 x1 x2 x3 x4 x5 x6 x7 cs' cs2' HB8
                  go_wp2_with fail
                  go_meet
                  case rel => exact ⟨res, rfl, HB9, R2⟩
            case rest =>
              obtain ⟨ty, rfl, HBX, HSX⟩ := hcut
              have B9 := Lib.hid (B6.out.trans (HBX.out.mono B6.out.size))
              have O9 : Hid (wc.ownsRow w.heap.size 3 1 (.slice A4 st.length c4) st.length (iC st)) := O5.out.kept (row := none) ⟨HBX.out.os, HBX.out.tape, HBX.out.output, HBX.out.size, fun k hk _ => HBX.out.block k hk⟩ (by cases (Value.slice A4 st.length c4).ownBlock <;> simp)
              have PRE : Hid ((iC st).take j = iC (st.take j)) := by show _ = _; unfold iC; rw [List.map_take]
              have hjl : (st.take j).length = j := by rw [List.length_take]; omega
              clear f0 f1 f2 f3 f4 f5 f6 f7 HB6 C0 TK ONE TWO O5 B6 BR6 HBX SE2 AK ht01 hj BX0
              by_cases hr0 : ty = 0
              · have E : Hid (Ex.checkGo l [] = .error 260) := by
                  have := HR.out
                  rw [HD.out, HSX.out, if_pos hr0] at this
                  exact this.symm
                have gr : (ty == 0) = true := by simp [hr0]
                clear hr0 HR HD HSX
                go_wp2_with fail
                exact bodyPost_ret (v := .tuple #[.int .i64 0, .int .i64 260]) (by simp [results, Tryz.results10, go_sem]) rfl ⟨by rw [checkE_err E.out h64], B9.out⟩
              · have gr : (ty == 0) = false := by simpa using hr0
                have R2 : Hid (Ex.checkGo (l.drop (k + 1)) (st.take j ++ [ty]).reverse = Ex.checkGo l []) := by
                  have := HR.out
                  rw [HD.out, HSX.out, if_neg hr0] at this
                  show _ = _
                  rw [List.reverse_append]
                  exact this
                clear hr0 HR HD HSX
                rcases row_kinds O9.out with ⟨e4, hn0⟩ | ⟨g, c5, e4, hc4⟩
                · simp only [Value.slice.injEq] at e4
                  obtain ⟨rfl, _, rfl⟩ := e4
                  obtain rfl : st = [] := List.eq_nil_of_length_eq_zero hn0
                  obtain rfl : j = 0 := by simpa using hjs
                  clear hn0
                  have OP := Lib.hid (fun (o : Obj) => World.ownsRow.alloc (own_pre O9.out (Nat.le_refl _)) o)
                  have hA : Hid (0 + 1 ≤ maxLen) := by show _ ≤ _; unfold maxLen; omega
                  have hBy : Hid ((0 + 1) * 8 ≤ 140737488355328) := by show _ ≤ _; omega
                  have hC : Hid (∀ o : Obj, w.heap.size ≤ (wc.alloc o).heap.size) := fun o => by have := B9.out.size; simp; omega
                  go_wp2_with (at_builtin; refine wpList_append_own_at _ rfl (.tmp 68) (.tmp 70) 43 rfl w.heap.size 3 i0 (.int .i64 0) 1 8 Tryz.underlying43 I0.out.2.2.2 I0.out.1 I0.out.2.1 I0.out.2.2.1 rfl (by decide) _ 0 _ rfl (OP.out _) _ 1 1 (iC [ty]) rfl rfl ?d1 (iC_one _) hA.out hBy.out (hC.out _) ?_)
                  case d1 => exact news_int _ _ _ rfl
                  intro v' w7 own7 grow7 _ _
                  have B7 := Lib.hid (below_pushed (B9.out.alloc B9.out.size _) (OP.out _) grow7 (Nat.le_refl _))
                  have O7 : Hid (w7.ownsRow w.heap.size 3 1 v' ([] ++ [ty]).length (iC ([] ++ [ty]))) := own7
                  clear own7 grow7 OP
                  go_wp2_with fail
                  go_roundg (gk - 1)
                  case measure => omega
                  case rel => exact ⟨k + 1, [] ++ [ty], by go_num, by omega, by simp, R2, O7, B7⟩
                · simp only [Value.slice.injEq, true_and] at e4
                  obtain ⟨rfl, rfl⟩ := e4
                  have hci : (j : Int) ≤ c4 := by omega
                  have hcj : (0 : Int) ≤ j := by omega
                  have OP := Lib.hid (fun (o : Obj) => World.ownsRow.alloc (own_pre O9.out hjs) o)
                  have hA : Hid (j + 1 ≤ maxLen) := by show _ ≤ _; unfold maxLen; omega
                  have hBy : Hid ((j + 1) * 8 ≤ 140737488355328) := by show _ ≤ _; omega
                  have hC : Hid (∀ o : Obj, w.heap.size ≤ (wc.alloc o).heap.size) := fun o => by have := B9.out.size; simp; omega
                  go_wp2_with (at_builtin; refine wpList_append_own_at _ rfl (.tmp 68) (.tmp 70) 43 rfl w.heap.size 3 i0 (.int .i64 0) 1 8 Tryz.underlying43 I0.out.2.2.2 I0.out.1 I0.out.2.1 I0.out.2.2.1 rfl (by decide) _ j _ rfl (OP.out _) _ 1 1 (iC [ty]) rfl rfl ?d2 (iC_one _) hA.out hBy.out (hC.out _) ?_)
                  case d2 => exact news_int _ _ _ rfl
                  intro v' w7 own7 grow7 _ _
                  have B7 := Lib.hid (below_pushed (B9.out.alloc B9.out.size _) (OP.out _) grow7 (Nat.le_refl _))
                  have O7 : Hid (w7.ownsRow w.heap.size 3 1 v' ((st.take j) ++ [ty]).length (iC ((st.take j) ++ [ty]))) := by
                    have h := own7
                    rw [PRE.out] at h
                    show World.ownsRow _ _ _ _ _ _ _
                    rw [List.length_append, hjl, show iC ((st.take j) ++ [ty]) = iC (st.take j) ++ iC [ty] from List.map_append]
                    exact h
                  clear own7 grow7 OP
                  go_wp2_with fail
                  go_roundg (gk - 1)
                  case measure => omega
                  case rel => exact ⟨k + 1, (st.take j) ++ [ty], by go_num, by omega, by rw [List.length_append, hjl]; simp only [List.length_cons, List.length_nil]; omega, R2, O7, B7⟩
        · have E : Hid (Ex.checkGo l [] = .error (Ex.aloneE n)) := by
            have := HR.out
            rw [HD.out] at this
            unfold Ex.stepE at this
            rw [if_pos ha] at this
            exact this.symm
          have hne : (Ex.aloneE n != 0) = true := by simpa using ha
          clear ha HR HD
          generalize Ex.aloneE n = er at *
          go_wp2_with fail
          exact bodyPost_ret (v := .tuple #[.int .i64 0, .int .i64 er]) (by simp [results, Tryz.results10, go_sem]) rfl ⟨by rw [checkE_err E.out h64], B4.out⟩
      · have hki : ¬ (k : Int) < l.length := by omega
        have RR : Hid (Ex.checkGo l [] = .ok st.reverse) := by
          have := HR.out
          rw [List.drop_of_length_le (by omega)] at this
          exact this.symm
        have CE : Hid (Ex.checkE l = match st.reverse with
          | [t] => if t = 3 then (0, 260) else (t, 0)
          | _ => (0, 8)) := by
          show _ = _
          unfold Ex.checkE
          rw [if_neg h64, RR.out]
          rcases st.reverse with _ | ⟨t, _ | ⟨t2, r⟩⟩ <;> rfl
        have hst64 : st.length ≤ 64 := by omega
        clear HR RR hlt
        by_cases h1 : st.length = 1
        · obtain ⟨t, rfl⟩ : ∃ t, st = [t] := by
            cases st with
            | nil => simp at h1
            | cons t r => cases r with
              | nil => exact ⟨t, rfl⟩
              | cons x y => simp at h1
          obtain ⟨g, rfl, hc4⟩ : ∃ g, A4 = some ⟨g, 0, none⟩ ∧ 1 ≤ c4 := by
            rcases row_kinds HO.out with ⟨_, h⟩ | ⟨g, c5, e4, hc⟩
            · simp at h
            · simp only [Value.slice.injEq, true_and] at e4
              obtain ⟨rfl, rfl⟩ := e4
              exact ⟨g, rfl, hc⟩
          have cs : wr.cell? ⟨g, 0, none⟩ = some (.int .i64 t) := (row_cell HO.out rfl).2.2 0 _ (by simp [iC])
          by_cases h3 : t = 3
          · have g3 : (t == 3) = true := by simp [h3]
            have E : Hid (Ex.checkE l = (0, 260)) := by show _ = _; rw [CE.out]; simp [h3]
            clear h3 CE h1
            go_wp2_with fail
            exact bodyPost_ret (v := .tuple #[.int .i64 0, .int .i64 260]) (by simp [results, Tryz.results10, go_sem]) rfl ⟨by rw [E.out], HB.out⟩
          · have g3 : (t == 3) = false := by simpa using h3
            have E : Hid (Ex.checkE l = (t, 0)) := by show _ = _; rw [CE.out]; simp [h3]
            clear h3 CE h1
            go_wp2_with fail
            exact bodyPost_ret (v := .tuple #[.int .i64 t, .int .i64 0]) (by simp [results, Tryz.results10, go_sem]) rfl ⟨by rw [E.out], HB.out⟩
        · have g1 : ((st.length : Int) != 1) = true := by
            have : ((st.length : Int)) ≠ 1 := by omega
            simpa using this
          have E : Hid (Ex.checkE l = (0, 8)) := by
            show _ = _
            rw [CE.out]
            have hl : st.reverse.length ≠ 1 := by rw [List.length_reverse]; exact h1
            generalize st.reverse = rv at *
            rcases rv with _ | ⟨t, _ | ⟨t2, r⟩⟩
            · rfl
            · exact absurd rfl hl
            · rfl
          clear CE h1
          go_wp2_with fail
          exact bodyPost_ret (v := .tuple #[.int .i64 0, .int .i64 8]) (by simp [results, Tryz.results10, go_sem]) rfl ⟨by rw [E.out], HB.out⟩
end Go.Proofs.YtmbfpichaaanpaaGreatDoor
