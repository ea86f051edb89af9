import Derived.Test.YthlabaijaadocaaDoorXB8
/-! The reference's matching: a part that comes again. -/
namespace Go.Proofs.YthlabaijaadocaaDoor
open Go.RowKit Ut Rx Mt Go.Lib

/-- the places of now, and those that are reached -/
structure Go2 (w1 wr : World) (n T : Nat) (nv : Value) (now ou : List Bool) : Prop where
  b : Below w1.heap.size w1 wr
  ro : wr.ownsRow 0 4 1 (.slice (some ⟨T, 0, none⟩) n n) n (ou.map Value.bool)
  rn : wr.ownsRow 0 4 1 nv n (now.map Value.bool)
  ln : now.length = n
  lo : ou.length = n

set_option maxRecDepth 100000 in
set_option maxHeartbeats 8000000 in
theorem leads_again (w0 : World) (g i j : Nat) (f : Fi) (nd : Nd) (s : Int) (h0 : NodeAt w0 g i nd) (hk : (nd.k = 3 ∧ s = 42) ∨ (nd.k = 4 ∧ s = 43) ∨ (nd.k = 5 ∧ s = 63)) (hs : nd.s = .slice none 0 0) (ha : nd.a = j) (hA : Leads w0 g j f) (hL : ∀ l, Lin (l.length + 1) (f l)) : Leads w0 g i (oftenF f s) := by
  intro w hw l lv v fv hl hv hvl hll
  obtain ⟨bn, n, cap, c3, hi, hn, d0, d1, d2, d3, d4⟩ := (h0.below hw).ex
  have SAME := Lib.hid (again_same (hL l) hvl hk)
  have hK0 : (nd.k == 0) = false := by rcases hk with ⟨h, _⟩ | ⟨h, _⟩ | ⟨h, _⟩ <;> rw [h] <;> rfl
  have hK6 : (nd.k == 6) = false := by rcases hk with ⟨h, _⟩ | ⟨h, _⟩ | ⟨h, _⟩ <;> rw [h] <;> rfl
  have hK1 : (nd.k == 1) = false := by rcases hk with ⟨h, _⟩ | ⟨h, _⟩ | ⟨h, _⟩ <;> rw [h] <;> rfl
  have hK2 : (nd.k == 2) = false := by rcases hk with ⟨h, _⟩ | ⟨h, _⟩ | ⟨h, _⟩ <;> rw [h] <;> rfl
  rw [hs] at d3
  rw [ha] at d1
  have LEN : Hid (∀ x : List Bool, x.length = v.length → (f l x).length = v.length) := fun x hx => by rw [hvl]; exact (hL l).len x (by omega)
  have LA : Hid (∀ w', Below w.heap.size w w' → ∀ fv v', Bls w' fv v' → v'.length = l.length + 1 → Calls Tryd.prog 83 #[.pointer (some ⟨g, 3, none⟩), .int .i64 (j : Int), lv, fv] w' (EndsPost true w' fv (f l v'))) := fun w' b fv v' h2 h3 => hA w' (hw.trans (b.mono hw.size)) l lv v' fv (hl.below b) h2 h3 hll
  clear h0 hw hk hs ha hA hL hl
  generalize nd.k = kk at *
  generalize nd.b = nb0 at *
  generalize nd.t = nt0 at *
  have hv0 : 0 < v.length := by omega
  have hv1 : v.length ≤ 1000001 := by omega
  have hiI : (i : Int) < n := by omega
  obtain ⟨gv, capv, rfl, hcap⟩ : ∃ g c, fv = .slice (some ⟨g, 0, none⟩) v.length c ∧ v.length ≤ c := by
    rcases row_kinds hv with ⟨_, hn⟩ | h
    · omega
    · exact h
  have HV := Lib.hid hv
  have VL := Lib.hid hvl
  clear hv hvl
  obtain ⟨w1, hw1⟩ : ∃ x, x = w.alloc (.cells #[.int .i64 kk, .int .i64 (j : Int), .int .i64 nb0, .slice none 0 0, .bool nt0] 142) := ⟨_, rfl⟩
  have nb : w1.heap[w.heap.size]? = some (.cells #[.int .i64 kk, .int .i64 (j : Int), .int .i64 nb0, .slice none 0 0, .bool nt0] 142 (0, 0)) := by rw [hw1]; exact heap_alloc_new w _
  have z1 : w1.heap.size = w.heap.size + 1 := by rw [hw1]; simp
  have B1 : Hid (Below w.heap.size w w1) := by rw [hw1]; exact (Below.refl _ _).alloc (Nat.le_refl _) _
  have hmk := run_mk v.length (by omega) (w.alloc (.cells #[.int .i64 kk, .int .i64 (j : Int), .int .i64 nb0, .slice none 0 0, .bool nt0] 142))
  have N5 : Hid (∀ wq, Below w1.heap.size w1 wq → wq.cell? ⟨w.heap.size, 0, none⟩ = some (.int .i64 kk) ∧ wq.cell? ⟨w.heap.size, 1, none⟩ = some (.int .i64 j)) := fun wq hq => by
    have h := (hq.block w.heap.size (by omega)).trans nb
    exact ⟨blk_cell h 0, blk_cell h 1⟩
  obtain ⟨w2, hw2⟩ : ∃ x, x = w1.alloc (.cells (bz v.length) 4) := ⟨_, rfl⟩
  have B02 : Hid (Below w1.heap.size w1 w2) := by rw [hw2]; exact (Below.refl _ _).alloc (Nat.le_refl _) _
  have e0 := (N5.out w2 B02.out).1
  have nb2 : w2.heap[w.heap.size + 1]? = some (.cells (bz v.length) 4 (0, 0)) := by rw [hw2, ← z1]; exact heap_alloc_new w1 _
  have MR : Hid (w2.ownsRow 0 4 1 (.slice (some ⟨w.heap.size + 1, 0, none⟩) v.length v.length) v.length ((List.replicate v.length false).map Value.bool)) := by
    show World.ownsRow _ _ _ _ _ _ _
    rw [hw2, ← z1]; exact mk_row v.length (by omega) w1
  have OUT : Hid (∀ wr res, wr.ownsRow 0 4 1 (.slice (some ⟨w.heap.size + 1, 0, none⟩) v.length v.length) v.length (res.map Value.bool) → res.length = v.length → Below w1.heap.size w1 wr → EndsPost true w (.slice (some ⟨gv, 0, none⟩) v.length capv) res (.returned (.slice (some ⟨w.heap.size + 1, 0, none⟩) v.length v.length)) wr) := fun wr res h1 hr h2 => by
    refine ⟨_, rfl, ?_, Or.inr fun k hk => ?_, B1.out.trans (h2.mono B1.out.size)⟩
    · unfold Bls; rw [hr]; exact h1
    · have : w.heap.size + 1 = k := Option.some.inj hk
      omega
  have LA2 : Hid (∀ wr nv now, Below w1.heap.size w1 wr → wr.ownsRow 0 4 1 nv v.length (now.map Value.bool) → now.length = v.length → Calls Tryd.prog 83 #[.pointer (some ⟨g, 3, none⟩), .int .i64 (j : Int), lv, nv] wr (fun e w3 => ∃ gn cn, e = .returned (.slice (some ⟨gn, 0, none⟩) v.length cn) ∧ Below wr.heap.size wr w3 ∧ w3.ownsRow 0 4 1 (.slice (some ⟨gn, 0, none⟩) v.length cn) v.length ((f l now).map Value.bool) ∧ wr.heap.size ≤ gn)) := fun wr nv now hb hr hn => by
    refine (LA.out wr (B1.out.trans (hb.mono B1.out.size)) nv now (by unfold Bls; rw [hn]; exact hr) (by rw [hn]; exact VL.out)).mono ?_
    rintro e w3 ⟨rv, rfl, h1, h2, h3⟩
    obtain ⟨gn, cn, rfl, ho⟩ := h1.form (LEN.out _ hn) hv0
    exact ⟨gn, cn, rfl, h3, ho, h2.resolve_left (fun h => by cases h.1) _ rfl⟩
  have CV := Lib.hid (row_cell HV.out rfl).2.2
  have SRC : Hid (∀ j u, (v.map Value.bool)[j]? = some u → w2.cell? ((⟨gv, 0, none⟩ : Addr).add j) = some u) := fun j u hu => by
    have h1 := CV.out j u hu
    have lt := World.block_lt_of_cell? w _ h1
    have e : ((⟨gv, 0, none⟩ : Addr).add j) = ⟨gv, j, none⟩ := by unfold Addr.add; split <;> simp_all
    rw [e]
    exact ((B1.out.trans (B02.out.mono B1.out.size)).cell (p := ⟨gv, j, none⟩) lt).trans h1
  have ONE : Hid (∀ u ∈ v.map Value.bool, u.oneCell' = true) := fun u hu => by
    obtain ⟨b, _, rfl⟩ := List.mem_map.1 hu
    rfl
  have FIT : Hid (0 + (v.map Value.bool).length ≤ (bz v.length).size) := by
    have := congrArg List.length (bz_list v.length)
    show _ ≤ _
    simp at this ⊢
    omega
  have LN : Hid ((v.map Value.bool).length = Nat.min v.length v.length) := by show _ = _; simp
  have CP : Hid (∀ wr, wr = w2.setRow (w.heap.size + 1) ((bz v.length).toList.take 0 ++ ((v.map Value.bool) ++ (bz v.length).toList.drop (0 + (v.map Value.bool).length))).toArray → Below w1.heap.size w1 wr ∧ wr.ownsRow 0 4 1 (.slice (some ⟨w.heap.size + 1, 0, none⟩) v.length v.length) v.length (v.map Value.bool)) := fun wr hwr => by
    have e : ((bz v.length).toList.take 0 ++ ((v.map Value.bool) ++ (bz v.length).toList.drop (0 + (v.map Value.bool).length))).toArray = (v.map Value.bool).toArray := by
      rw [bz_list, List.drop_of_length_le (by simp)]; simp
    rw [e] at hwr
    subst hwr
    exact ⟨below_setRow B02.out (by omega) _, setRow_bls ⟨_, nb2⟩ (by omega)⟩
  have NB2 := Lib.hid nb2
  rw [hw1] at hw2
  have e0' := e0
  rw [hw2] at e0'
  clear hw1 nb LA CV nb2 e0
  go_enter Tryd.func83, Tryd.ntmps83
  go_upto_if 34 with fail
  rw [← hw2]
  clear hw2 hmk e0'
  go_cut [] (fun wx => Hid (Below w1.heap.size w1 wx) ∧ Hid (wx.ownsRow 0 4 1 (.slice (some ⟨w.heap.size + 1, 0, none⟩) v.length v.length) v.length ((if kk = 4 then List.replicate v.length false else v).map Value.bool)))
  case first =>
    by_cases h4 : kk = 4
    · have h4b : (kk != 4) = false := by simp [h4]
      have E : Hid ((if kk = 4 then List.replicate v.length false else v) = List.replicate v.length false) := if_pos h4
      clear h4
      go_wp2_with fail
      go_meet
      case rel =>
        refine ⟨B02, ?_⟩
        show World.ownsRow _ _ _ _ _ _ _
        rw [E.out]; exact MR.out
    · have h4b : (kk != 4) = true := by simp [h4]
      have E : Hid ((if kk = 4 then List.replicate v.length false else v) = v) := if_neg h4
      have nb2 := NB2.out
      clear h4
      go_wp2_with (refine wpList_copy_own rfl (.tmp 35) (.tmp 36) 129 129 rfl 4 Tryd.underlying129 (by kernel_rfl) _ 0 v.length v.length ⟨gv, 0, none⟩ v.length capv rfl rfl (bz v.length) 4 nb2 (v.map Value.bool) LN.out SRC.out FIT.out ONE.out ?_)
      have C := CP.out _ rfl
      generalize (w2.setRow (w.heap.size + 1) _) = wc at *
      go_meet
      case rel =>
        refine ⟨C.1, ?_⟩
        show World.ownsRow _ _ _ _ _ _ _
        rw [E.out]; exact C.2
  case rest =>
    obtain ⟨HB, HO⟩ := hcut
    have LO : Hid ((if kk = 4 then List.replicate v.length false else v).length = v.length) := by show _ = _; split <;> simp
    generalize (if kk = 4 then List.replicate v.length false else v) = o0 at *
    have G0 : Hid (Go2 w1 wc v.length (w.heap.size + 1) (.slice (some ⟨gv, 0, none⟩) v.length capv) v o0) := ⟨HB.out, HO.out, Bls.below HV.out (B1.out.trans (HB.out.mono B1.out.size)), rfl, LO.out⟩
    clear MR SRC ONE FIT LN CP NB2 hK0 hK6 hK1 hK2 HB HO LO c3 d0 d1 d2 d3 d4
    go_wp2_with fail
    go_loopg [15, 42] (v.length + 1) (fun gk v15 v42 wr => ∃ (c : Nat) (now ou : List Bool), v42 = .int .i64 c ∧ c + gk = v.length + 1 ∧ Hid (Go2 w1 wr v.length (w.heap.size + 1) v15 now ou) ∧ Hid (rnd (kk == 5) (f l) gk now ou = oftenF f s l v))
    case atStart => exact ⟨0, v, o0, rfl, by omega, G0, SAME⟩
    case round =>
      obtain ⟨c, now, ou, rfl, hc, HG, HR⟩ := hrel
      clear G0 SAME
      cases gk with
      | zero =>
        obtain rfl : c = v.length + 1 := by omega
        go_wp2_with fail
        go_ret
        rw [← HR.out]
        exact OUT.out wr ou HG.out.ro HG.out.lo HG.out.b
      | succ m =>
        have hcI : (c : Int) < (v.length : Int) + 1 := by omega
        have hcJ : (c : Int) ≤ (v.length : Int) := by omega
        obtain ⟨n0, n1⟩ := N5.out wr HG.out.b
        have D := Lib.hid (LA2.out wr u15 now HG.out.b HG.out.rn HG.out.ln)
        go_wp2_with fail
        refine D.out.mono ?_
        rintro e w3 ⟨gn, cn, rfl, hb3, hrow, hgn⟩
        have hmk3 := run_mk v.length (by omega) w3
        have NXL : Hid ((f l now).length = v.length) := LEN.out _ HG.out.ln
        have OUL : Hid (ou.length = v.length) := HG.out.lo
        have FRL : Hid ((fresh (f l now) ou).length = v.length) := by show _ = _; rw [fresh_length (by rw [NXL.out, OUL.out])]; exact OUL.out
        have OFL : Hid ((orF ou (fresh (f l now) ou)).length = v.length) := by show _ = _; rw [orF_length (by rw [FRL.out, OUL.out])]; exact OUL.out
        have hT := (HG.out.ro.lt (w.heap.size + 1) rfl).2
        have I0 : Hid (In3 w1 (w3.alloc (.cells (bz v.length) 4)) v.length (w.heap.size + 1) w3.heap.size gn cn (f l now) (fillK (fresh (f l now) ou) 0) (mixK (orF ou (fresh (f l now) ou)) ou 0)) := by
          have b3 : Below w1.heap.size w1 w3 := HG.out.b.trans (hb3.mono HG.out.b.size)
          have ro3 := HG.out.ro.kept (w' := w3) (row := none) ⟨hb3.os, hb3.tape, hb3.output, hb3.size, fun k hk _ => hb3.block k hk⟩ (by simp [Value.ownBlock])
          have lg := (hrow.lt gn rfl).2
          have hs3 := hb3.size
          refine ⟨b3.alloc b3.size _, hrow.alloc _, ?_, ?_, by omega, b3.size, by omega, by omega, by omega⟩
          · rw [fillK_zero, FRL.out]; exact mk_row v.length (by omega) w3
          · rw [mixK_zero]; exact ro3.alloc _
        have RN : Hid (rnd (kk == 5) (f l) (m + 1) now ou = if (kk == 5) || !(fresh (f l now) ou).any id then orF ou (fresh (f l now) ou) else rnd (kk == 5) (f l) m (fresh (f l now) ou) (orF ou (fresh (f l now) ou))) := rfl
        generalize f l now = nx at *
        clear hb3 hrow hgn D n1 hT HG
        go_wp2_with fail
        clear hmk3 n0
        generalize (w3.alloc (.cells (bz v.length) 4)) = w4 at *
        generalize w3.heap.size = F at *
        go_loopg [18, 55] v.length (fun gk v18 v55 wr => ∃ k : Nat, v55 = .int .i64 k ∧ k + gk = v.length ∧ v18 = .bool (((fresh nx ou).take k).any id) ∧ Hid (In3 w1 wr v.length (w.heap.size + 1) F gn cn nx (fillK (fresh nx ou) k) (mixK (orF ou (fresh nx ou)) ou k)))
        case atStart => exact ⟨0, rfl, by omega, rfl, I0⟩
        case round =>
          obtain ⟨k, rfl, hk, rfl, HI⟩ := hrel
          clear I0
          by_cases hlt : k < v.length
          · have hltI : (k : Int) < v.length := by omega
            have hk1 : k < nx.length := by rw [NXL.out]; exact hlt
            have hk3 : k < ou.length := by rw [OUL.out]; exact hlt
            have AT := HI.out.at_ (k := k) hk1 (by rw [fillK_len _ (by rw [FRL.out]; omega), FRL.out]; exact hlt) (by rw [mixK_len (by rw [OFL.out, OUL.out]) (by omega)]; exact hk3)
            rw [mixK_at (by rw [OFL.out, OUL.out]) hk3] at AT
            have NX : Hid (∀ x y, x = (nx[k] && !ou[k]) → y = (ou[k] || x) → In3 w1 ((wr.setCell ⟨F, k, none⟩ (.bool x)).setCell ⟨w.heap.size + 1, k, none⟩ (.bool y)) v.length (w.heap.size + 1) F gn cn nx (fillK (fresh nx ou) (k + 1)) (mixK (orF ou (fresh nx ou)) ou (k + 1)) ∧ ((fresh nx ou).take (k + 1)).any id = (((fresh nx ou).take k).any id || x)) := fun x y hx hy => HI.out.next (by rw [NXL.out, OUL.out]) hk3 hx hy
            obtain ⟨c0, ⟨y0, c1⟩, f1, c2, f2, D1, D2, G2, E1⟩ := AT
            have D1 := Lib.hid D1
            have D2 := Lib.hid D2
            have G2 := Lib.hid G2
            have E1 := Lib.hid E1
            clear HI
            generalize nx[k] = a at *
            generalize ou[k] = b at *
            generalize ((fresh nx ou).take k).any id = mm at *
            clear hk1 hk3
            rcases a with _ | _ <;> rcases b with _ | _ <;> rcases mm with _ | _
            · have d1 := D1.out false
              have d2 := D2.out false
              have g2 := G2.out false
              have e1 := E1.out false false
              have X := Lib.hid (NX.out false false rfl rfl)
              clear D1 D2 G2 E1 NX
              go_wp2_with fail
              go_roundg (gk - 1)
              case measure => omega
              case rel => exact ⟨k + 1, by go_num, by omega, by rw [X.out.2]; rfl, X.out.1⟩
            · have d1 := D1.out false
              have d2 := D2.out false
              have g2 := G2.out false
              have e1 := E1.out false false
              have X := Lib.hid (NX.out false false rfl rfl)
              clear D1 D2 G2 E1 NX
              go_wp2_with fail
              go_roundg (gk - 1)
              case measure => omega
              case rel => exact ⟨k + 1, by go_num, by omega, by rw [X.out.2]; rfl, X.out.1⟩
            · have d1 := D1.out false
              have d2 := D2.out false
              have g2 := G2.out false
              have e1 := E1.out false true
              have X := Lib.hid (NX.out false true rfl rfl)
              clear D1 D2 G2 E1 NX
              go_wp2_with fail
              go_roundg (gk - 1)
              case measure => omega
              case rel => exact ⟨k + 1, by go_num, by omega, by rw [X.out.2]; rfl, X.out.1⟩
            · have d1 := D1.out false
              have d2 := D2.out false
              have g2 := G2.out false
              have e1 := E1.out false true
              have X := Lib.hid (NX.out false true rfl rfl)
              clear D1 D2 G2 E1 NX
              go_wp2_with fail
              go_roundg (gk - 1)
              case measure => omega
              case rel => exact ⟨k + 1, by go_num, by omega, by rw [X.out.2]; rfl, X.out.1⟩
            · have d1 := D1.out true
              have d2 := D2.out true
              have g2 := G2.out true
              have e1 := E1.out true true
              have X := Lib.hid (NX.out true true rfl rfl)
              clear D1 D2 G2 E1 NX
              go_wp2_with fail
              go_roundg (gk - 1)
              case measure => omega
              case rel => exact ⟨k + 1, by go_num, by omega, by rw [X.out.2]; rfl, X.out.1⟩
            · have d1 := D1.out true
              have d2 := D2.out true
              have g2 := G2.out true
              have e1 := E1.out true true
              have X := Lib.hid (NX.out true true rfl rfl)
              clear D1 D2 G2 E1 NX
              go_wp2_with fail
              go_roundg (gk - 1)
              case measure => omega
              case rel => exact ⟨k + 1, by go_num, by omega, by rw [X.out.2]; rfl, X.out.1⟩
            · have d1 := D1.out false
              have d2 := D2.out false
              have g2 := G2.out false
              have e1 := E1.out false true
              have X := Lib.hid (NX.out false true rfl rfl)
              clear D1 D2 G2 E1 NX
              go_wp2_with fail
              go_roundg (gk - 1)
              case measure => omega
              case rel => exact ⟨k + 1, by go_num, by omega, by rw [X.out.2]; rfl, X.out.1⟩
            · have d1 := D1.out false
              have d2 := D2.out false
              have g2 := G2.out false
              have e1 := E1.out false true
              have X := Lib.hid (NX.out false true rfl rfl)
              clear D1 D2 G2 E1 NX
              go_wp2_with fail
              go_roundg (gk - 1)
              case measure => omega
              case rel => exact ⟨k + 1, by go_num, by omega, by rw [X.out.2]; rfl, X.out.1⟩
          · obtain rfl : k = v.length := by omega
            have HE : Hid (In3 w1 wr v.length (w.heap.size + 1) F gn cn nx (fresh nx ou) (orF ou (fresh nx ou))) := by
              have h := HI.out
              have e1 : fillK (fresh nx ou) v.length = fresh nx ou := by have := fillK_all (fresh nx ou); rwa [FRL.out] at this
              have e2 : mixK (orF ou (fresh nx ou)) ou v.length = orF ou (fresh nx ou) := by have := mixK_all (t := orF ou (fresh nx ou)) (o := ou) (by rw [OFL.out, OUL.out]); rwa [OUL.out] at this
              rw [e1, e2] at h
              exact h
            have e3 : (fresh nx ou).take v.length = fresh nx ou := List.take_of_length_le (by rw [FRL.out]; exact Nat.le_refl _)
            rw [e3]
            clear e3 HI
            obtain ⟨n0, n1⟩ := N5.out wr HE.out.b
            cases h5 : (kk == 5) with
            | true =>
              have R : Hid (orF ou (fresh nx ou) = oftenF f s l v) := by
                have := HR.out
                rw [RN.out, h5] at this
                exact this
              clear RN HR
              go_wp2_with fail
              go_ret
              rw [← R.out]
              exact OUT.out wr _ HE.out.ro OFL.out HE.out.b
            | false =>
              cases hm : (fresh nx ou).any id with
              | false =>
                have R : Hid (orF ou (fresh nx ou) = oftenF f s l v) := by
                  have := HR.out
                  rw [RN.out, h5, hm] at this
                  exact this
                clear RN HR hm
                go_wp2_with fail
                go_ret
                rw [← R.out]
                exact OUT.out wr _ HE.out.ro OFL.out HE.out.b
              | true =>
                have R : Hid (rnd (kk == 5) (f l) m (fresh nx ou) (orF ou (fresh nx ou)) = oftenF f s l v) := by
                  have := HR.out
                  rw [RN.out, h5, hm] at this
                  rw [h5]
                  exact this
                have G1 : Hid (Go2 w1 wr v.length (w.heap.size + 1) (.slice (some ⟨F, 0, none⟩) v.length v.length) (fresh nx ou) (orF ou (fresh nx ou))) := ⟨HE.out.b, HE.out.ro, HE.out.rf, FRL.out, OFL.out⟩
                clear RN HR hm
                go_wp2_with fail
                go_roundg m
                case measure => omega
                case rel => exact ⟨c + 1, fresh nx ou, orF ou (fresh nx ou), by go_num, by omega, G1, R⟩
end Go.Proofs.YthlabaijaadocaaDoor
