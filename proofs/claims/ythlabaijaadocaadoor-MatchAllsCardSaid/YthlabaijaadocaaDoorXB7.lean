import Derived.Test.YthlabaijaadocaaDoorXB6
import Derived.Test.YthlabaijaadocaaDoorXA3
/-! The reference's Parse. -/
namespace Go.Proofs.YthlabaijaadocaaDoor
open Go.RowKit Ut Rx Mt Go.Lib

/-- what the reference has made of a text -/
def RexR (B : Nat) (w : World) (g : Nat) (s : ByteArray) (p : Pat) : Prop :=
  ∃ c x ns, ∃ i : Nat, Ps w c x ns ∧ c.g = g ∧ B ≤ c.B ∧ c.sv = s ∧ x.top = i ∧ Nr w ns i p ∧ ns.length ≤ 2000
def RParse (w : World) (s : ByteArray) (e : Ending) (w' : World) : Prop :=
  Below w.heap.size w w' ∧ match rexF (rn (by_ s)) with
  | .ok p => ∃ g, e = .returned (.tuple #[.pointer (some ⟨g, 3, none⟩), .int .i64 0, .int .i64 0]) ∧ RexR w.heap.size w' g s p
  | .error er => ∃ q : Int, e = .returned (.tuple #[.pointer none, .int .i64 q, .int .i64 er])

theorem Ps.start {w : World} {B : Nat} {v : Value} {cs : List (Int × Int)} (en : Int) (t : ByteArray) (pl : Bool) (h : w.ownsRow B 138 2 v cs.length (chC cs)) (hB : B ≤ w.heap.size) (hf : cs.length ≤ 256) (hp : ∀ p ∈ cs, 0 ≤ p.1) :
    Ps (w.alloc (.cells #[v, .int .i64 0, .int .i64 en, .slice none 0 0, .int .i64 0, .string t, .int .i64 0, .bool pl, .int .i64 0, .int .i64 0, .int .i64 0] 119)) ⟨B, w.heap.size, v, cs, en, t⟩ ⟨0, .slice none 0 0, 0, 0, pl, 0, 0, 0⟩ [] :=
  ⟨heap_alloc_new w _, h.alloc _, World.ownsRow_nil _ _ _ _, hB, hf, Nat.zero_le _, hp⟩

theorem rnGo_nn : ∀ (k : Nat) (l : List UInt8), ∀ a ∈ rnGo k l, 0 ≤ a
  | 0, _, a, h => by simp [rnGo] at h
  | k + 1, l, a, h => by
    unfold rnGo at h
    split at h
    · cases h
    · rcases List.mem_cons.1 h with rfl | h
      · exact Int.natCast_nonneg _
      · exact rnGo_nn k _ a h
theorem rn_nn (l : List UInt8) : ∀ a ∈ rn l, 0 ≤ a := rnGo_nn _ _
theorem lf_len {c : Cx} {x : PV} : lf c x = [] ↔ ¬ x.i < c.cs.length := by
  unfold lf
  rw [List.map_eq_nil_iff, List.drop_eq_nil_iff]; omega
/-- the end of it: what is told -/
def EndP (w : World) (s : ByteArray) (w' : World) (c : Cx) (x : PV) (ns : List Nd) : Prop :=
  Ps w' c x ns ∧ c.B = w.heap.size ∧ c.sv = s ∧ Below w.heap.size w w' ∧ ((∃ p, x.e = 0 ∧ rexF (rn (by_ s)) = .ok p ∧ (∃ i : Nat, x.top = i ∧ Nr w' ns i p) ∧ ns.length ≤ 2000) ∨ (x.e ≠ 0 ∧ rexF (rn (by_ s)) = .error x.e))
set_option maxRecDepth 100000 in
set_option maxHeartbeats 4000000 in
theorem rParse_any (s : ByteArray) (w : World) (hs : s.size ≤ 256) (hv : validD (by_ s) = true) : Calls Tryd.prog 58 #[.string s] w (RParse w s) := by
  have hsz : ¬ (256 : Int) < s.size := by omega
  have V0 := Lib.hid hv
  clear hv
  go_enter Tryd.func58, Tryd.ntmps58
  go_wp2_with fail
  refine (chars_any s w hs V0.out).mono ?_
  rintro e w1 ⟨v, cs, rfl, own, hcs, hcl, hb⟩
  obtain ⟨A, n, cap, rfl⟩ := ownsRow_is own
  have B1 := Lib.hid hb
  have P0 := Lib.hid (Ps.start (s.size : Int) s true own hb.size (by omega) (fun p hp => rn_nn _ p.1 (hcs ▸ List.mem_map_of_mem (f := fun x : Int × Int => x.1) hp)))
  have HC := Lib.hid hcs
  clear own hcs hb
  go_wp2_with fail
  have W2 := Lib.hid ((Below.refl w1.heap.size w1).alloc (Nat.le_refl _) (.cells #[.slice A n cap, .int .i64 0, .int .i64 s.size, .slice none 0 0, .int .i64 0, .string s, .int .i64 0, .bool true, .int .i64 0, .int .i64 0, .int .i64 0] 119))
  have B2 := Lib.hid (B1.out.trans (W2.out.mono B1.out.size))
  obtain ⟨res, hres0, hres⟩ := parF_more (l := rn (by_ s)) (Nat.le_refl _)
  have RX := Lib.hid (rexF_of hres)
  have hl : (rn (by_ s)).length ≤ 256 := Nat.le_trans (rn_le _) (by rw [tl_len]; exact hs)
  have IH := Lib.hid ((rAll (3 * (rn (by_ s)).length + 4) (by omega)).2.2 _ (Nat.le_refl _) _ _ _ _ (rn (by_ s)) 0 res P0.out ⟨rfl, by unfold lf; exact HC.out, rfl, by omega, by simp; omega⟩ hres)
  obtain ⟨g, hg⟩ : ∃ g, w1.heap.size = g := ⟨_, rfl⟩
  rw [hg] at P0 IH ⊢
  generalize (w1.alloc (.cells #[.slice A n cap, .int .i64 0, .int .i64 s.size, .slice none 0 0, .int .i64 0, .string s, .int .i64 0, .bool true, .int .i64 0, .int .i64 0, .int .i64 0] 119)) = w2 at *
  obtain ⟨c, hc⟩ : ∃ c : Cx, c = ⟨w.heap.size, g, .slice A n cap, cs, s.size, s⟩ := ⟨_, rfl⟩
  obtain ⟨x0, hx0⟩ : ∃ x : PV, x = ⟨0, .slice none 0 0, 0, 0, true, 0, 0, 0⟩ := ⟨_, rfl⟩
  have cB : c.B = w.heap.size := by rw [hc]
  have cS : c.sv = s := by rw [hc]
  have cG : c.g = g := by rw [hc]
  have hlow : w.heap.size ≤ g := by rw [← hg]; exact B1.out.size
  have xL : x0.L = .slice none 0 0 := by rw [hx0]
  rw [← hc, ← hx0] at P0 IH
  subst cG
  clear hc hx0 hres hres0 hg W2
  refine IH.out.mono ?_
  rintro e w3 ⟨x3, more, idx, rfl, hst, hr⟩
  clear IH
  have pc := hst.ps.cells
  have c4 := pc.c4
  have f := pc.f
  have HST := Lib.hid hst
  have HR := Lib.hid hr
  clear hst hr pc
  go_upto_region 6 with fail
  have HS4 := Lib.hid (HST.out.set 4 (.int .i64 idx) { x3 with top := idx } rfl rfl HST.out.ps.at_)
  have B4 : Hid (Below w.heap.size w (w3.setCell ⟨c.g, 4, none⟩ (.int .i64 idx))) := B2.out.trans (HS4.out.fr.below B2.out.size hlow (fun q hq => by rw [xL] at hq; cases hq))
  have KEEP : Hid (∀ v sp, Sp w3 v sp → Sp (w3.setCell ⟨c.g, 4, none⟩ (.int .i64 idx)) v sp) := fun v sp k => HST.out.ps.other (Fr.of_grown x3.L (grown_setCell w3 c.g 4 (.int .i64 idx))) k (by decide) (by decide)
  generalize (w3.setCell ⟨c.g, 4, none⟩ (.int .i64 idx)) = w4 at *
  obtain ⟨x4, hx4⟩ : ∃ x : PV, x = { x3 with top := idx } := ⟨_, rfl⟩
  rw [← hx4] at HS4
  have xi : x4.i = x3.i := by rw [hx4]
  have xe : x4.e = x3.e := by rw [hx4]
  have xt : x4.top = idx := by rw [hx4]
  have xl : lf c x4 = lf c x3 := by rw [hx4]; rfl
  have XE : Hid ((x4.i < c.cs.length → ∃ er, er ≠ 0 ∧ rexF (rn (by_ s)) = .error er ∧ (if x4.e = 0 then 8 else x4.e) = er) ∧ (¬ x4.i < c.cs.length → x4.e = 0 → ∃ p, rexF (rn (by_ s)) = .ok p ∧ (∃ i : Nat, x4.top = i ∧ Nr w4 more i p)) ∧ (x4.e ≠ 0 → rexF (rn (by_ s)) = .error x4.e) ∧ more.length ≤ 1100) := by
    have hr := HR.out
    have rx := RX.out
    show _ ∧ _
    rw [xe, xt, ← lf_len, xl]
    rw [List.nil_append] at hr
    cases res with
    | error er =>
      obtain ⟨h1, h2, h3⟩ := hr
      refine ⟨fun _ => ⟨er, h2, rx, by rw [if_neg (by rw [h1]; exact h2), h1]⟩, fun _ h => absurd (h1 ▸ h) h2, fun _ => by rw [h1]; exact rx, by omega⟩
    | ok q =>
      obtain ⟨p, t⟩ := q
      obtain ⟨h1, h2, h3, h4, h5⟩ := hr
      refine ⟨fun h => ?_, fun h _ => ?_, fun h => absurd h1 h, by omega⟩
      · cases t with
        | nil => exact absurd h (lf_len.1 (xl.trans h2))
        | cons a t => exact ⟨8, by decide, rx, by rw [if_pos h1]⟩
      · rw [h2] at h
        subst h
        obtain ⟨i, h6, h7⟩ := h4
        have h8 := h7.more [] KEEP.out
        rw [List.append_nil] at h8
        exact ⟨p, rx, i, h6, h8⟩
  have S4 : Hid (Ps w4 c x4 more) := HS4.out.ps
  clear HS4 HST KEEP HR RX c4 f hx4 xi xe xt xl xL P0 HC hl
  have pc := S4.out.cells
  have c0 := pc.c0
  have c1 := pc.c1
  have c9 := pc.c9
  have c8 := pc.c8
  have f := pc.f
  obtain ⟨A, cap, hcv⟩ := cv_form S4.out
  rw [hcv] at c0
  have hfew := S4.out.few
  clear pc hcv
  by_cases hi : x4.i < c.cs.length
  · obtain ⟨er, h1, h2, h3⟩ := XE.out.1 hi
    have hi2 : (x4.i : Int) < c.cs.length := by omega
    have H1 := Lib.hid h1
    have H2 := Lib.hid h2
    have H3 := Lib.hid h3
    clear h1 h2 h3 hi XE
    go_quiet (fail)
    go_wp2_with fail
    refine (fail_any _ c x4 more 8 (S4.out.below (below_drewN (Below.refl _ _) _))).mono ?_
    rintro e w5 ⟨rfl, bad, hs5⟩
    have R : Hid (∀ w6, Below w5.heap.size w5 w6 → RParse w s (.returned (.tuple #[.pointer none, .int .i64 bad, .int .i64 er])) w6) := by
      intro w6 hb
      have b5 : Below w.heap.size w w5 := (below_drewN B4.out _).trans (hs5.fr.below (Nat.le_trans B4.out.size (below_drewN (Below.refl w4.heap.size w4) _).size) hlow (fun q hq => by have := (S4.out.nd.lt q hq).1; omega))
      refine ⟨b5.trans (hb.mono b5.size), ?_⟩
      rw [H2.out]
      exact ⟨_, rfl⟩
    have pc := hs5.ps.cells
    have d8 := pc.c8
    have d9 := pc.c9
    have df := pc.f
    have e8 : (failed x4 8 bad).bad = bad := rfl
    have e9 : (failed x4 8 bad).e = er := H3.out
    rw [e8] at d8
    rw [e9] at d9
    have her : (er != 0) = true := by simpa using H1.out
    clear pc hs5 S4 B4 c0 c1 c8 c9 f e8 e9 H1 H2 H3
    go_wp2_with fail
    go_quiet (fail)
    go_wp2_with fail
    exact bodyPost_ret (v := .tuple #[.pointer none, .int .i64 bad, .int .i64 er]) (by simp [results, Tryd.results58, go_sem]) rfl (R.out _ (by repeat (first | exact Below.refl _ _ | refine below_drewN ?_ _)))
  · have hi2 : ¬ (x4.i : Int) < c.cs.length := by omega
    by_cases he : x4.e = 0
    · obtain ⟨p, h1, i, h2, h3⟩ := XE.out.2.1 hi he
      rw [he] at c9
      have R : Hid (∀ w6, Below w4.heap.size w4 w6 → RParse w s (.returned (.tuple #[.pointer (some ⟨c.g, 3, none⟩), .int .i64 0, .int .i64 0])) w6) := by
        intro w6 hb
        refine ⟨B4.out.trans (hb.mono B4.out.size), ?_⟩
        rw [h1]
        exact ⟨c.g, rfl, c, x4, more, i, S4.out.below hb, rfl, by rw [cB]; exact Nat.le_refl _, cS, h2, h3.kept hb, by have := XE.out.2.2.2; omega⟩
      clear h1 h2 h3 he hi XE S4 B4
      go_quiet (fail)
      go_wp2_with fail
      exact bodyPost_ret (v := .tuple #[.pointer (some ⟨c.g, 3, none⟩), .int .i64 0, .int .i64 0]) (by simp [results, Tryd.results58, go_sem]) rfl (R.out _ (by repeat (first | exact Below.refl _ _ | refine below_drewN ?_ _)))
    · have h2 := XE.out.2.2.1 he
      have he2 : (x4.e != 0) = true := by simpa using he
      have R : Hid (∀ w6, Below w4.heap.size w4 w6 → RParse w s (.returned (.tuple #[.pointer none, .int .i64 x4.bad, .int .i64 x4.e])) w6) := by
        intro w6 hb
        refine ⟨B4.out.trans (hb.mono B4.out.size), ?_⟩
        rw [h2]
        exact ⟨_, rfl⟩
      clear h2 he hi XE S4 B4
      go_quiet (fail)
      go_wp2_with fail
      go_quiet (fail)
      go_wp2_with fail
      exact bodyPost_ret (v := .tuple #[.pointer none, .int .i64 x4.bad, .int .i64 x4.e]) (by simp [results, Tryd.results58, go_sem]) rfl (R.out _ (by repeat (first | exact Below.refl _ _ | refine below_drewN ?_ _)))

set_option maxRecDepth 100000 in
set_option maxHeartbeats 4000000 in
theorem rrCheck_any (s : ByteArray) (w : World) (hs : s.size ≤ 256) (hv : validD (by_ s) = true) : Calls Tryd.prog 36 #[.string s] w (IntBelow w (errF (rexF (rn (by_ s))))) := by
  have V0 := Lib.hid hv
  clear hv
  go_enter Tryd.func36, Tryd.ntmps36
  go_wp2_with fail
  refine (rParse_any s w hs V0.out).mono ?_
  rintro e w1 ⟨hb, hr⟩
  cases h : rexF (rn (by_ s)) with
  | ok p =>
    simp only [h] at hr
    obtain ⟨g, rfl, _⟩ := hr
    have B1 := Lib.hid hb
    have E : Hid (errF (rexF (rn (by_ s))) = 0) := by show _ = _; rw [h]; rfl
    clear hb h
    go_wp2_with fail
    go_ret
    exact ⟨i32_ret (Eq.symm E.out), B1.out⟩
  | error er =>
    simp only [h] at hr
    obtain ⟨q, rfl⟩ := hr
    have B1 := Lib.hid hb
    have E : Hid (errF (rexF (rn (by_ s))) = er) := by show _ = _; rw [h]; rfl
    clear hb h
    go_wp2_with fail
    go_ret
    exact ⟨i32_ret (Eq.symm E.out), B1.out⟩
end Go.Proofs.YthlabaijaadocaaDoor

/-! The reference's matching: one part's runes. -/
namespace Go.Proofs.YthlabaijaadocaaDoor
open Go.RowKit Ut Rx Mt Go.Lib

theorem Sp.le {w : World} {v : Value} {sp : List Span} (h : Sp w v sp) : sp.length ≤ 9223372036854775807 := by
  rcases h.2 with ⟨_, h0⟩ | ⟨g, cap, cur, _, _, _, h1, h2, _⟩
  · omega
  · unfold maxLen at h2; omega

set_option maxRecDepth 100000 in
set_option maxHeartbeats 2000000 in
theorem in_any (k a b : Int) (v : Value) (sp : List Span) (but : Bool) (c : Int) (w : World) (h : Sp w v sp) :
    Calls Tryd.prog 94 #[.agg #[.int .i64 k, .int .i64 a, .int .i64 b, v, .bool but], .int .i32 c] w (BoolBelow w (hasS sp c != but)) := by
  have hlen := h.le
  have B0 := Lib.hid ((Below.refl w.heap.size w).alloc (Nat.le_refl _) (.cells #[.int .i64 k, .int .i64 a, .int .i64 b, v, .bool but] 142))
  have nb := heap_alloc_new w (.cells #[.int .i64 k, .int .i64 a, .int .i64 b, v, .bool but] 142)
  have K4 : Hid (∀ w', Below (w.alloc (.cells #[.int .i64 k, .int .i64 a, .int .i64 b, v, .bool but] 142)).heap.size (w.alloc (.cells #[.int .i64 k, .int .i64 a, .int .i64 b, v, .bool but] 142)) w' → w'.cell? ⟨w.heap.size, 4, none⟩ = some (.bool but)) := fun w' hw => by
    rw [hw.cell (p := ⟨w.heap.size, 4, none⟩) (by simp)]; exact blk_cell nb 4
  rcases row_kinds h with ⟨rfl, hn⟩ | ⟨g, cap, rfl, hcap⟩
  · obtain rfl : sp = [] := List.eq_nil_of_length_eq_zero hn
    have k3 := blk_cell nb 3
    have k4 := blk_cell nb 4
    clear h K4 nb
    go_enter Tryd.func94, Tryd.ntmps94
    go_wp2_with fail
    generalize (w.alloc (.cells #[.int .i64 k, .int .i64 a, .int .i64 b, .slice none 0 0, .bool but] 142)) = w1 at *
    go_loopg [10] 0 (fun gk vk wr => vk = .int .i64 0 ∧ wr = w1)
    case atStart => exact ⟨rfl, rfl⟩
    case round =>
      obtain ⟨rfl, rfl⟩ := hrel
      go_wp2_with fail
      go_ret
      exact ⟨by cases but <;> rfl, B0.out⟩
  · have HC := Lib.hid (row_cell h rfl).2.2
    have hlt0 : g < w.heap.size ∨ sp.length = 0 := by
      rcases h.2 with ⟨_, h0⟩ | ⟨g', cap', cur, e, _, h1, _⟩
      · exact Or.inr h0
      · cases e; exact Or.inl (Array.getElem?_eq_some_iff.1 h1).1
    have k3 := blk_cell nb 3
    clear h nb
    go_enter Tryd.func94, Tryd.ntmps94
    go_wp2_with fail
    generalize (w.alloc (.cells #[.int .i64 k, .int .i64 a, .int .i64 b, .slice (some ⟨g, 0, none⟩) sp.length cap, .bool but] 142)) = w1 at *
    go_loopg [10] sp.length (fun gk vk wr => ∃ i : Nat, vk = .int .i64 i ∧ i + gk = sp.length ∧ Hid (inB sp c i = false) ∧ Hid (Below w1.heap.size w1 wr))
    case atStart => exact ⟨0, rfl, by omega, rfl, Below.refl _ _⟩
    case round =>
      obtain ⟨i, rfl, hk, HIN, HW⟩ := hrel
      have HWW := Lib.hid (B0.out.trans (HW.out.mono B0.out.size))
      have k4 := K4.out wr HW.out
      by_cases hlt : i < sp.length
      · obtain ⟨e1, e2⟩ := spC_get sp i hlt
        have lg : g < w.heap.size := World.block_lt_of_cell? w _ (HC.out _ _ e1)
        have c1 : wr.cell? ⟨g, i * 2, none⟩ = some (.int .i32 (sp[i]'hlt).1) := (HWW.out.cell (p := ⟨g, i * 2, none⟩) lg).trans (HC.out _ _ e1)
        have c2 : wr.cell? ⟨g, i * 2 + 1, none⟩ = some (.int .i32 (sp[i]'hlt).2) := (HWW.out.cell (p := ⟨g, i * 2 + 1, none⟩) lg).trans (HC.out _ _ e2)
        have S := Lib.hid (inB_succ sp c i hlt)
        have ALL : Hid (inB sp c (i + 1) = true → hasS sp c = true) := fun h => by
          unfold inB hasS at h; unfold hasS
          rw [List.any_eq_true] at h ⊢
          obtain ⟨x, hx, h2⟩ := h
          exact ⟨x, List.mem_of_mem_take hx, h2⟩
        generalize (sp[i]'hlt).1 = lo at c1 S
        generalize (sp[i]'hlt).2 = hi at c2 S
        clear e1 e2 k3
        by_cases h1 : lo ≤ c
        · by_cases h2 : c ≤ hi
          · have E : Hid ((hasS sp c != but) = !but) := by
              show _ = _
              rw [ALL.out (by rw [S.out, HIN.out, decide_eq_true h1, decide_eq_true h2]; rfl)]
              cases but <;> rfl
            have k4a := K4.out (wr.alloc (.cells #[.int .i32 lo, .int .i32 hi] 151)) (HW.out.alloc HW.out.size _)
            clear S ALL k4
            go_wp2_with fail
            go_ret
            exact ⟨ret_b (Eq.symm E.out), HWW.out.alloc HWW.out.size _⟩
          · have S2 : Hid (inB sp c (i + 1) = false) := by show _ = _; rw [S.out, HIN.out, decide_eq_false h2]; simp
            have h2d : decide (c ≤ hi) = false := by simpa using h2
            clear S ALL k4
            go_wp2_with fail
            go_roundg (gk - 1)
            case measure => omega
            case rel => exact ⟨i + 1, by go_num, by omega, S2, HW.out.alloc HW.out.size _⟩
        · have S2 : Hid (inB sp c (i + 1) = false) := by show _ = _; rw [S.out, HIN.out, decide_eq_false (show ¬ c ≥ lo from h1)]; rfl
          have h1d : decide (lo ≤ c) = false := by simpa using h1
          clear S ALL k4
          go_wp2_with fail
          go_roundg (gk - 1)
          case measure => omega
          case rel => exact ⟨i + 1, by go_num, by omega, S2, HW.out.alloc HW.out.size _⟩
      · obtain rfl : i = sp.length := by omega
        have e := Lib.hid (inB_all sp c)
        have E : Hid ((hasS sp c != but) = but) := by show _ = _; rw [← e.out, HIN.out]; cases but <;> rfl
        go_wp2_with fail
        go_ret
        exact ⟨ret_b (Eq.symm E.out), HWW.out⟩
end Go.Proofs.YthlabaijaadocaaDoor
