import Derived.Test.YthlabaijaadocaaDoorXC1
import Derived.Test.YthlabaijaadocaaDoorXC2
/-! The reference's texts: a sign; a matcher. -/
namespace Go.Proofs.YthlabaijaadocaaDoor
open Go.RowKit Ut Rx Mt

def sgK : List Int := [3, 2, 4, 1]
def goS : List Int → List UInt8 → Int × List UInt8
  | [], _ => (0, [])
  | k :: t, l => eatS k (signT k) l (goS t l)
def signedF (l : List UInt8) : Int × List UInt8 := goS sgK l
theorem eatF_head {a b : UInt8} {p q l u : List UInt8} (h : eatF (a :: b :: p) l = some u) (hne : b ≠ (q.headD 0)) (hq : q ≠ []) : eatF (a :: q) l = none := by
  unfold eatF at h ⊢
  split at h
  · rename_i hp
    rw [if_neg]
    intro hq2
    match l, hp, hq2 with
    | x :: y :: t, hp, hq2 =>
      cases q with
      | nil => exact hq rfl
      | cons c q =>
        simp [List.isPrefixOf] at hp hq2 hne
        exact hne (hp.2.1.trans hq2.2.1.symm)
    | [x], hp, _ => simp [List.isPrefixOf] at hp
    | [], hp, _ => simp [List.isPrefixOf] at hp
  · cases h
/-- both readings of a sign -/
theorem sign_same (l : List UInt8) : (signedF l).1 = (signP l).1 ∧ ((signP l).1 ≠ 0 → (signedF l).2 = (signP l).2) := by
  unfold signedF signP sgK goS goS goS goS goS
  rw [show signT 3 = [61, 126] from rfl, show signT 2 = [33, 61] from rfl, show signT 4 = [33, 126] from rfl, show signT 1 = [61] from rfl]
  unfold eatS
  cases h1 : eatF [61, 126] l with
  | some u => exact ⟨rfl, fun _ => rfl⟩
  | none =>
    cases h2 : eatF [33, 61] l with
    | some u =>
      have h3 : eatF [33, 126] l = none := eatF_head h2 (by decide) (by decide)
      rw [h3]
      exact ⟨rfl, fun _ => rfl⟩
    | none =>
      cases h3 : eatF [33, 126] l with
      | some u => exact ⟨rfl, fun _ => rfl⟩
      | none =>
        cases h4 : eatF [61] l with
        | some u => exact ⟨rfl, fun _ => rfl⟩
        | none => exact ⟨rfl, fun h => absurd rfl h⟩

theorem cellAt {w : World} {g : Nat} {cs : Array Value} {t : TypeId} (h : w.heap[g]? = some (.cells cs t (0, 0))) (j : Nat) : w.cell? ⟨g, j, none⟩ = cs[j]? := cell_of_row w g j cs t (0, 0) h
def SgPost (w : World) (l : List UInt8) (e : Ending) (w' : World) : Prop := e = .returned (.tuple #[.int .i64 (signedF l).1, .string ⟨(signedF l).2.toArray⟩]) ∧ Below w.heap.size w w'
set_option maxRecDepth 100000 in
set_option maxHeartbeats 4000000 in
theorem rSigned_any (s : ByteArray) (w : World) : Calls Tryd.prog 78 #[.string s] w (SgPost w (by_ s)) := by
  obtain ⟨W0, hW0⟩ : ∃ x, x = w.alloc (.cells #[.int .i64 3, .int .i64 2, .int .i64 4, .int .i64 1] 3) := ⟨_, rfl⟩
  have hb : W0.heap[w.heap.size]? = some (.cells #[.int .i64 3, .int .i64 2, .int .i64 4, .int .i64 1] 3 (0, 0)) := by rw [hW0]; exact heap_alloc_new w _
  have hz : W0.heap.size = w.heap.size + 1 := by rw [hW0]; simp
  have KC : Hid (∀ wr, Below W0.heap.size W0 wr → ∀ k (hk : k < sgK.length), wr.cell? ⟨w.heap.size, k, none⟩ = some (.int .i64 (sgK[k]'hk))) := fun wr b k hk => by
    have h := (b.block w.heap.size (by omega)).trans hb
    match k, hk with
    | 0, _ => exact cellAt h 0
    | 1, _ => exact cellAt h 1
    | 2, _ => exact cellAt h 2
    | 3, _ => exact cellAt h 3
    | k + 4, hk => exact absurd hk (by show ¬ k + 4 < 4; omega)
  have B0 : Hid (Below w.heap.size w W0) := by rw [hW0]; exact (Below.refl _ _).alloc (Nat.le_refl _) _
  clear hb hz
  go_enter Tryd.func78, Tryd.ntmps78
  go_wp2_with fail
  rw [← hW0]
  clear hW0
  go_loopg [9] 4 (fun gk vk wr => ∃ k : Nat, vk = .int .i64 k ∧ k + gk = 4 ∧ Hid (goS (sgK.drop k) (by_ s) = signedF (by_ s)) ∧ Hid (Below W0.heap.size W0 wr))
  case atStart => exact ⟨0, rfl, rfl, rfl, Below.refl _ _⟩
  case round =>
    obtain ⟨k, rfl, hk, HR, HB⟩ := hrel
    by_cases hlt : k < sgK.length
    · have hlti : (k : Int) < 4 := by have : k < 4 := hlt; omega
      have hk4 : k < 4 := hlt
      have c0 := KC.out wr HB.out k hlt
      have HD : Hid (sgK.drop k = (sgK[k]'hlt) :: sgK.drop (k + 1)) := List.drop_eq_getElem_cons hlt
      generalize (sgK[k]'hlt) = kk at *
      clear hlt
      obtain ⟨sg, hsg⟩ : ∃ x : ByteArray, x = ⟨(signT kk).toArray⟩ := ⟨_, rfl⟩
      have SE : Hid (∀ w', Calls Tryd.prog 64 #[.int .i64 kk] w' (fun e w2 => e = .returned (.string sg) ∧ w2 = w')) := fun w' => (rSign_any kk w').mono fun e w2 h => ⟨by rw [hsg]; exact h.1, h.2⟩
      have BS : by_ sg = signT kk := by rw [hsg]
      have SL : (by_ sg).length = sg.size := tl_len sg
      have R1 : Hid (signedF (by_ s) = eatS kk (by_ sg) (by_ s) (goS (sgK.drop (k + 1)) (by_ s))) := by
        have := HR.out
        rw [HD.out, goS, ← BS] at this
        exact this.symm
      have BW := Lib.hid (B0.out.trans (HB.out.mono B0.out.size))
      clear hsg BS HR HD
      have hle : (0 : Int) ≤ sg.size := by omega
      by_cases hn : sg.size ≤ s.size
      · have hni : (sg.size : Int) ≤ s.size := by omega
        by_cases he : (by_ s).take sg.size = by_ sg
        · have heq : ((s.extract 0 sg.size).toList == sg.toList) = true := by
            rw [tl_eq, tl_eq]
            have : by_ (s.extract 0 sg.size) = by_ sg := by rw [by_take]; exact he
            exact beq_iff_eq.2 this
          have R : Hid (signedF (by_ s) = (kk, (by_ s).drop sg.size)) := by
            show _ = _
            rw [R1.out]
            unfold eatS
            rw [eat_yes (by rw [SL]; exact he), SL]
          have V : Hid (∀ w', Below wr.heap.size wr w' → SgPost w (by_ s) (.returned (.tuple #[.int .i64 kk, .string (s.extract sg.size s.size)])) w') := fun w' b => by
            refine ⟨?_, BW.out.trans (b.mono BW.out.size)⟩
            rw [R.out, ← by_drop]
          clear he R1 SL KC HB
          go_wp2_with fail
          refine (SE.out _).mono ?_
          rintro e w1 ⟨rfl, rfl⟩
          go_wp2_with fail
          go_quiet ((go_at_call 64; exact Calls.quiet_of_same (SE.out _)))
          go_wp2_with fail
          go_quiet (fail)
          go_wp2_with fail
          exact bodyPost_ret (v := .tuple #[.int .i64 kk, .string (s.extract sg.size s.size)]) (by simp [results, Tryd.results78, go_sem]) rfl (V.out _ (by repeat (first | exact Below.refl _ _ | refine below_drewN ?_ _)))
        · have heq : ((s.extract 0 sg.size).toList == sg.toList) = false := by
            rw [tl_eq, tl_eq, beq_eq_false_iff_ne]
            intro e
            exact he (by rw [← by_take]; exact e)
          have R2 : Hid (goS (sgK.drop (k + 1)) (by_ s) = signedF (by_ s)) := by
            have := R1.out
            unfold eatS at this
            rw [eat_no (by rw [SL]; exact he)] at this
            exact this.symm
          clear he R1 SL KC BW
          go_wp2_with fail
          refine (SE.out _).mono ?_
          rintro e w1 ⟨rfl, rfl⟩
          go_wp2_with fail
          go_quiet ((go_at_call 64; exact Calls.quiet_of_same (SE.out _)))
          go_wp2_with fail
          go_roundg (gk - 1)
          case measure => omega
          case rel => exact ⟨k + 1, by go_num, by omega, R2, by first | exact below_drewN HB.out _ | exact HB.out⟩
      · have hni : ¬ (sg.size : Int) ≤ s.size := by omega
        have R2 : Hid (goS (sgK.drop (k + 1)) (by_ s) = signedF (by_ s)) := by
          have := R1.out
          unfold eatS at this
          rw [eat_no (fun e => by have := congrArg List.length e; rw [List.length_take, SL, tl_len] at this; omega)] at this
          exact this.symm
        clear R1 SL KC BW
        go_wp2_with fail
        refine (SE.out _).mono ?_
        rintro e w1 ⟨rfl, rfl⟩
        go_wp2_with fail
        go_quiet ((go_at_call 64; exact Calls.quiet_of_same (SE.out _)))
        go_wp2_with fail
        go_roundg (gk - 1)
        case measure => omega
        case rel => exact ⟨k + 1, by go_num, by omega, R2, by first | exact below_drewN HB.out _ | exact HB.out⟩
    · have hk4 : k = 4 := by have : ¬ k < 4 := hlt; omega
      subst hk4
      have R : Hid (signedF (by_ s) = (0, [])) := HR.out.symm
      have BW := Lib.hid (B0.out.trans (HB.out.mono B0.out.size))
      clear HR hlt
      go_wp2_with fail
      exact bodyPost_ret (v := .tuple #[.int .i64 0, .string ⟨#[]⟩]) (by simp [results, Tryd.results78, go_sem]) rfl ⟨by rw [R.out], BW.out⟩
end Go.Proofs.YthlabaijaadocaaDoor

/-! The reference's texts: a matcher that a text begins with. -/
namespace Go.Proofs.YthlabaijaadocaaDoor
open Go.RowKit Ut Rx Mt

def O1Post (w : World) (l : List UInt8) (e : Ending) (w' : World) : Prop :=
  Below w.heap.size w w' ∧ match oneP l with
    | some (m, r) => e = .returned (.tuple #[.agg #[.int .i64 m.k, .string m.n, .string m.v], .string ⟨r.toArray⟩, .bool true])
    | none => e = .returned (.tuple #[.agg #[.int .i64 0, .string ⟨#[]⟩, .string ⟨#[]⟩], .string ⟨#[]⟩, .bool false])
theorem size_of {x : ByteArray} {l : List UInt8} {n : Nat} (h : by_ x = l) (hl : l.length ≤ n) : x.size ≤ n := by
  have : (by_ x).length = x.size := tl_len x
  rw [h] at this
  omega
theorem by_len {s : ByteArray} {n : Nat} (h : s.size ≤ n) : (by_ s).length ≤ n := by rw [show (by_ s).length = s.size from tl_len s]; exact h
theorem oneP_none {l : List UInt8} (h : l.takeWhile letU = [] ∨ (signP (bareF (l.dropWhile letU))).1 = 0) : oneP l = none := by
  unfold oneP
  split
  · rfl
  · rw [if_pos h]

set_option maxRecDepth 100000 in
set_option maxHeartbeats 4000000 in
theorem rOneT_any (s : ByteArray) (w : World) (hs : s.size ≤ 1000000) : Calls Tryd.prog 61 #[.string s] w (O1Post w (by_ s)) := by
  obtain ⟨W0, hW0⟩ : ∃ x, x = w.alloc (.cells #[.int .i64 0, .string ⟨#[]⟩, .string ⟨#[]⟩] 26) := ⟨_, rfl⟩
  have hb : W0.heap[w.heap.size]? = some (.cells #[.int .i64 0, .string ⟨#[]⟩, .string ⟨#[]⟩] 26 (0, 0)) := by rw [hW0]; exact heap_alloc_new w _
  have hz : W0.heap.size = w.heap.size + 1 := by rw [hW0]; simp
  have HB : Hid (∀ w', Below W0.heap.size W0 w' → w'.heap[w.heap.size]? = some (.cells #[.int .i64 0, .string ⟨#[]⟩, .string ⟨#[]⟩] 26 (0, 0))) := fun w' b => (b.block w.heap.size (by omega)).trans hb
  have B0 : Hid (Below w.heap.size w W0) := by rw [hW0]; exact (Below.refl _ _).alloc (Nat.le_refl _) _
  have FIN : Hid (∀ (w' : World) (x y z : Value), Below W0.heap.size W0 w' → ∀ wf, wf = (((w'.setCell ⟨w.heap.size, 0, none⟩ x).setCell ⟨w.heap.size, 1, none⟩ y).setCell ⟨w.heap.size, 2, none⟩ z) → wf.cell? ⟨w.heap.size, 0, none⟩ = some x ∧ wf.cell? ⟨w.heap.size, 1, none⟩ = some y ∧ wf.cell? ⟨w.heap.size, 2, none⟩ = some z ∧ Below w.heap.size w wf) := fun w' x y z b wf e => by
    subst e
    obtain ⟨hf, gf⟩ := set3 (HB.out w' b) x y z
    obtain ⟨y0, y1, y2, _⟩ := cells3 hf
    exact ⟨y0, y1, y2, below_grown (B0.out.trans (b.mono B0.out.size)) gf (Nat.le_refl _)⟩
  clear hb hz
  go_enter Tryd.func61, Tryd.ntmps61
  go_wp2_with fail
  rw [← hW0]
  clear hW0
  refine (rWord_any s W0 hs).mono ?_
  rintro e w1 ⟨rfl, hb1⟩
  have B1 := Lib.hid hb1
  obtain ⟨nm, hnm⟩ : ∃ x : ByteArray, x = ⟨((by_ s).takeWhile letU).toArray⟩ := ⟨_, rfl⟩
  obtain ⟨s1, hs1⟩ : ∃ x : ByteArray, x = ⟨((by_ s).dropWhile letU).toArray⟩ := ⟨_, rfl⟩
  have NM : Hid (by_ nm = (by_ s).takeWhile letU) := by show _ = _; rw [hnm]
  have S1 : Hid (by_ s1 = (by_ s).dropWhile letU) := by show _ = _; rw [hs1]
  have Z1 : s1.size ≤ 1000000 := size_of S1.out (Nat.le_trans (dropWhile_le _ _) (by_len hs))
  rw [← hnm, ← hs1]
  clear hnm hs1 hb1
  go_wp2_with fail
  refine (rBare_any s1 w1).mono ?_
  rintro e w1' ⟨rfl, rfl⟩
  obtain ⟨s2, hs2⟩ : ∃ x : ByteArray, x = ⟨(bareF (by_ s1)).toArray⟩ := ⟨_, rfl⟩
  have S2 : Hid (by_ s2 = bareF ((by_ s).dropWhile letU)) := by show _ = _; rw [hs2, ← S1.out]
  have Z2 : s2.size ≤ 1000000 := size_of S2.out (Nat.le_trans (dropWhile_le _ _) (by rw [← S1.out]; exact by_len Z1))
  rw [← hs2]
  clear hs2 S1
  go_wp2_with fail
  refine (rSigned_any s2 w1).mono ?_
  rintro e w2 ⟨rfl, hb2⟩
  have B2 := Lib.hid (B1.out.trans (hb2.mono B1.out.size))
  obtain ⟨sa, sb⟩ := sign_same (by_ s2)
  obtain ⟨s3, hs3⟩ : ∃ x : ByteArray, x = ⟨((signedF (by_ s2)).2).toArray⟩ := ⟨_, rfl⟩
  have S3 : Hid (by_ s3 = (signedF (by_ s2)).2) := by show _ = _; rw [hs3]
  rw [← hs3]
  have SA : Hid ((signP (bareF ((by_ s).dropWhile letU))).1 = (signedF (by_ s2)).1) := by show _ = _; rw [sa, S2.out]
  have SB : Hid ((signedF (by_ s2)).1 ≠ 0 → by_ s3 = (signP (bareF ((by_ s).dropWhile letU))).2) := fun h => by rw [S3.out, sb (by rw [← sa]; exact h), S2.out]
  clear hs3 sa sb hb2 S3 S2
  generalize (signedF (by_ s2)).1 = kk at *
  by_cases hz : nm.size = 0
  · have hem : nm.toList.isEmpty = true := by rw [tl_eq, show nm.data.toList = [] from by_empty hz]; rfl
    have E : Hid (oneP (by_ s) = none) := oneP_none (Or.inl (by rw [← NM.out]; exact by_empty hz))
    obtain ⟨c0, c1, c2, f0, f1, f2⟩ := cells3 (HB.out w2 B2.out)
    clear hz
    go_wp2_with fail
    obtain ⟨y0, y1, y2, bf⟩ := FIN.out w2 (.int .i64 0) (.string ⟨#[]⟩) (.string ⟨#[]⟩) B2.out _ rfl
    generalize (((w2.setCell ⟨w.heap.size, 0, none⟩ (.int .i64 0)).setCell ⟨w.heap.size, 1, none⟩ (.string ⟨#[]⟩)).setCell ⟨w.heap.size, 2, none⟩ (.string ⟨#[]⟩)) = wf at *
    exact bodyPost_ret (v := .tuple #[.agg #[.int .i64 0, .string ⟨#[]⟩, .string ⟨#[]⟩], .string ⟨#[]⟩, .bool false]) (by simp [results, Tryd.results61, go_sem, y0, y1, y2]) rfl ⟨bf, by simp only [E.out]⟩
  · have hem := string_ne (Nat.pos_of_ne_zero hz)
    have NE : Hid ((by_ s).takeWhile letU ≠ []) := fun h => hz (by rw [← tl_len nm, show nm.data.toList = [] from NM.out.trans h]; rfl)
    clear hz
    by_cases hk : kk = 0
    · have hkb : (kk == 0) = true := by simp [hk]
      have E : Hid (oneP (by_ s) = none) := oneP_none (Or.inr (SA.out.trans hk))
      obtain ⟨c0, c1, c2, f0, f1, f2⟩ := cells3 (HB.out w2 B2.out)
      clear hk
      go_wp2_with fail
      obtain ⟨y0, y1, y2, bf⟩ := FIN.out w2 (.int .i64 0) (.string ⟨#[]⟩) (.string ⟨#[]⟩) B2.out _ rfl
      generalize (((w2.setCell ⟨w.heap.size, 0, none⟩ (.int .i64 0)).setCell ⟨w.heap.size, 1, none⟩ (.string ⟨#[]⟩)).setCell ⟨w.heap.size, 2, none⟩ (.string ⟨#[]⟩)) = wf at *
      exact bodyPost_ret (v := .tuple #[.agg #[.int .i64 0, .string ⟨#[]⟩, .string ⟨#[]⟩], .string ⟨#[]⟩, .bool false]) (by simp [results, Tryd.results61, go_sem, y0, y1, y2]) rfl ⟨bf, by simp only [E.out]⟩
    · have hkb : (kk == 0) = false := by simp [hk]
      have S3 := Lib.hid (SB.out hk)
      have OP : Hid (oneP (by_ s) = match unquoteF (bareF (by_ s3)) with
          | .error _ => none
          | .ok (v, r) => some (⟨kk, nm, ⟨v.toArray⟩⟩, bareF r)) := by
        show _ = _
        unfold oneP
        rw [← S3.out, SA.out, ← NM.out]
        cases unquoteF (bareF (by_ s3)) with
        | error er => rfl
        | ok p =>
          obtain ⟨v, r⟩ := p
          simp only
          rw [if_neg (fun h => h.elim (fun h => NE.out (NM.out ▸ h)) hk)]
      have Z3 : s3.size ≤ 1000000 := by
        refine size_of S3.out ?_
        have h1 : (signP (bareF ((by_ s).dropWhile letU))).2.length ≤ (bareF ((by_ s).dropWhile letU)).length := eatS_len (eatS_len (eatS_len (eatS_len (Nat.le_refl _))))
        have h2 : (bareF ((by_ s).dropWhile letU)).length ≤ _ := dropWhile_le _ _
        have h3 := dropWhile_le letU (by_ s)
        have h4 : (by_ s).length = s.size := tl_len s
        omega
      clear hk SA SB
      go_wp2_with fail
      refine (rBare_any s3 w2).mono ?_
      rintro e w2' ⟨rfl, rfl⟩
      obtain ⟨s4, hs4⟩ : ∃ x : ByteArray, x = ⟨(bareF (by_ s3)).toArray⟩ := ⟨_, rfl⟩
      have S4 : Hid (by_ s4 = bareF (by_ s3)) := by show _ = _; rw [hs4]
      have Z4 : s4.size ≤ 1000000 := size_of S4.out (Nat.le_trans (dropWhile_le _ _) (by_len Z3))
      rw [← hs4]
      clear hs4
      have U := Lib.hid (rUnquote_any s4 w2 Z4)
      go_wp2_with fail
      refine U.out.mono ?_
      rintro e w6 ⟨hb6, h6⟩
      have B6 := Lib.hid (B2.out.trans (hb6.mono B2.out.size))
      obtain ⟨c0, c1, c2, f0, f1, f2⟩ := cells3 (HB.out w6 B6.out)
      clear hb6 U
      cases hu : unquoteF (by_ s4) with
      | error er =>
        have E : Hid (oneP (by_ s) = none) := by have := OP.out; rw [← S4.out, hu] at this; exact this
        rw [hu] at h6
        obtain rfl := h6
        have hne : (er != 0) = true := by rcases unquoteF_err hu with rfl | rfl <;> rfl
        clear hu OP
        go_wp2_with fail
        obtain ⟨y0, y1, y2, bf⟩ := FIN.out w6 (.int .i64 0) (.string ⟨#[]⟩) (.string ⟨#[]⟩) B6.out _ rfl
        generalize (((w6.setCell ⟨w.heap.size, 0, none⟩ (.int .i64 0)).setCell ⟨w.heap.size, 1, none⟩ (.string ⟨#[]⟩)).setCell ⟨w.heap.size, 2, none⟩ (.string ⟨#[]⟩)) = wf at *
        exact bodyPost_ret (v := .tuple #[.agg #[.int .i64 0, .string ⟨#[]⟩, .string ⟨#[]⟩], .string ⟨#[]⟩, .bool false]) (by simp [results, Tryd.results61, go_sem, y0, y1, y2]) rfl ⟨bf, by simp only [E.out]⟩
      | ok p =>
        obtain ⟨v, r⟩ := p
        rw [hu] at h6
        obtain ⟨n, hn, hr, rfl⟩ := h6
        have E : Hid (oneP (by_ s) = some (⟨kk, nm, ⟨v.toArray⟩⟩, bareF r)) := by have := OP.out; rw [← S4.out, hu] at this; exact this
        have hni : (n : Int) ≤ s4.size := by omega
        have S5 : Hid (bareF (by_ (s4.extract n s4.size)) = bareF r) := by show _ = _; rw [by_drop, hr]
        have BA := Lib.hid (rBare_any (s4.extract n s4.size) w6)
        clear hu OP hr
        go_wp2_with fail
        refine BA.out.mono ?_
        rintro e w6' ⟨rfl, rfl⟩
        rw [S5.out]
        clear BA
        go_wp2_with fail
        obtain ⟨y0, y1, y2, bf⟩ := FIN.out w6 (.int .i64 kk) (.string nm) (.string ⟨v.toArray⟩) B6.out _ rfl
        generalize (((w6.setCell ⟨w.heap.size, 0, none⟩ (.int .i64 kk)).setCell ⟨w.heap.size, 1, none⟩ (.string nm)).setCell ⟨w.heap.size, 2, none⟩ (.string ⟨v.toArray⟩)) = wf at *
        exact bodyPost_ret (v := .tuple #[.agg #[.int .i64 kk, .string nm, .string ⟨v.toArray⟩], .string ⟨(bareF r).toArray⟩, .bool true]) (by simp [results, Tryd.results61, go_sem, y0, y1, y2]) rfl ⟨bf, by simp only [E.out]⟩
end Go.Proofs.YthlabaijaadocaaDoor
