import Derived.Test.YthlabaijaadocaaDoorMq
/-! An atom, read. -/
namespace Go.Proofs.YthlabaijaadocaaDoor
open Go.RowKit Ut Rx

theorem itemF_len {l : List Int} {sp : List Span} {t : List Int} (h : itemF l = .ok (sp, t)) : sp.length ≤ 4 := by
  unfold itemF at h
  split at h
  · cases h
  · rename_i s' b t' hm
    split at h
    · split at h
      · cases h
      · cases h; simp
    · cases h; exact memF_len hm
theorem clsF_len : ∀ (n : Nat) (first : Bool) (acc : List Span) (l : List Int) (sp : List Span) (t : List Int), clsF n first acc l = some (.ok (sp, t)) → sp.length ≤ acc.length + 4 * n
  | 0, _, _, _, _, _, h => by cases h
  | n + 1, first, acc, l, sp, t, h => by
    unfold clsF at h
    split at h
    · split at h
      · cases h
      · rename_i s' t' hi
        have h1 := clsF_len n false (acc ++ s') t' sp t h
        have h2 := itemF_len hi
        rw [List.length_append] at h1
        omega
    · cases h; omega
theorem span_row {w : World} {base g : Nat} {sp : List Span} (hb : base ≤ g) (h : w.heap[g]? = some (.cells (spC sp).toArray 149 (0, 0))) (hl : sp.length ≤ 4000000) :
    w.ownsRow base 149 2 (.slice (some ⟨g, 0, none⟩) sp.length sp.length) sp.length (spC sp) := by
  refine ⟨spC_length sp, Or.inr ⟨g, sp.length, _, rfl, hb, h, Nat.le_refl _, by unfold maxLen; omega, by simp [spC_length], ?_⟩⟩
  rw [← spC_length, List.take_length]
/-- a part that was just made, its spans in a block of their own -/
theorem den_made {w wx : World} {sp : List Span} {g : Nat} {but pl : Bool} (hw : w.heap.size ≤ wx.heap.size) (hb : w.heap.size ≤ g) (h : wx.heap[g]? = some (.cells (spC sp).toArray 149 (0, 0))) (hl : sp.length ≤ 4000000) :
    Den true (fun k => w.heap.size ≤ k ∧ k < (wx.alloc (.cells #[.int .i64 0, .slice (some ⟨g, 0, none⟩) sp.length sp.length, .bool but, .bool pl, .slice none 0 0, .int .i32 0] 108)).heap.size)
      (wx.alloc (.cells #[.int .i64 0, .slice (some ⟨g, 0, none⟩) sp.length sp.length, .bool but, .bool pl, .slice none 0 0, .int .i32 0] 108)) wx.heap.size (oneF sp but) := by
  refine den_one w.heap.size wx.heap.size _ sp but _ pl _ 0 hl hw (heap_alloc_new wx _) ?_
  exact (span_row hb h hl).alloc _
theorem den_any {w wx : World} (hw : w.heap.size ≤ wx.heap.size) :
    Den true (fun k => w.heap.size ≤ k ∧ k < (wx.alloc (.cells #[.int .i64 0, .slice none 0 0, .bool true, .bool false, .slice none 0 0, .int .i32 0] 108)).heap.size)
      (wx.alloc (.cells #[.int .i64 0, .slice none 0 0, .bool true, .bool false, .slice none 0 0, .int .i32 0] 108)) wx.heap.size (oneF [] true) :=
  den_one w.heap.size wx.heap.size _ [] true _ false _ 0 (by simp) hw (heap_alloc_new wx _) (World.ownsRow_nil _ _ _ _)

set_option maxRecDepth 100000 in
set_option maxHeartbeats 4000000 in
theorem atom_of (n : Nat) (hn : n ≤ 900000) (ih : CPat n) : CAtom (n + 1) := by
  intro d l res hres hpos r s z w h hr hT hs hd
  obtain ⟨c, t, rfl⟩ : ∃ c t, l = c :: t := by
    cases l with
    | nil => exact absurd hpos (by simp [pk])
    | cons c t => exact ⟨c, t, rfl⟩
  have lt := h.lt
  have hp0 : pk (c :: t) = c := rfl
  have ht0 : (c :: t).tail = t := rfl
  have P := Lib.hid (peek_at r s (c :: t) d z w h hT)
  have H := Lib.hid h
  have HT := Lib.hid hT
  clear h hT hpos
  rw [parF, hp0, ht0] at hres
  by_cases h40 : c = 40
  · subst h40
    have R : Hid (grpF n d t = some res) := hres
    clear hres
    go_enter Tryd.func84, Tryd.ntmps84
    go_wp2_with fail
    refine P.out.mono ?_
    rintro e w1 ⟨rfl, hb1⟩
    rw [hp0]
    have H1 := Lib.hid (H.out.below hb1)
    have G1 : Hid (w.grownBy w1 (some r)) := grown_below hb1
    have HT1 := Lib.hid (tabs_below HT.out hb1)
    clear hb1 P H HT
    go_wp2_with fail
    refine (group_of n ih d t res R.out r s z w1 H1.out hr HT1.out hs hd).mono ?_
    rintro e w2 h2
    have HA := Lib.hid (h2.after G1.out)
    cases res with
    | error er =>
      obtain ⟨_, at_, rfl⟩ := id h2
      exact ⟨rfl, HA.out⟩
    | ok x =>
      obtain ⟨p, u⟩ := x
      obtain ⟨_, b, z', rfl, _⟩ := id h2
      clear h2 R
      go_wp2_with fail
      go_ret
      exact HA.out
  · have h40b : (c == 40) = false := by simpa using h40
    rw [if_neg (by simpa using h40)] at hres
    by_cases h91 : c = 91
    · subst h91
      rw [if_pos (show ((91 : Int) == 91) = true from rfl)] at hres
      cases hc : clsF n true [] (butF t) with
      | none => rw [hc] at hres; cases hres
      | some rc =>
        rw [hc] at hres
        have CC := Lib.hid hc
        have R := Lib.hid hres
        clear hres hc
        go_enter Tryd.func84, Tryd.ntmps84
        go_wp2_with fail
        refine P.out.mono ?_
        rintro e w1 ⟨rfl, hb1⟩
        rw [hp0]
        have H1 := Lib.hid (H.out.below hb1)
        have G1 : Hid (w.grownBy w1 (some r)) := grown_below hb1
        have HT1 := Lib.hid (tabs_below HT.out hb1)
        clear hb1 P H HT
        go_wp2_with fail
        refine (skip_any r s 91 t d z w1 H1.out hs).mono ?_
        rintro e w2 ⟨rfl, h2, g2⟩
        have H2 := Lib.hid h2
        have G2 := Lib.hid (grown_trans G1.out g2)
        have HT2 := Lib.hid (tabs_grown HT1.out hr g2)
        clear h2 g2 H1 G1 HT1
        go_wp2_with fail
        refine (class_any r s t d z w2 H2.out hr HT2.out hs n (by omega) rc CC.out).mono ?_
        rintro e w3 ⟨g3, h3⟩
        have R2 := R.out
        cases rc with
        | error er =>
          obtain ⟨at_, rfl⟩ := h3
          have E : res = .error er := (Option.some.inj R2).symm
          rw [E]
          exact ⟨rfl, grown_trans G2.out g3, ⟨_, rfl⟩⟩
        | ok x =>
          obtain ⟨sp, u⟩ := x
          obtain ⟨rfl, v, z', hcl⟩ := h3
          have E : Hid (res = .ok (.one sp (pk t == 94), u)) := (Option.some.inj R2).symm
          have LEN := clsF_len n true [] _ sp u CC.out
          have D : Hid (Den true (fun k => w.heap.size ≤ k ∧ k < w3.heap.size) w3 w2.heap.size (oneF sp (pk t == 94))) := by
            refine den_one w.heap.size w2.heap.size w3 sp _ v false _ 0 (by simp at LEN; omega) G2.out.size hcl.part ?_
            refine ⟨hcl.own.1, ?_⟩
            rcases hcl.own.2 with h1 | ⟨g, cap, cur, e1, e2, e3⟩
            · exact Or.inl h1
            · exact Or.inr ⟨g, cap, cur, e1, by have := G2.out.size; omega, e3⟩
          have HA := Lib.hid hcl.here
          have G3 := Lib.hid (grown_trans G2.out g3)
          clear hcl g3 R2 R CC LEN
          go_wp2_with fail
          go_ret
          rw [E.out]
          exact ⟨G3.out, _, z', rfl, HA.out, D.out⟩
    · have h91b : (c == 91) = false := by simpa using h91
      rw [if_neg (by simpa using h91)] at hres
      by_cases h46 : c = 46
      · subst h46
        rw [if_pos (show ((46 : Int) == 46) = true from rfl)] at hres
        have E : Hid (res = .ok (.one [] true, t)) := (Option.some.inj hres).symm
        clear hres
        go_enter Tryd.func84, Tryd.ntmps84
        go_wp2_with fail
        refine P.out.mono ?_
        rintro e w1 ⟨rfl, hb1⟩
        rw [hp0]
        have H1 := Lib.hid (H.out.below hb1)
        have G1 : Hid (w.grownBy w1 (some r)) := grown_below hb1
        have HT1 := Lib.hid (tabs_below HT.out hb1)
        clear hb1 P H HT
        go_wp2_with fail
        refine (skip_any r s 46 t d z w1 H1.out hs).mono ?_
        rintro e w2 ⟨rfl, h2, g2⟩
        have k2 := h2.cells.2.1
        have f2 := h2.cells.2.2 3
        have H2 := Lib.hid h2
        have G2 := Lib.hid (grown_trans G1.out g2)
        clear h2 g2 H1 G1 HT1
        go_wp2_with fail
        go_ret
        rw [E.out]
        generalize wrap64 (z + 1) = zz
        have e : (w2.setCell ⟨r, 3, none⟩ (.int .i64 zz)).heap.size = w2.heap.size := World.size_setCell _ _ _
        refine ⟨grown_alloc (grown_trans G2.out (grown_setCell _ _ _ _)) _, w2.heap.size, zz, rfl, (H2.out.size zz).below ((Below.refl _ _).alloc (Nat.le_refl _) _), ?_⟩
        have D := den_any (w := w) (wx := w2.setCell ⟨r, 3, none⟩ (.int .i64 zz)) (by rw [e]; exact G2.out.size)
        rw [e] at D
        exact D
      · have h46b : (c == 46) = false := by simpa using h46
        rw [if_neg (by simpa using h46)] at hres
        by_cases h92 : c = 92
        · subst h92
          rw [if_pos (show ((92 : Int) == 92) = true from rfl)] at hres
          have R := Lib.hid hres
          clear hres
          go_enter Tryd.func84, Tryd.ntmps84
          go_wp2_with fail
          refine P.out.mono ?_
          rintro e w1 ⟨rfl, hb1⟩
          rw [hp0]
          have H1 := Lib.hid (H.out.below hb1)
          have G1 : Hid (w.grownBy w1 (some r)) := grown_below hb1
          have HT1 := Lib.hid (tabs_below HT.out hb1)
          clear hb1 P H HT
          go_wp2_with fail
          refine (skip_any r s 92 t d z w1 H1.out hs).mono ?_
          rintro e w2 ⟨rfl, h2, g2⟩
          have H2 := Lib.hid h2
          have G2 := Lib.hid (grown_trans G1.out g2)
          have HT2 := Lib.hid (tabs_grown HT1.out hr g2)
          clear h2 g2 H1 G1 HT1
          go_wp2_with fail
          refine (escape_any r s t d z w2 H2.out HT2.out hs).mono ?_
          rintro e w3 ⟨g3, h3⟩
          have R2 := R.out
          cases he : escF t with
          | error er =>
            rw [he] at h3 R2
            obtain ⟨at_, rfl⟩ := h3
            have E : res = .error er := (Option.some.inj R2).symm
            rw [E]
            exact ⟨rfl, grown_trans G2.out g3, ⟨_, rfl⟩⟩
          | ok x =>
            obtain ⟨sp, single, u⟩ := x
            rw [he] at h3 R2
            obtain ⟨v, rfl, ⟨g, rfl, hg1, hg2⟩, hat⟩ := h3
            have E : Hid (res = .ok (.one sp false, u)) := (Option.some.inj R2).symm
            have LEN := Lib.hid (escF_len he)
            have k3 := hat.cells.2.1
            have f3 := hat.cells.2.2 3
            have HA := Lib.hid hat
            have SP := Lib.hid hg2
            have G3 := Lib.hid (grown_trans G2.out g3)
            have HG : Hid (w.heap.size ≤ g) := Nat.le_trans G2.out.size hg1
            have HR : Hid (g ≠ r) := by have := G2.out.size; show g ≠ r; omega
            clear hat g3 R2 R hg1 hg2 he
            go_wp2_with fail
            go_ret
            rw [E.out]
            generalize wrap64 (z + 1) = zz
            have e : (w3.setCell ⟨r, 3, none⟩ (.int .i64 zz)).heap.size = w3.heap.size := World.size_setCell _ _ _
            have hg : (w3.setCell ⟨r, 3, none⟩ (.int .i64 zz)).heap[g]? = some (.cells (spC sp).toArray 149 (0, 0)) := ((grown_setCell w3 r 3 (.int .i64 zz)).block g (Array.getElem?_eq_some_iff.1 SP.out).1 (fun e => HR.out (Option.some.inj e))).trans SP.out
            refine ⟨grown_alloc (grown_trans G3.out (grown_setCell _ _ _ _)) _, w3.heap.size, zz, rfl, (HA.out.size zz).below ((Below.refl _ _).alloc (Nat.le_refl _) _), ?_⟩
            have D := den_made (w := w) (wx := w3.setCell ⟨r, 3, none⟩ (.int .i64 zz)) (but := false) (pl := single) (by rw [e]; exact G3.out.size) HG.out hg (by have := LEN.out; omega)
            rw [e] at D
            exact D
        · have h92b : (c == 92) = false := by simpa using h92
          rw [if_neg (by simpa using h92)] at hres
          cases hsp : specB c with
          | true =>
            rw [hsp, if_pos rfl] at hres
            have E : Hid (res = .error 8) := (Option.some.inj hres).symm
            clear hres
            go_enter Tryd.func84, Tryd.ntmps84
            go_wp2_with fail
            refine P.out.mono ?_
            rintro e w1 ⟨rfl, hb1⟩
            rw [hp0]
            have H1 := Lib.hid (H.out.below hb1)
            have G1 : Hid (w.grownBy w1 (some r)) := grown_below hb1
            have HT1 := Lib.hid (tabs_below HT.out hb1)
            clear hb1 P H HT
            go_wp2_with fail
            refine (special_any c w1).mono ?_
            rintro e w2 ⟨rfl, hb2⟩
            rw [hsp]
            have H2 := Lib.hid (H1.out.below hb2)
            have G2 := Lib.hid (grown_then G1.out hb2)
            clear hb2 H1 G1 HT1
            go_wp2_with fail
            refine (bad_at r s (c :: t) d z 8 w2 H2.out).mono ?_
            rintro e w3 ⟨⟨at_, rfl⟩, rfl⟩
            rw [E.out]
            exact ⟨rfl, G2.out, ⟨_, rfl⟩⟩
          | false =>
            rw [hsp, if_neg (by simp)] at hres
            have E : Hid (res = .ok (.one [(c, c)] false, t)) := (Option.some.inj hres).symm
            clear hres
            go_enter Tryd.func84, Tryd.ntmps84
            go_wp2_with fail
            refine P.out.mono ?_
            rintro e w1 ⟨rfl, hb1⟩
            rw [hp0]
            have H1 := Lib.hid (H.out.below hb1)
            have G1 : Hid (w.grownBy w1 (some r)) := grown_below hb1
            have HT1 := Lib.hid (tabs_below HT.out hb1)
            clear hb1 P H HT
            go_wp2_with fail
            refine (special_any c w1).mono ?_
            rintro e w2 ⟨rfl, hb2⟩
            rw [hsp]
            have H2 := Lib.hid (H1.out.below hb2)
            have G2 := Lib.hid (grown_then G1.out hb2)
            clear hb2 H1 G1 HT1
            go_wp2_with fail
            refine (skip_any r s c t d z w2 H2.out hs).mono ?_
            rintro e w3 ⟨rfl, h3, g3⟩
            have k3 := h3.cells.2.1
            have f3 := h3.cells.2.2 3
            have H3 := Lib.hid h3
            have G3 := Lib.hid (grown_trans G2.out g3)
            clear h3 g3 H2 G2
            go_wp2_with fail
            go_ret
            rw [E.out]
            generalize wrap64 (z + 1) = zz
            have e : (w3.setCell ⟨r, 3, none⟩ (.int .i64 zz)).heap.size = w3.heap.size := World.size_setCell _ _ _
            have b7 : Below (w3.setCell ⟨r, 3, none⟩ (.int .i64 zz)).heap.size (w3.setCell ⟨r, 3, none⟩ (.int .i64 zz)) ((w3.setCell ⟨r, 3, none⟩ (.int .i64 zz)).alloc (.cells #[.int .i32 c, .int .i32 c] 149)) := (Below.refl _ _).alloc (Nat.le_refl _) _
            have hg : ((w3.setCell ⟨r, 3, none⟩ (.int .i64 zz)).alloc (.cells #[.int .i32 c, .int .i32 c] 149)).heap[w3.heap.size]? = some (.cells (spC [(c, c)]).toArray 149 (0, 0)) := by
              rw [← e]; exact heap_alloc_new _ _
            have e2 : ((w3.setCell ⟨r, 3, none⟩ (.int .i64 zz)).alloc (.cells #[.int .i32 c, .int .i32 c] 149)).heap.size = w3.heap.size + 1 := by simp
            refine ⟨grown_alloc (grown_alloc (grown_trans G3.out (grown_setCell _ _ _ _)) _) _, w3.heap.size + 1, zz, rfl, ((H3.out.size zz).below b7).below ((Below.refl _ _).alloc (Nat.le_refl _) _), ?_⟩
            have D := den_made (w := w) (wx := (w3.setCell ⟨r, 3, none⟩ (.int .i64 zz)).alloc (.cells #[.int .i32 c, .int .i32 c] 149)) (sp := [(c, c)]) (but := false) (pl := true) (by rw [e2]; have := G3.out.size; omega) G3.out.size hg (by simp)
            rw [e2] at D
            exact D
end Go.Proofs.YthlabaijaadocaaDoor
