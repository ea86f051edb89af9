import Derived.Test.YtmbfpichaaanpaaGreatDoorX08
/-! Reading: what is read leads where the pattern's meaning says; groups; atoms. -/
namespace Go.Proofs.YtmbfpichaaanpaaGreatDoor
open Go.RowKit Ut Rx

theorem Den.move {fr : Bool} {F G : Nat → Prop} {w w' : World} {b : Nat} {f : Fi} (h : Den fr F w b f) (hs : w.heap.size ≤ w'.heap.size) (hk : ∀ k, F k → w'.heap[k]? = w.heap[k]?) (hg : ∀ k, F k → G k) : Den fr G w' b f :=
  fun w'' h1 h2 => h w'' (Nat.le_trans hs h1) (fun k hf => (h2 k (hg k hf)).trans (hk k hf))
theorem Den.congr {fr : Bool} {F : Nat → Prop} {w : World} {b : Nat} {f g : Fi} (h : Den fr F w b f) (e : ∀ l v, v.length = l.length + 1 → f l v = g l v) : Den fr F w b g :=
  fun w' h1 h2 l lv v fv hl hv hvl hll => by rw [← e l v hvl]; exact h w' h1 h2 l lv v fv hl hv hvl hll
theorem Den.weak {F : Nat → Prop} {w : World} {b : Nat} {f : Fi} (h : Den true F w b f) : Den false F w b f :=
  fun w' h1 h2 l lv v fv hl hv hvl hll => (h w' h1 h2 l lv v fv hl hv hvl hll).mono fun e w'' ⟨rv, e1, e2, e3, e4⟩ => ⟨rv, e1, e2, by rcases e3 with ⟨e5, _⟩ | e5; cases e5; exact Or.inr e5, e4⟩
theorem den_keeps (p : Pat) : Keeps (den p) := fun l v hv => (den_lin l p).len v hv

/-- a part that is one of spans, its blocks from base on -/
theorem den_one (base : Nat) (b : Nat) (w : World) (sp : List Span) (but : Bool) (v : Value) (pl : Bool) (pv : Value) (sg : Int) (hlen : sp.length ≤ 4000000) (hb : base ≤ b)
    (hp : w.heap[b]? = some (.cells #[.int .i64 0, v, .bool but, .bool pl, pv, .int .i32 sg] 156 (0, 0))) (ho : w.ownsRow base 177 2 v sp.length (spC sp)) :
    Den true (fun k => base ≤ k ∧ k < w.heap.size) w b (oneF sp but) := by
  intro w' hs hw l lv x fv hl hv hvl hll
  have h1 := (Array.getElem?_eq_some_iff.1 hp).1
  refine ends_one b sp but w' ⟨v, pl, pv, sg, (hw b ⟨hb, h1⟩).trans hp, ?_⟩ hlen l lv x fv hl hv hvl hll
  have := row_moved ho (w' := w') (fun k hk => hw k (ho.lt k hk))
  refine ⟨this.1, ?_⟩
  rcases this.2 with h | ⟨g, cap, cur, e1, e2, e3⟩
  · exact Or.inl h
  · exact Or.inr ⟨g, cap, cur, e1, Nat.zero_le _, e3⟩

def ParPost (fr : Bool) (w : World) (r : Nat) (s : ByteArray) (d : Nat) (res : Out) (e : Ending) (w' : World) : Prop :=
  w.grownBy w' (some r) ∧ match res with
  | .error er => Bad er e
  | .ok (p, t) => ∃ b z', e = .returned (.pointer (some ⟨b, 0, none⟩)) ∧ At w' r s t d z' ∧ Den fr (fun k => w.heap.size ≤ k ∧ k < w'.heap.size) w' b (den p)

theorem At.deep {w : World} {r : Nat} {s : ByteArray} {l : List Int} {d z : Int} (h : At w r s l d z) (x : Int) : At (w.setCell ⟨r, 2, none⟩ (.int .i64 x)) r s l x z := by
  obtain ⟨p, h, hp⟩ := h
  refine ⟨p, ⟨?_, ?_, ?_, ?_, ?_, ?_⟩, hp⟩
  · rw [World.cell?_setCell_other _ _ _ _ (by simp)]; exact h.s
  · rw [World.cell?_setCell_other _ _ _ _ (by simp)]; exact h.p
  · exact World.cell?_setCell_same _ _ _ h.d
  · rw [World.cell?_setCell_other _ _ _ _ (by simp)]; exact h.z
  · intro j
    rw [World.frozen?_setCell]; exact h.free j
  · rw [World.size_setCell]; exact h.lt
theorem At.cells {w : World} {r : Nat} {s : ByteArray} {l : List Int} {d z : Int} (h : At w r s l d z) : w.cell? ⟨r, 2, none⟩ = some (.int .i64 d) ∧ w.cell? ⟨r, 3, none⟩ = some (.int .i64 z) ∧ ∀ j, w.frozen? ⟨r, j, none⟩ = false := by
  obtain ⟨p, h, hp⟩ := h
  exact ⟨h.d, h.z, h.free⟩

/-- the contract of the function that reads a pattern, at a number of rounds -/
def CPat (n : Nat) : Prop := ∀ (d : Nat) (l : List Int) (res : Out), parF n .pat d l = some res → ∀ (r : Nat) (s : ByteArray) (z : Int) (w : World), At w r s l d z → 8 ≤ r → Lib.Utf8Tabs 6 7 w → s.size ≤ 256 → d ≤ 20 →
  Calls Tryz.prog 129 #[.pointer (some ⟨r, 0, none⟩)] w (ParPost true w r s d res)
def CBra (n : Nat) : Prop := ∀ (d : Nat) (l : List Int) (res : Out), parF n (.bra .nil) d l = some res → ∀ (r : Nat) (s : ByteArray) (z : Int) (w : World), At w r s l d z → 8 ≤ r → Lib.Utf8Tabs 6 7 w → s.size ≤ 256 → d ≤ 20 →
  Calls Tryz.prog 146 #[.pointer (some ⟨r, 0, none⟩)] w (ParPost false w r s d res)
def CAtom (n : Nat) : Prop := ∀ (d : Nat) (l : List Int) (res : Out), parF n .atom d l = some res → pk l ≥ 0 → ∀ (r : Nat) (s : ByteArray) (z : Int) (w : World), At w r s l d z → 8 ≤ r → Lib.Utf8Tabs 6 7 w → s.size ≤ 256 → d ≤ 20 →
  Calls Tryz.prog 158 #[.pointer (some ⟨r, 0, none⟩)] w (ParPost true w r s d res)
/-- what `group` comes to -/
def grpF (n : Nat) (d : Nat) (t : List Int) : Option Out :=
  if d ≥ 20 then some (.error 60) else thenF (parF n .pat (d + 1) t) fun p l => if pk l == 41 then some (.ok (p, l.tail)) else some (.error 8)

theorem ParPost.after {fr : Bool} {w w1 w2 : World} {r : Nat} {s : ByteArray} {d : Nat} {res : Out} {e : Ending} (g : w.grownBy w1 (some r)) (h : ParPost fr w1 r s d res e w2) : ParPost fr w r s d res e w2 := by
  refine ⟨grown_trans g h.1, ?_⟩
  have h2 := h.2
  cases res with
  | error er => exact h2
  | ok x =>
    obtain ⟨b, z', e1, e2, e3⟩ := h2
    exact ⟨b, z', e1, e2, e3.move (Nat.le_refl _) (fun _ _ => rfl) (fun k hk => ⟨Nat.le_trans g.size hk.1, hk.2⟩)⟩

set_option maxRecDepth 100000 in
set_option maxHeartbeats 2000000 in
theorem group_of (n : Nat) (ih : CPat n) (d : Nat) (t : List Int) (res : Out) (hres : grpF n d t = some res) (r : Nat) (s : ByteArray) (z : Int) (w : World) (h : At w r s (40 :: t) d z) (hr : 8 ≤ r) (hT : Lib.Utf8Tabs 6 7 w) (hs : s.size ≤ 256) (hd : d ≤ 20) :
    Calls Tryz.prog 163 #[.pointer (some ⟨r, 0, none⟩)] w (ParPost true w r s d res) := by
  have lt := h.lt
  obtain ⟨kd, _, kf⟩ := h.cells
  have H := Lib.hid h
  have HT := Lib.hid hT
  clear hT h
  by_cases h20 : d ≥ 20
  · have E : Hid (res = .error 60) := by
      unfold grpF at hres
      rw [if_pos h20] at hres
      exact (Option.some.inj hres).symm
    have h20i : (20 : Int) ≤ d := by omega
    clear hres kf
    go_enter Tryz.func163, Tryz.ntmps163
    go_wp2_with fail
    refine (bad_at r s (40 :: t) d z 60 w H.out).mono ?_
    rintro e w3 ⟨⟨at_, rfl⟩, rfl⟩
    rw [E.out]
    exact ⟨rfl, grown_refl _ _, ⟨_, rfl⟩⟩
  · have h20i : ¬ (20 : Int) ≤ d := by omega
    have hd0 : (0 : Int) ≤ d := by omega
    have R : Hid (thenF (parF n .pat (d + 1) t) (fun p l => if pk l == 41 then some (.ok (p, l.tail)) else some (.error 8)) = some res) := by
      unfold grpF at hres
      rw [if_neg h20] at hres
      exact hres
    clear hres kf
    go_enter Tryz.func163, Tryz.ntmps163
    go_wp2_with fail
    refine (skip_any r s 40 t d z w H.out hs).mono ?_
    rintro e w1 ⟨rfl, h1, g1⟩
    have k1 := h1.cells.1
    have f1 := h1.cells.2.2 2
    have H2 : Hid (At (w1.setCell ⟨r, 2, none⟩ (.int .i64 ((d : Int) + 1))) r s t ((d + 1 : Nat) : Int) z) := h1.deep _
    have G2 : Hid (w.grownBy (w1.setCell ⟨r, 2, none⟩ (.int .i64 ((d : Int) + 1))) (some r)) := grown_trans g1 (grown_setCell _ _ _ _)
    have HT2 := Lib.hid (tabs_grown HT.out hr G2.out)
    clear h1 g1 H
    go_wp2_with fail
    generalize (w1.setCell ⟨r, 2, none⟩ (.int .i64 ((d : Int) + 1))) = w2 at *
    cases hp : parF n .pat (d + 1) t with
    | none => exact absurd R.out (by rw [hp]; simp [thenF])
    | some rp =>
      have IH := Lib.hid (ih (d + 1) t rp hp r s z w2 H2.out hr HT2.out hs (by omega))
      refine IH.out.mono ?_
      rintro e w3 ⟨g3, h3⟩
      have R2 := R.out
      rw [hp] at R2
      clear R IH hp
      cases rp with
      | error er =>
        obtain ⟨at_, rfl⟩ := h3
        have E : res = .error er := (Option.some.inj R2).symm
        rw [E]
        exact ⟨rfl, grown_trans G2.out g3, ⟨_, rfl⟩⟩
      | ok x =>
        obtain ⟨p, u⟩ := x
        obtain ⟨b, z', rfl, hat, hden⟩ := h3
        have R3 : Hid ((if pk u == 41 then some (.ok (p, u.tail)) else some (.error 8) : Option Out) = some res) := R2
        have HA := Lib.hid hat
        have HD := Lib.hid hden
        have G3 := Lib.hid (grown_trans G2.out g3)
        have HT3 := Lib.hid (tabs_grown HT2.out hr g3)
        have LW : Hid (w.heap.size ≤ w2.heap.size) := G2.out.size
        clear hat hden g3 R2 G2 HT2 H2
        go_wp2_with fail
        refine (peek_at r s u _ z' w3 HA.out HT3.out).mono ?_
        rintro e w4 ⟨rfl, hb4⟩
        have HA4 := Lib.hid (HA.out.below hb4)
        have G4 := Lib.hid (grown_then G3.out hb4)
        have HB4 := Lib.hid hb4
        clear hb4
        by_cases h41 : pk u = 41
        · obtain ⟨v, rfl⟩ : ∃ v, u = 41 :: v := by
            cases u with
            | nil => cases h41
            | cons c v => exact ⟨v, by have : c = 41 := h41; rw [this]⟩
          have E : Hid (res = .ok (p, v)) := (Option.some.inj (show (some (.ok (p, v)) : Option Out) = some res from R3.out)).symm
          have hp41 : pk (41 :: v) = 41 := rfl
          rw [hp41]
          clear h41 R3 hp41
          go_wp2_with fail
          refine (skip_any r s 41 v _ z' w4 HA4.out hs).mono ?_
          rintro e w5 ⟨rfl, h5, g5⟩
          have k5 := h5.cells.1
          have f5 := h5.cells.2.2 2
          have hc : ((d + 1 : Nat) : Int) = (d : Int) + 1 := by omega
          rw [hc] at k5
          have H6 : Hid (At (w5.setCell ⟨r, 2, none⟩ (.int .i64 (d : Int))) r s v d z') := h5.deep _
          have G5 := Lib.hid g5
          have hdd : (d : Int) + 1 - 1 = d := by omega
          clear h5 g5 hc
          go_wp2_with fail
          go_ret
          rw [E.out]
          have g6 := grown_setCell w5 r 2 (.int .i64 (d : Int))
          have g35 : w3.grownBy (w5.setCell ⟨r, 2, none⟩ (.int .i64 (d : Int))) (some r) := grown_trans (grown_trans (grown_below HB4.out) G5.out) g6
          refine ⟨grown_trans (grown_trans G4.out G5.out) g6, b, z', rfl, H6.out, HD.out.move g35.size (fun k hk => ?_) (fun k hk => ⟨Nat.le_trans LW.out hk.1, Nat.lt_of_lt_of_le hk.2 g35.size⟩)⟩
          exact g35.block k hk.2 (fun e => by have : k = r := Option.some.inj e; have := LW.out; omega)
        · have hn : (pk u != 41) = true := by simpa using h41
          have E : Hid (res = .error 8) := by
            have := R3.out
            rw [if_neg (by simpa using h41)] at this
            exact (Option.some.inj this).symm
          clear h41 R3
          go_wp2_with fail
          refine (bad_at r s u _ z' 8 w4 HA4.out).mono ?_
          rintro e w5 ⟨⟨at_, rfl⟩, rfl⟩
          rw [E.out]
          exact ⟨rfl, G4.out, ⟨_, rfl⟩⟩
end Go.Proofs.YtmbfpichaaanpaaGreatDoor

/-! An atom, read. -/
namespace Go.Proofs.YtmbfpichaaanpaaGreatDoor
open Go.RowKit Ut Rx

theorem itemF_len {l : List Int} {sp : List Span} {t : List Int} (h : itemF l = .ok (sp, t)) : sp.length ≤ 4 := by
  unfold itemF at h
  split at h
  · cases h
  · rename_i s' b t' hm
    split at h
    · split at h
      · cases h
      · cases h; simp
    · cases h; exact memF_len hm
theorem clsF_len : ∀ (n : Nat) (first : Bool) (acc : List Span) (l : List Int) (sp : List Span) (t : List Int), clsF n first acc l = some (.ok (sp, t)) → sp.length ≤ acc.length + 4 * n
  | 0, _, _, _, _, _, h => by cases h
  | n + 1, first, acc, l, sp, t, h => by
    unfold clsF at h
    split at h
    · split at h
      · cases h
      · rename_i s' t' hi
        have h1 := clsF_len n false (acc ++ s') t' sp t h
        have h2 := itemF_len hi
        rw [List.length_append] at h1
        omega
    · cases h; omega
theorem span_row {w : World} {base g : Nat} {sp : List Span} (hb : base ≤ g) (h : w.heap[g]? = some (.cells (spC sp).toArray 177 (0, 0))) (hl : sp.length ≤ 4000000) :
    w.ownsRow base 177 2 (.slice (some ⟨g, 0, none⟩) sp.length sp.length) sp.length (spC sp) := by
  refine ⟨spC_length sp, Or.inr ⟨g, sp.length, _, rfl, hb, h, Nat.le_refl _, by unfold maxLen; omega, by simp [spC_length], ?_⟩⟩
  rw [← spC_length, List.take_length]
/-- a part that was just made, its spans in a block of their own -/
theorem den_made {w wx : World} {sp : List Span} {g : Nat} {but pl : Bool} (hw : w.heap.size ≤ wx.heap.size) (hb : w.heap.size ≤ g) (h : wx.heap[g]? = some (.cells (spC sp).toArray 177 (0, 0))) (hl : sp.length ≤ 4000000) :
    Den true (fun k => w.heap.size ≤ k ∧ k < (wx.alloc (.cells #[.int .i64 0, .slice (some ⟨g, 0, none⟩) sp.length sp.length, .bool but, .bool pl, .slice none 0 0, .int .i32 0] 156)).heap.size)
      (wx.alloc (.cells #[.int .i64 0, .slice (some ⟨g, 0, none⟩) sp.length sp.length, .bool but, .bool pl, .slice none 0 0, .int .i32 0] 156)) wx.heap.size (oneF sp but) := by
  refine den_one w.heap.size wx.heap.size _ sp but _ pl _ 0 hl hw (heap_alloc_new wx _) ?_
  exact (span_row hb h hl).alloc _
theorem den_any {w wx : World} (hw : w.heap.size ≤ wx.heap.size) :
    Den true (fun k => w.heap.size ≤ k ∧ k < (wx.alloc (.cells #[.int .i64 0, .slice none 0 0, .bool true, .bool false, .slice none 0 0, .int .i32 0] 156)).heap.size)
      (wx.alloc (.cells #[.int .i64 0, .slice none 0 0, .bool true, .bool false, .slice none 0 0, .int .i32 0] 156)) wx.heap.size (oneF [] true) :=
  den_one w.heap.size wx.heap.size _ [] true _ false _ 0 (by simp) hw (heap_alloc_new wx _) (World.ownsRow_nil _ _ _ _)

set_option maxRecDepth 100000 in
set_option maxHeartbeats 4000000 in
theorem atom_of (n : Nat) (hn : n ≤ 900000) (ih : CPat n) : CAtom (n + 1) := by
  intro d l res hres hpos r s z w h hr hT hs hd
  obtain ⟨c, t, rfl⟩ : ∃ c t, l = c :: t := by
    cases l with
    | nil => exact absurd hpos (by simp [pk])
    | cons c t => exact ⟨c, t, rfl⟩
  have lt := h.lt
  have hp0 : pk (c :: t) = c := rfl
  have ht0 : (c :: t).tail = t := rfl
  have P := Lib.hid (peek_at r s (c :: t) d z w h hT)
  have H := Lib.hid h
  have HT := Lib.hid hT
  clear h hT hpos
  rw [parF, hp0, ht0] at hres
  by_cases h40 : c = 40
  · subst h40
    have R : Hid (grpF n d t = some res) := hres
    clear hres
    go_enter Tryz.func158, Tryz.ntmps158
    go_wp2_with fail
    refine P.out.mono ?_
    rintro e w1 ⟨rfl, hb1⟩
    rw [hp0]
    have H1 := Lib.hid (H.out.below hb1)
    have G1 : Hid (w.grownBy w1 (some r)) := grown_below hb1
    have HT1 := Lib.hid (tabs_below HT.out hb1)
    clear hb1 P H HT
    go_wp2_with fail
    refine (group_of n ih d t res R.out r s z w1 H1.out hr HT1.out hs hd).mono ?_
    rintro e w2 h2
    have HA := Lib.hid (h2.after G1.out)
    cases res with
    | error er =>
      obtain ⟨_, at_, rfl⟩ := id h2
      exact ⟨rfl, HA.out⟩
    | ok x =>
      obtain ⟨p, u⟩ := x
      obtain ⟨_, b, z', rfl, _⟩ := id h2
      clear h2 R
      go_wp2_with fail
      go_ret
      exact HA.out
  · have h40b : (c == 40) = false := by simpa using h40
    rw [if_neg (by simpa using h40)] at hres
    by_cases h91 : c = 91
    · subst h91
      rw [if_pos (show ((91 : Int) == 91) = true from rfl)] at hres
      cases hc : clsF n true [] (butF t) with
      | none => rw [hc] at hres; cases hres
      | some rc =>
        rw [hc] at hres
        have CC := Lib.hid hc
        have R := Lib.hid hres
        clear hres hc
        go_enter Tryz.func158, Tryz.ntmps158
        go_wp2_with fail
        refine P.out.mono ?_
        rintro e w1 ⟨rfl, hb1⟩
        rw [hp0]
        have H1 := Lib.hid (H.out.below hb1)
        have G1 : Hid (w.grownBy w1 (some r)) := grown_below hb1
        have HT1 := Lib.hid (tabs_below HT.out hb1)
        clear hb1 P H HT
        go_wp2_with fail
        refine (skip_any r s 91 t d z w1 H1.out hs).mono ?_
        rintro e w2 ⟨rfl, h2, g2⟩
        have H2 := Lib.hid h2
        have G2 := Lib.hid (grown_trans G1.out g2)
        have HT2 := Lib.hid (tabs_grown HT1.out hr g2)
        clear h2 g2 H1 G1 HT1
        go_wp2_with fail
        refine (class_any r s t d z w2 H2.out hr HT2.out hs n (by omega) rc CC.out).mono ?_
        rintro e w3 ⟨g3, h3⟩
        have R2 := R.out
        cases rc with
        | error er =>
          obtain ⟨at_, rfl⟩ := h3
          have E : res = .error er := (Option.some.inj R2).symm
          rw [E]
          exact ⟨rfl, grown_trans G2.out g3, ⟨_, rfl⟩⟩
        | ok x =>
          obtain ⟨sp, u⟩ := x
          obtain ⟨rfl, v, z', hcl⟩ := h3
          have E : Hid (res = .ok (.one sp (pk t == 94), u)) := (Option.some.inj R2).symm
          have LEN := clsF_len n true [] _ sp u CC.out
          have D : Hid (Den true (fun k => w.heap.size ≤ k ∧ k < w3.heap.size) w3 w2.heap.size (oneF sp (pk t == 94))) := by
            refine den_one w.heap.size w2.heap.size w3 sp _ v false _ 0 (by simp at LEN; omega) G2.out.size hcl.part ?_
            refine ⟨hcl.own.1, ?_⟩
            rcases hcl.own.2 with h1 | ⟨g, cap, cur, e1, e2, e3⟩
            · exact Or.inl h1
            · exact Or.inr ⟨g, cap, cur, e1, by have := G2.out.size; omega, e3⟩
          have HA := Lib.hid hcl.here
          have G3 := Lib.hid (grown_trans G2.out g3)
          clear hcl g3 R2 R CC LEN
          go_wp2_with fail
          go_ret
          rw [E.out]
          exact ⟨G3.out, _, z', rfl, HA.out, D.out⟩
    · have h91b : (c == 91) = false := by simpa using h91
      rw [if_neg (by simpa using h91)] at hres
      by_cases h46 : c = 46
      · subst h46
        rw [if_pos (show ((46 : Int) == 46) = true from rfl)] at hres
        have E : Hid (res = .ok (.one [] true, t)) := (Option.some.inj hres).symm
        clear hres
        go_enter Tryz.func158, Tryz.ntmps158
        go_wp2_with fail
        refine P.out.mono ?_
        rintro e w1 ⟨rfl, hb1⟩
        rw [hp0]
        have H1 := Lib.hid (H.out.below hb1)
        have G1 : Hid (w.grownBy w1 (some r)) := grown_below hb1
        have HT1 := Lib.hid (tabs_below HT.out hb1)
        clear hb1 P H HT
        go_wp2_with fail
        refine (skip_any r s 46 t d z w1 H1.out hs).mono ?_
        rintro e w2 ⟨rfl, h2, g2⟩
        have k2 := h2.cells.2.1
        have f2 := h2.cells.2.2 3
        have H2 := Lib.hid h2
        have G2 := Lib.hid (grown_trans G1.out g2)
        clear h2 g2 H1 G1 HT1
        go_wp2_with fail
        go_ret
        rw [E.out]
        generalize wrap64 (z + 1) = zz
        have e : (w2.setCell ⟨r, 3, none⟩ (.int .i64 zz)).heap.size = w2.heap.size := World.size_setCell _ _ _
        refine ⟨grown_alloc (grown_trans G2.out (grown_setCell _ _ _ _)) _, w2.heap.size, zz, rfl, (H2.out.size zz).below ((Below.refl _ _).alloc (Nat.le_refl _) _), ?_⟩
        have D := den_any (w := w) (wx := w2.setCell ⟨r, 3, none⟩ (.int .i64 zz)) (by rw [e]; exact G2.out.size)
        rw [e] at D
        exact D
      · have h46b : (c == 46) = false := by simpa using h46
        rw [if_neg (by simpa using h46)] at hres
        by_cases h92 : c = 92
        · subst h92
          rw [if_pos (show ((92 : Int) == 92) = true from rfl)] at hres
          have R := Lib.hid hres
          clear hres
          go_enter Tryz.func158, Tryz.ntmps158
          go_wp2_with fail
          refine P.out.mono ?_
          rintro e w1 ⟨rfl, hb1⟩
          rw [hp0]
          have H1 := Lib.hid (H.out.below hb1)
          have G1 : Hid (w.grownBy w1 (some r)) := grown_below hb1
          have HT1 := Lib.hid (tabs_below HT.out hb1)
          clear hb1 P H HT
          go_wp2_with fail
          refine (skip_any r s 92 t d z w1 H1.out hs).mono ?_
          rintro e w2 ⟨rfl, h2, g2⟩
          have H2 := Lib.hid h2
          have G2 := Lib.hid (grown_trans G1.out g2)
          have HT2 := Lib.hid (tabs_grown HT1.out hr g2)
          clear h2 g2 H1 G1 HT1
          go_wp2_with fail
          refine (escape_any r s t d z w2 H2.out HT2.out hs).mono ?_
          rintro e w3 ⟨g3, h3⟩
          have R2 := R.out
          cases he : escF t with
          | error er =>
            rw [he] at h3 R2
            obtain ⟨at_, rfl⟩ := h3
            have E : res = .error er := (Option.some.inj R2).symm
            rw [E]
            exact ⟨rfl, grown_trans G2.out g3, ⟨_, rfl⟩⟩
          | ok x =>
            obtain ⟨sp, single, u⟩ := x
            rw [he] at h3 R2
            obtain ⟨v, rfl, ⟨g, rfl, hg1, hg2⟩, hat⟩ := h3
            have E : Hid (res = .ok (.one sp false, u)) := (Option.some.inj R2).symm
            have LEN := Lib.hid (escF_len he)
            have k3 := hat.cells.2.1
            have f3 := hat.cells.2.2 3
            have HA := Lib.hid hat
            have SP := Lib.hid hg2
            have G3 := Lib.hid (grown_trans G2.out g3)
            have HG : Hid (w.heap.size ≤ g) := Nat.le_trans G2.out.size hg1
            have HR : Hid (g ≠ r) := by have := G2.out.size; show g ≠ r; omega
            clear hat g3 R2 R hg1 hg2 he
            go_wp2_with fail
            go_ret
            rw [E.out]
            generalize wrap64 (z + 1) = zz
            have e : (w3.setCell ⟨r, 3, none⟩ (.int .i64 zz)).heap.size = w3.heap.size := World.size_setCell _ _ _
            have hg : (w3.setCell ⟨r, 3, none⟩ (.int .i64 zz)).heap[g]? = some (.cells (spC sp).toArray 177 (0, 0)) := ((grown_setCell w3 r 3 (.int .i64 zz)).block g (Array.getElem?_eq_some_iff.1 SP.out).1 (fun e => HR.out (Option.some.inj e))).trans SP.out
            refine ⟨grown_alloc (grown_trans G3.out (grown_setCell _ _ _ _)) _, w3.heap.size, zz, rfl, (HA.out.size zz).below ((Below.refl _ _).alloc (Nat.le_refl _) _), ?_⟩
            have D := den_made (w := w) (wx := w3.setCell ⟨r, 3, none⟩ (.int .i64 zz)) (but := false) (pl := single) (by rw [e]; exact G3.out.size) HG.out hg (by have := LEN.out; omega)
            rw [e] at D
            exact D
        · have h92b : (c == 92) = false := by simpa using h92
          rw [if_neg (by simpa using h92)] at hres
          cases hsp : specB c with
          | true =>
            rw [hsp, if_pos rfl] at hres
            have E : Hid (res = .error 8) := (Option.some.inj hres).symm
            clear hres
            go_enter Tryz.func158, Tryz.ntmps158
            go_wp2_with fail
            refine P.out.mono ?_
            rintro e w1 ⟨rfl, hb1⟩
            rw [hp0]
            have H1 := Lib.hid (H.out.below hb1)
            have G1 : Hid (w.grownBy w1 (some r)) := grown_below hb1
            have HT1 := Lib.hid (tabs_below HT.out hb1)
            clear hb1 P H HT
            go_wp2_with fail
            refine (special_any c w1).mono ?_
            rintro e w2 ⟨rfl, hb2⟩
            rw [hsp]
            have H2 := Lib.hid (H1.out.below hb2)
            have G2 := Lib.hid (grown_then G1.out hb2)
            clear hb2 H1 G1 HT1
            go_wp2_with fail
            refine (bad_at r s (c :: t) d z 8 w2 H2.out).mono ?_
            rintro e w3 ⟨⟨at_, rfl⟩, rfl⟩
            rw [E.out]
            exact ⟨rfl, G2.out, ⟨_, rfl⟩⟩
          | false =>
            rw [hsp, if_neg (by simp)] at hres
            have E : Hid (res = .ok (.one [(c, c)] false, t)) := (Option.some.inj hres).symm
            clear hres
            go_enter Tryz.func158, Tryz.ntmps158
            go_wp2_with fail
            refine P.out.mono ?_
            rintro e w1 ⟨rfl, hb1⟩
            rw [hp0]
            have H1 := Lib.hid (H.out.below hb1)
            have G1 : Hid (w.grownBy w1 (some r)) := grown_below hb1
            have HT1 := Lib.hid (tabs_below HT.out hb1)
            clear hb1 P H HT
            go_wp2_with fail
            refine (special_any c w1).mono ?_
            rintro e w2 ⟨rfl, hb2⟩
            rw [hsp]
            have H2 := Lib.hid (H1.out.below hb2)
            have G2 := Lib.hid (grown_then G1.out hb2)
            clear hb2 H1 G1 HT1
            go_wp2_with fail
            refine (skip_any r s c t d z w2 H2.out hs).mono ?_
            rintro e w3 ⟨rfl, h3, g3⟩
            have k3 := h3.cells.2.1
            have f3 := h3.cells.2.2 3
            have H3 := Lib.hid h3
            have G3 := Lib.hid (grown_trans G2.out g3)
            clear h3 g3 H2 G2
            go_wp2_with fail
            go_ret
            rw [E.out]
            generalize wrap64 (z + 1) = zz
            have e : (w3.setCell ⟨r, 3, none⟩ (.int .i64 zz)).heap.size = w3.heap.size := World.size_setCell _ _ _
            have b7 : Below (w3.setCell ⟨r, 3, none⟩ (.int .i64 zz)).heap.size (w3.setCell ⟨r, 3, none⟩ (.int .i64 zz)) ((w3.setCell ⟨r, 3, none⟩ (.int .i64 zz)).alloc (.cells #[.int .i32 c, .int .i32 c] 177)) := (Below.refl _ _).alloc (Nat.le_refl _) _
            have hg : ((w3.setCell ⟨r, 3, none⟩ (.int .i64 zz)).alloc (.cells #[.int .i32 c, .int .i32 c] 177)).heap[w3.heap.size]? = some (.cells (spC [(c, c)]).toArray 177 (0, 0)) := by
              rw [← e]; exact heap_alloc_new _ _
            have e2 : ((w3.setCell ⟨r, 3, none⟩ (.int .i64 zz)).alloc (.cells #[.int .i32 c, .int .i32 c] 177)).heap.size = w3.heap.size + 1 := by simp
            refine ⟨grown_alloc (grown_alloc (grown_trans G3.out (grown_setCell _ _ _ _)) _) _, w3.heap.size + 1, zz, rfl, ((H3.out.size zz).below b7).below ((Below.refl _ _).alloc (Nat.le_refl _) _), ?_⟩
            have D := den_made (w := w) (wx := (w3.setCell ⟨r, 3, none⟩ (.int .i64 zz)).alloc (.cells #[.int .i32 c, .int .i32 c] 177)) (sp := [(c, c)]) (but := false) (pl := true) (by rw [e2]; have := G3.out.size; omega) G3.out.size hg (by simp)
            rw [e2] at D
            exact D
end Go.Proofs.YtmbfpichaaanpaaGreatDoor
