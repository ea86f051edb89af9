import Derived.Test.YthlabaijaadocaaDoorMp
/-! Reading: what is read leads where the pattern's meaning says; groups; atoms. -/
namespace Go.Proofs.YthlabaijaadocaaDoor
open Go.RowKit Ut Rx

theorem Den.move {fr : Bool} {F G : Nat → Prop} {w w' : World} {b : Nat} {f : Fi} (h : Den fr F w b f) (hs : w.heap.size ≤ w'.heap.size) (hk : ∀ k, F k → w'.heap[k]? = w.heap[k]?) (hg : ∀ k, F k → G k) : Den fr G w' b f :=
  fun w'' h1 h2 => h w'' (Nat.le_trans hs h1) (fun k hf => (h2 k (hg k hf)).trans (hk k hf))
theorem Den.congr {fr : Bool} {F : Nat → Prop} {w : World} {b : Nat} {f g : Fi} (h : Den fr F w b f) (e : ∀ l v, v.length = l.length + 1 → f l v = g l v) : Den fr F w b g :=
  fun w' h1 h2 l lv v fv hl hv hvl hll => by rw [← e l v hvl]; exact h w' h1 h2 l lv v fv hl hv hvl hll
theorem Den.weak {F : Nat → Prop} {w : World} {b : Nat} {f : Fi} (h : Den true F w b f) : Den false F w b f :=
  fun w' h1 h2 l lv v fv hl hv hvl hll => (h w' h1 h2 l lv v fv hl hv hvl hll).mono fun e w'' ⟨rv, e1, e2, e3, e4⟩ => ⟨rv, e1, e2, by rcases e3 with ⟨e5, _⟩ | e5; cases e5; exact Or.inr e5, e4⟩
theorem den_keeps (p : Pat) : Keeps (den p) := fun l v hv => (den_lin l p).len v hv

/-- a part that is one of spans, its blocks from base on -/
theorem den_one (base : Nat) (b : Nat) (w : World) (sp : List Span) (but : Bool) (v : Value) (pl : Bool) (pv : Value) (sg : Int) (hlen : sp.length ≤ 4000000) (hb : base ≤ b)
    (hp : w.heap[b]? = some (.cells #[.int .i64 0, v, .bool but, .bool pl, pv, .int .i32 sg] 108 (0, 0))) (ho : w.ownsRow base 149 2 v sp.length (spC sp)) :
    Den true (fun k => base ≤ k ∧ k < w.heap.size) w b (oneF sp but) := by
  intro w' hs hw l lv x fv hl hv hvl hll
  have h1 := (Array.getElem?_eq_some_iff.1 hp).1
  refine ends_one b sp but w' ⟨v, pl, pv, sg, (hw b ⟨hb, h1⟩).trans hp, ?_⟩ hlen l lv x fv hl hv hvl hll
  have := row_moved ho (w' := w') (fun k hk => hw k (ho.lt k hk))
  refine ⟨this.1, ?_⟩
  rcases this.2 with h | ⟨g, cap, cur, e1, e2, e3⟩
  · exact Or.inl h
  · exact Or.inr ⟨g, cap, cur, e1, Nat.zero_le _, e3⟩

def ParPost (fr : Bool) (w : World) (r : Nat) (s : ByteArray) (d : Nat) (res : Out) (e : Ending) (w' : World) : Prop :=
  w.grownBy w' (some r) ∧ match res with
  | .error er => Bad er e
  | .ok (p, t) => ∃ b z', e = .returned (.pointer (some ⟨b, 0, none⟩)) ∧ At w' r s t d z' ∧ Den fr (fun k => w.heap.size ≤ k ∧ k < w'.heap.size) w' b (den p)

theorem At.deep {w : World} {r : Nat} {s : ByteArray} {l : List Int} {d z : Int} (h : At w r s l d z) (x : Int) : At (w.setCell ⟨r, 2, none⟩ (.int .i64 x)) r s l x z := by
  obtain ⟨p, h, hp⟩ := h
  refine ⟨p, ⟨?_, ?_, ?_, ?_, ?_, ?_⟩, hp⟩
  · rw [World.cell?_setCell_other _ _ _ _ (by simp)]; exact h.s
  · rw [World.cell?_setCell_other _ _ _ _ (by simp)]; exact h.p
  · exact World.cell?_setCell_same _ _ _ h.d
  · rw [World.cell?_setCell_other _ _ _ _ (by simp)]; exact h.z
  · intro j
    rw [World.frozen?_setCell]; exact h.free j
  · rw [World.size_setCell]; exact h.lt
theorem At.cells {w : World} {r : Nat} {s : ByteArray} {l : List Int} {d z : Int} (h : At w r s l d z) : w.cell? ⟨r, 2, none⟩ = some (.int .i64 d) ∧ w.cell? ⟨r, 3, none⟩ = some (.int .i64 z) ∧ ∀ j, w.frozen? ⟨r, j, none⟩ = false := by
  obtain ⟨p, h, hp⟩ := h
  exact ⟨h.d, h.z, h.free⟩

/-- the contract of the function that reads a pattern, at a number of rounds -/
def CPat (n : Nat) : Prop := ∀ (d : Nat) (l : List Int) (res : Out), parF n .pat d l = some res → ∀ (r : Nat) (s : ByteArray) (z : Int) (w : World), At w r s l d z → 2 ≤ r → Lib.Utf8Tabs 0 1 w → s.size ≤ 256 → d ≤ 20 →
  Calls Tryd.prog 54 #[.pointer (some ⟨r, 0, none⟩)] w (ParPost true w r s d res)
def CBra (n : Nat) : Prop := ∀ (d : Nat) (l : List Int) (res : Out), parF n (.bra .nil) d l = some res → ∀ (r : Nat) (s : ByteArray) (z : Int) (w : World), At w r s l d z → 2 ≤ r → Lib.Utf8Tabs 0 1 w → s.size ≤ 256 → d ≤ 20 →
  Calls Tryd.prog 70 #[.pointer (some ⟨r, 0, none⟩)] w (ParPost false w r s d res)
def CAtom (n : Nat) : Prop := ∀ (d : Nat) (l : List Int) (res : Out), parF n .atom d l = some res → pk l ≥ 0 → ∀ (r : Nat) (s : ByteArray) (z : Int) (w : World), At w r s l d z → 2 ≤ r → Lib.Utf8Tabs 0 1 w → s.size ≤ 256 → d ≤ 20 →
  Calls Tryd.prog 84 #[.pointer (some ⟨r, 0, none⟩)] w (ParPost true w r s d res)
/-- what `group` comes to -/
def grpF (n : Nat) (d : Nat) (t : List Int) : Option Out :=
  if d ≥ 20 then some (.error 60) else thenF (parF n .pat (d + 1) t) fun p l => if pk l == 41 then some (.ok (p, l.tail)) else some (.error 8)

theorem ParPost.after {fr : Bool} {w w1 w2 : World} {r : Nat} {s : ByteArray} {d : Nat} {res : Out} {e : Ending} (g : w.grownBy w1 (some r)) (h : ParPost fr w1 r s d res e w2) : ParPost fr w r s d res e w2 := by
  refine ⟨grown_trans g h.1, ?_⟩
  have h2 := h.2
  cases res with
  | error er => exact h2
  | ok x =>
    obtain ⟨b, z', e1, e2, e3⟩ := h2
    exact ⟨b, z', e1, e2, e3.move (Nat.le_refl _) (fun _ _ => rfl) (fun k hk => ⟨Nat.le_trans g.size hk.1, hk.2⟩)⟩

set_option maxRecDepth 100000 in
set_option maxHeartbeats 2000000 in
theorem group_of (n : Nat) (ih : CPat n) (d : Nat) (t : List Int) (res : Out) (hres : grpF n d t = some res) (r : Nat) (s : ByteArray) (z : Int) (w : World) (h : At w r s (40 :: t) d z) (hr : 2 ≤ r) (hT : Lib.Utf8Tabs 0 1 w) (hs : s.size ≤ 256) (hd : d ≤ 20) :
    Calls Tryd.prog 95 #[.pointer (some ⟨r, 0, none⟩)] w (ParPost true w r s d res) := by
  have lt := h.lt
  obtain ⟨kd, _, kf⟩ := h.cells
  have H := Lib.hid h
  have HT := Lib.hid hT
  clear hT h
  by_cases h20 : d ≥ 20
  · have E : Hid (res = .error 60) := by
      unfold grpF at hres
      rw [if_pos h20] at hres
      exact (Option.some.inj hres).symm
    have h20i : (20 : Int) ≤ d := by omega
    clear hres kf
    go_enter Tryd.func95, Tryd.ntmps95
    go_wp2_with fail
    refine (bad_at r s (40 :: t) d z 60 w H.out).mono ?_
    rintro e w3 ⟨⟨at_, rfl⟩, rfl⟩
    rw [E.out]
    exact ⟨rfl, grown_refl _ _, ⟨_, rfl⟩⟩
  · have h20i : ¬ (20 : Int) ≤ d := by omega
    have hd0 : (0 : Int) ≤ d := by omega
    have R : Hid (thenF (parF n .pat (d + 1) t) (fun p l => if pk l == 41 then some (.ok (p, l.tail)) else some (.error 8)) = some res) := by
      unfold grpF at hres
      rw [if_neg h20] at hres
      exact hres
    clear hres kf
    go_enter Tryd.func95, Tryd.ntmps95
    go_wp2_with fail
    refine (skip_any r s 40 t d z w H.out hs).mono ?_
    rintro e w1 ⟨rfl, h1, g1⟩
    have k1 := h1.cells.1
    have f1 := h1.cells.2.2 2
    have H2 : Hid (At (w1.setCell ⟨r, 2, none⟩ (.int .i64 ((d : Int) + 1))) r s t ((d + 1 : Nat) : Int) z) := h1.deep _
    have G2 : Hid (w.grownBy (w1.setCell ⟨r, 2, none⟩ (.int .i64 ((d : Int) + 1))) (some r)) := grown_trans g1 (grown_setCell _ _ _ _)
    have HT2 := Lib.hid (tabs_grown HT.out hr G2.out)
    clear h1 g1 H
    go_wp2_with fail
    generalize (w1.setCell ⟨r, 2, none⟩ (.int .i64 ((d : Int) + 1))) = w2 at *
    cases hp : parF n .pat (d + 1) t with
    | none => exact absurd R.out (by rw [hp]; simp [thenF])
    | some rp =>
      have IH := Lib.hid (ih (d + 1) t rp hp r s z w2 H2.out hr HT2.out hs (by omega))
      refine IH.out.mono ?_
      rintro e w3 ⟨g3, h3⟩
      have R2 := R.out
      rw [hp] at R2
      clear R IH hp
      cases rp with
      | error er =>
        obtain ⟨at_, rfl⟩ := h3
        have E : res = .error er := (Option.some.inj R2).symm
        rw [E]
        exact ⟨rfl, grown_trans G2.out g3, ⟨_, rfl⟩⟩
      | ok x =>
        obtain ⟨p, u⟩ := x
        obtain ⟨b, z', rfl, hat, hden⟩ := h3
        have R3 : Hid ((if pk u == 41 then some (.ok (p, u.tail)) else some (.error 8) : Option Out) = some res) := R2
        have HA := Lib.hid hat
        have HD := Lib.hid hden
        have G3 := Lib.hid (grown_trans G2.out g3)
        have HT3 := Lib.hid (tabs_grown HT2.out hr g3)
        have LW : Hid (w.heap.size ≤ w2.heap.size) := G2.out.size
        clear hat hden g3 R2 G2 HT2 H2
        go_wp2_with fail
        refine (peek_at r s u _ z' w3 HA.out HT3.out).mono ?_
        rintro e w4 ⟨rfl, hb4⟩
        have HA4 := Lib.hid (HA.out.below hb4)
        have G4 := Lib.hid (grown_then G3.out hb4)
        have HB4 := Lib.hid hb4
        clear hb4
        by_cases h41 : pk u = 41
        · obtain ⟨v, rfl⟩ : ∃ v, u = 41 :: v := by
            cases u with
            | nil => cases h41
            | cons c v => exact ⟨v, by have : c = 41 := h41; rw [this]⟩
          have E : Hid (res = .ok (p, v)) := (Option.some.inj (show (some (.ok (p, v)) : Option Out) = some res from R3.out)).symm
          have hp41 : pk (41 :: v) = 41 := rfl
          rw [hp41]
          clear h41 R3 hp41
          go_wp2_with fail
          refine (skip_any r s 41 v _ z' w4 HA4.out hs).mono ?_
          rintro e w5 ⟨rfl, h5, g5⟩
          have k5 := h5.cells.1
          have f5 := h5.cells.2.2 2
          have hc : ((d + 1 : Nat) : Int) = (d : Int) + 1 := by omega
          rw [hc] at k5
          have H6 : Hid (At (w5.setCell ⟨r, 2, none⟩ (.int .i64 (d : Int))) r s v d z') := h5.deep _
          have G5 := Lib.hid g5
          have hdd : (d : Int) + 1 - 1 = d := by omega
          clear h5 g5 hc
          go_wp2_with fail
          go_ret
          rw [E.out]
          have g6 := grown_setCell w5 r 2 (.int .i64 (d : Int))
          have g35 : w3.grownBy (w5.setCell ⟨r, 2, none⟩ (.int .i64 (d : Int))) (some r) := grown_trans (grown_trans (grown_below HB4.out) G5.out) g6
          refine ⟨grown_trans (grown_trans G4.out G5.out) g6, b, z', rfl, H6.out, HD.out.move g35.size (fun k hk => ?_) (fun k hk => ⟨Nat.le_trans LW.out hk.1, Nat.lt_of_lt_of_le hk.2 g35.size⟩)⟩
          exact g35.block k hk.2 (fun e => by have : k = r := Option.some.inj e; have := LW.out; omega)
        · have hn : (pk u != 41) = true := by simpa using h41
          have E : Hid (res = .error 8) := by
            have := R3.out
            rw [if_neg (by simpa using h41)] at this
            exact (Option.some.inj this).symm
          clear h41 R3
          go_wp2_with fail
          refine (bad_at r s u _ z' 8 w4 HA4.out).mono ?_
          rintro e w5 ⟨⟨at_, rfl⟩, rfl⟩
          rw [E.out]
          exact ⟨rfl, G4.out, ⟨_, rfl⟩⟩
end Go.Proofs.YthlabaijaadocaaDoor
