import Derived.Test.YtmbfpichaaanpaaGreatDoorX05
import Derived.Deep.LoopGhost
import Derived.Deep.DeepCutAuto
/-! A class, read. -/
namespace Go.Proofs.YtmbfpichaaanpaaGreatDoor
open Go.RowKit Ut Rx

def ClsPost (w : World) (r : Nat) (s : ByteArray) (d : Int) (but : Bool) (res : Except Int (List Span × List Int)) (e : Ending) (w' : World) : Prop :=
  w.grownBy w' (some r) ∧ match res with
  | .error er => Bad er e
  | .ok (sp, t) => e = .returned (.pointer (some ⟨w.heap.size, 0, none⟩)) ∧ ∃ v z', Cl w w' r s d z' but v sp t

theorem Cl.start {w : World} {r : Nat} {s : ByteArray} {d z : Int} {l : List Int} (h : At w r s l d z) (hT : Lib.Utf8Tabs 6 7 w) : Cl w (w.alloc (.cells #[.int .i64 0, .slice none 0 0, .bool false, .bool false, .slice none 0 0, .int .i32 0] 156)) r s d z false (.slice none 0 0) [] l := by
  have b : Below w.heap.size w (w.alloc (.cells #[.int .i64 0, .slice none 0 0, .bool false, .bool false, .slice none 0 0, .int .i32 0] 156)) := (Below.refl _ _).alloc (Nat.le_refl _) _
  exact ⟨h.below b, grown_below b, tabs_below hT b, heap_alloc_new w _, World.ownsRow_nil _ _ _ _⟩
theorem Cl.below {w wr w' : World} {r : Nat} {s : ByteArray} {d z : Int} {but : Bool} {v : Value} {acc : List Span} {l : List Int} (h : Cl w wr r s d z but v acc l) (hr : 8 ≤ r) (lt : r < w.heap.size) (b : Below wr.heap.size wr w') : Cl w w' r s d z but v acc l :=
  h.call hr lt (grown_below b) (h.here.below b)
theorem Cl.setBut {w wr : World} {r : Nat} {s : ByteArray} {d z : Int} {but : Bool} {l : List Int} (h : Cl w wr r s d z but (.slice none 0 0) [] l) (lt : r < w.heap.size) (hr : 8 ≤ r) :
    wr.cell? ⟨w.heap.size, 2, none⟩ = some (.bool but) ∧ wr.frozen? ⟨w.heap.size, 2, none⟩ = false ∧ Cl w (wr.setCell ⟨w.heap.size, 2, none⟩ (.bool true)) r s d z true (.slice none 0 0) [] l := by
  have hp := h.part
  have hset : (wr.setCell ⟨w.heap.size, 2, none⟩ (.bool true)).heap[w.heap.size]? = some (.cells #[.int .i64 0, .slice none 0 0, .bool true, .bool false, .slice none 0 0, .int .i32 0] 156 (0, 0)) := by
    unfold World.setCell
    simp only [Array.getElem?_modify, ↓reduceIte, hp, Option.map_some]
    rfl
  have gs : wr.grownBy (wr.setCell ⟨w.heap.size, 2, none⟩ (.bool true)) (some w.heap.size) := grown_setCell _ _ _ _
  refine ⟨?_, ?_, ?_, ?_, ?_, hset, World.ownsRow_nil _ _ _ _⟩
  · unfold World.cell?; rw [hp]; rfl
  · unfold World.frozen?; rw [hp]; rfl
  · obtain ⟨p, hrd, hpos⟩ := h.here
    have kk : ∀ j u, wr.cell? ⟨r, j, none⟩ = some u → (wr.setCell ⟨w.heap.size, 2, none⟩ (.bool true)).cell? ⟨r, j, none⟩ = some u := fun j u hu =>
      gs.cell hu (fun e => by have : r = w.heap.size := Option.some.inj e; omega)
    exact ⟨p, ⟨kk _ _ hrd.s, kk _ _ hrd.p, kk _ _ hrd.d, kk _ _ hrd.z, fun j => by rw [World.frozen?_setCell]; exact hrd.free j, by rw [World.size_setCell]; exact hrd.lt⟩, hpos⟩
  · refine ⟨h.grown.os, h.grown.tape, h.grown.output, by rw [World.size_setCell]; exact h.grown.size, fun k hk hne' => ?_⟩
    rw [gs.block k (Nat.lt_of_lt_of_le hk h.grown.size) (fun e => by have : k = w.heap.size := Option.some.inj e; omega)]
    exact h.grown.block k hk hne'
  · have ht := h.tabs
    have kk : ∀ {b j u}, b < 8 → wr.cell? ⟨b, j, none⟩ = some u → (wr.setCell ⟨w.heap.size, 2, none⟩ (.bool true)).cell? ⟨b, j, none⟩ = some u := fun hb hu =>
      gs.cell hu (fun e => by have := Option.some.inj e; simp at this; omega)
    exact ⟨fun c hc => kk (by omega) (ht.1 c hc), fun i hi => ⟨kk (by omega) (ht.2 i hi).1, kk (by omega) (ht.2 i hi).2⟩⟩

theorem shortF_len {c : Int} {s : List Span} (h : shortF c = some s) : s.length ≤ 4 := by
  unfold shortF at h
  split at h
  · cases h; decide
  · split at h
    · cases h; decide
    · split at h
      · cases h; decide
      · cases h
theorem escF_len {l : List Int} {sp : List Span} {b : Bool} {t : List Int} (h : escF l = .ok (sp, b, t)) : sp.length ≤ 4 := by
  cases l with
  | nil => cases h
  | cons c u =>
    unfold escF at h
    simp only at h
    split at h
    · rename_i hs; cases h; exact shortF_len hs
    · split at h
      · cases h; simp
      · cases h
theorem memF_len {l : List Int} {sp : List Span} {b : Bool} {t : List Int} (h : memF l = .ok (sp, b, t)) : sp.length ≤ 4 := by
  cases l with
  | nil => cases h
  | cons c u =>
    simp only [memF] at h
    split at h
    · cases h
    · split at h
      · exact escF_len h
      · cases h; simp
theorem ownsRow_is {w : World} {base e size n : Nat} {v : Value} {xs : List Value} (h : w.ownsRow base e size v n xs) : ∃ A m c, v = .slice A m c := by
  rcases h.2 with ⟨rfl, _⟩ | ⟨g, cap, cur, rfl, _⟩
  · exact ⟨_, _, _, rfl⟩
  · exact ⟨_, _, _, rfl⟩
theorem grown_drewN {w w' : World} {r : Option Nat} (h : w.grownBy w' r) (n : Nat) : w.grownBy (w'.drewN n) r := ⟨h.os, h.tape, h.output, h.size, h.block⟩
theorem grown_alloc {w w' : World} {r : Option Nat} (h : w.grownBy w' r) (o : Obj) : w.grownBy (w'.alloc o) r := grown_trans h (World.grownBy_alloc _ _ _)
set_option maxRecDepth 100000 in
theorem infoSp : (Tryz.prog.info? 177).map (fun i => (i.zero, i.size, i.bytes)) = some (some (.agg #[.int .i32 0, .int .i32 0]), 2, 8) := by kernel_rfl

theorem Rd.size {w : World} {r : Nat} {s : ByteArray} {p : Nat} {d z : Int} (h : Rd w r s p d z) (x : Int) : Rd (w.setCell ⟨r, 3, none⟩ (.int .i64 x)) r s p d x := by
  refine ⟨?_, ?_, ?_, ?_, ?_, ?_⟩
  · rw [World.cell?_setCell_other _ _ _ _ (by simp)]; exact h.s
  · rw [World.cell?_setCell_other _ _ _ _ (by simp)]; exact h.p
  · rw [World.cell?_setCell_other _ _ _ _ (by simp)]; exact h.d
  · exact World.cell?_setCell_same _ _ _ h.z
  · intro j
    rw [World.frozen?_setCell]; exact h.free j
  · rw [World.size_setCell]; exact h.lt
theorem At.size {w : World} {r : Nat} {s : ByteArray} {l : List Int} {d z : Int} (h : At w r s l d z) (x : Int) : At (w.setCell ⟨r, 3, none⟩ (.int .i64 x)) r s l d x := let ⟨p, hr, hp⟩ := h; ⟨p, hr.size x, hp⟩
theorem Cl.size {w wr : World} {r : Nat} {s : ByteArray} {d z : Int} {but : Bool} {v : Value} {acc : List Span} {l : List Int} (h : Cl w wr r s d z but v acc l) (hr : 8 ≤ r) (lt : r < w.heap.size) (x : Int) : Cl w (wr.setCell ⟨r, 3, none⟩ (.int .i64 x)) r s d x but v acc l := by
  have g := grown_setCell wr r 3 (.int .i64 x)
  refine ⟨h.here.size x, grown_trans h.grown g, tabs_grown h.tabs hr g, ?_, ?_⟩
  · have hp := h.part
    rw [g.block _ (Array.getElem?_eq_some_iff.1 hp).1 (fun e => by have : w.heap.size = r := Option.some.inj e; omega)]
    exact hp
  · refine h.own.kept g ?_
    cases hv : v.ownBlock with
    | none => exact Or.inl rfl
    | some k =>
      have := h.own.lt k hv
      exact Or.inr (fun e => by have : k = r := Option.some.inj e; omega)
theorem ClsPost.ok {w wr : World} {r : Nat} {s : ByteArray} {d z : Int} {but : Bool} {v : Value} {acc : List Span} {l : List Int} (h : Cl w wr r s d z but v acc l) : ClsPost w r s d but (.ok (acc, l)) (.returned (.pointer (some ⟨w.heap.size, 0, none⟩))) wr := ⟨h.grown, rfl, v, z, h⟩

/-- an item of a class, read: its spans in slot 5 -/
def ClsItem (w wx : World) (r : Nat) (s : ByteArray) (d z : Int) (bt : Bool) (v : Value) (acc : List Span) (l' : List Int) (v5 : Value) : Prop :=
  ∃ g sp t, v5 = .slice (some ⟨g, 0, none⟩) sp.length sp.length ∧ itemF l' = .ok (sp, t) ∧ sp.length ≤ 4 ∧ Cl w wx r s d z bt v acc t ∧ wx.heap[g]? = some (.cells (spC sp).toArray 177 (0, 0))

set_option maxRecDepth 100000 in
set_option maxHeartbeats 4000000 in
theorem class_any (r : Nat) (s : ByteArray) (l : List Int) (d z : Int) (w : World) (h : At w r s l d z) (hr : 8 ≤ r) (hT : Lib.Utf8Tabs 6 7 w) (hs : s.size ≤ 256) (n : Nat) (hn : n ≤ 1000000) (res : Except Int (List Span × List Int)) (hres : clsF n true [] (butF l) = some res) :
    Calls Tryz.prog 164 #[.pointer (some ⟨r, 0, none⟩)] w (ClsPost w r s d (pk l == 94) res) := by
  have lt := h.lt
  have C0 := Lib.hid (Cl.start h hT)
  obtain ⟨i0, hi, hz0, hz1, hz2⟩ := info_parts infoSp
  have I0 : Hid (i0.zero = some (.agg #[.int .i32 0, .int .i32 0]) ∧ i0.size = 2 ∧ i0.bytes = 8 ∧ Tryz.prog.info? 177 = some i0) := ⟨hz0, hz1, hz2, hi⟩
  clear hz0 hz1 hz2 hi
  have hw : (pk l == 94) = false ∨ ∃ t, l = 94 :: t := by
    cases l with
    | nil => exact Or.inl rfl
    | cons c t =>
      by_cases e : c = 94
      · subst e; exact Or.inr ⟨t, rfl⟩
      · exact Or.inl (by show (c == 94) = false; simpa using e)
  clear h hT
  have RES := Lib.hid hres
  clear hres
  go_enter Tryz.func164, Tryz.ntmps164
  go_wp2_with fail
  refine (peek_at r s l d z _ C0.out.here C0.out.tabs).mono ?_
  rintro e w1 ⟨rfl, hb1⟩
  have C1 := Lib.hid (C0.out.below hr lt hb1)
  clear hb1 C0
  go_upto_if 11 with fail
  go_cut [] (fun wx => Hid (Cl w wx r s d z (pk l == 94) (.slice none 0 0) [] (butF l)))
  case first =>
    rcases hw with h94 | ⟨t, rfl⟩
    · have C2 : Hid (Cl w w1 r s d z (pk l == 94) (.slice none 0 0) [] (butF l)) := by
        have hb : butF l = l := by unfold butF; rw [h94]; rfl
        rw [h94, hb]; exact C1
      clear C1
      rw [h94]
      go_wp2_with fail
      go_meet
      case rel => exact C2
    · have hp94 : (pk (94 :: t) == 94) = true := rfl
      rw [hp94]
      go_wp2_with fail
      refine (skip_any r s 94 t d z w1 C1.out.here hs).mono ?_
      rintro e w2 ⟨rfl, h2, g2⟩
      have C2 := Lib.hid (C1.out.call hr lt g2 h2)
      clear h2 g2 C1
      obtain ⟨k2, f2, C3⟩ := C2.out.setBut lt hr
      have C4 : Hid (Cl w (w2.setCell ⟨w.heap.size, 2, none⟩ (.bool true)) r s d z (pk (94 :: t) == 94) (.slice none 0 0) [] (butF (94 :: t))) := C3
      clear C2 C3
      go_wp2_with fail
      go_meet
      case rel => exact C4
  case rest =>
    clear hw C1
    generalize (pk l == 94) = bt at *
    generalize butF l = l at *
    go_wp2_with fail
    go_loopg [4] n (fun gk fv wr => ∃ first v acc l', fv = .bool first ∧ acc.length + 4 * gk ≤ 4000000 ∧ Hid (clsF gk first acc l' = some res) ∧ Hid (Cl w wr r s d z bt v acc l'))
    case atStart => exact ⟨true, _, [], l, rfl, by simp; omega, RES.out, hcut⟩
    case round =>
      obtain ⟨first, v, acc, l', rfl, hlen, HC, HL⟩ := hrel
      clear hcut RES
      cases gk with
      | zero => exact absurd HC.out (by simp [clsF])
      | succ m =>
        go_upto_region 6 with fail
        go_cut [22] (fun vt wx => vt = .bool (first || pk l' != 93) ∧ Hid (Cl w wx r s d z bt v acc l'))
        case first =>
          have P := Lib.hid (peek_at r s l' d z wr HL.out.here HL.out.tabs)
          cases first with
          | true =>
            go_wp2_with fail
            go_meet
            case rel => exact ⟨rfl, HL⟩
          | false =>
            go_wp2_with fail
            refine P.out.mono ?_
            rintro e wq ⟨rfl, hbq⟩
            have HL2 := Lib.hid (HL.out.below hr lt hbq)
            clear hbq
            go_wp2_with fail
            go_meet
            case rel => exact ⟨rfl, HL2⟩
        case rest =>
          obtain ⟨rfl, HL2⟩ := hcut
          clear HL
          by_cases hgo : (first || pk l' != 93) = true
          · have HC2 : Hid ((match itemF l' with | .error e => some (.error e) | .ok (s, t) => clsF m false (acc ++ s) t) = some res) := by
              have := HC.out
              unfold clsF at this
              rw [if_pos hgo] at this
              exact this
            rw [hgo]
            clear HC hgo
            go_wp2_with fail
            refine (member_any r s l' d z _ HL2.out.here hr HL2.out.tabs hs).mono ?_
            rintro e w3 h3
            cases hm : memF l' with
            | error er =>
              have E : Hid (res = .error er) := by
                have h5 : itemF l' = .error er := by unfold itemF; rw [hm]
                have := HC2.out
                rw [h5] at this
                exact (Option.some.inj this).symm
              have h4 := h3
              rw [hm] at h4
              obtain ⟨g3, at_, rfl⟩ := h4
              rw [E.out]
              exact ⟨rfl, grown_trans HL2.out.grown g3, ⟨_, rfl⟩⟩
            | ok x =>
              obtain ⟨sp, single, t⟩ := x
              have LEN : Hid (sp.length ≤ 4) := memF_len hm
              rw [hm] at h3
              obtain ⟨g3, v3, rfl, ⟨g, rfl, hg1, hg2⟩, hat⟩ := h3
              have HL3 := Lib.hid (HL2.out.call hr lt g3 hat)
              have hrg : g ≠ r := by have := HL2.out.grown.size; omega
              have SP := Lib.hid hg2
              clear hat g3 hg1 hg2 HL2
              go_upto_region 9 with fail
              go_cut [33] (fun v33 wx => v33 = .bool (single && pk t == 45) ∧ Hid (Cl w wx r s d z bt v acc t) ∧ Hid (wx.heap[g]? = some (.cells (spC sp).toArray 177 (0, 0))))
              case first =>
                cases single with
                | false =>
                  go_wp2_with fail
                  go_meet
                  case rel => exact ⟨rfl, HL3, SP⟩
                | true =>
                  have P3 := Lib.hid (peek_at r s t d z w3 HL3.out.here HL3.out.tabs)
                  clear hm
                  go_wp2_with fail
                  refine P3.out.mono ?_
                  rintro e w4 ⟨rfl, hb4⟩
                  have HL4 := Lib.hid (HL3.out.below hr lt hb4)
                  have SP4 : Hid (w4.heap[g]? = some (.cells (spC sp).toArray 177 (0, 0))) := (hb4.block g (Array.getElem?_eq_some_iff.1 SP.out).1).trans SP.out
                  clear hb4 HL3 SP P3
                  go_wp2_with fail
                  go_meet
                  case rel => exact ⟨rfl, HL4, SP4⟩
              case rest =>
                clear HL3 SP
                obtain ⟨rfl, HL4, SP4⟩ := hcut
                go_upto_if 33 with fail
                go_cut [5] (fun v5 wx => ClsItem w wx r s d z bt v acc l' v5)
                case first =>
                  by_cases h45 : (single && pk t == 45) = true
                  · obtain ⟨rfl, t2, rfl⟩ : single = true ∧ ∃ t2, t = 45 :: t2 := by
                      cases single with
                      | false => cases h45
                      | true =>
                        refine ⟨rfl, ?_⟩
                        cases t with
                        | nil => cases h45
                        | cons c t2 => exact ⟨t2, by have : c = 45 := (by simpa [pk] using h45); rw [this]⟩
                    obtain ⟨lo, rfl⟩ := memF_single hm
                    rw [h45]
                    clear h45
                    go_wp2_with fail
                    refine (skip_any r s 45 t2 d z _ HL4.out.here hs).mono ?_
                    rintro e w5 ⟨rfl, h5, g5⟩
                    have HL5 := Lib.hid (HL4.out.call hr lt g5 h5)
                    have SP5 : Hid (w5.heap[g]? = some (.cells (spC [(lo, lo)]).toArray 177 (0, 0))) := (g5.block g (Array.getElem?_eq_some_iff.1 SP4.out).1 (fun e => hrg (Option.some.inj e))).trans SP4.out
                    clear h5 g5 HL4 SP4
                    go_wp2_with fail
                    have c0 : w5.cell? ⟨g, 0, none⟩ = some (.int .i32 lo) := by unfold World.cell?; rw [SP5.out]; rfl
                    have hg0 : (0 : Int) < (([(lo, lo)] : List Span).length : Int) := by simp
                    cases hu : uppF lo t2 with
                    | error er =>
                      have E : Hid (res = .error er) := by
                        have h5 : itemF l' = .error er := by unfold itemF; rw [hm]; simp [pk, lowF, hu]
                        have := HC2.out
                        rw [h5] at this
                        exact (Option.some.inj this).symm
                      have U : Hid (∀ w', Below w5.heap.size w5 w' → Calls Tryz.prog 173 #[.pointer (some ⟨r, 0, none⟩), .int .i32 lo] w' fun e w'' => Bad er e ∧ w5.grownBy w'' (some r)) := fun w' hb => by
                        refine (upper_any r s lo t2 d z w' (HL5.out.here.below hb) hr (tabs_below HL5.out.tabs hb) hs).mono fun e w'' h => ?_
                        rw [hu] at h
                        exact ⟨h.2, below_then hb h.1⟩
                      clear hm hu HC2 LEN
                      refine wp_region_held_drew (S := fun w' => w'.cell? ⟨g, 0, none⟩ = some (.int .i32 lo)) (by kernel_rfl) c0 (fun hHeld => ?_)
                      try dsimp only at hHeld
                      refine wpAnyH_take (i := 0) (v := ?_) rfl (by kernel_rfl) (by kernel_rfl) (by kernel_rfl) (fun _ _ _ h => h) (Or.inl ⟨by rfl, ?_⟩) hHeld ?_
                      rotate_left
                      · intro wz hSw
                        try dsimp only at hSw
                        go_simp
                        try with_reducible rfl
                      try simp only [Act.put, List.setIfInBounds_toArray]
                      refine wpAnyH_take (i := 1) (v := ?_) rfl (by kernel_rfl) (by kernel_rfl) (by kernel_rfl) (fun _ _ _ h => h) (Or.inl ⟨by rfl, ?_⟩) hHeld ?_
                      rotate_left
                      · intro wz hSw
                        try dsimp only at hSw
                        go_simp
                        try with_reducible rfl
                      try simp only [Act.put]
                      refine wpAnyH_take (i := 2) (v := ?_) rfl (by kernel_rfl) (by kernel_rfl) (by kernel_rfl) (fun _ _ _ h => h) (Or.inl ⟨by rfl, ?_⟩) hHeld ?_
                      rotate_left
                      · intro wz hSw
                        try dsimp only at hSw
                        go_simp
                        try with_reducible rfl
                      try simp only [Act.put]
                      refine wpAnyH_take (i := 3) (v := ?_) rfl (by kernel_rfl) (by kernel_rfl) (by kernel_rfl) (fun _ _ _ h => h) (Or.inl ⟨by rfl, ?_⟩) hHeld ?_
                      rotate_left
                      · intro wz hSw
                        try dsimp only at hSw
                        go_simp
                        try with_reducible rfl
                      try simp only [Act.put]
                      refine wpAnyH_take (i := 4) (v := ?_) rfl (by kernel_rfl) (by kernel_rfl) (by kernel_rfl) (fun _ _ _ h => h) (Or.inl ⟨by rfl, ?_⟩) hHeld ?_
                      rotate_left
                      · intro wz hSw
                        try dsimp only at hSw
                        go_simp
                        try with_reducible rfl
                      try simp only [Act.put]
                      refine wpAnyH_take (i := 5) (v := ?_) rfl (by kernel_rfl) (by kernel_rfl) (by kernel_rfl) (fun _ _ _ h => h) (Or.inl ⟨by rfl, ?_⟩) hHeld ?_
                      rotate_left
                      · intro wz hSw
                        try dsimp only at hSw
                        go_simp
                        try with_reducible rfl
                      try simp only [Act.put]
                      refine wpAnyH_take (i := 6) (v := ?_) rfl (by kernel_rfl) (by kernel_rfl) (by kernel_rfl) (fun _ _ _ h => h) (Or.inl ⟨by rfl, ?_⟩) hHeld ?_
                      rotate_left
                      · intro wz hSw
                        try dsimp only at hSw
                        go_simp
                        try with_reducible rfl
                      try simp only [Act.put]
                      refine wpAnyH_take (i := 7) (v := ?_) rfl (by kernel_rfl) (by kernel_rfl) (by kernel_rfl) (fun _ _ _ h => h) (Or.inl ⟨by rfl, ?_⟩) hHeld ?_
                      rotate_left
                      · intro wz hSw
                        try dsimp only at hSw
                        go_simp
                        try with_reducible rfl
                      try simp only [Act.put]
                      refine wpAnyH_take (i := 8) (v := ?_) rfl (by kernel_rfl) (by kernel_rfl) (by kernel_rfl) (fun _ _ _ h => h) (Or.inl ⟨by rfl, ?_⟩) hHeld ?_
                      rotate_left
                      · intro wz hSw
                        try dsimp only at hSw
                        go_simp
                        try with_reducible rfl
                      try simp only [Act.put]
                      refine wpAnyH_ready (rs := [9]) (by kernel_rfl) (by simp) ?_
                      refine AllReadyH.cons rfl (fun K hK => ?_) AllReadyH.nil
                      go_simp
                      go_at_call 173
                      refine Calls.mono (U.out _ (Below.drew (Below.refl _ _))) ?_
                      rintro e w6 ⟨⟨at_, rfl⟩, g6⟩
                      rw [E.out]
                      exact ⟨rfl, grown_trans HL5.out.grown g6, ⟨_, rfl⟩⟩
                    | ok x =>
                      obtain ⟨hi, u⟩ := x
                      have h5 : Hid (itemF l' = .ok ([(lo, hi)], u)) := by show itemF l' = _; unfold itemF; rw [hm]; simp [pk, lowF, hu]
                      have U : Hid (∀ w', Below w5.heap.size w5 w' → Calls Tryz.prog 173 #[.pointer (some ⟨r, 0, none⟩), .int .i32 lo] w' fun e w'' => e = .returned (.int .i32 hi) ∧ At w'' r s u d z ∧ w5.grownBy w'' (some r)) := fun w' hb => by
                        refine (upper_any r s lo t2 d z w' (HL5.out.here.below hb) hr (tabs_below HL5.out.tabs hb) hs).mono fun e w'' h => ?_
                        rw [hu] at h
                        exact ⟨h.2.1, h.2.2, below_then hb h.1⟩
                      have KP : Hid (∀ w2, w5.grownBy w2 (some r) → w2.cell? ⟨g, 0, none⟩ = some (.int .i32 lo)) := fun w2 h => h.cell c0 (fun e => hrg (Option.some.inj e))
                      have g0 : w5.grownBy w5 (some r) := grown_refl _ _
                      clear hm hu HC2 LEN
                      go_region_held3 (fun w' => w'.cell? ⟨g, 0, none⟩ = some (.int .i32 lo))
                        ((refine KP.out _ ?_; (repeat (first | refine grown_drew ?_ | refine grown_drewN ?_ _ | refine grown_alloc ?_ _)); assumption))
                        (first | (go_at_call 173; refine Calls.mono (U.out _ ?_) ?_; (repeat (first | refine Below.drew ?_ | refine below_drewN ?_ _)); exact Below.refl _ _; rintro e w6 ⟨rfl, h6, g6⟩))
                      have HL6 := Lib.hid (HL5.out.call hr lt g6 h6)
                      have b7 : Below w6.heap.size w6 (w6.alloc (.cells #[.int .i32 lo, .int .i32 hi] 177)) := (Below.refl _ _).alloc (Nat.le_refl _) _
                      have HL7 := Lib.hid (HL6.out.below hr lt b7)
                      have SP7 : Hid ((w6.alloc (.cells #[.int .i32 lo, .int .i32 hi] 177)).heap[w6.heap.size]? = some (.cells (spC [(lo, hi)]).toArray 177 (0, 0))) := heap_alloc_new w6 _
                      clear b7 HL6 h6 g6 HL5 SP5 c0 hg0
                      go_wp2_with fail
                      go_meet
                      case rel => exact ⟨w6.heap.size, [(lo, hi)], u, rfl, h5.out, by simp, HL7.out, SP7.out⟩
                  · have h45f : (single && pk t == 45) = false := by simpa using h45
                    have h5 : Hid (itemF l' = .ok (sp, t)) := by show itemF l' = _; unfold itemF; rw [hm]; simp only; rw [h45f]; rfl
                    rw [h45f]
                    clear hm hrg h45 h45f
                    go_wp2_with fail
                    go_meet
                    case rel => exact ⟨g, sp, t, rfl, h5.out, LEN.out, HL4.out, SP4.out⟩
                case rest =>
                  clear HL4 SP4 LEN hm hrg
                  obtain ⟨g, sp, t, rfl, h5, len, hl, hsp⟩ := hcut
                  have HC3 : Hid (clsF m false (acc ++ sp) t = some res) := by
                    have := HC2.out
                    rw [h5] at this
                    exact this
                  have LEN := Lib.hid len
                  have HL4 := Lib.hid hl
                  have SP4 := Lib.hid hsp
                  have kc0 := hl.cell.1
                  clear h5 len hl hsp HC2
                  go_wp2_with (at_builtin; refine wpList_append_own _ rfl (.tmp 52) (.tmp 53) 154 rfl (w.heap.size + 1) 177 i0 (.agg #[.int .i32 0, .int .i32 0]) 2 8 Tryz.underlying154 I0.out.2.2.2 I0.out.1 I0.out.2.1 I0.out.2.2.1 rfl (by decide) _ acc.length _ rfl HL4.out.own ⟨g, 0, none⟩ (sp).length (sp).length (spC (sp)) rfl (spC_length _) (span_cells SP4.out) (spC_plain _) (by unfold maxLen; have := LEN.out; omega) (by have := LEN.out; omega) (by have := HL4.out.grown.size; have := (Array.getElem?_eq_some_iff.1 HL4.out.part).1; omega) ?_)
                  intro v' w5 own5 grow5 _
                  obtain ⟨A5, n5, c5, rfl⟩ := ownsRow_is own5
                  obtain ⟨kc5, kf5, HL5'⟩ := HL4.out.appended hr lt own5 grow5
                  have HL5 := Lib.hid HL5'
                  clear HL5' own5 grow5
                  go_wp2_with fail
                  go_roundg m
                  case measure => omega
                  case rel => exact ⟨false, _, acc ++ sp, t, rfl, by rw [List.length_append]; have := LEN.out; omega, HC3, HL5⟩
          · obtain ⟨rfl, t, rfl⟩ : first = false ∧ ∃ t, l' = 93 :: t := by
              cases first with
              | true => exact absurd rfl hgo
              | false =>
                refine ⟨rfl, ?_⟩
                cases l' with
                | nil => exact absurd rfl hgo
                | cons c t =>
                  refine ⟨t, ?_⟩
                  by_cases e : c = 93
                  · rw [e]
                  · exact absurd (by simpa [pk] using e) hgo
            have E : Hid (res = .ok (acc, t)) := by
              have := HC.out
              unfold clsF at this
              rw [if_neg hgo] at this
              exact (Option.some.inj this).symm
            have hgf : (false || pk (93 :: t) != 93) = false := rfl
            rw [hgf]
            clear HC hgo hgf
            go_wp2_with fail
            refine (skip_any r s 93 t d z _ HL2.out.here hs).mono ?_
            rintro e w3 ⟨rfl, h3, g3⟩
            have HL3 := Lib.hid (HL2.out.call hr lt g3 h3)
            obtain ⟨p3, hr3, _⟩ := h3
            have kz := hr3.z
            have fz := hr3.free 3
            clear HL2 g3 hr3
            go_wp2_with fail
            go_ret
            rw [E.out]
            exact ClsPost.ok (HL3.out.size hr lt _)
end Go.Proofs.YtmbfpichaaanpaaGreatDoor
