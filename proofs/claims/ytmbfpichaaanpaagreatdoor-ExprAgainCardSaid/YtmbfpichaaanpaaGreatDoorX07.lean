import Derived.Test.YtmbfpichaaanpaaGreatDoorX06
/-! What a part's matches lead to: its functions, walked. -/
namespace Go.Proofs.YtmbfpichaaanpaaGreatDoor
open Go.RowKit Ut Rx

/-- a part in block b that is one of spans -/
structure OneP (w : World) (b : Nat) (sp : List Span) (but : Bool) : Prop where
  part : ∃ v pl pv sg, w.heap[b]? = some (.cells #[.int .i64 0, v, .bool but, .bool pl, pv, .int .i32 sg] 156 (0, 0)) ∧ w.ownsRow 0 177 2 v sp.length (spC sp)

theorem spC_get (sp : List Span) (k : Nat) (hk : k < sp.length) : (spC sp)[k * 2]? = some (.int .i32 (sp[k]'hk).1) ∧ (spC sp)[k * 2 + 1]? = some (.int .i32 (sp[k]'hk).2) := by
  induction sp generalizing k with
  | nil => simp at hk
  | cons a t ih =>
    have e : spC (a :: t) = .int .i32 a.1 :: .int .i32 a.2 :: spC t := by unfold spC; simp [List.flatMap_cons]
    rw [e]
    cases k with
    | zero => exact ⟨rfl, rfl⟩
    | succ k =>
      have := ih k (by simpa using hk)
      have e1 : (k + 1) * 2 = k * 2 + 1 + 1 := by omega
      rw [e1]
      simpa using this
theorem row_cell {w : World} {base e size n : Nat} {v : Value} {xs : List Value} {g o : Nat} {m c : Nat} (h : w.ownsRow base e size v n xs) (hv : v = .slice (some ⟨g, o, none⟩) m c) : o = 0 ∧ m = n ∧ ∀ j u, xs[j]? = some u → w.cell? ⟨g, j, none⟩ = some u := by
  rcases h.2 with ⟨e1, _⟩ | ⟨g', cap, cur, e1, _⟩
  · rw [hv] at e1; cases e1
  · rw [hv] at e1
    cases e1
    refine ⟨rfl, rfl, fun j u hj => ?_⟩
    have := h.cells (g := g) (by rw [hv]; rfl) j u hj
    have hadd : (⟨g, 0, none⟩ : Addr).add j = ⟨g, j, none⟩ := by unfold Addr.add; split <;> simp_all
    rw [hadd] at this
    exact this
theorem row_kinds {w : World} {base e size n : Nat} {v : Value} {xs : List Value} (h : w.ownsRow base e size v n xs) : (v = .slice none 0 0 ∧ n = 0) ∨ ∃ g c, v = .slice (some ⟨g, 0, none⟩) n c ∧ n ≤ c := by
  rcases h.2 with h | ⟨g', cap, cur, e1, _, _, hc, _⟩
  · exact Or.inl h
  · exact Or.inr ⟨g', cap, e1, hc⟩

/-- has one of the first k? -/
def inB (sp : List Span) (c : Int) (k : Nat) : Bool := hasS (sp.take k) c
theorem inB_succ (sp : List Span) (c : Int) (k : Nat) (hk : k < sp.length) : inB sp c (k + 1) = (inB sp c k || (decide (c ≥ (sp[k]'hk).1) && decide (c ≤ (sp[k]'hk).2))) := by
  unfold inB hasS
  rw [List.take_succ_eq_append_getElem hk, List.any_append]
  simp
theorem inB_all (sp : List Span) (c : Int) : inB sp c sp.length = hasS sp c := by unfold inB; rw [List.take_length]
theorem inB_zero (sp : List Span) (c : Int) : inB sp c 0 = false := rfl

set_option maxRecDepth 100000 in
set_option maxHeartbeats 2000000 in
theorem has_any (b : Nat) (sp : List Span) (but : Bool) (c : Int) (w : World) (h : OneP w b sp but) (hlen : sp.length ≤ 4000000) :
    Calls Tryz.prog 149 #[.pointer (some ⟨b, 0, none⟩), .int .i32 c] w (BoolBelow w (hasS sp c != but)) := by
  obtain ⟨v, pl, pv, sg, hb, hown⟩ := h.part
  have lb := (Array.getElem?_eq_some_iff.1 hb).1
  have k1 : w.cell? ⟨b, 1, none⟩ = some v := by unfold World.cell?; rw [hb]; rfl
  have K2 : Hid (∀ w', Below w.heap.size w w' → w'.cell? ⟨b, 2, none⟩ = some (.bool but)) := fun w' hw => by
    rw [hw.cell (p := ⟨b, 2, none⟩) lb]; unfold World.cell?; rw [hb]; rfl
  rcases row_kinds hown with ⟨rfl, hn⟩ | ⟨g, cap, rfl, hcap⟩
  · obtain rfl : sp = [] := List.eq_nil_of_length_eq_zero hn
    have k2 := K2.out w (Below.refl _ _)
    clear hb hown h K2
    go_enter Tryz.func149, Tryz.ntmps149
    go_wp2_with fail
    go_loopg [5, 13] 0 (fun gk vin vk wr => vk = .int .i64 0 ∧ vin = .bool false ∧ wr = w)
    case atStart => exact ⟨rfl, rfl, rfl⟩
    case round =>
      obtain ⟨rfl, rfl, rfl⟩ := hrel
      go_wp2_with fail
      go_ret
      exact ⟨by cases but <;> rfl, Below.refl _ _⟩
  · have HC := Lib.hid (row_cell hown rfl).2.2
    clear hb hown h
    go_enter Tryz.func149, Tryz.ntmps149
    go_wp2_with fail
    go_loopg [5, 13] sp.length (fun gk vin vk wr => ∃ k : Nat, vk = .int .i64 k ∧ k + gk = sp.length ∧ vin = .bool (inB sp c k) ∧ Hid (Below w.heap.size w wr))
    case atStart => exact ⟨0, rfl, by omega, rfl, Below.refl _ _⟩
    case round =>
      obtain ⟨k, rfl, hk, rfl, HW⟩ := hrel
      by_cases hlt : k < sp.length
      · obtain ⟨e1, e2⟩ := spC_get sp k hlt
        have lg := World.block_lt_of_cell? w _ (HC.out _ _ e1)
        have c1 : wr.cell? ⟨g, k * 2, none⟩ = some (.int .i32 (sp[k]'hlt).1) := (HW.out.cell (p := ⟨g, k * 2, none⟩) lg).trans (HC.out _ _ e1)
        have c2 : wr.cell? ⟨g, k * 2 + 1, none⟩ = some (.int .i32 (sp[k]'hlt).2) := (HW.out.cell (p := ⟨g, k * 2 + 1, none⟩) lg).trans (HC.out _ _ e2)
        have S := Lib.hid (inB_succ sp c k hlt)
        generalize (sp[k]'hlt).1 = lo at c1 S
        generalize (sp[k]'hlt).2 = hi at c2 S
        clear e1 e2 k1
        cases hin : inB sp c k with
        | true =>
          have S2 : Hid (inB sp c (k + 1) = true) := by show _ = _; rw [S.out, hin]; rfl
          clear hin S
          go_wp2_with fail
          go_roundg (gk - 1)
          case measure => omega
          case rel => exact ⟨k + 1, by go_num, by omega, by rw [S2.out], HW.out.alloc HW.out.size _⟩
        | false =>
          by_cases h1 : lo ≤ c
          · by_cases h2 : c ≤ hi
            · have S2 : Hid (inB sp c (k + 1) = true) := by show _ = _; rw [S.out, hin, decide_eq_true h1, decide_eq_true h2]; rfl
              clear hin S
              go_wp2_with fail
              go_roundg (gk - 1)
              case measure => omega
              case rel => exact ⟨k + 1, by go_num, by omega, by rw [S2.out], HW.out.alloc HW.out.size _⟩
            · have S2 : Hid (inB sp c (k + 1) = false) := by show _ = _; rw [S.out, hin, decide_eq_false h2]; simp
              have h2d : decide (c ≤ hi) = false := by simpa using h2
              clear hin S
              go_wp2_with fail
              go_roundg (gk - 1)
              case measure => omega
              case rel => exact ⟨k + 1, by go_num, by omega, by rw [S2.out], HW.out.alloc HW.out.size _⟩
          · have S2 : Hid (inB sp c (k + 1) = false) := by show _ = _; rw [S.out, hin, decide_eq_false (show ¬ c ≥ lo from h1)]; rfl
            have h1d : decide (lo ≤ c) = false := by simpa using h1
            clear hin S
            go_wp2_with fail
            go_roundg (gk - 1)
            case measure => omega
            case rel => exact ⟨k + 1, by go_num, by omega, by rw [S2.out], HW.out.alloc HW.out.size _⟩
      · obtain rfl : k = sp.length := by omega
        have k2 := K2.out wr HW.out
        have e := Lib.hid (inB_all sp c)
        go_wp2_with fail
        go_ret
        rw [← e.out]
        exact ⟨rfl, HW.out⟩
end Go.Proofs.YtmbfpichaaanpaaGreatDoor

/-! Places joined to others. -/
namespace Go.Proofs.YtmbfpichaaanpaaGreatDoor
open Go.RowKit Ut Rx

theorem row_set {w : World} {base e n g cap k : Nat} {xs : List Value} (h : w.ownsRow base e 1 (.slice (some ⟨g, 0, none⟩) n cap) n xs) (u : Value) :
    (w.setCell ⟨g, k, none⟩ u).ownsRow base e 1 (.slice (some ⟨g, 0, none⟩) n cap) n (xs.set k u) := by
  refine ⟨by rw [List.length_set]; exact h.1, ?_⟩
  rcases h.2 with ⟨e1, _⟩ | ⟨g', cap', cur, e1, hb, hg, hc, hm, hs, ht⟩
  · cases e1
  · cases e1
    refine Or.inr ⟨g, cap, cur.setIfInBounds k u, rfl, hb, ?_, hc, hm, by simpa using hs, ?_⟩
    · unfold World.setCell
      simp only [Array.getElem?_modify, ↓reduceIte, hg, Option.map_some]
      rfl
    · rw [Array.toList_setIfInBounds, List.take_set, ht]
theorem row_free {w : World} {base e size n g cap : Nat} {xs : List Value} (h : w.ownsRow base e size (.slice (some ⟨g, 0, none⟩) n cap) n xs) (k : Nat) : w.frozen? ⟨g, k, none⟩ = false := by
  rcases h.2 with ⟨e1, _⟩ | ⟨g', cap', cur, e1, hb, hg, _⟩
  · cases e1
  · cases e1
    unfold World.frozen?; rw [hg]; simp

/-- b's first k places added to a -/
def orK (a b : List Bool) (k : Nat) : List Bool := List.zipWith (fun x y => x || y) (a.take k) (b.take k) ++ a.drop k
theorem orK_zero (a b : List Bool) : orK a b 0 = a := by simp [orK]
theorem orK_all {a b : List Bool} (h : a.length = b.length) : orK a b a.length = orF a b := by
  unfold orK orF
  rw [List.take_length, List.drop_length, h, List.take_length, List.append_nil]
theorem orK_length {a b : List Bool} (h : a.length = b.length) (k : Nat) : (orK a b k).length = a.length := by
  unfold orK
  simp; omega
theorem orK_succ {a b : List Bool} (h : a.length = b.length) {k : Nat} (hk : k < a.length) : orK a b (k + 1) = (orK a b k).set k (a[k] || b[k]'(by omega)) := by
  have hb : k < b.length := by omega
  unfold orK
  rw [List.take_succ_eq_append_getElem hk, List.take_succ_eq_append_getElem hb, List.zipWith_append (by simp; omega)]
  have hz : (List.zipWith (fun x y => x || y) (a.take k) (b.take k)).length = k := by simp; omega
  rw [List.set_append_right _ _ (by omega), hz, Nat.sub_self, List.drop_eq_getElem_cons hk, List.set_cons_zero, List.append_assoc]
  rfl
theorem orK_get {a b : List Bool} (h : a.length = b.length) {k : Nat} (hk : k < a.length) : (orK a b k)[k]? = some a[k] := by
  unfold orK
  have hz : (List.zipWith (fun x y => x || y) (a.take k) (b.take k)).length = k := by simp; omega
  rw [List.getElem?_append_right (by omega), hz, Nat.sub_self, List.drop_eq_getElem_cons hk]
  simp
theorem orK_same {a b : List Bool} (h : a.length = b.length) {k : Nat} (hk : k < a.length) (hn : (a[k] || b[k]'(by omega)) = a[k]) : orK a b (k + 1) = orK a b k := by
  rw [orK_succ h hk, hn]
  have hg := orK_get h hk
  obtain ⟨h1, h2⟩ := List.getElem?_eq_some_iff.1 hg
  rw [← h2, List.set_getElem_self]
theorem orK_more {a b : List Bool} (h : a.length = b.length) : ∀ k, k ≤ a.length → ((∃ j, ∃ h1 : j < a.length, j < k ∧ a[j] = false ∧ b[j]'(by omega) = true) ↔ orK a b k ≠ a) := by
  intro k
  induction k with
  | zero => intro _; rw [orK_zero]; simp
  | succ k ih =>
    intro hk
    have hk' : k < a.length := by omega
    have ih' := ih (by omega)
    cases hab : (a[k] || b[k]'(by omega)) == a[k] with
    | true =>
      have hab' := eq_of_beq hab
      rw [orK_same h hk' hab', ← ih']
      constructor
      · rintro ⟨j, h1, h2, h3, h4⟩
        refine ⟨j, h1, ?_, h3, h4⟩
        rcases Nat.lt_or_ge j k with h5 | h5
        · exact h5
        · obtain rfl : j = k := by omega
          rw [h3, h4] at hab'; cases hab'
      · rintro ⟨j, h1, h2, h3, h4⟩
        exact ⟨j, h1, by omega, h3, h4⟩
    | false =>
      have hak : a[k] = false ∧ b[k]'(by omega) = true := by
        cases ha : a[k] <;> cases hb : b[k]'(by omega) <;> simp_all
      constructor
      · intro _ e
        have := congrArg (fun l => l[k]?) e
        rw [orK_succ h hk'] at this
        simp only [List.getElem?_set_self (show k < (orK a b k).length by rw [orK_length h]; exact hk'), List.getElem?_eq_getElem hk', hak.1, hak.2] at this
        cases this
      · intro _
        exact ⟨k, hk', by omega, hak⟩

def JoinPost (w : World) (T : Nat) (tv : Value) (a b : List Bool) (e : Ending) (w' : World) : Prop :=
  e = .returned (.bool (decide (orF a b ≠ a))) ∧ w'.ownsRow 0 4 1 tv a.length ((orF a b).map Value.bool) ∧ w.grownBy w' (some T)

set_option maxRecDepth 100000 in
set_option maxHeartbeats 2000000 in
theorem join_any (T ct : Nat) (lv : Value) (a b : List Bool) (w : World) (ha : w.ownsRow 0 4 1 (.slice (some ⟨T, 0, none⟩) a.length ct) a.length (a.map Value.bool))
    (hb : w.ownsRow 0 4 1 lv b.length (b.map Value.bool)) (hne : lv.ownBlock ≠ some T) (hl : a.length = b.length) (hlen : a.length ≤ 4000000) :
    Calls Tryz.prog 150 #[.slice (some ⟨T, 0, none⟩) a.length ct, lv] w (JoinPost w T (.slice (some ⟨T, 0, none⟩) a.length ct) a b) := by
  have HA := Lib.hid ha
  have HL := Lib.hid hl
  have HN := Lib.hid hne
  have lT := (ha.lt T rfl).2
  rcases row_kinds hb with ⟨rfl, hn⟩ | ⟨g, cap, rfl, hcap⟩
  · obtain rfl : b = [] := List.eq_nil_of_length_eq_zero hn
    obtain rfl : a = [] := List.eq_nil_of_length_eq_zero (by rw [hl]; rfl)
    clear ha hb hl hne
    go_enter Tryz.func150, Tryz.ntmps150
    go_wp2_with fail
    go_loopg [5, 10] 0 (fun gk vin vk wr => vk = .int .i64 0 ∧ vin = .bool false ∧ wr = w)
    case atStart => exact ⟨rfl, rfl, rfl⟩
    case round =>
      obtain ⟨rfl, rfl, rfl⟩ := hrel
      go_wp2_with fail
      go_ret
      exact ⟨rfl, HA.out, grown_refl _ _⟩
  · have HB := Lib.hid (row_cell hb rfl).2.2
    have hgT : g ≠ T := fun e => hne (by rw [e]; rfl)
    clear ha hb hl hne HN
    go_enter Tryz.func150, Tryz.ntmps150
    go_wp2_with fail
    go_loopg [5, 10] b.length (fun gk vin vk wr => ∃ (k : Nat) (m : Bool), vk = .int .i64 k ∧ k + gk = b.length ∧ vin = .bool m ∧ Hid (m = decide (orK a b k ≠ a)) ∧ Hid (w.grownBy wr (some T)) ∧ Hid (wr.ownsRow 0 4 1 (.slice (some ⟨T, 0, none⟩) a.length ct) a.length ((orK a b k).map Value.bool)))
    case atStart => exact ⟨0, false, rfl, by omega, rfl, by show _ = _; rw [orK_zero]; simp, grown_refl _ _, by show World.ownsRow _ _ _ _ _ _ _; rw [orK_zero]; exact HA.out⟩
    case round =>
      obtain ⟨k, m, rfl, hk, rfl, HM, HG, HO⟩ := hrel
      by_cases hlt : k < b.length
      · have hka : k < a.length := by rw [HL.out]; exact hlt
        have cb : wr.cell? ⟨g, k, none⟩ = some (.bool (b[k]'hlt)) := HG.out.cell (HB.out k _ (by rw [List.getElem?_map, List.getElem?_eq_getElem hlt]; rfl)) (fun e => hgT (Option.some.inj e))
        have ca : wr.cell? ⟨T, k, none⟩ = some (.bool (a[k]'hka)) := (row_cell HO.out rfl).2.2 k _ (by rw [List.getElem?_map, orK_get HL.out hka]; rfl)
        have fa := row_free HO.out k
        have SS := Lib.hid (fun h => orK_same (b := b) HL.out hka h)
        have SU := Lib.hid (orK_succ (b := b) HL.out hka)
        have MM := Lib.hid (orK_more (b := b) HL.out (k + 1) (by omega))
        have hk64 : (k : Int) < a.length := by omega
        cases hbk : b[k]'hlt with
        | false =>
          have E : Hid (orK a b (k + 1) = orK a b k) := SS.out (by rw [hbk]; simp)
          rw [hbk] at cb
          clear hbk SS SU MM
          go_wp2_with fail
          go_roundg (gk - 1)
          case measure => omega
          case rel => exact ⟨k + 1, m, by go_num, by omega, rfl, by show _ = _; rw [E.out]; exact HM.out, HG, by show World.ownsRow _ _ _ _ _ _ _; rw [E.out]; exact HO.out⟩
        | true =>
          rw [hbk] at cb
          cases hak : a[k]'hka with
          | true =>
            have E : Hid (orK a b (k + 1) = orK a b k) := SS.out (by rw [hak]; rfl)
            rw [hak] at ca
            clear hbk hak SS SU MM
            go_wp2_with fail
            go_roundg (gk - 1)
            case measure => omega
            case rel => exact ⟨k + 1, m, by go_num, by omega, rfl, by show _ = _; rw [E.out]; exact HM.out, HG, by show World.ownsRow _ _ _ _ _ _ _; rw [E.out]; exact HO.out⟩
          | false =>
            have E : Hid (orK a b (k + 1) = (orK a b k).set k true) := by show _ = _; rw [SU.out, hak, hbk]; rfl
            have E2 : Hid (orK a b (k + 1) ≠ a) := MM.out.1 ⟨k, hka, by omega, hak, hbk⟩
            rw [hak] at ca
            clear hbk hak SS SU MM
            go_wp2_with fail
            go_roundg (gk - 1)
            case measure => omega
            case rel => exact ⟨k + 1, true, by go_num, by omega, rfl, by show _ = _; rw [decide_eq_true E2.out], grown_trans HG.out (grown_setCell _ _ _ _), by
              show World.ownsRow _ _ _ _ _ _ _
              rw [E.out, List.map_set]
              exact row_set HO.out _⟩
      · obtain rfl : k = b.length := by omega
        have E : Hid (orK a b b.length = orF a b) := by show _ = _; rw [← HL.out]; exact orK_all HL.out
        go_wp2_with fail
        go_ret
        have e1 := HM.out
        have e2 := HO.out
        rw [E.out] at e1 e2
        rw [e1]
        exact ⟨rfl, e2, HG.out⟩
end Go.Proofs.YtmbfpichaaanpaaGreatDoor

/-! What a part's matches lead to: one of spans. -/
namespace Go.Proofs.YtmbfpichaaanpaaGreatDoor
open Go.RowKit Ut Rx

def Bls (w : World) (v : Value) (xs : List Bool) : Prop := w.ownsRow 0 4 1 v xs.length (xs.map Value.bool)
def Rns (w : World) (v : Value) (l : List Int) : Prop := w.ownsRow 0 21 1 v l.length (l.map (Value.int .i32))
theorem Bls.below {w w' : World} {v : Value} {xs : List Bool} (h : Bls w v xs) (b : Below w.heap.size w w') : Bls w' v xs := h.kept (row := none) ⟨b.os, b.tape, b.output, b.size, fun k hk _ => b.block k hk⟩ (by cases v.ownBlock <;> simp)
theorem Rns.below {w w' : World} {v : Value} {xs : List Int} (h : Rns w v xs) (b : Below w.heap.size w w') : Rns w' v xs := h.kept (row := none) ⟨b.os, b.tape, b.output, b.size, fun k hk _ => b.block k hk⟩ (by cases v.ownBlock <;> simp)
/-- what `ends` hands back: new (fr), or what came -/
def EndsPost (fr : Bool) (w : World) (fv : Value) (out : List Bool) (e : Ending) (w' : World) : Prop :=
  ∃ rv, e = .returned rv ∧ Bls w' rv out ∧ ((fr = false ∧ rv = fv) ∨ ∀ k, rv.ownBlock = some k → w.heap.size ≤ k) ∧ Below w.heap.size w w'
/-- the part in block b leads where f says, in every world that is as w is where F says -/
def Den (fr : Bool) (F : Nat → Prop) (w : World) (b : Nat) (f : Fi) : Prop :=
  ∀ w', w.heap.size ≤ w'.heap.size → (∀ k, F k → w'.heap[k]? = w.heap[k]?) → ∀ l lv v fv, Rns w' lv l → Bls w' fv v → v.length = l.length + 1 → l.length ≤ 1000000 →
    Calls Tryz.prog 132 #[.pointer (some ⟨b, 0, none⟩), lv, fv] w' (EndsPost fr w' fv (f l v))

set_option maxRecDepth 100000 in
theorem infoBo : (Tryz.prog.info? 4).map (fun i => (i.zero, i.size, i.bytes)) = some (some (.bool false), 1, 1) := by kernel_rfl
/-- n false cells -/
def bz (n : Nat) : Array Value := madeCells (Value.bool false).cells n
theorem run_mk (n : Nat) (hn : n ≤ 4000000) (w : World) : (Instr.makeSlice 132 (.int .i64 (n : Int)) (.int .i64 (n : Int))).run Tryz.prog w = .ok (.slice (some ⟨w.heap.size, 0, none⟩) n n) (w.alloc (.cells (bz n) 4)) := by
  obtain ⟨i0, hi, hz0, hz1, hz2⟩ := info_parts infoBo
  have := run_make (P := Tryz.prog) w 132 4 i0 (.bool false) Tryz.underlying132 hi hz0 .i64 .i64 n n (by omega) (Int.le_refl _) (by rw [hz2]; omega) (by omega)
  rw [this, hz1]
  simp [bz]
theorem bz_list (n : Nat) : (bz n).toList = List.replicate n (.bool false) := by
  unfold bz
  apply List.ext_getElem
  · simp [madeCells]
  · intro i h1 h2
    have e : ∀ j : Nat, j % 1 = 0 := fun j => Nat.mod_one j
    simp [madeCells, Value.cells, e]
theorem mk_row (n : Nat) (hn : n ≤ 4000000) (w : World) : (w.alloc (.cells (bz n) 4)).ownsRow 0 4 1 (.slice (some ⟨w.heap.size, 0, none⟩) n n) n ((List.replicate n false).map Value.bool) := by
  refine ⟨by simp, Or.inr ⟨w.heap.size, n, bz n, rfl, Nat.zero_le _, heap_alloc_new w _, Nat.le_refl _, by unfold maxLen; omega, ?_, ?_⟩⟩
  · have := congrArg List.length (bz_list n)
    simpa using this
  · rw [bz_list]; simp

/-- the first k runes done -/
def oneK (sp : List Span) (but : Bool) (l : List Int) (v : List Bool) (k : Nat) : List Bool := (oneF sp but l v).take (k + 1) ++ List.replicate (v.length - (k + 1)) false
theorem oneF_length {sp : List Span} {but : Bool} {l : List Int} {v : List Bool} (h : v.length = l.length + 1) : (oneF sp but l v).length = v.length := by unfold oneF; simp; omega
theorem oneK_zero {sp : List Span} {but : Bool} {l : List Int} {v : List Bool} (h : v.length = l.length + 1) : oneK sp but l v 0 = List.replicate v.length false := by
  unfold oneK oneF
  rw [h]; simp [List.replicate_succ]
theorem oneK_all {sp : List Span} {but : Bool} {l : List Int} {v : List Bool} (h : v.length = l.length + 1) : oneK sp but l v l.length = oneF sp but l v := by
  unfold oneK
  rw [← h, ← oneF_length h, List.take_length, Nat.sub_self]; simp
theorem oneK_length {sp : List Span} {but : Bool} {l : List Int} {v : List Bool} (h : v.length = l.length + 1) {k : Nat} (hk : k ≤ l.length) : (oneK sp but l v k).length = v.length := by
  unfold oneK
  have := oneF_length (sp := sp) (but := but) h
  simp; omega
theorem oneK_succ {sp : List Span} {but : Bool} {l : List Int} {v : List Bool} (h : v.length = l.length + 1) {k : Nat} (hk : k < l.length) :
    oneK sp but l v (k + 1) = (oneK sp but l v k).set (k + 1) (v[k]'(by omega) && (hasS sp (l[k]'hk) != but)) := by
  have hf := oneF_length (sp := sp) (but := but) h
  have hk1 : k + 1 < (oneF sp but l v).length := by omega
  have hg : (oneF sp but l v)[k + 1] = (v[k]'(by omega) && (hasS sp (l[k]'hk) != but)) := by
    have e : (oneF sp but l v)[k + 1]? = some (v[k]'(by omega) && (hasS sp (l[k]'hk) != but)) := by
      unfold oneF
      rw [List.getElem?_cons_succ, List.getElem?_zipWith]
      simp [List.getElem?_eq_getElem hk, List.getElem?_eq_getElem (show k < v.length by omega)]
    rw [List.getElem?_eq_getElem hk1] at e
    exact Option.some.inj e
  unfold oneK
  rw [List.take_succ_eq_append_getElem hk1, hg]
  have ht : ((oneF sp but l v).take (k + 1)).length = k + 1 := by rw [List.length_take]; omega
  rw [List.set_append_right _ _ (by omega), ht, Nat.sub_self]
  obtain ⟨m, hm⟩ : ∃ m, v.length - (k + 1) = m + 1 := ⟨v.length - (k + 1) - 1, by omega⟩
  rw [hm, List.replicate_succ, List.set_cons_zero, List.append_assoc, show v.length - (k + 1 + 1) = m by omega]
  rfl
theorem OneP.below {w w' : World} {b : Nat} {sp : List Span} {but : Bool} (h : OneP w b sp but) (hb : Below w.heap.size w w') : OneP w' b sp but := by
  obtain ⟨v, pl, pv, sg, hp, ho⟩ := h.part
  exact ⟨v, pl, pv, sg, (hb.block b (Array.getElem?_eq_some_iff.1 hp).1).trans hp, ho.kept (row := none) ⟨hb.os, hb.tape, hb.output, hb.size, fun k hk _ => hb.block k hk⟩ (by cases v.ownBlock <;> simp)⟩

set_option maxRecDepth 100000 in
set_option maxHeartbeats 4000000 in
theorem ends_one (b : Nat) (sp : List Span) (but : Bool) (w : World) (h : OneP w b sp but) (hlen : sp.length ≤ 4000000) (l : List Int) (lv : Value) (v : List Bool) (fv : Value)
    (hl : Rns w lv l) (hv : Bls w fv v) (hvl : v.length = l.length + 1) (hll : l.length ≤ 1000000) :
    Calls Tryz.prog 132 #[.pointer (some ⟨b, 0, none⟩), lv, fv] w (EndsPost true w fv (oneF sp but l v)) := by
  have k0 : w.cell? ⟨b, 0, none⟩ = some (.int .i64 0) := by
    obtain ⟨sv, pl, pv, sg, hb, _⟩ := h.part
    unfold World.cell?; rw [hb]; rfl
  have hv0 : 0 < v.length := by omega
  have hv1 : v.length ≤ 1000001 := by omega
  obtain ⟨g, cap, rfl, hcap⟩ : ∃ g c, fv = .slice (some ⟨g, 0, none⟩) v.length c ∧ v.length ≤ c := by
    rcases row_kinds hv with ⟨_, hn⟩ | h
    · omega
    · exact h
  have HV := Lib.hid hv
  have HL := Lib.hid hl
  have H := Lib.hid h
  clear hv hl h
  have VL := Lib.hid hvl
  clear hvl
  have hmk := run_mk v.length (by omega) w
  have MR : Hid ((w.alloc (.cells (bz v.length) 4)).ownsRow 0 4 1 (.slice (some ⟨w.heap.size, 0, none⟩) v.length v.length) v.length ((oneK sp but l v 0).map Value.bool)) := by
    show World.ownsRow _ _ _ _ _ _ _
    rw [oneK_zero VL.out]; exact mk_row v.length (by omega) w
  have B0 : Hid (Below w.heap.size w (w.alloc (.cells (bz v.length) 4))) := (Below.refl _ _).alloc (Nat.le_refl _) _
  have OUT : Hid (∀ wr, wr.ownsRow 0 4 1 (.slice (some ⟨w.heap.size, 0, none⟩) v.length v.length) v.length ((oneK sp but l v l.length).map Value.bool) → Below w.heap.size w wr → EndsPost true w (.slice (some ⟨g, 0, none⟩) v.length cap) (oneF sp but l v) (.returned (.slice (some ⟨w.heap.size, 0, none⟩) v.length v.length)) wr) := fun wr h1 h2 => by
    rw [oneK_all VL.out] at h1
    refine ⟨_, rfl, ?_, Or.inr fun k hk => ?_, h2⟩
    · unfold Bls; rw [oneF_length VL.out]; exact h1
    · have : w.heap.size = k := Option.some.inj hk
      omega
  rcases row_kinds HL.out with ⟨rfl, hn⟩ | ⟨gl, cl, rfl, hcl⟩
  · obtain rfl : l = [] := List.eq_nil_of_length_eq_zero hn
    clear hn
    go_enter Tryz.func132, Tryz.ntmps132
    go_wp2_with fail
    go_loopg [26] 0 (fun gk vk wr => vk = .int .i64 0 ∧ wr = w.alloc (.cells (bz v.length) 4))
    case atStart => exact ⟨rfl, rfl⟩
    case round =>
      obtain ⟨rfl, rfl⟩ := hrel
      go_wp2_with fail
      go_ret
      exact OUT.out _ MR.out B0.out
  · have CL := Lib.hid (row_cell HL.out rfl).2.2
    have CV := Lib.hid (row_cell HV.out rfl).2.2
    go_enter Tryz.func132, Tryz.ntmps132
    go_wp2_with fail
    go_loopg [26] l.length (fun gk vk wr => ∃ k : Nat, vk = .int .i64 k ∧ k + gk = l.length ∧ Hid (Below w.heap.size w wr) ∧ Hid (wr.ownsRow 0 4 1 (.slice (some ⟨w.heap.size, 0, none⟩) v.length v.length) v.length ((oneK sp but l v k).map Value.bool)))
    case atStart => exact ⟨0, rfl, by omega, B0, MR⟩
    case round =>
      obtain ⟨k, rfl, hk, HB, HO⟩ := hrel
      clear MR B0
      by_cases hlt : k < l.length
      · have hkv : k < v.length := by have := VL.out; omega
        have hkv2 : (k : Int) < v.length := by omega
        have hkv1 : (k : Int) + 1 < v.length := by have := VL.out; omega
        have lgl := World.block_lt_of_cell? w _ (CL.out k _ (by rw [List.getElem?_map, List.getElem?_eq_getElem hlt]; rfl))
        have lgv := World.block_lt_of_cell? w _ (CV.out k _ (by rw [List.getElem?_map, List.getElem?_eq_getElem hkv]; rfl))
        have cl : wr.cell? ⟨gl, k, none⟩ = some (.int .i32 (l[k]'hlt)) := (HB.out.cell (p := ⟨gl, k, none⟩) lgl).trans (CL.out k _ (by rw [List.getElem?_map, List.getElem?_eq_getElem hlt]; rfl))
        have cv : wr.cell? ⟨g, k, none⟩ = some (.bool (v[k]'hkv)) := (HB.out.cell (p := ⟨g, k, none⟩) lgv).trans (CV.out k _ (by rw [List.getElem?_map, List.getElem?_eq_getElem hkv]; rfl))
        have OL := Lib.hid (oneK_length (sp := sp) (but := but) VL.out (Nat.le_of_lt hlt))
        have ST := Lib.hid (oneK_succ (sp := sp) (but := but) VL.out hlt)
        have HAS := Lib.hid (has_any b sp but (l[k]'hlt) wr (H.out.below HB.out) hlen)
        have HO1 := Lib.hid (fun (wq : World) (hq : Below wr.heap.size wr wq) (x : Bool) (e : oneK sp but l v (k + 1) = (oneK sp but l v k).set (k + 1) x) => show (wq.setCell ⟨w.heap.size, k + 1, none⟩ (.bool x)).ownsRow 0 4 1 (.slice (some ⟨w.heap.size, 0, none⟩) v.length v.length) v.length ((oneK sp but l v (k + 1)).map Value.bool) from by
          rw [e, List.map_set]
          exact row_set (HO.out.kept (row := none) ⟨hq.os, hq.tape, hq.output, hq.size, fun k hk _ => hq.block k hk⟩ (by simp [Value.ownBlock])) _)
        have CO := Lib.hid (fun (wq : World) (hq : Below wr.heap.size wr wq) => show ∃ y, wq.cell? ⟨w.heap.size, k + 1, none⟩ = some (.bool y) ∧ wq.frozen? ⟨w.heap.size, k + 1, none⟩ = false from by
          have ho := HO.out.kept (w' := wq) (row := none) ⟨hq.os, hq.tape, hq.output, hq.size, fun k hk _ => hq.block k hk⟩ (by simp [Value.ownBlock])
          have hi : k + 1 < (oneK sp but l v k).length := by rw [OL.out]; have := VL.out; omega
          exact ⟨_, (row_cell ho rfl).2.2 (k + 1) _ (by rw [List.getElem?_map, List.getElem?_eq_getElem hi]; rfl), row_free ho _⟩)
        generalize (l[k]'hlt) = c at cl HAS ST
        cases hvk : v[k]'hkv with
        | false =>
          rw [hvk] at cv
          have E : Hid (oneK sp but l v (k + 1) = (oneK sp but l v k).set (k + 1) false) := by show _ = _; rw [ST.out, hvk]; rfl
          obtain ⟨y, co, fo⟩ := CO.out wr (Below.refl _ _)
          clear hvk ST HAS
          go_wp2_with fail
          go_roundg (gk - 1)
          case measure => omega
          case rel => exact ⟨k + 1, by go_num, by omega, HB.out.setCell (Nat.le_refl _) _, HO1.out wr (Below.refl _ _) _ E.out⟩
        | true =>
          rw [hvk] at cv
          have E : Hid (oneK sp but l v (k + 1) = (oneK sp but l v k).set (k + 1) (hasS sp c != but)) := by show _ = _; rw [ST.out, hvk]; rfl
          clear hvk ST
          go_wp2_with fail
          refine HAS.out.mono ?_
          rintro e wq ⟨rfl, hq⟩
          obtain ⟨y, co, fo⟩ := CO.out wq hq
          have HQ := Lib.hid hq
          clear hq
          go_wp2_with fail
          go_roundg (gk - 1)
          case measure => omega
          case rel => exact ⟨k + 1, by go_num, by omega, ((HB.out.trans (HQ.out.mono HB.out.size)).setCell (Nat.le_refl _) _), HO1.out wq HQ.out _ E.out⟩
      · obtain rfl : k = l.length := by omega
        go_wp2_with fail
        go_ret
        exact OUT.out wr HO.out HB.out
end Go.Proofs.YtmbfpichaaanpaaGreatDoor
