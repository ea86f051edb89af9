import Derived.Test.YthlabaijaadocaaDoorMl
/-! Places joined to others. -/
namespace Go.Proofs.YthlabaijaadocaaDoor
open Go.RowKit Ut Rx

theorem row_set {w : World} {base e n g cap k : Nat} {xs : List Value} (h : w.ownsRow base e 1 (.slice (some ⟨g, 0, none⟩) n cap) n xs) (u : Value) :
    (w.setCell ⟨g, k, none⟩ u).ownsRow base e 1 (.slice (some ⟨g, 0, none⟩) n cap) n (xs.set k u) := by
  refine ⟨by rw [List.length_set]; exact h.1, ?_⟩
  rcases h.2 with ⟨e1, _⟩ | ⟨g', cap', cur, e1, hb, hg, hc, hm, hs, ht⟩
  · cases e1
  · cases e1
    refine Or.inr ⟨g, cap, cur.setIfInBounds k u, rfl, hb, ?_, hc, hm, by simpa using hs, ?_⟩
    · unfold World.setCell
      simp only [Array.getElem?_modify, ↓reduceIte, hg, Option.map_some]
      rfl
    · rw [Array.toList_setIfInBounds, List.take_set, ht]
theorem row_free {w : World} {base e size n g cap : Nat} {xs : List Value} (h : w.ownsRow base e size (.slice (some ⟨g, 0, none⟩) n cap) n xs) (k : Nat) : w.frozen? ⟨g, k, none⟩ = false := by
  rcases h.2 with ⟨e1, _⟩ | ⟨g', cap', cur, e1, hb, hg, _⟩
  · cases e1
  · cases e1
    unfold World.frozen?; rw [hg]; simp

/-- b's first k places added to a -/
def orK (a b : List Bool) (k : Nat) : List Bool := List.zipWith (fun x y => x || y) (a.take k) (b.take k) ++ a.drop k
theorem orK_zero (a b : List Bool) : orK a b 0 = a := by simp [orK]
theorem orK_all {a b : List Bool} (h : a.length = b.length) : orK a b a.length = orF a b := by
  unfold orK orF
  rw [List.take_length, List.drop_length, h, List.take_length, List.append_nil]
theorem orK_length {a b : List Bool} (h : a.length = b.length) (k : Nat) : (orK a b k).length = a.length := by
  unfold orK
  simp; omega
theorem orK_succ {a b : List Bool} (h : a.length = b.length) {k : Nat} (hk : k < a.length) : orK a b (k + 1) = (orK a b k).set k (a[k] || b[k]'(by omega)) := by
  have hb : k < b.length := by omega
  unfold orK
  rw [List.take_succ_eq_append_getElem hk, List.take_succ_eq_append_getElem hb, List.zipWith_append (by simp; omega)]
  have hz : (List.zipWith (fun x y => x || y) (a.take k) (b.take k)).length = k := by simp; omega
  rw [List.set_append_right _ _ (by omega), hz, Nat.sub_self, List.drop_eq_getElem_cons hk, List.set_cons_zero, List.append_assoc]
  rfl
theorem orK_get {a b : List Bool} (h : a.length = b.length) {k : Nat} (hk : k < a.length) : (orK a b k)[k]? = some a[k] := by
  unfold orK
  have hz : (List.zipWith (fun x y => x || y) (a.take k) (b.take k)).length = k := by simp; omega
  rw [List.getElem?_append_right (by omega), hz, Nat.sub_self, List.drop_eq_getElem_cons hk]
  simp
theorem orK_same {a b : List Bool} (h : a.length = b.length) {k : Nat} (hk : k < a.length) (hn : (a[k] || b[k]'(by omega)) = a[k]) : orK a b (k + 1) = orK a b k := by
  rw [orK_succ h hk, hn]
  have hg := orK_get h hk
  obtain ⟨h1, h2⟩ := List.getElem?_eq_some_iff.1 hg
  rw [← h2, List.set_getElem_self]
theorem orK_more {a b : List Bool} (h : a.length = b.length) : ∀ k, k ≤ a.length → ((∃ j, ∃ h1 : j < a.length, j < k ∧ a[j] = false ∧ b[j]'(by omega) = true) ↔ orK a b k ≠ a) := by
  intro k
  induction k with
  | zero => intro _; rw [orK_zero]; simp
  | succ k ih =>
    intro hk
    have hk' : k < a.length := by omega
    have ih' := ih (by omega)
    cases hab : (a[k] || b[k]'(by omega)) == a[k] with
    | true =>
      have hab' := eq_of_beq hab
      rw [orK_same h hk' hab', ← ih']
      constructor
      · rintro ⟨j, h1, h2, h3, h4⟩
        refine ⟨j, h1, ?_, h3, h4⟩
        rcases Nat.lt_or_ge j k with h5 | h5
        · exact h5
        · obtain rfl : j = k := by omega
          rw [h3, h4] at hab'; cases hab'
      · rintro ⟨j, h1, h2, h3, h4⟩
        exact ⟨j, h1, by omega, h3, h4⟩
    | false =>
      have hak : a[k] = false ∧ b[k]'(by omega) = true := by
        cases ha : a[k] <;> cases hb : b[k]'(by omega) <;> simp_all
      constructor
      · intro _ e
        have := congrArg (fun l => l[k]?) e
        rw [orK_succ h hk'] at this
        simp only [List.getElem?_set_self (show k < (orK a b k).length by rw [orK_length h]; exact hk'), List.getElem?_eq_getElem hk', hak.1, hak.2] at this
        cases this
      · intro _
        exact ⟨k, hk', by omega, hak⟩

def JoinPost (w : World) (T : Nat) (tv : Value) (a b : List Bool) (e : Ending) (w' : World) : Prop :=
  e = .returned (.bool (decide (orF a b ≠ a))) ∧ w'.ownsRow 0 4 1 tv a.length ((orF a b).map Value.bool) ∧ w.grownBy w' (some T)

set_option maxRecDepth 100000 in
set_option maxHeartbeats 2000000 in
theorem join_any (T ct : Nat) (lv : Value) (a b : List Bool) (w : World) (ha : w.ownsRow 0 4 1 (.slice (some ⟨T, 0, none⟩) a.length ct) a.length (a.map Value.bool))
    (hb : w.ownsRow 0 4 1 lv b.length (b.map Value.bool)) (hne : lv.ownBlock ≠ some T) (hl : a.length = b.length) (hlen : a.length ≤ 4000000) :
    Calls Tryd.prog 92 #[.slice (some ⟨T, 0, none⟩) a.length ct, lv] w (JoinPost w T (.slice (some ⟨T, 0, none⟩) a.length ct) a b) := by
  have HA := Lib.hid ha
  have HL := Lib.hid hl
  have HN := Lib.hid hne
  have lT := (ha.lt T rfl).2
  rcases row_kinds hb with ⟨rfl, hn⟩ | ⟨g, cap, rfl, hcap⟩
  · obtain rfl : b = [] := List.eq_nil_of_length_eq_zero hn
    obtain rfl : a = [] := List.eq_nil_of_length_eq_zero (by rw [hl]; rfl)
    clear ha hb hl hne
    go_enter Tryd.func92, Tryd.ntmps92
    go_wp2_with fail
    go_loopg [5, 10] 0 (fun gk vin vk wr => vk = .int .i64 0 ∧ vin = .bool false ∧ wr = w)
    case atStart => exact ⟨rfl, rfl, rfl⟩
    case round =>
      obtain ⟨rfl, rfl, rfl⟩ := hrel
      go_wp2_with fail
      go_ret
      exact ⟨rfl, HA.out, grown_refl _ _⟩
  · have HB := Lib.hid (row_cell hb rfl).2.2
    have hgT : g ≠ T := fun e => hne (by rw [e]; rfl)
    clear ha hb hl hne HN
    go_enter Tryd.func92, Tryd.ntmps92
    go_wp2_with fail
    go_loopg [5, 10] b.length (fun gk vin vk wr => ∃ (k : Nat) (m : Bool), vk = .int .i64 k ∧ k + gk = b.length ∧ vin = .bool m ∧ Hid (m = decide (orK a b k ≠ a)) ∧ Hid (w.grownBy wr (some T)) ∧ Hid (wr.ownsRow 0 4 1 (.slice (some ⟨T, 0, none⟩) a.length ct) a.length ((orK a b k).map Value.bool)))
    case atStart => exact ⟨0, false, rfl, by omega, rfl, by show _ = _; rw [orK_zero]; simp, grown_refl _ _, by show World.ownsRow _ _ _ _ _ _ _; rw [orK_zero]; exact HA.out⟩
    case round =>
      obtain ⟨k, m, rfl, hk, rfl, HM, HG, HO⟩ := hrel
      by_cases hlt : k < b.length
      · have hka : k < a.length := by rw [HL.out]; exact hlt
        have cb : wr.cell? ⟨g, k, none⟩ = some (.bool (b[k]'hlt)) := HG.out.cell (HB.out k _ (by rw [List.getElem?_map, List.getElem?_eq_getElem hlt]; rfl)) (fun e => hgT (Option.some.inj e))
        have ca : wr.cell? ⟨T, k, none⟩ = some (.bool (a[k]'hka)) := (row_cell HO.out rfl).2.2 k _ (by rw [List.getElem?_map, orK_get HL.out hka]; rfl)
        have fa := row_free HO.out k
        have SS := Lib.hid (fun h => orK_same (b := b) HL.out hka h)
        have SU := Lib.hid (orK_succ (b := b) HL.out hka)
        have MM := Lib.hid (orK_more (b := b) HL.out (k + 1) (by omega))
        have hk64 : (k : Int) < a.length := by omega
        cases hbk : b[k]'hlt with
        | false =>
          have E : Hid (orK a b (k + 1) = orK a b k) := SS.out (by rw [hbk]; simp)
          rw [hbk] at cb
          clear hbk SS SU MM
          go_wp2_with fail
          go_roundg (gk - 1)
          case measure => omega
          case rel => exact ⟨k + 1, m, by go_num, by omega, rfl, by show _ = _; rw [E.out]; exact HM.out, HG, by show World.ownsRow _ _ _ _ _ _ _; rw [E.out]; exact HO.out⟩
        | true =>
          rw [hbk] at cb
          cases hak : a[k]'hka with
          | true =>
            have E : Hid (orK a b (k + 1) = orK a b k) := SS.out (by rw [hak]; rfl)
            rw [hak] at ca
            clear hbk hak SS SU MM
            go_wp2_with fail
            go_roundg (gk - 1)
            case measure => omega
            case rel => exact ⟨k + 1, m, by go_num, by omega, rfl, by show _ = _; rw [E.out]; exact HM.out, HG, by show World.ownsRow _ _ _ _ _ _ _; rw [E.out]; exact HO.out⟩
          | false =>
            have E : Hid (orK a b (k + 1) = (orK a b k).set k true) := by show _ = _; rw [SU.out, hak, hbk]; rfl
            have E2 : Hid (orK a b (k + 1) ≠ a) := MM.out.1 ⟨k, hka, by omega, hak, hbk⟩
            rw [hak] at ca
            clear hbk hak SS SU MM
            go_wp2_with fail
            go_roundg (gk - 1)
            case measure => omega
            case rel => exact ⟨k + 1, true, by go_num, by omega, rfl, by show _ = _; rw [decide_eq_true E2.out], grown_trans HG.out (grown_setCell _ _ _ _), by
              show World.ownsRow _ _ _ _ _ _ _
              rw [E.out, List.map_set]
              exact row_set HO.out _⟩
      · obtain rfl : k = b.length := by omega
        have E : Hid (orK a b b.length = orF a b) := by show _ = _; rw [← HL.out]; exact orK_all HL.out
        go_wp2_with fail
        go_ret
        have e1 := HM.out
        have e2 := HO.out
        rw [E.out] at e1 e2
        rw [e1]
        exact ⟨rfl, e2, HG.out⟩
end Go.Proofs.YthlabaijaadocaaDoor
