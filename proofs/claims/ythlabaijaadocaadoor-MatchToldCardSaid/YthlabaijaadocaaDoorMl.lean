import Derived.Test.YthlabaijaadocaaDoorMk
/-! What a part's matches lead to: its functions, walked. -/
namespace Go.Proofs.YthlabaijaadocaaDoor
open Go.RowKit Ut Rx

/-- a part in block b that is one of spans -/
structure OneP (w : World) (b : Nat) (sp : List Span) (but : Bool) : Prop where
  part : ∃ v pl pv sg, w.heap[b]? = some (.cells #[.int .i64 0, v, .bool but, .bool pl, pv, .int .i32 sg] 108 (0, 0)) ∧ w.ownsRow 0 149 2 v sp.length (spC sp)

theorem spC_get (sp : List Span) (k : Nat) (hk : k < sp.length) : (spC sp)[k * 2]? = some (.int .i32 (sp[k]'hk).1) ∧ (spC sp)[k * 2 + 1]? = some (.int .i32 (sp[k]'hk).2) := by
  induction sp generalizing k with
  | nil => simp at hk
  | cons a t ih =>
    have e : spC (a :: t) = .int .i32 a.1 :: .int .i32 a.2 :: spC t := by unfold spC; simp [List.flatMap_cons]
    rw [e]
    cases k with
    | zero => exact ⟨rfl, rfl⟩
    | succ k =>
      have := ih k (by simpa using hk)
      have e1 : (k + 1) * 2 = k * 2 + 1 + 1 := by omega
      rw [e1]
      simpa using this
theorem row_cell {w : World} {base e size n : Nat} {v : Value} {xs : List Value} {g o : Nat} {m c : Nat} (h : w.ownsRow base e size v n xs) (hv : v = .slice (some ⟨g, o, none⟩) m c) : o = 0 ∧ m = n ∧ ∀ j u, xs[j]? = some u → w.cell? ⟨g, j, none⟩ = some u := by
  rcases h.2 with ⟨e1, _⟩ | ⟨g', cap, cur, e1, _⟩
  · rw [hv] at e1; cases e1
  · rw [hv] at e1
    cases e1
    refine ⟨rfl, rfl, fun j u hj => ?_⟩
    have := h.cells (g := g) (by rw [hv]; rfl) j u hj
    have hadd : (⟨g, 0, none⟩ : Addr).add j = ⟨g, j, none⟩ := by unfold Addr.add; split <;> simp_all
    rw [hadd] at this
    exact this
theorem row_kinds {w : World} {base e size n : Nat} {v : Value} {xs : List Value} (h : w.ownsRow base e size v n xs) : (v = .slice none 0 0 ∧ n = 0) ∨ ∃ g c, v = .slice (some ⟨g, 0, none⟩) n c ∧ n ≤ c := by
  rcases h.2 with h | ⟨g', cap, cur, e1, _, _, hc, _⟩
  · exact Or.inl h
  · exact Or.inr ⟨g', cap, e1, hc⟩

/-- has one of the first k? -/
def inB (sp : List Span) (c : Int) (k : Nat) : Bool := hasS (sp.take k) c
theorem inB_succ (sp : List Span) (c : Int) (k : Nat) (hk : k < sp.length) : inB sp c (k + 1) = (inB sp c k || (decide (c ≥ (sp[k]'hk).1) && decide (c ≤ (sp[k]'hk).2))) := by
  unfold inB hasS
  rw [List.take_succ_eq_append_getElem hk, List.any_append]
  simp
theorem inB_all (sp : List Span) (c : Int) : inB sp c sp.length = hasS sp c := by unfold inB; rw [List.take_length]
theorem inB_zero (sp : List Span) (c : Int) : inB sp c 0 = false := rfl

set_option maxRecDepth 100000 in
set_option maxHeartbeats 2000000 in
theorem has_any (b : Nat) (sp : List Span) (but : Bool) (c : Int) (w : World) (h : OneP w b sp but) (hlen : sp.length ≤ 4000000) :
    Calls Tryd.prog 91 #[.pointer (some ⟨b, 0, none⟩), .int .i32 c] w (BoolBelow w (hasS sp c != but)) := by
  obtain ⟨v, pl, pv, sg, hb, hown⟩ := h.part
  have lb := (Array.getElem?_eq_some_iff.1 hb).1
  have k1 : w.cell? ⟨b, 1, none⟩ = some v := by unfold World.cell?; rw [hb]; rfl
  have K2 : Hid (∀ w', Below w.heap.size w w' → w'.cell? ⟨b, 2, none⟩ = some (.bool but)) := fun w' hw => by
    rw [hw.cell (p := ⟨b, 2, none⟩) lb]; unfold World.cell?; rw [hb]; rfl
  rcases row_kinds hown with ⟨rfl, hn⟩ | ⟨g, cap, rfl, hcap⟩
  · obtain rfl : sp = [] := List.eq_nil_of_length_eq_zero hn
    have k2 := K2.out w (Below.refl _ _)
    clear hb hown h K2
    go_enter Tryd.func91, Tryd.ntmps91
    go_wp2_with fail
    go_loopg [5, 13] 0 (fun gk vin vk wr => vk = .int .i64 0 ∧ vin = .bool false ∧ wr = w)
    case atStart => exact ⟨rfl, rfl, rfl⟩
    case round =>
      obtain ⟨rfl, rfl, rfl⟩ := hrel
      go_wp2_with fail
      go_ret
      exact ⟨by cases but <;> rfl, Below.refl _ _⟩
  · have HC := Lib.hid (row_cell hown rfl).2.2
    clear hb hown h
    go_enter Tryd.func91, Tryd.ntmps91
    go_wp2_with fail
    go_loopg [5, 13] sp.length (fun gk vin vk wr => ∃ k : Nat, vk = .int .i64 k ∧ k + gk = sp.length ∧ vin = .bool (inB sp c k) ∧ Hid (Below w.heap.size w wr))
    case atStart => exact ⟨0, rfl, by omega, rfl, Below.refl _ _⟩
    case round =>
      obtain ⟨k, rfl, hk, rfl, HW⟩ := hrel
      by_cases hlt : k < sp.length
      · obtain ⟨e1, e2⟩ := spC_get sp k hlt
        have lg := World.block_lt_of_cell? w _ (HC.out _ _ e1)
        have c1 : wr.cell? ⟨g, k * 2, none⟩ = some (.int .i32 (sp[k]'hlt).1) := (HW.out.cell (p := ⟨g, k * 2, none⟩) lg).trans (HC.out _ _ e1)
        have c2 : wr.cell? ⟨g, k * 2 + 1, none⟩ = some (.int .i32 (sp[k]'hlt).2) := (HW.out.cell (p := ⟨g, k * 2 + 1, none⟩) lg).trans (HC.out _ _ e2)
        have S := Lib.hid (inB_succ sp c k hlt)
        generalize (sp[k]'hlt).1 = lo at c1 S
        generalize (sp[k]'hlt).2 = hi at c2 S
        clear e1 e2 k1
        cases hin : inB sp c k with
        | true =>
          have S2 : Hid (inB sp c (k + 1) = true) := by show _ = _; rw [S.out, hin]; rfl
          clear hin S
          go_wp2_with fail
          go_roundg (gk - 1)
          case measure => omega
          case rel => exact ⟨k + 1, by go_num, by omega, by rw [S2.out], HW.out.alloc HW.out.size _⟩
        | false =>
          by_cases h1 : lo ≤ c
          · by_cases h2 : c ≤ hi
            · have S2 : Hid (inB sp c (k + 1) = true) := by show _ = _; rw [S.out, hin, decide_eq_true h1, decide_eq_true h2]; rfl
              clear hin S
              go_wp2_with fail
              go_roundg (gk - 1)
              case measure => omega
              case rel => exact ⟨k + 1, by go_num, by omega, by rw [S2.out], HW.out.alloc HW.out.size _⟩
            · have S2 : Hid (inB sp c (k + 1) = false) := by show _ = _; rw [S.out, hin, decide_eq_false h2]; simp
              have h2d : decide (c ≤ hi) = false := by simpa using h2
              clear hin S
              go_wp2_with fail
              go_roundg (gk - 1)
              case measure => omega
              case rel => exact ⟨k + 1, by go_num, by omega, by rw [S2.out], HW.out.alloc HW.out.size _⟩
          · have S2 : Hid (inB sp c (k + 1) = false) := by show _ = _; rw [S.out, hin, decide_eq_false (show ¬ c ≥ lo from h1)]; rfl
            have h1d : decide (lo ≤ c) = false := by simpa using h1
            clear hin S
            go_wp2_with fail
            go_roundg (gk - 1)
            case measure => omega
            case rel => exact ⟨k + 1, by go_num, by omega, by rw [S2.out], HW.out.alloc HW.out.size _⟩
      · obtain rfl : k = sp.length := by omega
        have k2 := K2.out wr HW.out
        have e := Lib.hid (inB_all sp c)
        go_wp2_with fail
        go_ret
        rw [← e.out]
        exact ⟨rfl, HW.out⟩
end Go.Proofs.YthlabaijaadocaaDoor
