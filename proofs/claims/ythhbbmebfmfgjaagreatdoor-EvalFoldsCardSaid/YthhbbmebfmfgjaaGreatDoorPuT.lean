import Derived.Test.YthhbbmebfmfgjaaGreatDoorPAx1
/-! The times of a query: plain law. -/
namespace Go.Proofs.YthhbbmebfmfgjaaGreatDoor.PA
open Go.RowKit Go.Proofs.YthhbbmebfmfgjaaGreatDoorW.PrintWords Go.Proofs.YthhbbmebfmfgjaaGreatDoorW.PrintLast

theorem times_same : ∀ k, (∀ a b c d e, manometerref27_Times.j0 k a b c d e = eval_Times.j0 k a b c d e) ∧ (∀ a b c d e f g, manometerref27_Times.l0 k a b c d e f g = eval_Times.l0 k a b c d e f g)
  | 0 => ⟨fun _ _ _ _ _ => by simp only [manometerref27_Times.j0, eval_Times.j0], fun _ _ _ _ _ _ _ => by simp only [manometerref27_Times.l0, eval_Times.l0]⟩
  | k + 1 => by
    obtain ⟨h1, h2⟩ := times_same k
    constructor
    · intro a b c d e
      simp only [manometerref27_Times.j0, eval_Times.j0, h2]
    · intro a b c d e f g
      simp only [manometerref27_Times.l0, eval_Times.l0, h2]
theorem times_eq (k : Nat) (a b c d : Int) : manometerref27_Times.f k a b c d = eval_Times.f k a b c d := by
  unfold manometerref27_Times.f eval_Times.f
  simp only [(times_same k).1]

theorem times_loop (n : Int) (hn : n ≤ 1000) (a b c d : Int) : ∀ (m k : Nat) (l : List Int) (i : Int), 0 ≤ i → i ≤ n → l.length = i.toNat → (n - i).toNat ≤ m → m < k → ∃ r : List Int, eval_Times.l0 k l n i a b c d = some (r, 0) ∧ r.length ≤ 1000 := by
  intro m
  induction m with
  | zero =>
    intro k l i h0 h1 hl hm hk
    obtain ⟨k, rfl⟩ : ∃ q, k = q + 1 := ⟨k - 1, by omega⟩
    simp only [eval_Times.l0]
    rw [if_neg (by omega)]
    exact ⟨l, rfl, by omega⟩
  | succ m ih =>
    intro k l i h0 h1 hl hm hk
    obtain ⟨k, rfl⟩ : ∃ q, k = q + 1 := ⟨k - 1, by omega⟩
    simp only [eval_Times.l0]
    by_cases hi : i < n
    · rw [if_pos hi, if_pos (by omega)]
      have hw : IntKind.u64.wrap (i + 1) = i + 1 := by
        simp [IntKind.wrap, IntKind.bits, IntKind.signed]
        omega
      rw [hw]
      exact ih k _ (i + 1) (by omega) (by omega) (by rw [List.length_append]; simp; omega) (by omega) (by omega)
    · rw [if_neg hi]
      exact ⟨l, rfl, by omega⟩

theorem times_total (a b c d : Int) : ∃ (r : List Int) (e : Int), r.length ≤ 1000 ∧ ∀ k, 1005 ≤ k → eval_Times.f k a b c d = some (r, e) := by
  have mono : ∀ {r : List Int × Int} {k q : Nat}, eval_Times.f k a b c d = some r → k ≤ q → eval_Times.f q a b c d = some r := by
    intro r k q h hq
    induction hq with
    | refl => exact h
    | step _ ih => exact eval_Times.mono _ _ _ _ _ _ ih
  have key : ∃ (r : List Int) (e : Int), r.length ≤ 1000 ∧ eval_Times.f 1005 a b c d = some (r, e) := by
    unfold eval_Times.f
    have hj : ∀ t, (c = 0 → t = true) → ∃ (r : List Int) (e : Int), r.length ≤ 1000 ∧ eval_Times.j0 1005 t a b c d = some (r, e) := by
      intro t ht
      rw [show (1005 : Nat) = 1004 + 1 from rfl]
      simp only [eval_Times.j0]
      by_cases h1 : t = true
      · rw [if_pos h1]; exact ⟨[], 1, by simp, rfl⟩
      · rw [if_neg h1, if_neg (fun h => h1 (ht h))]
        have hn : 0 ≤ IntKind.u64.wrap (Int.tdiv (IntKind.u64.wrap (IntKind.u64.wrap b - IntKind.u64.wrap a)) c) := by
          generalize Int.tdiv (IntKind.u64.wrap (IntKind.u64.wrap b - IntKind.u64.wrap a)) c = q
          simp [IntKind.wrap, IntKind.bits, IntKind.signed]
          omega
        generalize IntKind.u64.wrap (Int.tdiv (IntKind.u64.wrap (IntKind.u64.wrap b - IntKind.u64.wrap a)) c) = n at *
        by_cases h2 : n ≥ 1000
        · rw [if_pos h2]; exact ⟨[], 3, by simp, rfl⟩
        · rw [if_neg h2]
          have hw : IntKind.u64.wrap (n + 1) = n + 1 := by
            simp [IntKind.wrap, IntKind.bits, IntKind.signed]
            omega
          rw [hw]
          obtain ⟨r, h, hl⟩ := times_loop (n + 1) (by omega) a b c d 1001 1004 [] 0 (by omega) (by omega) rfl (by omega) (by omega)
          exact ⟨r, 0, hl, h⟩
    by_cases hc : c = 0
    · rw [if_pos hc]; exact hj true (fun _ => rfl)
    · rw [if_neg hc]; exact hj _ (fun h => absurd h hc)
  obtain ⟨r, e, hr, h⟩ := key
  exact ⟨r, e, hr, fun k hk => mono h hk⟩
end Go.Proofs.YthhbbmebfmfgjaaGreatDoor.PA
