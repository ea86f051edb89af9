import Derived.Test.YthhbbmebfmfgjaaGreatDoorPvH
import Derived.Test.YthhbbmebfmfgjaaGreatDoorPBx5
/-! EvalGrows: plain law. -/
namespace Go.Proofs.YthhbbmebfmfgjaaGreatDoor.PB
open Go.RowKit Go.Proofs.YthhbbmebfmfgjaaGreatDoorW.PrintWords Go.Proofs.YthhbbmebfmfgjaaGreatDoorW.PrintLast

theorem live2_20 : manometerlaw27_live.f 20 = some true := by kernel_rfl
theorem live2_some {k : Nat} (hk : 20 ≤ k) : manometerlaw27_live.f k = some true := by
  induction hk with
  | refl => exact live2_20
  | step _ ih => exact manometerlaw27_live.mono _ _ ih

theorem right_loop (l : List S44) (hl : l.length ≤ 200) : ∀ (m k : Nat) (i : Int), 0 ≤ i → i ≤ l.length → ((l.length : Int) - i).toNat ≤ m → m < k → ∃ r, manometerref09_Right.l0 k l l l.length i = some r := by
  intro m
  induction m with
  | zero =>
    intro k i h0 h1 hm hk
    obtain ⟨k, rfl⟩ : ∃ q, k = q + 1 := ⟨k - 1, by omega⟩
    rw [manometerref09_Right.l0]
    rw [if_neg (by omega)]
    exact ⟨_, rfl⟩
  | succ m ih =>
    intro k i h0 h1 hm hk
    obtain ⟨k, rfl⟩ : ∃ q, k = q + 1 := ⟨k - 1, by omega⟩
    rw [manometerref09_Right.l0]
    by_cases hi : i < l.length
    · have e2 : wrap64 (i + 1) = i + 1 := wrap64_of (by omega) (by omega)
      have e1 : wrap64 (i - 1) = i - 1 := wrap64_of (by omega) (by omega)
      have next := ih k (i + 1) (by omega) (by omega) (by omega) (by omega)
      rw [if_pos hi, if_pos h0, if_pos hi, e1, e2]
      split
      · exact ⟨_, rfl⟩
      · split
        · rw [if_pos (by omega), if_pos (by omega)]
          split
          · exact ⟨_, rfl⟩
          · exact next
        · exact next
    · rw [if_neg hi]
      exact ⟨_, rfl⟩
theorem right_some (l : List S44) (hl : l.length ≤ 200) (k : Nat) (hk : 200 < k) : ∃ r, manometerref09_Right.f k l = some r :=
  right_loop l hl 200 k 0 (by omega) (by omega) (by omega) hk

theorem window_loop (t w : Int) (l : List S44) (hl : l.length ≤ 200) : ∀ (m k : Nat) (acc : List S44) (i : Int), 0 ≤ i → i ≤ l.length → acc.length ≤ i.toNat → ((l.length : Int) - i).toNat ≤ m → m < k → ∃ r, manometerref09_Window.l0 k t w acc l l.length i = some r := by
  intro m
  induction m with
  | zero =>
    intro k acc i h0 h1 ha hm hk
    obtain ⟨k, rfl⟩ : ∃ q, k = q + 1 := ⟨k - 1, by omega⟩
    rw [manometerref09_Window.l0]
    rw [if_neg (by omega)]
    exact ⟨_, rfl⟩
  | succ m ih =>
    intro k acc i h0 h1 ha hm hk
    obtain ⟨k, rfl⟩ : ∃ q, k = q + 1 := ⟨k - 1, by omega⟩
    rw [manometerref09_Window.l0]
    by_cases hi : i < l.length
    · have e2 : wrap64 (i + 1) = i + 1 := wrap64_of (by omega) (by omega)
      rw [if_pos hi, if_pos h0, if_pos hi, e2]
      have next := ih k acc (i + 1) (by omega) (by omega) (by omega) (by omega) (by omega)
      split
      · split
        · rw [if_pos (by omega)]
          exact ih k _ (i + 1) (by omega) (by omega) (by rw [List.length_append]; simp; omega) (by omega) (by omega)
        · exact next
      · exact next
    · rw [if_neg hi]
      exact ⟨_, rfl⟩
theorem window_some (t w : Int) (l : List S44) (hl : l.length ≤ 200) (k : Nat) (hk : 200 < k) : ∃ r, manometerref09_Window.f k l t w = some r :=
  window_loop t w l hl 200 k [] 0 (by omega) (by omega) (by simp) (by omega) hk

theorem evalGrows_pure (fn : Int) (l : List S44) (t w : Int) (hw : (l.map S44.f1).all word = true) : ∃ k, manometerlaw27_EvalGrows.f k fn l t w = some true := by
  refine ⟨301, ?_⟩
  have jt : manometerlaw27_EvalGrows.j0 301 fn l t w true = some true := by
    rw [show (301 : Nat) = 300 + 1 from rfl, manometerlaw27_EvalGrows.j0]
    rw [if_pos rfl, live2_some (by omega), Option.bind_some]
  unfold manometerlaw27_EvalGrows.f
  rw [live2_some (by omega), Option.bind_some, if_pos rfl]
  by_cases h : (l.length : Int) > 200
  · rw [if_pos h]; exact jt
  · rw [if_neg h]
    have jf : manometerlaw27_EvalGrows.j0 301 fn l t w false = some true := by
      rw [show (301 : Nat) = 300 + 1 from rfl, manometerlaw27_EvalGrows.j0]
      obtain ⟨r, h1, h2⟩ := grown_same fn l t w hw (by omega)
      rw [if_neg (by decide), h1, Option.bind_some, h2, Option.bind_some, if_pos rfl]
      simp
    have ja : ∀ c, manometerlaw27_EvalGrows.j0 301 fn l t w c = some true := by
      intro c
      cases c
      · exact jf
      · exact jt
    obtain ⟨r1, e1⟩ := right_some l (by omega) 301 (by omega)
    obtain ⟨r2, e2⟩ := window_some t w l (by omega) 301 (by omega)
    rw [e1, Option.bind_some]
    split
    · rw [e2, Option.bind_some]; exact ja _
    · exact jt
end Go.Proofs.YthhbbmebfmfgjaaGreatDoor.PB
