import Derived.Test.YthhbbmebfmfgjaaGreatDoorPCx6
/-! EvalTurned: plain law. -/
namespace Go.Proofs.YthhbbmebfmfgjaaGreatDoor.PC
open Go.RowKit Go.Proofs.YthhbbmebfmfgjaaGreatDoorW.PrintWords Go.Proofs.YthhbbmebfmfgjaaGreatDoorW.PrintLast

theorem live4_20 : manometerlaw27_live.f 20 = some true := by kernel_rfl
theorem live4_some {k : Nat} (hk : 20 ≤ k) : manometerlaw27_live.f k = some true := by
  induction hk with
  | refl => exact live4_20
  | step _ ih => exact manometerlaw27_live.mono _ _ ih

theorem short_loop (x0 y : List S128) : ∀ (m k : Nat) (i : Int), 0 ≤ i → i ≤ y.length → y.length ≤ 20 → ((y.length : Int) - i).toNat ≤ m → m < k → ∃ b, manometerlaw27_short.l0 k x0 y y.length i = some b ∧ (b = true → x0.length ≤ 20) := by
  intro m
  induction m with
  | zero =>
    intro k i h0 h1 hb hm hk
    obtain ⟨k, rfl⟩ : ∃ q, k = q + 1 := ⟨k - 1, by omega⟩
    simp only [manometerlaw27_short.l0]
    rw [if_neg (by omega)]
    exact ⟨_, rfl, fun h => by have := of_decide_eq_true h; omega⟩
  | succ m ih =>
    intro k i h0 h1 hb hm hk
    obtain ⟨k, rfl⟩ : ∃ q, k = q + 1 := ⟨k - 1, by omega⟩
    simp only [manometerlaw27_short.l0]
    by_cases hi : i < y.length
    · have hw : wrap64 (i + 1) = i + 1 := by unfold wrap64; omega
      rw [if_pos hi, if_pos h0, if_pos hi, hw]
      split
      · exact ⟨_, rfl, fun h => by cases h⟩
      · exact ih k (i + 1) (by omega) (by omega) hb (by omega) (by omega)
    · rw [if_neg hi]
      exact ⟨_, rfl, fun h => by have := of_decide_eq_true h; omega⟩

theorem short_val (l : List S128) (k : Nat) (hk : 20 < k) : ∃ b, manometerlaw27_short.f k l = some b ∧ (b = true → l.length ≤ 20) := by
  unfold manometerlaw27_short.f
  rw [if_pos (by unfold mn; omega), if_pos (by unfold mn; omega)]
  simp only [Option.bind_some]
  have hl : (l.take (mn (l.length : Int) 20).toNat).length ≤ 20 := by rw [List.length_take]; unfold mn; omega
  exact short_loop l _ 20 k 0 (by omega) (by omega) hl (by omega) hk

theorem few_loop (x0 y : List S33) : ∀ (m k : Nat) (i : Nat), i ≤ y.length → y.length ≤ 24 → y.length - i ≤ m → m + 21 < k →
    ∃ b, manometerlaw27_few.l0 k x0 y y.length (i : Int) = some b ∧ (b = true → x0.length ≤ 24 ∧ ∀ j, i ≤ j → (hj : j < y.length) → (y[j]).f0.length ≤ 20) := by
  intro m
  induction m with
  | zero =>
    intro k i h1 hb hm hk
    obtain ⟨k, rfl⟩ : ∃ q, k = q + 1 := ⟨k - 1, by omega⟩
    simp only [manometerlaw27_few.l0]
    rw [if_neg (by omega)]
    exact ⟨_, rfl, fun h => ⟨by have := of_decide_eq_true h; omega, fun j h2 h3 => by omega⟩⟩
  | succ m ih =>
    intro k i h1 hb hm hk
    obtain ⟨k, rfl⟩ : ∃ q, k = q + 1 := ⟨k - 1, by omega⟩
    simp only [manometerlaw27_few.l0]
    by_cases hi : i < y.length
    · have hw : wrap64 ((i : Int) + 1) = ((i + 1 : Nat) : Int) := by unfold wrap64; omega
      have hr : rd_T33 y (i : Int) = y[i] := by unfold rd_T33; simp [List.getD_eq_getElem?_getD, hi]
      obtain ⟨b, e, hb2⟩ := short_val (y[i]).f0 k (by omega)
      rw [if_pos (by omega), if_pos (by omega), if_pos (by omega), hw, hr, e, Option.bind_some]
      cases b with
      | false => exact ⟨_, rfl, fun h => by cases h⟩
      | true =>
        rw [if_pos rfl]
        obtain ⟨b, e, h⟩ := ih k (i + 1) (by omega) hb (by omega) (by omega)
        refine ⟨b, e, fun hb => ⟨(h hb).1, fun j h2 h3 => ?_⟩⟩
        by_cases hij : j = i
        · subst hij; exact hb2 rfl
        · exact (h hb).2 j (by omega) h3
    · rw [if_neg (by omega)]
      exact ⟨_, rfl, fun h => ⟨by have := of_decide_eq_true h; omega, fun j h2 h3 => by omega⟩⟩

theorem few_val (l : List S33) (k : Nat) (hk : 50 < k) : ∃ b, manometerlaw27_few.f k l = some b ∧ (b = true → l.length ≤ 24 ∧ ∀ x ∈ l, x.f0.length ≤ 20) := by
  unfold manometerlaw27_few.f
  rw [if_pos (by unfold mn; omega), if_pos (by unfold mn; omega)]
  simp only [Option.bind_some]
  have hl : (l.take (mn (l.length : Int) 24).toNat).length ≤ 24 := by rw [List.length_take]; unfold mn; omega
  obtain ⟨b, e, h⟩ := few_loop l (l.take (mn (l.length : Int) 24).toNat) 24 k 0 (by omega) hl (by omega) (by omega)
  refine ⟨b, e, fun hb => ⟨(h hb).1, fun x hx => ?_⟩⟩
  obtain ⟨h1, h2⟩ := h hb
  rw [List.take_of_length_le (by unfold mn; omega)] at h2
  obtain ⟨j, hj, rfl⟩ := List.getElem_of_mem hx
  exact h2 j (by omega) hj

theorem same5_refl (l : List S128) (hb : l.length ≤ 1000) : ∀ (m k i : Nat), i ≤ l.length → l.length - i ≤ m → m < k → manometerref05_Same.l0 k l l (l.length : Int) (i : Int) = some true := by
  intro m
  induction m with
  | zero =>
    intro k i hi hm hk
    obtain ⟨k, rfl⟩ : ∃ q, k = q + 1 := ⟨k - 1, by omega⟩
    simp only [manometerref05_Same.l0]
    rw [if_neg (by omega)]
  | succ m ih =>
    intro k i hi hm hk
    obtain ⟨k, rfl⟩ : ∃ q, k = q + 1 := ⟨k - 1, by omega⟩
    simp only [manometerref05_Same.l0]
    by_cases hlt : i < l.length
    · have hw : wrap64 ((i : Int) + 1) = ((i + 1 : Nat) : Int) := by unfold wrap64; omega
      rw [if_pos (by omega), if_pos (by omega), if_pos (by omega), if_pos (by omega), if_neg (by simp), hw]
      exact ih k (i + 1) (by omega) (by omega) (by omega)
    · rw [if_neg (by omega)]

theorem same27_refl (l : List S33) (hb : l.length ≤ 1000) (hx : ∀ x ∈ l, x.f0.length ≤ 1000) : ∀ (m k i : Nat), i ≤ l.length → l.length - i ≤ m → m + 1001 < k → manometerref27_Same.l0 k l l (l.length : Int) (i : Int) = some true := by
  intro m
  induction m with
  | zero =>
    intro k i hi hm hk
    obtain ⟨k, rfl⟩ : ∃ q, k = q + 1 := ⟨k - 1, by omega⟩
    simp only [manometerref27_Same.l0]
    rw [if_neg (by omega)]
  | succ m ih =>
    intro k i hi hm hk
    obtain ⟨k, rfl⟩ : ∃ q, k = q + 1 := ⟨k - 1, by omega⟩
    simp only [manometerref27_Same.l0]
    by_cases hlt : i < l.length
    · have hw : wrap64 ((i : Int) + 1) = ((i + 1 : Nat) : Int) := by unfold wrap64; omega
      have hr : rd_T33 l (i : Int) = l[i] := by unfold rd_T33; simp [List.getD_eq_getElem?_getD, hlt]
      have hs : manometerref05_Same.f k (l[i]).f0 (l[i]).f0 = some true := by
        unfold manometerref05_Same.f
        rw [if_pos rfl]
        have h1 := hx _ (List.getElem_mem hlt)
        exact same5_refl _ h1 (l[i]).f0.length k 0 (by omega) (by omega) (by omega)
      rw [if_pos (by omega), if_pos (by omega), if_pos (by omega), if_pos (by omega), if_pos trivial, hr, hs, Option.bind_some, if_pos rfl, hw]
      exact ih k (i + 1) (by omega) (by omega) (by omega)
    · rw [if_neg (by omega)]

theorem same27_self (l : List S33) (hb : l.length ≤ 1000) (hx : ∀ x ∈ l, x.f0.length ≤ 1000) (k : Nat) (hk : l.length + 1001 < k) : manometerref27_Same.f k l l = some true := by
  unfold manometerref27_Same.f
  rw [if_pos rfl]
  exact same27_refl l hb hx l.length k 0 (by omega) (by omega) hk

theorem sort_val (l : List S33) (hb : l.length ≤ 24) (hx : ∀ x ∈ l, x.f0.length ≤ 20) : eval_Sort.f l = some ((ordV l).1, if (ordV l).2 = true then 0 else 52) := by
  unfold eval_Sort.f
  rw [if_pos]
  simp only [Bool.and_eq_true, decide_eq_true_eq, List.all_eq_true]
  exact ⟨by omega, fun x h => by have := hx x h; omega⟩

/-- what the law asks behind its loop -/
theorem turned_end (x0 t : List S33) (hp : t.Perm x0) (hb : x0.length ≤ 24) (hx : ∀ x ∈ x0, x.f0.length ≤ 20) (k : Nat) (hk : 1100 < k) :
    ((eval_Sort.f x0).bind fun bt170 => ((eval_Sort.f t).bind fun bt174 => ((eval_Sort.f bt170.1).bind fun bt178 => (if bt170.2 = bt174.2 then ((manometerref27_Same.f k bt170.1 bt174.1).bind fun t182 => (if t182 = true then (if bt178.2 = 0 then ((manometerref27_Same.f k bt170.1 bt178.1).bind fun t183 => (if t183 = true then (if bt170.2 = 52 then (if (bt170.1.length : Int) = 0 then (some true) else (if bt170.2 = 0 then (some ((bt170.1.length : Int) == (x0.length : Int))) else (some false))) else (if bt170.2 = 0 then (some ((bt170.1.length : Int) == (x0.length : Int))) else (some false))) else (some false))) else (some false)) else (some false))) else (some false)))) : Option Bool) = some true := by
  have hbt : t.length ≤ 24 := by rw [hp.length_eq]; exact hb
  have hxt : ∀ x ∈ t, x.f0.length ≤ 20 := fun x h => hx x (hp.mem_iff.1 h)
  rw [sort_val x0 hb hx, Option.bind_some, sort_val t hbt hxt, Option.bind_some]
  by_cases hf : Lab.Free keyE x0
  · have hft : Lab.Free keyE t := (Lab.free_perm hp).2 hf
    have ps := Lab.sortK_perm keyE x0
    have hfs : Lab.Free keyE (Lab.sortK keyE x0) := (Lab.free_perm ps).2 hf
    have e0 : ordV x0 = (Lab.sortK keyE x0, true) := by unfold ordV; rw [if_pos hf]
    have e1 : ordV t = (Lab.sortK keyE x0, true) := by unfold ordV; rw [if_pos hft, Lab.sortK_congr hp hf]
    have e2 : ordV (Lab.sortK keyE x0) = (Lab.sortK keyE x0, true) := by unfold ordV; rw [if_pos hfs, Lab.sortK_congr ps hf]
    have hbs : (Lab.sortK keyE x0).length ≤ 24 := by rw [ps.length_eq]; exact hb
    have hxs : ∀ x ∈ Lab.sortK keyE x0, x.f0.length ≤ 20 := fun x h => hx x (ps.mem_iff.1 h)
    have hs := same27_self (Lab.sortK keyE x0) (by omega) (fun x h => by have := hxs x h; omega) k (by omega)
    rw [e0, e1]
    simp only [if_true]
    rw [sort_val _ hbs hxs, e2, Option.bind_some]
    simp only [if_true]
    rw [hs, Option.bind_some, if_pos rfl, Option.bind_some, if_pos rfl, if_neg (by decide), ps.length_eq]
    simp
  · have hft : ¬ Lab.Free keyE t := fun h => hf ((Lab.free_perm hp).1 h)
    have e0 : ordV x0 = ([], false) := by unfold ordV; rw [if_neg hf]
    have e1 : ordV t = ([], false) := by unfold ordV; rw [if_neg hft]
    have e2 : ordV ([] : List S33) = ([], true) := by unfold ordV; rw [if_pos (by simp [Lab.Free])]; rfl
    have hs := same27_self ([] : List S33) (by simp) (fun x h => by simp at h) k (by simp; omega)
    rw [e0, e1]
    simp only [if_true]
    rw [sort_val ([] : List S33) (by simp) (fun x h => by simp at h), e2, Option.bind_some]
    simp only [Bool.false_eq_true, if_false, if_true]
    rw [hs]
    simp

theorem turned_loop (x0 t : List S33) (x1 : Int) (hp : t.Perm x0) (hb : x0.length ≤ 24) (hn : 0 < x0.length) (hx : ∀ x ∈ x0, x.f0.length ≤ 20)
    (ht : ∀ i, (hi : i < t.length) → (x1 > 0 → 0 ≤ Int.tmod (wrap64 ((i : Int) + Int.tmod x1 (x0.length : Int))) (x0.length : Int) ∧ Int.tmod (wrap64 ((i : Int) + Int.tmod x1 (x0.length : Int))) (x0.length : Int) < (x0.length : Int) ∧ rd_T33 x0 (Int.tmod (wrap64 ((i : Int) + Int.tmod x1 (x0.length : Int))) (x0.length : Int)) = t[i]) ∧
      (¬ x1 > 0 → 0 ≤ wrap64 (wrap64 ((x0.length : Int) - 1) - i) ∧ wrap64 (wrap64 ((x0.length : Int) - 1) - i) < (x0.length : Int) ∧ rd_T33 x0 (wrap64 (wrap64 ((x0.length : Int) - 1) - i)) = t[i])) :
    ∀ (m k i : Nat), i ≤ t.length → t.length - i ≤ m → m + 1101 < k → manometerlaw27_EvalTurned.l0 k x0 x1 (t.take i) (x0.length : Int) (i : Int) = some true := by
  have hl := hp.length_eq
  intro m
  induction m with
  | zero =>
    intro k i hi hm hk
    obtain ⟨k, rfl⟩ : ∃ q, k = q + 1 := ⟨k - 1, by omega⟩
    simp only [manometerlaw27_EvalTurned.l0]
    rw [if_neg (by omega), List.take_of_length_le (by omega)]
    exact turned_end x0 t hp hb hx k (by omega)
  | succ m ih =>
    intro k i hi hm hk
    by_cases hlt : i < t.length
    · obtain ⟨k, rfl⟩ : ∃ q, k = q + 1 := ⟨k - 1, by omega⟩
      have hw : wrap64 ((i : Int) + 1) = ((i + 1 : Nat) : Int) := by unfold wrap64; omega
      have go := ih k (i + 1) (by omega) (by omega) (by omega)
      have hs : t.take (i + 1) = t.take i ++ [t[i]] := List.take_succ_eq_append_getElem hlt
      have hlen : (t.take i).length < 4398046511104 := by rw [List.length_take]; omega
      simp only [manometerlaw27_EvalTurned.l0]
      rw [if_pos (by omega)]
      by_cases h1 : x1 > 0
      · obtain ⟨a1, a2, a3⟩ := (ht i hlt).1 h1
        rw [if_pos h1, if_neg (by omega), if_pos a1, if_pos a2, if_pos hlen, a3, hw]
        rw [hs] at go
        exact go
      · obtain ⟨a1, a2, a3⟩ := (ht i hlt).2 h1
        rw [if_neg h1, if_pos a1, if_pos a2, if_pos hlen, a3, hw]
        rw [hs] at go
        exact go
    · exact ih k i hi (by omega) (by omega)

theorem rd_get {x0 : List S33} {j : Int} {n : Nat} (h : j = n) (hn : n < x0.length) : rd_T33 x0 j = x0[n] := by
  subst h; unfold rd_T33; simp [List.getD_eq_getElem?_getD, hn]

theorem turned_body (x0 : List S33) (x1 : Int) (hb : x0.length ≤ 24) (hn : 0 < x0.length) (hx : ∀ x ∈ x0, x.f0.length ≤ 20) (k : Nat) (hk : 1200 < k) : manometerlaw27_EvalTurned.l0 k x0 x1 [] (x0.length : Int) 0 = some true := by
  by_cases h1 : x1 > 0
  · obtain ⟨s, hs⟩ : ∃ s : Nat, Int.tmod x1 (x0.length : Int) = s := ⟨(Int.tmod x1 (x0.length : Int)).toNat, by
      have := Int.tmod_nonneg (x0.length : Int) (show 0 ≤ x1 by omega); omega⟩
    have hs2 : s < x0.length := by
      have := Int.tmod_lt_of_pos x1 (show (0 : Int) < (x0.length : Int) by omega); omega
    refine turned_loop x0 (x0.drop s ++ x0.take s) x1 ?_ hb hn hx ?_ 24 k 0 (by omega) (by simp; omega) (by omega)
    · exact (List.perm_append_comm).trans (by rw [List.take_append_drop])
    · intro i hi
      have hi2 : i < x0.length := by simp at hi; omega
      refine ⟨fun _ => ?_, fun h => absurd h1 h⟩
      have e : wrap64 ((i : Int) + (s : Int)) = ((i + s : Nat) : Int) := by unfold wrap64; omega
      have e2 : Int.tmod ((i + s : Nat) : Int) (x0.length : Int) = (((i + s) % x0.length : Nat) : Int) := by
        rw [Int.tmod_eq_emod_of_nonneg (by omega)]; omega
      have hm : (i + s) % x0.length < x0.length := Nat.mod_lt _ hn
      rw [hs, e, e2]
      refine ⟨by omega, by omega, ?_⟩
      rw [rd_get rfl hm]
      by_cases hc : i < x0.length - s
      · rw [List.getElem_append_left (by simp; omega), List.getElem_drop]
        congr 1
        rw [Nat.mod_eq_of_lt (by omega)]; omega
      · rw [List.getElem_append_right (by simp; omega), List.getElem_take]
        congr 1
        simp only [List.length_drop]
        rw [show i + s = (i + s - x0.length) + x0.length by omega, Nat.add_mod_right, Nat.mod_eq_of_lt (by omega)]
        omega
  · refine turned_loop x0 x0.reverse x1 (List.reverse_perm x0) hb hn hx ?_ 24 k 0 (by omega) (by simp; omega) (by omega)
    intro i hi
    have hi2 : i < x0.length := by simpa using hi
    refine ⟨fun h => absurd h h1, fun _ => ?_⟩
    have e : wrap64 (wrap64 ((x0.length : Int) - 1) - (i : Int)) = ((x0.length - 1 - i : Nat) : Int) := by unfold wrap64; omega
    rw [e]
    refine ⟨by omega, by omega, ?_⟩
    rw [rd_get rfl (by omega), List.getElem_reverse]

theorem evalTurned_pure (l : List S33) (a : Int) : manometerlaw27_EvalTurned.f 2000 l a = some true := by
  unfold manometerlaw27_EvalTurned.f
  rw [live4_some (by omega), Option.bind_some, if_pos rfl]
  have hj : manometerlaw27_EvalTurned.j0 2000 l a true = some true := by
    rw [show (2000 : Nat) = 1999 + 1 from rfl]
    simp only [manometerlaw27_EvalTurned.j0, if_true]
    rw [live4_some (by omega)]; rfl
  obtain ⟨b, e, h⟩ := few_val l 2000 (by omega)
  rw [e, Option.bind_some]
  cases b with
  | false => rw [if_neg (by decide)]; exact hj
  | true =>
    rw [if_pos rfl]
    obtain ⟨h1, h2⟩ := h rfl
    by_cases hz : l.length = 0
    · rw [show ((l.length : Int) == 0) = true by simp [hz]]; exact hj
    · rw [show ((l.length : Int) == 0) = false by simp; intro h; exact hz (by rw [h]; rfl), show (2000 : Nat) = 1999 + 1 from rfl]
      simp only [manometerlaw27_EvalTurned.j0, Bool.false_eq_true, if_false]
      exact turned_body l a h1 (by omega) h2 1999 (by omega)
end Go.Proofs.YthhbbmebfmfgjaaGreatDoor.PC
