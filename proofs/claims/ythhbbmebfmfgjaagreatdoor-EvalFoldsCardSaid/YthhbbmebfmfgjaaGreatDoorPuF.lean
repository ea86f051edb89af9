import Derived.Test.YthhbbmebfmfgjaaGreatDoorPAx2
/-! What points come to: plain laws. -/
namespace Go.Proofs.YthhbbmebfmfgjaaGreatDoor
theorem bits_lt {op : BinOp} (x y : Nat) : optT (floatBits op .f64 x y) < 18446744073709551616 := by
  cases h : floatBits op .f64 x y with
  | some r => exact toldS_lt r (floatBits_lt h)
  | none => show nanC < _; unfold nanC; omega
theorem doS_lt {op : Int} {a b : Nat} (hop : op ≠ 4) (ha : a < 18446744073709551616) (hb : b < 18446744073709551616) : doS op a b < 18446744073709551616 := by
  unfold doS doM
  split
  · exact bits_lt (op := .add) a b
  · split
    · exact bits_lt (op := .sub) a b
    · split
      · exact bits_lt (op := .mul) a b
      · split
        · exact bits_lt (op := .quo) a b
        · have hn : nanC < 18446744073709551616 := by unfold nanC; omega
          have hbt : ∀ w, betterS a b w < 18446744073709551616 := by
            intro w
            unfold betterS
            split
            · exact toldS_lt b hb
            · split
              · exact ha
              · split
                · exact ha
                · exact hb
          split
          · exact hbt _
          · split
            · exact hbt _
            · exact hn
end Go.Proofs.YthhbbmebfmfgjaaGreatDoor
namespace Go.Proofs.YthhbbmebfmfgjaaGreatDoor.PA
open Go.RowKit Go.Proofs.YthhbbmebfmfgjaaGreatDoorW.PrintWords Go.Proofs.YthhbbmebfmfgjaaGreatDoorW.PrintLast

theorem do_eq (a b c : Int) : manometerref04_Do.f a b c = real_Do.f a b c := rfl
theorem of_eq (a : Int) : manometerref04_Of.f a = real_Of.f a := rfl
theorem sum_eq (l : List Int) : manometerref04_Sum.f l = real_Sum.f l := rfl
theorem mean_eq (l : List Int) : manometerref04_Mean.f l = real_Mean.f l := rfl
theorem do_some {op a b : Int} (hop : op ≠ 4) (ha : word a = true) (hb : word b = true) : ∃ r, real_Do.f op a b = some r ∧ word r = true := by
  unfold real_Do.f
  rw [if_pos ha, if_pos hb]
  exact ⟨_, rfl, word_nat (doS_lt hop (word_lt ha) (word_lt hb))⟩
theorem sum_some {l : List Int} (hl : l.all word = true) (hn : l.length ≤ 9223372036854775807) : ∃ r, real_Sum.f l = some r := by
  unfold real_Sum.f
  rw [if_pos hl, if_pos hn]
  exact ⟨_, rfl⟩
theorem mean_some {l : List Int} (hl : l.all word = true) (hn : l.length ≤ 9223372036854775807) : ∃ r, real_Mean.f l = some r := by
  unfold real_Mean.f
  rw [if_pos hl, if_pos hn]
  exact ⟨_, rfl⟩

theorem vals_same : ∀ k a b c d, manometerref27_vals.l0 k a b c d = eval_values.l0 k a b c d
  | 0, _, _, _, _ => by simp only [manometerref27_vals.l0, eval_values.l0]
  | k + 1, a, b, c, d => by simp only [manometerref27_vals.l0, eval_values.l0, vals_same k]
theorem vals_eq (k : Nat) (l : List S44) : manometerref27_vals.f k l = eval_values.f k l := vals_same _ _ _ _ _
theorem pick_same : ∀ k a b c d e, manometerref27_fold.l0 k a b c d e = eval_pick.l0 k a b c d e
  | 0, _, _, _, _, _ => by simp only [manometerref27_fold.l0, eval_pick.l0]
  | k + 1, a, b, c, d, e => by simp only [manometerref27_fold.l0, eval_pick.l0, pick_same k, do_eq]
theorem pick_eq (k : Nat) (a : Int) (l : List Int) : manometerref27_fold.f k a l = eval_pick.f k a l := by
  unfold manometerref27_fold.f eval_pick.f
  simp only [pick_same]

theorem wrap64_of {n : Int} (h0 : -9223372036854775808 ≤ n) (h1 : n ≤ 9223372036854775807) : wrap64 n = n := by unfold wrap64; omega

theorem values_loop (l : List S44) (hl : l.length ≤ 200) : ∀ (m k : Nat) (acc : List Int) (i : Int), 0 ≤ i → i ≤ l.length → acc = (l.take i.toNat).map S44.f1 → ((l.length : Int) - i).toNat ≤ m → m < k → eval_values.l0 k acc l l.length i = some (l.map S44.f1) := by
  intro m
  induction m with
  | zero =>
    intro k acc i h0 h1 ha hm hk
    obtain ⟨k, rfl⟩ : ∃ q, k = q + 1 := ⟨k - 1, by omega⟩
    simp only [eval_values.l0]
    rw [if_neg (by omega), ha, List.take_of_length_le (by omega)]
  | succ m ih =>
    intro k acc i h0 h1 ha hm hk
    obtain ⟨k, rfl⟩ : ∃ q, k = q + 1 := ⟨k - 1, by omega⟩
    simp only [eval_values.l0]
    have hlen : acc.length ≤ 200 := by rw [ha, List.length_map, List.length_take]; omega
    by_cases hi : i < l.length
    · rw [if_pos hi, if_pos h0, if_pos hi, if_pos (by omega), wrap64_of (by omega) (by omega)]
      refine ih k _ (i + 1) (by omega) (by omega) ?_ (by omega) (by omega)
      have e : (i + 1).toNat = i.toNat + 1 := by omega
      have hlt : i.toNat < l.length := by omega
      rw [e, List.take_add_one, List.map_append, ha, List.getElem?_eq_getElem hlt]
      simp [rd_T44, List.getD_eq_getElem?_getD, List.getElem?_eq_getElem hlt]
    · rw [if_neg hi, ha, List.take_of_length_le (by omega)]
theorem values_some (l : List S44) (hl : l.length ≤ 200) (k : Nat) (hk : 200 < k) : eval_values.f k l = some (l.map S44.f1) :=
  values_loop l hl 200 k [] 0 (by omega) (by omega) (by simp) (by omega) hk

theorem rd_word {l : List Int} (hl : l.all word = true) {i : Int} (h : i.toNat < l.length) : word (rd l i) = true := by
  unfold rd
  rw [List.getD_eq_getElem?_getD, List.getElem?_eq_getElem h]
  exact List.all_eq_true.1 hl _ (List.getElem_mem h)
theorem pick_loop (op : Int) (hop : op ≠ 4) (l : List Int) (hw : l.all word = true) (hl : l.length ≤ 200) : ∀ (m k : Nat) (x i : Int), word x = true → 0 ≤ i → i ≤ l.length → ((l.length : Int) - i).toNat ≤ m → m < k → ∃ r, eval_pick.l0 k op x l l.length i = some r := by
  intro m
  induction m with
  | zero =>
    intro k x i hx h0 h1 hm hk
    obtain ⟨k, rfl⟩ : ∃ q, k = q + 1 := ⟨k - 1, by omega⟩
    simp only [eval_pick.l0]
    rw [if_neg (by omega)]
    exact ⟨_, rfl⟩
  | succ m ih =>
    intro k x i hx h0 h1 hm hk
    obtain ⟨k, rfl⟩ : ∃ q, k = q + 1 := ⟨k - 1, by omega⟩
    simp only [eval_pick.l0]
    by_cases hi : i < l.length
    · obtain ⟨r, hr, hwr⟩ := do_some hop hx (rd_word hw (i := i) (by omega))
      rw [if_pos hi, if_pos h0, if_pos hi, hr, Option.bind_some, wrap64_of (by omega) (by omega)]
      exact ih k r (i + 1) hwr (by omega) (by omega) (by omega) (by omega)
    · rw [if_neg hi]
      exact ⟨_, rfl⟩
theorem pick_some (op : Int) (hop : op ≠ 4) (l : List Int) (hw : l.all word = true) (h0 : 0 < l.length) (hl : l.length ≤ 200) (k : Nat) (hk : 200 < k) : ∃ r, eval_pick.f k op l = some r := by
  unfold eval_pick.f
  rw [if_pos (by omega), if_pos (by omega)]
  refine pick_loop op hop (l.drop 1) ?_ (by rw [List.length_drop]; omega) 200 k _ 0 (rd_word hw (by simpa using h0)) (by omega) (by omega) (by rw [List.length_drop]; omega) hk
  exact List.all_eq_true.2 fun x hx => List.all_eq_true.1 hw x (List.mem_of_mem_drop hx)

theorem fold_same (fn : Int) (l : List S44) (hw : (l.map S44.f1).all word = true) (hl : l.length ≤ 200) (k : Nat) (hk : 200 < k) : ∃ r, eval_Fold.f k fn l = some r ∧ manometerref27_Fold.f k fn l = some r := by
  unfold eval_Fold.f manometerref27_Fold.f
  by_cases h0 : (l.length : Int) = 0
  · rw [if_pos h0, if_pos h0]; exact ⟨_, rfl, rfl⟩
  rw [if_neg h0, if_neg h0, values_some l hl k hk, Option.bind_some]
  simp only [vals_eq, values_some l hl k hk, Option.bind_some, sum_eq, mean_eq, pick_eq, of_eq, List.length_map]
  have hlen : (l.map S44.f1).length = l.length := List.length_map _
  by_cases h3 : fn = 3
  · rw [if_pos h3, if_pos h3]
    obtain ⟨r, hr⟩ := sum_some hw (by rw [hlen]; omega)
    rw [hr]; exact ⟨_, rfl, rfl⟩
  rw [if_neg h3, if_neg h3]
  by_cases h4 : fn = 4
  · rw [if_pos h4, if_pos h4]
    obtain ⟨r, hr⟩ := mean_some hw (by rw [hlen]; omega)
    rw [hr]; exact ⟨_, rfl, rfl⟩
  rw [if_neg h4, if_neg h4]
  by_cases h5 : fn = 5
  · rw [if_pos h5, if_pos h5]
    obtain ⟨r, hr⟩ := pick_some 5 (by omega) _ hw (by rw [hlen]; omega) (by rw [hlen]; omega) k hk
    rw [hr]; exact ⟨_, rfl, rfl⟩
  rw [if_neg h5, if_neg h5]
  by_cases h6 : fn = 6
  · rw [if_pos h6, if_pos h6]
    obtain ⟨r, hr⟩ := pick_some 6 (by omega) _ hw (by rw [hlen]; omega) (by rw [hlen]; omega) k hk
    rw [hr]; exact ⟨_, rfl, rfl⟩
  rw [if_neg h6, if_neg h6]
  by_cases h7 : fn = 7
  · rw [if_pos h7, if_pos h7]
    exact ⟨_, rfl, rfl⟩
  rw [if_neg h7, if_neg h7]
  by_cases h8 : fn = 8
  · rw [if_pos h8, if_pos h8, wrap64_of (by omega) (by omega), if_pos (by omega), if_pos (by omega), if_pos (by omega), if_pos (by omega)]
    refine ⟨_, rfl, ?_⟩
    congr 1
    have hlt : ((l.length : Int) - 1).toNat < l.length := by omega
    unfold rd_T44 rd
    generalize ((l.length : Int) - 1).toNat = j at hlt ⊢
    simp [List.getD_eq_getElem?_getD, List.getElem?_eq_getElem hlt]
  rw [if_neg h8, if_neg h8]
  exact ⟨_, rfl, rfl⟩
end Go.Proofs.YthhbbmebfmfgjaaGreatDoor.PA
