import Derived.Test.YtmbfpichaaanpaaGreatDoorX47
import Derived.Test.YtmbfpichaaanpaaGreatDoorX19
/-! Rows of nodes: read, put together. Trees are checked. -/
namespace Go.Proofs.YtmbfpichaaanpaaGreatDoor
open Go.RowKit Ut Rx Mt
namespace Ex
theorem stepE_lf {n : Nd} {st : List Int} (ht : takesE n = 0) (ha : aloneE n = 0) : stepE n st = .ok ((n.k + 1) :: st) := by
  unfold stepE
  rw [if_neg (by simp [ha]), if_neg (by rw [ht]; omega)]
  rcases takes_lf ht with h | h | h
  · rw [if_pos h, h]; rfl
  · rw [if_neg (by omega), if_pos h, h]; rfl
  · rw [if_neg (by omega), if_neg (by omega), if_pos h, h]; rfl
theorem stepE_un {n : Nd} {t : Int} {st : List Int} (ht : takesE n = 1) (ha : aloneE n = 0) : stepE n (t :: st) = if oneE n t = 0 then .error 260 else .ok (oneE n t :: st) := by
  have hk : n.k ≠ 0 ∧ n.k ≠ 1 ∧ n.k ≠ 2 := by rcases takes_un ht with h | h | h <;> omega
  unfold stepE
  rw [if_neg (by simp [ha]), if_neg (by rw [ht]; simp only [List.length_cons]; omega), if_neg hk.1, if_neg hk.2.1, if_neg hk.2.2, if_pos ht]
theorem stepE_bi {n : Nd} {t u : Int} {st : List Int} (ht : takesE n = 2) (ha : aloneE n = 0) : stepE n (u :: t :: st) = if twoE n t u = 0 then .error 260 else .ok (twoE n t u :: st) := by
  have hk : n.k ≠ 0 ∧ n.k ≠ 1 ∧ n.k ≠ 2 := by rcases takes_bi ht with h | h | h | h <;> omega
  unfold stepE
  rw [if_neg (by simp [ha]), if_neg (by rw [ht]; simp only [List.length_cons]; omega), if_neg hk.1, if_neg hk.2.1, if_neg hk.2.2, if_neg (by rw [ht]; decide)]
theorem checkGo_app : ∀ (e f : List Nd) (st st2 : List Int), checkGo e st = .ok st2 → checkGo (e ++ f) st = checkGo f st2
  | [], f, st, st2, h => by rw [checkGo] at h; cases h; rfl
  | n :: t, f, st, st2, h => by
    rw [checkGo] at h
    rw [List.cons_append, checkGo]
    cases hs : stepE n st with
    | error x => rw [hs] at h; cases h
    | ok s1 => rw [hs] at h; exact checkGo_app t f s1 st2 h
theorem tree_go : ∀ T : Tr, T.ok → ∀ st, checkGo T.nds st = .ok (T.ty :: st) := by
  intro T
  induction T with
  | lf n =>
    intro ho st
    show checkGo [n] st = _
    rw [checkGo, stepE_lf ho.1 ho.2]
    rfl
  | un n b ih =>
    intro ho st
    show checkGo (b.nds ++ [n]) st = _
    rw [checkGo_app _ _ _ _ (ih ho.2.2.2 st), checkGo, stepE_un ho.1 ho.2.1, if_neg ho.2.2.1]
    rfl
  | bi n a b iha ihb =>
    intro ho st
    show checkGo (a.nds ++ b.nds ++ [n]) st = _
    rw [List.append_assoc, checkGo_app _ _ _ _ (iha ho.2.2.2.1 st), checkGo_app _ _ _ _ (ihb ho.2.2.2.2 _), checkGo, stepE_bi ho.1 ho.2.1, if_neg ho.2.2.1]
    rfl
theorem ty_pos {T : Tr} (ho : T.ok) : T.ty = 1 ∨ T.ty = 2 ∨ T.ty = 3 := by
  cases T with
  | lf n =>
    show n.k + 1 = 1 ∨ n.k + 1 = 2 ∨ n.k + 1 = 3
    rcases takes_lf ho.1 with h | h | h <;> omega
  | un n b =>
    have h := ho.2.2.1
    show oneE n b.ty = 1 ∨ oneE n b.ty = 2 ∨ oneE n b.ty = 3
    unfold oneE valuedE at *
    split
    · split
      · rename_i h1
        simp only [Bool.or_eq_true, decide_eq_true_eq] at h1
        omega
      · rename_i h0 h1
        rw [if_pos h0, if_neg h1] at h
        exact absurd rfl h
    · split
      · split
        · omega
        · rename_i h0 h1 h2
          rw [if_neg h0, if_pos h1, if_neg h2] at h
          exact absurd rfl h
      · split
        · split
          · omega
          · rename_i h0 h1 h2 h3
            rw [if_neg h0, if_neg h1, if_pos h2, if_neg h3] at h
            exact absurd rfl h
        · split
          · split
            · omega
            · rename_i h0 h1 h2 h3 h4
              rw [if_neg h0, if_neg h1, if_neg h2, if_pos h3, if_neg h4] at h
              exact absurd rfl h
          · split
            · omega
            · rename_i h0 h1 h2 h3 h4
              rw [if_neg h0, if_neg h1, if_neg h2, if_neg h3, if_neg h4] at h
              exact absurd rfl h
  | bi n a b =>
    have h := ho.2.2.1
    show twoE n a.ty b.ty = 1 ∨ twoE n a.ty b.ty = 2 ∨ twoE n a.ty b.ty = 3
    unfold twoE at *
    split
    · split
      · omega
      · rename_i h0 h1; rw [if_pos h0, if_neg h1] at h; exact absurd rfl h
    · split
      · split
        · omega
        · rename_i h0 h1 h2; rw [if_neg h0, if_pos h1, if_neg h2] at h; exact absurd rfl h
      · split
        · rename_i h0 h1 h2; rw [if_neg h0, if_neg h1, if_pos h2] at h; exact absurd rfl h
        · split
          · omega
          · split
            · omega
            · rename_i h0 h1 h2 h3 h4; rw [if_neg h0, if_neg h1, if_neg h2, if_neg h3, if_neg h4] at h; exact absurd rfl h
theorem tree_check {T : Tr} (ho : T.ok) (h3 : T.ty ≠ 3) (hl : T.nds.length ≤ 64) : checkE T.nds = (T.ty, 0) := by
  unfold checkE
  rw [if_neg (by omega), tree_go T ho []]
  simp only
  rw [if_neg h3]
theorem alone_bin {o : Int} (h0 : 0 ≤ o) (h5 : o < 5) : aloneE (ndE 5 o false) = 0 := by
  have h : o = 0 ∨ o = 1 ∨ o = 2 ∨ o = 3 ∨ o = 4 := by omega
  rcases h with rfl | rfl | rfl | rfl | rfl <;> rfl
theorem alone_set {o : Int} (h0 : 0 ≤ o) (h3 : o < 3) : aloneE (ndE 7 o false) = 0 := by
  have h : o = 0 ∨ o = 1 ∨ o = 2 := by omega
  rcases h with rfl | rfl | rfl <;> rfl
theorem two_bin {o t u : Int} (ht : t = 1 ∨ t = 2) (hu : u = 1 ∨ u = 2) : twoE (ndE 5 o false) t u = max t u := by
  rcases ht with rfl | rfl <;> rcases hu with rfl | rfl <;> rfl
theorem two_set {o t u : Int} : twoE (ndE 7 o false) t u = if t = 2 ∧ u = 2 then 2 else 0 := rfl
/-- two expressions and a sign of sums and products -/
theorem check_bin {A B : Tr} (ha : A.ok) (hb : B.ok) (ha3 : A.ty ≠ 3) (hb3 : B.ty ≠ 3) (hl : A.nds.length + B.nds.length < 64) {o : Int} (h0 : 0 ≤ o) (h5 : o < 5) : (Tr.bi (ndE 5 o false) A B).ok ∧ checkE (A.nds ++ B.nds ++ [ndE 5 o false]) = (max A.ty B.ty, 0) := by
  have hA := ty_pos ha
  have hB := ty_pos hb
  have h2 := two_bin (o := o) (t := A.ty) (u := B.ty) (by omega) (by omega)
  have hok : (Tr.bi (ndE 5 o false) A B).ok := ⟨rfl, alone_bin h0 h5, by rw [h2]; omega, ha, hb⟩
  refine ⟨hok, ?_⟩
  have := tree_check hok (by show twoE _ _ _ ≠ 3; rw [h2]; omega) (by simp only [Tr.nds, List.length_append, List.length_singleton]; omega)
  rw [show (Tr.bi (ndE 5 o false) A B).ty = twoE (ndE 5 o false) A.ty B.ty from rfl, h2] at this
  exact this
theorem check_set {A B : Tr} (ha : A.ok) (hb : B.ok) (hl : A.nds.length + B.nds.length < 64) {o : Int} (h0 : 0 ≤ o) (h3 : o < 3) : checkE (A.nds ++ B.nds ++ [ndE 7 o false]) = if A.ty = 2 ∧ B.ty = 2 then (2, 0) else (0, 260) := by
  unfold checkE
  rw [if_neg (by simp only [List.length_append, List.length_singleton]; omega), List.append_assoc, checkGo_app _ _ _ _ (tree_go A ha []), checkGo_app _ _ _ _ (tree_go B hb _), checkGo, stepE_bi rfl (alone_set h0 h3), two_set]
  by_cases h : A.ty = 2 ∧ B.ty = 2
  · rw [if_pos h, if_pos h]; rfl
  · rw [if_neg h, if_neg h]; rfl
theorem check_all {A B : Tr} (ha : A.ok) (hb : B.ok) (hl : A.nds.length + B.nds.length < 64) : (checkE (A.nds ++ B.nds)).2 = 8 := by
  unfold checkE
  rw [if_neg (by simp only [List.length_append]; omega), checkGo_app _ _ _ _ (tree_go A ha []), tree_go B hb _]
end Ex

/-! ### rows of nodes -/
def Nr (w : World) (R : List NdV) : Prop := ∀ x ∈ R, Ms0 w x.2.1 x.1.sel ∧ Ws0 w x.2.2 x.1.nm ∧ x.1.v < 18446744073709551616 ∧ x.1.wd < 18446744073709551616
theorem Nr.below {w w' : World} {R : List NdV} (h : Nr w R) (b : Below w.heap.size w w') : Nr w' R := fun x hx => ⟨(h x hx).1.below b, (h x hx).2.1.below b, (h x hx).2.2⟩
theorem Nr.app {w : World} {R S : List NdV} (h : Nr w R) (k : Nr w S) : Nr w (R ++ S) := fun x hx => (List.mem_append.1 hx).elim (h x) (k x)
theorem nodeC_len : ∀ R : List NdV, (nodeC R).length = R.length * 8
  | [] => rfl
  | x :: R => by
    show (ndV x.1 x.2.1 x.2.2 ++ nodeC R).length = _
    rw [List.length_append, nodeC_len R, List.length_cons]
    show 8 + _ = _
    omega
theorem nodeC_app (R S : List NdV) : nodeC (R ++ S) = nodeC R ++ nodeC S := by unfold nodeC; exact List.flatMap_append
theorem nodeC_one {w : World} {R : List NdV} (h : Nr w R) : ∀ u ∈ nodeC R, u.oneCell' = true := by
  intro u hu
  unfold nodeC at hu
  obtain ⟨x, hx, hu⟩ := List.mem_flatMap.1 hu
  obtain ⟨⟨A, c, e, _⟩, ⟨A2, c2, e2, _⟩, _⟩ := h x hx
  exact ndV_one' ⟨A, _, c, e⟩ ⟨A2, _, c2, e2⟩ u hu
theorem nodeC_inv : ∀ (R : List NdV) (j : Nat) (u : Value), (nodeC R)[j]? = some u → ∃ i k x, j = i * 8 + k ∧ k < 8 ∧ R[i]? = some x ∧ (ndV x.1 x.2.1 x.2.2)[k]? = some u
  | [], j, u, h => by simp [nodeC] at h
  | x :: R, j, u, h => by
    have hl : (ndV x.1 x.2.1 x.2.2).length = 8 := rfl
    change (ndV x.1 x.2.1 x.2.2 ++ nodeC R)[j]? = some u at h
    by_cases hj : j < 8
    · rw [List.getElem?_append_left (by rw [hl]; exact hj)] at h
      exact ⟨0, j, x, by omega, hj, rfl, h⟩
    · rw [List.getElem?_append_right (by rw [hl]; omega), hl] at h
      obtain ⟨i, k, y, h1, h2, h3, h4⟩ := nodeC_inv R _ u h
      exact ⟨i + 1, k, y, by omega, h2, by simpa using h3, h4⟩
theorem Es0.rows {w : World} {lv : Value} {l : List Ex.Nd} (h : Es0 w lv l) : ∃ (A : Option Addr) (c : Nat) (R : List NdV), lv = .slice A R.length c ∧ R.length ≤ c ∧ R.map (·.1) = l ∧ Nr w R ∧ Reads w w.heap.size 8 A R.length (nodeC R) := by
  obtain ⟨A, c, e, hc, hl⟩ := h
  by_cases hne : l = []
  · subst hne
    exact ⟨A, c, [], e, hc, rfl, (fun x hx => by cases hx), by exact ⟨rfl, fun h => absurd h (by decide)⟩⟩
  · obtain ⟨b, off, rfl, hcell⟩ := hl hne
    have hex : ∀ i : Nat, ∃ y : Value × Value, ∀ (h : i < l.length), NdAt w b (off + i * 8) (l[i]'h) y.1 y.2 := fun i => by
      by_cases hi : i < l.length
      · obtain ⟨sv, nv, hn⟩ := hcell i hi
        exact ⟨(sv, nv), fun _ => hn⟩
      · exact ⟨(.bool false, .bool false), fun h => absurd h hi⟩
    obtain ⟨f, hf⟩ := Classical.axiomOfChoice hex
    have hmem : ∀ (i : Nat) (x : NdV), (l.zipIdx.map fun p => ((p.1, (f p.2).1, (f p.2).2) : NdV))[i]? = some x → ∃ h : i < l.length, x = (l[i]'h, (f i).1, (f i).2) := fun i x hx => by
      rw [List.getElem?_map, List.getElem?_zipIdx] at hx
      cases hli : l[i]? with
      | none => rw [hli] at hx; simp at hx
      | some n =>
        rw [hli] at hx
        obtain ⟨hlt, hn⟩ := List.getElem?_eq_some_iff.1 hli
        refine ⟨hlt, ?_⟩
        simp only [Option.map_some, Nat.zero_add, Option.some.injEq] at hx
        rw [← hx, hn]
    have hlen : (l.zipIdx.map fun p => ((p.1, (f p.2).1, (f p.2).2) : NdV)).length = l.length := by simp
    refine ⟨_, c, l.zipIdx.map fun p => ((p.1, (f p.2).1, (f p.2).2) : NdV), by rw [hlen]; exact e, by rw [hlen]; exact hc, ?_, ?_, ?_⟩
    · rw [List.map_map]
      show l.zipIdx.map (fun p => p.1) = l
      exact List.zipIdx_map_fst ..
    · intro x hx
      obtain ⟨i, hi⟩ := List.mem_iff_getElem?.1 hx
      obtain ⟨h, rfl⟩ := hmem i x hi
      exact ⟨(hf i h).sel, (hf i h).nm, (hf i h).hv, (hf i h).hw⟩
    · refine ⟨nodeC_len _, fun hn => ⟨⟨b, off, none⟩, rfl, ?_, fun j u hu => ?_⟩⟩
      · have h0 : 0 < l.length := List.length_pos_iff.2 hne
        exact World.block_lt_of_cell? w _ (hf 0 h0).c0
      · obtain ⟨i, k, x, rfl, hk, hx, hux⟩ := nodeC_inv _ j u hu
        obtain ⟨h, rfl⟩ := hmem i x hx
        have hn := hf i h
        have hadd : (⟨b, off, none⟩ : Addr).add (i * 8 + k) = ⟨b, off + i * 8 + k, none⟩ := by
          unfold Addr.add
          split
          · rename_i h0
            rw [show off = off + i * 8 + k from by omega]
            congr 1
            omega
          · simp only [Nat.add_assoc]
        rw [hadd]
        match k, hk with
        | 0, _ => cases hux; exact hn.c0
        | 1, _ => cases hux; exact hn.c1
        | 2, _ => cases hux; exact hn.c2
        | 3, _ => cases hux; exact hn.c3
        | 4, _ => cases hux; exact hn.c4
        | 5, _ => cases hux; exact hn.c5
        | 6, _ => cases hux; exact hn.c6
        | 7, _ => cases hux; exact hn.c7
theorem es_of_row {w : World} {B : Nat} {lv : Value} {R : List NdV} (h : w.ownsRow B 37 8 lv R.length (nodeC R)) (hn : Nr w R) : Es0 w lv (R.map (·.1)) := by
  rcases row_kinds h with ⟨e, h0⟩ | ⟨g, c, e, hc⟩
  · refine ⟨none, 0, by rw [List.length_map, h0]; exact e, by rw [List.length_map, h0]; exact Nat.le_refl _, fun hne => ?_⟩
    exact absurd (List.length_pos_iff.2 hne) (by rw [List.length_map]; omega)
  · refine ⟨some ⟨g, 0, none⟩, c, by rw [List.length_map]; exact e, by rw [List.length_map]; exact hc, fun _ => ⟨g, 0, rfl, fun i hi => ?_⟩⟩
    have hiR : i < R.length := by rw [List.length_map] at hi; exact hi
    obtain ⟨_, _, hcell⟩ := row_cell h e
    have hx : R[i]? = some (R[i]'hiR) := List.getElem?_eq_getElem hiR
    have hs := hn _ (List.getElem_mem hiR)
    rw [List.getElem_map]
    generalize R[i]'hiR = x at *
    have k := fun j u hu => hcell (i * 8 + j) u (nodeC_get R i x j u hx hu)
    refine ⟨x.2.1, x.2.2, ?_, ?_, ?_, ?_, ?_, ?_, ?_, ?_, hs.1, hs.2.1, hs.2.2.1, hs.2.2.2⟩
    · have := k 0 _ rfl; rw [Nat.zero_add]; exact this
    · have := k 1 _ rfl; rw [Nat.zero_add]; exact this
    · have := k 2 _ rfl; rw [Nat.zero_add]; exact this
    · have := k 3 _ rfl; rw [Nat.zero_add]; exact this
    · have := k 4 _ rfl; rw [Nat.zero_add]; exact this
    · have := k 5 _ rfl; rw [Nat.zero_add]; exact this
    · have := k 6 _ rfl; rw [Nat.zero_add]; exact this
    · have := k 7 _ rfl; rw [Nat.zero_add]; exact this
end Go.Proofs.YtmbfpichaaanpaaGreatDoor
