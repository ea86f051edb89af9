import Derived.Test.YthhbbmebfmfgjaaGreatDoorPuVb
/-! EvalSorts: the reference's order and tests, and the law. -/
namespace Go.Proofs.YthhbbmebfmfgjaaGreatDoor.PD
open Go.RowKit Go.Proofs.YthhbbmebfmfgjaaGreatDoorW.PrintWords Go.Proofs.YthhbbmebfmfgjaaGreatDoorW.PrintLast Ut

theorem compare5_go (l0 l1 : List S128) : ∀ (m k i : Nat) (n : Int), n = ((min l0.length l1.length : Nat) : Int) → min l0.length l1.length ≤ 9223372036854775806 → i ≤ min l0.length l1.length → min l0.length l1.length - i ≤ m → m < k → manometerref05_Compare.l0 k l0 l1 n (i : Int) = some (Lab.cmpP (keyL (l0.drop i)) (keyL (l1.drop i))) := by
  intro m
  induction m with
  | zero =>
    intro k i n hn hb hi hm hk
    obtain ⟨k, rfl⟩ : ∃ q, k = q + 1 := ⟨k - 1, by omega⟩
    simp only [manometerref05_Compare.l0]
    rw [if_neg (by omega)]
    by_cases h1 : l0.length < l1.length
    · rw [if_pos (by omega), List.drop_eq_nil_of_le (by omega)]
      obtain ⟨y, t, e⟩ := List.exists_cons_of_ne_nil (l := l1.drop i) (by intro e; have := congrArg List.length e; simp at this; omega)
      rw [e]; rfl
    · rw [if_neg (by omega)]
      by_cases h2 : l1.length < l0.length
      · rw [if_pos (by omega), show l1.drop i = [] from List.drop_eq_nil_of_le (by omega)]
        obtain ⟨y, t, e⟩ := List.exists_cons_of_ne_nil (l := l0.drop i) (by intro e; have := congrArg List.length e; simp at this; omega)
        rw [e]; rfl
      · rw [if_neg (by omega), List.drop_eq_nil_of_le (by omega), List.drop_eq_nil_of_le (by omega)]; rfl
  | succ m ih =>
    intro k i n hn hb hi hm hk
    by_cases hlt : i < min l0.length l1.length
    · obtain ⟨k, rfl⟩ : ∃ q, k = q + 1 := ⟨k - 1, by omega⟩
      have d0 : l0.drop i = l0[i]'(by omega) :: l0.drop (i + 1) := List.drop_eq_getElem_cons (by omega)
      have d1 : l1.drop i = l1[i]'(by omega) :: l1.drop (i + 1) := List.drop_eq_getElem_cons (by omega)
      have r0 := rd128_get (l := l0) (i := i) (by omega)
      have r1 := rd128_get (l := l1) (i := i) (by omega)
      have hw : wrap64 ((i : Int) + 1) = ((i + 1 : Nat) : Int) := by unfold wrap64; omega
      have go := ih k (i + 1) n hn hb (by omega) (by omega) (by omega)
      rw [d0, d1]
      simp only [manometerref05_Compare.l0, manometerref05_text.f]
      rw [if_pos (by omega), if_pos (by omega), if_pos (by omega), if_pos (by omega), r0, r1, hw, go]
      generalize (l0[i]'(by omega)) = x
      generalize (l1[i]'(by omega)) = y
      obtain ⟨x0, x1⟩ := x
      obtain ⟨y0, y1⟩ := y
      generalize l0.drop (i + 1) = t0
      generalize l1.drop (i + 1) = t1
      show _ = some (if Lab.lessL (x0.toList, x1.toList) (y0.toList, y1.toList) = true then -1 else if (x0.toList, x1.toList) = (y0.toList, y1.toList) then Lab.cmpP (keyL t0) (keyL t1) else 1)
      simp only [Lab.lessL]
      generalize x0.toList = a
      generalize x1.toList = b
      generalize y0.toList = c
      generalize y1.toList = d
      rcases Lab.bl_total a c with e1 | e1 | e1
      · simp [e1]
      · subst e1
        rcases Lab.bl_total b d with e3 | e3 | e3
        · simp [Lab.bl_irrefl, e3]
        · subst e3; simp [Lab.bl_irrefl]
        · have e4 := Lab.bl_asymm e3
          have e5 : b ≠ d := fun e => by rw [e, Lab.bl_irrefl] at e3; cases e3
          simp [Lab.bl_irrefl, e3, e4, e5]
      · have e4 := Lab.bl_asymm e1
        have e5 : a ≠ c := fun e => by rw [e, Lab.bl_irrefl] at e1; cases e1
        simp [e1, e4, e5]
    · exact ih k i n hn hb hi (by omega) (by omega)
theorem compare5_val (l0 l1 : List S128) (k : Nat) (hk : min l0.length l1.length < k) (hb : min l0.length l1.length ≤ 9223372036854775806) : manometerref05_Compare.f k l0 l1 = some (Lab.cmpP (keyL l0) (keyL l1)) := by
  unfold manometerref05_Compare.f
  have := compare5_go l0 l1 (min l0.length l1.length) k 0 (mn (l0.length : Int) (l1.length : Int)) (by unfold mn; omega) hb (by omega) (by omega) hk
  simpa using this
theorem same5_go (l0 l1 : List S128) (hl : l0.length = l1.length) (hb : l0.length ≤ 9223372036854775806) : ∀ (m k i : Nat), i ≤ l0.length → l0.length - i ≤ m → m < k → manometerref05_Same.l0 k l0 l1 (l0.length : Int) (i : Int) = some (decide (keyL (l0.drop i) = keyL (l1.drop i))) := by
  intro m
  induction m with
  | zero =>
    intro k i hi hm hk
    obtain ⟨k, rfl⟩ : ∃ q, k = q + 1 := ⟨k - 1, by omega⟩
    simp only [manometerref05_Same.l0]
    rw [if_neg (by omega), List.drop_eq_nil_of_le (by omega), List.drop_eq_nil_of_le (by omega)]; simp
  | succ m ih =>
    intro k i hi hm hk
    by_cases hlt : i < l0.length
    · obtain ⟨k, rfl⟩ : ∃ q, k = q + 1 := ⟨k - 1, by omega⟩
      have d0 : l0.drop i = l0[i]'(by omega) :: l0.drop (i + 1) := List.drop_eq_getElem_cons (by omega)
      have d1 : l1.drop i = l1[i]'(by omega) :: l1.drop (i + 1) := List.drop_eq_getElem_cons (by omega)
      have r0 := rd128_get (l := l0) (i := i) (by omega)
      have r1 := rd128_get (l := l1) (i := i) (by omega)
      have hw : wrap64 ((i : Int) + 1) = ((i + 1 : Nat) : Int) := by unfold wrap64; omega
      have go := ih k (i + 1) (by omega) (by omega) (by omega)
      rw [d0, d1]
      simp only [manometerref05_Same.l0]
      rw [if_pos (by omega), if_pos (by omega), if_pos (by omega), if_pos (by omega), r0, r1, hw, go]
      generalize (l0[i]'(by omega)) = x
      generalize (l1[i]'(by omega)) = y
      obtain ⟨x0, x1⟩ := x
      obtain ⟨y0, y1⟩ := y
      simp only [keyL, List.map_cons, List.cons.injEq, Prod.mk.injEq]
      by_cases e1 : x0.toList = y0.toList
      · by_cases e2 : x1.toList = y1.toList
        · simp [e1, e2]
        · simp [e1, e2]
      · simp [e1]
    · exact ih k i hi (by omega) (by omega)
theorem same5_val (l0 l1 : List S128) (k : Nat) (hk : l0.length < k) (hb : l0.length ≤ 9223372036854775806) : manometerref05_Same.f k l0 l1 = some (decide (keyL l0 = keyL l1)) := by
  unfold manometerref05_Same.f
  by_cases h : l0.length = l1.length
  · rw [if_pos (by omega)]
    have := same5_go l0 l1 h hb l0.length k 0 (by omega) (by omega) hk
    simpa using this
  · rw [if_neg (by omega)]
    have : keyL l0 ≠ keyL l1 := fun e => h (by have := congrArg List.length e; simpa [keyL] using this)
    simp [this]

/-- an element goes to its place -/
theorem put_go (x : S33) (hx : x.f0.length ≤ 20) : ∀ (v out : List S33) (k : Nat), Lab.Asc keyE v → (∀ y ∈ v, y.f0.length ≤ 20) → out.length + v.length ≤ 100 → v.length + 100 < k → manometerref27_put.l0 k v out x.f0 x.f1 = some (if (v.any fun y => decide (keyE y = keyE x)) = true then ([], false) else (out ++ Lab.insK keyE x v, true)) := by
  intro v
  induction v with
  | nil =>
    intro out k _ _ hl hk
    obtain ⟨k, rfl⟩ : ∃ q, k = q + 1 := ⟨k - 1, by omega⟩
    simp only [manometerref27_put.l0]
    rw [if_neg (by simp), if_pos (by simp at hl; omega), Option.bind_some, if_pos (by simp at hl; simp; omega)]
    simp [Lab.insK]
  | cons y t ih =>
    intro out k ha hy hl hk
    obtain ⟨k, rfl⟩ : ∃ q, k = q + 1 := ⟨k - 1, by omega⟩
    simp only [List.length_cons] at hl hk
    have hy0 := hy y (by simp)
    obtain ⟨a1, a2⟩ := List.pairwise_cons.1 ha
    have hr : rd_T33 (y :: t) 0 = y := rfl
    have hc := compare5_val y.f0 x.f0 k (by omega) (by omega)
    have hs := same5_val y.f0 x.f0 k (by omega) (by omega)
    simp only [manometerref27_put.l0]
    rw [if_pos (by simp only [List.length_cons]; omega), if_pos (by simp only [List.length_cons]; omega), hr, hc, Option.bind_some]
    show (if Lab.cmpP (keyE y) (keyE x) < 0 then _ else _) = _
    by_cases c : Lab.cmpP (keyE y) (keyE x) < 0
    · rw [if_pos c, if_pos (by omega), if_pos (by simp; omega)]
      have ne : keyE y ≠ keyE x := fun e => by rw [e, Lab.cmpP_self] at c; omega
      have := ih (out ++ [y]) k a2 (fun z hz => hy z (by simp [hz])) (by simp; omega) (by omega)
      show manometerref27_put.l0 k t (out ++ [y]) x.f0 x.f1 = _
      rw [this]
      have e2 : Lab.insK keyE x (y :: t) = y :: Lab.insK keyE x t := by show (if Lab.cmpP (keyE y) (keyE x) < 0 then _ else _) = _; rw [if_pos c]
      rw [e2]
      simp [ne]
    · rw [if_neg c, hs, Option.bind_some]
      by_cases e : keyE y = keyE x
      · have e' : keyL y.f0 = keyL x.f0 := e
        rw [if_pos (by simp [e']), if_pos (by simp [e])]
      · have e' : ¬ keyL y.f0 = keyL x.f0 := e
        have nx : Lab.cmpP (keyE x) (keyE y) < 0 := by
          rcases Lab.cmpP_cases (keyE y) (keyE x) with ⟨h, _, _⟩ | ⟨_, h⟩ | ⟨h, h2, _⟩
          · omega
          · exact absurd h e
          · omega
        have none' : ((y :: t).any fun y => decide (keyE y = keyE x)) = false := by
          rw [List.any_eq_false]
          intro z hz
          rcases List.mem_cons.1 hz with rfl | hz
          · simpa using e
          · have h3 := Lab.cmpP_trans _ _ _ nx (a1 z hz)
            simp only [decide_eq_true_eq]
            intro h4
            rw [h4, Lab.cmpP_self] at h3; omega
        have e2 : Lab.insK keyE x (y :: t) = x :: y :: t := by show (if Lab.cmpP (keyE y) (keyE x) < 0 then _ else _) = _; rw [if_neg c]
        rw [if_neg (by simp [e']), if_pos (by omega), Option.bind_some, if_pos (by simp; omega), none', if_neg (by decide), e2]
        simp
theorem put_val (v : List S33) (x : S33) (hx : x.f0.length ≤ 20) (k : Nat) (ha : Lab.Asc keyE v) (hy : ∀ y ∈ v, y.f0.length ≤ 20) (hl : v.length ≤ 100) (hk : v.length + 100 < k) : manometerref27_put.f k v x.f0 x.f1 = some (if (v.any fun y => decide (keyE y = keyE x)) = true then ([], false) else (Lab.insK keyE x v, true)) := by
  unfold manometerref27_put.f
  rw [put_go x hx v [] k ha hy (by simpa using hl) hk]; simp

theorem sort27_go (l : List S33) (hl : l.length ≤ 24) (hx : ∀ x ∈ l, x.f0.length ≤ 20) : ∀ (m k i : Nat), i ≤ l.length → l.length - i ≤ m → m + 300 < k → Lab.Free keyE (l.take i) → manometerref27_Sort.l0 k (Lab.sortK keyE (l.take i)) l (l.length : Int) (i : Int) = some ((ordV l).1, if (ordV l).2 = true then 0 else 52) := by
  intro m
  induction m with
  | zero =>
    intro k i hi hm hk hf
    obtain ⟨k, rfl⟩ : ∃ q, k = q + 1 := ⟨k - 1, by omega⟩
    rw [List.take_of_length_le (by omega)] at hf ⊢
    simp only [manometerref27_Sort.l0]
    have e : ordV l = (Lab.sortK keyE l, true) := by unfold ordV; rw [if_pos hf]
    rw [if_neg (by omega), e]; simp
  | succ m ih =>
    intro k i hi hm hk hf
    by_cases hlt : i < l.length
    · obtain ⟨k, rfl⟩ : ∃ q, k = q + 1 := ⟨k - 1, by omega⟩
      have hw : wrap64 ((i : Int) + 1) = ((i + 1 : Nat) : Int) := by unfold wrap64; omega
      have ht : l.take (i + 1) = l.take i ++ [l[i]] := List.take_succ_eq_append_getElem hlt
      have hp := Lab.sortK_perm keyE (l.take i)
      have hfs : Lab.Free keyE (Lab.sortK keyE (l.take i)) := (Lab.free_perm hp).2 hf
      have hasc := Lab.asc_of (Lab.sortK_weak (key := keyE) (l.take i)) hfs
      have hlen : (Lab.sortK keyE (l.take i)).length = i := by rw [hp.length_eq, List.length_take]; omega
      have hpv := put_val (Lab.sortK keyE (l.take i)) l[i] (hx _ (List.getElem_mem hlt)) k hasc (fun y hy => hx y (List.mem_of_mem_take (hp.mem_iff.1 hy))) (by omega) (by omega)
      simp only [manometerref27_Sort.l0]
      rw [if_pos (by omega), if_pos (by omega), if_pos (by omega), rd33_get hlt, hpv, Option.bind_some, hw]
      by_cases e : ((Lab.sortK keyE (l.take i)).any fun y => decide (keyE y = keyE l[i])) = true
      · rw [if_pos e, if_neg (by decide)]
        have nf : ¬ Lab.Free keyE l := by
          intro h
          obtain ⟨y, hy, hyx⟩ := List.any_eq_true.1 e
          have hyx : keyE y = keyE l[i] := by simpa using hyx
          have hm := hp.mem_iff.1 hy
          have h2 : Lab.Free keyE (l.take i ++ l.drop i) := by rw [List.take_append_drop]; exact h
          have h3 := (List.pairwise_append.1 h2).2.2 y hm l[i] (by rw [List.drop_eq_getElem_cons hlt]; exact List.mem_cons_self)
          exact h3 ((Lab.cmpP_zero _ _).2 hyx)
        have e0 : ordV l = ([], false) := by unfold ordV; rw [if_neg nf]
        rw [e0]; simp
      · rw [if_neg e, if_pos rfl]
        have hf2 : Lab.Free keyE (l.take (i + 1)) := by
          rw [ht]
          refine List.pairwise_append.2 ⟨hf, by simp, fun y hy z hz => ?_⟩
          rw [List.mem_singleton] at hz
          subst hz
          intro h
          exact e (List.any_eq_true.2 ⟨y, hp.mem_iff.2 hy, by simpa using (Lab.cmpP_zero _ _).1 h⟩)
        have hs : Lab.insK keyE l[i] (Lab.sortK keyE (l.take i)) = Lab.sortK keyE (l.take (i + 1)) := by
          refine Lab.sortK_of_weak (Lab.insK_weak _ _ (Lab.sortK_weak _)) ?_ hf2
          refine ((Lab.insK_perm keyE _ _).trans (hp.cons _)).trans ?_
          rw [ht]
          exact (List.perm_append_comm (l₁ := [l[i]]) (l₂ := l.take i))
        show manometerref27_Sort.l0 k (Lab.insK keyE l[i] (Lab.sortK keyE (l.take i))) l (l.length : Int) ((i + 1 : Nat) : Int) = _
        rw [hs]
        exact ih k (i + 1) (by omega) (by omega) (by omega) hf2
    · exact ih k i hi (by omega) (by omega) hf
theorem sort27_val (l : List S33) (hl : l.length ≤ 24) (hx : ∀ x ∈ l, x.f0.length ≤ 20) (k : Nat) (hk : 400 < k) : manometerref27_Sort.f k l = some ((ordV l).1, if (ordV l).2 = true then 0 else 52) := by
  unfold manometerref27_Sort.f
  exact sort27_go l hl hx 24 k 0 (by omega) (by omega) (by omega) (by simp [Lab.Free])

theorem right_go (l : List S33) (hl : l.length ≤ 24) (hx : ∀ x ∈ l, x.f0.length ≤ 20) (B : Nat) (hs : ∀ x ∈ l, ∀ y ∈ x.f0, y.f0.size ≤ 9223372036854775807 ∧ y.f0.size ≤ B) : ∀ (m k i : Nat), i ≤ l.length → l.length - i ≤ m → m + B + 400 < k → ∃ c, eval_Right.l0 k l l (l.length : Int) (i : Int) = some c ∧ manometerref27_Right.l0 k l l (l.length : Int) (i : Int) = some c := by
  intro m
  induction m with
  | zero =>
    intro k i hi hm hk
    obtain ⟨k, rfl⟩ : ∃ q, k = q + 1 := ⟨k - 1, by omega⟩
    simp only [eval_Right.l0, manometerref27_Right.l0]
    rw [if_neg (by omega), if_neg (by omega)]
    exact ⟨_, rfl, rfl⟩
  | succ m ih =>
    intro k i hi hm hk
    by_cases hlt : i < l.length
    · obtain ⟨k, rfl⟩ : ∃ q, k = q + 1 := ⟨k - 1, by omega⟩
      have hw : wrap64 ((i : Int) + 1) = ((i + 1 : Nat) : Int) := by unfold wrap64; omega
      obtain ⟨c, g1, g2⟩ := ih k (i + 1) (by omega) (by omega) (by omega)
      obtain ⟨e, r1, r2⟩ := right5_val (l[i]).f0 B (hs _ (List.getElem_mem hlt)) k (by omega)
      simp only [eval_Right.l0, manometerref27_Right.l0]
      have f1 : (i : Int) < (l.length : Int) := by omega
      have f2 : (0 : Int) ≤ (i : Int) := by omega
      simp only [f1, f2, if_true, rd33_get hlt, hw, r1, r2, Option.bind_some]
      by_cases a1 : e = 0
      · rw [if_pos a1, if_pos a1]
        by_cases a4 : (i : Int) > 0
        · have hw2 : wrap64 ((i : Int) - 1) = ((i - 1 : Nat) : Int) := by unfold wrap64; omega
          have hlt2 : i - 1 < l.length := by omega
          have b1 := hx _ (List.getElem_mem hlt)
          have b2 := hx _ (List.getElem_mem hlt2)
          have f3 : ((i - 1 : Nat) : Int) < (l.length : Int) := by omega
          have f4 : (0 : Int) ≤ ((i - 1 : Nat) : Int) := by omega
          have x1 := compare_val (l[i - 1]).f0 (l[i]).f0 k (by omega) (by omega)
          have x2 := compare5_val (l[i]).f0 (l[i - 1]).f0 k (by omega) (by omega)
          simp only [a4, hw2, f3, f4, if_true, rd33_get hlt2, x1, x2, Option.bind_some]
          have fl := Lab.cmpP_flip (keyL (l[i - 1]).f0) (keyL (l[i]).f0)
          by_cases a5 : Lab.cmpP (keyL (l[i - 1]).f0) (keyL (l[i]).f0) ≥ 0
          · rw [if_pos a5, if_pos (by omega)]; exact ⟨false, rfl, rfl⟩
          · rw [if_neg a5, if_neg (by omega)]; exact ⟨c, g1, g2⟩
        · rw [if_neg a4, if_neg a4]; exact ⟨c, g1, g2⟩
      · rw [if_neg a1, if_neg a1]; exact ⟨false, rfl, rfl⟩
    · exact ih k i hi (by omega) (by omega)
theorem right_val (l : List S33) (hl : l.length ≤ 24) (hx : ∀ x ∈ l, x.f0.length ≤ 20) (B : Nat) (hs : ∀ x ∈ l, ∀ y ∈ x.f0, y.f0.size ≤ 9223372036854775807 ∧ y.f0.size ≤ B) (k : Nat) (hk : B + 500 < k) : ∃ c, eval_Right.f k l = some c ∧ manometerref27_Right.f k l = some c := by
  unfold eval_Right.f manometerref27_Right.f
  exact right_go l hl hx B hs 24 k 0 (by omega) (by omega) (by omega)

theorem le_sum {α : Type} (f : α → Nat) : ∀ (l : List α) (x : α), x ∈ l → f x ≤ (l.map f).sum
  | y :: t, x, h => by
    rw [List.map_cons, List.sum_cons]
    rcases List.mem_cons.1 h with rfl | h
    · omega
    · have := le_sum f t x h; omega
/-- THE LAW -/
theorem evalSorts_pure (l : List S33) (hs : szOk l) : ∃ k, manometerlaw27_EvalSorts.f k l = some true := by
  obtain ⟨B, hB⟩ : ∃ B, ∀ x ∈ l, ∀ y ∈ x.f0, y.f0.size ≤ 9223372036854775807 ∧ y.f0.size ≤ B :=
    ⟨(l.map fun x => (x.f0.map fun y => y.f0.size).sum).sum, fun x hx y hy => ⟨hs x hx y hy, Nat.le_trans (le_sum (fun y : S128 => y.f0.size) x.f0 y hy) (le_sum (fun x : S33 => (x.f0.map fun y => y.f0.size).sum) l x hx)⟩⟩
  refine ⟨B + 3001, ?_⟩
  unfold manometerlaw27_EvalSorts.f
  rw [live4_some (by omega), Option.bind_some, if_pos rfl]
  have hj : manometerlaw27_EvalSorts.j0 (B + 3001) l true = some true := by
    simp only [manometerlaw27_EvalSorts.j0, if_true]
    rw [live4_some (by omega)]; rfl
  obtain ⟨b, e, h⟩ := few_val l (B + 3001) (by omega)
  rw [e, Option.bind_some]
  cases b with
  | false => exact hj
  | true =>
    obtain ⟨h1, h2⟩ := h rfl
    obtain ⟨c, r1, r2⟩ := right_val l h1 h2 B hB (B + 3000) (by omega)
    have ps := Lab.sortK_perm keyE l
    have hsm : manometerref27_Same.f (B + 3000) (ordV l).1 (ordV l).1 = some true := by
      unfold ordV
      split
      · exact same27_self _ (by rw [ps.length_eq]; omega) (fun x h => by have := h2 x (ps.mem_iff.1 h); omega) _ (by rw [ps.length_eq]; omega)
      · exact same27_self _ (by simp) (fun x h => by simp at h) _ (by simp only [List.length_nil]; omega)
    show manometerlaw27_EvalSorts.j0 (B + 3001) l (!true) = _
    simp only [manometerlaw27_EvalSorts.j0, Bool.not_true, Bool.false_eq_true, if_false]
    rw [sort_val l h1 h2, Option.bind_some, sort27_val l h1 h2 (B + 3000) (by omega), Option.bind_some]
    simp only [hsm, Option.bind_some, if_true, r1, r2, beq_self_eq_true]
end Go.Proofs.YthhbbmebfmfgjaaGreatDoor.PD
