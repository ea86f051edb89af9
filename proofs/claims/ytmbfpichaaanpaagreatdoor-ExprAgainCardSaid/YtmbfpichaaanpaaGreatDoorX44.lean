import Derived.Test.YtmbfpichaaanpaaGreatDoorX43
/-! Expressions as trees, plainly. -/
namespace Go.Proofs.YtmbfpichaaanpaaGreatDoor
open Go.RowKit Ut Rx Mt
namespace Ex
inductive Tr where
  | lf (n : Nd)
  | un (n : Nd) (b : Tr)
  | bi (n : Nd) (a b : Tr)
def Tr.nds : Tr → List Nd
  | .lf n => [n]
  | .un n b => b.nds ++ [n]
  | .bi n a b => a.nds ++ b.nds ++ [n]
def Tr.root : Tr → Nd
  | .lf n => n
  | .un n _ => n
  | .bi n _ _ => n
def Tr.ty : Tr → Int
  | .lf n => n.k + 1
  | .un n b => oneE n b.ty
  | .bi n a b => twoE n a.ty b.ty
def Tr.ok : Tr → Prop
  | .lf n => takesE n = 0 ∧ aloneE n = 0
  | .un n b => takesE n = 1 ∧ aloneE n = 0 ∧ oneE n b.ty ≠ 0 ∧ b.ok
  | .bi n a b => takesE n = 2 ∧ aloneE n = 0 ∧ twoE n a.ty b.ty ≠ 0 ∧ a.ok ∧ b.ok
def txt (f : Fl) : Tr → List UInt8
  | .lf n => if n.k = 0 then numE f n.v else if n.k = 1 then selT n.sel else selT n.sel ++ [91] ++ digF n.wd ++ [93]
  | .un n b => if n.k = 3 then nthT callsT n.op ++ [40] ++ txt f b ++ [41] else if n.k = 4 then [40, 45] ++ txt f b ++ [41] else nthT aggsT n.op ++ groupT n ++ [40] ++ txt f b ++ [41]
  | .bi n a b => if n.k = 5 then pairT (txt f a) (nthT binsT n.op) (txt f b) else
    if n.k = 6 then pairT (txt f a) (nthT cmpsT n.op ++ (if n.bl then [32, 98, 111, 111, 108] else [])) (txt f b) else
    if n.k = 7 then pairT (txt f a) (nthT setsT n.op) (txt f b) else
    nthT aggsT n.op ++ groupT n ++ [40] ++ txt f a ++ [44, 32] ++ txt f b ++ [41]
theorem Tr.pos (T : Tr) : 1 ≤ T.nds.length := by
  cases T <;> simp [Tr.nds] <;> omega
/-- a stack of trees -/
def Fr (F : List Tr) : List Nd := F.reverse.flatMap Tr.nds
theorem Fr_cons (T : Tr) (F : List Tr) : Fr (T :: F) = Fr F ++ T.nds := by
  unfold Fr
  simp
theorem stepE_tree {n : Nd} {st st2 : List Int} {F : List Tr} (h : stepE n st = .ok st2) (hF : F.map Tr.ty = st) (ho : ∀ T ∈ F, T.ok) : ∃ F2 : List Tr, F2.map Tr.ty = st2 ∧ (∀ T ∈ F2, T.ok) ∧ Fr F2 = Fr F ++ [n] := by
  unfold stepE at h
  split at h
  · cases h
  · rename_i hal
    have hal : aloneE n = 0 := by simpa using hal
    split at h
    · cases h
    · have leaf : takesE n = 0 → st2 = (n.k + 1) :: st → ∃ F2 : List Tr, F2.map Tr.ty = st2 ∧ (∀ T ∈ F2, T.ok) ∧ Fr F2 = Fr F ++ [n] := fun ht e => by
        refine ⟨.lf n :: F, by rw [List.map_cons, hF, e]; rfl, fun T hT => ?_, by rw [Fr_cons]; rfl⟩
        rcases List.mem_cons.1 hT with rfl | hT
        · exact ⟨ht, hal⟩
        · exact ho T hT
      split at h
      · rename_i hk
        cases h
        exact leaf (by unfold takesE; simp [hk]) (by rw [hk]; rfl)
      · split at h
        · rename_i hk
          cases h
          exact leaf (by unfold takesE; simp [hk]) (by rw [hk]; rfl)
        · split at h
          · rename_i hk
            cases h
            exact leaf (by unfold takesE; simp [hk]) (by rw [hk]; rfl)
          · rename_i k0 k1 k2
            split at h
            · rename_i ht
              cases F with
              | nil => rw [List.map_nil] at hF; subst hF; simp at h
              | cons b F' =>
                rw [List.map_cons] at hF
                subst hF
                simp only at h
                split at h
                · cases h
                · rename_i hty
                  cases h
                  refine ⟨.un n b :: F', rfl, fun T hT => ?_, by rw [Fr_cons, Fr_cons]; simp [Tr.nds]⟩
                  rcases List.mem_cons.1 hT with rfl | hT
                  · exact ⟨ht, hal, hty, ho b (List.mem_cons_self ..)⟩
                  · exact ho T (List.mem_cons_of_mem _ hT)
            · rename_i ht1
              cases F with
              | nil => rw [List.map_nil] at hF; subst hF; simp at h
              | cons b F' =>
                cases F' with
                | nil => rw [List.map_cons, List.map_nil] at hF; subst hF; simp at h
                | cons a F'' =>
                  rw [List.map_cons, List.map_cons] at hF
                  subst hF
                  simp only at h
                  split at h
                  · cases h
                  · rename_i hty
                    cases h
                    have ht2 : takesE n = 2 := by
                      have harg : argE n = false := by
                        unfold aloneE at hal
                        split at hal
                        · cases hal
                        · rename_i h; simpa using h
                      unfold argE at harg
                      simp only [Bool.or_eq_false_iff, decide_eq_false_iff_not] at harg
                      have hop : ¬ opsE n.k < 0 := harg.1.1.1.1
                      unfold opsE at hop
                      unfold takesE at ht1 ⊢
                      split
                      · omega
                      · split
                        · split
                          · rfl
                          · rename_i h8 h5
                            rw [if_neg (by omega), if_pos h8, if_neg h5] at ht1
                            exact absurd rfl ht1
                        · split
                          · rename_i h8 h34
                            rw [if_neg (by omega), if_neg h8, if_pos h34] at ht1
                            exact absurd rfl ht1
                          · rename_i h8 h34
                            rw [if_pos]
                            by_cases h5 : n.k = 5
                            · exact Or.inl h5
                            · by_cases h6 : n.k = 6
                              · exact Or.inr (Or.inl h6)
                              · by_cases h7 : n.k = 7
                                · exact Or.inr (Or.inr h7)
                                · exfalso
                                  apply hop
                                  rw [if_neg (by omega), if_neg (by omega), if_neg h5, if_neg h6, if_neg h7, if_neg h8]
                                  decide
                    refine ⟨.bi n a b :: F'', rfl, fun T hT => ?_, by rw [Fr_cons, Fr_cons, Fr_cons]; simp [Tr.nds]⟩
                    rcases List.mem_cons.1 hT with rfl | hT
                    · exact ⟨ht2, hal, hty, ho a (List.mem_cons_of_mem _ (List.mem_cons_self ..)), ho b (List.mem_cons_self ..)⟩
                    · exact ho T (List.mem_cons_of_mem _ (List.mem_cons_of_mem _ hT))
theorem checkGo_tree : ∀ (e : List Nd) (st st2 : List Int) (F : List Tr), checkGo e st = .ok st2 → F.map Tr.ty = st → (∀ T ∈ F, T.ok) → ∃ F2 : List Tr, F2.map Tr.ty = st2 ∧ (∀ T ∈ F2, T.ok) ∧ Fr F2 = Fr F ++ e
  | [], st, st2, F, h, hF, ho => by
    rw [checkGo] at h
    cases h
    exact ⟨F, hF, ho, by simp⟩
  | n :: t, st, st2, F, h, hF, ho => by
    rw [checkGo] at h
    cases hs : stepE n st with
    | error x => rw [hs] at h; cases h
    | ok st1 =>
      rw [hs] at h
      obtain ⟨F1, h1, h2, h3⟩ := stepE_tree hs hF ho
      obtain ⟨F2, h4, h5, h6⟩ := checkGo_tree t st1 st2 F1 h h1 h2
      exact ⟨F2, h4, h5, by rw [h6, h3]; simp⟩
theorem stepE_err {n : Nd} {st : List Int} {x : Int} (h : stepE n st = .error x) : x ≠ 0 := by
  unfold stepE at h
  split at h
  · rename_i hal; cases h; exact hal
  · split at h
    · cases h; decide
    · split at h
      · cases h
      · split at h
        · cases h
        · split at h
          · cases h
          · split at h
            · split at h
              · split at h
                · cases h; decide
                · cases h
              · cases h; decide
            · split at h
              · split at h
                · cases h; decide
                · cases h
              · cases h; decide
theorem checkGo_err : ∀ (e : List Nd) (st : List Int) (x : Int), checkGo e st = .error x → x ≠ 0
  | [], st, x, h => by rw [checkGo] at h; cases h
  | n :: t, st, x, h => by
    rw [checkGo] at h
    cases hs : stepE n st with
    | error y => rw [hs] at h; cases h; exact stepE_err hs
    | ok st1 => rw [hs] at h; exact checkGo_err t st1 x h
/-- an expression is a tree -/
theorem check_tree {e : List Nd} (h : (checkE e).2 = 0) : ∃ T : Tr, T.nds = e ∧ T.ok ∧ T.ty = (checkE e).1 ∧ T.ty ≠ 3 ∧ e.length ≤ 64 := by
  unfold checkE at h ⊢
  split at h
  · cases h
  · rename_i h64
    rw [if_neg h64]
    cases hg : checkGo e [] with
    | error x =>
      rw [hg] at h
      simp only at h
      exact absurd h (checkGo_err e [] x hg)
    | ok st =>
      rw [hg] at h
      obtain ⟨F, h1, h2, h3⟩ := checkGo_tree e [] st [] hg rfl (fun T hT => by cases hT)
      cases F with
      | nil => rw [List.map_nil] at h1; subst h1; simp at h
      | cons T F' =>
        cases F' with
        | nil =>
          rw [List.map_cons, List.map_nil] at h1
          subst h1
          simp only at h ⊢
          split at h
          · cases h
          · rename_i h3'
            rw [if_neg h3']
            exact ⟨T, by rw [Fr_cons] at h3; simpa [Fr] using h3, h2 T (List.mem_cons_self ..), rfl, h3', by omega⟩
        | cons T2 F2 =>
          rw [List.map_cons, List.map_cons] at h1
          subst h1
          simp at h
/-! ### where parts begin -/
theorem get_root (pre post : List Nd) (T : Tr) : (pre ++ T.nds ++ post)[pre.length + T.nds.length - 1]? = some T.root := by
  have key : ∀ (a : List Nd) (n : Nd) (post : List Nd) (pre : List Nd), (pre ++ (a ++ [n]) ++ post)[pre.length + (a ++ [n]).length - 1]? = some n := by
    intro a n post pre
    rw [List.append_assoc, List.getElem?_append_right (by rw [List.length_append, List.length_singleton]; omega)]
    rw [show pre.length + (a ++ [n]).length - 1 - pre.length = a.length from by rw [List.length_append, List.length_singleton]; omega]
    rw [List.append_assoc, List.getElem?_append_right (Nat.le_refl _)]
    simp
  cases T with
  | lf n => exact key [] n post pre
  | un n b => exact key b.nds n post pre
  | bi n a b => exact key (a.nds ++ b.nds) n post pre
theorem beginGo_at (e : List Nd) (i : Nat) (need : Int) : beginGo e i need = match e[i]? with
    | none => -1
    | some n => if takesE n < 0 then -1 else if need + (takesE n - 1) = 0 then (i : Int) else match i with | 0 => -1 | i + 1 => beginGo e i (need + (takesE n - 1)) := by
  cases i <;> (conv => lhs; unfold beginGo) <;> rfl
theorem begin_tree : ∀ (T : Tr), T.ok → ∀ (pre post : List Nd) (need : Int), 1 ≤ need → beginGo (pre ++ T.nds ++ post) (pre.length + T.nds.length - 1) need = if need = 1 then (pre.length : Int) else match pre.length with | 0 => -1 | p + 1 => beginGo (pre ++ T.nds ++ post) p (need - 1) := by
  intro T
  induction T with
  | lf n =>
    intro ho pre post need hn
    rw [beginGo_at, get_root]
    simp only [Tr.root, Tr.nds, List.length_singleton, ho.1]
    rw [if_neg (by decide), show pre.length + 1 - 1 = pre.length from by omega, show need + (0 - 1) = need - 1 from by omega]
    by_cases h1 : need = 1
    · rw [if_pos (by omega), if_pos h1]
    · rw [if_neg (by omega), if_neg h1]
  | un n b ih =>
    intro ho pre post need hn
    have hp := b.pos
    rw [beginGo_at, get_root]
    simp only [Tr.root, Tr.nds, List.length_append, List.length_singleton, ho.1]
    rw [if_neg (by decide), if_neg (by omega), show need + (1 - 1) = need from by omega]
    obtain ⟨m, hm⟩ : ∃ m, pre.length + (b.nds.length + 1) - 1 = m + 1 := ⟨pre.length + b.nds.length - 1, by omega⟩
    rw [hm]
    simp only
    have e : m = pre.length + b.nds.length - 1 := by omega
    rw [e]
    have := ih ho.2.2.2 pre ([n] ++ post) need hn
    rw [show pre ++ b.nds ++ ([n] ++ post) = pre ++ (b.nds ++ [n]) ++ post from by simp] at this
    exact this
  | bi n a b iha ihb =>
    intro ho pre post need hn
    have hpa := a.pos
    have hpb := b.pos
    rw [beginGo_at, get_root]
    simp only [Tr.root, Tr.nds, List.length_append, List.length_singleton, ho.1]
    rw [if_neg (by decide), if_neg (by omega), show need + (2 - 1) = need + 1 from by omega]
    obtain ⟨m, hm⟩ : ∃ m, pre.length + (a.nds.length + b.nds.length + 1) - 1 = m + 1 := ⟨pre.length + a.nds.length + b.nds.length - 1, by omega⟩
    rw [hm]
    simp only
    have e : m = (pre ++ a.nds).length + b.nds.length - 1 := by rw [List.length_append]; omega
    rw [e]
    have hb := ihb ho.2.2.2.2 (pre ++ a.nds) ([n] ++ post) (need + 1) (by omega)
    rw [if_neg (by omega)] at hb
    rw [show pre ++ a.nds ++ b.nds ++ ([n] ++ post) = pre ++ (a.nds ++ b.nds ++ [n]) ++ post from by simp] at hb
    rw [hb]
    obtain ⟨m2, hm2⟩ : ∃ m, (pre ++ a.nds).length = m + 1 := ⟨pre.length + a.nds.length - 1, by rw [List.length_append]; omega⟩
    rw [hm2]
    simp only
    have e2 : m2 = pre.length + a.nds.length - 1 := by rw [List.length_append] at hm2; omega
    rw [e2]
    have ha := iha ho.2.2.2.1 pre (b.nds ++ [n] ++ post) need hn
    rw [show pre ++ a.nds ++ (b.nds ++ [n] ++ post) = pre ++ (a.nds ++ b.nds ++ [n]) ++ post from by simp] at ha
    rw [show need + 1 - 1 = need from by omega]
    exact ha
theorem begin_of (T : Tr) (ho : T.ok) (pre post : List Nd) : beginE (pre ++ T.nds ++ post) ((pre.length + T.nds.length : Nat) - 1 : Int) = pre.length := by
  have hp := T.pos
  unfold beginE
  rw [if_neg (by simp only [List.length_append]; omega), show (((pre.length + T.nds.length : Nat) - 1 : Int)).toNat = pre.length + T.nds.length - 1 from by omega, begin_tree T ho pre post 1 (by decide), if_pos rfl]
end Ex
end Go.Proofs.YtmbfpichaaanpaaGreatDoor

/-! Expressions printed: how long the texts are; a node is loaded. -/
namespace Go.Proofs.YtmbfpichaaanpaaGreatDoor
open Go.RowKit Ut Rx Mt
namespace Ex
/-- a node of a size that memory has -/
structure NdSz (n : Nd) : Prop where
  sl : n.sel.length ≤ 100000
  ss : ∀ m ∈ n.sel, m.n.size ≤ 100000 ∧ m.v.size ≤ 100000
  nl : n.nm.length ≤ 1000
  ns : ∀ s ∈ n.nm, s.size ≤ 1000000
theorem digGo_len : ∀ f n, (digGo f n).length ≤ f + 1
  | 0, n => by simp [digGo]
  | f + 1, n => by
    unfold digGo
    split
    · simp
    · have := digGo_len f (n / 10)
      rw [List.length_append, List.length_singleton]; omega
theorem hexF_len : ∀ k v, (hexF k v).length = k
  | 0, v => rfl
  | k + 1, v => by
    unfold hexF
    rw [List.length_append, hexF_len k, List.length_singleton]
theorem numE_len (f : Fl) (v : Nat) : (numE f v).length ≤ 30 := by
  unfold numE
  split
  · have := digGo_len 20 (f.ws v).toNat
    unfold digF; omega
  · rw [List.length_cons, hexF_len]; omega
theorem nthT_len {l : List (List UInt8)} (h : ∀ x ∈ l, x.length ≤ 20) (i : Int) : (nthT l i).length ≤ 20 := by
  unfold nthT
  rw [List.getD_eq_getElem?_getD]
  cases hi : l[i.toNat]? with
  | none => simp
  | some x => exact h x (List.mem_of_getElem? hi)
theorem calls_len (i : Int) : (nthT callsT i).length ≤ 20 := nthT_len (by decide) i
theorem aggs_len (i : Int) : (nthT aggsT i).length ≤ 20 := nthT_len (by decide) i
theorem sets_len (i : Int) : (nthT setsT i).length ≤ 20 := nthT_len (by decide) i
theorem cmps_len (i : Int) : (nthT cmpsT i).length ≤ 20 := nthT_len (by decide) i
theorem bins_len (i : Int) : (nthT binsT i).length ≤ 20 := nthT_len (by decide) i
theorem joinC_len : ∀ l : List ByteArray, (∀ s ∈ l, s.size ≤ 1000000) → (joinC l).length ≤ l.length * 1000002
  | [], _ => by simp [joinC]
  | [s], h => by
    have := h s (List.mem_cons_self ..)
    have e : (by_ s).length = s.size := tl_len _
    simp only [joinC, List.length_singleton]
    omega
  | s :: a :: t, h => by
    have h1 := h s (List.mem_cons_self ..)
    have h2 := joinC_len (a :: t) (fun x hx => h x (List.mem_cons_of_mem _ hx))
    have e : (by_ s).length = s.size := tl_len _
    rw [joinC_cons s (a :: t) (by simp)]
    simp only [List.length_append, List.length_cons, List.length_nil] at *
    omega
theorem groupT_len {n : Nd} (h : NdSz n) : (groupT n).length ≤ 2000000000 := by
  unfold groupT
  have := joinC_len n.nm h.ns
  have h2 : n.nm.length * 1000002 ≤ 1000 * 1000002 := Nat.mul_le_mul_right _ h.nl
  split
  · simp
  · split <;> (simp only [List.length_append, List.length_cons, List.length_nil]; omega)
theorem selT_len {n : Nd} (h : NdSz n) : (selT n.sel).length ≤ 200000000000 := by
  have h1 := printF_len h.ss h.sl
  rw [selT_eq]
  split
  · omega
  · cases hs : n.sel with
    | nil => rw [hs] at h1; simp only; omega
    | cons m t =>
      have hm := oneM_len (h.ss m (by rw [hs]; exact List.mem_cons_self ..))
      rw [hs] at h1
      simp only
      split
      · simp only [List.length_append, List.length_cons, List.length_nil]; omega
      · simp only [List.length_append, List.length_cons, List.length_nil, List.length_drop]; omega
theorem txt_len (f : Fl) : ∀ T : Tr, (∀ n ∈ T.nds, NdSz n) → (txt f T).length ≤ T.nds.length * 1000000000000 := by
  intro T
  induction T with
  | lf n =>
    intro h
    have hn := h n (List.mem_singleton.2 rfl)
    have h1 := numE_len f n.v
    have h2 := selT_len hn
    have h3 := digGo_len 20 n.wd
    unfold txt
    simp only [Tr.nds, List.length_singleton]
    split
    · omega
    · split
      · omega
      · unfold digF
        simp only [List.length_append, List.length_cons, List.length_nil]; omega
  | un n b ih =>
    intro h
    have hn := h n (by simp [Tr.nds])
    have hb := ih (fun x hx => h x (by simp [Tr.nds, hx]))
    have h1 := calls_len n.op
    have h2 := aggs_len n.op
    have h3 := groupT_len hn
    unfold txt
    simp only [Tr.nds, List.length_append, List.length_singleton]
    split
    · simp only [List.length_append, List.length_cons, List.length_nil]; omega
    · split
      · simp only [List.length_append, List.length_cons, List.length_nil]; omega
      · simp only [List.length_append, List.length_cons, List.length_nil]; omega
  | bi n a b iha ihb =>
    intro h
    have hn := h n (by simp [Tr.nds])
    have ha := iha (fun x hx => h x (by simp [Tr.nds, hx]))
    have hb := ihb (fun x hx => h x (by simp [Tr.nds, hx]))
    have h1 := bins_len n.op
    have h2 := aggs_len n.op
    have h3 := groupT_len hn
    have h4 := cmps_len n.op
    have h5 := sets_len n.op
    unfold txt pairT
    simp only [Tr.nds, List.length_append, List.length_singleton]
    split
    · simp only [List.length_append, List.length_cons, List.length_nil]; omega
    · split
      · split <;> (simp only [List.length_append, List.length_cons, List.length_nil]; omega)
      · split
        · simp only [List.length_append, List.length_cons, List.length_nil]; omega
        · simp only [List.length_append, List.length_cons, List.length_nil]; omega
theorem alone_arg {n : Nd} (h : aloneE n = 0) : argE n = false := by
  cases ha : argE n with
  | false => rfl
  | true =>
    exfalso
    unfold aloneE at h
    rw [ha] at h
    simp at h
/-- the sign of a right node is one of its kind's -/
theorem alone_op {n : Nd} (h : aloneE n = 0) : 0 ≤ n.op ∧ (0 < opsE n.k → n.op < opsE n.k) := by
  have ha := alone_arg h
  unfold argE at ha
  simp only [Bool.or_eq_false_iff, decide_eq_false_iff_not, Bool.and_eq_false_iff, Bool.not_eq_false'] at ha
  obtain ⟨⟨⟨⟨h1, h2⟩, h3⟩, h4⟩, h5⟩ := ha
  refine ⟨by omega, fun hp => ?_⟩
  rcases h3 with h3 | h3 <;> omega
theorem takes_lf {n : Nd} (h : takesE n = 0) : n.k = 0 ∨ n.k = 1 ∨ n.k = 2 := by
  unfold takesE at h
  split at h
  · assumption
  · split at h
    · split at h <;> cases h
    · split at h
      · cases h
      · split at h <;> cases h
theorem takes_un {n : Nd} (h : takesE n = 1) : n.k = 3 ∨ n.k = 4 ∨ (n.k = 8 ∧ n.op ≠ 5) := by
  unfold takesE at h
  split at h
  · cases h
  · split at h
    · rename_i h8
      split at h
      · cases h
      · rename_i h5; exact Or.inr (Or.inr ⟨h8, h5⟩)
    · split at h
      · rename_i h34; omega
      · split at h <;> cases h
theorem takes_bi {n : Nd} (h : takesE n = 2) : n.k = 5 ∨ n.k = 6 ∨ n.k = 7 ∨ (n.k = 8 ∧ n.op = 5) := by
  unfold takesE at h
  split at h
  · cases h
  · split at h
    · rename_i h8
      split at h
      · rename_i h5; exact Or.inr (Or.inr (Or.inr ⟨h8, h5⟩))
      · cases h
    · split at h
      · cases h
      · split at h
        · rename_i h; omega
        · cases h
end Ex
end Go.Proofs.YtmbfpichaaanpaaGreatDoor
