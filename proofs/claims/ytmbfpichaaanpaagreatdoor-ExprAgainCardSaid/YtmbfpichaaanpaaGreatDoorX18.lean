import Derived.Test.YtmbfpichaaanpaaGreatDoorX17
/-! Matchers between braces, read. -/
namespace Go.Proofs.YtmbfpichaaanpaaGreatDoor
open Go.RowKit Ut Rx Mt

def consO (m : M) (r : Option (List M × List UInt8)) : Option (List M × List UInt8) := match r with | some (l, u) => some (m :: l, u) | none => none
def preO (a : List M) (r : Option (List M × List UInt8)) : Option (List M × List UInt8) := match r with | some (l, u) => some (a ++ l, u) | none => none
/-- matchers, up to } -/
def allP : Nat → List UInt8 → Option (List M × List UInt8)
  | 0, _ => none
  | n + 1, l => match eatF [125] l with
    | some u => some ([], u)
    | none => match oneP l with
      | none => none
      | some (m, r) => match eatF [44] r with
        | some r2 => consO m (allP n (bareF r2))
        | none => if r.head? = some 125 then consO m (allP n r) else none
theorem preO_nil (r : Option (List M × List UInt8)) : preO [] r = r := by cases r <;> rfl
theorem preO_one (a : List M) (m : M) (r : Option (List M × List UInt8)) : preO a (consO m r) = preO (a ++ [m]) r := by
  cases r with
  | none => rfl
  | some p => obtain ⟨x, u⟩ := p; simp [preO, consO]

theorem unqF_len : ∀ (n : Nat) (l v r : List UInt8), l.length ≤ n → unqF l = .ok (v, r) → r.length < l.length
  | 0, l, v, r, hn, h => by
    obtain rfl := List.eq_nil_of_length_eq_zero (Nat.le_zero.1 hn)
    rw [unqF.eq_def] at h; cases h
  | n + 1, l, v, r, hn, h => by
    cases l with
    | nil => rw [unqF.eq_def] at h; cases h
    | cons c t =>
      simp at hn
      by_cases h34 : (c == 34) = true
      · rw [unq_34 h34] at h; cases h; simp
      · by_cases h10 : (c == 10) = true
        · rw [unq_10 h34 h10] at h; cases h
        · have ce : ∀ (b : UInt8) (u : List UInt8), u.length ≤ n → consF b (unqF u) = .ok (v, r) → r.length < u.length := fun b u hu h => by
            cases hq : unqF u with
            | error e2 => rw [hq] at h; cases h
            | ok p => obtain ⟨v2, r2⟩ := p; rw [hq] at h; cases h; exact unqF_len n u _ _ hu hq
          by_cases h92 : (c == 92) = true
          · cases t with
            | nil => rw [unq_end h34 h10 h92] at h; cases h
            | cons d u =>
              simp at hn
              by_cases k1 : (d == 34 || d == 92) = true
              · rw [unq_esc h34 h10 h92 k1] at h; have := ce _ _ (by omega) h; simp; omega
              · by_cases k2 : (d == 110) = true
                · rw [unq_n h34 h10 h92 k1 k2] at h; have := ce _ _ (by omega) h; simp; omega
                · rw [unq_bad h34 h10 h92 k1 k2] at h; cases h
          · rw [unq_one h34 h10 h92] at h; have := ce _ _ hn h; simp; omega
theorem unquoteF_len {l v r : List UInt8} (h : unquoteF l = .ok (v, r)) : r.length < l.length := by
  unfold unquoteF at h
  split at h
  · cases h
  · split at h
    · have := unqF_len _ _ _ _ (Nat.le_refl _) h; simp; omega
    · cases h
theorem eatS_len {k : Int} {p l : List UInt8} {r : Int × List UInt8} (h : r.2.length ≤ l.length) : (eatS k p l r).2.length ≤ l.length := by
  unfold eatS
  split
  · rename_i u hu; exact eatF_length hu
  · exact h
theorem oneP_len {l r : List UInt8} {m : M} (h : oneP l = some (m, r)) : r.length < l.length := by
  unfold oneP at h
  split at h
  · cases h
  · rename_i v r2 hu
    split at h
    · cases h
    · cases h
      have h1 := unquoteF_len hu
      have h2 : (bareF (signP (bareF (l.dropWhile letU))).2).length ≤ _ := dropWhile_le _ _
      have h3 : (signP (bareF (l.dropWhile letU))).2.length ≤ (bareF (l.dropWhile letU)).length := eatS_len (eatS_len (eatS_len (eatS_len (Nat.le_refl _))))
      have h4 : (bareF (l.dropWhile letU)).length ≤ _ := dropWhile_le _ _
      have h5 := dropWhile_le letU l
      have h6 : (bareF r2).length ≤ _ := dropWhile_le _ _
      omega

def msC (l : List M) : List Value := l.flatMap fun m => [.int .i64 m.k, .string m.n, .string m.v]
theorem msC_append (a b : List M) : msC (a ++ b) = msC a ++ msC b := by unfold msC; exact List.flatMap_append
def MsR (w : World) (base : Nat) (v : Value) (l : List M) : Prop := w.ownsRow base 42 3 v l.length (msC l)
set_option maxRecDepth 100000 in
theorem infoM : (Tryz.prog.info? 42).map (fun i => (i.zero, i.size, i.bytes)) = some (some (.agg #[.int .i64 0, .string ⟨#[]⟩, .string ⟨#[]⟩]), 3, 40) := by kernel_rfl
theorem news3 (w : World) (b : Nat) (x y z : Value) (hb : b = w.heap.size) {t : TypeId} : ∀ j v, [x, y, z][j]? = some v → (w.alloc (.cells #[x, y, z] t)).cell? ((⟨b, 0, none⟩ : Addr).add j) = some v := by
  intro j v hv
  subst hb
  match j with
  | 0 => simp at hv; subst hv; exact World.cell?_alloc_at _ _ _ _ rfl
  | 1 => simp at hv; subst hv; exact World.cell?_alloc_at _ _ _ _ rfl
  | 2 => simp at hv; subst hv; exact World.cell?_alloc_at _ _ _ _ rfl
  | j + 3 => simp at hv
theorem one3 (k : Int) (n v : ByteArray) : ∀ u ∈ [Value.int .i64 k, .string n, .string v], u.oneCell' = true := by
  intro u hu
  simp only [List.mem_cons, List.not_mem_nil, or_false] at hu
  rcases hu with rfl | rfl | rfl <;> rfl

/-- in the midst of matchers -/
structure Al (w wr : World) (t : Nat) (v : Value) (ms : List M) (l : List UInt8) : Prop where
  tx : Tx wr t l
  grown : w.grownBy wr (some t)
  own : MsR wr w.heap.size v ms
  low : t < w.heap.size
theorem Al.call {w wr w' : World} {t : Nat} {v : Value} {ms : List M} {l l' : List UInt8} (h : Al w wr t v ms l) (g : wr.grownBy w' (some t)) (tx : Tx w' t l') : Al w w' t v ms l' :=
  ⟨tx, grown_trans h.grown g, h.own.kept g (by
    right
    intro e
    have := h.own.lt t e
    have := h.low
    omega), h.low⟩
theorem Al.below {w wr w' : World} {t : Nat} {v : Value} {ms : List M} {l : List UInt8} (h : Al w wr t v ms l) (b : Below wr.heap.size wr w') : Al w w' t v ms l :=
  ⟨h.tx.below b, grown_then h.grown b, World.ownsRow.kept (row := none) h.own ⟨b.os, b.tape, b.output, b.size, fun k hk _ => b.block k hk⟩ (by cases v.ownBlock <;> simp), h.low⟩
theorem Al.pushed {w wr w4 w5 : World} {t : Nat} {v v' : Value} {ms : List M} {m : M} {l : List UInt8} (h : Al w wr t v ms l) (b : Below wr.heap.size wr w4) (gr : w4.grownBy w5 v.ownBlock)
    (own : w5.ownsRow w.heap.size 42 3 v' (ms.length + 1) (msC ms ++ [.int .i64 m.k, .string m.n, .string m.v])) : Al w w5 t v' (ms ++ [m]) l := by
  have h4 := h.below b
  have ne : some t ≠ v.ownBlock := fun e => by have := h4.own.lt t e.symm; have := h4.low; omega
  refine ⟨h4.tx.grown gr ne, ?_, ?_, h.low⟩
  · refine ⟨gr.os.trans h4.grown.os, gr.tape.trans h4.grown.tape, gr.output.trans h4.grown.output, Nat.le_trans h4.grown.size gr.size, fun q hq hne => ?_⟩
    rw [gr.block q (Nat.lt_of_lt_of_le hq h4.grown.size) (fun e => by have := h4.own.lt q e.symm; omega)]
    exact h4.grown.block q hq hne
  · unfold MsR
    rw [msC_append, List.length_append]
    exact own

def AllPost (w : World) (t : Nat) (l : List UInt8) (e : Ending) (w' : World) : Prop :=
  w.grownBy w' (some t) ∧ match allP ((bareF l).length + 1) (bareF l) with
    | some (ms, r) => ∃ v, e = .returned (.tuple #[v, .bool true]) ∧ ms.length ≤ l.length ∧ Al w w' t v ms r
    | none => e = .returned (.tuple #[.slice none 0 0, .bool false])

set_option maxRecDepth 100000 in
set_option maxHeartbeats 4000000 in
theorem all_of (t : Nat) (l : List UInt8) (w : World) (h : Tx w t l) (hll : l.length ≤ 1000000) : Calls Tryz.prog 120 #[.pointer (some ⟨t, 0, none⟩)] w (AllPost w t l) := by
  obtain ⟨i0, hi, hz0, hz1, hz2⟩ := info_parts infoM
  have I0 : Hid (i0.zero = some (.agg #[.int .i64 0, .string ⟨#[]⟩, .string ⟨#[]⟩]) ∧ i0.size = 3 ∧ i0.bytes = 40 ∧ Tryz.prog.info? 42 = some i0) := ⟨hz0, hz1, hz2, hi⟩
  have BL := Lib.hid (blanks_any t l w h)
  have lt := h.lt
  have hb : (bareF l).length ≤ l.length := dropWhile_le _ _
  clear hz0 hz1 hz2 hi h
  go_enter Tryz.func120, Tryz.ntmps120
  go_wp2_with fail
  refine BL.out.mono ?_
  rintro e w1 ⟨rfl, g1, tx1⟩
  have A0 : Hid (Al w w1 t (.slice none 0 0) [] (bareF l)) := ⟨tx1, g1, World.ownsRow_nil _ _ _ _, lt⟩
  clear g1 tx1 BL
  go_wp2_with fail
  go_loopg [4] ((bareF l).length + 1) (fun gk vo wr => ∃ (ms : List M) (l' : List UInt8), l'.length < gk ∧ ms.length + gk ≤ (bareF l).length + 1 ∧ Hid (preO ms (allP gk l') = allP ((bareF l).length + 1) (bareF l)) ∧ Hid (Al w wr t vo ms l'))
  case atStart => exact ⟨[], bareF l, by omega, by show 0 + _ ≤ _; omega, by show _ = _; exact preO_nil _, A0⟩
  case round =>
    obtain ⟨ms, l', hlt, hml, HR, HA⟩ := hrel
    clear A0
    obtain ⟨n, rfl⟩ : ∃ n, gk = n + 1 := ⟨gk - 1, by omega⟩
    go_wp2_with fail
    refine (eat_any t ⟨#[125]⟩ l' _ HA.out.tx).mono ?_
    rintro e w2 ⟨rfl, g2, tx2⟩
    have A2' := Lib.hid (HA.out.call g2 tx2)
    clear g2 tx2 HA
    cases he : eatF (by_ ⟨#[125]⟩) l' with
    | some u =>
      have A2 := A2'
      rw [he] at A2
      have E : Hid (allP ((bareF l).length + 1) (bareF l) = some (ms, u)) := by
        have := HR.out
        rw [allP, show eatF [125] l' = some u from he] at this
        show _ = _
        rw [← this]; simp [preO]
      clear he A2'
      go_wp2_with fail
      exact bodyPost_ret (v := .tuple #[_, .bool true]) (by simp [results, Tryz.results120, go_sem]; rfl) rfl ⟨A2.out.grown, by simp only [E.out]; exact ⟨_, rfl, by omega, A2.out⟩⟩
    | none =>
      have A2 := A2'
      rw [he] at A2
      have R2 : Hid (preO ms (match oneP l' with
        | none => none
        | some (m, r) => match eatF [44] r with
          | some r2 => consO m (allP n (bareF r2))
          | none => if r.head? = some 125 then consO m (allP n r) else none) = allP ((bareF l).length + 1) (bareF l)) := by
        have := HR.out
        rw [allP, show eatF [125] l' = none from he] at this
        exact this
      clear he A2' HR
      have O := Lib.hid (one_of t l' w2 A2.out.tx (by omega))
      go_wp2_with fail
      refine O.out.mono ?_
      rintro e w3 ⟨g3, h3⟩
      cases ho : oneP l' with
      | none =>
        have E : Hid (allP ((bareF l).length + 1) (bareF l) = none) := by
          have := R2.out
          rw [ho] at this
          exact this.symm
        rw [ho] at h3
        obtain rfl := h3
        have G := Lib.hid (grown_trans A2.out.grown g3)
        clear ho g3 R2 A2 O
        go_wp2_with fail
        exact bodyPost_ret (v := .tuple #[.slice none 0 0, .bool false]) (by simp [results, Tryz.results120, go_sem]) rfl ⟨grown_then G.out ((Below.refl _ _).alloc (Nat.le_refl _) _), by simp only [E.out]⟩
      | some p =>
        obtain ⟨m, r⟩ := p
        rw [ho] at h3
        obtain ⟨rfl, tx3⟩ := h3
        have A3 := Lib.hid (A2.out.call g3 tx3)
        have hr := oneP_len ho
        have R3 : Hid (preO ms (match eatF [44] r with
          | some r2 => consO m (allP n (bareF r2))
          | none => if r.head? = some 125 then consO m (allP n r) else none) = allP ((bareF l).length + 1) (bareF l)) := by
          have := R2.out
          rw [ho] at this
          exact this
        clear ho g3 tx3 R2 A2 O
        obtain ⟨mk, mn, mv⟩ := m
        have OW := Lib.hid (fun (o o' : Obj) => (A3.out.own.alloc o).alloc o')
        go_wp2_with (at_builtin; refine wpList_append_own_at _ rfl (.tmp 19) (.tmp 21) 34 rfl w.heap.size 42 i0 (.agg #[.int .i64 0, .string ⟨#[]⟩, .string ⟨#[]⟩]) 3 40 Tryz.underlying34 I0.out.2.2.2 I0.out.1 I0.out.2.1 I0.out.2.2.1 rfl (by decide) _ ms.length _ rfl (OW.out _ _) _ 1 1 [.int .i64 mk, .string mn, .string mv] rfl rfl ?c1 (one3 _ _ _) (by unfold maxLen; omega) (by omega) ?c3 ?_)
        case c1 => exact news3 _ _ _ _ _ (by simp)
        case c3 => have := A3.out.grown.size; simp; omega
        intro v' w5 own5 grow5 _ _
        have A5 := Lib.hid (A3.out.pushed (m := ⟨mk, mn, mv⟩) (((Below.refl _ _).alloc (Nat.le_refl _) _).alloc (by simp) _) grow5 own5)
        clear own5 grow5 A3 OW
        go_wp2_with fail
        refine (eat_any t ⟨#[44]⟩ r _ A5.out.tx).mono ?_
        rintro e w6 ⟨rfl, g6, tx6⟩
        have A6' := Lib.hid (A5.out.call g6 tx6)
        clear g6 tx6 A5
        cases he : eatF (by_ ⟨#[44]⟩) r with
        | some r2 =>
          have A6 := A6'
          rw [he] at A6
          have hr2 := eatF_length he
          have R4 : Hid (preO (ms ++ [⟨mk, mn, mv⟩]) (allP n (bareF r2)) = allP ((bareF l).length + 1) (bareF l)) := by
            have := R3.out
            rw [show eatF [44] r = some r2 from he] at this
            exact (preO_one _ _ _).symm.trans this
          clear he A6' R3
          go_wp2_with fail
          refine (blanks_any t r2 _ A6.out.tx).mono ?_
          rintro e w7 ⟨rfl, g7, tx7⟩
          have A7 := Lib.hid (A6.out.call g7 tx7)
          have hb2 : (bareF r2).length ≤ r2.length := dropWhile_le _ _
          clear g7 tx7 A6
          go_wp2_with fail
          go_roundg n
          case measure => omega
          case rel => exact ⟨_, _, by omega, by simp; omega, R4, A7⟩
        | none =>
          have A6 := A6'
          rw [he] at A6
          have R4 : Hid (preO ms (if r.head? = some 125 then consO ⟨mk, mn, mv⟩ (allP n r) else none) = allP ((bareF l).length + 1) (bareF l)) := by
            have := R3.out
            rw [show eatF [44] r = none from he] at this
            exact this
          clear he A6' R3
          obtain ⟨s6, hs6, es6'⟩ := A6.out.tx
          have es6 : by_ s6 = r := es6'
          clear es6'
          obtain ⟨x0, xf⟩ := cells1 hs6
          by_cases hz : s6.size = 0
          · have hem : s6.toList.isEmpty = true := by rw [tl_eq, show s6.data.toList = [] from by_empty hz]; rfl
            have E : Hid (allP ((bareF l).length + 1) (bareF l) = none) := by
              have := R4.out
              rw [← es6, by_empty hz, if_neg (by simp)] at this
              exact this.symm
            clear R4 es6 hs6
            go_wp2_with fail
            exact bodyPost_ret (v := .tuple #[.slice none 0 0, .bool false]) (by simp [results, Tryz.results120, go_sem]) rfl ⟨A6.out.grown, by simp only [E.out]⟩
          · have hp : 0 < s6.size := by omega
            have hem := string_ne hp
            have u := ub_eq (s6[0]'hp) 125 (by omega)
            have hd : r.head? = some (s6[0]'hp) := by rw [← es6, show by_ s6 = (s6[0]'hp) :: (by_ s6).drop 1 from drop_two hp]; rfl
            by_cases hq : (s6[0]'hp) = 125
            · rw [decide_eq_true (show (s6[0]'hp) = UInt8.ofNat 125 from hq)] at u
              have R5 : Hid (preO (ms ++ [⟨mk, mn, mv⟩]) (allP n r) = allP ((bareF l).length + 1) (bareF l)) := by
                have := R4.out
                rw [if_pos (by rw [hd, hq])] at this
                exact (preO_one _ _ _).symm.trans this
              clear R4 hd hq es6 hs6
              go_wp2_with fail
              go_roundg n
              case measure => omega
              case rel => exact ⟨_, _, by omega, by simp; omega, R5, A6⟩
            · rw [decide_eq_false (show ¬ (s6[0]'hp) = UInt8.ofNat 125 from hq)] at u
              have E : Hid (allP ((bareF l).length + 1) (bareF l) = none) := by
                have := R4.out
                rw [if_neg (by rw [hd]; simpa using hq)] at this
                exact this.symm
              clear R4 hd hq es6 hs6
              go_wp2_with fail
              exact bodyPost_ret (v := .tuple #[.slice none 0 0, .bool false]) (by simp [results, Tryz.results120, go_sem]) rfl ⟨A6.out.grown, by simp only [E.out]⟩
end Go.Proofs.YtmbfpichaaanpaaGreatDoor

/-! Matchers printed. -/
namespace Go.Proofs.YtmbfpichaaanpaaGreatDoor
open Go.RowKit Ut Rx Mt

def signT (k : Int) : List UInt8 := if k = 1 then [61] else if k = 2 then [33, 61] else if k = 3 then [61, 126] else if k = 4 then [33, 126] else [63]
def SignPost (w : World) (k : Int) (e : Ending) (w' : World) : Prop := e = .returned (.string ⟨(signT k).toArray⟩) ∧ w' = w
set_option maxHeartbeats 1000000 in
theorem sign_any (k : Int) (w : World) : Calls Tryz.prog 113 #[.int .i64 k] w (SignPost w k) := by
  by_cases h1 : k = 1
  · subst h1
    go_enter Tryz.func113, Tryz.ntmps113
    go_wp2_with fail
    go_ret
    exact ⟨rfl, rfl⟩
  · by_cases h2 : k = 2
    · subst h2
      go_enter Tryz.func113, Tryz.ntmps113
      go_wp2_with fail
      go_ret
      exact ⟨rfl, rfl⟩
    · by_cases h3 : k = 3
      · subst h3
        go_enter Tryz.func113, Tryz.ntmps113
        go_wp2_with fail
        go_ret
        exact ⟨rfl, rfl⟩
      · by_cases h4 : k = 4
        · subst h4
          go_enter Tryz.func113, Tryz.ntmps113
          go_wp2_with fail
          go_ret
          exact ⟨rfl, rfl⟩
        · have E : Hid (signT k = [63]) := by show _ = _; unfold signT; rw [if_neg h1, if_neg h2, if_neg h3, if_neg h4]
          have b1 : (k == 1) = false := by simpa using h1
          have b2 : (k == 2) = false := by simpa using h2
          have b3 : (k == 3) = false := by simpa using h3
          have b4 : (k == 4) = false := by simpa using h4
          clear h1 h2 h3 h4
          go_enter Tryz.func113, Tryz.ntmps113
          go_wp2_with fail
          go_ret
          exact ⟨by show Ending.returned (.string ⟨#[63]⟩) = _; rw [E.out], rfl⟩

/-- matchers between { and } -/
def braGo : Bool → List M → List UInt8
  | _, [] => [125]
  | first, m :: t => (if first then [] else [44, 32]) ++ (by_ m.n ++ signT m.k ++ quoteF (by_ m.v)) ++ braGo false t
def bracesF (l : List M) : List UInt8 := 123 :: braGo true l
theorem signT_len (k : Int) : (signT k).length ≤ 2 := by
  unfold signT
  repeat (split; · simp)
  simp
theorem quoGo_len : ∀ l : List UInt8, (quoGo l).length ≤ 2 * l.length + 1
  | [] => by simp [quoGo]
  | c :: t => by
    have := quoGo_len t
    unfold quoGo
    split
    · simp; omega
    · split
      · simp; omega
      · simp; omega
theorem quoteF_len (l : List UInt8) : (quoteF l).length ≤ 2 * l.length + 2 := by
  have := quoGo_len l
  unfold quoteF
  simp; omega

theorem by_add (a b : ByteArray) : by_ (a ++ b) = by_ a ++ by_ b := by
  show (a ++ b).data.toList = _
  simp
theorem by_mk (l : List UInt8) : by_ ⟨l.toArray⟩ = l := by simp
def BrPost (w : World) (l : List M) (e : Ending) (w' : World) : Prop := e = .returned (.string ⟨(bracesF l).toArray⟩) ∧ Below w.heap.size w w'
set_option maxRecDepth 100000 in
set_option maxHeartbeats 4000000 in
theorem braces_any (l : List M) (lv : Value) (w : World) (hl : Ms w lv l) (hn : l.length ≤ 100000) (hsz : ∀ m ∈ l, m.n.size ≤ 100000 ∧ m.v.size ≤ 100000) :
    Calls Tryz.prog 91 #[lv] w (BrPost w l) := by
  obtain ⟨A, c, rfl, _, hcells⟩ := hl
  have HC := Lib.hid hcells
  have HZ := Lib.hid hsz
  have B0 : Hid (Below w.heap.size w w) := Below.refl _ _
  clear hcells hsz
  go_enter Tryz.func91, Tryz.ntmps91
  go_wp2_with fail
  go_loopg [3, 8] l.length (fun gk vo vk wr => ∃ (k : Nat) (out : ByteArray), vo = .string out ∧ vk = .int .i64 k ∧ k + gk = l.length ∧ out.size ≤ 1 + k * 400010 ∧ Hid (by_ out ++ braGo (decide (k = 0)) (l.drop k) = bracesF l) ∧ Hid (Below w.heap.size w wr))
  case atStart => exact ⟨0, _, rfl, rfl, by omega, by decide, rfl, B0⟩
  case round =>
    obtain ⟨k, out, rfl, rfl, hk, hos, HR, HB⟩ := hrel
    clear B0
    by_cases hlt : k < l.length
    · obtain ⟨b, off, rfl, hc⟩ := HC.out (fun e => by rw [e] at hlt; simp at hlt)
      obtain ⟨c0', c1', c2'⟩ := hc k hlt
      have lb : b < w.heap.size := World.block_lt_of_cell? w _ c0'
      have c0 := (HB.out.cell (p := ⟨b, off + k * 3, none⟩) lb).trans c0'
      have c1 := (HB.out.cell (p := ⟨b, off + k * 3 + 1, none⟩) lb).trans c1'
      have c2 := (HB.out.cell (p := ⟨b, off + k * 3 + 2, none⟩) lb).trans c2'
      have HD : Hid (l.drop k = ⟨(l[k]'hlt).k, (l[k]'hlt).n, (l[k]'hlt).v⟩ :: l.drop (k + 1)) := List.drop_eq_getElem_cons hlt
      obtain ⟨hzn, hzv⟩ := HZ.out _ (List.getElem_mem hlt)
      clear hc c0' c1' c2' HC HZ
      generalize (l[k]'hlt).k = mk at *
      generalize (l[k]'hlt).n = mn at *
      generalize (l[k]'hlt).v = mv at *
      by_cases h0 : k = 0
      · have H0 := Lib.hid h0
        have hki : ¬ (0 : Int) < k := by omega
        clear h0
        have B1 := Lib.hid (HB.out.alloc HB.out.size (.cells #[.int .i64 mk, .string mn, .string mv] 42))
        have hv := heap_alloc_new wr (.cells #[.int .i64 mk, .string mn, .string mv] 42)
        have lv1 : wr.heap.size < (wr.alloc (.cells #[.int .i64 mk, .string mn, .string mv] 42)).heap.size := by simp
        go_upto_region 7 with fail
        generalize (wr.alloc (.cells #[.int .i64 mk, .string mn, .string mv] 42)) = w1 at *
        have HO2 : Hid (by_ out ++ (by_ mn ++ signT mk ++ quoteF (by_ mv)) ++ braGo false (l.drop (k + 1)) = bracesF l) := by
          have := HR.out
          rw [HD.out, decide_eq_true H0.out] at this
          show _ = _
          rw [← this]; simp [braGo]
        have ho2 : out.size ≤ 1 + k * 400010 + 2 := by omega
        have KP : Hid (∀ w', Below w1.heap.size w1 w' → w'.cell? ⟨wr.heap.size, 0, none⟩ = some (.int .i64 mk) ∧ w'.cell? ⟨wr.heap.size, 1, none⟩ = some (.string mn) ∧ w'.cell? ⟨wr.heap.size, 2, none⟩ = some (.string mv) ∧ Below w1.heap.size w1 w') := fun w' b => by
          obtain ⟨d0, d1, d2, _⟩ := cells3 ((b.block _ lv1).trans hv)
          exact ⟨d0, d1, d2, b⟩
        obtain ⟨sg, hsg⟩ : ∃ sg : ByteArray, sg = ⟨(signT mk).toArray⟩ := ⟨_, rfl⟩
        obtain ⟨qt, hqt⟩ : ∃ qt : ByteArray, qt = ⟨(quoteF (by_ mv)).toArray⟩ := ⟨_, rfl⟩
        have ssz : sg.size ≤ 2 := by rw [hsg]; exact signT_len mk
        have qsz : qt.size ≤ 200002 := by
          have := quoteF_len (by_ mv)
          rw [tl_len] at this
          have e : qt.size = (quoteF (by_ mv)).length := by rw [hqt]; rfl
          omega
        have SE : Hid (∀ w', Below w1.heap.size w1 w' → Calls Tryz.prog 113 #[.int .i64 mk] w' (fun e w2 => e = .returned (.string sg) ∧ Below w1.heap.size w1 w2)) := fun w' b =>
          (sign_any mk w').mono fun e w2 h => ⟨by rw [hsg]; exact h.1, by rw [h.2]; exact b⟩
        have QE : Hid (∀ w', Below w1.heap.size w1 w' → Calls Tryz.prog 114 #[.string mv] w' (fun e w2 => e = .returned (.string qt) ∧ Below w1.heap.size w1 w2)) := fun w' b =>
          (quote_any mv w' (by omega)).mono fun e w2 h => ⟨by rw [hqt]; exact h.1, b.trans (h.2.mono b.size)⟩
        have hb0 : Below w1.heap.size w1 w1 := Below.refl _ _
        obtain ⟨d0, d1, d2, _⟩ := KP.out w1 hb0
        have HSG := Lib.hid hsg
        have HQT := Lib.hid hqt
        have a1 : ¬ 9223372036854775807 < mn.size + sg.size := by omega
        have a2 : ¬ 9223372036854775807 < mn.size + sg.size + qt.size := by omega
        have a3 : ¬ 9223372036854775807 < out.size + (mn.size + sg.size + qt.size) := by omega
        clear hv c0 c1 c2 hsg hqt
        go_region_held3 (fun w' => w'.cell? ⟨wr.heap.size, 0, none⟩ = some (.int .i64 mk) ∧ w'.cell? ⟨wr.heap.size, 1, none⟩ = some (.string mn) ∧ w'.cell? ⟨wr.heap.size, 2, none⟩ = some (.string mv) ∧ Below w1.heap.size w1 w')
          ((refine KP.out _ ?_; (try go_split_ands); (repeat (first | refine Below.drew ?_ | refine below_drewN ?_ _)); assumption))
          (first
            | (go_at_call 113; refine Calls.mono (SE.out _ ?_) ?_; (repeat (first | refine Below.drew ?_ | refine below_drewN ?_ _)); assumption; rintro e w' ⟨rfl, hb9⟩)
            | (go_at_call 114; refine Calls.mono (QE.out _ ?_) ?_; (repeat (first | refine Below.drew ?_ | refine below_drewN ?_ _)); assumption; rintro e w' ⟨rfl, hb9⟩))
        all_goals
          have B2 := Lib.hid (B1.out.trans (hb9.mono B1.out.size))
          have HR3 : Hid (by_ (out ++ (mn ++ sg ++ qt)) ++ braGo (decide (k + 1 = 0)) (l.drop (k + 1)) = bracesF l) := by
            show _ = _
            rw [by_add, by_add, by_add, HSG.out, HQT.out, by_mk, by_mk, decide_eq_false (by omega)]
            exact HO2.out
          have sz2 : (out ++ (mn ++ sg ++ qt)).size ≤ 1 + (k + 1) * 400010 := by simp; omega
          clear KP SE QE d0 d1 d2 hb9 HR HD
          go_wp2_with fail
          go_roundg (l.length - (k + 1))
          case measure => omega
          case rel => exact ⟨k + 1, _, rfl, by simp, by omega, sz2, HR3, B2⟩
      · have hki : (0 : Int) < k := by omega
        have hoi : (out ++ ⟨#[44, 32]⟩ : ByteArray).size = out.size + 2 := by simp; rfl
        have B1 := Lib.hid (HB.out.alloc HB.out.size (.cells #[.int .i64 mk, .string mn, .string mv] 42))
        have hv := heap_alloc_new wr (.cells #[.int .i64 mk, .string mn, .string mv] 42)
        have lv1 : wr.heap.size < (wr.alloc (.cells #[.int .i64 mk, .string mn, .string mv] 42)).heap.size := by simp
        go_upto_region 7 with fail
        generalize (wr.alloc (.cells #[.int .i64 mk, .string mn, .string mv] 42)) = w1 at *
        have HO2' : Hid (by_ (out ++ ⟨#[44, 32]⟩) ++ (by_ mn ++ signT mk ++ quoteF (by_ mv)) ++ braGo false (l.drop (k + 1)) = bracesF l) := by
          have := HR.out
          rw [HD.out, decide_eq_false (show ¬ k = 0 by omega)] at this
          show _ = _
          rw [← this, by_add]; simp [braGo]; rfl
        have ho2' : (out ++ ⟨#[44, 32]⟩ : ByteArray).size ≤ 1 + k * 400010 + 2 := by rw [hoi]; omega
        clear HR
        generalize (out ++ ⟨#[44, 32]⟩ : ByteArray) = out2 at *
        have HO2 := HO2'
        have ho2 := ho2'
        clear HO2' ho2'
        have HR := HO2
        have KP : Hid (∀ w', Below w1.heap.size w1 w' → w'.cell? ⟨wr.heap.size, 0, none⟩ = some (.int .i64 mk) ∧ w'.cell? ⟨wr.heap.size, 1, none⟩ = some (.string mn) ∧ w'.cell? ⟨wr.heap.size, 2, none⟩ = some (.string mv) ∧ Below w1.heap.size w1 w') := fun w' b => by
          obtain ⟨d0, d1, d2, _⟩ := cells3 ((b.block _ lv1).trans hv)
          exact ⟨d0, d1, d2, b⟩
        obtain ⟨sg, hsg⟩ : ∃ sg : ByteArray, sg = ⟨(signT mk).toArray⟩ := ⟨_, rfl⟩
        obtain ⟨qt, hqt⟩ : ∃ qt : ByteArray, qt = ⟨(quoteF (by_ mv)).toArray⟩ := ⟨_, rfl⟩
        have ssz : sg.size ≤ 2 := by rw [hsg]; exact signT_len mk
        have qsz : qt.size ≤ 200002 := by
          have := quoteF_len (by_ mv)
          rw [tl_len] at this
          have e : qt.size = (quoteF (by_ mv)).length := by rw [hqt]; rfl
          omega
        have SE : Hid (∀ w', Below w1.heap.size w1 w' → Calls Tryz.prog 113 #[.int .i64 mk] w' (fun e w2 => e = .returned (.string sg) ∧ Below w1.heap.size w1 w2)) := fun w' b =>
          (sign_any mk w').mono fun e w2 h => ⟨by rw [hsg]; exact h.1, by rw [h.2]; exact b⟩
        have QE : Hid (∀ w', Below w1.heap.size w1 w' → Calls Tryz.prog 114 #[.string mv] w' (fun e w2 => e = .returned (.string qt) ∧ Below w1.heap.size w1 w2)) := fun w' b =>
          (quote_any mv w' (by omega)).mono fun e w2 h => ⟨by rw [hqt]; exact h.1, b.trans (h.2.mono b.size)⟩
        have hb0 : Below w1.heap.size w1 w1 := Below.refl _ _
        obtain ⟨d0, d1, d2, _⟩ := KP.out w1 hb0
        have HSG := Lib.hid hsg
        have HQT := Lib.hid hqt
        have a1 : ¬ 9223372036854775807 < mn.size + sg.size := by omega
        have a2 : ¬ 9223372036854775807 < mn.size + sg.size + qt.size := by omega
        have a3 : ¬ 9223372036854775807 < out.size + 2 + (mn.size + sg.size + qt.size) := by omega
        clear hv c0 c1 c2 hsg hqt
        go_region_held3 (fun w' => w'.cell? ⟨wr.heap.size, 0, none⟩ = some (.int .i64 mk) ∧ w'.cell? ⟨wr.heap.size, 1, none⟩ = some (.string mn) ∧ w'.cell? ⟨wr.heap.size, 2, none⟩ = some (.string mv) ∧ Below w1.heap.size w1 w')
          ((refine KP.out _ ?_; (try go_split_ands); (repeat (first | refine Below.drew ?_ | refine below_drewN ?_ _)); assumption))
          (first
            | (go_at_call 113; refine Calls.mono (SE.out _ ?_) ?_; (repeat (first | refine Below.drew ?_ | refine below_drewN ?_ _)); assumption; rintro e w' ⟨rfl, hb9⟩)
            | (go_at_call 114; refine Calls.mono (QE.out _ ?_) ?_; (repeat (first | refine Below.drew ?_ | refine below_drewN ?_ _)); assumption; rintro e w' ⟨rfl, hb9⟩))
        all_goals
          have B2 := Lib.hid (B1.out.trans (hb9.mono B1.out.size))
          have HR3 : Hid (by_ (out2 ++ (mn ++ sg ++ qt)) ++ braGo (decide (k + 1 = 0)) (l.drop (k + 1)) = bracesF l) := by
            show _ = _
            rw [by_add, by_add, by_add, HSG.out, HQT.out, by_mk, by_mk, decide_eq_false (by omega)]
            exact HO2.out
          have sz2 : (out2 ++ (mn ++ sg ++ qt)).size ≤ 1 + (k + 1) * 400010 := by simp; omega
          clear KP SE QE d0 d1 d2 hb9 HR HD
          go_wp2_with fail
          go_roundg (l.length - (k + 1))
          case measure => omega
          case rel => exact ⟨k + 1, _, rfl, by simp, by omega, sz2, HR3, B2⟩
    · have hkl : k = l.length := by omega
      have hki : ¬ (k : Int) < l.length := by omega
      have E : Hid (out ++ ⟨#[125]⟩ = (⟨(bracesF l).toArray⟩ : ByteArray)) := by
        have := HR.out
        rw [List.drop_of_length_le (by omega)] at this
        show _ = _
        rw [← this]
        apply ByteArray.ext
        apply Array.ext'
        show by_ (out ++ ⟨#[125]⟩) = _
        rw [by_add]
        simp [braGo]
      have e1 : (⟨#[125]⟩ : ByteArray).size = 1 := rfl
      clear HR
      go_wp2_with fail
      all_goals go_ret
      all_goals (rw [E.out]; exact ⟨rfl, HB.out⟩)
end Go.Proofs.YtmbfpichaaanpaaGreatDoor
