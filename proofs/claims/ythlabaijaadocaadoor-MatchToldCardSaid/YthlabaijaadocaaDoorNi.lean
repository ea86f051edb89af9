import Derived.Test.YthlabaijaadocaaDoorNh
/-! Matchers between braces, read. -/
namespace Go.Proofs.YthlabaijaadocaaDoor
open Go.RowKit Ut Rx Mt

def consO (m : M) (r : Option (List M × List UInt8)) : Option (List M × List UInt8) := match r with | some (l, u) => some (m :: l, u) | none => none
def preO (a : List M) (r : Option (List M × List UInt8)) : Option (List M × List UInt8) := match r with | some (l, u) => some (a ++ l, u) | none => none
/-- matchers, up to } -/
def allP : Nat → List UInt8 → Option (List M × List UInt8)
  | 0, _ => none
  | n + 1, l => match eatF [125] l with
    | some u => some ([], u)
    | none => match oneP l with
      | none => none
      | some (m, r) => match eatF [44] r with
        | some r2 => consO m (allP n (bareF r2))
        | none => if r.head? = some 125 then consO m (allP n r) else none
theorem preO_nil (r : Option (List M × List UInt8)) : preO [] r = r := by cases r <;> rfl
theorem preO_one (a : List M) (m : M) (r : Option (List M × List UInt8)) : preO a (consO m r) = preO (a ++ [m]) r := by
  cases r with
  | none => rfl
  | some p => obtain ⟨x, u⟩ := p; simp [preO, consO]

theorem unqF_len : ∀ (n : Nat) (l v r : List UInt8), l.length ≤ n → unqF l = .ok (v, r) → r.length < l.length
  | 0, l, v, r, hn, h => by
    obtain rfl := List.eq_nil_of_length_eq_zero (Nat.le_zero.1 hn)
    rw [unqF.eq_def] at h; cases h
  | n + 1, l, v, r, hn, h => by
    cases l with
    | nil => rw [unqF.eq_def] at h; cases h
    | cons c t =>
      simp at hn
      by_cases h34 : (c == 34) = true
      · rw [unq_34 h34] at h; cases h; simp
      · by_cases h10 : (c == 10) = true
        · rw [unq_10 h34 h10] at h; cases h
        · have ce : ∀ (b : UInt8) (u : List UInt8), u.length ≤ n → consF b (unqF u) = .ok (v, r) → r.length < u.length := fun b u hu h => by
            cases hq : unqF u with
            | error e2 => rw [hq] at h; cases h
            | ok p => obtain ⟨v2, r2⟩ := p; rw [hq] at h; cases h; exact unqF_len n u _ _ hu hq
          by_cases h92 : (c == 92) = true
          · cases t with
            | nil => rw [unq_end h34 h10 h92] at h; cases h
            | cons d u =>
              simp at hn
              by_cases k1 : (d == 34 || d == 92) = true
              · rw [unq_esc h34 h10 h92 k1] at h; have := ce _ _ (by omega) h; simp; omega
              · by_cases k2 : (d == 110) = true
                · rw [unq_n h34 h10 h92 k1 k2] at h; have := ce _ _ (by omega) h; simp; omega
                · rw [unq_bad h34 h10 h92 k1 k2] at h; cases h
          · rw [unq_one h34 h10 h92] at h; have := ce _ _ hn h; simp; omega
theorem unquoteF_len {l v r : List UInt8} (h : unquoteF l = .ok (v, r)) : r.length < l.length := by
  unfold unquoteF at h
  split at h
  · cases h
  · split at h
    · have := unqF_len _ _ _ _ (Nat.le_refl _) h; simp; omega
    · cases h
theorem eatS_len {k : Int} {p l : List UInt8} {r : Int × List UInt8} (h : r.2.length ≤ l.length) : (eatS k p l r).2.length ≤ l.length := by
  unfold eatS
  split
  · rename_i u hu; exact eatF_length hu
  · exact h
theorem oneP_len {l r : List UInt8} {m : M} (h : oneP l = some (m, r)) : r.length < l.length := by
  unfold oneP at h
  split at h
  · cases h
  · rename_i v r2 hu
    split at h
    · cases h
    · cases h
      have h1 := unquoteF_len hu
      have h2 : (bareF (signP (bareF (l.dropWhile letU))).2).length ≤ _ := dropWhile_le _ _
      have h3 : (signP (bareF (l.dropWhile letU))).2.length ≤ (bareF (l.dropWhile letU)).length := eatS_len (eatS_len (eatS_len (eatS_len (Nat.le_refl _))))
      have h4 : (bareF (l.dropWhile letU)).length ≤ _ := dropWhile_le _ _
      have h5 := dropWhile_le letU l
      have h6 : (bareF r2).length ≤ _ := dropWhile_le _ _
      omega

def msC (l : List M) : List Value := l.flatMap fun m => [.int .i64 m.k, .string m.n, .string m.v]
theorem msC_append (a b : List M) : msC (a ++ b) = msC a ++ msC b := by unfold msC; exact List.flatMap_append
def MsR (w : World) (base : Nat) (v : Value) (l : List M) : Prop := w.ownsRow base 26 3 v l.length (msC l)
theorem infoM : (Tryd.prog.info? 26).map (fun i => (i.zero, i.size, i.bytes)) = some (some (.agg #[.int .i64 0, .string ⟨#[]⟩, .string ⟨#[]⟩]), 3, 40) := by kernel_rfl
theorem news3 (w : World) (b : Nat) (x y z : Value) (hb : b = w.heap.size) {t : TypeId} : ∀ j v, [x, y, z][j]? = some v → (w.alloc (.cells #[x, y, z] t)).cell? ((⟨b, 0, none⟩ : Addr).add j) = some v := by
  intro j v hv
  subst hb
  match j with
  | 0 => simp at hv; subst hv; exact World.cell?_alloc_at _ _ _ _ rfl
  | 1 => simp at hv; subst hv; exact World.cell?_alloc_at _ _ _ _ rfl
  | 2 => simp at hv; subst hv; exact World.cell?_alloc_at _ _ _ _ rfl
  | j + 3 => simp at hv
theorem one3 (k : Int) (n v : ByteArray) : ∀ u ∈ [Value.int .i64 k, .string n, .string v], u.oneCell' = true := by
  intro u hu
  simp only [List.mem_cons, List.not_mem_nil, or_false] at hu
  rcases hu with rfl | rfl | rfl <;> rfl

/-- in the midst of matchers -/
structure Al (w wr : World) (t : Nat) (v : Value) (ms : List M) (l : List UInt8) : Prop where
  tx : Tx wr t l
  grown : w.grownBy wr (some t)
  own : MsR wr w.heap.size v ms
  low : t < w.heap.size
theorem Al.call {w wr w' : World} {t : Nat} {v : Value} {ms : List M} {l l' : List UInt8} (h : Al w wr t v ms l) (g : wr.grownBy w' (some t)) (tx : Tx w' t l') : Al w w' t v ms l' :=
  ⟨tx, grown_trans h.grown g, h.own.kept g (by
    right
    intro e
    have := h.own.lt t e
    have := h.low
    omega), h.low⟩
theorem Al.below {w wr w' : World} {t : Nat} {v : Value} {ms : List M} {l : List UInt8} (h : Al w wr t v ms l) (b : Below wr.heap.size wr w') : Al w w' t v ms l :=
  ⟨h.tx.below b, grown_then h.grown b, World.ownsRow.kept (row := none) h.own ⟨b.os, b.tape, b.output, b.size, fun k hk _ => b.block k hk⟩ (by cases v.ownBlock <;> simp), h.low⟩
theorem Al.pushed {w wr w4 w5 : World} {t : Nat} {v v' : Value} {ms : List M} {m : M} {l : List UInt8} (h : Al w wr t v ms l) (b : Below wr.heap.size wr w4) (gr : w4.grownBy w5 v.ownBlock)
    (own : w5.ownsRow w.heap.size 26 3 v' (ms.length + 1) (msC ms ++ [.int .i64 m.k, .string m.n, .string m.v])) : Al w w5 t v' (ms ++ [m]) l := by
  have h4 := h.below b
  have ne : some t ≠ v.ownBlock := fun e => by have := h4.own.lt t e.symm; have := h4.low; omega
  refine ⟨h4.tx.grown gr ne, ?_, ?_, h.low⟩
  · refine ⟨gr.os.trans h4.grown.os, gr.tape.trans h4.grown.tape, gr.output.trans h4.grown.output, Nat.le_trans h4.grown.size gr.size, fun q hq hne => ?_⟩
    rw [gr.block q (Nat.lt_of_lt_of_le hq h4.grown.size) (fun e => by have := h4.own.lt q e.symm; omega)]
    exact h4.grown.block q hq hne
  · unfold MsR
    rw [msC_append, List.length_append]
    exact own

def AllPost (w : World) (t : Nat) (l : List UInt8) (e : Ending) (w' : World) : Prop :=
  w.grownBy w' (some t) ∧ match allP ((bareF l).length + 1) (bareF l) with
    | some (ms, r) => ∃ v, e = .returned (.tuple #[v, .bool true]) ∧ ms.length ≤ l.length ∧ Al w w' t v ms r
    | none => e = .returned (.tuple #[.slice none 0 0, .bool false])

set_option maxRecDepth 100000 in
set_option maxHeartbeats 4000000 in
theorem all_of (t : Nat) (l : List UInt8) (w : World) (h : Tx w t l) (hll : l.length ≤ 1000000) : Calls Tryd.prog 41 #[.pointer (some ⟨t, 0, none⟩)] w (AllPost w t l) := by
  obtain ⟨i0, hi, hz0, hz1, hz2⟩ := info_parts infoM
  have I0 : Hid (i0.zero = some (.agg #[.int .i64 0, .string ⟨#[]⟩, .string ⟨#[]⟩]) ∧ i0.size = 3 ∧ i0.bytes = 40 ∧ Tryd.prog.info? 26 = some i0) := ⟨hz0, hz1, hz2, hi⟩
  have BL := Lib.hid (blanks_any t l w h)
  have lt := h.lt
  have hb : (bareF l).length ≤ l.length := dropWhile_le _ _
  clear hz0 hz1 hz2 hi h
  go_enter Tryd.func41, Tryd.ntmps41
  go_wp2_with fail
  refine BL.out.mono ?_
  rintro e w1 ⟨rfl, g1, tx1⟩
  have A0 : Hid (Al w w1 t (.slice none 0 0) [] (bareF l)) := ⟨tx1, g1, World.ownsRow_nil _ _ _ _, lt⟩
  clear g1 tx1 BL
  go_wp2_with fail
  go_loopg [4] ((bareF l).length + 1) (fun gk vo wr => ∃ (ms : List M) (l' : List UInt8), l'.length < gk ∧ ms.length + gk ≤ (bareF l).length + 1 ∧ Hid (preO ms (allP gk l') = allP ((bareF l).length + 1) (bareF l)) ∧ Hid (Al w wr t vo ms l'))
  case atStart => exact ⟨[], bareF l, by omega, by show 0 + _ ≤ _; omega, by show _ = _; exact preO_nil _, A0⟩
  case round =>
    obtain ⟨ms, l', hlt, hml, HR, HA⟩ := hrel
    clear A0
    obtain ⟨n, rfl⟩ : ∃ n, gk = n + 1 := ⟨gk - 1, by omega⟩
    go_wp2_with fail
    refine (eat_any t ⟨#[125]⟩ l' _ HA.out.tx).mono ?_
    rintro e w2 ⟨rfl, g2, tx2⟩
    have A2' := Lib.hid (HA.out.call g2 tx2)
    clear g2 tx2 HA
    cases he : eatF (by_ ⟨#[125]⟩) l' with
    | some u =>
      have A2 := A2'
      rw [he] at A2
      have E : Hid (allP ((bareF l).length + 1) (bareF l) = some (ms, u)) := by
        have := HR.out
        rw [allP, show eatF [125] l' = some u from he] at this
        show _ = _
        rw [← this]; simp [preO]
      clear he A2'
      go_wp2_with fail
      exact bodyPost_ret (v := .tuple #[_, .bool true]) (by simp [results, Tryd.results41, go_sem]; rfl) rfl ⟨A2.out.grown, by simp only [E.out]; exact ⟨_, rfl, by omega, A2.out⟩⟩
    | none =>
      have A2 := A2'
      rw [he] at A2
      have R2 : Hid (preO ms (match oneP l' with
        | none => none
        | some (m, r) => match eatF [44] r with
          | some r2 => consO m (allP n (bareF r2))
          | none => if r.head? = some 125 then consO m (allP n r) else none) = allP ((bareF l).length + 1) (bareF l)) := by
        have := HR.out
        rw [allP, show eatF [125] l' = none from he] at this
        exact this
      clear he A2' HR
      have O := Lib.hid (one_of t l' w2 A2.out.tx (by omega))
      go_wp2_with fail
      refine O.out.mono ?_
      rintro e w3 ⟨g3, h3⟩
      cases ho : oneP l' with
      | none =>
        have E : Hid (allP ((bareF l).length + 1) (bareF l) = none) := by
          have := R2.out
          rw [ho] at this
          exact this.symm
        rw [ho] at h3
        obtain rfl := h3
        have G := Lib.hid (grown_trans A2.out.grown g3)
        clear ho g3 R2 A2 O
        go_wp2_with fail
        exact bodyPost_ret (v := .tuple #[.slice none 0 0, .bool false]) (by simp [results, Tryd.results41, go_sem]) rfl ⟨grown_then G.out ((Below.refl _ _).alloc (Nat.le_refl _) _), by simp only [E.out]⟩
      | some p =>
        obtain ⟨m, r⟩ := p
        rw [ho] at h3
        obtain ⟨rfl, tx3⟩ := h3
        have A3 := Lib.hid (A2.out.call g3 tx3)
        have hr := oneP_len ho
        have R3 : Hid (preO ms (match eatF [44] r with
          | some r2 => consO m (allP n (bareF r2))
          | none => if r.head? = some 125 then consO m (allP n r) else none) = allP ((bareF l).length + 1) (bareF l)) := by
          have := R2.out
          rw [ho] at this
          exact this
        clear ho g3 tx3 R2 A2 O
        obtain ⟨mk, mn, mv⟩ := m
        have OW := Lib.hid (fun (o o' : Obj) => (A3.out.own.alloc o).alloc o')
        go_wp2_with (at_builtin; refine wpList_append_own_at _ rfl (.tmp 19) (.tmp 21) 22 rfl w.heap.size 26 i0 (.agg #[.int .i64 0, .string ⟨#[]⟩, .string ⟨#[]⟩]) 3 40 Tryd.underlying22 I0.out.2.2.2 I0.out.1 I0.out.2.1 I0.out.2.2.1 rfl (by decide) _ ms.length _ rfl (OW.out _ _) _ 1 1 [.int .i64 mk, .string mn, .string mv] rfl rfl ?c1 (one3 _ _ _) (by unfold maxLen; omega) (by omega) ?c3 ?_)
        case c1 => exact news3 _ _ _ _ _ (by simp)
        case c3 => have := A3.out.grown.size; simp; omega
        intro v' w5 own5 grow5 _ _
        have A5 := Lib.hid (A3.out.pushed (m := ⟨mk, mn, mv⟩) (((Below.refl _ _).alloc (Nat.le_refl _) _).alloc (by simp) _) grow5 own5)
        clear own5 grow5 A3 OW
        go_wp2_with fail
        refine (eat_any t ⟨#[44]⟩ r _ A5.out.tx).mono ?_
        rintro e w6 ⟨rfl, g6, tx6⟩
        have A6' := Lib.hid (A5.out.call g6 tx6)
        clear g6 tx6 A5
        cases he : eatF (by_ ⟨#[44]⟩) r with
        | some r2 =>
          have A6 := A6'
          rw [he] at A6
          have hr2 := eatF_length he
          have R4 : Hid (preO (ms ++ [⟨mk, mn, mv⟩]) (allP n (bareF r2)) = allP ((bareF l).length + 1) (bareF l)) := by
            have := R3.out
            rw [show eatF [44] r = some r2 from he] at this
            exact (preO_one _ _ _).symm.trans this
          clear he A6' R3
          go_wp2_with fail
          refine (blanks_any t r2 _ A6.out.tx).mono ?_
          rintro e w7 ⟨rfl, g7, tx7⟩
          have A7 := Lib.hid (A6.out.call g7 tx7)
          have hb2 : (bareF r2).length ≤ r2.length := dropWhile_le _ _
          clear g7 tx7 A6
          go_wp2_with fail
          go_roundg n
          case measure => omega
          case rel => exact ⟨_, _, by omega, by simp; omega, R4, A7⟩
        | none =>
          have A6 := A6'
          rw [he] at A6
          have R4 : Hid (preO ms (if r.head? = some 125 then consO ⟨mk, mn, mv⟩ (allP n r) else none) = allP ((bareF l).length + 1) (bareF l)) := by
            have := R3.out
            rw [show eatF [44] r = none from he] at this
            exact this
          clear he A6' R3
          obtain ⟨s6, hs6, es6'⟩ := A6.out.tx
          have es6 : by_ s6 = r := es6'
          clear es6'
          obtain ⟨x0, xf⟩ := cells1 hs6
          by_cases hz : s6.size = 0
          · have hem : s6.toList.isEmpty = true := by rw [tl_eq, show s6.data.toList = [] from by_empty hz]; rfl
            have E : Hid (allP ((bareF l).length + 1) (bareF l) = none) := by
              have := R4.out
              rw [← es6, by_empty hz, if_neg (by simp)] at this
              exact this.symm
            clear R4 es6 hs6
            go_wp2_with fail
            exact bodyPost_ret (v := .tuple #[.slice none 0 0, .bool false]) (by simp [results, Tryd.results41, go_sem]) rfl ⟨A6.out.grown, by simp only [E.out]⟩
          · have hp : 0 < s6.size := by omega
            have hem := string_ne hp
            have u := ub_eq (s6[0]'hp) 125 (by omega)
            have hd : r.head? = some (s6[0]'hp) := by rw [← es6, show by_ s6 = (s6[0]'hp) :: (by_ s6).drop 1 from drop_two hp]; rfl
            by_cases hq : (s6[0]'hp) = 125
            · rw [decide_eq_true (show (s6[0]'hp) = UInt8.ofNat 125 from hq)] at u
              have R5 : Hid (preO (ms ++ [⟨mk, mn, mv⟩]) (allP n r) = allP ((bareF l).length + 1) (bareF l)) := by
                have := R4.out
                rw [if_pos (by rw [hd, hq])] at this
                exact (preO_one _ _ _).symm.trans this
              clear R4 hd hq es6 hs6
              go_wp2_with fail
              go_roundg n
              case measure => omega
              case rel => exact ⟨_, _, by omega, by simp; omega, R5, A6⟩
            · rw [decide_eq_false (show ¬ (s6[0]'hp) = UInt8.ofNat 125 from hq)] at u
              have E : Hid (allP ((bareF l).length + 1) (bareF l) = none) := by
                have := R4.out
                rw [if_neg (by rw [hd]; simpa using hq)] at this
                exact this.symm
              clear R4 hd hq es6 hs6
              go_wp2_with fail
              exact bodyPost_ret (v := .tuple #[.slice none 0 0, .bool false]) (by simp [results, Tryd.results41, go_sem]) rfl ⟨A6.out.grown, by simp only [E.out]⟩
end Go.Proofs.YthlabaijaadocaaDoor
