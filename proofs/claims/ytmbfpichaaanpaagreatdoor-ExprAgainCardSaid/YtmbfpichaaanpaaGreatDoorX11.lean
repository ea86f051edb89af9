import Derived.Test.YtmbfpichaaanpaaGreatDoorX10
import Derived.Deep.RegionLaw
import Derived.Deep.AppendLies
import Derived.Lib.OthersKept
/-! A pattern, read. -/
namespace Go.Proofs.YtmbfpichaaanpaaGreatDoor
open Go.RowKit Ut Rx

theorem pair_list {α β : Type} {p q : α × β} (h : p ∈ [q]) : p = q := by simpa using h
/-- the first branch is read -/
theorem Pa.first {w w1 : World} {r nb : Nat} {s : ByteArray} {d z : Int} {l : List Int} {f : Fi} (h : At w1 r s l d z) (g : w.grownBy w1 (some r)) (hT : Lib.Utf8Tabs 6 7 w1) (hk : Keeps f)
    (hd : Den false (fun k => w.heap.size ≤ k ∧ k < w1.heap.size) w1 nb f) :
    Pa 2 false w ((w1.alloc (.cells #[.pointer (some ⟨nb, 0, none⟩)] 125)).alloc (.cells #[.int .i64 2, .slice none 0 0, .bool false, .bool false, .slice (some ⟨w1.heap.size, 0, none⟩) 1 1, .int .i32 0] 156))
      (w1.heap.size + 1) r s d z (.slice (some ⟨w1.heap.size, 0, none⟩) 1 1) [(nb, f)] l := by
  have sz1 : (w1.alloc (.cells #[.pointer (some ⟨nb, 0, none⟩)] 125)).heap.size = w1.heap.size + 1 := by simp
  have sz : ((w1.alloc (.cells #[.pointer (some ⟨nb, 0, none⟩)] 125)).alloc (.cells #[.int .i64 2, .slice none 0 0, .bool false, .bool false, .slice (some ⟨w1.heap.size, 0, none⟩) 1 1, .int .i32 0] 156)).heap.size = w1.heap.size + 1 + 1 := by simp
  have b : Below w1.heap.size w1 ((w1.alloc (.cells #[.pointer (some ⟨nb, 0, none⟩)] 125)).alloc (.cells #[.int .i64 2, .slice none 0 0, .bool false, .bool false, .slice (some ⟨w1.heap.size, 0, none⟩) 1 1, .int .i32 0] 156)) :=
    ((Below.refl _ _).alloc (Nat.le_refl _) _).alloc (by simp) _
  have gs := g.size
  refine ⟨h.below b, grown_then g b, tabs_below hT b, by omega, by rw [← sz1]; exact heap_alloc_new _ _, ?_, ?_, ⟨fun k => w.heap.size ≤ k ∧ k < w1.heap.size, fun k hk => ?_, fun p hp => ?_⟩, fun p hp => ?_⟩
  · refine ⟨rfl, Or.inr ⟨w1.heap.size, 1, #[.pointer (some ⟨nb, 0, none⟩)], rfl, gs, ?_, Nat.le_refl _, by unfold maxLen; omega, rfl, rfl⟩⟩
    rw [heap_alloc_old _ _ (show w1.heap.size < _ by rw [sz1]; omega)]
    exact heap_alloc_new w1 _
  · intro e
    have : w1.heap.size = w1.heap.size + 1 := Option.some.inj e
    omega
  · rw [sz]
    refine ⟨hk.1, by have := hk.2; omega, by have := hk.2; omega, fun e => ?_⟩
    have : k = w1.heap.size := Option.some.inj e
    have := hk.2; omega
  · have e := pair_list hp
    subst e
    exact hd.move b.size (fun k hk => b.block k hk.2) (fun _ h => h)
  · have e := pair_list hp
    subst e; exact hk

theorem alikeF_one {f : Fi} (l : List Int) (v : List Bool) (h : (f l v).length = v.length) : alikeF [f] l v = f l v := by
  unfold alikeF
  show orF (List.replicate v.length false) (f l v) = f l v
  apply sub_antisymm
  · rw [orF_length (by rw [h]; simp), h]; simp
  · exact or_sub (by rw [h]; simp) (fun i hi => by rw [List.getD_eq_getElem?_getD, List.getElem?_replicate] at hi; split at hi <;> cases hi) (sub_refl _)
  · exact sub_or_right (by rw [h]; simp)

theorem news_one (w : World) (nb : Nat) : ∀ j u, [Value.pointer (some ⟨nb, 0, none⟩)][j]? = some u → (w.alloc (.cells #[.pointer (some ⟨nb, 0, none⟩)] 125)).cell? ((⟨w.heap.size, 0, none⟩ : Addr).add j) = some u := by
  intro j u hu
  cases j with
  | zero =>
    have : u = .pointer (some ⟨nb, 0, none⟩) := by simpa using hu.symm
    subst this
    exact World.cell?_alloc_at _ _ _ _ rfl
  | succ j => simp at hu
theorem one_cell (nb : Nat) : ∀ u ∈ [Value.pointer (some ⟨nb, 0, none⟩)], u.oneCell' = true := by
  intro u hu
  have : u = .pointer (some ⟨nb, 0, none⟩) := (by simpa using hu)
  subst this; rfl

set_option maxRecDepth 100000 in
set_option maxHeartbeats 4000000 in
theorem pattern_of (n : Nat) (hn : n ≤ 900000) (ih : ∀ m, m ≤ n → CBra m) : CPat (n + 1) := by
  intro d l res hres r s z w h hr hT hs hd
  have lt := h.lt
  obtain ⟨i0, hi, hz0, hz1, hz2⟩ := info_parts infoPt
  have I0 : Hid (i0.zero = some (.pointer none) ∧ i0.size = 1 ∧ i0.bytes = 8 ∧ Tryz.prog.info? 125 = some i0) := ⟨hz0, hz1, hz2, hi⟩
  clear hz0 hz1 hz2 hi
  cases hp : parF n (.bra .nil) d l with
  | none => rw [parF, hp] at hres; cases hres
  | some rp =>
    rw [parF, hp] at hres
    have IH := Lib.hid (ih n (Nat.le_refl _) d l rp hp r s z w h hr hT hs hd)
    have HT := Lib.hid hT
    clear h hT hp
    cases rp with
    | error er =>
      have E : Hid (res = .error er) := (Option.some.inj hres).symm
      clear hres
      go_enter Tryz.func129, Tryz.ntmps129
      go_wp2_with fail
      refine IH.out.mono ?_
      rintro e w2 ⟨g2, at_, rfl⟩
      rw [E.out]
      exact ⟨rfl, g2, ⟨_, rfl⟩⟩
    | ok x =>
      obtain ⟨p, u⟩ := x
      have RES : Hid (parF n (.alt p) d u = some res) := hres
      clear hres
      go_enter Tryz.func129, Tryz.ntmps129
      go_wp2_with fail
      refine IH.out.mono ?_
      rintro e w2 ⟨g2, nb, z2, rfl, hat, hden⟩
      have P1 := Lib.hid (Pa.first hat g2 (tabs_grown HT.out hr g2) (den_keeps p) hden)
      clear g2 hat hden IH HT
      go_wp2_with fail
      generalize (w2.heap.size + 1) = pb at *
      go_loopg [] n (fun gk wr => ∃ z pv ps acc l', ps.length + gk ≤ 1000000 ∧ gk ≤ n ∧ Hid (parF gk (.alt acc) d l' = some res) ∧ Hid (Pa 2 false w wr pb r s d z pv ps l') ∧ Hid (∀ l v, v.length = l.length + 1 → alikeF (ps.map (·.2)) l v = den acc l v))
      case atStart => exact ⟨z2, _, [(nb, den p)], p, u, by simp; omega, Nat.le_refl _, RES.out, P1.out, fun l v hv => alikeF_one l v (by rw [den_keeps p l v hv, hv])⟩
      case round =>
        obtain ⟨z, pv, ps, acc, l', hlen, hgn, HC, HP, HM⟩ := hrel
        clear P1 RES
        cases gk with
        | zero => exact absurd HC.out (by simp [parF])
        | succ m =>
          go_wp2_with fail
          refine (peek_at r s l' _ z wr HP.out.here HP.out.tabs).mono ?_
          rintro e w3 ⟨rfl, hb3⟩
          have HP3 := Lib.hid (HP.out.below hr lt hb3)
          clear hb3 HP
          by_cases hgo : (pk l' == 124) = true
          · obtain ⟨t, rfl⟩ : ∃ t, l' = 124 :: t := by
              cases l' with
              | nil => cases hgo
              | cons c t => exact ⟨t, by have : c = 124 := (by simpa [pk] using hgo); rw [this]⟩
            have HC2 : Hid (thenF (parF m (.bra .nil) d t) (fun p l => parF m (.alt (.alt acc p)) d l) = some res) := by
              have := HC.out
              rw [parF, if_pos hgo] at this
              exact this
            have hp124 : pk (124 :: t) = 124 := rfl
            rw [hp124]
            clear hgo HC hp124
            go_wp2_with fail
            refine (skip_any r s 124 t _ z w3 HP3.out.here hs).mono ?_
            rintro e w4 ⟨rfl, h4, g4⟩
            have HP4 := Lib.hid (HP3.out.call hr lt g4 h4)
            clear h4 g4 HP3
            go_wp2_with fail
            cases hp : parF m (.bra .nil) d t with
            | none => exact absurd HC2.out (by rw [hp]; simp [thenF])
            | some rp =>
              have IH := Lib.hid (fun (w' : World) (hb : Below w4.heap.size w4 w') => ih m (by omega) d t rp hp r s z w' (HP4.out.here.below hb) hr (tabs_below HP4.out.tabs hb) hs hd)
              have R2 := HC2.out
              rw [hp] at R2
              have c0 := HP4.out.cell
              have hrp : pb ≠ r := by have := HP4.out.lo; omega
              clear hp HC2
              cases rp with
              | error er =>
                have E : Hid (res = .error er) := (Option.some.inj R2).symm
                clear R2
                refine wp_region_held_drew (S := fun w' => w'.cell? ⟨pb, 4, none⟩ = some pv) (by kernel_rfl) c0 (fun hHeld => ?_)
                try dsimp only at hHeld
                refine wpAnyH_take (i := 0) (v := ?_) rfl (by kernel_rfl) (by kernel_rfl) (by kernel_rfl) (fun _ _ _ h => h) (Or.inl ⟨by rfl, ?_⟩) hHeld ?_
                rotate_left
                · intro wz hSw
                  try dsimp only at hSw
                  go_simp
                  try with_reducible rfl
                try simp only [Act.put, List.setIfInBounds_toArray]
                refine wpAnyH_take (i := 1) (v := ?_) rfl (by kernel_rfl) (by kernel_rfl) (by kernel_rfl) (fun _ _ _ h => h) (Or.inl ⟨by rfl, ?_⟩) hHeld ?_
                rotate_left
                · intro wz hSw
                  try dsimp only at hSw
                  go_simp
                  try with_reducible rfl
                try simp only [Act.put]
                refine wpAnyH_take (i := 2) (v := ?_) rfl (by kernel_rfl) (by kernel_rfl) (by kernel_rfl) (fun _ _ _ h => h) (Or.inl ⟨by rfl, ?_⟩) hHeld ?_
                rotate_left
                · intro wz hSw
                  try dsimp only at hSw
                  go_simp
                  try with_reducible rfl
                try simp only [Act.put]
                refine wpAnyH_take (i := 3) (v := ?_) rfl (by kernel_rfl) (by kernel_rfl) (by kernel_rfl) (fun _ _ _ h => h) (Or.inl ⟨by rfl, ?_⟩) hHeld ?_
                rotate_left
                · intro wz hSw
                  try dsimp only at hSw
                  go_simp
                  try with_reducible rfl
                try simp only [Act.put]
                refine wpAnyH_take (i := 4) (v := ?_) rfl (by kernel_rfl) (by kernel_rfl) (by kernel_rfl) (fun _ _ _ h => h) (Or.inl ⟨by rfl, ?_⟩) hHeld ?_
                rotate_left
                · intro wz hSw
                  try dsimp only at hSw
                  go_simp
                  try with_reducible rfl
                try simp only [Act.put]
                refine wpAnyH_take (i := 5) (v := ?_) rfl (by kernel_rfl) (by kernel_rfl) (by kernel_rfl) (fun _ _ _ h => h) (Or.inl ⟨by rfl, ?_⟩) hHeld ?_
                rotate_left
                · intro wz hSw
                  try dsimp only at hSw
                  go_simp
                  try with_reducible rfl
                try simp only [Act.put]
                refine wpAnyH_ready (rs := [6]) (by kernel_rfl) (by simp) ?_
                refine AllReadyH.cons rfl (fun K hK => ?_) AllReadyH.nil
                go_simp
                go_at_call 146
                refine Calls.mono (IH.out _ (Below.drew (Below.refl _ _))) ?_
                rintro e w6 ⟨g6, at_, rfl⟩
                rw [E.out]
                exact ⟨rfl, grown_trans HP4.out.grown (below_then (Below.drew (Below.refl _ _)) g6), ⟨_, rfl⟩⟩
              | ok x =>
                obtain ⟨p, u⟩ := x
                have R3 : Hid (parF m (.alt (.alt acc p)) d u = some res) := R2
                clear R2
                have OKC : Hid (∀ (w' : World), Below w4.heap.size w4 w' → Calls Tryz.prog 146 #[.pointer (some ⟨r, 0, none⟩)] w' fun e w6 => ∃ b z', e = .returned (.pointer (some ⟨b, 0, none⟩)) ∧ Pa 2 false w w6 pb r s d z' pv ps u ∧ More false w w6 pb pv b (den p)) := fun w' hb => by
                  refine (IH.out w' hb).mono ?_
                  rintro e w6 ⟨g6, b, z', rfl, hat, hden⟩
                  have h1 := HP4.out.below hr lt hb
                  exact ⟨b, z', rfl, h1.call hr lt g6 hat, h1.more hden⟩
                clear IH
                go_region_law (first
                  | (go_simp; go_at_call 146; refine Calls.mono (OKC.out _ ?_) ?_; (repeat (first | refine Below.drew ?_ | refine below_drewN ?_ _)); exact Below.refl _ _; rintro e w6 ⟨b6, z6, rfl, hp6, hm6⟩; have c6 := hp6.cell; have c6b : (w6.alloc (.cells #[.pointer (some ⟨b6, 0, none⟩)] 125)).cell? ⟨pb, 4, none⟩ = some pv := (World.cell?_alloc_lt _ _ _ hp6.ltp).trans c6; have HP6 := Lib.hid hp6; have HM6 := Lib.hid hm6; have NEWS := Lib.hid (news_one w6 b6); have ONEC := Lib.hid (one_cell b6); have SZ6 : Hid (w.heap.size ≤ (w6.alloc (.cells #[.pointer (some ⟨b6, 0, none⟩)] 125)).heap.size) := Nat.le_trans hp6.grown.size (by simp); clear hp6 hm6)
                  | (refine step_append_lies _ rfl (.tmp 18) (.tmp 21) 153 rfl w.heap.size 125 i0 (.pointer none) 1 8 Tryz.underlying153 I0.out.2.2.2 I0.out.1 I0.out.2.1 I0.out.2.2.1 rfl (by decide) _ ps.length _ (by simp [Act.eval]) (HP6.out.own.alloc _) _ 1 1 [.pointer (some ⟨b6, 0, none⟩)] (by simp [Act.eval]) rfl NEWS.out ONEC.out (by decide) (by unfold maxLen; omega) (by omega) SZ6.out _ rfl ?_; intro g8 cap8 w8 own8 grow8 at8 lt8; obtain ⟨kc8, kf8, HP8'⟩ := HP6.out.appended hr lt HM6.out (den_keeps p) rfl own8 grow8 (at8.imp Eq.symm (congrArg some)); have HP8 := Lib.hid HP8'; clear HP8' own8 grow8 at8 lt8))
                all_goals
                  go_wp2_with fail
                  go_roundg m
                  case measure => omega
                  case rel =>
                    refine ⟨z6, _, _, .alt acc p, u, by rw [List.length_append]; simp only [List.length_cons, List.length_nil]; omega, by omega, R3, HP8, fun l v hv => ?_⟩
                    have := HM.out l v hv
                    simp only [den, ← this]
                    simp [alikeF, List.map_append, List.foldl_append]
          · have E : Hid (res = .ok (acc, l')) := by
              have := HC.out
              rw [parF, if_neg hgo] at this
              exact (Option.some.inj this).symm
            have hgf : (pk l' == 124) = false := by simpa using hgo
            clear hgo HC
            go_wp2_with fail
            go_ret
            rw [E.out]
            exact ⟨HP3.out.grown, pb, z, rfl, HP3.out.here, (HP3.out.alike (by omega)).congr HM.out⟩
end Go.Proofs.YtmbfpichaaanpaaGreatDoor

/-! Whatever is read; the runes of a text; whether a text is of a pattern. -/
namespace Go.Proofs.YtmbfpichaaanpaaGreatDoor
open Go.RowKit Ut Rx

theorem reads : ∀ n, n ≤ 900000 → CPat n ∧ CBra n ∧ CAtom n := by
  intro n
  induction n using Nat.strongRecOn with
  | _ n ih =>
    intro hn
    have hb : CBra n := branch_of n hn fun m hm => (ih m hm (by omega)).2.2
    refine ⟨?_, hb, ?_⟩
    · cases n with
      | zero => intro d l res hres; cases hres
      | succ k => exact pattern_of k (by omega) fun m hm => (ih m (by omega) (by omega)).2.1
    · cases n with
      | zero => intro d l res hres; cases hres
      | succ k => exact atom_of k (by omega) (ih k (by omega) (by omega)).1

theorem rn_take (s : ByteArray) (pos : Nat) (hp : pos < s.size) : rn (s.data.toList.drop pos) = ((Utf8.decode s pos).1 : Int) :: rn (s.data.toList.drop (pos + (Utf8.decode s pos).2)) := by
  have hne : s.data.toList.drop pos ≠ [] := fun e => by
    have := congrArg List.length e
    rw [List.length_drop, tl_len] at this; simp at this; omega
  rw [rn_step _ hne, List.drop_drop, Lib.decodeL_drop]
set_option maxRecDepth 100000 in
theorem infoRu : (Tryz.prog.info? 21).map (fun i => (i.zero, i.size, i.bytes)) = some (some (.int .i32 0), 1, 4) := by kernel_rfl
theorem rn_le (l : List UInt8) : (rn l).length ≤ l.length := by
  have : ∀ (n : Nat) (l : List UInt8), l.length ≤ n → (rn l).length ≤ l.length := by
    intro n
    induction n with
    | zero => intro l h; have : l = [] := List.eq_nil_of_length_eq_zero (by omega); subst this; exact Nat.le_refl _
    | succ n ih =>
      intro l h
      by_cases e : l = []
      · subst e; exact Nat.le_refl _
      · rw [rn_step l e]
        have h1 := Lib.decodeL_width l
        have h2 := List.length_pos_iff.2 e
        have h3 := ih (l.drop (Lib.decodeL l).2) (by rw [List.length_drop]; omega)
        rw [List.length_drop] at h3
        simp; omega
  exact this _ l (Nat.le_refl _)

def RunesPost (w : World) (l : List Int) (e : Ending) (w' : World) : Prop := ∃ v, e = .returned v ∧ Rns w' v l ∧ Below w.heap.size w w'
set_option maxRecDepth 100000 in
set_option maxHeartbeats 2000000 in
theorem runes_any (s : ByteArray) (w : World) (hs : s.size ≤ 1000000) : Calls Tryz.prog 131 #[.string s] w (RunesPost w (rn s.data.toList)) := by
  obtain ⟨i0, hi, hz0, hz1, hz2⟩ := info_parts infoRu
  have I0 : Hid (i0.zero = some (.int .i32 0) ∧ i0.size = 1 ∧ i0.bytes = 4 ∧ Tryz.prog.info? 21 = some i0) := ⟨hz0, hz1, hz2, hi⟩
  clear hz0 hz1 hz2 hi
  go_enter Tryz.func131, Tryz.ntmps131
  go_wp2_with fail
  go_loopg [3] s.size (fun gk v wr => ∃ (pos : Nat) (acc : List Int), pos ≤ s.size ∧ s.size - pos ≤ gk ∧ acc.length ≤ pos ∧ Hid (acc ++ rn (s.data.toList.drop pos) = rn s.data.toList) ∧ Hid (wr.heap[w.heap.size]? = some (.stringIter s pos)) ∧ Hid (wr.ownsRow (w.heap.size + 1) 21 1 v acc.length (acc.map (Value.int .i32))) ∧ Hid (Below w.heap.size w wr))
  case atStart =>
    exact ⟨0, [], Nat.zero_le _, by omega, Nat.le_refl _, by show _ = _; simp, World.iter_heap _ _ _, World.ownsRow_nil _ _ _ _, (Below.refl _ _).alloc (Nat.le_refl _) _⟩
  case round =>
    obtain ⟨pos, acc, hps, hgk, hal, HR, HI, HO, HB⟩ := hrel
    by_cases hp : pos < s.size
    · have hnx : ∀ ty, (Instr.next (.pointer (some ⟨w.heap.size, 0, none⟩)) true ty).run Tryz.prog wr = _ := fun ty => Go.Lib.run_next_any_at wr w.heap.size s pos ty HI.out hp
      have hw := Lib.decode_width_pos s pos hp
      have hfit : (Utf8.decode s pos).2 ≤ s.size - pos := by
        have hne : s.data.toList.drop pos ≠ [] := fun e => by
          have := congrArg List.length e
          rw [List.length_drop, tl_len] at this; simp at this; omega
        have := Lib.decodeL_le _ hne
        rw [Lib.decodeL_drop, List.length_drop, tl_len] at this
        exact this
      have RT := Lib.hid (rn_take s pos hp)
      generalize (Utf8.decode s pos).1 = c at hnx RT
      generalize (Utf8.decode s pos).2 = wd at hnx RT hw hfit
      have HI2 := Lib.hid (Go.Lib.iterAt_heap wr w.heap.size s pos (pos + wd) HI.out)
      have HO2 := Lib.hid (ownsRow_iterAt HO.out (Nat.lt_succ_self w.heap.size) s (pos + wd))
      have HB2 := Lib.hid (Go.Lib.below_iterAt HB.out (Nat.le_refl _) s (pos + wd))
      have hz : w.heap.size + 1 ≤ (wr.iterAt w.heap.size s (pos + wd)).heap.size := by rw [Go.Lib.iterAt_size]; exact (Array.getElem?_eq_some_iff.1 HI.out).1
      generalize wr.iterAt w.heap.size s (pos + wd) = wi at *
      have N1 : Hid (∀ j u, [Value.int .i32 (c : Int)][j]? = some u → (wi.alloc (.cells #[.int .i32 (c : Int)] 21)).cell? ((⟨wi.heap.size, 0, none⟩ : Addr).add j) = some u) := fun j u hu => by
        cases j with
        | zero =>
          have : u = .int .i32 (c : Int) := by simpa using hu.symm
          subst this
          exact World.cell?_alloc_at _ _ _ _ rfl
        | succ j => simp at hu
      have N2 : Hid (∀ u ∈ [Value.int .i32 (c : Int)], u.oneCell' = true) := fun u hu => by
        have : u = .int .i32 (c : Int) := (by simpa using hu)
        subst this; rfl
      clear HO HB
      go_wp2_with (at_builtin; refine wpList_append_own _ rfl (.tmp 11) (.tmp 13) 130 rfl (w.heap.size + 1) 21 i0 (.int .i32 0) 1 4 Tryz.underlying130 I0.out.2.2.2 I0.out.1 I0.out.2.1 I0.out.2.2.1 rfl (by decide) _ acc.length _ rfl (HO2.out.alloc _) _ 1 1 [.int .i32 (c : Int)] rfl rfl N1.out N2.out (by unfold maxLen; omega) (by omega) (by simp; omega) ?_)
      intro v' w5 own5 grow5 _
      obtain ⟨A5, n5, c5, rfl⟩ := ownsRow_is own5
      have HB3 : Hid (Below (w.heap.size + 1) wi w5) := by
        have b : Below (w.heap.size + 1) wi (wi.alloc (.cells #[.int .i32 (c : Int)] 21)) := (Below.refl _ _).alloc hz _
        refine ⟨grow5.os.trans b.os, grow5.tape.trans b.tape, grow5.output.trans b.output, Nat.le_trans b.size grow5.size, fun k hk => (grow5.block k (by simp; omega) (fun e => ?_)).trans (b.block k hk)⟩
        have := (HO2.out.lt k e.symm).1; omega
      have OW := Lib.hid own5
      clear own5 grow5 N1 N2 HO2
      go_wp2_with fail
      go_roundg (gk - 1)
      case measure => omega
      case rel =>
        refine ⟨pos + wd, acc ++ [(c : Int)], by omega, by omega, by rw [List.length_append]; simp only [List.length_cons, List.length_nil]; omega, ?_, (HB3.out.block _ (Nat.lt_succ_self _)).trans HI2.out, ?_, HB2.out.trans (HB3.out.mono (Nat.le_succ _))⟩
        · show _ = _
          rw [← HR.out, RT.out]; simp
        · show World.ownsRow _ _ _ _ _ _ _
          rw [List.length_append, List.map_append]; exact OW.out
    · obtain rfl : pos = s.size := by omega
      have hnx : ∀ ty, (Instr.next (.pointer (some ⟨w.heap.size, 0, none⟩)) true ty).run Tryz.prog wr = _ := fun ty => Go.Lib.run_next_end_at wr w.heap.size s s.size ty HI.out hp
      go_wp2_with fail
      go_ret
      have hr := HR.out
      have e : s.data.toList.drop s.size = [] := List.drop_of_length_le (by rw [tl_len]; exact Nat.le_refl _)
      rw [e, rn_nil, List.append_nil] at hr
      subst hr
      refine ⟨_, rfl, ?_, HB.out⟩
      have ho := HO.out
      refine ⟨ho.1, ?_⟩
      rcases ho.2 with h1 | ⟨g, cap, cur, e1, e2, e3⟩
      · exact Or.inl h1
      · exact Or.inr ⟨g, cap, cur, e1, Nat.zero_le _, e3⟩
end Go.Proofs.YtmbfpichaaanpaaGreatDoor

/-! Whether a text is of a pattern. -/
namespace Go.Proofs.YtmbfpichaaanpaaGreatDoor
open Go.RowKit Ut Rx

/-- x is a pattern that means p -/
def RexAt (lo hi : Nat) (w : World) (x : Value) (p : Pat) : Prop :=
  hi ≤ w.heap.size ∧ ∃ rb tb sz txt, ∃ F : Nat → Prop, x = .pointer (some ⟨rb, 0, none⟩) ∧ w.heap[rb]? = some (.cells #[.string txt, .pointer (some ⟨tb, 0, none⟩), .int .i64 sz] 129 (0, 0)) ∧ Den true F w tb (den p) ∧ (∀ k, F k → lo ≤ k ∧ k < hi) ∧ lo ≤ rb ∧ rb < hi
theorem RexAt.same {lo hi : Nat} {w w' : World} {x : Value} {p : Pat} (h : RexAt lo hi w x p) (hs : w.heap.size ≤ w'.heap.size) (g : ∀ k, lo ≤ k → k < hi → w'.heap[k]? = w.heap[k]?) : RexAt lo hi w' x p := by
  obtain ⟨hh, rb, tb, sz, txt, F, e, hb, hd, hf, hl, hr⟩ := h
  exact ⟨Nat.le_trans hh hs, rb, tb, sz, txt, F, e, (g rb hl hr).trans hb, hd.move hs (fun k hk => g k (hf k hk).1 (hf k hk).2) (fun _ h => h), hf, hl, hr⟩
theorem RexAt.below {lo hi : Nat} {w w' : World} {x : Value} {p : Pat} (h : RexAt lo hi w x p) (b : Below w.heap.size w w') : RexAt lo hi w' x p :=
  h.same b.size fun k _ h2 => b.block k (Nat.lt_of_lt_of_le h2 h.1)
theorem RexAt.grown {lo hi r : Nat} {w w' : World} {x : Value} {p : Pat} (h : RexAt lo hi w x p) (g : w.grownBy w' (some r)) (hr : r < lo ∨ hi ≤ r) : RexAt lo hi w' x p :=
  h.same g.size fun k h1 h2 => g.block k (Nat.lt_of_lt_of_le h2 h.1) (fun e => by have : k = r := Option.some.inj e; omega)

/-- the places at which a text begins: its begin alone -/
def firstB (n : Nat) : List Bool := true :: List.replicate n false
theorem firstB_length (n : Nat) : (firstB n).length = n + 1 := by simp [firstB]
theorem made_first (n : Nat) (hn : n + 1 ≤ 4000000) (w : World) : Bls (w.alloc (.cells ((bz (n + 1)).setIfInBounds 0 (.bool true)) 4)) (.slice (some ⟨w.heap.size, 0, none⟩) (n + 1) (n + 1)) (firstB n) := by
  unfold Bls
  rw [firstB_length]
  have hs : (bz (n + 1)).size = n + 1 := by
    have := congrArg List.length (bz_list (n + 1))
    simpa using this
  refine ⟨by simp [firstB], Or.inr ⟨w.heap.size, n + 1, _, rfl, Nat.zero_le _, heap_alloc_new w _, Nat.le_refl _, by unfold maxLen; omega, by simp [hs], ?_⟩⟩
  rw [Array.toList_setIfInBounds, bz_list]
  simp [firstB, List.replicate_succ]

theorem bz_zero (n : Nat) : (bz (n + 1))[0]? = some (.bool false) := by rw [← Array.getElem?_toList, bz_list]; rfl
set_option maxRecDepth 100000 in
set_option maxHeartbeats 2000000 in
theorem match_any {lo hi : Nat} (x : Value) (p : Pat) (s : ByteArray) (w : World) (hx : RexAt lo hi w x p) (hs : s.size ≤ 900000) :
    Calls Tryz.prog 108 #[x, .string s] w (BoolBelow w (fullB p (rn s.data.toList))) := by
  have HX := Lib.hid hx
  obtain ⟨hh, rb, tb, sz, txt, F, rfl, hb, _, _, _, _⟩ := hx
  have lrb := (Array.getElem?_eq_some_iff.1 hb).1
  have K1 : Hid (∀ w', Below w.heap.size w w' → w'.cell? ⟨rb, 1, none⟩ = some (.pointer (some ⟨tb, 0, none⟩))) := fun w' h => by
    rw [h.cell (p := ⟨rb, 1, none⟩) lrb]; unfold World.cell?; rw [hb]; rfl
  have k1 := K1.out w (Below.refl _ _)
  have DEN : Hid (∀ w', Below w.heap.size w w' → ∀ l lv v fv, Rns w' lv l → Bls w' fv v → v.length = l.length + 1 → l.length ≤ 1000000 → Calls Tryz.prog 132 #[.pointer (some ⟨tb, 0, none⟩), lv, fv] w' (EndsPost true w' fv (den p l v))) := fun w' h => by
    obtain ⟨_, rb', tb', sz', txt', F', e, hb', hd, hf, _⟩ := HX.out
    cases e
    rw [hb] at hb'
    cases hb'
    exact hd w' h.size (fun k hk => h.block k (Nat.lt_of_lt_of_le (hf k hk).2 hh))
  have LE := Lib.hid (rn_le s.data.toList)
  have LS := Lib.hid (tl_len s)
  clear HX hb
  go_enter Tryz.func108, Tryz.ntmps108
  go_wp2_with fail
  refine (runes_any s w (by omega)).mono ?_
  rintro e w1 ⟨v, rfl, hv, hb1⟩
  have HV := Lib.hid hv
  have HB := Lib.hid hb1
  generalize rn s.data.toList = l at *
  have hl9 : l.length ≤ 900000 := by have := LE.out; have := LS.out; omega
  have FB : Hid (fullB p l = (den p l (firstB l.length)).getD l.length false) := rfl
  clear hb1 k1 LE LS
  rcases row_kinds hv with ⟨rfl, hn⟩ | ⟨g, cap, rfl, hcap⟩
  · obtain rfl : l = [] := List.eq_nil_of_length_eq_zero hn
    have hmk : (Instr.makeSlice 132 (.int .i64 1) (.int .i64 1)).run Tryz.prog w1 = .ok (.slice (some ⟨w1.heap.size, 0, none⟩) 1 1) (w1.alloc (.cells (bz 1) 4)) := run_mk 1 (by omega) w1
    have hz0 : (bz 1)[0]? = some (.bool false) := bz_zero 0
    clear hv hn
    have B2 : Below w.heap.size w (w1.alloc (.cells ((bz (1)).setIfInBounds 0 (.bool true)) 4)) := HB.out.alloc HB.out.size _
    have k1 := K1.out _ B2
    have E := Lib.hid (DEN.out _ B2 [] _ (firstB 0) _ (HV.out.below ((Below.refl _ _).alloc (Nat.le_refl _) _)) (made_first 0 (by simp) w1) (firstB_length _) (by simp))
    have B2H := Lib.hid B2
    have OL := Lib.hid (den_keeps p [] (firstB 0) (firstB_length _))
    clear B2
    go_wp2_with fail
    refine E.out.mono ?_
    rintro e w3 ⟨rv, rfl, hrv, _, hb3⟩
    generalize den p [] (firstB 0) = out at *
    obtain ⟨go, co, rfl, hco⟩ : ∃ g c, rv = .slice (some ⟨g, 0, none⟩) out.length c ∧ out.length ≤ c := by
      rcases row_kinds hrv with ⟨_, hn⟩ | h
      · have := OL.out; omega
      · exact h
    have hlt : 0 < out.length := by have := OL.out; omega
    have hlti : ((0 : Nat) : Int) < out.length := by omega
    have cl : w3.cell? ⟨go, 0, none⟩ = some (.bool (out[0]'hlt)) := (row_cell hrv rfl).2.2 _ _ (by rw [List.getElem?_map, List.getElem?_eq_getElem hlt]; rfl)
    have R : Hid (fullB p [] = out[0]'hlt) := by
      show _ = _
      rw [FB.out]
      show out.getD _ false = _
      rw [List.getD_eq_getElem?_getD]
      exact (congrArg (fun o => o.getD false) (List.getElem?_eq_getElem hlt))
    have HB3 := Lib.hid hb3
    clear hrv hb3 E OL
    go_wp2_with fail
    go_ret
    rw [R.out]
    exact ⟨rfl, B2H.out.trans (HB3.out.mono B2H.out.size)⟩
  · have hmk := run_mk (l.length + 1) (by omega) w1
    have ec : ((l.length + 1 : Nat) : Int) = (l.length : Int) + 1 := by omega
    rw [ec] at hmk
    have hz0 := bz_zero l.length
    clear hv ec
    have B2 : Below w.heap.size w (w1.alloc (.cells ((bz (l.length + 1)).setIfInBounds 0 (.bool true)) 4)) := HB.out.alloc HB.out.size _
    have k1 := K1.out _ B2
    have E := Lib.hid (DEN.out _ B2 l _ (firstB (l).length) _ (HV.out.below ((Below.refl _ _).alloc (Nat.le_refl _) _)) (made_first (l).length (by omega) w1) (firstB_length _) (by omega))
    have B2H := Lib.hid B2
    have OL := Lib.hid (den_keeps p l (firstB (l).length) (firstB_length _))
    clear B2
    go_wp2_with fail
    refine E.out.mono ?_
    rintro e w3 ⟨rv, rfl, hrv, _, hb3⟩
    generalize den p l (firstB (l).length) = out at *
    obtain ⟨go, co, rfl, hco⟩ : ∃ g c, rv = .slice (some ⟨g, 0, none⟩) out.length c ∧ out.length ≤ c := by
      rcases row_kinds hrv with ⟨_, hn⟩ | h
      · have := OL.out; omega
      · exact h
    have hlt : (l).length < out.length := by have := OL.out; omega
    have hlti : (((l).length : Nat) : Int) < out.length := by omega
    have cl : w3.cell? ⟨go, (l).length, none⟩ = some (.bool (out[(l).length]'hlt)) := (row_cell hrv rfl).2.2 _ _ (by rw [List.getElem?_map, List.getElem?_eq_getElem hlt]; rfl)
    have R : Hid (fullB p l = out[(l).length]'hlt) := by
      show _ = _
      rw [FB.out]
      show out.getD _ false = _
      rw [List.getD_eq_getElem?_getD]
      exact (congrArg (fun o => o.getD false) (List.getElem?_eq_getElem hlt))
    have HB3 := Lib.hid hb3
    clear hrv hb3 E OL
    go_wp2_with fail
    go_ret
    rw [R.out]
    exact ⟨rfl, B2H.out.trans (HB3.out.mono B2H.out.size)⟩
end Go.Proofs.YtmbfpichaaanpaaGreatDoor
