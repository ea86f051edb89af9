import Derived.Test.YthlabaijaadocaaDoorMu
import Derived.Deep.RegionLaw
import Derived.Deep.AppendLies
/-! A pattern, read. -/
namespace Go.Proofs.YthlabaijaadocaaDoor
open Go.RowKit Ut Rx

theorem pair_list {α β : Type} {p q : α × β} (h : p ∈ [q]) : p = q := by simpa using h
/-- the first branch is read -/
theorem Pa.first {w w1 : World} {r nb : Nat} {s : ByteArray} {d z : Int} {l : List Int} {f : Fi} (h : At w1 r s l d z) (g : w.grownBy w1 (some r)) (hT : Lib.Utf8Tabs 0 1 w1) (hk : Keeps f)
    (hd : Den false (fun k => w.heap.size ≤ k ∧ k < w1.heap.size) w1 nb f) :
    Pa 2 false w ((w1.alloc (.cells #[.pointer (some ⟨nb, 0, none⟩)] 83)).alloc (.cells #[.int .i64 2, .slice none 0 0, .bool false, .bool false, .slice (some ⟨w1.heap.size, 0, none⟩) 1 1, .int .i32 0] 108))
      (w1.heap.size + 1) r s d z (.slice (some ⟨w1.heap.size, 0, none⟩) 1 1) [(nb, f)] l := by
  have sz1 : (w1.alloc (.cells #[.pointer (some ⟨nb, 0, none⟩)] 83)).heap.size = w1.heap.size + 1 := by simp
  have sz : ((w1.alloc (.cells #[.pointer (some ⟨nb, 0, none⟩)] 83)).alloc (.cells #[.int .i64 2, .slice none 0 0, .bool false, .bool false, .slice (some ⟨w1.heap.size, 0, none⟩) 1 1, .int .i32 0] 108)).heap.size = w1.heap.size + 1 + 1 := by simp
  have b : Below w1.heap.size w1 ((w1.alloc (.cells #[.pointer (some ⟨nb, 0, none⟩)] 83)).alloc (.cells #[.int .i64 2, .slice none 0 0, .bool false, .bool false, .slice (some ⟨w1.heap.size, 0, none⟩) 1 1, .int .i32 0] 108)) :=
    ((Below.refl _ _).alloc (Nat.le_refl _) _).alloc (by simp) _
  have gs := g.size
  refine ⟨h.below b, grown_then g b, tabs_below hT b, by omega, by rw [← sz1]; exact heap_alloc_new _ _, ?_, ?_, ⟨fun k => w.heap.size ≤ k ∧ k < w1.heap.size, fun k hk => ?_, fun p hp => ?_⟩, fun p hp => ?_⟩
  · refine ⟨rfl, Or.inr ⟨w1.heap.size, 1, #[.pointer (some ⟨nb, 0, none⟩)], rfl, gs, ?_, Nat.le_refl _, by unfold maxLen; omega, rfl, rfl⟩⟩
    rw [heap_alloc_old _ _ (show w1.heap.size < _ by rw [sz1]; omega)]
    exact heap_alloc_new w1 _
  · intro e
    have : w1.heap.size = w1.heap.size + 1 := Option.some.inj e
    omega
  · rw [sz]
    refine ⟨hk.1, by have := hk.2; omega, by have := hk.2; omega, fun e => ?_⟩
    have : k = w1.heap.size := Option.some.inj e
    have := hk.2; omega
  · have e := pair_list hp
    subst e
    exact hd.move b.size (fun k hk => b.block k hk.2) (fun _ h => h)
  · have e := pair_list hp
    subst e; exact hk

theorem alikeF_one {f : Fi} (l : List Int) (v : List Bool) (h : (f l v).length = v.length) : alikeF [f] l v = f l v := by
  unfold alikeF
  show orF (List.replicate v.length false) (f l v) = f l v
  apply sub_antisymm
  · rw [orF_length (by rw [h]; simp), h]; simp
  · exact or_sub (by rw [h]; simp) (fun i hi => by rw [List.getD_eq_getElem?_getD, List.getElem?_replicate] at hi; split at hi <;> cases hi) (sub_refl _)
  · exact sub_or_right (by rw [h]; simp)

theorem news_one (w : World) (nb : Nat) : ∀ j u, [Value.pointer (some ⟨nb, 0, none⟩)][j]? = some u → (w.alloc (.cells #[.pointer (some ⟨nb, 0, none⟩)] 83)).cell? ((⟨w.heap.size, 0, none⟩ : Addr).add j) = some u := by
  intro j u hu
  cases j with
  | zero =>
    have : u = .pointer (some ⟨nb, 0, none⟩) := by simpa using hu.symm
    subst this
    exact World.cell?_alloc_at _ _ _ _ rfl
  | succ j => simp at hu
theorem one_cell (nb : Nat) : ∀ u ∈ [Value.pointer (some ⟨nb, 0, none⟩)], u.oneCell' = true := by
  intro u hu
  have : u = .pointer (some ⟨nb, 0, none⟩) := (by simpa using hu)
  subst this; rfl

set_option maxRecDepth 100000 in
set_option maxHeartbeats 4000000 in
theorem pattern_of (n : Nat) (hn : n ≤ 900000) (ih : ∀ m, m ≤ n → CBra m) : CPat (n + 1) := by
  intro d l res hres r s z w h hr hT hs hd
  have lt := h.lt
  obtain ⟨i0, hi, hz0, hz1, hz2⟩ := info_parts infoPt
  have I0 : Hid (i0.zero = some (.pointer none) ∧ i0.size = 1 ∧ i0.bytes = 8 ∧ Tryd.prog.info? 83 = some i0) := ⟨hz0, hz1, hz2, hi⟩
  clear hz0 hz1 hz2 hi
  cases hp : parF n (.bra .nil) d l with
  | none => rw [parF, hp] at hres; cases hres
  | some rp =>
    rw [parF, hp] at hres
    have IH := Lib.hid (ih n (Nat.le_refl _) d l rp hp r s z w h hr hT hs hd)
    have HT := Lib.hid hT
    clear h hT hp
    cases rp with
    | error er =>
      have E : Hid (res = .error er) := (Option.some.inj hres).symm
      clear hres
      go_enter Tryd.func54, Tryd.ntmps54
      go_wp2_with fail
      refine IH.out.mono ?_
      rintro e w2 ⟨g2, at_, rfl⟩
      rw [E.out]
      exact ⟨rfl, g2, ⟨_, rfl⟩⟩
    | ok x =>
      obtain ⟨p, u⟩ := x
      have RES : Hid (parF n (.alt p) d u = some res) := hres
      clear hres
      go_enter Tryd.func54, Tryd.ntmps54
      go_wp2_with fail
      refine IH.out.mono ?_
      rintro e w2 ⟨g2, nb, z2, rfl, hat, hden⟩
      have P1 := Lib.hid (Pa.first hat g2 (tabs_grown HT.out hr g2) (den_keeps p) hden)
      clear g2 hat hden IH HT
      go_wp2_with fail
      generalize (w2.heap.size + 1) = pb at *
      go_loopg [] n (fun gk wr => ∃ z pv ps acc l', ps.length + gk ≤ 1000000 ∧ gk ≤ n ∧ Hid (parF gk (.alt acc) d l' = some res) ∧ Hid (Pa 2 false w wr pb r s d z pv ps l') ∧ Hid (∀ l v, v.length = l.length + 1 → alikeF (ps.map (·.2)) l v = den acc l v))
      case atStart => exact ⟨z2, _, [(nb, den p)], p, u, by simp; omega, Nat.le_refl _, RES.out, P1.out, fun l v hv => alikeF_one l v (by rw [den_keeps p l v hv, hv])⟩
      case round =>
        obtain ⟨z, pv, ps, acc, l', hlen, hgn, HC, HP, HM⟩ := hrel
        clear P1 RES
        cases gk with
        | zero => exact absurd HC.out (by simp [parF])
        | succ m =>
          go_wp2_with fail
          refine (peek_at r s l' _ z wr HP.out.here HP.out.tabs).mono ?_
          rintro e w3 ⟨rfl, hb3⟩
          have HP3 := Lib.hid (HP.out.below hr lt hb3)
          clear hb3 HP
          by_cases hgo : (pk l' == 124) = true
          · obtain ⟨t, rfl⟩ : ∃ t, l' = 124 :: t := by
              cases l' with
              | nil => cases hgo
              | cons c t => exact ⟨t, by have : c = 124 := (by simpa [pk] using hgo); rw [this]⟩
            have HC2 : Hid (thenF (parF m (.bra .nil) d t) (fun p l => parF m (.alt (.alt acc p)) d l) = some res) := by
              have := HC.out
              rw [parF, if_pos hgo] at this
              exact this
            have hp124 : pk (124 :: t) = 124 := rfl
            rw [hp124]
            clear hgo HC hp124
            go_wp2_with fail
            refine (skip_any r s 124 t _ z w3 HP3.out.here hs).mono ?_
            rintro e w4 ⟨rfl, h4, g4⟩
            have HP4 := Lib.hid (HP3.out.call hr lt g4 h4)
            clear h4 g4 HP3
            go_wp2_with fail
            cases hp : parF m (.bra .nil) d t with
            | none => exact absurd HC2.out (by rw [hp]; simp [thenF])
            | some rp =>
              have IH := Lib.hid (fun (w' : World) (hb : Below w4.heap.size w4 w') => ih m (by omega) d t rp hp r s z w' (HP4.out.here.below hb) hr (tabs_below HP4.out.tabs hb) hs hd)
              have R2 := HC2.out
              rw [hp] at R2
              have c0 := HP4.out.cell
              have hrp : pb ≠ r := by have := HP4.out.lo; omega
              clear hp HC2
              cases rp with
              | error er =>
                have E : Hid (res = .error er) := (Option.some.inj R2).symm
                clear R2
                refine wp_region_held_drew (S := fun w' => w'.cell? ⟨pb, 4, none⟩ = some pv) (by kernel_rfl) c0 (fun hHeld => ?_)
                try dsimp only at hHeld
                refine wpAnyH_take (i := 0) (v := ?_) rfl (by kernel_rfl) (by kernel_rfl) (by kernel_rfl) (fun _ _ _ h => h) (Or.inl ⟨by rfl, ?_⟩) hHeld ?_
                rotate_left
                · intro wz hSw
                  try dsimp only at hSw
                  go_simp
                  try with_reducible rfl
                try simp only [Act.put, List.setIfInBounds_toArray]
                refine wpAnyH_take (i := 1) (v := ?_) rfl (by kernel_rfl) (by kernel_rfl) (by kernel_rfl) (fun _ _ _ h => h) (Or.inl ⟨by rfl, ?_⟩) hHeld ?_
                rotate_left
                · intro wz hSw
                  try dsimp only at hSw
                  go_simp
                  try with_reducible rfl
                try simp only [Act.put]
                refine wpAnyH_take (i := 2) (v := ?_) rfl (by kernel_rfl) (by kernel_rfl) (by kernel_rfl) (fun _ _ _ h => h) (Or.inl ⟨by rfl, ?_⟩) hHeld ?_
                rotate_left
                · intro wz hSw
                  try dsimp only at hSw
                  go_simp
                  try with_reducible rfl
                try simp only [Act.put]
                refine wpAnyH_take (i := 3) (v := ?_) rfl (by kernel_rfl) (by kernel_rfl) (by kernel_rfl) (fun _ _ _ h => h) (Or.inl ⟨by rfl, ?_⟩) hHeld ?_
                rotate_left
                · intro wz hSw
                  try dsimp only at hSw
                  go_simp
                  try with_reducible rfl
                try simp only [Act.put]
                refine wpAnyH_take (i := 4) (v := ?_) rfl (by kernel_rfl) (by kernel_rfl) (by kernel_rfl) (fun _ _ _ h => h) (Or.inl ⟨by rfl, ?_⟩) hHeld ?_
                rotate_left
                · intro wz hSw
                  try dsimp only at hSw
                  go_simp
                  try with_reducible rfl
                try simp only [Act.put]
                refine wpAnyH_take (i := 5) (v := ?_) rfl (by kernel_rfl) (by kernel_rfl) (by kernel_rfl) (fun _ _ _ h => h) (Or.inl ⟨by rfl, ?_⟩) hHeld ?_
                rotate_left
                · intro wz hSw
                  try dsimp only at hSw
                  go_simp
                  try with_reducible rfl
                try simp only [Act.put]
                refine wpAnyH_ready (rs := [6]) (by kernel_rfl) (by simp) ?_
                refine AllReadyH.cons rfl (fun K hK => ?_) AllReadyH.nil
                go_simp
                go_at_call 70
                refine Calls.mono (IH.out _ (Below.drew (Below.refl _ _))) ?_
                rintro e w6 ⟨g6, at_, rfl⟩
                rw [E.out]
                exact ⟨rfl, grown_trans HP4.out.grown (below_then (Below.drew (Below.refl _ _)) g6), ⟨_, rfl⟩⟩
              | ok x =>
                obtain ⟨p, u⟩ := x
                have R3 : Hid (parF m (.alt (.alt acc p)) d u = some res) := R2
                clear R2
                have OKC : Hid (∀ (w' : World), Below w4.heap.size w4 w' → Calls Tryd.prog 70 #[.pointer (some ⟨r, 0, none⟩)] w' fun e w6 => ∃ b z', e = .returned (.pointer (some ⟨b, 0, none⟩)) ∧ Pa 2 false w w6 pb r s d z' pv ps u ∧ More false w w6 pb pv b (den p)) := fun w' hb => by
                  refine (IH.out w' hb).mono ?_
                  rintro e w6 ⟨g6, b, z', rfl, hat, hden⟩
                  have h1 := HP4.out.below hr lt hb
                  exact ⟨b, z', rfl, h1.call hr lt g6 hat, h1.more hden⟩
                clear IH
                go_region_law (first
                  | (go_simp; go_at_call 70; refine Calls.mono (OKC.out _ ?_) ?_; (repeat (first | refine Below.drew ?_ | refine below_drewN ?_ _)); exact Below.refl _ _; rintro e w6 ⟨b6, z6, rfl, hp6, hm6⟩; have c6 := hp6.cell; have c6b : (w6.alloc (.cells #[.pointer (some ⟨b6, 0, none⟩)] 83)).cell? ⟨pb, 4, none⟩ = some pv := (World.cell?_alloc_lt _ _ _ hp6.ltp).trans c6; have HP6 := Lib.hid hp6; have HM6 := Lib.hid hm6; have NEWS := Lib.hid (news_one w6 b6); have ONEC := Lib.hid (one_cell b6); have SZ6 : Hid (w.heap.size ≤ (w6.alloc (.cells #[.pointer (some ⟨b6, 0, none⟩)] 83)).heap.size) := Nat.le_trans hp6.grown.size (by simp); clear hp6 hm6)
                  | (refine step_append_lies _ rfl (.tmp 18) (.tmp 21) 105 rfl w.heap.size 83 i0 (.pointer none) 1 8 Tryd.underlying105 I0.out.2.2.2 I0.out.1 I0.out.2.1 I0.out.2.2.1 rfl (by decide) _ ps.length _ (by simp [Act.eval]) (HP6.out.own.alloc _) _ 1 1 [.pointer (some ⟨b6, 0, none⟩)] (by simp [Act.eval]) rfl NEWS.out ONEC.out (by decide) (by unfold maxLen; omega) (by omega) SZ6.out _ rfl ?_; intro g8 cap8 w8 own8 grow8 at8 lt8; obtain ⟨kc8, kf8, HP8'⟩ := HP6.out.appended hr lt HM6.out (den_keeps p) rfl own8 grow8 (at8.imp Eq.symm (congrArg some)); have HP8 := Lib.hid HP8'; clear HP8' own8 grow8 at8 lt8))
                all_goals
                  go_wp2_with fail
                  go_roundg m
                  case measure => omega
                  case rel =>
                    refine ⟨z6, _, _, .alt acc p, u, by rw [List.length_append]; simp only [List.length_cons, List.length_nil]; omega, by omega, R3, HP8, fun l v hv => ?_⟩
                    have := HM.out l v hv
                    simp only [den, ← this]
                    simp [alikeF, List.map_append, List.foldl_append]
          · have E : Hid (res = .ok (acc, l')) := by
              have := HC.out
              rw [parF, if_neg hgo] at this
              exact (Option.some.inj this).symm
            have hgf : (pk l' == 124) = false := by simpa using hgo
            clear hgo HC
            go_wp2_with fail
            go_ret
            rw [E.out]
            exact ⟨HP3.out.grown, pb, z, rfl, HP3.out.here, (HP3.out.alike (by omega)).congr HM.out⟩
end Go.Proofs.YthlabaijaadocaaDoor
