import Derived.Test.YthlabaijaadocaaDoorXA4
/-! A branch, read. -/
namespace Go.Proofs.YthlabaijaadocaaDoor
open Go.RowKit Ut Rx

theorem infoPt : (Tryd.prog.info? 83).map (fun i => (i.zero, i.size, i.bytes)) = some (some (.pointer none), 1, 8) := by kernel_rfl
theorem Pa.start {kind : Int} {fr : Bool} {w wr : World} {r : Nat} {s : ByteArray} {d z : Int} {l : List Int} (h : At wr r s l d z) (g : w.grownBy wr (some r)) (hT : Lib.Utf8Tabs 0 1 wr) :
    Pa kind fr w (wr.alloc (.cells #[.int .i64 kind, .slice none 0 0, .bool false, .bool false, .slice none 0 0, .int .i32 0] 108)) wr.heap.size r s d z (.slice none 0 0) [] l := by
  have b : Below wr.heap.size wr (wr.alloc (.cells #[.int .i64 kind, .slice none 0 0, .bool false, .bool false, .slice none 0 0, .int .i32 0] 108)) := (Below.refl _ _).alloc (Nat.le_refl _) _
  exact ⟨h.below b, grown_then g b, tabs_below hT b, g.size, heap_alloc_new wr _, World.ownsRow_nil _ _ _ _, by simp [Value.ownBlock], ⟨fun _ => False, fun _ h => h.elim, fun p hp => by cases hp⟩, fun p hp => by cases hp⟩
theorem More.call {fr : Bool} {w wr w' : World} {pb r nb : Nat} {pv : Value} {f : Fi} (h : More fr w wr pb pv nb f) (lt : r < w.heap.size) (g : wr.grownBy w' (some r)) : More fr w w' pb pv nb f := by
  obtain ⟨G, hG, hD⟩ := h
  refine ⟨G, fun k hk => ?_, hD.move g.size (fun k hk => g.block k (hG k hk).2.1 (fun e => by have : k = r := Option.some.inj e; have := (hG k hk).1; omega)) (fun _ h => h)⟩
  obtain ⟨a, b, c⟩ := hG k hk
  exact ⟨a, Nat.lt_of_lt_of_le b g.size, c⟩
/-- what was just read is one more -/
theorem Pa.more {kind : Int} {fr fr' : Bool} {w wr w1 : World} {pb r nb : Nat} {s : ByteArray} {d z : Int} {pv : Value} {ps : List (Nat × Fi)} {l : List Int} {f : Fi} (h : Pa kind fr w wr pb r s d z pv ps l) (hd : Den fr' (fun k => wr.heap.size ≤ k ∧ k < w1.heap.size) w1 nb f) : More fr' w w1 pb pv nb f := by
  refine ⟨_, fun k hk => ⟨Nat.le_trans h.grown.size hk.1, hk.2, fun e => ?_, fun e => ?_⟩, hd⟩
  · have := h.ltp; omega
  · have := (h.own.lt k e.symm).2; omega
/-- with a sign behind it -/
theorem More.again {w wr : World} {pb nb : Nat} {pv : Value} {f : Fi} (h : More true w wr pb pv nb f) (hk : Keeps f) (hpb : pb < wr.heap.size) (hw : w.heap.size ≤ wr.heap.size) (hpv : ∀ k, pv.ownBlock = some k → k < wr.heap.size) (sg : Int) :
    More true w ((wr.alloc (.cells #[.pointer (some ⟨nb, 0, none⟩)] 83)).alloc (.cells #[.int .i64 3, .slice none 0 0, .bool false, .bool false, .slice (some ⟨wr.heap.size, 0, none⟩) 1 1, .int .i32 sg] 108)) pb pv (wr.heap.size + 1) (oftenF f sg) := by
  obtain ⟨G, hG, hD⟩ := h
  have sz : ((wr.alloc (.cells #[.pointer (some ⟨nb, 0, none⟩)] 83)).alloc (.cells #[.int .i64 3, .slice none 0 0, .bool false, .bool false, .slice (some ⟨wr.heap.size, 0, none⟩) 1 1, .int .i32 sg] 108)).heap.size = wr.heap.size + 1 + 1 := by simp
  have sz1 : (wr.alloc (.cells #[.pointer (some ⟨nb, 0, none⟩)] 83)).heap.size = wr.heap.size + 1 := by simp
  have old : ∀ k, k < wr.heap.size → ((wr.alloc (.cells #[.pointer (some ⟨nb, 0, none⟩)] 83)).alloc (.cells #[.int .i64 3, .slice none 0 0, .bool false, .bool false, .slice (some ⟨wr.heap.size, 0, none⟩) 1 1, .int .i32 sg] 108)).heap[k]? = wr.heap[k]? := fun k hk => by
    rw [heap_alloc_old _ _ (show k < _ by omega), heap_alloc_old _ _ hk]
  refine ⟨fun k => G k ∨ k = wr.heap.size ∨ k = wr.heap.size + 1, fun k hk => ?_, ?_⟩
  · rw [sz]
    rcases hk with hk | rfl | rfl
    · obtain ⟨a, b, c⟩ := hG k hk
      exact ⟨a, by omega, c⟩
    · exact ⟨hw, by omega, by omega, fun e => by have := hpv _ e.symm; omega⟩
    · exact ⟨by omega, by omega, by omega, fun e => by have := hpv _ e.symm; omega⟩
  · refine den_again _ (wr.heap.size + 1) _ nb f (.slice (some ⟨wr.heap.size, 0, none⟩) 1 1) sg (fun k hk => ?_) (Or.inr (Or.inr rfl)) (fun k hk => ?_) ⟨.slice none 0 0, false, false, ?_⟩ ⟨?_, fun p hp => ?_, fun p hp => ?_⟩
    · rw [sz]
      rcases hk with hk | rfl | rfl
      · have := (hG k hk).2.1; omega
      · omega
      · omega
    · have : wr.heap.size = k := Option.some.inj hk
      exact Or.inr (Or.inl this.symm)
    · rw [← sz1]; exact heap_alloc_new _ _
    · refine ⟨rfl, Or.inr ⟨wr.heap.size, 1, #[.pointer (some ⟨nb, 0, none⟩)], rfl, Nat.zero_le _, ?_, Nat.le_refl _, by unfold maxLen; omega, rfl, rfl⟩⟩
      rw [heap_alloc_old _ _ (show wr.heap.size < _ by rw [sz1]; omega)]
      exact heap_alloc_new wr _
    · have e : p = (nb, f) := by simpa using hp
      subst e
      exact hD.move (by rw [sz]; omega) (fun k hk => old k (hG k hk).2.1) (fun _ h => Or.inl h)
    · have e : p = (nb, f) := by simpa using hp
      subst e; exact hk

def contB (l : List Int) : Bool := decide (pk l ≥ 0) && pk l != 124 && pk l != 41
theorem contB_ways (l : List Int) : (contB l = true ∧ (0 : Int) ≤ pk l ∧ (pk l != 124) = true ∧ (pk l != 41) = true) ∨ (contB l = false ∧ pk l < 0) ∨ (contB l = false ∧ (0 : Int) ≤ pk l ∧ (pk l != 124) = false) ∨ (contB l = false ∧ (0 : Int) ≤ pk l ∧ (pk l != 124) = true ∧ (pk l != 41) = false) := by
  unfold contB
  by_cases h1 : (0 : Int) ≤ pk l
  · cases h2 : (pk l != 124) <;> cases h3 : (pk l != 41) <;> simp [h1]
  · simp [h1]; omega
theorem signB_ways (c : Int) : (signB c = true ∧ (c == 42) = true) ∨ (signB c = true ∧ (c == 42) = false ∧ (c == 43) = true) ∨ (signB c = true ∧ (c == 42) = false ∧ (c == 43) = false ∧ (c == 63) = true) ∨ (signB c = false ∧ (c == 42) = false ∧ (c == 43) = false ∧ (c == 63) = false) := by
  unfold signB
  cases h1 : (c == 42) <;> cases h2 : (c == 43) <;> cases h3 : (c == 63) <;> simp

/-- a piece, read: the part in slot 5 -/
def Piece (w wx : World) (pb r : Nat) (s : ByteArray) (d : Nat) (pv : Value) (ps : List (Nat × Fi)) (m : Nat) (acc : Pat) (res : Out) (v5 : Value) : Prop :=
  ∃ nb z p u, v5 = .pointer (some ⟨nb, 0, none⟩) ∧ parF m (.bra (.cat acc p)) d u = some res ∧ Pa 1 true w wx pb r s d z pv ps u ∧ More true w wx pb pv nb (den p)

set_option maxRecDepth 100000 in
set_option maxHeartbeats 4000000 in
theorem branch_of (n : Nat) (hn : n ≤ 900000) (ih : ∀ m, m < n → CAtom m) : CBra n := by
  intro d l res hres r s z w h hr hT hs hd
  have lt := h.lt
  obtain ⟨i0, hi, hz0, hz1, hz2⟩ := info_parts infoPt
  have I0 : Hid (i0.zero = some (.pointer none) ∧ i0.size = 1 ∧ i0.bytes = 8 ∧ Tryd.prog.info? 83 = some i0) := ⟨hz0, hz1, hz2, hi⟩
  have P0 : Hid (Pa 1 true w (w.alloc (.cells #[.int .i64 1, .slice none 0 0, .bool false, .bool false, .slice none 0 0, .int .i32 0] 108)) w.heap.size r s d z (.slice none 0 0) [] l) := Pa.start h (grown_refl _ _) hT
  have RES := Lib.hid hres
  clear h hT hz0 hz1 hz2 hi hres
  go_enter Tryd.func70, Tryd.ntmps70
  go_wp2_with fail
  refine (peek_at r s l d z _ P0.out.here P0.out.tabs).mono ?_
  rintro e w1 ⟨rfl, hb1⟩
  have P1 := Lib.hid (P0.out.below hr lt hb1)
  clear hb1 P0
  go_wp2_with fail
  go_loopg [4] n (fun gk vc wr => ∃ z pv ps acc l', vc = .int .i32 (pk l') ∧ ps.length + gk ≤ 1000000 ∧ gk ≤ n ∧ Hid (parF gk (.bra acc) d l' = some res) ∧ Hid (Pa 1 true w wr w.heap.size r s d z pv ps l') ∧ Hid (∀ l v, v.length = l.length + 1 → manyF (ps.map (·.2)) l v = den acc l v))
  case atStart => exact ⟨z, _, [], .nil, l, rfl, by simp; omega, Nat.le_refl _, RES.out, P1.out, fun l v _ => rfl⟩
  case round =>
    obtain ⟨z, pv, ps, acc, l', rfl, hlen, hgn, HC, HP, HM⟩ := hrel
    clear P1 RES
    cases gk with
    | zero => exact absurd HC.out (by simp [parF])
    | succ m =>
      go_upto_region 3 with fail
      go_cut [20] (fun vt wx => vt = .bool (contB l') ∧ wx = wr)
      case first =>
        rcases contB_ways l' with ⟨h0, h1, h2, h3⟩ | ⟨h0, h1⟩ | ⟨h0, h1, h2⟩ | ⟨h0, h1, h2, h3⟩
        · have H0 := Lib.hid h0
          clear h0
          go_wp2_with fail
          go_meet
          case rel => exact ⟨by rw [H0.out], rfl⟩
        · have h1d : decide ((0 : Int) ≤ pk l') = false := by simpa using h1
          have H0 := Lib.hid h0
          clear h0
          go_wp2_with fail
          go_meet
          case rel => exact ⟨by rw [H0.out], rfl⟩
        · have H0 := Lib.hid h0
          clear h0
          go_wp2_with fail
          go_meet
          case rel => exact ⟨by rw [H0.out], rfl⟩
        · have H0 := Lib.hid h0
          clear h0
          go_wp2_with fail
          go_meet
          case rel => exact ⟨by rw [H0.out], rfl⟩
      case rest =>
        obtain ⟨rfl, rfl⟩ := hcut
        by_cases hgo : contB l' = true
        · have HC2 : Hid (thenF (parF m .atom d l') (fun p l => if signB (pk l) then parF m (.bra (.cat acc (.again p (pk l)))) d l.tail else parF m (.bra (.cat acc p)) d l) = some res) := by
            have := HC.out
            rw [parF, if_pos (show (decide (pk l' ≥ 0) && pk l' != 124 && pk l' != 41) = true from hgo)] at this
            exact this
          have hpk : pk l' ≥ 0 := by
            unfold contB at hgo
            simp only [Bool.and_eq_true, decide_eq_true_eq] at hgo
            exact hgo.1.1
          cases hp : parF m .atom d l' with
          | none => exact absurd HC2.out (by rw [hp]; simp [thenF])
          | some rp =>
            have IH := Lib.hid (ih m (by omega) d l' rp hp hpk r s z _ HP.out.here hr HP.out.tabs hs hd)
            have R2 := HC2.out
            rw [hp] at R2
            rw [hgo]
            clear hgo hpk HC hp HC2
            go_wp2_with fail
            refine IH.out.mono ?_
            rintro e w2 ⟨g2, h2⟩
            cases rp with
            | error er =>
              obtain ⟨at_, rfl⟩ := h2
              have E : res = .error er := (Option.some.inj R2).symm
              rw [E]
              exact ⟨rfl, grown_trans HP.out.grown g2, ⟨_, rfl⟩⟩
            | ok x =>
              obtain ⟨p, u⟩ := x
              obtain ⟨nb, z2, rfl, hat, hden⟩ := h2
              have R3 : Hid ((if signB (pk u) then parF m (.bra (.cat acc (.again p (pk u)))) d u.tail else parF m (.bra (.cat acc p)) d u) = some res) := R2
              have HP2 := Lib.hid (HP.out.call hr lt g2 hat)
              have MO2 : Hid (More true w w2 w.heap.size pv nb (den p)) := HP.out.more hden
              clear IH R2 hat hden g2 HP
              go_wp2_with fail
              refine (peek_at r s u _ z2 w2 HP2.out.here HP2.out.tabs).mono ?_
              rintro e w3 ⟨rfl, hb3⟩
              have HP3 := Lib.hid (HP2.out.below hr lt hb3)
              have MO3 := Lib.hid (MO2.out.call lt (grown_below hb3))
              clear hb3 HP2 MO2
              go_upto_region 7 with fail
              go_cut [36] (fun vt wx => vt = .bool (signB (pk u)) ∧ wx = w3)
              case first =>
                rcases signB_ways (pk u) with ⟨h0, h1⟩ | ⟨h0, h1, h2⟩ | ⟨h0, h1, h2, h3⟩ | ⟨h0, h1, h2, h3⟩
                all_goals
                  have H0 := Lib.hid h0
                  clear h0
                  go_wp2_with fail
                  go_meet
                  case rel => exact ⟨by rw [H0.out], rfl⟩
              case rest =>
                obtain ⟨rfl, rfl⟩ := hcut
                go_upto_if 36 with fail
                go_cut [5] (fun v5 wx => Piece w wx w.heap.size r s d pv ps m acc res v5)
                case first =>
                  cases hsg : signB (pk u) with
                  | true =>
                    obtain ⟨c, u', rfl⟩ : ∃ c u', u = c :: u' := by
                      cases u with
                      | nil => cases hsg
                      | cons c u' => exact ⟨c, u', rfl⟩
                    have hpc : pk (c :: u') = c := rfl
                    have R4 : Hid (parF m (.bra (.cat acc (.again p c))) d u' = some res) := by
                      have := R3.out
                      rw [if_pos hsg] at this
                      exact this
                    rw [hpc]
                    clear hsg hpc R3
                    go_wp2_with fail
                    refine (skip_any r s c u' _ z2 _ HP3.out.here hs).mono ?_
                    rintro e w4 ⟨rfl, h4, g4⟩
                    have HP4 := Lib.hid (HP3.out.call hr lt g4 h4)
                    have MO4 := Lib.hid (MO3.out.call lt g4)
                    clear h4 g4 HP3 MO3
                    go_wp2_with fail
                    go_meet
                    case rel =>
                      refine ⟨w4.heap.size + 1, z2, .again p c, u', rfl, R4.out, HP4.out.below hr lt ?_, MO4.out.again (den_keeps p) HP4.out.ltp HP4.out.grown.size (fun k hk => (HP4.out.own.lt k hk).2) c⟩
                      exact ((Below.refl _ _).alloc (Nat.le_refl _) _).alloc (by simp) _
                  | false =>
                    have R4 : Hid (parF m (.bra (.cat acc p)) d u = some res) := by
                      have := R3.out
                      rw [if_neg (by rw [hsg]; simp)] at this
                      exact this
                    clear hsg R3
                    go_wp2_with fail
                    go_meet
                    case rel => exact ⟨nb, z2, p, u, rfl, R4.out, HP3.out, MO3.out⟩
                case rest =>
                  clear HP3 MO3 R3
                  obtain ⟨nb, z3, p, u, rfl, hr4, hpa, hmo⟩ := hcut
                  have R4 := Lib.hid hr4
                  have HP4 := Lib.hid hpa
                  have MO4 := Lib.hid hmo
                  have kc0 := hpa.cell
                  have OW := Lib.hid (fun (o : Obj) => hpa.own.alloc o)
                  have SZ := Lib.hid hpa.grown.size
                  clear hr4 hpa hmo
                  go_wp2_with (at_builtin; refine wpList_append_own_at _ rfl (.tmp 49) (.tmp 51) 105 rfl w.heap.size 83 i0 (.pointer none) 1 8 Tryd.underlying105 I0.out.2.2.2 I0.out.1 I0.out.2.1 I0.out.2.2.1 rfl (by decide) _ ps.length _ rfl (OW.out _) _ 1 1 [.pointer (some ⟨nb, 0, none⟩)] rfl rfl ?c1 ?c2 (by unfold maxLen; omega) (by omega) ?c3 ?_)
                  case c1 =>
                    intro j u hu
                    cases j with
                    | zero =>
                      have : u = .pointer (some ⟨nb, 0, none⟩) := by simpa using hu.symm
                      subst this
                      exact World.cell?_alloc_at _ _ _ _ rfl
                    | succ j => simp at hu
                  case c2 => intro u hu; have : u = .pointer (some ⟨nb, 0, none⟩) := (by simpa using hu); subst this; rfl
                  case c3 => have := SZ.out; simp; omega
                  intro v' w5 own5 grow5 _ at5
                  obtain ⟨A5, n5, c5, rfl⟩ := ownsRow_is own5
                  obtain ⟨kc5, kf5, HP5'⟩ := HP4.out.appended hr lt MO4.out (den_keeps p) rfl own5 grow5 (by simpa using at5)
                  have HP5 := Lib.hid HP5'
                  clear HP5' own5 grow5 at5 kc0
                  go_wp2_with fail
                  refine (peek_at r s u _ z3 _ HP5.out.here HP5.out.tabs).mono ?_
                  rintro e w6 ⟨rfl, hb6⟩
                  have HP6 := Lib.hid (HP5.out.below hr lt hb6)
                  clear hb6 HP5
                  go_wp2_with fail
                  go_roundg m
                  case measure => omega
                  case rel =>
                    refine ⟨z3, _, _, .cat acc p, u, rfl, by rw [List.length_append]; simp only [List.length_cons, List.length_nil]; omega, by omega, R4, HP6, fun l v hv => ?_⟩
                    have := HM.out l v hv
                    simp only [den, ← this]
                    simp [manyF, List.map_append, List.foldl_append]
        · have E : Hid (res = .ok (acc, l')) := by
            have := HC.out
            rw [parF, if_neg (by unfold contB at hgo; exact hgo)] at this
            exact (Option.some.inj this).symm
          have hgf : contB l' = false := by simpa using hgo
          rw [hgf]
          clear hgo hgf HC
          go_wp2_with fail
          go_ret
          rw [E.out]
          exact ⟨HP.out.grown, w.heap.size, z, rfl, HP.out.here, (HP.out.many (by omega)).congr HM.out⟩
end Go.Proofs.YthlabaijaadocaaDoor
