import Derived.Test.YthlabaijaadocaaDoorXC3
import Derived.Test.YthlabaijaadocaaDoorXNk
/-! The reference's texts: matchers that a text begins with. -/
namespace Go.Proofs.YthlabaijaadocaaDoor
open Go.RowKit Ut Rx Mt

def headF (s : List UInt8) : Option (List M × List UInt8) :=
  if headDig (s.takeWhile letU) then none else
  match eatF [123] (bareF (s.dropWhile letU)) with
  | none => if s.takeWhile letU = [] then none else some (baseP (s.takeWhile letU), s.dropWhile letU)
  | some u => match allP ((bareF u).length + 1) (bareF u) with
    | none => none
    | some (ms, r) => some (baseP (s.takeWhile letU) ++ ms, r)
def HdPost (w : World) (s : ByteArray) (e : Ending) (w' : World) : Prop :=
  Below w.heap.size w w' ∧ match headF (by_ s) with
    | some (ms, r) => ∃ v, e = .returned (.tuple #[v, .string ⟨r.toArray⟩, .bool true]) ∧ MsR w' w.heap.size v ms ∧ ms.length ≤ s.size + 1
    | none => ∃ v x, e = .returned (.tuple #[v, x, .bool false])
theorem mz_row (w : World) : MsR (w.alloc (.cells #[] 26)) w.heap.size (.slice (some ⟨w.heap.size, 0, none⟩) 0 0) [] := World.ownsRow_lit w #[] 0 (Nat.le_refl _) (by unfold maxLen; omega) rfl
theorem MsR.push {w wr w4 w5 : World} {v v' : Value} {ms : List M} {m : M} (h : MsR wr w.heap.size v ms) (hb : Below w.heap.size w wr) (b : Below wr.heap.size wr w4) (gr : w4.grownBy w5 v.ownBlock)
    (own : w5.ownsRow w.heap.size 26 3 v' (ms.length + 1) (msC ms ++ [.int .i64 m.k, .string m.n, .string m.v])) : MsR w5 w.heap.size v' (ms ++ [m]) ∧ Below w.heap.size w w5 := by
  refine ⟨?_, below_pushed (hb.trans (b.mono hb.size)) (MsR.below h b) gr (Nat.le_refl _)⟩
  unfold MsR
  rw [msC_append, List.length_append]
  exact own
theorem eatF_one (c : UInt8) (x : ByteArray) (hp : 0 < x.size) : eatF [c] (by_ x) = if (x[0]'hp) = c then some ((by_ x).drop 1) else none := by
  rw [show by_ x = (x[0]'hp) :: (by_ x).drop 1 from drop_two hp]
  unfold eatF
  by_cases h : (x[0]'hp) = c
  · rw [if_pos h, if_pos (by simp [List.isPrefixOf, h])]; rfl
  · rw [if_neg h, if_neg (by simp [List.isPrefixOf]; exact fun e => h e.symm)]
theorem eatF_nil (c : UInt8) : eatF [c] [] = none := rfl
theorem oneP_nil : oneP [] = none := oneP_none (Or.inl rfl)
theorem allP_stop {n : Nat} {l u : List UInt8} (h : eatF [125] l = some u) : allP (n + 1) l = some ([], u) := by rw [allP, h]
theorem allP_none {n : Nat} {l : List UInt8} (h : eatF [125] l = none) (ho : oneP l = none) : allP (n + 1) l = none := by rw [allP, h]; simp only; rw [ho]
theorem allP_go {n : Nat} {l r : List UInt8} {m : M} (h : eatF [125] l = none) (ho : oneP l = some (m, r)) : allP (n + 1) l = match eatF [44] r with
    | some r2 => consO m (allP n (bareF r2))
    | none => if r.head? = some 125 then consO m (allP n r) else none := by rw [allP, h]; simp only; rw [ho]; rfl

set_option maxRecDepth 100000 in
set_option maxHeartbeats 8000000 in
theorem rHead_any (s : ByteArray) (w : World) (hs : s.size ≤ 100000) : Calls Tryd.prog 42 #[.string s] w (HdPost w s) := by
  obtain ⟨i0, hi, hz0, hz1, hz2⟩ := info_parts infoM
  have I0 : Hid (i0.zero = some (.agg #[.int .i64 0, .string ⟨#[]⟩, .string ⟨#[]⟩]) ∧ i0.size = 3 ∧ i0.bytes = 40 ∧ Tryd.prog.info? 26 = some i0) := ⟨hz0, hz1, hz2, hi⟩
  clear hz0 hz1 hz2 hi
  have R0 := Lib.hid (mz_row w)
  have B0 : Hid (Below w.heap.size w (w.alloc (.cells #[] 26))) := (Below.refl _ _).alloc (Nat.le_refl _) _
  have WD := Lib.hid (rWord_any s (w.alloc (.cells #[] 26)) (by omega))
  go_enter Tryd.func42, Tryd.ntmps42
  go_wp2_with fail
  refine WD.out.mono ?_
  rintro e w1 ⟨rfl, hb1⟩
  have B1 := Lib.hid (B0.out.trans (hb1.mono B0.out.size))
  have R1 := Lib.hid (MsR.below R0.out hb1)
  obtain ⟨nm, hnm⟩ : ∃ x : ByteArray, x = ⟨((by_ s).takeWhile letU).toArray⟩ := ⟨_, rfl⟩
  obtain ⟨s1, hs1⟩ : ∃ x : ByteArray, x = ⟨((by_ s).dropWhile letU).toArray⟩ := ⟨_, rfl⟩
  have NM : Hid (by_ nm = (by_ s).takeWhile letU) := by show _ = _; rw [hnm]
  have S1 : Hid (by_ s1 = (by_ s).dropWhile letU) := by show _ = _; rw [hs1]
  have Z1 : s1.size ≤ s.size := size_of S1.out (Nat.le_trans (dropWhile_le _ _) (by_len (Nat.le_refl _)))
  rw [← hnm, ← hs1]
  have HP : Hid (headF (by_ s) = if headDig (by_ nm) then none else
      match eatF [123] (bareF (by_ s1)) with
      | none => if by_ nm = [] then none else some (baseP (by_ nm), by_ s1)
      | some u => match allP ((bareF u).length + 1) (bareF u) with
        | none => none
        | some (ms, r) => some (baseP (by_ nm) ++ ms, r)) := by show _ = _; rw [NM.out, S1.out]; rfl
  have ERR : Hid (∀ (w' : World) (v x : Value), headF (by_ s) = none → Below w.heap.size w w' → HdPost w s (.returned (.tuple #[v, x, .bool false])) w') := fun w' v x h b => ⟨b, by rw [h]; exact ⟨v, x, rfl⟩⟩
  clear hnm hs1 hb1 WD R0 B0 NM S1
  go_upto_if 19 with fail
  go_cut [5] (fun v5 wx => Hid (headDig (by_ nm) = false) ∧ Hid (Below w.heap.size w wx) ∧ Hid (MsR wx w.heap.size v5 (baseP (by_ nm))))
  case first =>
    by_cases hz : nm.size = 0
    · have hem : nm.toList.isEmpty = true := by rw [tl_eq, show nm.data.toList = [] from by_empty hz]; rfl
      have hem2 : (!nm.toList.isEmpty) = false := by rw [hem]; rfl
      have H1 : Hid (headDig (by_ nm) = false) := by show _ = _; rw [by_empty hz]; rfl
      have H2 : Hid (MsR w1 w.heap.size (.slice (some ⟨w.heap.size, 0, none⟩) 0 0) (baseP (by_ nm))) := by show MsR _ _ _ _; rw [by_empty hz]; exact R1.out
      clear HP R1
      simp only [hem2]
      go_wp2_with fail
      go_meet
      case rel => exact ⟨H1, B1, H2⟩
    · have hp : 0 < nm.size := by omega
      have hem := string_ne hp
      have hem2 : (!nm.toList.isEmpty) = true := by rw [hem]; rfl
      have HD := Lib.hid (show by_ nm = (nm[0]'hp) :: (by_ nm).drop 1 from drop_two hp)
      by_cases hd : digU (nm[0]'hp) = true
      · have E : Hid (headF (by_ s) = none) := by
          have := HP.out
          rw [if_pos (by rw [HD.out]; exact hd)] at this
          exact this
        have hd2 : 48 ≤ ((nm[0]'hp).toNat : Int) ∧ ((nm[0]'hp).toNat : Int) ≤ 57 := by unfold digU at hd; simpa using hd
        obtain ⟨hd3, hd4⟩ := hd2
        clear HP hd
        simp only [hem2]
        go_wp2_with fail
        exact bodyPost_ret (v := .tuple #[.slice none 0 0, .string ⟨#[]⟩, .bool false]) (by simp [results, Tryd.results42, go_sem]) rfl (ERR.out _ _ _ E.out B1.out)
      · have H1 : Hid (headDig (by_ nm) = false) := by
          show _ = _
          rw [HD.out]
          simpa [headDig] using hd
        have hd2 : ¬ (48 ≤ ((nm[0]'hp).toNat : Int) ∧ ((nm[0]'hp).toNat : Int) ≤ 57) := by unfold digU at hd; simpa using hd
        have hbn : baseP (by_ nm) = [⟨1, ⟨nameL.toArray⟩, nm⟩] := by
          unfold baseP
          rw [if_neg (by rw [HD.out]; simp)]
        clear HP hd
        have OW := Lib.hid (fun (o : Obj) => World.ownsRow.alloc R1.out o)
        clear HD hem
        rcases (show ((nm[0]'hp).toNat : Int) < 48 ∨ (48 ≤ ((nm[0]'hp).toNat : Int) ∧ 57 < ((nm[0]'hp).toNat : Int)) by omega) with hlo | ⟨hlo, hhi⟩
        all_goals
          simp only [hem2]
          go_wp2_with (at_builtin; refine wpList_append_own_at _ rfl (.tmp 28) (.tmp 31) 22 rfl w.heap.size 26 i0 (.agg #[.int .i64 0, .string ⟨#[]⟩, .string ⟨#[]⟩]) 3 40 Tryd.underlying22 I0.out.2.2.2 I0.out.1 I0.out.2.1 I0.out.2.2.1 rfl (by decide) _ 0 _ rfl (OW.out _) _ 1 1 [.int .i64 1, .string ⟨#[95, 95, 110, 97, 109, 101, 95, 95]⟩, .string nm] rfl rfl ?c1 (one3 _ _ _) (by unfold maxLen; omega) (by omega) ?c3 ?_)
          case c3 => have := B1.out.size; simp; omega
          · intro v' w5 own5 grow5 _ _
            have P5 := MsR.push (m := ⟨1, ⟨nameL.toArray⟩, nm⟩) R1.out B1.out ((Below.refl _ _).alloc (Nat.le_refl _) _) grow5 own5
            have P6 : Hid (MsR w5 w.heap.size v' (baseP (by_ nm))) := by show MsR _ _ _ _; rw [hbn]; exact P5.1
            have P7 := Lib.hid P5.2
            clear own5 grow5 OW P5
            go_wp2_with fail
            go_meet
            case rel => exact ⟨H1, P7, P6⟩
  case rest =>
    obtain ⟨H1, HB, HM⟩ := hcut
    have HQ : Hid (headF (by_ s) = match eatF [123] (bareF (by_ s1)) with
      | none => if by_ nm = [] then none else some (baseP (by_ nm), by_ s1)
      | some u => match allP ((bareF u).length + 1) (bareF u) with
        | none => none
        | some (ms, r) => some (baseP (by_ nm) ++ ms, r)) := by
      show _ = _
      rw [HP.out, if_neg (by rw [H1.out]; decide)]
    clear HP R1 B1 H1
    have BA := Lib.hid (rBare_any s1 wc)
    obtain ⟨s2, hs2⟩ : ∃ x : ByteArray, x = ⟨(bareF (by_ s1)).toArray⟩ := ⟨_, rfl⟩
    have S2 : Hid (by_ s2 = bareF (by_ s1)) := by show _ = _; rw [hs2]
    have Z2 : s2.size ≤ s.size := size_of S2.out (Nat.le_trans (dropWhile_le _ _) (by_len Z1))
    rw [← hs2] at BA
    rw [← S2.out] at HQ
    clear hs2 S2
    go_wp2_with fail
    refine BA.out.mono ?_
    rintro e wc' ⟨rfl, rfl⟩
    clear BA
    have BLEN : (baseP (by_ nm)).length ≤ 1 := by unfold baseP; split <;> simp
    -- what is told where no brace stands
    have NB : Hid (eatF [123] (by_ s2) = none → ∀ w', Below wc.heap.size wc w' → HdPost w s (.returned (.tuple #[u5, .string s1, .bool (!nm.toList.isEmpty)])) w') := fun he w' b => by
      have e := HQ.out
      rw [he] at e
      refine ⟨HB.out.trans (b.mono HB.out.size), ?_⟩
      rw [e]
      by_cases hz : nm.size = 0
      · have hem : nm.toList.isEmpty = true := by rw [tl_eq, show nm.data.toList = [] from by_empty hz]; rfl
        rw [if_pos (by_empty hz), hem]
        exact ⟨_, _, rfl⟩
      · have hem := string_ne (Nat.pos_of_ne_zero hz)
        rw [if_neg (fun h => hz (by rw [← tl_len nm]; show (by_ nm).length = 0; rw [h]; rfl)), hem]
        exact ⟨u5, rfl, MsR.below HM.out b, by omega⟩
    by_cases hz : s2.size = 0
    · have hem : s2.toList.isEmpty = true := by rw [tl_eq, show s2.data.toList = [] from by_empty hz]; rfl
      have N1 := Lib.hid (NB.out (by rw [by_empty hz]; rfl) wc (Below.refl _ _))
      clear NB HQ hz
      go_wp2_with fail
      exact bodyPost_ret (v := .tuple #[u5, .string s1, .bool (!nm.toList.isEmpty)]) (by simp [results, Tryd.results42, go_sem]) rfl N1.out
    · have hp : 0 < s2.size := by omega
      have hem := string_ne hp
      have u := ub_eq (s2[0]'hp) 123 (by omega)
      have ux : (((s2[0]'hp).toNat : Int) != 123) = !decide ((s2[0]'hp) = UInt8.ofNat 123) := by rw [← ub_eq (s2[0]'hp) 123 (by omega)]; rfl
      have EF := Lib.hid (eatF_one 123 s2 hp)
      by_cases hc : (s2[0]'hp) = 123
      · rw [decide_eq_true (show (s2[0]'hp) = UInt8.ofNat 123 from hc)] at u ux
        have HR : Hid (headF (by_ s) = match allP ((bareF ((by_ s2).drop 1)).length + 1) (bareF ((by_ s2).drop 1)) with
          | none => none
          | some (ms, r) => some (baseP (by_ nm) ++ ms, r)) := by
          have := HQ.out
          rw [EF.out, if_pos hc] at this
          exact this
        have hzi : (1 : Int) ≤ s2.size := by omega
        have BA := Lib.hid (rBare_any (s2.extract 1 s2.size) wc)
        rw [by_drop] at BA
        obtain ⟨l0, hl0⟩ : ∃ x, x = bareF ((by_ s2).drop 1) := ⟨_, rfl⟩
        have LZ : l0.length ≤ s.size := by
          have h1 : (bareF ((by_ s2).drop 1)).length ≤ _ := dropWhile_le _ _
          have h2 : ((by_ s2).drop 1).length ≤ (by_ s2).length := by rw [List.length_drop]; omega
          have h3 : (by_ s2).length = s2.size := tl_len s2
          rw [hl0]; omega
        rw [← hl0] at BA HR
        clear hl0 hc NB HQ EF u hz
        go_wp2_with fail
        refine BA.out.mono ?_
        rintro e wc' ⟨rfl, rfl⟩
        clear BA
        obtain ⟨N, hN⟩ : ∃ N, l0.length = N := ⟨_, rfl⟩
        have PN : Hid (preO [] (allP (N + 1) l0) = allP (N + 1) l0) := preO_nil _
        rw [hN] at HR
        go_wp2_with fail
        go_loopg [0, 5] (N + 1) (fun gk v0 v5 wr => ∃ (x : ByteArray) (ms : List M), v0 = .string x ∧ x.size < gk ∧ ms.length + gk ≤ N + 1 ∧ Hid (preO ms (allP gk (by_ x)) = allP (N + 1) l0) ∧ Hid (Below w.heap.size w wr) ∧ Hid (MsR wr w.heap.size v5 (baseP (by_ nm) ++ ms)))
        case atStart => exact ⟨⟨l0.toArray⟩, [], rfl, by show l0.toArray.size < _; simp; omega, by simp, PN, HB, by rw [List.append_nil]; exact HM⟩
        case round =>
          obtain ⟨x, ms, rfl, hxg, hmg, HI, HB2, HM2⟩ := hrel
          obtain ⟨n, rfl⟩ : ∃ n, gk = n + 1 := ⟨gk - 1, by omega⟩
          clear PN HB HM hem hzi
          by_cases hx0 : x.size = 0
          · have hem : x.toList.isEmpty = true := by rw [tl_eq, show x.data.toList = [] from by_empty hx0]; rfl
            have E : Hid (headF (by_ s) = none) := by
              have h1 : allP (n + 1) (by_ x) = none := by rw [by_empty hx0]; exact allP_none rfl oneP_nil
              have := HI.out
              rw [h1] at this
              show _ = _
              rw [HR.out, ← this]; rfl
            clear hx0 HI HR
            go_wp2_with fail
            exact bodyPost_ret (v := .tuple #[.slice none 0 0, .string ⟨#[]⟩, .bool false]) (by simp [results, Tryd.results42, go_sem]) rfl (ERR.out _ _ _ E.out HB2.out)
          · have hpx : 0 < x.size := by omega
            have hem := string_ne hpx
            have hxi : (1 : Int) ≤ x.size := by omega
            have EF := Lib.hid (eatF_one 125 x hpx)
            have ux : (((x[0]'hpx).toNat : Int) != 125) = !decide ((x[0]'hpx) = UInt8.ofNat 125) := by rw [← ub_eq (x[0]'hpx) 125 (by omega)]; rfl
            by_cases h125 : (x[0]'hpx) = 125
            · rw [decide_eq_true (show (x[0]'hpx) = UInt8.ofNat 125 from h125)] at ux
              have E : Hid (headF (by_ s) = some (baseP (by_ nm) ++ ms, (by_ x).drop 1)) := by
                have h1 : allP (n + 1) (by_ x) = some ([], (by_ x).drop 1) := allP_stop (by rw [EF.out, if_pos h125])
                have := HI.out
                rw [h1] at this
                show _ = _
                rw [HR.out, ← this]; simp [preO]
              have V : Hid (∀ w', Below wr.heap.size wr w' → HdPost w s (.returned (.tuple #[u5, .string (x.extract 1 x.size), .bool true])) w') := fun w' b => by
                refine ⟨HB2.out.trans (b.mono HB2.out.size), ?_⟩
                rw [E.out, ← by_drop]
                refine ⟨u5, rfl, MsR.below HM2.out b, ?_⟩
                rw [List.length_append]; omega
              clear hx0 HI HR EF h125
              go_wp2_with fail
              go_quiet (fail)
              go_wp2_with fail
              exact bodyPost_ret (v := .tuple #[u5, .string (x.extract 1 x.size), .bool true]) (by simp [results, Tryd.results42, go_sem]) rfl (V.out _ (by repeat (first | exact Below.refl _ _ | refine below_drewN ?_ _)))
            · rw [decide_eq_false (show ¬ (x[0]'hpx) = UInt8.ofNat 125 from h125)] at ux
              have EN : Hid (eatF [125] (by_ x) = none) := by show _ = _; rw [EF.out, if_neg h125]
              have O := Lib.hid (rOneT_any x wr (by omega))
              clear EF h125 hx0
              go_wp2_with fail
              refine O.out.mono ?_
              rintro e w3 ⟨hb3, h3⟩
              have B3 := Lib.hid (HB2.out.trans (hb3.mono HB2.out.size))
              have R3 := Lib.hid (MsR.below HM2.out hb3)
              clear O hb3
              cases ho : oneP (by_ x) with
              | none =>
                have E : Hid (headF (by_ s) = none) := by
                  have := HI.out
                  rw [allP_none EN.out ho] at this
                  show _ = _
                  rw [HR.out, ← this]; rfl
                rw [ho] at h3
                obtain rfl := h3
                clear ho HI HR EN
                go_wp2_with fail
                exact bodyPost_ret (v := .tuple #[.slice none 0 0, .string ⟨#[]⟩, .bool false]) (by simp [results, Tryd.results42, go_sem]) rfl (ERR.out _ _ _ E.out (B3.out.alloc B3.out.size _))
              | some p =>
                obtain ⟨m, r⟩ := p
                rw [ho] at h3
                obtain rfl := h3
                have hlen := oneP_len ho
                have hxl : (by_ x).length = x.size := tl_len x
                have HI2 : Hid (preO ms (match eatF [44] r with
                    | some r2 => consO m (allP n (bareF r2))
                    | none => if r.head? = some 125 then consO m (allP n r) else none) = allP (N + 1) l0) := by
                  have := HI.out
                  rw [allP_go EN.out ho] at this
                  exact this
                obtain ⟨y, hy⟩ : ∃ y : ByteArray, y = ⟨r.toArray⟩ := ⟨_, rfl⟩
                have BY : by_ y = r := by rw [hy]
                have hyl : (by_ y).length = y.size := tl_len y
                rw [← hy]
                rw [← BY] at HI2 hlen
                clear ho HI EN hy BY ux hem
                obtain ⟨mk, mn, mv⟩ := m
                by_cases hy0 : y.size = 0
                · have hem : y.toList.isEmpty = true := by rw [tl_eq, show y.data.toList = [] from by_empty hy0]; rfl
                  have E : Hid (headF (by_ s) = none) := by
                    have := HI2.out
                    rw [by_empty hy0] at this
                    show _ = _
                    rw [HR.out, ← this]; rfl
                  clear hy0 HI2 HR hlen hxl hyl
                  go_wp2_with fail
                  exact bodyPost_ret (v := .tuple #[.slice none 0 0, .string ⟨#[]⟩, .bool false]) (by simp [results, Tryd.results42, go_sem]) rfl (ERR.out _ _ _ E.out (B3.out.alloc B3.out.size _))
                · have hpy : 0 < y.size := by omega
                  have hem := string_ne hpy
                  have hyi : (1 : Int) ≤ y.size := by omega
                  have EF := Lib.hid (eatF_one 44 y hpy)
                  have HDy : Hid ((by_ y).head? = some (y[0]'hpy)) := by
                    show _ = _
                    rw [show by_ y = (y[0]'hpy) :: (by_ y).drop 1 from drop_two hpy]; rfl
                  have u44 := ub_eq (y[0]'hpy) 44 (by omega)
                  have x44 : (((y[0]'hpy).toNat : Int) != 44) = !decide ((y[0]'hpy) = UInt8.ofNat 44) := by rw [← ub_eq (y[0]'hpy) 44 (by omega)]; rfl
                  have x125 : (((y[0]'hpy).toNat : Int) != 125) = !decide ((y[0]'hpy) = UInt8.ofNat 125) := by rw [← ub_eq (y[0]'hpy) 125 (by omega)]; rfl
                  obtain ⟨L, hL⟩ : ∃ L, (baseP (by_ nm) ++ ms).length = L := ⟨_, rfl⟩
                  have hL1 : L ≤ 100003 := by rw [← hL, List.length_append]; omega
                  have hA : Hid (L + 1 ≤ maxLen) := by show _ ≤ _; unfold maxLen; omega
                  have hB : Hid ((L + 1) * 40 ≤ 140737488355328) := by show _ ≤ _; omega
                  have hC : Hid (∀ (o o' : Obj), w.heap.size ≤ ((w3.alloc o).alloc o').heap.size) := fun o o' => by have := B3.out.size; simp; omega
                  have OW : Hid (∀ (o o' : Obj), ((w3.alloc o).alloc o').ownsRow w.heap.size 26 3 u5 L (msC (baseP (by_ nm) ++ ms))) := fun o o' => by
                    have h : w3.ownsRow w.heap.size 26 3 u5 (baseP (by_ nm) ++ ms).length (msC (baseP (by_ nm) ++ ms)) := R3.out
                    rw [hL] at h
                    exact (h.alloc o).alloc o'
                  have HL := Lib.hid hL
                  clear hL hL1
                  clear hy0
                  by_cases h44 : (y[0]'hpy) = 44
                  · rw [decide_eq_true (show (y[0]'hpy) = UInt8.ofNat 44 from h44)] at u44 x44
                    have HI3 : Hid (preO (ms ++ [⟨mk, mn, mv⟩]) (allP n (bareF ((by_ y).drop 1))) = allP (N + 1) l0) := by
                      have := HI2.out
                      rw [EF.out, if_pos h44] at this
                      rw [preO_one] at this
                      exact this
                    clear h44 HI2 EF HDy x125
                    go_wp2_with (at_builtin; refine wpList_append_own_at _ rfl (.tmp 78) (.tmp 80) 22 rfl w.heap.size 26 i0 (.agg #[.int .i64 0, .string ⟨#[]⟩, .string ⟨#[]⟩]) 3 40 Tryd.underlying22 I0.out.2.2.2 I0.out.1 I0.out.2.1 I0.out.2.2.1 rfl (by decide) _ L _ rfl (OW.out _ _) _ 1 1 [.int .i64 mk, .string mn, .string mv] rfl rfl ?d1 (one3 _ _ _) hA.out hB.out (hC.out _ _) ?_)
                    case d1 => exact news3 _ _ _ _ _ (by simp)
                    intro v' w5 own5 grow5 _ _
                    rw [← HL.out] at own5
                    obtain ⟨p5, b5⟩ := MsR.push (m := ⟨mk, mn, mv⟩) R3.out B3.out (((Below.refl _ _).alloc (Nat.le_refl _) _).alloc (by simp) _) grow5 own5
                    have P5 := Lib.hid p5
                    have B5 := Lib.hid b5
                    have BA := Lib.hid (rBare_any (y.extract 1 y.size) w5)
                    rw [by_drop] at BA
                    clear p5 b5 own5 grow5 OW
                    go_wp2_with fail
                    refine BA.out.mono ?_
                    rintro e w6 ⟨rfl, rfl⟩
                    clear BA
                    have hq : (bareF ((by_ y).drop 1)).length ≤ ((by_ y).drop 1).length := dropWhile_le _ _
                    rw [List.length_drop] at hq
                    go_wp2_with fail
                    go_roundg n
                    case measure => omega
                    case rel => exact ⟨⟨(bareF ((by_ y).drop 1)).toArray⟩, ms ++ [⟨mk, mn, mv⟩], by rw [List.drop_one], by show (bareF ((by_ y).drop 1)).toArray.size < _; simp only [List.size_toArray]; omega, by simp only [List.length_append, List.length_cons, List.length_nil]; omega, HI3, B5, by rw [← List.append_assoc]; exact P5⟩
                  · rw [decide_eq_false (show ¬ (y[0]'hpy) = UInt8.ofNat 44 from h44)] at u44 x44
                    have HI3 : Hid (preO ms (if (by_ y).head? = some 125 then consO ⟨mk, mn, mv⟩ (allP n (by_ y)) else none) = allP (N + 1) l0) := by
                      have := HI2.out
                      rw [EF.out, if_neg h44] at this
                      exact this
                    clear HI2 EF h44
                    by_cases h125 : (y[0]'hpy) = 125
                    · rw [decide_eq_true (show (y[0]'hpy) = UInt8.ofNat 125 from h125)] at x125
                      have HI4 : Hid (preO (ms ++ [⟨mk, mn, mv⟩]) (allP n (by_ y)) = allP (N + 1) l0) := by
                        have := HI3.out
                        rw [if_pos (by rw [HDy.out, h125])] at this
                        rw [preO_one] at this
                        exact this
                      clear h125 HI3 HDy
                      go_wp2_with (at_builtin; refine wpList_append_own_at _ rfl (.tmp 78) (.tmp 80) 22 rfl w.heap.size 26 i0 (.agg #[.int .i64 0, .string ⟨#[]⟩, .string ⟨#[]⟩]) 3 40 Tryd.underlying22 I0.out.2.2.2 I0.out.1 I0.out.2.1 I0.out.2.2.1 rfl (by decide) _ L _ rfl (OW.out _ _) _ 1 1 [.int .i64 mk, .string mn, .string mv] rfl rfl ?d2 (one3 _ _ _) hA.out hB.out (hC.out _ _) ?_)
                      case d2 => exact news3 _ _ _ _ _ (by simp)
                      intro v' w5 own5 grow5 _ _
                      rw [← HL.out] at own5
                      obtain ⟨p5, b5⟩ := MsR.push (m := ⟨mk, mn, mv⟩) R3.out B3.out (((Below.refl _ _).alloc (Nat.le_refl _) _).alloc (by simp) _) grow5 own5
                      have P5 := Lib.hid p5
                      have B5 := Lib.hid b5
                      clear p5 b5 own5 grow5 OW
                      go_wp2_with fail
                      go_roundg n
                      case measure => omega
                      case rel => exact ⟨y, ms ++ [⟨mk, mn, mv⟩], rfl, by omega, by simp only [List.length_append, List.length_cons, List.length_nil]; omega, HI4, B5, by rw [← List.append_assoc]; exact P5⟩
                    · rw [decide_eq_false (show ¬ (y[0]'hpy) = UInt8.ofNat 125 from h125)] at x125
                      have E : Hid (headF (by_ s) = none) := by
                        have := HI3.out
                        rw [if_neg (by rw [HDy.out]; intro e; exact h125 (Option.some.inj e))] at this
                        show _ = _
                        rw [HR.out, ← this]; rfl
                      clear h125 HI3 HDy HR hlen hxl hyl OW hA hB hC HL
                      go_wp2_with fail
                      exact bodyPost_ret (v := .tuple #[.slice none 0 0, .string ⟨#[]⟩, .bool false]) (by simp [results, Tryd.results42, go_sem]) rfl (ERR.out _ _ _ E.out (B3.out.alloc B3.out.size _))
      · rw [decide_eq_false (show ¬ (s2[0]'hp) = UInt8.ofNat 123 from hc)] at u ux
        have N1 := Lib.hid (NB.out (by rw [EF.out, if_neg hc]) wc (Below.refl _ _))
        clear NB HQ hz hc EF
        go_wp2_with fail
        exact bodyPost_ret (v := .tuple #[u5, .string s1, .bool (!nm.toList.isEmpty)]) (by simp [results, Tryd.results42, go_sem]) rfl N1.out
end Go.Proofs.YthlabaijaadocaaDoor
