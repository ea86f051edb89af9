import Derived.Test.YtmbfpichaaanpaaGreatDoorX41
/-! Expressions printed: pairs, groups, reserved words. -/
namespace Go.Proofs.YtmbfpichaaanpaaGreatDoor
open Go.RowKit Ut Rx Mt

theorem by_app (a b : ByteArray) : by_ (a ++ b) = by_ a ++ by_ b := by
  show (a ++ b).data.toList = _
  rw [ByteArray.data_append, Array.toList_append]
def StSame (w : World) (l : List UInt8) (e : Ending) (w' : World) : Prop := e = .returned (.string ⟨l.toArray⟩) ∧ w = w'
set_option maxRecDepth 100000 in
set_option maxHeartbeats 2000000 in
theorem pairX_any (a s b : ByteArray) (w : World) (ha : a.size ≤ 1000000000000000) (hs : s.size ≤ 1000000000000000) (hb : b.size ≤ 1000000000000000) : Calls Tryz.prog 52 #[.string a, .string s, .string b] w (StSame w (Ex.pairT (by_ a) (by_ s) (by_ b))) := by
  have E : Hid ((⟨(Ex.pairT (by_ a) (by_ s) (by_ b)).toArray⟩ : ByteArray) = (⟨#[40]⟩ ++ a ++ ⟨#[32]⟩ ++ s ++ ⟨#[32]⟩ ++ b ++ ⟨#[41]⟩ : ByteArray)) := by
    apply by_inj
    rw [by_mk, by_app, by_app, by_app, by_app, by_app, by_app]
    rfl
  have h1 : (⟨#[40]⟩ ++ a : ByteArray).size = 1 + a.size := by rw [ByteArray.size_append]; rfl
  have h2 : (⟨#[40]⟩ ++ a ++ ⟨#[32]⟩ : ByteArray).size = 2 + a.size := by rw [ByteArray.size_append, h1]; show 1 + a.size + 1 = _; omega
  have h3 : (⟨#[40]⟩ ++ a ++ ⟨#[32]⟩ ++ s : ByteArray).size = 2 + a.size + s.size := by rw [ByteArray.size_append, h2]
  have h4 : (⟨#[40]⟩ ++ a ++ ⟨#[32]⟩ ++ s ++ ⟨#[32]⟩ : ByteArray).size = 3 + a.size + s.size := by rw [ByteArray.size_append, h3]; show 2 + a.size + s.size + 1 = _; omega
  have h5 : (⟨#[40]⟩ ++ a ++ ⟨#[32]⟩ ++ s ++ ⟨#[32]⟩ ++ b : ByteArray).size = 3 + a.size + s.size + b.size := by rw [ByteArray.size_append, h4]
  go_enter Tryz.func52, Tryz.ntmps52
  go_wp2_with fail
  refine bodyPost_ret (v := .string (⟨#[40]⟩ ++ a ++ ⟨#[32]⟩ ++ s ++ ⟨#[32]⟩ ++ b ++ ⟨#[41]⟩)) (by simp [results, Tryz.results52, go_sem]) rfl ?_
  rw [StSame, E.out]
  exact ⟨rfl, rfl⟩
theorem str_eqb (s : ByteArray) (l : List UInt8) : (s.toList == l) = decide (by_ s = l) := by
  rw [tl_eq]
  by_cases h : by_ s = l
  · rw [decide_eq_true h, beq_iff_eq]; exact h
  · rw [decide_eq_false h, beq_eq_false_iff_ne]; exact h
set_option maxRecDepth 100000 in
set_option maxHeartbeats 2000000 in
theorem reservedX_any (s : ByteArray) (w : World) (hW : Wt w) : Calls Tryz.prog 19 #[.string s] w (BoolSame w (Ex.reservedE (by_ s))) := by
  have PL1 : Hid (Calls Tryz.prog 38 #[.slice (some ⟨0, 0, none⟩) 15 15, .string s] w fun e w' => e = .returned (.int .i64 (Ex.placeE Ex.callsT (by_ s))) ∧ w' = w) := place_same (Tb.ws hW.c) s w rfl (by decide)
  have PL2 : Hid (Calls Tryz.prog 38 #[.slice (some ⟨1, 0, none⟩) 6 6, .string s] w fun e w' => e = .returned (.int .i64 (Ex.placeE Ex.aggsT (by_ s))) ∧ w' = w) := place_same (Tb.ws hW.a) s w rfl (by decide)
  have PL3 : Hid (Calls Tryz.prog 38 #[.slice (some ⟨2, 0, none⟩) 3 3, .string s] w fun e w' => e = .returned (.int .i64 (Ex.placeE Ex.setsT (by_ s))) ∧ w' = w) := place_same (Tb.ws hW.s) s w rfl (by decide)
  have b1 := str_eqb s [98, 111, 111, 108]
  have b2 := str_eqb s [98, 121]
  have b3 := str_eqb s [119, 105, 116, 104, 111, 117, 116]
  have E : Hid (Ex.reservedE (by_ s) = (decide (by_ s = [98, 111, 111, 108]) || decide (by_ s = [98, 121]) || decide (by_ s = [119, 105, 116, 104, 111, 117, 116]) || decide (0 ≤ Ex.placeE Ex.callsT (by_ s)) || decide (0 ≤ Ex.placeE Ex.aggsT (by_ s)) || decide (0 ≤ Ex.placeE Ex.setsT (by_ s)))) := rfl
  obtain ⟨r, hr⟩ : ∃ r, r = Ex.reservedE (by_ s) := ⟨_, rfl⟩
  rw [← hr] at E ⊢
  clear hr
  generalize decide (by_ s = [98, 111, 111, 108]) = d1 at *
  generalize decide (by_ s = [98, 121]) = d2 at *
  generalize decide (by_ s = [119, 105, 116, 104, 111, 117, 116]) = d3 at *
  generalize Ex.placeE Ex.callsT (by_ s) = p1 at *
  generalize Ex.placeE Ex.aggsT (by_ s) = p2 at *
  generalize Ex.placeE Ex.setsT (by_ s) = p3 at *
  cases d1 with
  | true =>
    go_enter Tryz.func19, Tryz.ntmps19
    go_wp2_with fail
    exact bodyPost_ret (v := .bool true) (by simp [results, Tryz.results19, go_sem]) rfl ⟨by rw [E.out]; rfl, rfl⟩
  | false =>
  cases d2 with
  | true =>
    go_enter Tryz.func19, Tryz.ntmps19
    go_wp2_with fail
    exact bodyPost_ret (v := .bool true) (by simp [results, Tryz.results19, go_sem]) rfl ⟨by rw [E.out]; rfl, rfl⟩
  | false =>
  cases d3 with
  | true =>
    go_enter Tryz.func19, Tryz.ntmps19
    go_wp2_with fail
    exact bodyPost_ret (v := .bool true) (by simp [results, Tryz.results19, go_sem]) rfl ⟨by rw [E.out]; rfl, rfl⟩
  | false =>
    go_enter Tryz.func19, Tryz.ntmps19
    go_wp2_with fail
    refine PL1.out.mono ?_
    rintro e w' ⟨rfl, rfl⟩
    by_cases h1 : 0 ≤ p1
    · have E1 : Hid (r = true) := by show _ = _; rw [E.out, decide_eq_true h1]; rfl
      go_wp2_with fail
      exact bodyPost_ret (v := .bool true) (by simp [results, Tryz.results19, go_sem]) rfl ⟨by rw [E1.out], rfl⟩
    · go_wp2_with fail
      refine PL2.out.mono ?_
      rintro e w' ⟨rfl, rfl⟩
      by_cases h2 : 0 ≤ p2
      · have E1 : Hid (r = true) := by show _ = _; rw [E.out, decide_eq_false (show ¬ 0 ≤ p1 by omega), decide_eq_true h2]; rfl
        go_wp2_with fail
        exact bodyPost_ret (v := .bool true) (by simp [results, Tryz.results19, go_sem]) rfl ⟨by rw [E1.out], rfl⟩
      · go_wp2_with fail
        refine PL3.out.mono ?_
        rintro e w' ⟨rfl, rfl⟩
        have E1 : Hid (r = decide (0 ≤ p3)) := by show _ = _; rw [E.out, decide_eq_false (show ¬ 0 ≤ p1 by omega), decide_eq_false (show ¬ 0 ≤ p2 by omega)]; rfl
        go_wp2_with fail
        exact bodyPost_ret (v := .bool (decide (0 ≤ p3))) (by simp [results, Tryz.results19, go_sem, show ¬ 0 ≤ p1 by omega, show ¬ 0 ≤ p2 by omega]) rfl ⟨by rw [E1.out], rfl⟩

theorem joinC_cons (s : ByteArray) (t : List ByteArray) (h : t ≠ []) : Ex.joinC (s :: t) = by_ s ++ [44, 32] ++ Ex.joinC t := by
  cases t with
  | nil => exact absurd rfl h
  | cons a b => rfl
/-- the names that follow, each behind a comma but for the first -/
def joinR : Bool → List ByteArray → List UInt8
  | _, [] => []
  | true, s :: t => by_ s ++ joinR false t
  | false, s :: t => [44, 32] ++ by_ s ++ joinR false t
theorem joinR_eq : ∀ l : List ByteArray, joinR true l = Ex.joinC l
  | [] => rfl
  | [s] => by show by_ s ++ [] = by_ s; simp
  | s :: a :: t => by
    rw [joinC_cons _ _ (by simp), ← joinR_eq (a :: t)]
    show by_ s ++ ([44, 32] ++ by_ a ++ joinR false t) = by_ s ++ [44, 32] ++ (by_ a ++ joinR false t)
    simp
theorem groupT_eq (n : Ex.Nd) : Ex.groupT n = if n.gb = true ∧ n.nm = [] then [] else (if n.gb then [32, 98, 121, 32, 40] else [32, 119, 105, 116, 104, 111, 117, 116, 32, 40]) ++ joinR true n.nm ++ [41, 32] := by
  unfold Ex.groupT
  rw [joinR_eq]
set_option maxRecDepth 100000 in
set_option maxHeartbeats 4000000 in
theorem groupX_any (n : Ex.Nd) (sv : Value) (nv : Value) (w : World) (hn : Ws0 w nv n.nm) (hl : n.nm.length ≤ 1000) (hz : ∀ s ∈ n.nm, s.size ≤ 1000000) : Calls Tryz.prog 51 #[ndA n sv nv] w (StBelow w (Ex.groupT n)) := by
  obtain ⟨A2, c2, rfl, hcap, hcl⟩ := id hn
  have C0 := Lib.hid (nBox_at w n sv (.slice A2 n.nm.length c2))
  have B0 := Lib.hid (nBox_below w n sv (.slice A2 n.nm.length c2))
  have WS := Lib.hid (hn.below B0.out)
  have HZ := Lib.hid hz
  obtain ⟨W0, hW0⟩ : ∃ x, x = nBox w n sv (.slice A2 n.nm.length c2) := ⟨_, rfl⟩
  rw [← hW0] at C0 B0 WS
  obtain ⟨a0, a1, a2, a3, a4, a5, a6, a7⟩ := (C0.out W0 (Below.refl _ _)).1
  obtain ⟨r, hr⟩ : ∃ r, r = Ex.groupT n := ⟨_, rfl⟩
  have E := Lib.hid (hr.trans (groupT_eq n))
  rw [← hr]
  clear hr hn hcl hz
  unfold nBox at hW0
  unfold ndA
  go_enter Tryz.func51, Tryz.ntmps51
  go_upto_region 1 with fail
  rw [← hW0]
  clear hW0
  obtain ⟨gb, hgb⟩ : ∃ b, b = n.gb := ⟨_, rfl⟩
  obtain ⟨ns, hns⟩ : ∃ l, l = n.nm := ⟨_, rfl⟩
  rw [← hgb] at a6 E
  rw [← hns] at a7 E WS HZ hl hcap
  clear hgb hns
  by_cases h0 : gb = true ∧ ns.length = 0
  · obtain ⟨rfl, hz⟩ := h0
    have hzi : (ns.length : Int) = 0 := by omega
    have E2 : Hid (r = []) := by show _ = _; rw [E.out, if_pos ⟨rfl, List.eq_nil_of_length_eq_zero hz⟩]
    clear E hz
    go_wp2_with fail
    refine bodyPost_ret (v := .string ⟨#[]⟩) (by simp [results, Tryz.results51, go_sem]) rfl ?_
    rw [E2.out]
    exact ⟨rfl, B0.out⟩
  · have E2 : Hid (r = (if gb then [32, 98, 121, 32, 40] else [32, 119, 105, 116, 104, 111, 117, 116, 32, 40]) ++ joinR true ns ++ [41, 32]) := by
      show _ = _
      rw [E.out, if_neg (fun h => h0 ⟨h.1, by rw [h.2]; rfl⟩)]
    clear E
    go_upto_region 1 with fail
    go_cut [13] (fun v wx => v = .bool false ∧ wx = W0)
    case first =>
      cases gb with
      | false =>
        go_wp2_with fail
        go_meet
        case rel => exact ⟨rfl, rfl⟩
      | true =>
        have hzi : ((ns.length : Int) == 0) = false := by
          simp only [beq_eq_false_iff_ne, ne_eq]
          have : ¬ ns.length = 0 := fun h => h0 ⟨rfl, h⟩
          omega
        go_wp2_with fail
        go_meet
        case rel => exact ⟨rfl, rfl⟩
    case rest =>
    obtain ⟨rfl, hwx⟩ := hcut
    obtain rfl := hwx
    go_upto_region 4 with fail
    go_upto_if 15 with fail
    go_cut [3] (fun v wx => ∃ s : ByteArray, v = .string s ∧ Hid (by_ s = if gb then [32, 98, 121, 32, 40] else [32, 119, 105, 116, 104, 111, 117, 116, 32, 40]) ∧ s.size ≤ 100 ∧ wx = wc)
    case first =>
      cases gb with
      | true =>
        go_wp2_with fail
        go_meet
        case rel => exact ⟨_, rfl, rfl, by show 5 ≤ 100; decide, rfl⟩
      | false =>
        go_wp2_with fail
        go_meet
        case rel => exact ⟨_, rfl, rfl, by show 10 ≤ 100; decide, rfl⟩
    case rest =>
    obtain ⟨s0, rfl, HP, hs0, hwx⟩ := hcut
    obtain rfl := hwx
    generalize (if gb then [32, 98, 121, 32, 40] else [32, 119, 105, 116, 104, 111, 117, 116, 32, 40] : List UInt8) = pre at *
    go_wp2_with fail
    go_loopg [3, 19] ns.length (fun gk v3 v19 wr => ∃ (k : Nat) (acc : ByteArray), v3 = .string acc ∧ v19 = .int .i64 (k : Int) ∧ k + gk = ns.length ∧ acc.size ≤ 100 + k * 1000010 ∧ wr = wc ∧ Hid (by_ acc ++ joinR (decide (k = 0)) (ns.drop k) = pre ++ joinR true ns))
    case atStart => exact ⟨0, s0, rfl, rfl, by omega, by omega, rfl, by show _ = _; rw [HP.out]; rfl⟩
    case round =>
      obtain ⟨k, acc, rfl, rfl, hk, hacc, rfl, HJ⟩ := hrel
      by_cases hlt : k < ns.length
      · have hlti : (k : Int) < ns.length := by omega
        obtain ⟨b, off, rfl, hc⟩ := WS.out.at_ (fun e => by rw [e] at hlt; simp at hlt)
        have c1 := hc k hlt
        have hsz := HZ.out _ (List.getElem_mem hlt)
        have HJ2 : Hid (by_ acc ++ ((if k = 0 then [] else [44, 32]) ++ by_ (ns[k]'hlt) ++ joinR false (ns.drop (k + 1))) = pre ++ joinR true ns) := by
          have := HJ.out
          rw [List.drop_eq_getElem_cons hlt] at this
          show _ = _
          rw [← this]
          by_cases h : k = 0
          · rw [decide_eq_true h, if_pos h]; simp [joinR]
          · rw [decide_eq_false h, if_neg h]; simp [joinR]
        generalize (ns[k]'hlt) = x at *
        clear hc HJ
        by_cases hk0 : k = 0
        · subst hk0
          have c2' : wr.cell? ⟨b, off, none⟩ = some (.string x) := c1
          have hs1 : ¬ 9223372036854775807 < acc.size + x.size := by omega
          have J3 : Hid (by_ (acc ++ x) ++ joinR (decide (0 + 1 = 0)) (ns.drop (0 + 1)) = pre ++ joinR true ns) := by
            have := HJ2.out
            rw [if_pos rfl] at this
            show _ = _
            rw [← this, by_app, decide_eq_false (by omega)]
            simp
          have ha : (acc ++ x).size = acc.size + x.size := ByteArray.size_append ..
          clear HJ2 c1
          go_wp2_with fail
          go_roundg (ns.length - 1)
          case measure => omega
          case rel => exact ⟨0 + 1, acc ++ x, rfl, by go_num, by omega, by omega, rfl, J3⟩
        · have hk0i : (0 : Int) < k := by omega
          have ha0 : (acc ++ ⟨#[44, 32]⟩ : ByteArray).size = acc.size + 2 := by rw [ByteArray.size_append]; rfl
          have ha : (acc ++ ⟨#[44, 32]⟩ ++ x : ByteArray).size = acc.size + 2 + x.size := by rw [ByteArray.size_append, ha0]
          have hs1 : ¬ 9223372036854775807 < acc.size + 2 := by omega
          have hs2 : ¬ 9223372036854775807 < acc.size + 2 + x.size := by omega
          have J3 : Hid (by_ (acc ++ ⟨#[44, 32]⟩ ++ x) ++ joinR (decide (k + 1 = 0)) (ns.drop (k + 1)) = pre ++ joinR true ns) := by
            have := HJ2.out
            rw [if_neg hk0] at this
            show _ = _
            rw [← this, by_app, by_app, decide_eq_false (by omega)]
            show by_ acc ++ [44, 32] ++ by_ x ++ _ = _
            simp
          clear HJ2
          go_wp2_with fail
          go_roundg (ns.length - (k + 1))
          case measure => omega
          case rel => exact ⟨k + 1, acc ++ ⟨#[44, 32]⟩ ++ x, rfl, by go_num, by omega, by omega, rfl, J3⟩
      · have hlti : ¬ (k : Int) < ns.length := by omega
        have E3 : Hid (r = by_ acc ++ [41, 32]) := by
          have := HJ.out
          rw [List.drop_of_length_le (by omega)] at this
          show _ = _
          rw [E2.out, ← this]
          cases decide (k = 0) <;> simp [joinR]
        have hs1 : ¬ 9223372036854775807 < acc.size + 2 := by
          have : k * 1000010 ≤ 1000 * 1000010 := Nat.mul_le_mul_right _ (by omega)
          omega
        clear HJ
        go_wp2_with fail
        refine bodyPost_ret (v := .string (acc ++ ⟨#[41, 32]⟩)) (by simp [results, Tryz.results51, go_sem]) rfl ?_
        have e1 : (acc ++ ⟨#[41, 32]⟩ : ByteArray) = ⟨(by_ acc ++ [41, 32]).toArray⟩ := by
          apply by_inj
          rw [by_app, by_mk]
        rw [E3.out, e1]
        exact ⟨rfl, B0.out⟩
end Go.Proofs.YtmbfpichaaanpaaGreatDoor
