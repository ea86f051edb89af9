import Derived.Test.YtmbfpichaaanpaaGreatDoorX42
/-! Expressions printed: a selector. -/
namespace Go.Proofs.YtmbfpichaaanpaaGreatDoor
open Go.RowKit Ut Rx Mt

def oneM (m : M) : List UInt8 := by_ m.n ++ signT m.k ++ quoteF (by_ m.v)
theorem quote0 : quoteF [] = [34, 34] := by decide
theorem sign1T : signT 1 = [61] := by decide
theorem head_x : headB Ex.xM = false := by
  unfold headB
  have : ¬ by_ Ex.xM.n = nameL := by show ¬ [120] = nameL; decide
  rw [decide_eq_false this]
  simp
theorem printF_at (m : M) (t : List M) : printF (m :: t) = if headB m then (if t = [] then by_ m.v else by_ m.v ++ bracesF t) else bracesF (m :: t) := rfl
theorem printX (m : M) : printF [Ex.xM, m] = [123, 120, 61, 34, 34, 44, 32] ++ oneM m ++ [125] := by
  rw [printF_at, head_x]
  show 123 :: ([] ++ (by_ Ex.xM.n ++ signT Ex.xM.k ++ quoteF (by_ Ex.xM.v)) ++ ([44, 32] ++ (by_ m.n ++ signT m.k ++ quoteF (by_ m.v)) ++ [125])) = _
  rw [show by_ Ex.xM.n = [120] from rfl, show Ex.xM.k = 1 from rfl, show by_ Ex.xM.v = [] from rfl, sign1T, quote0]
  unfold oneM
  simp
theorem firstX (m : M) : ((printF [Ex.xM, m]).drop 7).dropLast = oneM m := by
  rw [printX, List.append_assoc, show (7 : Nat) = ([123, 120, 61, 34, 34, 44, 32] : List UInt8).length from rfl, List.drop_left, List.dropLast_concat]
theorem word_le (s : List UInt8) : (Ex.wordF s).length ≤ s.length := (List.takeWhile_sublist _).length_le
theorem word_pre (s : List UInt8) : s.take (Ex.wordF s).length = Ex.wordF s := (List.prefix_iff_eq_take.1 (List.takeWhile_prefix _)).symm
theorem word_lt {a b : List UInt8} : (Ex.wordF (a ++ 123 :: b)).length ≤ a.length := by
  unfold Ex.wordF
  induction a with
  | nil =>
    rw [List.nil_append, List.takeWhile_cons, if_neg (by decide)]
    exact Nat.le_refl _
  | cons c t ih =>
    rw [List.cons_append, List.takeWhile_cons]
    split
    · simp only [List.length_cons]; omega
    · simp
/-- a printed text that begins with a word: the word is a name, more matchers follow in braces -/
theorem print_word {l : List M} (h : Ex.wordF (printF l) ≠ []) : ∃ m t, l = m :: t ∧ headB m = true := by
  cases l with
  | nil => exact absurd rfl h
  | cons m t =>
    refine ⟨m, t, rfl, ?_⟩
    cases hh : headB m with
    | true => rfl
    | false =>
      exfalso
      apply h
      rw [printF_at, hh]
      rfl
theorem print_rest {m : M} {t : List M} (hh : headB m = true) (ht : t ≠ []) : (Ex.wordF (printF (m :: t))).length + 1 ≤ (printF (m :: t)).length := by
  have e : printF (m :: t) = by_ m.v ++ 123 :: braGo true t := by
    rw [printF_at, hh, if_pos rfl, if_neg ht]
    rfl
  rw [e]
  have := word_lt (a := by_ m.v) (b := braGo true t)
  rw [List.length_append, List.length_cons]
  omega
theorem selT_eq (l : List M) : Ex.selT l = if Ex.wordF (printF l) = [] ∨ Ex.reservedE (Ex.wordF (printF l)) = false then printF l else
    match l with
    | [] => printF l
    | m :: t => if t = [] then 123 :: (oneM m ++ [125]) else 123 :: (oneM m ++ [44, 32] ++ (printF l).drop ((Ex.wordF (printF l)).length + 1)) := by
  unfold Ex.selT
  cases l with
  | nil => simp only; split <;> rfl
  | cons m t => simp only; rw [firstX]
theorem printF_len {l : List M} (h : ∀ m ∈ l, m.n.size ≤ 100000 ∧ m.v.size ≤ 100000) (hl : l.length ≤ 100000) : (printF l).length ≤ 100000000000 := by
  have b0 : ∀ t : List M, (∀ m ∈ t, m.n.size ≤ 100000 ∧ m.v.size ≤ 100000) → t.length ≤ 100000 → (bracesF t).length ≤ 50000000000 := fun t ht hl => by
    have := bracesF_len ht
    have : t.length * 400010 ≤ 100000 * 400010 := Nat.mul_le_mul_right _ hl
    omega
  unfold printF
  cases l with
  | nil => exact Nat.le_trans (b0 [] h hl) (by omega)
  | cons m t =>
    simp only
    have hm := h m (List.mem_cons_self ..)
    have ht := b0 t (fun x hx => h x (List.mem_cons_of_mem _ hx)) (by simp only [List.length_cons] at hl; omega)
    have hmt := b0 (m :: t) h hl
    have hv : (by_ m.v).length = m.v.size := tl_len _
    split
    · split
      · omega
      · rw [List.length_append]; omega
    · omega
theorem oneM_len {m : M} (h : m.n.size ≤ 100000 ∧ m.v.size ≤ 100000) : (oneM m).length ≤ 400000 := by
  unfold oneM
  have h1 := signT_len m.k
  have h2 := quoteF_len (by_ m.v)
  have h3 : (by_ m.n).length = m.n.size := tl_len _
  have h4 : (by_ m.v).length = m.v.size := tl_len _
  rw [List.length_append, List.length_append]
  omega
theorem by_ext (s : ByteArray) (a b : Nat) : by_ (s.extract a b) = ((by_ s).drop a).take (b - a) := by
  show (s.extract a b).data.toList = _
  rw [ByteArray.data_extract, Array.toList_extract, List.extract_eq_take_drop]
def ms2 (m : M) : Obj := .cells #[.int .i64 1, .string ⟨#[120]⟩, .string ⟨#[]⟩, .int .i64 m.k, .string m.n, .string m.v] 42
theorem ms2_at {w : World} {b : Nat} {m : M} (h : w.heap[b]? = some (ms2 m)) : Ms w (.slice (some ⟨b, 0, none⟩) 2 2) [Ex.xM, m] := by
  refine ⟨some ⟨b, 0, none⟩, 2, rfl, by show 2 * 40 ≤ _; decide, fun _ => ⟨b, 0, rfl, fun i hi => ?_⟩⟩
  unfold ms2 at h
  match i, hi with
  | 0, _ => exact ⟨ndAt_blk h 0, ndAt_blk h 1, ndAt_blk h 2⟩
  | 1, _ => exact ⟨ndAt_blk h 3, ndAt_blk h 4, ndAt_blk h 5⟩
set_option maxRecDepth 100000 in
set_option maxHeartbeats 1000000 in
theorem wordY_any (s : ByteArray) (w : World) (hs : s.size ≤ 100000000000) : Calls Tryz.prog 71 #[.string s] w (WordSame w (Ex.wordF (by_ s))) := by
  have LE := Lib.hid (fun c => letterX_any c w)
  go_enter Tryz.func71, Tryz.ntmps71
  go_wp2_with fail
  go_loopg [3] s.size (fun gk vk wr => ∃ k : Nat, vk = .int .i64 k ∧ k + gk = s.size ∧ wr = w ∧ Hid ((by_ s).take k ++ ((by_ s).drop k).takeWhile letU = (by_ s).takeWhile letU))
  case atStart => exact ⟨0, rfl, by omega, rfl, by show _ = _; simp⟩
  case round =>
    obtain ⟨k, rfl, hk, rfl, HT⟩ := hrel
    by_cases hlt : k < s.size
    · have HC := Lib.hid (drop_two hlt)
      have hle : (k : Int) ≤ s.size := by omega
      have L1 := Lib.hid (LE.out (s[k]'hlt))
      cases hL : letU (s[k]'hlt) with
      | true =>
        have T2 : Hid ((by_ s).take (k + 1) ++ ((by_ s).drop (k + 1)).takeWhile letU = (by_ s).takeWhile letU) := by
          have := HT.out
          rw [HC.out, List.takeWhile_cons, if_pos hL] at this
          have hl' : k < (by_ s).length := by rw [tl_len]; exact hlt
          show _ = _
          rw [← this, List.take_succ_eq_append_getElem hl', tl_get s k hlt hl']
          simp
        rw [hL] at L1
        clear hL
        go_wp2_with fail
        refine L1.out.mono ?_
        rintro e w1 ⟨rfl, rfl⟩
        go_wp2_with fail
        go_roundg (s.size - (k + 1))
        case measure => omega
        case rel => exact ⟨k + 1, by go_num, by omega, rfl, T2⟩
      | false =>
        have T2 : Hid ((by_ s).take k = (by_ s).takeWhile letU) := by
          have := HT.out
          rw [HC.out, List.takeWhile_cons, if_neg (by rw [hL]; simp), List.append_nil] at this
          exact this
        rw [hL] at L1
        clear hL
        go_wp2_with fail
        refine L1.out.mono ?_
        rintro e w1 ⟨rfl, rfl⟩
        go_wp2_with fail
        exact bodyPost_ret (v := .string (s.extract 0 k)) (by simp [results, Tryz.results71, go_sem]) rfl ⟨⟨_, rfl, by rw [by_take]; exact T2.out⟩, rfl⟩
    · have hkl : k = s.size := by omega
      have hki : ¬ (k : Int) < s.size := by omega
      have hle : (k : Int) ≤ s.size := by omega
      have T2 : Hid ((by_ s).take k = (by_ s).takeWhile letU) := by
        have := HT.out
        rw [List.drop_of_length_le (by rw [tl_len]; omega)] at this
        show _ = _
        simpa using this
      clear hkl HT
      go_wp2_with fail
      exact bodyPost_ret (v := .string (s.extract 0 k)) (by simp [results, Tryz.results71, go_sem]) rfl ⟨⟨_, rfl, by rw [by_take]; exact T2.out⟩, rfl⟩
set_option maxRecDepth 100000 in
set_option maxHeartbeats 4000000 in
theorem selTX_any (l : List M) (A : Option Addr) (c : Nat) (w : World) (hl : Ms w (.slice A l.length c) l) (hcap : l.length ≤ c) (hn : l.length ≤ 100000) (hsz : ∀ m ∈ l, m.n.size ≤ 100000 ∧ m.v.size ≤ 100000) (hW : Wt w) (hw : 8 ≤ w.heap.size) :
    Calls Tryz.prog 49 #[.slice A l.length c] w (StBelow w (Ex.selT l)) := by
  obtain ⟨r, hr⟩ : ∃ r, r = Ex.selT l := ⟨_, rfl⟩
  have E := Lib.hid (hr.trans (selT_eq l))
  rw [← hr]
  clear hr
  have PR := Lib.hid (print_any l A c w hl hcap hn hsz)
  have hpl := printF_len hsz hn
  go_enter Tryz.func49, Tryz.ntmps49
  go_wp2_with fail
  refine PR.out.mono ?_
  rintro e w1 ⟨rfl, b1⟩
  have B1 := Lib.hid b1
  have ML := Lib.hid (hl.below b1)
  have WW := Lib.hid (hW.low (t := 8) (Nat.le_refl _) (b1.mono hw))
  obtain ⟨s, hs⟩ : ∃ s : ByteArray, s = ⟨(printF l).toArray⟩ := ⟨_, rfl⟩
  have hbs : by_ s = printF l := by rw [hs, by_mk]
  rw [← hs]
  have hss : s.size ≤ 100000000000 := by rw [← tl_len s]; show (by_ s).length ≤ _; rw [hbs]; exact hpl
  have HBS := Lib.hid hbs
  clear PR b1 hs hbs hl hW
  have WD := Lib.hid (wordY_any s w1 hss)
  rw [HBS.out] at WD
  go_wp2_with fail
  refine WD.out.mono ?_
  rintro e w2 ⟨⟨x, rfl, hx⟩, rfl⟩
  have HX := Lib.hid hx
  have RS := Lib.hid (reservedX_any x w1 WW.out)
  rw [hx] at RS
  clear hx
  go_upto_region 3 with fail
  go_cut [18] (fun v wx => v = .bool (decide (Ex.wordF (printF l) = []) || !Ex.reservedE (Ex.wordF (printF l))) ∧ wx = w1)
  case first =>
    generalize Ex.reservedE (Ex.wordF (printF l)) = rs at *
    by_cases hw0 : Ex.wordF (printF l) = []
    · have hxe : (x.toList == []) = true := by rw [str_eqb]; exact decide_eq_true (HX.out.trans hw0)
      have hxm : x.toList.isEmpty = true := by
        have := HX.out.trans hw0
        rw [tl_eq, show x.data.toList = [] from this]
        rfl
      have hd : Hid (decide (Ex.wordF (printF l) = []) = true) := decide_eq_true hw0
      clear hw0
      go_wp2_with fail
      go_meet
      case rel => exact ⟨by rw [hd.out]; rfl, rfl⟩
    · have hxe : (x.toList == []) = false := by rw [str_eqb]; exact decide_eq_false (fun h => hw0 (HX.out.symm.trans h))
      have hxm : x.toList.isEmpty = false := by
        cases hq : x.toList.isEmpty with
        | false => rfl
        | true =>
          exfalso
          apply hw0
          rw [← HX.out]
          rw [tl_eq] at hq
          exact List.isEmpty_iff.1 hq
      have hd : Hid (decide (Ex.wordF (printF l) = []) = false) := decide_eq_false hw0
      clear hw0
      go_wp2_with fail
      refine RS.out.mono ?_
      rintro e w2 ⟨rfl, rfl⟩
      go_wp2_with fail
      go_meet
      case rel => exact ⟨by rw [hd.out]; rfl, rfl⟩
  case rest =>
    obtain ⟨rfl, hwx⟩ := hcut
    obtain rfl := hwx
    obtain ⟨q, hq⟩ : ∃ b, b = (decide (Ex.wordF (printF l) = []) || !Ex.reservedE (Ex.wordF (printF l))) := ⟨_, rfl⟩
    rw [← hq]
    have HQ := Lib.hid hq
    clear hq RS
    cases hqv : q with
    | true =>
      have E2 : Hid (r = printF l) := by
        show _ = _
        rw [E.out, if_pos]
        have := HQ.out
        rw [hqv] at this
        simpa using this.symm
      go_wp2_with fail
      refine bodyPost_ret (v := .string s) (by simp [results, Tryz.results49, go_sem]) rfl ?_
      refine ⟨?_, B1.out⟩
      rw [E2.out, show s = (⟨(printF l).toArray⟩ : ByteArray) from by_inj (by rw [HBS.out, by_mk])]
    | false =>
      have hne : Ex.wordF (printF l) ≠ [] ∧ Ex.reservedE (Ex.wordF (printF l)) = true := by
        have := HQ.out
        rw [hqv] at this
        simpa using this.symm
      obtain ⟨m, t, rfl, hh⟩ := print_word hne.1
      have E2 : Hid (r = if t = [] then 123 :: (oneM m ++ [125]) else 123 :: (oneM m ++ [44, 32] ++ (printF (m :: t)).drop ((Ex.wordF (printF (m :: t))).length + 1))) := by
        show _ = _
        rw [E.out, if_neg]
        simp [hne.1, hne.2]
      clear E HQ hqv
      obtain ⟨A2, c2, e2, hb2, hl2⟩ := ML.out
      simp only [Value.slice.injEq, true_and] at e2
      obtain ⟨rfl, rfl⟩ := e2
      obtain ⟨b, off, rfl, hc⟩ := hl2 (by simp)
      obtain ⟨k0, k1, k2⟩ := hc 0 (by simp)
      simp only [List.getElem_cons_zero, Nat.zero_mul, Nat.add_zero] at k0 k1 k2
      have hm := hsz m (List.mem_cons_self ..)
      have hin : (0 : Int) < ((m :: t).length : Int) := by simp
      have B2 := Lib.hid (nd_below wc (ms2 m))
      have HN2 := Lib.hid (heap_alloc_new wc (ms2 m))
      have P2 := Lib.hid (print_any [Ex.xM, m] (some ⟨wc.heap.size, 0, none⟩) 2 _ (ms2_at HN2.out) (Nat.le_refl _) (by show 2 ≤ 100000; decide) (fun y hy => by
        rcases List.mem_cons.1 hy with rfl | hy
        · exact ⟨by show 1 ≤ 100000; decide, by show 0 ≤ 100000; decide⟩
        · obtain rfl := List.mem_singleton.1 hy
          exact hm))
      have B3 := Lib.hid (B1.out.trans (B2.out.mono B1.out.size))
      unfold ms2 at P2 B3
      go_upto_region 6 with fail
      refine P2.out.mono ?_
      rintro e w4 ⟨rfl, b4⟩
      have B4 := Lib.hid (B3.out.trans (b4.mono B3.out.size))
      have B24 : Hid (Below wc.heap.size wc w4) := B2.out.trans (b4.mono B2.out.size)
      obtain ⟨nm, hnm⟩ : ∃ y : ByteArray, y = ⟨(printF [Ex.xM, m]).toArray⟩ := ⟨_, rfl⟩
      have hbn : by_ nm = [123, 120, 61, 34, 34, 44, 32] ++ oneM m ++ [125] := by rw [hnm, by_mk, printX]
      rw [← hnm]
      have hns : nm.size = (oneM m).length + 8 := by rw [← tl_len nm]; show (by_ nm).length = _; rw [hbn]; simp
      have hol := oneM_len hm
      have hn8 : 8 ≤ nm.size := by omega
      have hn9 : nm.size ≤ 500000 := by omega
      have FI : Hid (by_ (nm.extract 7 (nm.size - 1)) = oneM m) := by
        show _ = _
        rw [by_ext, hbn, hns, List.append_assoc, show (7 : Nat) = ([123, 120, 61, 34, 34, 44, 32] : List UInt8).length from rfl, List.drop_left, List.take_append_of_le_length (by simp), List.take_of_length_le (by simp)]
      have hfs : (nm.extract 7 (nm.size - 1)).size ≤ 500000 := by
        rw [← tl_len]; show (by_ _).length ≤ _; rw [FI.out]; omega
      have h1i : (7 : Int) ≤ (nm.size : Int) - 1 := by omega
      clear P2 b4 hnm hbn hns
      by_cases ht : t = []
      · have E3 : Hid (r = 123 :: (oneM m ++ [125])) := by show _ = _; rw [E2.out, if_pos ht]
        subst ht
        clear E2
        go_wp2_with fail
        refine bodyPost_ret (v := .string (⟨#[123]⟩ ++ nm.extract 7 (nm.size - 1) ++ ⟨#[125]⟩)) (by simp [results, Tryz.results49, go_sem]) rfl ?_
        have e1 : (⟨#[123]⟩ ++ nm.extract 7 (nm.size - 1) ++ ⟨#[125]⟩ : ByteArray) = ⟨(123 :: (oneM m ++ [125])).toArray⟩ := by
          apply by_inj
          rw [by_app, by_app, by_mk, FI.out]
          rfl
        rw [E3.out, e1]
        exact ⟨rfl, B4.out⟩
      · have E3 : Hid (r = 123 :: (oneM m ++ [44, 32] ++ (printF (m :: t)).drop ((Ex.wordF (printF (m :: t))).length + 1))) := by show _ = _; rw [E2.out, if_neg ht]
        have hl1 : (((m :: t).length : Int) == 1) = false := by
          have : t.length ≠ 0 := fun h => ht (List.eq_nil_of_length_eq_zero h)
          simp only [List.length_cons, beq_eq_false_iff_ne, ne_eq]
          omega
        have hpr := print_rest hh ht
        have W4 := Lib.hid (wordY_any s w4 hss)
        rw [HBS.out] at W4
        have hs1 : s.size = (printF (m :: t)).length := by rw [← HBS.out, tl_len]
        have hL := Lib.hid hl1
        obtain ⟨ln, hln⟩ : ∃ n, n = (m :: t).length := ⟨_, rfl⟩
        rw [← hln] at hl1 hn hcap hin ⊢
        clear hln E2 ht hc hl2 hb2 ML
        go_wp2_with fail
        refine W4.out.mono ?_
        rintro e w5 ⟨⟨y, rfl, hy⟩, rfl⟩
        have hys : y.size = (Ex.wordF (printF (m :: t))).length := by rw [← hy, tl_len]
        have hyle : y.size + 1 ≤ s.size := by omega
        have hyi : (y.size : Int) + 1 ≤ s.size := by omega
        have HYS := Lib.hid hys
        have hrs : (s.extract (y.size + 1) s.size).size ≤ 100000000000 := by rw [ByteArray.size_extract]; omega
        have RB : Hid (by_ (s.extract (y.size + 1) s.size) = (printF (m :: t)).drop ((Ex.wordF (printF (m :: t))).length + 1)) := by
          show _ = _
          rw [by_drop, HBS.out, hys]
        have g1 : (⟨#[123]⟩ ++ nm.extract 7 (nm.size - 1) : ByteArray).size ≤ 500001 := by rw [ByteArray.size_append]; show 1 + _ ≤ _; omega
        have g2 : (⟨#[123]⟩ ++ nm.extract 7 (nm.size - 1) ++ ⟨#[44, 32]⟩ : ByteArray).size ≤ 500003 := by rw [ByteArray.size_append]; show _ + 2 ≤ _; omega
        clear W4 hys hs1 hpr hy
        go_wp2_with fail
        refine bodyPost_ret (v := .string (⟨#[123]⟩ ++ nm.extract 7 (nm.size - 1) ++ ⟨#[44, 32]⟩ ++ s.extract (y.size + 1) s.size)) (by simp [results, Tryz.results49, go_sem]) rfl ?_
        have e1 : (⟨#[123]⟩ ++ nm.extract 7 (nm.size - 1) ++ ⟨#[44, 32]⟩ ++ s.extract (y.size + 1) s.size : ByteArray) = ⟨(123 :: (oneM m ++ [44, 32] ++ (printF (m :: t)).drop ((Ex.wordF (printF (m :: t))).length + 1))).toArray⟩ := by
          apply by_inj
          rw [by_app, by_app, by_app, by_mk, FI.out, RB.out]
          show [123] ++ oneM m ++ [44, 32] ++ _ = _
          simp
        rw [E3.out, e1]
        exact ⟨rfl, B4.out⟩
end Go.Proofs.YtmbfpichaaanpaaGreatDoor
