import Derived.Test.YtmbfpichaaanpaaGreatDoorX40
import Derived.Lib.SmallJoins
/-! Expressions printed: digits. -/
namespace Go.Proofs.YtmbfpichaaanpaaGreatDoor
open Go.RowKit Ut Rx Mt

theorem digGo_lt {f n : Nat} (h : n < 10) : Ex.digGo f n = [UInt8.ofNat (48 + n)] := by
  cases f with
  | zero => unfold Ex.digGo; rw [Nat.mod_eq_of_lt h]
  | succ f => unfold Ex.digGo; rw [if_pos h]
theorem digGo_ge {f n : Nat} (h : 10 ≤ n) : Ex.digGo (f + 1) n = Ex.digGo f (n / 10) ++ [UInt8.ofNat (48 + n % 10)] := by
  rw [Ex.digGo, if_neg (by omega)]
/-- how the digits go on -/
def DgR (N gk n : Nat) (ds : List UInt8) : Prop := (gk = 0 ∧ n = 0 ∧ ds ≠ [] ∧ ds = Ex.digF N) ∨ ∃ f, gk = f + 1 ∧ (0 < n ∨ ds = []) ∧ n < 10 ^ (f + 1) ∧ Ex.digGo f n ++ ds = Ex.digF N
theorem DgR.start (N : Nat) (h : N < 18446744073709551616) : DgR N 21 N [] :=
  Or.inr ⟨20, rfl, Or.inr rfl, Nat.lt_of_lt_of_le h (by decide), by rw [List.append_nil]; rfl⟩
theorem DgR.step {N gk n : Nat} {ds : List UInt8} (h : DgR N (gk + 1) n ds) : ∃ g', g' ≤ gk ∧ DgR N g' (n / 10) (UInt8.ofNat (48 + n % 10) :: ds) := by
  rcases h with ⟨h, _⟩ | ⟨f, hf, _, hn, hd⟩
  · cases h
  · obtain rfl : gk = f := by omega
    by_cases h10 : n < 10
    · refine ⟨0, Nat.zero_le _, Or.inl ⟨rfl, by omega, List.cons_ne_nil _ _, ?_⟩⟩
      rw [← hd, digGo_lt h10, Nat.mod_eq_of_lt h10]
      rfl
    · cases gk with
      | zero => omega
      | succ f =>
        refine ⟨f + 1, Nat.le_refl _, Or.inr ⟨f, rfl, Or.inl (by omega), ?_, ?_⟩⟩
        · rw [Nat.pow_succ] at hn; omega
        · rw [← hd, digGo_ge (by omega)]
          simp
theorem DgR.go {N gk n : Nat} {ds : List UInt8} (h : DgR N gk n ds) : (gk = 0 ∧ n = 0 ∧ ds.length ≠ 0 ∧ ds = Ex.digF N) ∨ (∃ g, gk = g + 1 ∧ (0 < n ∨ ds.length = 0)) := by
  rcases h with ⟨h1, h2, h3, h4⟩ | ⟨f, h1, h2, _⟩
  · exact Or.inl ⟨h1, h2, fun e => h3 (List.eq_nil_of_length_eq_zero e), h4⟩
  · exact Or.inr ⟨f, h1, h2.imp id fun e => by rw [e]; rfl⟩
/-- a byte in a row of its own -/
theorem By.one {w : World} {base : Nat} (d : UInt8) (hb : base ≤ w.heap.size) : By (w.alloc (.cells #[.int .u8 (d.toNat : Int)] 5)) base (.slice (some ⟨w.heap.size, 0, none⟩) 1 1) [d] := by
  refine ⟨rfl, Or.inr ⟨w.heap.size, 1, #[.int .u8 (d.toNat : Int)], rfl, hb, heap_alloc_new w _, Nat.le_refl _, by unfold maxLen; omega, rfl, rfl⟩⟩
def StBelow (w : World) (l : List UInt8) (e : Ending) (w' : World) : Prop := e = .returned (.string ⟨l.toArray⟩) ∧ Below w.heap.size w w'
theorem chr_val (n : Nat) : ((UInt8.ofNat (48 + n % 10)).toNat : Int) = 48 + (n : Int) % 10 := by
  have h : 48 + n % 10 < 256 := by omega
  rw [UInt8.toNat_ofNat_of_lt' (by simpa using h)]
  omega
set_option maxRecDepth 100000 in
set_option maxHeartbeats 4000000 in
theorem digitsX_any (N : Nat) (w : World) (hN : N < 18446744073709551616) : Calls Tryz.prog 50 #[.int .u64 (N : Int)] w (StBelow w (Ex.digF N)) := by
  obtain ⟨i0, hi, hz0, hz1, hz2⟩ := info_parts infoU8
  have I0 : Hid (i0.zero = some (.int .u8 0) ∧ i0.size = 1 ∧ i0.bytes = 1 ∧ Tryz.prog.info? 5 = some i0) := ⟨hz0, hz1, hz2, hi⟩
  clear hz0 hz1 hz2 hi
  go_enter Tryz.func50, Tryz.ntmps50
  go_wp2_with fail
  go_loopg [0, 3] 21 (fun gk v0 v3 wr => ∃ (n : Nat) (ds : List UInt8), v0 = .int .u64 (n : Int) ∧ n < 18446744073709551616 ∧ ds.length + gk ≤ 21 ∧ Hid (DgR N gk n ds) ∧ Hid (By wr w.heap.size v3 ds) ∧ Hid (Below w.heap.size w wr))
  case atStart => exact ⟨N, [], rfl, hN, Nat.le_refl _, DgR.start N hN, World.ownsRow_nil _ _ _ _, Below.refl _ _⟩
  case round =>
    obtain ⟨n, ds, rfl, hn, hlen, HD, HB, HW⟩ := hrel
    obtain ⟨A, m, c, rfl⟩ := ownsRow_is HB.out
    have hm : m = ds.length := by
      rcases row_kinds HB.out with ⟨e, h0⟩ | ⟨g, c', e, _⟩
      · simp only [Value.slice.injEq] at e; omega
      · simp only [Value.slice.injEq] at e; exact e.2.1
    subst hm
    rcases HD.out.go with ⟨rfl, rfl, hne, hds⟩ | ⟨g, rfl, hgo⟩
    · have E := Lib.hid hds
      have hnei : ¬ ((ds.length : Int) = 0) := by omega
      clear hds
      have hbk := HB.out.back
      go_wp2_with fail
      refine bodyPost_ret (v := .string ⟨ds.toArray⟩) (by simp [results, Tryz.results50, go_sem]) rfl ?_
      rw [E.out]
      exact ⟨rfl, HW.out⟩
    · have HG := Lib.hid hgo
      obtain ⟨g', hg', hst⟩ := HD.out.step
      have hch := chr_val n
      generalize UInt8.ofNat (48 + n % 10) = d at *
      have ST := Lib.hid hst
      have HR := Lib.hid (Reads.of_own HB.out)
      have BO : Hid (By (wr.alloc (.cells #[.int .u8 (d.toNat : Int)] 5)) w.heap.size (.slice (some ⟨wr.heap.size, 0, none⟩) 1 1) [d]) := By.one _ HW.out.size
      have B2 := Lib.hid (HW.out.trans ((nd_below wr (.cells #[.int .u8 (d.toNat : Int)] 5)).mono HW.out.size))
      have HR2 := Lib.hid (HR.out.alloc (Nat.le_refl _) (.cells #[.int .u8 (d.toNat : Int)] 5))
      rw [hch] at BO B2 HR2
      have hone := Lib.hid (byC_one ds)
      have hmod : ((n : Int).tmod 10) = (n : Int) % 10 := by rw [Int.tmod_eq_emod_of_nonneg (by omega)]
      have hdiv : ((n : Int).tdiv 10) = ((n / 10 : Nat) : Int) := by rw [Int.tdiv_eq_ediv_of_nonneg (by omega)]; rfl
      have hsz : Hid (w.heap.size ≤ wr.heap.size + 1) := by show _ ≤ _; have := HW.out.size; omega
      clear hch hgo hst HD
      by_cases h0 : 0 < n
      · have h0i : (0 : Int) < n := by omega
        go_wp2_with (at_builtin; refine wpList_append_any _ rfl (.tmp 15) (.tmp 16) 81 rfl w.heap.size 5 i0 (.int .u8 0) 1 1 Tryz.underlying81 I0.out.2.2.2 I0.out.1 I0.out.2.1 I0.out.2.2.1 rfl (by decide) _ 1 (byC [d]) rfl BO.out wr.heap.size A ds.length c (byC ds) rfl HR2.out hone.out (by unfold maxLen; omega) (by omega) (by simpa using hsz.out) ?_)
        intro v' w5 own5 grow5 _
        have O5 : Hid (By w5 w.heap.size v' (d :: ds)) := by
          show World.ownsRow _ _ _ _ _ _ _
          rw [List.length_cons, Nat.add_comm ds.length 1]
          exact own5
        have B5 := Lib.hid (below_pushed B2.out BO.out grow5 (Nat.le_refl _))
        clear own5 grow5
        go_wp2_with fail
        go_roundg g'
        case measure => omega
        case rel => exact ⟨n / 10, _, by go_num, by omega, by simp only [List.length_cons]; omega, ST, O5, B5⟩
      · have h0i : ¬ (0 : Int) < n := by omega
        have hl0 : (ds.length : Int) = 0 := by
          have := HG.out
          omega
        go_wp2_with (at_builtin; refine wpList_append_any _ rfl (.tmp 15) (.tmp 16) 81 rfl w.heap.size 5 i0 (.int .u8 0) 1 1 Tryz.underlying81 I0.out.2.2.2 I0.out.1 I0.out.2.1 I0.out.2.2.1 rfl (by decide) _ 1 (byC [d]) rfl BO.out wr.heap.size A ds.length c (byC ds) rfl HR2.out hone.out (by unfold maxLen; omega) (by omega) (by simpa using hsz.out) ?_)
        intro v' w5 own5 grow5 _
        have O5 : Hid (By w5 w.heap.size v' (d :: ds)) := by
          show World.ownsRow _ _ _ _ _ _ _
          rw [List.length_cons, Nat.add_comm ds.length 1]
          exact own5
        have B5 := Lib.hid (below_pushed B2.out BO.out grow5 (Nat.le_refl _))
        clear own5 grow5
        go_wp2_with fail
        go_roundg g'
        case measure => omega
        case rel => exact ⟨n / 10, _, by go_num, by omega, by simp only [List.length_cons]; omega, ST, O5, B5⟩
end Go.Proofs.YtmbfpichaaanpaaGreatDoor

/-! Expressions printed: a number. -/
namespace Go.Proofs.YtmbfpichaaanpaaGreatDoor
open Go.RowKit Ut Rx Mt

def flX : Ex.Fl := ⟨ofS, wholeS, wholeB⟩
theorem hexF_succ (k v : Nat) : Ex.hexF (k + 1) v = Ex.hexF k (v / 16) ++ [Ex.hexD (v % 16)] := rfl
/-- the text so far -/
def hxT (k : Nat) (ds : List UInt8) : List UInt8 := 35 :: (List.replicate k 48 ++ ds)
theorem hxT_set (k : Nat) (ds : List UInt8) (c : UInt8) : (hxT (k + 1) ds).set (k + 1) c = hxT k (c :: ds) := by
  unfold hxT
  rw [List.set_cons_succ, List.replicate_succ', List.append_assoc]
  congr 1
  rw [List.set_append_right _ _ (by simp)]
  simp
theorem hxT_len (k : Nat) (ds : List UInt8) : (hxT k ds).length = k + ds.length + 1 := by unfold hxT; simp
theorem byC_set (l : List UInt8) (k : Nat) (c : UInt8) : (byC l).set k (.int .u8 (c.toNat : Int)) = byC (l.set k c) := by
  unfold byC
  rw [List.map_set]
theorem hexD_at (d : Nat) (hd : d < 16) (h : d < (⟨#[48, 49, 50, 51, 52, 53, 54, 55, 56, 57, 97, 98, 99, 100, 101, 102]⟩ : ByteArray).size) : ((⟨#[48, 49, 50, 51, 52, 53, 54, 55, 56, 57, 97, 98, 99, 100, 101, 102]⟩ : ByteArray)[d]'h) = Ex.hexD d := by
  match d, hd, h with
  | 0, _, _ => exact rfl
  | 1, _, _ => exact rfl
  | 2, _, _ => exact rfl
  | 3, _, _ => exact rfl
  | 4, _, _ => exact rfl
  | 5, _, _ => exact rfl
  | 6, _, _ => exact rfl
  | 7, _, _ => exact rfl
  | 8, _, _ => exact rfl
  | 9, _, _ => exact rfl
  | 10, _, _ => exact rfl
  | 11, _, _ => exact rfl
  | 12, _, _ => exact rfl
  | 13, _, _ => exact rfl
  | 14, _, _ => exact rfl
  | 15, _, _ => exact rfl
  | d + 16, hd, _ => exact absurd hd (by omega)
theorem drewN_low {w w' : World} (h : ∃ k, w' = w.drewN k) : Below w.heap.size w w' := by
  obtain ⟨k, rfl⟩ := h
  exact ⟨rfl, rfl, rfl, Nat.le_refl _, fun _ _ => rfl⟩
/-- is it printed as a whole number? -/
def whoB (v : Nat) : Bool := wholeB v && decide (0 ≤ wholeS v) && decide (wholeS v ≤ 9007199254740992) && decide (ofS (wholeS v) = v)
theorem numE_eq (v : Nat) : Ex.numE flX v = if whoB v then Ex.digF (wholeS v).toNat else 35 :: Ex.hexF 16 v := by
  unfold Ex.numE whoB flX
  simp only [Bool.and_eq_true, decide_eq_true_eq, and_assoc]
set_option maxRecDepth 100000 in
set_option maxHeartbeats 4000000 in
theorem numberX_any (v : Nat) (w : World) (hv : v < 18446744073709551616) : Calls Tryz.prog 48 #[.int .u64 (v : Int)] w (StBelow w (Ex.numE flX v)) := by
  obtain ⟨res, hres⟩ : ∃ r, r = Ex.numE flX v := ⟨_, rfl⟩
  rw [← hres]
  have HR := Lib.hid (hres.trans (numE_eq v))
  clear hres
  have WH := Lib.hid (realWhole_any v hv w)
  have HB : Hid (whoB v = (wholeB v && decide (0 ≤ wholeS v) && decide (wholeS v ≤ 9007199254740992) && decide (ofS (wholeS v) = v))) := rfl
  unfold ToldWhole at WH
  generalize wholeB v = wb at *
  generalize wholeS v = ws at *
  generalize whoB v = b at *
  go_enter Tryz.func48, Tryz.ntmps48
  go_wp2_with fail
  refine WH.out.mono ?_
  rintro e w1 ⟨rfl, hw1⟩
  have B1 := Lib.hid (drewN_low hw1)
  clear WH hw1
  go_upto_region 2 with fail
  go_cut [26] (fun v26 wx => v26 = .bool b ∧ wx = w1)
  case first =>
    cases wb with
    | false =>
      have E : Hid (b = false) := by show _ = _; rw [HB.out]; rfl
      go_wp2_with fail
      go_meet
      case rel => exact ⟨by rw [E.out], rfl⟩
    | true =>
      by_cases h0 : 0 ≤ ws
      · by_cases h1 : ws ≤ 9007199254740992
        · have E : Hid (b = decide (ofS ws = v)) := by show _ = _; rw [HB.out, decide_eq_true h0, decide_eq_true h1]; rfl
          go_wp2_with fail
          refine (of_any ws w1).mono ?_
          rintro e w2 ⟨rfl, rfl⟩
          generalize ofS ws = ov at *
          by_cases hq : ov = v
          · have hqb : ((ov : Int) == (v : Int)) = true := by rw [hq]; simp
            have E2 : Hid (b = true) := by show _ = _; rw [E.out, decide_eq_true hq]
            clear hq
            go_wp2_with fail
            go_meet
            case rel => exact ⟨by rw [E2.out], rfl⟩
          · have hqb : ((ov : Int) == (v : Int)) = false := by simp only [beq_eq_false_iff_ne, ne_eq]; omega
            have E2 : Hid (b = false) := by show _ = _; rw [E.out, decide_eq_false hq]
            clear hq
            go_wp2_with fail
            go_meet
            case rel => exact ⟨by rw [E2.out], rfl⟩
        · have E : Hid (b = false) := by show _ = _; rw [HB.out, decide_eq_false h1]; simp
          go_wp2_with fail
          go_meet
          case rel => exact ⟨by rw [E.out], rfl⟩
      · have E : Hid (b = false) := by show _ = _; rw [HB.out, decide_eq_false h0]; simp
        go_wp2_with fail
        go_meet
        case rel => exact ⟨by rw [E.out], rfl⟩
  case rest =>
    obtain ⟨rfl, hwx⟩ := hcut
    obtain rfl := hwx
    cases hb : b with
    | true =>
      have HB2 := HB.out
      rw [hb] at HB2
      simp only [Bool.true_eq, Bool.and_eq_true, decide_eq_true_eq] at HB2
      obtain ⟨⟨⟨_, h0⟩, h1⟩, _⟩ := HB2
      have E : Hid (res = Ex.digF ws.toNat) := by show _ = _; rw [HR.out, hb]; rfl
      have DG := Lib.hid (digitsX_any ws.toNat wc (by omega))
      rw [show ((ws.toNat : Nat) : Int) = ws from by omega] at DG
      have hwr : IntKind.u64.wrap ws = ws := IntWalk.u64_in _ (by omega)
      clear HB HR
      go_wp2_with fail
      refine DG.out.mono ?_
      rintro e w2 ⟨rfl, b2⟩
      have B2 := Lib.hid (B1.out.trans (b2.mono B1.out.size))
      go_wp2_with fail
      refine bodyPost_ret (v := .string ⟨(Ex.digF ws.toNat).toArray⟩) (by simp [results, Tryz.results48, go_sem]) rfl ?_
      rw [E.out]
      exact ⟨rfl, B2.out⟩
    | false =>
      have E : Hid (res = 35 :: Ex.hexF 16 v) := by show _ = _; rw [HR.out, hb]; rfl
      clear HB HR
      have hcv : (convert 81 81 (.slice (some ⟨wc.heap.size, 0, none⟩) 17 17)).run Tryz.prog (wc.alloc (.cells #[.int .u8 35, .int .u8 48, .int .u8 48, .int .u8 48, .int .u8 48, .int .u8 48, .int .u8 48, .int .u8 48, .int .u8 48, .int .u8 48, .int .u8 48, .int .u8 48, .int .u8 48, .int .u8 48, .int .u8 48, .int .u8 48, .int .u8 48] 5)) = .ok (.slice (some ⟨wc.heap.size, 0, none⟩) 17 17) (wc.alloc (.cells #[.int .u8 35, .int .u8 48, .int .u8 48, .int .u8 48, .int .u8 48, .int .u8 48, .int .u8 48, .int .u8 48, .int .u8 48, .int .u8 48, .int .u8 48, .int .u8 48, .int .u8 48, .int .u8 48, .int .u8 48, .int .u8 48, .int .u8 48] 5 (17, 18))) := Lib.run_convert_bytes_const wc _ 5 #[.int .u8 35, .int .u8 48, .int .u8 48, .int .u8 48, .int .u8 48, .int .u8 48, .int .u8 48, .int .u8 48, .int .u8 48, .int .u8 48, .int .u8 48, .int .u8 48, .int .u8 48, .int .u8 48, .int .u8 48, .int .u8 48, .int .u8 48] 17 17 Tryz.underlying81 Tryz.underlying5
      have HH0 : Hid ((wc.alloc (.cells #[.int .u8 35, .int .u8 48, .int .u8 48, .int .u8 48, .int .u8 48, .int .u8 48, .int .u8 48, .int .u8 48, .int .u8 48, .int .u8 48, .int .u8 48, .int .u8 48, .int .u8 48, .int .u8 48, .int .u8 48, .int .u8 48, .int .u8 48] 5 (17, 18))).heap[wc.heap.size]? = some (.cells (byC (hxT 16 [])).toArray 5 (17, 18))) := heap_alloc_new wc _
      have BB0 := Lib.hid (B1.out.trans ((nd_below wc (.cells #[.int .u8 35, .int .u8 48, .int .u8 48, .int .u8 48, .int .u8 48, .int .u8 48, .int .u8 48, .int .u8 48, .int .u8 48, .int .u8 48, .int .u8 48, .int .u8 48, .int .u8 48, .int .u8 48, .int .u8 48, .int .u8 48, .int .u8 48] 5 (17, 18))).mono B1.out.size))
      go_upto_region 5 with fail
      obtain ⟨nb, hnb⟩ : ∃ n, n = wc.heap.size := ⟨_, rfl⟩
      obtain ⟨w2, hw2⟩ : ∃ x, x = wc.alloc (.cells #[.int .u8 35, .int .u8 48, .int .u8 48, .int .u8 48, .int .u8 48, .int .u8 48, .int .u8 48, .int .u8 48, .int .u8 48, .int .u8 48, .int .u8 48, .int .u8 48, .int .u8 48, .int .u8 48, .int .u8 48, .int .u8 48, .int .u8 48] 5 (17, 18)) := ⟨_, rfl⟩
      rw [← hw2] at HH0 BB0 ⊢
      rw [← hnb] at HH0 ⊢
      have hnw : w.heap.size ≤ nb := by rw [hnb]; exact B1.out.size
      clear hw2 hcv hnb
      go_wp2_with fail
      go_loopg [0, 6] 16 (fun gk v0 v6 wr => ∃ (n : Nat) (ds : List UInt8), v0 = .int .u64 (n : Int) ∧ v6 = .int .i64 (gk : Int) ∧ n < 18446744073709551616 ∧ gk ≤ 16 ∧ ds.length + gk = 16 ∧ Hid (Ex.hexF gk n ++ ds = Ex.hexF 16 v) ∧ Hid (wr.heap[nb]? = some (.cells (byC (hxT gk ds)).toArray 5 (17, 18))) ∧ Hid (Below w.heap.size w wr))
      case atStart => exact ⟨v, [], rfl, rfl, hv, Nat.le_refl _, rfl, by show _ = _; rw [List.append_nil], HH0, BB0⟩
      case round =>
        obtain ⟨n, ds, rfl, rfl, hn, hk, hl, HD, HH, HW⟩ := hrel
        clear HH0 BB0
        cases gk with
        | zero =>
          have E2 : Hid (res = 35 :: ds) := by
            show _ = _
            rw [E.out, ← HD.out]
            rfl
          have hbk : (convert 81 9 (.slice (some ⟨nb, 0, none⟩) 17 17)).run Tryz.prog wr = .ok (.string ⟨(35 :: ds).toArray⟩) wr := by
            have hl2 : (35 :: ds : List UInt8).length = 17 := by simp; omega
            have := run_convert_bytes_back (P := Tryz.prog) wr 81 9 5 ⟨nb, 0, none⟩ 17 (35 :: ds) (by kernel_rfl) (by kernel_rfl) (by kernel_rfl) (fun j hj => by
              have := Joins.cell_of_block HH.out j
              rw [show (⟨nb, 0, none⟩ : Addr).add j = ⟨nb, j, none⟩ from by cases j <;> simp [Addr.add]]
              rw [this, List.getElem?_toArray]
              show (byC (35 :: ds))[j]? = _
              unfold byC
              rw [List.getElem?_map, List.getElem?_eq_getElem hj]
              rfl)
            rw [hl2] at this
            exact this
          go_wp2_with fail
          refine bodyPost_ret (v := .string ⟨(35 :: ds).toArray⟩) (by simp [results, Tryz.results48, go_sem]) rfl ?_
          rw [E2.out]
          exact ⟨rfl, HW.out⟩
        | succ k =>
          have hh := Lib.hid HH.out
          have ck := Joins.cell_of_block HH.out (k + 1)
          rw [show ((byC (hxT (k + 1) ds)).toArray)[k + 1]? = some (.int .u8 48) from by
            rw [List.getElem?_toArray]
            unfold byC hxT
            rw [List.getElem?_map, List.getElem?_cons_succ, List.getElem?_append_left (by simp), List.getElem?_replicate, if_pos (Nat.lt_succ_self k)]
            rfl] at ck
          have fz : wr.frozen? ⟨nb, k + 1, none⟩ = false := by
            unfold World.frozen?
            rw [HH.out]
            simp
            omega
          have HX := Lib.hid (hexD_at (n % 16) (Nat.mod_lt _ (by decide)))
          have HN2 : Hid (((wr.setCell ⟨nb, k + 1, none⟩ (.int .u8 ((Ex.hexD (n % 16)).toNat : Int))).heap[nb]? = some (.cells (byC (hxT k (Ex.hexD (n % 16) :: ds))).toArray 5 (17, 18)))) := by
            have := Joins.block_setCell (i := k + 1) HH.out (.int .u8 ((Ex.hexD (n % 16)).toNat : Int))
            show _ = _
            rw [this, ← hxT_set, ← byC_set]
            simp
          have HW2 : Hid (Below w.heap.size w (wr.setCell ⟨nb, k + 1, none⟩ (.int .u8 ((Ex.hexD (n % 16)).toNat : Int)))) := below_grown HW.out (grown_setCell wr nb (k + 1) _) hnw
          have HD2 : Hid (Ex.hexF k (n / 16) ++ (Ex.hexD (n % 16) :: ds) = Ex.hexF 16 v) := by
            show _ = _
            rw [← HD.out, hexF_succ]
            simp
          have hmod : ((n : Int).tmod 16) = ((n % 16 : Nat) : Int) := by rw [Int.tmod_eq_emod_of_nonneg (by omega)]; rfl
          have hdiv : ((n : Int).tdiv 16) = ((n / 16 : Nat) : Int) := by rw [Int.tdiv_eq_ediv_of_nonneg (by omega)]; rfl
          have hm16 : n % 16 < 16 := Nat.mod_lt _ (by decide)
          go_wp2_with fail
          rw [HX.out]
          go_roundg k
          case measure => omega
          case rel => exact ⟨n / 16, _, by go_num, rfl, by omega, by omega, by simp only [List.length_cons]; omega, HD2, HN2, HW2⟩
end Go.Proofs.YtmbfpichaaanpaaGreatDoor
