import Derived.Test.YtmbfpichaaanpaaGreatDoorX13
/-! Matchers made ready. -/
namespace Go.Proofs.YtmbfpichaaanpaaGreatDoor
open Go.RowKit Ut Rx Mt

/-- a slice of matchers, in whatever memory -/
def Ms (w : World) (v : Value) (l : List M) : Prop :=
  ∃ A c, v = .slice A l.length c ∧ l.length * 40 ≤ 140737488351232 ∧ (l ≠ [] → ∃ b off, A = some ⟨b, off, none⟩ ∧ ∀ i (h : i < l.length), w.cell? ⟨b, off + i * 3, none⟩ = some (.int .i64 (l[i]'h).k) ∧ w.cell? ⟨b, off + i * 3 + 1, none⟩ = some (.string (l[i]'h).n) ∧ w.cell? ⟨b, off + i * 3 + 2, none⟩ = some (.string (l[i]'h).v))
theorem Ms.below {w w' : World} {v : Value} {l : List M} (h : Ms w v l) (b : Below w.heap.size w w') : Ms w' v l := by
  obtain ⟨A, c, e, hb, hl⟩ := h
  refine ⟨A, c, e, hb, fun hne => ?_⟩
  obtain ⟨bb, off, ea, hc⟩ := hl hne
  refine ⟨bb, off, ea, fun i hi => ?_⟩
  obtain ⟨c0, c1, c2⟩ := hc i hi
  have lt : bb < w.heap.size := World.block_lt_of_cell? w _ c0
  exact ⟨(b.cell (p := ⟨bb, off + i * 3, none⟩) lt).trans c0, (b.cell (p := ⟨bb, off + i * 3 + 1, none⟩) lt).trans c1, (b.cell (p := ⟨bb, off + i * 3 + 2, none⟩) lt).trans c2⟩

def asC (qs : List (M × Option Addr)) : List Value := qs.flatMap fun a => [.int .i64 a.1.k, .string a.1.n, .string a.1.v, .pointer a.2]
theorem asC_append (a b : List (M × Option Addr)) : asC (a ++ b) = asC a ++ asC b := by unfold asC; exact List.flatMap_append
/-- matchers made ready, in a row of their own -/
def AsR (w : World) (base : Nat) (v : Value) (qs : List (M × Option Addr)) : Prop :=
  w.ownsRow base 93 4 v qs.length (asC qs) ∧ ∃ g, v.ownBlock = some g ∧ ∀ a ∈ qs, AskAt g w a.1 (.pointer a.2)
theorem AsR.below {w w' : World} {base : Nat} {v : Value} {qs : List (M × Option Addr)} (h : AsR w base v qs) (b : Below w.heap.size w w') : AsR w' base v qs := by
  obtain ⟨h1, g, hg, ha⟩ := h
  exact ⟨h1.kept (row := none) ⟨b.os, b.tape, b.output, b.size, fun k hk _ => b.block k hk⟩ (by cases v.ownBlock <;> simp), g, hg, fun a h => (ha a h).below b⟩
theorem AskAt.regrown {g : Nat} {w w' : World} {m : M} {x : Value} (h : AskAt g w m x) (b : w.grownBy w' (some g)) : AskAt w.heap.size w' m x :=
  ⟨h.1, fun h3 => let ⟨p, lo, hi, e, hx, a⟩ := h.2 h3; ⟨p, lo, hi, e, hx.grown b a, Or.inr hx.1⟩⟩
theorem AsR.pushed {w w4 w5 : World} {base n0 : Nat} {v v' : Value} {qs : List (M × Option Addr)} {a : M} {px : Option Addr} (h : AsR w base v qs) (hn : ∀ g, v.ownBlock = some g → g < n0) (hask : ∀ g, g < n0 → AskAt g w a (.pointer px)) (b : Below w.heap.size w w4)
    (gr : w4.grownBy w5 v.ownBlock) (own : w5.ownsRow base 93 4 v' (qs.length + 1) (asC qs ++ [.int .i64 a.k, .string a.n, .string a.v, .pointer px])) (at_ : v'.ownBlock = v.ownBlock ∨ v'.ownBlock = some w4.heap.size) : AsR w5 base v' (qs ++ [(a, px)]) := by
  obtain ⟨h1, g, hg, ha⟩ := h
  have all4 : ∀ q ∈ qs ++ [(a, px)], AskAt g w4 q.1 (.pointer q.2) := fun q hq => by
    rcases List.mem_append.1 hq with hq | hq
    · exact (ha q hq).below b
    · have e := pair_list hq
      subst e
      exact (hask g (hn g hg)).below b
  rw [hg] at gr at_
  refine ⟨?_, ?_⟩
  · rw [asC_append, List.length_append]; exact own
  · rcases at_ with e | e
    · exact ⟨g, e, fun q hq => (all4 q hq).grown gr⟩
    · exact ⟨_, e, fun q hq => (all4 q hq).regrown gr⟩

set_option maxRecDepth 100000 in
theorem infoAs : (Tryz.prog.info? 93).map (fun i => (i.zero, i.size, i.bytes)) = some (some (.agg #[.int .i64 0, .string ⟨#[]⟩, .string ⟨#[]⟩, .pointer none]), 4, 48) := by kernel_rfl
def az (n : Nat) : Array Value := madeCells (Value.agg #[.int .i64 0, .string ⟨#[]⟩, .string ⟨#[]⟩, .pointer none]).cells (n * 4)
theorem run_mk0 (n : Nat) (hn : n ≤ 16) (w : World) : (Instr.makeSlice 73 (.int .i64 0) (.int .i64 (n : Int))).run Tryz.prog w = .ok (.slice (some ⟨w.heap.size, 0, none⟩) 0 n) (w.alloc (.cells (az n) 93)) := by
  obtain ⟨i0, hi, hz0, hz1, hz2⟩ := info_parts infoAs
  have := run_make (P := Tryz.prog) w 73 93 i0 (.agg #[.int .i64 0, .string ⟨#[]⟩, .string ⟨#[]⟩, .pointer none]) Tryz.underlying73 hi hz0 .i64 .i64 0 n (by omega) (by omega) (by rw [hz2]; omega) (by omega)
  rw [this, hz1]
  simp [az]
theorem mk0_row (n : Nat) (hn : n ≤ 16) (w : World) : AsR (w.alloc (.cells (az n) 93)) w.heap.size (.slice (some ⟨w.heap.size, 0, none⟩) 0 n) [] :=
  ⟨World.ownsRow_made w (az n) n (Nat.le_refl _) (by unfold maxLen; omega) (size_madeCells _ _), _, rfl, fun a ha => by cases ha⟩

theorem news4 (w : World) (b : Nat) (x y z u : Value) (hb : b = w.heap.size) {t : TypeId} : ∀ j v, [x, y, z, u][j]? = some v → (w.alloc (.cells #[x, y, z, u] t)).cell? ((⟨b, 0, none⟩ : Addr).add j) = some v := by
  intro j v hv
  subst hb
  match j with
  | 0 => simp at hv; subst hv; exact World.cell?_alloc_at _ _ _ _ rfl
  | 1 => simp at hv; subst hv; exact World.cell?_alloc_at _ _ _ _ rfl
  | 2 => simp at hv; subst hv; exact World.cell?_alloc_at _ _ _ _ rfl
  | 3 => simp at hv; subst hv; exact World.cell?_alloc_at _ _ _ _ rfl
  | j + 4 => simp at hv
theorem one4 (k : Int) (n v : ByteArray) (px : Option Addr) : ∀ u ∈ [Value.int .i64 k, .string n, .string v, .pointer px], u.oneCell' = true := by
  intro u hu
  simp only [List.mem_cons, List.not_mem_nil, or_false] at hu
  rcases hu with rfl | rfl | rfl | rfl <;> rfl

def ReadyPost (w : World) (l : List M) (e : Ending) (w' : World) : Prop :=
  Below w.heap.size w w' ∧ ((rightF l = 0 ∧ ∃ v qs, e = .returned (.tuple #[v, .int .i64 0]) ∧ qs.map (·.1) = l ∧ AsR w' w.heap.size v qs) ∨ (rightF l ≠ 0 ∧ e = .returned (.tuple #[.slice none 0 0, .int .i64 (rightF l)])))

set_option maxRecDepth 100000 in
set_option maxHeartbeats 4000000 in
theorem ready_any (l : List M) (lv : Value) (w : World) (hl : Ms w lv l) (hT : Lib.Utf8Tabs 6 7 w) (hw : 8 ≤ w.heap.size) :
    Calls Tryz.prog 66 #[lv] w (ReadyPost w l) := by
  have HT := Lib.hid hT
  have HL := Lib.hid hl
  clear hT
  obtain ⟨A, c, rfl, hbig, hcells⟩ := hl
  by_cases h16 : l.length > 16
  · have E : Hid (rightF l = 3) := by show _ = _; unfold rightF; rw [if_pos h16]
    have h16i : (16 : Int) < l.length := by omega
    clear hcells
    go_enter Tryz.func66, Tryz.ntmps66
    go_wp2_with fail
    exact bodyPost_ret (v := .tuple #[.slice none 0 0, .int .i64 3]) (by simp [results, Tryz.results66, go_sem]) rfl ⟨Below.refl _ _, Or.inr ⟨by rw [E.out]; decide, by rw [E.out]⟩⟩
  · have E : Hid (rightF l = readyGo l false) := by show _ = _; unfold rightF; rw [if_neg h16]
    have h16i : ¬ (16 : Int) < l.length := by omega
    have hmk := run_mk0 l.length (by omega) w
    obtain ⟨i0, hi, hz0, hz1, hz2⟩ := info_parts infoAs
    have I0 : Hid (i0.zero = some (.agg #[.int .i64 0, .string ⟨#[]⟩, .string ⟨#[]⟩, .pointer none]) ∧ i0.size = 4 ∧ i0.bytes = 48 ∧ Tryz.prog.info? 93 = some i0) := ⟨hz0, hz1, hz2, hi⟩
    have AR0 := Lib.hid (mk0_row l.length (by omega) w)
    have B0 : Hid (Below w.heap.size w (w.alloc (.cells (az l.length) 93))) := (Below.refl _ _).alloc (Nat.le_refl _) _
    have HC := Lib.hid hcells
    clear hz0 hz1 hz2 hi hcells
    go_enter Tryz.func66, Tryz.ntmps66
    go_wp2_with fail
    go_loopg [4, 5, 18] l.length (fun gk vo vs vk wr => ∃ (k : Nat) (qs : List (M × Option Addr)) (st : Bool), vk = .int .i64 k ∧ k + gk = l.length ∧ vs = .bool st ∧ Hid (qs.map (·.1) = l.take k) ∧ Hid (readyGo (l.drop k) st = readyGo l false) ∧ Hid (Below w.heap.size w wr) ∧ Hid (AsR wr w.heap.size vo qs))
    case atStart => exact ⟨0, [], false, rfl, by omega, rfl, by show _ = _; simp, by show _ = _; simp, B0, AR0⟩
    case round =>
      obtain ⟨k, qs, st, rfl, hk, rfl, HA, HR, HB, HO⟩ := hrel
      clear AR0 B0 hmk
      by_cases hlt : k < l.length
      · obtain ⟨b, off, rfl, hc⟩ := HC.out (fun e => by rw [e] at hlt; simp at hlt)
        obtain ⟨c0', c1', c2'⟩ := hc k hlt
        have lb : b < w.heap.size := World.block_lt_of_cell? w _ c0'
        have c0 := (HB.out.cell (p := ⟨b, off + k * 3, none⟩) lb).trans c0'
        have c1 := (HB.out.cell (p := ⟨b, off + k * 3 + 1, none⟩) lb).trans c1'
        have c2 := (HB.out.cell (p := ⟨b, off + k * 3 + 2, none⟩) lb).trans c2'
        have HD : Hid (l.drop k = ⟨(l[k]'hlt).k, (l[k]'hlt).n, (l[k]'hlt).v⟩ :: l.drop (k + 1)) := List.drop_eq_getElem_cons hlt
        have HTk : Hid (l.take (k + 1) = l.take k ++ [⟨(l[k]'hlt).k, (l[k]'hlt).n, (l[k]'hlt).v⟩]) := List.take_succ_eq_append_getElem hlt
        clear hc c0' c1' c2' HC
        generalize (l[k]'hlt).k = mk at *
        generalize (l[k]'hlt).n = mn at *
        generalize (l[k]'hlt).v = mv at *
        have AK := Lib.hid (ask_any mk mn mv (wr.alloc (.cells #[.int .i64 mk, .string mn, .string mv] 42)) (tabs_below HT.out (HB.out.alloc HB.out.size _)) (Nat.le_trans hw (HB.out.alloc HB.out.size _).size))
        go_wp2_with fail
        refine AK.out.mono ?_
        rintro e w2 ⟨hb2, h2⟩
        have B2 : Hid (Below w.heap.size w w2) := (HB.out.alloc HB.out.size _).trans (hb2.mono (HB.out.alloc HB.out.size _).size)
        have B2r : Hid (Below wr.heap.size wr w2) := ((Below.refl _ _).alloc (Nat.le_refl _) _).trans (hb2.mono (by simp))
        rcases h2 with ⟨hz, px, rfl, hask⟩ | ⟨hnz, rfl⟩
        · have HZ := Lib.hid hz
          have R2 : Hid (readyGo (l.drop (k + 1)) (st || !passF ⟨mk, mn, mv⟩ ⟨#[]⟩) = readyGo l false) := by
            have := HR.out
            rw [HD.out, readyGo, if_pos hz] at this
            exact this
          have ASK := Lib.hid hask
          obtain ⟨hk1, hk4, _, _⟩ := checkF_ok hz
          clear hz hask hb2 HD HR AK c0 c1 c2
          have OW := Lib.hid (fun (o o' : Obj) => ((HO.out.below B2r.out).1.alloc o).alloc o')
          have SZ := Lib.hid B2.out.size
          have lq : qs.length = k := by have := congrArg List.length HA.out; rw [List.length_map, List.length_take] at this; omega
          go_wp2_with (at_builtin; refine wpList_append_own_at _ rfl (.tmp 30) (.tmp 32) 73 rfl w.heap.size 93 i0 (.agg #[.int .i64 0, .string ⟨#[]⟩, .string ⟨#[]⟩, .pointer none]) 4 48 Tryz.underlying73 I0.out.2.2.2 I0.out.1 I0.out.2.1 I0.out.2.2.1 rfl (by decide) _ qs.length _ rfl (OW.out _ _) _ 1 1 [.int .i64 mk, .string mn, .string mv, .pointer px] rfl rfl ?c1 ?c2 (by unfold maxLen; omega) (by omega) ?c3 ?_)
          case c1 => exact news4 _ _ _ _ _ _ (by simp)
          case c2 => exact one4 _ _ _ _
          case c3 => have := SZ.out; simp; omega
          intro v' w5 own5 grow5 _ at5
          have b4 : Below w2.heap.size w2 ((w2.alloc (.cells #[.int .i64 mk, .string mn, .string mv, .pointer px] 93)).alloc (.cells #[.int .i64 mk, .string mn, .string mv, .pointer px] 93)) := ((Below.refl _ _).alloc (Nat.le_refl _) _).alloc (by simp) _
          have hv4 : ((w2.alloc (.cells #[.int .i64 mk, .string mn, .string mv, .pointer px] 93)).alloc (.cells #[.int .i64 mk, .string mn, .string mv, .pointer px] 93)).heap[w2.heap.size]? = some (.cells #[.int .i64 mk, .string mn, .string mv, .pointer px] 93 (0, 0)) := by
            rw [heap_alloc_old _ _ (by simp)]; exact heap_alloc_new w2 _
          have B4 : Hid (Below w.heap.size w ((w2.alloc (.cells #[.int .i64 mk, .string mn, .string mv, .pointer px] 93)).alloc (.cells #[.int .i64 mk, .string mn, .string mv, .pointer px] 93))) := B2.out.trans (b4.mono B2.out.size)
          have S4 : ((w2.alloc (.cells #[.int .i64 mk, .string mn, .string mv, .pointer px] 93)).alloc (.cells #[.int .i64 mk, .string mn, .string mv, .pointer px] 93)).heap.size = w2.heap.size + 1 + 1 := by simp
          generalize ((w2.alloc (.cells #[.int .i64 mk, .string mn, .string mv, .pointer px] 93)).alloc (.cells #[.int .i64 mk, .string mn, .string mv, .pointer px] 93)) = w4 at *
          have P5 := Lib.hid ((HO.out.below B2r.out).pushed (a := ⟨mk, mn, mv⟩) (px := px) (fun g hg => by have := (HO.out.1.lt g hg).2; simp; omega) ASK.out b4 grow5 (show w5.ownsRow w.heap.size 93 4 v' (qs.length + 1) _ by rw [lq]; exact own5) (by rw [S4]; exact at5))
          obtain ⟨_, g, hg, _⟩ := HO.out
          have lg := (HO.out.1.lt g hg)
          rw [hg] at grow5
          have B5 := Lib.hid (below_grown B4.out grow5 lg.1)
          have hv5 := (grow5.block _ (Array.getElem?_eq_some_iff.1 hv4).1 (fun e => by have : w2.heap.size = g := Option.some.inj e; have := B2r.out.size; omega)).trans hv4
          have HA5 : Hid ((qs ++ [((⟨mk, mn, mv⟩ : M), px)]).map (·.1) = l.take (k + 1)) := by show _ = _; rw [List.map_append, HA.out, HTk.out]; rfl
          obtain ⟨y0, y1, y2, y3, _⟩ := cells4 hv5
          clear hv5 hv4 b4 B4 grow5 own5 at5 hg lg OW SZ ASK HTk HA HO HB B2 B2r
          cases st with
          | true =>
            go_wp2_with fail
            go_roundg (l.length - (k + 1))
            case measure => omega
            case rel => exact ⟨k + 1, _, true, by simp, by omega, rfl, HA5, by show _ = _; have := R2.out; simpa using this, B5, P5⟩
          | false =>
            obtain ⟨_, g, _, hq⟩ := P5.out
            have PA := Lib.hid (passes_any mk mn mv px ⟨#[]⟩ w5 (hq _ (List.mem_append_right _ (List.mem_singleton.2 rfl))).ok (by show 0 ≤ _; omega) hk1 hk4)
            clear hq hk1 hk4
            go_wp2_with fail
            refine PA.out.mono ?_
            rintro e w6 ⟨rfl, hb6⟩
            have B6 := Lib.hid (B5.out.trans (hb6.mono B5.out.size))
            have P6 := Lib.hid (P5.out.below hb6)
            clear hb6 P5 B5
            go_wp2_with fail
            go_roundg (l.length - (k + 1))
            case measure => omega
            case rel => exact ⟨k + 1, _, _, by simp, by omega, rfl, HA5, by show _ = _; have := R2.out; simpa using this, B6, P6⟩
        · have E2 : Hid (readyGo l false = checkF ⟨mk, mn, mv⟩) := by
            have := HR.out
            rw [HD.out, readyGo, if_neg hnz] at this
            exact this.symm
          have ER : Hid (rightF l = checkF ⟨mk, mn, mv⟩) := E.out.trans E2.out
          have HZ := Lib.hid hnz
          have hne : (checkF ⟨mk, mn, mv⟩ != 0) = true := by simpa using hnz
          clear hnz hb2 HD HR AK c0 c1 c2 HA HTk E E2
          generalize checkF ⟨mk, mn, mv⟩ = er at *
          go_wp2_with fail
          exact bodyPost_ret (v := .tuple #[.slice none 0 0, .int .i64 er]) (by simp [results, Tryz.results66, go_sem]) rfl ⟨B2.out.alloc B2.out.size _, Or.inr ⟨by rw [ER.out]; exact HZ.out, by rw [ER.out]⟩⟩
      · have hkl : k = l.length := by omega
        subst hkl
        have ER : Hid (rightF l = if st then 0 else 71) := by
          have := HR.out
          rw [List.drop_length, readyGo] at this
          exact E.out.trans this.symm
        have HA2 : Hid (qs.map (·.1) = l) := by show _ = _; rw [HA.out, List.take_length]
        clear HR HA E
        cases st with
        | true =>
          go_wp2_with fail
          exact bodyPost_ret (v := .tuple #[_, .int .i64 0]) (by simp [results, Tryz.results66, go_sem]) rfl ⟨HB.out, Or.inl ⟨ER.out, _, qs, rfl, HA2.out, HO.out⟩⟩
        | false =>
          go_wp2_with fail
          exact bodyPost_ret (v := .tuple #[.slice none 0 0, .int .i64 71]) (by simp [results, Tryz.results66, go_sem]) rfl ⟨HB.out, Or.inr ⟨by rw [ER.out]; decide, by rw [ER.out]; rfl⟩⟩
end Go.Proofs.YtmbfpichaaanpaaGreatDoor

/-! Labels looked up; matchers asked. -/
namespace Go.Proofs.YtmbfpichaaanpaaGreatDoor
open Go.RowKit Ut Rx Mt

/-- labels, in whatever memory -/
def Lb (w : World) (v : Value) (l : List L) : Prop :=
  ∃ A c, v = .slice A l.length c ∧ l.length * 40 ≤ 140737488351232 ∧ (∀ x ∈ l, x.v.size ≤ 900000) ∧ (l ≠ [] → ∃ b off, A = some ⟨b, off, none⟩ ∧ ∀ i (h : i < l.length), w.cell? ⟨b, off + i * 2, none⟩ = some (.string (l[i]'h).n) ∧ w.cell? ⟨b, off + i * 2 + 1, none⟩ = some (.string (l[i]'h).v))
theorem Lb.below {w w' : World} {v : Value} {l : List L} (h : Lb w v l) (b : Below w.heap.size w w') : Lb w' v l := by
  obtain ⟨A, c, e, hb, hs, hl⟩ := h
  refine ⟨A, c, e, hb, hs, fun hne => ?_⟩
  obtain ⟨bb, off, ea, hc⟩ := hl hne
  refine ⟨bb, off, ea, fun i hi => ?_⟩
  obtain ⟨c0, c1⟩ := hc i hi
  have lt : bb < w.heap.size := World.block_lt_of_cell? w _ c0
  exact ⟨(b.cell (p := ⟨bb, off + i * 2, none⟩) lt).trans c0, (b.cell (p := ⟨bb, off + i * 2 + 1, none⟩) lt).trans c1⟩
theorem getF_size {l : List L} (h : ∀ x ∈ l, x.v.size ≤ 900000) (n : List UInt8) : (getF l n).size ≤ 900000 := by
  induction l with
  | nil => show 0 ≤ _; omega
  | cons x t ih =>
    unfold getF
    split
    · exact h x (List.mem_cons_self ..)
    · exact ih fun y hy => h y (List.mem_cons_of_mem _ hy)
def StrBelow (w : World) (s : ByteArray) (e : Ending) (w' : World) : Prop := e = .returned (.string s) ∧ Below w.heap.size w w'



/-- the cells of a row -/
theorem asC_at : ∀ (qs : List (M × Option Addr)) (k : Nat) (h : k < qs.length), (asC qs)[k * 4]? = some (.int .i64 (qs[k]'h).1.k) ∧ (asC qs)[k * 4 + 1]? = some (.string (qs[k]'h).1.n) ∧ (asC qs)[k * 4 + 2]? = some (.string (qs[k]'h).1.v) ∧ (asC qs)[k * 4 + 3]? = some (.pointer (qs[k]'h).2)
  | [], k, h => by simp at h
  | q :: t, 0, h => ⟨rfl, rfl, rfl, rfl⟩
  | q :: t, k + 1, h => by
    have := asC_at t k (by simpa using h)
    have e : asC (q :: t) = [.int .i64 q.1.k, .string q.1.n, .string q.1.v, .pointer q.2] ++ asC t := rfl
    rw [e, List.getElem?_append_right (by simp; omega), List.getElem?_append_right (by simp; omega), List.getElem?_append_right (by simp; omega), List.getElem?_append_right (by simp; omega)]
    simp only [List.length_cons, List.length_nil, List.getElem_cons_succ]
    rw [show (k + 1) * 4 - (0 + 1 + 1 + 1 + 1) = k * 4 by omega, show (k + 1) * 4 + 1 - (0 + 1 + 1 + 1 + 1) = k * 4 + 1 by omega, show (k + 1) * 4 + 2 - (0 + 1 + 1 + 1 + 1) = k * 4 + 2 by omega, show (k + 1) * 4 + 3 - (0 + 1 + 1 + 1 + 1) = k * 4 + 3 by omega]
    exact this



theorem readyGo_ok : ∀ (l : List M) (st : Bool), readyGo l st = 0 → ∀ m ∈ l, checkF m = 0
  | [], _, _, m, h => by cases h
  | x :: t, st, hr, m, h => by
    unfold readyGo at hr
    split at hr
    · rename_i h0
      rcases List.mem_cons.1 h with rfl | h
      · exact h0
      · exact readyGo_ok t _ hr m h
    · rename_i h0; exact absurd hr h0
theorem right_ok {l : List M} (h : rightF l = 0) : ∀ m ∈ l, checkF m = 0 := by
  unfold rightF at h
  split at h
  · cases h
  · exact readyGo_ok l false h

set_option maxHeartbeats 2000000 in
theorem right_any (l : List M) (lv : Value) (w : World) (hl : Ms w lv l) (hT : Lib.Utf8Tabs 6 7 w) (hw : 8 ≤ w.heap.size) :
    Calls Tryz.prog 45 #[lv] w (IntBelow w (rightF l)) := by
  have R := Lib.hid (ready_any l lv w hl hT hw)
  clear hl hT hw
  go_enter Tryz.func45, Tryz.ntmps45
  go_wp2_with fail
  refine R.out.mono ?_
  rintro e w1 ⟨hb, h⟩
  rcases h with ⟨h0, v, qs, rfl, _, _⟩ | ⟨hn, rfl⟩
  · go_wp2_with fail
    go_ret
    rw [h0]
    exact ⟨rfl, hb⟩
  · go_wp2_with fail
    go_ret
    exact ⟨rfl, hb⟩




end Go.Proofs.YtmbfpichaaanpaaGreatDoor
