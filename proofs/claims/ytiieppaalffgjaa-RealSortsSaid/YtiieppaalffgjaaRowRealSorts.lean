/-
  RealSorts: for every input the law returns true, and its argument reads as before. No condition.
-/
import Derived.Test.YtiieppaalffgjaaW17
import Derived.WalkKit
import Derived.ProofKit
import Derived.OpenShut
import Derived.SizedLaws
namespace Go.Proofs.Ytiieppaalffgjaa.realSorts
open Go.ChangeShapes Go.WideShapes Go.ChangeAt Go.RowKit

theorem own : ownKnob Try.prog.godebug = none := by kernel_rfl
theorem laidOut : laidOutB Try.prog = true := by kernel_rfl
theorem cellsE : Try.prog.cellsOf 22 = 1 := by kernel_rfl
theorem bytesE : Try.prog.bytesOf 22 = 8 := by kernel_rfl

theorem walk (a : Option Addr) (cap : Nat) (ns : List Nat) (hreach : ns.length * 8 ≤ 140737488351232) (_hlt : ∀ x ∈ ns, x < 18446744073709551616) (W : World) (hc : ∀ q, Words (W.drewN q) a ns)
    (_hnil : a = none → cap = 0 ∧ ns = []) :
    Calls Try.prog 9 #[.slice a ns.length cap] W fun e w' => e = .returned (.bool true) ∧ Below W.heap.size W w' := by
  exact realSorts_walk a cap ns (by omega) W hc fun q => sort_all a cap ns hreach _hnil _ (hc q)

theorem nats_of (zs : List Int) (h : ∀ n ∈ zs, (Lit.int .u64 n).wf = true) : ∃ ns : List Nat, zs = ns.map Int.ofNat ∧ ∀ x ∈ ns, x < 18446744073709551616 := by
  induction zs with
  | nil => exact ⟨[], rfl, fun x hx => by cases hx⟩
  | cons z zs ih =>
    obtain ⟨n, hn, hb⟩ := u64_nat (h z (List.mem_cons_self ..))
    obtain ⟨ns, h1, h2⟩ := ih (fun x hx => h x (List.mem_cons_of_mem _ hx))
    refine ⟨n :: ns, by rw [h1, hn]; rfl, fun x hx => ?_⟩
    rcases List.mem_cons.1 hx with rfl | hx
    · exact hb
    · exact h2 x hx

set_option maxRecDepth 100000 in
theorem lifted (os : Os) (started : os.Started) (H : Type) (enc : TypeId × Value → H) :
    ReturnsInHanded {} Try.checked os 9 .any (Rows.realSortsSpec.pre6 enc Try.prog Try.f9 Rows.realSortsRow.domain false) (Rows.realSortsSpec.post enc Try.prog Try.f9 false true false false) := by
  refine returnsInHanded_of_change_sized (C := Try.checked) own started (by kernel_rfl) Try.func9
    (ChangeSpec.witness6 (enc := enc) (C := Try.checked) false ⟨#[], #[.slice none 0 0], []⟩ 8 (by kernel_rfl) (by kernel_rfl) (by kernel_rfl) (by kernel_rfl)) ?_
  intro W base args ds gs before hval0 hW _ hsz0 _
  have hsz : (DataW.weightsEach Try.prog (Try.f9.params.toList ++ Rows.realSortsSpec.plain.varTypes Try.prog) (ds ++ gs)).all (· ≤ reachBytes) = true := hsz0
  clear hsz0
  have hval : ∀ (j : Nat) t v, Try.f9.params[j]? = some t → args[j]? = some v → Value.okWide Try.prog W .any base t v := hval0
  have hW' := hW
  obtain ⟨p, q, hA0, hV, rfl, _, _⟩ := hW
  have hA : DataW.TrodAll enc Try.prog W 0 (fun _ => true) true Try.f9.params.toList args.toList ds p := hA0
  rw [Try.params9] at hA hval hsz
  obtain ⟨v0, d0, rfl, rfl, h0⟩ := trodAll_one hA
  obtain ⟨rfl, rfl⟩ := trodVars_none hV
  obtain ⟨a0, len, cap, rfl⟩ := okWide_slice Try.underlying30 (hval 0 30 v0 rfl rfl)
  have h0k := h0
  obtain ⟨fuel, hf⟩ := h0
  clear hA0 hval0
  simp only [List.append_nil] at hW'
  have hltp : ∀ x ∈ p, x.block < W.heap.size := fun x hx => by simpa using hW'.lt x hx
  have hargs : ∀ (W' : World), Below W.heap.size W W' → DataW.Trod enc Try.prog W' 0 (fun b => decide (b < W.heap.size)) true 30 (.slice a0 len cap) d0 p :=
    fun W' hn => Below.trod laidOut (by kernel_rfl) (of_decide_eq_true (by kernel_rfl)) h0k hn hltp
  have fin : Calls Try.prog 9 #[.slice a0 len cap] W (fun e w' => e = .returned (.bool true) ∧ Below W.heap.size W w') →
      Calls Try.checked.prog 9 #[.slice a0 len cap] W fun e W' => ∃ v, e = Ending.returned v ∧ Rows.realSortsSpec.post enc Try.checked.prog Try.f9 false true false false W #[.slice a0 len cap] v W' := by
    intro c
    refine c.mono fun e W' ⟨he, hnx⟩ => ?_
    subst he
    refine ⟨_, rfl, _, _, _, [], p, [], hW', ?_, ?_, rfl, hnx.frame _, fun h => by cases h⟩
    · exact trodAll_mk1 (shut_bool Try.underlying4 true)
    · exact trodAll_mk1 (hargs _ hnx)
  rcases open_ints Try.underlying30 Try.underlying22 cellsE hf with ⟨hcs, hx⟩ | ⟨a, len', cap', zs, hcs, _, hl, hm, hz, hx, hcell, hwz⟩
  · simp [Value.cells] at hcs
    obtain ⟨rfl, rfl, rfl⟩ := hcs
    exact fin (walk none 0 [] (by simp) (by simp) W (fun q j hj => by cases hj) (fun _ => ⟨rfl, rfl⟩))
  · simp [Value.cells] at hcs
    obtain ⟨rfl, rfl, rfl⟩ := hcs
    simp only [Prod.mk.injEq] at hx
    obtain ⟨rfl, rfl⟩ := hx
    simp only [if_true] at hz
    have hreach : len * 8 ≤ 140737488351232 := by
      have := sized_slice hsz (j := 0) (t := 30) (e := 22) rfl rfl Try.underlying30
      rw [bytesE] at this
      simp only [lits, List.length_map, List.length_take, List.length_drop, reachBytes] at this
      omega
    obtain ⟨ms, hms, hmlt⟩ := nats_of zs hwz
    have hml : ms.length = zs.length := by rw [hms, List.length_map]
    have hlen : (ms.take len).length = len := by rw [List.length_take]; omega
    have c := walk (some a) cap (ms.take len) (by rw [hlen]; exact hreach) (fun x hx => hmlt x (List.mem_of_mem_take hx)) W
      (fun q j hj => by
        rw [hlen] at hj
        have h := hcell j (by omega)
        obtain ⟨b, off, spot⟩ := a
        have hspot : spot = none := by simpa [Addr.add] using World.cell?_spot (hcell 0 (by omega))
        subst hspot
        refine ⟨b, off, rfl, ?_⟩
        show W.cell? ⟨b, off + j, none⟩ = _
        rw [← add_plain, h]
        congr 2
        rw [hms]
        simp only [List.getD_eq_getElem?_getD, List.getElem?_map, List.getElem?_take, hj, if_true]
        rw [List.getElem?_eq_getElem (by omega)]
        rfl)
      (fun h => by cases h)
    rw [hlen] at c
    exact fin c

theorem proved : Rows.RealSortsSaid :=
  OpenClaim.holds_of_wide 9 Try.f9 rfl rfl rfl rfl rfl rfl rfl ⟨rfl, rfl, rfl, rfl, rfl⟩ rfl rfl rfl rfl rfl (by kernel_rfl) Try.func9 (by kernel_rfl)
    (of_decide_eq_true (by kernel_rfl)) (by unfold Func.isWrapper; first | (rw [if_pos (by decide +kernel)]; kernel_rfl) | (rw [if_neg (by decide +kernel)]; exact ⟨rfl, rfl⟩))
    (fun os started H enc _ => lifted os started H enc)
#print axioms proved
end Go.Proofs.Ytiieppaalffgjaa.realSorts
