/-
  RollClose holds in its second form (bulk at most 1048576): the call returns true, and each argument reads afterwards as it read before.
-/
import Derived.Test.YtkcbmkoafmffoaaDoorRH
import Derived.Test.YtkcbmkoafmffoaaDoorRW
import Derived.Test.YtkcbmkoafmffoaaDoorKS
import Derived.Test.YtkcbmkoafmffoaaDoorCards
import Derived.Test.YtkcbmkoafmffoaaDoorTie
import Derived.SevenTiedAt
import Derived.Deep.DeepHandedRow
set_option linter.unusedVariables false
set_option linter.unusedSimpArgs false
namespace Go.Proofs.YtkcbmkoafmffoaaDoor
open Go.ChangeShapes Go.WideShapes Go.ChangeAt Go.RowKit

theorem cellsSubs : Tryd.prog.cellsOf 51 = 1 := by kernel_rfl
theorem Sb.small.mono {s : Sb} {n m : Nat} (h : s.small n) (hnm : n ≤ m) : s.small m := ⟨Nat.le_trans h.1 hnm, Nat.le_trans h.2 hnm, Nat.le_trans h.3 hnm, Nat.le_trans h.4 hnm⟩

section readers
variable {H : Type} {enc : TypeId × Value → H} {W : World} {base : Nat} {sp : Nat → Bool} {hd : Bool}
/-- A group that came in. -/
theorem open_grB {n : Nat} {cs : List Value} {y : DataW H × List MemPlace} (h : DataW.trod enc Tryd.prog W base sp hd n 51 cs = some y) :
    ∃ g : GL, cs = glcs g ∧ (Cs (· < W.heap.size) W g.A (gcs g.l) ∧ ∀ q ∈ g.l, q.1.ok ∧ SbR (· < W.heap.size) W q.1 q.2 ∧ q.1.small (Rows.uptoBulk y.1)) ∧ g.l.length ≤ Rows.uptoBulk y.1 := by
  obtain ⟨A, c, l, e, r, _, g, b⟩ := open_listB pcs 6 pcs_len (by decide) (fun (q : Sb × SL) n => q.1.ok ∧ SbR (· < W.heap.size) W q.1 q.2 ∧ q.1.small n) (fun _ _ _ h ⟨a, b, c⟩ => ⟨a, b, c.mono h⟩) ⟨⟨false, [], 0, [], [], []⟩, ⟨none, 0, none, 0, none, 0, none, 0⟩⟩ Tryd.underlying51 cellsS
    (fun _ _ _ h => by obtain ⟨s, x, e, a, b, c⟩ := open_sbB h; exact ⟨(s, x), e, a, b, c⟩) h
  exact ⟨⟨A, c, l⟩, e, ⟨r, g⟩, b⟩
/-- The groups that came in. -/
theorem open_grsB {n : Nat} {cs : List Value} {y : DataW H × List MemPlace} (h : DataW.trod enc Tryd.prog W base sp hd n 43 cs = some y) :
    ∃ (A : Option Addr) (c : Nat) (gs : List GL), cs = [.slice A gs.length c] ∧ Cs (· < W.heap.size) W A (gs.flatMap glcs) ∧ (∀ g ∈ gs, Cs (· < W.heap.size) W g.A (gcs g.l) ∧ ∀ q ∈ g.l, q.1.ok ∧ SbR (· < W.heap.size) W q.1 q.2 ∧ q.1.small (Rows.uptoBulk y.1)) := by
  obtain ⟨A, c, l, e, r, _, g, b⟩ := open_listB glcs 1 gl_len (by decide) (fun (g : GL) n => Cs (· < W.heap.size) W g.A (gcs g.l) ∧ ∀ q ∈ g.l, q.1.ok ∧ SbR (· < W.heap.size) W q.1 q.2 ∧ q.1.small n) (fun _ _ _ h ⟨a, b⟩ => ⟨a, fun q hq => ⟨(b q hq).1, (b q hq).2.1, (b q hq).2.2.mono h⟩⟩) ⟨none, 0, []⟩ Tryd.underlying43 cellsSubs
    (fun _ _ _ h => by obtain ⟨g, e, a, _⟩ := open_grB h; exact ⟨g, e, a⟩) h
  exact ⟨A, c, l, e, r, g⟩
end readers

theorem rx_reads (os : Os) {H : Type} (enc : TypeId × Value → H) : ∃ places, DataW.whole enc Tryd.prog ((World.doorLaid Tryd.prog 400 os).forCall (fun _ _ => 0) ⟨#[], #[.slice none 0 0, .agg #[.int .i64 0, .bool false, .int .i64 0, .int .i64 0]], []⟩).memory Tryd.f5.params.toList Rows.rollCloseSpec.vars false (#[.slice none 0 0, .agg #[.int .i64 0, .bool false, .int .i64 0, .int .i64 0]] : Array Value).toList 8 = some ([.nil, .agg [.lit (.int .i64 0), .lit (.bool false), .agg [.lit (.int .i64 0), .lit (.int .i64 0)]]], [], places) :=
  ⟨[], by kernel_rfl⟩
/-- The door's own heap meets the condition. -/
theorem door_metRC (os : Os) (args : Array Value) : laidMetH Tryd.prog Rows.rollCloseUptoRow.laid ((World.doorLaid Tryd.prog 400 os).forCall (fun _ _ => 0) ⟨#[], args, []⟩).memory :=
  laidMetH_of_parts3 (fuel := 8) (laidMet_of_run' 8 (by kernel_rfl) (by kernel_rfl)) (by kernel_rfl) (by kernel_rfl)

set_option maxRecDepth 100000 in
theorem rx_lifted (os : Os) (started : os.Started) (H : Type) (enc : TypeId × Value → H) (F : Stop.Interp) :
    ReturnsInHanded {} Tryd.checked os 5 .any ((Rows.OpenSpec.upto Rows.rollCloseSpec).preRow enc Tryd.prog Tryd.f5 Rows.rollCloseUptoRow.domain false Rows.rollCloseUptoRow.laid) (((Rows.OpenSpec.upto Rows.rollCloseSpec).at F).post enc Tryd.prog Tryd.f5 false true false false) := by
  obtain ⟨places, hx⟩ := rx_reads os enc
  refine returnsInHanded_of_row (C := Tryd.checked) (s := Rows.OpenSpec.upto Rows.rollCloseSpec) Tryd.own started (by kernel_rfl) Tryd.func5
    ⟨World.doorLaid Tryd.prog 400 os, fun _ _ => 0, ⟨#[], #[.slice none 0 0, .agg #[.int .i64 0, .bool false, .int .i64 0, .int .i64 0]], []⟩, rfl, World.shaped_of_RefB (by kernel_rfl) (by kernel_rfl), rfl, (Input.okWide_of_okWideB (by kernel_rfl)).2,
      OpenSpec.preRow_of_cond 8 hx (by kernel_rfl) (fun k hk => by cases hk; kernel_rfl) (by kernel_rfl) (door_metRC os _), by simp only [Assume.holds]; exact ⟨by simp, by simp, fun _ => Modest.zero, by simp, by simp⟩⟩ ?_
  intro W base args ds gs before hval0 hW _ hcond _ hL _ _
  have hval : ∀ (j : Nat) t v, Tryd.f5.params[j]? = some t → args[j]? = some v → Value.okWide Tryd.prog W .any base t v := hval0
  have hB : Rows.uptoBulkAll (ds ++ gs) ≤ 1048576 := of_decide_eq_true (hcond _ rfl)
  have hW' := hW
  obtain ⟨p, q, hA0, hV, rfl, hfz, hnd⟩ := hW
  have hA : DataW.TrodAll enc Tryd.prog W 0 (fun _ => true) true Tryd.f5.params.toList args.toList ds p := hA0
  rw [Tryd.params5] at hA hval
  obtain ⟨v0, v1, d0, d1, p0, p1, rfl, rfl, rfl, h0, h1⟩ := trodAll_two hA
  obtain ⟨rfl, rfl⟩ := trodVars_none hV
  have h0k := h0
  have h1k := h1
  obtain ⟨a0, l0, c0, rfl⟩ := okWide_slice Tryd.underlying43 (hval 0 43 v0 rfl rfl)
  obtain ⟨n0, h0⟩ := h0
  obtain ⟨A, c, gl, e0, r0, g0⟩ := open_grsB h0
  have e0 : Value.slice a0 l0 c0 = .slice A gl.length c := by simpa [Value.cells] using e0
  rw [e0] at h0k hval hW'
  obtain ⟨v, rfl, vo⟩ := open_valV (hval 1 35 v1 rfl rfl) h1
  clear hval0 hA hA0
  have hb0 : Rows.uptoBulk d0 ≤ 1100000 := by
    have := bulk_part (show d0 ∈ [d0, d1] ++ [] by simp)
    omega
  rw [e0]
  refine (m_RC gl A c r0 (fun g hg => ⟨(g0 g hg).1, fun q hq => ((g0 g hg).2 q hq).2.1, fun q hq => ⟨((g0 g hg).2 q hq).2.2.mono hb0, ((g0 g hg).2 q hq).1⟩⟩) v (tab_of_laid hL)).mono fun e W' ⟨he, hw⟩ => ?_
  subst he
  have hbelow := Ext.below hw
  have hlt : ∀ x ∈ p0 ++ p1 ++ [], x.block < W.heap.size := fun x hx => by simpa using hW'.lt x hx
  have a0 := Below.trod Tryd.laidOut (by kernel_rfl) (of_decide_eq_true (by kernel_rfl)) h0k hbelow (fun x hx => hlt x (by simp [hx]))
  have a1 := Below.trod Tryd.laidOut (by kernel_rfl) (of_decide_eq_true (by kernel_rfl)) h1k hbelow (fun x hx => hlt x (by simp [hx]))
  refine ⟨_, rfl, _, _, _, [], p0 ++ p1, [], hW', ?_, ?_, rfl, hbelow.frame _, fun h => by cases h⟩
  · exact trodAll_mk1 (trod_bool_mk true)
  · exact trodAll_mk2 a0 a1

theorem rx_holds : Rows.RollCloseUptoSaid :=
  OpenClaim.holds_of_cond 5 Tryd.f5 rfl rfl rfl rfl rfl rfl rfl ⟨rfl, rfl, rfl, rfl, rfl⟩ rfl rfl rfl rfl rfl (by kernel_rfl) Tryd.func5 (by kernel_rfl)
    (of_decide_eq_true (by kernel_rfl)) (by unfold Func.isWrapper; first | (rw [if_pos (by decide +kernel)]; kernel_rfl) | (rw [if_neg (by decide +kernel)]; exact ⟨rfl, rfl⟩))
    (fun os started H enc _ F => by rw [OpenClaim.pre_eq_preRow]; exact rx_lifted os started H enc F)

theorem rx_plain (f : FuncId) (fn : Func) (hf : Tryd.pinned.checked.prog.funcNamed "geode/geodelaw09.RollClose" = some f) (hfn : Tryd.pinned.checked.prog.funcs[f]? = some fn) :
    false = Tryd.pinned.checked.prog.looks [] ∧ ∀ (j : Nat) t, fn.params[j]? = some t → Tryd.pinned.checked.prog.wantsStandIn t = false := by
  obtain rfl : f = 5 := Option.some.inj ((show Tryd.prog.funcNamed "geode/geodelaw09.RollClose" = some 5 by kernel_rfl).symm.trans hf) |>.symm
  obtain rfl : fn = Tryd.f5 := (Option.some.inj (Tryd.func5.symm.trans hfn)).symm
  exact ⟨by kernel_rfl, fun j t ht => by
    rw [Tryd.params5] at ht
    have hm : t ∈ [43, 35] := by simpa using Array.mem_of_getElem? ht
    have hall : ([43, 35].all fun u => !Tryd.prog.wantsStandIn u) = true := by kernel_rfl
    exact (show Tryd.prog.wantsStandIn t = false by simpa using List.all_eq_true.1 hall t hm)⟩

theorem rx_card : Rows.RollCloseUptoCardSaid :=
  Claim7.holds_tied_plain_at .later [] _ _ _ _ rx_holds (fun _ h => by cases h) (by kernel_rfl) (fun _ h => by cases h) rollCloseUpto_row_tie rfl ⟨rfl, rfl⟩ (by kernel_rfl) rfl rx_plain (by kernel_rfl)
#print axioms rx_card
end Go.Proofs.YtkcbmkoafmffoaaDoor
