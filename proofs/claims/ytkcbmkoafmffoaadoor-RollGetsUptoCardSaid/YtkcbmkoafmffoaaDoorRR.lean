/-
  RollGets holds in its second form (bulk at most 1048576): the call returns true, and each argument reads afterwards as it read before.
-/
import Derived.Test.YtkcbmkoafmffoaaDoorRQ
import Derived.Test.YtkcbmkoafmffoaaDoorRX
import Derived.Test.YtkcbmkoafmffoaaDoorCards
import Derived.Test.YtkcbmkoafmffoaaDoorTie
import Derived.SevenTiedAt
import Derived.Deep.DeepHandedRow
set_option linter.unusedVariables false
set_option linter.unusedSimpArgs false
namespace Go.Proofs.YtkcbmkoafmffoaaDoor
open Go.ChangeShapes Go.WideShapes Go.ChangeAt Go.RowKit

theorem rg_reads (os : Os) {H : Type} (enc : TypeId × Value → H) : ∃ places, DataW.whole enc Tryd.prog ((World.doorLaid Tryd.prog 400 os).forCall (fun _ _ => 0) ⟨#[], #[.slice none 0 0], []⟩).memory Tryd.f6.params.toList Rows.rollGetsSpec.vars false (#[.slice none 0 0] : Array Value).toList 8 = some ([.nil], [], places) :=
  ⟨[], by kernel_rfl⟩
/-- The door's own heap meets the condition. -/
theorem door_metRG (os : Os) (args : Array Value) : laidMetH Tryd.prog Rows.rollGetsUptoRow.laid ((World.doorLaid Tryd.prog 400 os).forCall (fun _ _ => 0) ⟨#[], args, []⟩).memory :=
  laidMetH_of_parts3 (fuel := 8) (laidMet_of_run' 8 (by kernel_rfl) (by kernel_rfl)) (by kernel_rfl) (by kernel_rfl)

set_option maxRecDepth 100000 in
theorem rg_lifted (os : Os) (started : os.Started) (H : Type) (enc : TypeId × Value → H) (F : Stop.Interp) :
    ReturnsInHanded {} Tryd.checked os 6 .any ((Rows.OpenSpec.upto Rows.rollGetsSpec).preRow enc Tryd.prog Tryd.f6 Rows.rollGetsUptoRow.domain false Rows.rollGetsUptoRow.laid) (((Rows.OpenSpec.upto Rows.rollGetsSpec).at F).post enc Tryd.prog Tryd.f6 false true false false) := by
  obtain ⟨places, hx⟩ := rg_reads os enc
  refine returnsInHanded_of_row (C := Tryd.checked) (s := Rows.OpenSpec.upto Rows.rollGetsSpec) Tryd.own started (by kernel_rfl) Tryd.func6
    ⟨World.doorLaid Tryd.prog 400 os, fun _ _ => 0, ⟨#[], #[.slice none 0 0], []⟩, rfl, World.shaped_of_RefB (by kernel_rfl) (by kernel_rfl), rfl, (Input.okWide_of_okWideB (by kernel_rfl)).2,
      OpenSpec.preRow_of_cond 8 hx (by kernel_rfl) (fun k hk => by cases hk; kernel_rfl) (by kernel_rfl) (door_metRG os _), by simp only [Assume.holds]; exact ⟨by simp, by simp, fun _ => Modest.zero, by simp, by simp⟩⟩ ?_
  intro W base args ds gs before hval0 hW _ hcond _ hL _ _
  have hval : ∀ (j : Nat) t v, Tryd.f6.params[j]? = some t → args[j]? = some v → Value.okWide Tryd.prog W .any base t v := hval0
  have hB : Rows.uptoBulkAll (ds ++ gs) ≤ 1048576 := of_decide_eq_true (hcond _ rfl)
  have hW' := hW
  obtain ⟨p, q, hA0, hV, rfl, hfz, hnd⟩ := hW
  have hA : DataW.TrodAll enc Tryd.prog W 0 (fun _ => true) true Tryd.f6.params.toList args.toList ds p := hA0
  rw [Tryd.params6] at hA hval
  obtain ⟨v0, d0, rfl, rfl, h0⟩ := trodAll_one hA
  obtain ⟨rfl, rfl⟩ := trodVars_none hV
  have h0k := h0
  obtain ⟨a0, l0, c0, rfl⟩ := okWide_slice Tryd.underlying43 (hval 0 43 v0 rfl rfl)
  obtain ⟨n0, h0⟩ := h0
  obtain ⟨A, c, gl, e0, r0, g0⟩ := open_grsB h0
  have e0 : Value.slice a0 l0 c0 = .slice A gl.length c := by simpa [Value.cells] using e0
  rw [e0] at h0k hval hW'
  clear hval0 hA hA0
  have hb0 : Rows.uptoBulk d0 ≤ 1100000 := by
    have := bulk_part (show d0 ∈ [d0] ++ [] by simp)
    omega
  rw [e0]
  refine (m_RG gl A c r0 (fun g hg => ⟨(g0 g hg).1, fun q hq => ((g0 g hg).2 q hq).2.1, fun q hq => ⟨((g0 g hg).2 q hq).2.2.mono hb0, ((g0 g hg).2 q hq).1⟩⟩) (tab_of_laid hL)).mono fun e W' ⟨he, hw⟩ => ?_
  subst he
  have hbelow := Ext.below hw
  have hlt : ∀ x ∈ p ++ [], x.block < W.heap.size := fun x hx => by simpa using hW'.lt x hx
  have a0 := Below.trod Tryd.laidOut (by kernel_rfl) (of_decide_eq_true (by kernel_rfl)) h0k hbelow (fun x hx => hlt x (by simp [hx]))
  refine ⟨_, rfl, _, _, _, [], p, [], hW', ?_, ?_, rfl, hbelow.frame _, fun h => by cases h⟩
  · exact trodAll_mk1 (trod_bool_mk true)
  · exact trodAll_mk1 a0

theorem rg_holds : Rows.RollGetsUptoSaid :=
  OpenClaim.holds_of_cond 6 Tryd.f6 rfl rfl rfl rfl rfl rfl rfl ⟨rfl, rfl, rfl, rfl, rfl⟩ rfl rfl rfl rfl rfl (by kernel_rfl) Tryd.func6 (by kernel_rfl)
    (of_decide_eq_true (by kernel_rfl)) (by unfold Func.isWrapper; first | (rw [if_pos (by decide +kernel)]; kernel_rfl) | (rw [if_neg (by decide +kernel)]; exact ⟨rfl, rfl⟩))
    (fun os started H enc _ F => by rw [OpenClaim.pre_eq_preRow]; exact rg_lifted os started H enc F)

theorem rg_plain (f : FuncId) (fn : Func) (hf : Tryd.pinned.checked.prog.funcNamed "geode/geodelaw09.RollGets" = some f) (hfn : Tryd.pinned.checked.prog.funcs[f]? = some fn) :
    false = Tryd.pinned.checked.prog.looks [] ∧ ∀ (j : Nat) t, fn.params[j]? = some t → Tryd.pinned.checked.prog.wantsStandIn t = false := by
  obtain rfl : f = 6 := Option.some.inj ((show Tryd.prog.funcNamed "geode/geodelaw09.RollGets" = some 6 by kernel_rfl).symm.trans hf) |>.symm
  obtain rfl : fn = Tryd.f6 := (Option.some.inj (Tryd.func6.symm.trans hfn)).symm
  exact ⟨by kernel_rfl, fun j t ht => by
    rw [Tryd.params6] at ht
    have hm : t ∈ [43] := by simpa using Array.mem_of_getElem? ht
    have hall : ([43].all fun u => !Tryd.prog.wantsStandIn u) = true := by kernel_rfl
    exact (show Tryd.prog.wantsStandIn t = false by simpa using List.all_eq_true.1 hall t hm)⟩

theorem rg_card : Rows.RollGetsUptoCardSaid :=
  Claim7.holds_tied_plain_at .later [] _ _ _ _ rg_holds (fun _ h => by cases h) (by kernel_rfl) (fun _ h => by cases h) rollGetsUpto_row_tie rfl ⟨rfl, rfl⟩ (by kernel_rfl) rfl rg_plain (by kernel_rfl)
#print axioms rg_card
end Go.Proofs.YtkcbmkoafmffoaaDoor
