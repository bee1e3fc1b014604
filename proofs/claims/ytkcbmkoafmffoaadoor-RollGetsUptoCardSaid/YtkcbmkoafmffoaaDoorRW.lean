/-
  RollNone holds: for every input the call returns true, and each argument reads afterwards as it read before. (The library's three tables of numbers read as their initialisers lay them: the card ties that to the program's text.)
-/
import Derived.Test.YtkcbmkoafmffoaaDoorRN
import Derived.Test.YtkcbmkoafmffoaaDoorKR
import Derived.Test.YtkcbmkoafmffoaaDoorCards
import Derived.Test.YtkcbmkoafmffoaaDoorTie
import Derived.SevenTiedAt
set_option linter.unusedVariables false
set_option linter.unusedSimpArgs false
namespace Go.Proofs.YtkcbmkoafmffoaaDoor
open Go.ChangeShapes Go.WideShapes Go.ChangeAt Go.RowKit

theorem Ext.below {W W' : World} (h : Go.Eng.Ext W W') : Below W.heap.size W W' := ⟨h.os, h.tape, h.output, h.size, fun k hk => h.block k hk⟩
theorem trod_bool_mk {H : Type} {enc : TypeId × Value → H} {W : World} {base : Nat} {sp : Nat → Bool} {hd : Bool} (b : Bool) : DataW.Trod enc Tryd.prog W base sp hd 4 (.bool b) (.lit (.bool b)) [] := ⟨1, by simp [DataW.trod, Tryd.underlying4, Value.cells]⟩

/-- The door's own heap meets the condition. -/
theorem door_met (os : Os) (args : Array Value) : laidMetH Tryd.prog Rows.rollNoneRow.laid ((World.doorLaid Tryd.prog 400 os).forCall (fun _ _ => 0) ⟨#[], args, []⟩).memory :=
  laidMetH_of_parts3 (fuel := 8) (laidMet_of_run' 8 (by kernel_rfl) (by kernel_rfl)) (by kernel_rfl) (by kernel_rfl)
/-- What the condition gives. -/
theorem tab_of_laid {W : World} (h : laidMetH Tryd.prog Rows.rollNoneRow.laid W) : TabIn (· < W.heap.size) W := by
  rw [MakeChecks.laidMetH_plain _ _ _ (by kernel_rfl)] at h
  have h2 := laidMet.tail (laidMet.tail h)
  have ht : Tab W := Lib.tabIs_of_head (g := (Tryd.prog.globalNamed "internal/strconv.uint64pow10").getD 0) (t := 146) (e := 139) (n := 20) (by kernel_rfl) (by kernel_rfl) Tryd.underlying146 (by kernel_rfl) (by kernel_rfl) (by kernel_rfl) h2
  refine ⟨ht, fun b hb => ?_⟩
  unfold Tab Lib.TabIs World.var? at ht
  rw [hb] at ht
  simp only [Option.bind_some] at ht
  rcases Nat.lt_or_ge b W.heap.size with h' | h'
  · exact h'
  · rw [Array.getElem?_eq_none h'] at ht; simp at ht
set_option maxRecDepth 100000 in
theorem open_valV {H : Type} {enc : TypeId × Value → H} {W : World} {sp : Nat → Bool} {hd : Bool} {v : Value} {d : DataW H} {ps : List MemPlace} {base : Nat} (hv : Value.okWide Tryd.prog W .any base 35 v) (h : DataW.Trod enc Tryd.prog W 0 sp hd 35 v d ps) :
    ∃ x : Vl, v = x.v ∧ Go.Eng.i64ok x.h.n := by
  obtain ⟨cs, rfl, _⟩ := okWide_struct Tryd.underlying35 hv
  obtain ⟨n, h⟩ := h
  obtain ⟨x, e, h1⟩ := open_vl h
  refine ⟨x, ?_, h1⟩
  show _ = Value.agg x.cs.toArray
  congr 1
  exact Array.ext' e

set_option maxRecDepth 100000 in
theorem rn_lifted (os : Os) (started : os.Started) (H : Type) (enc : TypeId × Value → H) :
    ReturnsInHanded {} Tryd.checked os 8 .any (fun w args => (Rows.rollNoneSpec.pre enc Tryd.prog Tryd.f8 [] false w args ∧ laidMetH Tryd.prog Rows.rollNoneRow.laid w) ∧ sizedMet enc Tryd.prog Tryd.f8 (OpenSpec.ofChange Rows.rollNoneSpec) false w args)
      (Rows.rollNoneSpec.post enc Tryd.prog Tryd.f8 false true false false) := by
  refine returnsInHanded_of_change_and (C := Tryd.checked) (X := fun w _ => laidMetH Tryd.prog Rows.rollNoneRow.laid w) (fun _ _ _ hh h => h.of_heap hh) Tryd.own started (by kernel_rfl) Tryd.func8
    (ChangeSpec.witness_shaped (enc := enc) (C := Tryd.checked) (os := os) (X := fun w _ => laidMetH Tryd.prog Rows.rollNoneRow.laid w) false (World.doorLaid Tryd.prog 400 os) #[.int .i64 0, .agg #[.int .i64 0, .bool false, .int .i64 0, .int .i64 0]] 8 rfl (World.shaped_of_RefB (by kernel_rfl) (by kernel_rfl)) (by kernel_rfl) (by kernel_rfl) (by kernel_rfl) (door_met os _)) ?_
  intro W base args ds gs before hval0 hW _ _ hL _
  have hval : ∀ (j : Nat) t v, Tryd.f8.params[j]? = some t → args[j]? = some v → Value.okWide Tryd.prog W .any base t v := hval0
  have hW' := hW
  obtain ⟨p, q, hA0, hV, rfl, hfz, hnd⟩ := hW
  have hA : DataW.TrodAll enc Tryd.prog W 0 (fun _ => true) true Tryd.f8.params.toList args.toList ds p := hA0
  rw [Tryd.params8] at hA hval
  obtain ⟨v0, v1, d0, d1, p0, p1, rfl, rfl, rfl, h0, h1⟩ := trodAll_two hA
  obtain ⟨rfl, rfl⟩ := trodVars_none hV
  have h0k := h0
  have h1k := h1
  obtain ⟨n, rfl, rfl, rfl, wn⟩ := Go.ChangeShapes.open_int Tryd.underlying3 (hval 0 3 v0 rfl rfl) h0
  obtain ⟨v, rfl, vo⟩ := open_valV (hval 1 35 v1 rfl rfl) h1
  clear hval0 hA hA0
  refine (m_RN n v (tab_of_laid hL)).mono fun e W' ⟨he, hw⟩ => ?_
  subst he
  have hbelow := Ext.below hw
  have hlt : ∀ x ∈ [] ++ p1 ++ [], x.block < W.heap.size := fun x hx => by simpa using hW'.lt x hx
  have a0 := Below.trod Tryd.laidOut (by kernel_rfl) (of_decide_eq_true (by kernel_rfl)) h0k hbelow (fun x hx => by simp at hx)
  have a1 := Below.trod Tryd.laidOut (by kernel_rfl) (of_decide_eq_true (by kernel_rfl)) h1k hbelow (fun x hx => hlt x (by simp [hx]))
  refine ⟨_, rfl, _, _, _, [], [] ++ p1, [], hW', ?_, ?_, rfl, hbelow.frame _, fun h => by cases h⟩
  · exact trodAll_mk1 (trod_bool_mk true)
  · exact trodAll_mk2 a0 a1

theorem rn_holds : Rows.RollNoneSaid :=
  OpenClaim.holds_of_wide 8 Tryd.f8 rfl rfl rfl rfl rfl rfl rfl ⟨rfl, rfl, rfl, rfl, rfl⟩ rfl rfl rfl rfl rfl (by kernel_rfl) Tryd.func8 (by kernel_rfl)
    (of_decide_eq_true (by kernel_rfl)) (by unfold Func.isWrapper; first | (rw [if_pos (by decide +kernel)]; kernel_rfl) | (rw [if_neg (by decide +kernel)]; exact ⟨rfl, rfl⟩))
    (fun os started H enc _ => rn_lifted os started H enc)

theorem rn_card : Rows.RollNoneCardSaid :=
  Claim7.holds_tied_plain_at .later [] [.data, .data, .data] true Rows.rollNoneCard.stood.harness false
    rn_holds (fun _ h => by cases h) (by kernel_rfl) (fun _ h => by cases h) rollNone_row_tie rfl ⟨rfl, rfl⟩ (by kernel_rfl) rfl
    (fun f fn hf hfn => by
      obtain rfl : f = 8 := Option.some.inj ((show Tryd.prog.funcNamed "geode/geodelaw09.RollNone" = some 8 by kernel_rfl).symm.trans hf) |>.symm
      obtain rfl : fn = Tryd.f8 := (Option.some.inj (Tryd.func8.symm.trans hfn)).symm
      exact ⟨by kernel_rfl, fun j t ht => by
        rw [Tryd.params8] at ht
        have hm : t ∈ [3, 35] := by simpa using Array.mem_of_getElem? ht
        have hall : ([3, 35].all fun u => !Tryd.prog.wantsStandIn u) = true := by kernel_rfl
        exact (show Tryd.prog.wantsStandIn t = false by simpa using List.all_eq_true.1 hall t hm)⟩)
    (by kernel_rfl)
#print axioms rn_card
end Go.Proofs.YtkcbmkoafmffoaaDoor
