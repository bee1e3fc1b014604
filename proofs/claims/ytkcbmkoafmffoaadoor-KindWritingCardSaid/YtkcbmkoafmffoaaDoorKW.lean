/-
  KindWriting holds: for every input the call returns true, and each argument reads afterwards as it read before. (The library's three tables of numbers read as their initialisers lay them: the card ties that to the program's text.)
-/
import Derived.Test.YtkcbmkoafmffoaaDoorKQ
import Derived.Test.YtkcbmkoafmffoaaDoorKR
import Derived.Test.YtkcbmkoafmffoaaDoorCards
import Derived.Test.YtkcbmkoafmffoaaDoorTie
import Derived.SevenTiedAt
set_option linter.unusedVariables false
set_option linter.unusedSimpArgs false
namespace Go.Proofs.YtkcbmkoafmffoaaDoor
open Go.ChangeShapes Go.WideShapes Go.ChangeAt Go.RowKit

theorem Ext.below {W W' : World} (h : Go.Eng.Ext W W') : Below W.heap.size W W' := ⟨h.os, h.tape, h.output, h.size, fun k hk => h.block k hk⟩
theorem trod_bool_mk {H : Type} {enc : TypeId × Value → H} {W : World} {base : Nat} {sp : Nat → Bool} {hd : Bool} (b : Bool) : DataW.Trod enc Tryd.prog W base sp hd 4 (.bool b) (.lit (.bool b)) [] := ⟨1, by simp [DataW.trod, Tryd.underlying4, Value.cells]⟩

/-- The door's own heap meets the condition. -/
theorem door_met (os : Os) (args : Array Value) : laidMetH Tryd.prog Rows.kindWritingRow.laid ((World.doorLaid Tryd.prog 400 os).forCall (fun _ _ => 0) ⟨#[], args, []⟩).memory :=
  laidMetH_of_parts3 (fuel := 8) (laidMet_of_run' 8 (by kernel_rfl) (by kernel_rfl)) (by kernel_rfl) (by kernel_rfl)
/-- What the condition gives. -/
theorem tab_of_laid {W : World} (h : laidMetH Tryd.prog Rows.kindWritingRow.laid W) : Tab W := by
  rw [MakeChecks.laidMetH_plain _ _ _ (by kernel_rfl)] at h
  have h2 := laidMet.tail (laidMet.tail h)
  exact Lib.tabIs_of_head (g := (Tryd.prog.globalNamed "internal/strconv.uint64pow10").getD 0) (t := 146) (e := 139) (n := 20) (by kernel_rfl) (by kernel_rfl) Tryd.underlying146 (by kernel_rfl) (by kernel_rfl) (by kernel_rfl) h2
set_option maxRecDepth 100000 in
/-- A declared type among the arguments. -/
theorem open_subV {H : Type} {enc : TypeId × Value → H} {W : World} {sp : Nat → Bool} {hd : Bool} {v : Value} {d : DataW H} {ps : List MemPlace} {base : Nat} (hv : Value.okWide Tryd.prog W .any base 29 v) (h : DataW.Trod enc Tryd.prog W 0 sp hd 29 v d ps) :
    ∃ (s : Sb) (x : SL), v = s.v x ∧ s.ok ∧ SbR (· < W.heap.size) W s x := by
  obtain ⟨cs, rfl, _⟩ := okWide_struct Tryd.underlying29 hv
  obtain ⟨n, h⟩ := h
  obtain ⟨s, x, e, h1, h2⟩ := open_sb h
  refine ⟨s, x, ?_, h1, h2⟩
  rw [Sb.v_cs]
  congr 1
  exact Array.ext' e
set_option maxRecDepth 100000 in
theorem open_valV {H : Type} {enc : TypeId × Value → H} {W : World} {sp : Nat → Bool} {hd : Bool} {v : Value} {d : DataW H} {ps : List MemPlace} {base : Nat} (hv : Value.okWide Tryd.prog W .any base 35 v) (h : DataW.Trod enc Tryd.prog W 0 sp hd 35 v d ps) :
    ∃ x : Vl, v = x.v ∧ Go.Eng.i64ok x.h.n := by
  obtain ⟨cs, rfl, _⟩ := okWide_struct Tryd.underlying35 hv
  obtain ⟨n, h⟩ := h
  obtain ⟨x, e, h1⟩ := open_vl h
  refine ⟨x, ?_, h1⟩
  show _ = Value.agg x.cs.toArray
  congr 1
  exact Array.ext' e

set_option maxRecDepth 100000 in
theorem kw_lifted (os : Os) (started : os.Started) (H : Type) (enc : TypeId × Value → H) :
    ReturnsInHanded {} Tryd.checked os 3 .any (fun w args => (Rows.kindWritingSpec.pre enc Tryd.prog Tryd.f3 [] false w args ∧ laidMetH Tryd.prog Rows.kindWritingRow.laid w) ∧ sizedMet enc Tryd.prog Tryd.f3 (OpenSpec.ofChange Rows.kindWritingSpec) false w args)
      (Rows.kindWritingSpec.post enc Tryd.prog Tryd.f3 false true false false) := by
  refine returnsInHanded_of_change_and (C := Tryd.checked) (X := fun w _ => laidMetH Tryd.prog Rows.kindWritingRow.laid w) (fun _ _ _ hh h => h.of_heap hh) Tryd.own started (by kernel_rfl) Tryd.func3
    (ChangeSpec.witness_shaped (enc := enc) (C := Tryd.checked) (os := os) (X := fun w _ => laidMetH Tryd.prog Rows.kindWritingRow.laid w) false (World.doorLaid Tryd.prog 400 os) #[.agg #[.bool false, .slice none 0 0, .int .i64 0, .slice none 0 0, .slice none 0 0, .slice none 0 0], .agg #[.bool false, .slice none 0 0, .int .i64 0, .slice none 0 0, .slice none 0 0, .slice none 0 0], .agg #[.int .i64 0, .bool false, .int .i64 0, .int .i64 0], .agg #[.int .i64 0, .bool false, .int .i64 0, .int .i64 0]] 8 rfl (World.shaped_of_RefB (by kernel_rfl) (by kernel_rfl)) (by kernel_rfl) (by kernel_rfl) (by kernel_rfl) (door_met os _)) ?_
  intro W base args ds gs before hval0 hW _ _ hL _
  have hval : ∀ (j : Nat) t v, Tryd.f3.params[j]? = some t → args[j]? = some v → Value.okWide Tryd.prog W .any base t v := hval0
  have hW' := hW
  obtain ⟨p, q, hA0, hV, rfl, hfz, hnd⟩ := hW
  have hA : DataW.TrodAll enc Tryd.prog W 0 (fun _ => true) true Tryd.f3.params.toList args.toList ds p := hA0
  rw [Tryd.params3] at hA hval
  obtain ⟨v0, vs0, d0, ds0, p0, q0, hargs, rfl, rfl, h0, r0⟩ := trodAll_cons hA
  obtain ⟨v1, vs1, d1, ds1, p1, q1, rfl, rfl, rfl, h1, r1⟩ := trodAll_cons r0
  obtain ⟨v2, vs2, d2, ds2, p2, q2, rfl, rfl, rfl, h2, r2⟩ := trodAll_cons r1
  obtain ⟨v3, vs3, d3, ds3, p3, q3, rfl, rfl, rfl, h3, r3⟩ := trodAll_cons r2
  obtain ⟨rfl, rfl, rfl⟩ := trodAll_nil r3
  obtain rfl : args = #[v0, v1, v2, v3] := by cases args; simp_all
  obtain ⟨rfl, rfl⟩ := trodVars_none hV
  have h0k := h0
  have h1k := h1
  have h2k := h2
  have h3k := h3
  obtain ⟨s, x, rfl, so, hs⟩ := open_subV (hval 0 29 v0 rfl rfl) h0
  obtain ⟨t, y, rfl, to, ht⟩ := open_subV (hval 1 29 v1 rfl rfl) h1
  obtain ⟨v, rfl, vo⟩ := open_valV (hval 2 35 v2 rfl rfl) h2
  obtain ⟨u, rfl, uo⟩ := open_valV (hval 3 35 v3 rfl rfl) h3
  clear hval0 hA hA0 r0 r1 r2 r3
  refine (m_KW s t x y v u hs ht so to vo uo (tab_of_laid hL)).mono fun e W' ⟨he, hw⟩ => ?_
  subst he
  have hbelow := Ext.below hw
  have hlt : ∀ z ∈ p0 ++ (p1 ++ (p2 ++ (p3 ++ []))) ++ [], z.block < W.heap.size := fun z hz => by simpa using hW'.lt z hz
  have a0 := Below.trod Tryd.laidOut (by kernel_rfl) (of_decide_eq_true (by kernel_rfl)) h0k hbelow (fun z hz => hlt z (by simp [hz]))
  have a1 := Below.trod Tryd.laidOut (by kernel_rfl) (of_decide_eq_true (by kernel_rfl)) h1k hbelow (fun z hz => hlt z (by simp [hz]))
  have a2 := Below.trod Tryd.laidOut (by kernel_rfl) (of_decide_eq_true (by kernel_rfl)) h2k hbelow (fun z hz => hlt z (by simp [hz]))
  have a3 := Below.trod Tryd.laidOut (by kernel_rfl) (of_decide_eq_true (by kernel_rfl)) h3k hbelow (fun z hz => hlt z (by simp [hz]))
  refine ⟨_, rfl, _, _, _, [], p0 ++ (p1 ++ (p2 ++ (p3 ++ []))), [], hW', ?_, ?_, rfl, hbelow.frame _, fun h => by cases h⟩
  · exact trodAll_mk1 (trod_bool_mk true)
  · exact trodAll_cons_mk a0 (trodAll_cons_mk a1 (trodAll_cons_mk a2 (trodAll_cons_mk a3 trodAll_mk0)))

theorem kw_holds : Rows.KindWritingSaid :=
  OpenClaim.holds_of_wide 3 Tryd.f3 rfl rfl rfl rfl rfl rfl rfl ⟨rfl, rfl, rfl, rfl, rfl⟩ rfl rfl rfl rfl rfl (by kernel_rfl) Tryd.func3 (by kernel_rfl)
    (of_decide_eq_true (by kernel_rfl)) (by unfold Func.isWrapper; first | (rw [if_pos (by decide +kernel)]; kernel_rfl) | (rw [if_neg (by decide +kernel)]; exact ⟨rfl, rfl⟩))
    (fun os started H enc _ => kw_lifted os started H enc)

theorem kw_card : Rows.KindWritingCardSaid :=
  Claim7.holds_tied_plain_at .later [] [.data, .data, .data] true Rows.kindWritingCard.stood.harness false
    kw_holds (fun _ h => by cases h) (by kernel_rfl) (fun _ h => by cases h) kindWriting_row_tie rfl ⟨rfl, rfl⟩ (by kernel_rfl) rfl
    (fun f fn hf hfn => by
      obtain rfl : f = 3 := Option.some.inj ((show Tryd.prog.funcNamed "geode/geodelaw04.KindWriting" = some 3 by kernel_rfl).symm.trans hf) |>.symm
      obtain rfl : fn = Tryd.f3 := (Option.some.inj (Tryd.func3.symm.trans hfn)).symm
      exact ⟨by kernel_rfl, fun j t ht => by
        rw [Tryd.params3] at ht
        have hm : t ∈ [29, 29, 35, 35] := by simpa using Array.mem_of_getElem? ht
        have hall : ([29, 29, 35, 35].all fun u => !Tryd.prog.wantsStandIn u) = true := by kernel_rfl
        exact (show Tryd.prog.wantsStandIn t = false by simpa using List.all_eq_true.1 hall t hm)⟩)
    (by kernel_rfl)
#print axioms kw_card
end Go.Proofs.YtkcbmkoafmffoaaDoor
