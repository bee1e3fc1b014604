/-
  StackBack holds: for every input the call returns true, and each argument reads afterwards as it read before. (No condition.)
-/
import Derived.Test.YteendcbmoagdfaaB2
import Derived.Test.YteendcbmoagdfaaWi
set_option linter.unusedVariables false
set_option linter.unusedSimpArgs false
namespace Go.Proofs.Yteendcbmoagdfaa
open Go.ChangeShapes Go.WideShapes Go.ChangeAt Go.RowKit

set_option maxRecDepth 100000 in
theorem back_lifted (os : Os) (started : os.Started) (H : Type) (enc : TypeId × Value → H) :
    ReturnsInHanded {} Try.checked os 4 .any (Rows.stackBackSpec.pre6 enc Try.prog Try.f4 Rows.stackBackRow.domain false) (Rows.stackBackSpec.post enc Try.prog Try.f4 false true false false) := by
  refine returnsInHanded_of_change (C := Try.checked) Try.own started (by kernel_rfl) Try.func4
    (ChangeSpec.witness6 (enc := enc) (C := Try.checked) false ⟨#[], #[.slice none 0 0, .slice none 0 0, .slice none 0 0, .slice none 0 0], []⟩ 8 (by kernel_rfl) (by kernel_rfl) (by kernel_rfl) (by kernel_rfl)) ?_
  intro W base args ds gs before hval0 hW hcnd _
  have hval : ∀ (j : Nat) t v, Try.f4.params[j]? = some t → args[j]? = some v → Value.okWide Try.prog W .any base t v := hval0
  have hW' := hW
  obtain ⟨p, q, hA0, hV, rfl, hfz, hnd⟩ := hW
  have hA : DataW.TrodAll enc Try.prog W 0 (fun _ => true) true Try.f4.params.toList args.toList ds p := hA0
  rw [Try.params4] at hA hval
  obtain ⟨v0, v1, v2, v3, d0, d1, d2, d3, p0, p1, p2, p3, rfl, rfl, rfl, h0, h1, h2, h3⟩ := trodAll_four hA
  obtain ⟨rfl, rfl⟩ := trodVars_none hV
  have h0k := h0
  have h1k := h1
  have h2k := h2
  have h3k := h3
  obtain ⟨A, c, l0, rfl, ca, na⟩ := open_vals (hval 0 22 v0 rfl rfl) h0
  obtain ⟨B, d, l1, rfl, cb, nb⟩ := open_vals (hval 1 22 v1 rfl rfl) h1
  obtain ⟨C, e, l2, rfl, cc, nc⟩ := open_vals (hval 2 22 v2 rfl rfl) h2
  obtain ⟨D, g, l3, rfl, cd, nd⟩ := open_vals (hval 3 22 v3 rfl rfl) h3
  clear hval0 hA hA0
  refine (m_back A c l0 ca na B d l1 cb nb C e l2 cc nc D g l3 cd nd).mono fun e W' ⟨he, hw⟩ => ?_
  subst he
  have hbelow := Ext.below hw
  have hlt : ∀ x ∈ p0 ++ p1 ++ p2 ++ p3 ++ [], x.block < W.heap.size := fun x hx => by have := hW'.lt x (by simpa using hx); exact this
  have a0 := Below.trod Try.laidOut (by kernel_rfl) (of_decide_eq_true (by kernel_rfl)) h0k hbelow (fun x hx => hlt x (by simp [hx]))
  have a1 := Below.trod Try.laidOut (by kernel_rfl) (of_decide_eq_true (by kernel_rfl)) h1k hbelow (fun x hx => hlt x (by simp [hx]))
  have a2 := Below.trod Try.laidOut (by kernel_rfl) (of_decide_eq_true (by kernel_rfl)) h2k hbelow (fun x hx => hlt x (by simp [hx]))
  have a3 := Below.trod Try.laidOut (by kernel_rfl) (of_decide_eq_true (by kernel_rfl)) h3k hbelow (fun x hx => hlt x (by simp [hx]))
  refine ⟨_, rfl, _, _, _, [], _, [], hW', ?_, trodAll_mk4 a0 a1 a2 a3, rfl, hbelow.frame _, fun h => by cases h⟩
  exact trodAll_mk1 (trod_bool_mk true)

theorem back_holds : Rows.StackBackSaid :=
  OpenClaim.holds_of_wide 4 Try.f4 rfl rfl rfl rfl rfl rfl rfl ⟨rfl, rfl, rfl, rfl, rfl⟩ rfl rfl rfl rfl rfl (by kernel_rfl) Try.func4 (by kernel_rfl)
    (of_decide_eq_true (by kernel_rfl)) (by unfold Func.isWrapper; first | (rw [if_pos (by decide +kernel)]; kernel_rfl) | (rw [if_neg (by decide +kernel)]; exact ⟨rfl, rfl⟩))
    (fun os started H enc _ => back_lifted os started H enc)
end Go.Proofs.Yteendcbmoagdfaa
