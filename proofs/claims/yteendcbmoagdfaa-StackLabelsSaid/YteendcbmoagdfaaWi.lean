/-
  StackWithin holds: for every input the call returns true, and each argument reads afterwards as it read before. (No condition.)
-/
import Derived.Test.YteendcbmoagdfaaA1
import Derived.Test.YteendcbmoagdfaaRows
import Derived.ProofKit
import Derived.Deep.Slices
import Derived.Deep.Strs
set_option linter.unusedVariables false
set_option linter.unusedSimpArgs false
namespace Go.Proofs.Yteendcbmoagdfaa
open Go.ChangeShapes Go.WideShapes Go.ChangeAt Go.RowKit

theorem Try.own : ownKnob Try.prog.godebug = none := by kernel_rfl
theorem Try.laidOut : laidOutB Try.prog = true := by kernel_rfl
theorem Try.cellsV : Try.prog.cellsOf 41 = 4 := by kernel_rfl
theorem Try.cellsH : Try.prog.cellsOf 39 = 2 := by kernel_rfl
theorem Try.cellsVK : Try.prog.cellsOf 36 = 1 := by kernel_rfl
theorem Try.cellsHK : Try.prog.cellsOf 37 = 1 := by kernel_rfl
theorem Try.cells3 : Try.prog.cellsOf 3 = 1 := by kernel_rfl
theorem Try.cells4 : Try.prog.cellsOf 4 = 1 := by kernel_rfl

instance : Inhabited Vl := ⟨vZ⟩

/-- One value type, read. -/
theorem open_val {H : Type} {enc : TypeId × Value → H} {W : World} {base : Nat} {sp : Nat → Bool} {hd : Bool} {n : Nat} {cs : List Value} {y : DataW H × List MemPlace} (h : DataW.trod enc Try.prog W base sp hd n 41 cs = some y) : ∃ x : Vl, cs = x.cs := by
  obtain ⟨y0, y1, y2, n', _, hl, h0, h1, h2⟩ := Go.Deep.trod_struct3 Try.underlying41 h
  rw [Try.cellsV] at hl
  simp only at h0 h1 h2
  rw [Try.cellsVK] at h0
  rw [Try.cells4] at h1
  rw [Try.cellsH] at h2
  match cs, hl with
  | [c0, c1, c2, c3], _ =>
    simp only [List.drop_zero, List.drop_succ_cons, List.take_succ_cons, List.take_zero] at h0 h1 h2
    obtain ⟨a, e0, _, _⟩ := DataW.trod_int Try.underlying36 h0
    obtain ⟨b, e1, _⟩ := DataW.trod_bool Try.underlying4 h1
    obtain ⟨z0, z1, n2, _, _, k0, k1⟩ := trod_struct2 Try.underlying39 h2
    simp only at k0 k1
    rw [Try.cellsHK] at k0
    rw [Try.cells3] at k1
    simp only [List.drop_zero, List.drop_succ_cons, List.take_succ_cons, List.take_zero] at k0 k1
    obtain ⟨c, e2, _, _⟩ := DataW.trod_int Try.underlying37 k0
    obtain ⟨d, e3, _, _⟩ := DataW.trod_int Try.underlying3 k1
    simp only [List.cons.injEq, and_true] at e0 e1 e2 e3
    subst e0 e1 e2 e3
    exact ⟨⟨a, b, c, d⟩, rfl⟩

theorem flat_range (f : Nat → Vl) (n : Nat) : ((List.range n).map f).length = n := by simp

/-- A list of value types that came in. -/
theorem cells_slice (a : Option Addr) (n c : Nat) : (Value.slice a n c).cells.toList = [.slice a n c] := rfl

set_option maxRecDepth 100000 in
theorem open_vals {H : Type} {enc : TypeId × Value → H} {W : World} {sp : Nat → Bool} {hd : Bool} {v : Value} {d : DataW H} {ps : List MemPlace} {base : Nat} (hv : Value.okWide Try.prog W .any base 22 v) (h : DataW.Trod enc Try.prog W 0 sp hd 22 v d ps) :
    ∃ (A : Option Addr) (c : Nat) (l : List Vl), v = .slice A l.length c ∧ Cs (· < W.heap.size) W A (flat l) ∧ (A = none → l = []) := by
  obtain ⟨a0, len, cap, rfl⟩ := okWide_slice Try.underlying22 hv
  obtain ⟨fuel, hf⟩ := h
  rcases Go.Deep.open_slice Try.underlying22 (by rw [cells_slice] at hf; exact hf) with ⟨hcs, _⟩ | ⟨a, len', cap', m, n, D, Pl, hcs, hb, hl, hm, hmm, hx, hel⟩
  · simp only [List.cons.injEq, Value.slice.injEq, and_true] at hcs
    obtain ⟨rfl, rfl, rfl⟩ := hcs
    exact ⟨none, 0, [], rfl, .inl rfl, fun _ => rfl⟩
  · simp only [List.cons.injEq, Value.slice.injEq, and_true] at hcs
    obtain ⟨rfl, rfl, rfl⟩ := hcs
    rw [Try.cellsV] at hel
    have hlm : len ≤ m := by rw [hmm]; split <;> omega
    have hex : ∀ i, i < len → ∃ x : Vl, W.cells? 0 (a.add (i * 4)) 4 = some x.cs := by
      intro i hi
      obtain ⟨cs', h1, h2⟩ := hel i (by omega)
      obtain ⟨x, rfl⟩ := open_val h2
      exact ⟨x, h1⟩
    obtain ⟨f, hf'⟩ := Go.Deep.choose_lt hex
    refine ⟨some a, cap, (List.range len).map f, by simp, ?_, fun h => by cases h⟩
    by_cases h0 : len = 0
    · subst h0; exact .inl rfl
    right
    have hcell : ∀ i j, i < len → j < 4 → W.cell? (a.add (i * 4 + j)) = (f i).cs[j]? := by
      intro i j hi hj
      have := (World.cells?_some (hf' i hi)).2.2 j hj
      rw [Go.Eng.add_add] at this
      exact this
    have hget : ∀ q, q < len * 4 → (flat ((List.range len).map f))[q]? = W.cell? (a.add q) := by
      intro q hq
      have := flat_get ((List.range len).map f) (q / 4) (by simp; omega) (q % 4) (Nat.mod_lt _ (by omega))
      rw [show q / 4 * 4 + q % 4 = q by omega] at this
      rw [this]
      simp only [List.getElem_map, List.getElem_range]
      have h2 := hcell (q / 4) (q % 4) (by omega) (Nat.mod_lt _ (by omega))
      rw [show q / 4 * 4 + q % 4 = q by omega] at h2
      exact h2.symm
    refine ⟨⟨a, rfl, World.cells?_block (hf' 0 (by omega)) (by omega), fun j hj => ?_⟩, fun i u hu => ?_⟩
    · rw [flat_length] at hj
      simp only [List.length_map, List.length_range] at hj
      rw [Nat.zero_add]
      have := hcell (j / 4) (j % 4) (by omega) (Nat.mod_lt _ (by omega))
      rw [show j / 4 * 4 + j % 4 = j by omega] at this
      rw [this]
      have : j % 4 < (f (j / 4)).cs.length := Nat.mod_lt _ (by simp [Vl.cs])
      rw [List.getElem?_eq_getElem this]; rfl
    · have hi : i < len * 4 := by
        have := (List.getElem?_eq_some_iff.1 hu).1
        rw [flat_length] at this
        simpa using this
      rw [hget i hi] at hu
      show ((some a).bind fun ad => W.cell? (ad.add i)).getD undef = u
      simp [hu]

set_option maxRecDepth 100000 in
theorem open_vals_trod {H : Type} {enc : TypeId × Value → H} {W : World} {sp : Nat → Bool} {hd : Bool} {fuel : Nat} {cs : List Value} {y : DataW H × List MemPlace} (h : DataW.trod enc Try.prog W 0 sp hd fuel 22 cs = some y) :
    ∃ (A : Option Addr) (c : Nat) (l : List Vl), cs = [.slice A l.length c] ∧ Cs (· < W.heap.size) W A (flat l) ∧ (A = none → l = []) := by
  rcases Go.Deep.open_slice Try.underlying22 h with ⟨hcs, _⟩ | ⟨a, len, cap, m, n, D, Pl, hcs, hb, hl, hm, hmm, hx, hel⟩
  · exact ⟨none, 0, [], hcs, .inl rfl, fun _ => rfl⟩
  · rw [Try.cellsV] at hel
    have hlm : len ≤ m := by rw [hmm]; split <;> omega
    have hex : ∀ i, i < len → ∃ x : Vl, W.cells? 0 (a.add (i * 4)) 4 = some x.cs := by
      intro i hi
      obtain ⟨cs', h1, h2⟩ := hel i (by omega)
      obtain ⟨x, rfl⟩ := open_val h2
      exact ⟨x, h1⟩
    obtain ⟨f, hf'⟩ := Go.Deep.choose_lt hex
    refine ⟨some a, cap, (List.range len).map f, by simpa using hcs, ?_, fun h => by cases h⟩
    by_cases h0 : len = 0
    · subst h0; exact .inl rfl
    right
    have hcell : ∀ i j, i < len → j < 4 → W.cell? (a.add (i * 4 + j)) = (f i).cs[j]? := by
      intro i j hi hj
      have := (World.cells?_some (hf' i hi)).2.2 j hj
      rw [Go.Eng.add_add] at this
      exact this
    have hget : ∀ q, q < len * 4 → (flat ((List.range len).map f))[q]? = W.cell? (a.add q) := by
      intro q hq
      have := flat_get ((List.range len).map f) (q / 4) (by simp; omega) (q % 4) (Nat.mod_lt _ (by omega))
      rw [show q / 4 * 4 + q % 4 = q by omega] at this
      rw [this]
      simp only [List.getElem_map, List.getElem_range]
      have h2 := hcell (q / 4) (q % 4) (by omega) (Nat.mod_lt _ (by omega))
      rw [show q / 4 * 4 + q % 4 = q by omega] at h2
      exact h2.symm
    refine ⟨⟨a, rfl, World.cells?_block (hf' 0 (by omega)) (by omega), fun j hj => ?_⟩, fun i u hu => ?_⟩
    · rw [flat_length] at hj
      simp only [List.length_map, List.length_range] at hj
      rw [Nat.zero_add]
      have := hcell (j / 4) (j % 4) (by omega) (Nat.mod_lt _ (by omega))
      rw [show j / 4 * 4 + j % 4 = j by omega] at this
      rw [this]
      have : j % 4 < (f (j / 4)).cs.length := Nat.mod_lt _ (by simp [Vl.cs])
      rw [List.getElem?_eq_getElem this]; rfl
    · have hi : i < len * 4 := by
        have := (List.getElem?_eq_some_iff.1 hu).1
        rw [flat_length] at this
        simpa using this
      rw [hget i hi] at hu
      show ((some a).bind fun ad => W.cell? (ad.add i)).getD undef = u
      simp [hu]

theorem Ext.below {W W' : World} (h : Go.Eng.Ext W W') : Below W.heap.size W W' := ⟨h.os, h.tape, h.output, h.size, fun k hk => h.block k hk⟩
theorem trod_bool_mk {H : Type} {enc : TypeId × Value → H} {W : World} {base : Nat} {sp : Nat → Bool} {hd : Bool} (b : Bool) : DataW.Trod enc Try.prog W base sp hd 4 (.bool b) (.lit (.bool b)) [] := ⟨1, by simp [DataW.trod, Try.underlying4, Value.cells]⟩

set_option maxRecDepth 100000 in
theorem within_lifted (os : Os) (started : os.Started) (H : Type) (enc : TypeId × Value → H) :
    ReturnsInHanded {} Try.checked os 3 .any (Rows.stackWithinSpec.pre6 enc Try.prog Try.f3 Rows.stackWithinRow.domain false) (Rows.stackWithinSpec.post enc Try.prog Try.f3 false true false false) := by
  refine returnsInHanded_of_change (C := Try.checked) Try.own started (by kernel_rfl) Try.func3
    (ChangeSpec.witness6 (enc := enc) (C := Try.checked) false ⟨#[], #[.slice none 0 0, .slice none 0 0, .bool false], []⟩ 8 (by kernel_rfl) (by kernel_rfl) (by kernel_rfl) (by kernel_rfl)) ?_
  intro W base args ds gs before hval0 hW hcnd _
  have hval : ∀ (j : Nat) t v, Try.f3.params[j]? = some t → args[j]? = some v → Value.okWide Try.prog W .any base t v := hval0
  have hW' := hW
  obtain ⟨p, q, hA0, hV, rfl, hfz, hnd⟩ := hW
  have hA : DataW.TrodAll enc Try.prog W 0 (fun _ => true) true Try.f3.params.toList args.toList ds p := hA0
  rw [Try.params3] at hA hval
  obtain ⟨v0, v1, v2, d0, d1, d2, p0, p1, p2, rfl, rfl, rfl, h0, h1, h2⟩ := trodAll_three hA
  obtain ⟨rfl, rfl⟩ := trodVars_none hV
  have h0k := h0
  have h1k := h1
  obtain ⟨A, c, l, rfl, ca, na⟩ := open_vals (hval 0 22 v0 rfl rfl) h0
  obtain ⟨B, d, k, rfl, cb, nb⟩ := open_vals (hval 1 22 v1 rfl rfl) h1
  obtain ⟨b, rfl, rfl, rfl⟩ : ∃ b, v2 = .bool b ∧ d2 = .lit (.bool b) ∧ p2 = [] := by
    obtain ⟨b, rfl⟩ := okWide_bool Try.underlying4 (hval 2 4 v2 rfl rfl)
    obtain ⟨n, h2⟩ := h2
    obtain ⟨b', e1, e2⟩ := DataW.trod_bool Try.underlying4 h2
    have e1 : [Value.bool b] = [.bool b'] := e1
    simp only [List.cons.injEq, Value.bool.injEq, and_true] at e1
    subst e1
    simp only [Prod.mk.injEq] at e2
    exact ⟨b, rfl, e2.1, e2.2⟩
  clear hval0 hA hA0
  refine (m_within A c l ca na B d k cb nb b).mono fun e W' ⟨he, hw⟩ => ?_
  subst he
  have hbelow := Ext.below hw
  have hlt : ∀ x ∈ p0 ++ p1 ++ [] ++ [], x.block < W.heap.size := fun x hx => by simpa using hW'.lt x hx
  have a0 := Below.trod Try.laidOut (by kernel_rfl) (of_decide_eq_true (by kernel_rfl)) h0k hbelow (fun x hx => hlt x (by simp [hx]))
  have a1 := Below.trod Try.laidOut (by kernel_rfl) (of_decide_eq_true (by kernel_rfl)) h1k hbelow (fun x hx => hlt x (by simp [hx]))
  refine ⟨_, rfl, _, _, _, [], p0 ++ (p1 ++ ([] ++ [])), [], hW', ?_, ?_, rfl, hbelow.frame _, fun h => by cases h⟩
  · exact trodAll_mk1 (trod_bool_mk true)
  · exact trodAll_mk3 a0 a1 (trod_bool_mk b)

theorem within_holds : Rows.StackWithinSaid :=
  OpenClaim.holds_of_wide 3 Try.f3 rfl rfl rfl rfl rfl rfl rfl ⟨rfl, rfl, rfl, rfl, rfl⟩ rfl rfl rfl rfl rfl (by kernel_rfl) Try.func3 (by kernel_rfl)
    (of_decide_eq_true (by kernel_rfl)) (by unfold Func.isWrapper; first | (rw [if_pos (by decide +kernel)]; kernel_rfl) | (rw [if_neg (by decide +kernel)]; exact ⟨rfl, rfl⟩))
    (fun os started H enc _ => within_lifted os started H enc)
end Go.Proofs.Yteendcbmoagdfaa
