/-
  StackLabels holds: for every input the call returns true, and each argument reads afterwards as it read before. (No condition.)
-/
import Derived.Test.YteendcbmoagdfaaL1
import Derived.Test.YteendcbmoagdfaaWi
set_option linter.unusedVariables false
set_option linter.unusedSimpArgs false
namespace Go.Proofs.Yteendcbmoagdfaa
open Go.ChangeShapes Go.WideShapes Go.ChangeAt Go.RowKit

instance : Inhabited RV := ⟨rv0⟩
theorem Try.cellsI : Try.prog.cellsOf 3 = 1 := by kernel_rfl
theorem Try.cellsS : Try.prog.cellsOf 22 = 1 := by kernel_rfl

/-- A list whose elements are one cell each, that came in. -/
theorem cs_of_cells {W : World} {a : Addr} {len : Nat} {cs : List Value} (hl : cs.length = len) (hb : 0 < len → a.block < W.heap.size) (h : ∀ i u, cs[i]? = some u → W.cell? (a.add i) = some u) : Cs (· < W.heap.size) W (some a) cs := by
  by_cases h0 : len = 0
  · subst h0; exact .inl (List.eq_nil_of_length_eq_zero hl)
  right
  refine ⟨⟨a, rfl, hb (by omega), fun j hj => ?_⟩, fun i u hu => ?_⟩
  · rw [Nat.zero_add, h j cs[j] (List.getElem?_eq_getElem hj)]; rfl
  · show ((some a).bind fun ad => W.cell? (ad.add i)).getD undef = u
    simp [h i u hu]

set_option maxRecDepth 100000 in
theorem open_ints' {H : Type} {enc : TypeId × Value → H} {W : World} {sp : Nat → Bool} {hd : Bool} {v : Value} {d : DataW H} {ps : List MemPlace} {base : Nat} (hv : Value.okWide Try.prog W .any base 49 v) (h : DataW.Trod enc Try.prog W 0 sp hd 49 v d ps) :
    ∃ (A : Option Addr) (c : Nat) (l : List Int), v = .slice A l.length c ∧ Cs (· < W.heap.size) W A (icells l) := by
  obtain ⟨a0, len, cap, rfl⟩ := okWide_slice Try.underlying49 hv
  obtain ⟨fuel, hf⟩ := h
  rcases Go.Deep.open_slice Try.underlying49 (by rw [cells_slice] at hf; exact hf) with ⟨hcs, _⟩ | ⟨a, len', cap', m, n, D, Pl, hcs, hb, hl, hm, hmm, hx, hel⟩
  · simp only [List.cons.injEq, Value.slice.injEq, and_true] at hcs
    obtain ⟨rfl, rfl, rfl⟩ := hcs
    exact ⟨none, 0, [], rfl, .inl rfl⟩
  · simp only [List.cons.injEq, Value.slice.injEq, and_true] at hcs
    obtain ⟨rfl, rfl, rfl⟩ := hcs
    rw [Try.cellsI] at hel
    have hlm : len ≤ m := by rw [hmm]; split <;> omega
    have hex : ∀ i, i < len → ∃ x : Int, W.cell? (a.add i) = some (.int .i64 x) ∧ a.block < W.heap.size := by
      intro i hi
      obtain ⟨cs', h1, h2⟩ := hel i (by omega)
      obtain ⟨x, e0, _, _⟩ := DataW.trod_int Try.underlying3 h2
      subst e0
      rw [Nat.mul_one] at h1
      have h3 := (World.cells?_some h1).2.2 0 (by omega)
      have h4 := World.cells?_block h1 (by omega)
      rw [Go.Eng.add_block] at h4
      rw [Go.Eng.add_add] at h3
      exact ⟨x, h3, h4⟩
    obtain ⟨f, hf'⟩ := Go.Deep.choose_lt hex
    refine ⟨some a, cap, (List.range len).map f, by simp, cs_of_cells (by rw [icells_length]) (fun h0 => ?_) fun i u hu => ?_⟩
    · exact (hf' 0 (by simpa using h0)).2
    · have hi := (List.getElem?_eq_some_iff.1 hu).1
      rw [icells_length] at hi
      rw [icells_get hi] at hu
      injection hu with hu
      subst hu
      simp only [List.length_map, List.length_range] at hi
      rw [(hf' i hi).1]
      simp

set_option maxRecDepth 100000 in
theorem open_rows {H : Type} {enc : TypeId × Value → H} {W : World} {sp : Nat → Bool} {hd : Bool} {v : Value} {d : DataW H} {ps : List MemPlace} {base : Nat} (hv : Value.okWide Try.prog W .any base 50 v) (h : DataW.Trod enc Try.prog W 0 sp hd 50 v d ps) :
    ∃ (A : Option Addr) (c : Nat) (l : List RV), v = .slice A l.length c ∧ Cs (· < W.heap.size) W A (rcells l) ∧ ∀ r ∈ l, Cs (· < W.heap.size) W r.a (flat r.l) ∧ (r.a = none → r.l = []) := by
  obtain ⟨a0, len, cap, rfl⟩ := okWide_slice Try.underlying50 hv
  obtain ⟨fuel, hf⟩ := h
  rcases Go.Deep.open_slice Try.underlying50 (by rw [cells_slice] at hf; exact hf) with ⟨hcs, _⟩ | ⟨a, len', cap', m, n, D, Pl, hcs, hb, hl, hm, hmm, hx, hel⟩
  · simp only [List.cons.injEq, Value.slice.injEq, and_true] at hcs
    obtain ⟨rfl, rfl, rfl⟩ := hcs
    exact ⟨none, 0, [], rfl, .inl rfl, by simp⟩
  · simp only [List.cons.injEq, Value.slice.injEq, and_true] at hcs
    obtain ⟨rfl, rfl, rfl⟩ := hcs
    rw [Try.cellsS] at hel
    have hlm : len ≤ m := by rw [hmm]; split <;> omega
    have hex : ∀ i, i < len → ∃ x : RV, W.cell? (a.add i) = some (.slice x.a x.l.length x.c) ∧ a.block < W.heap.size ∧ Cs (· < W.heap.size) W x.a (flat x.l) ∧ (x.a = none → x.l = []) := by
      intro i hi
      obtain ⟨cs', h1, h2⟩ := hel i (by omega)
      rw [Nat.mul_one] at h1
      have h3 := (World.cells?_some h1).2.2 0 (by omega)
      have h4 := World.cells?_block h1 (by omega)
      rw [Go.Eng.add_block] at h4
      rw [Go.Eng.add_add] at h3
      have hlen := (World.cells?_some h1).2.1
      obtain ⟨B, c, l, hcs', hc, hn⟩ := open_vals_trod h2
      subst hcs'
      exact ⟨⟨B, c, l⟩, h3, h4, hc, hn⟩
    obtain ⟨f, hf'⟩ := Go.Deep.choose_lt hex
    refine ⟨some a, cap, (List.range len).map f, by simp, cs_of_cells (by rw [rcells_length]) (fun h0 => ?_) fun i u hu => ?_, ?_⟩
    · exact (hf' 0 (by simpa using h0)).2.1
    · have hi := (List.getElem?_eq_some_iff.1 hu).1
      rw [rcells_length] at hi
      rw [rcells_get hi] at hu
      injection hu with hu
      subst hu
      simp only [List.length_map, List.length_range] at hi
      rw [(hf' i hi).1]
      simp
    · intro r hr
      obtain ⟨i, hi, rfl⟩ := List.mem_map.1 hr
      have := hf' i (List.mem_range.1 hi)
      exact ⟨this.2.2.1, this.2.2.2⟩

set_option maxRecDepth 100000 in
theorem labels_lifted (os : Os) (started : os.Started) (H : Type) (enc : TypeId × Value → H) :
    ReturnsInHanded {} Try.checked os 5 .any (Rows.stackLabelsSpec.pre6 enc Try.prog Try.f5 Rows.stackLabelsRow.domain false) (Rows.stackLabelsSpec.post enc Try.prog Try.f5 false true false false) := by
  refine returnsInHanded_of_change (C := Try.checked) Try.own started (by kernel_rfl) Try.func5
    (ChangeSpec.witness6 (enc := enc) (C := Try.checked) false ⟨#[], #[.slice none 0 0, .slice none 0 0], []⟩ 8 (by kernel_rfl) (by kernel_rfl) (by kernel_rfl) (by kernel_rfl)) ?_
  intro W base args ds gs before hval0 hW hcnd _
  have hval : ∀ (j : Nat) t v, Try.f5.params[j]? = some t → args[j]? = some v → Value.okWide Try.prog W .any base t v := hval0
  have hW' := hW
  obtain ⟨p, q, hA0, hV, rfl, hfz, hnd⟩ := hW
  have hA : DataW.TrodAll enc Try.prog W 0 (fun _ => true) true Try.f5.params.toList args.toList ds p := hA0
  rw [Try.params5] at hA hval
  obtain ⟨v0, v1, d0, d1, p0, p1, rfl, rfl, rfl, h0, h1⟩ := trodAll_two hA
  obtain ⟨rfl, rfl⟩ := trodVars_none hV
  have h0k := h0
  have h1k := h1
  obtain ⟨A, c, l, rfl, ca⟩ := open_ints' (hval 0 49 v0 rfl rfl) h0
  obtain ⟨B, d, k, rfl, cb, nb⟩ := open_rows (hval 1 50 v1 rfl rfl) h1
  clear hval0 hA hA0
  refine (m_labels A c l ca B d k cb nb).mono fun e W' ⟨he, hw⟩ => ?_
  subst he
  have hbelow := Ext.below hw
  have hlt : ∀ x ∈ p0 ++ p1 ++ [], x.block < W.heap.size := fun x hx => by simpa using hW'.lt x hx
  have a0 := Below.trod Try.laidOut (by kernel_rfl) (of_decide_eq_true (by kernel_rfl)) h0k hbelow (fun x hx => hlt x (by simp [hx]))
  have a1 := Below.trod Try.laidOut (by kernel_rfl) (of_decide_eq_true (by kernel_rfl)) h1k hbelow (fun x hx => hlt x (by simp [hx]))
  refine ⟨_, rfl, _, _, _, [], p0 ++ p1, [], hW', ?_, ?_, rfl, hbelow.frame _, fun h => by cases h⟩
  · exact trodAll_mk1 (trod_bool_mk true)
  · exact trodAll_mk2 a0 a1

theorem labels_holds : Rows.StackLabelsSaid :=
  OpenClaim.holds_of_wide 5 Try.f5 rfl rfl rfl rfl rfl rfl rfl ⟨rfl, rfl, rfl, rfl, rfl⟩ rfl rfl rfl rfl rfl (by kernel_rfl) Try.func5 (by kernel_rfl)
    (of_decide_eq_true (by kernel_rfl)) (by unfold Func.isWrapper; first | (rw [if_pos (by decide +kernel)]; kernel_rfl) | (rw [if_neg (by decide +kernel)]; exact ⟨rfl, rfl⟩))
    (fun os started H enc _ => labels_lifted os started H enc)
end Go.Proofs.Yteendcbmoagdfaa
