/-
  StackBack, the plain laws: what is taken back of what was pushed.
-/
import Derived.Test.YteendcbmoagdfaaA1
set_option linter.unusedVariables false
set_option linter.unusedSimpArgs false
namespace Go.Proofs.Yteendcbmoagdfaa
open Go Go.Eng

theorem valF_closed {a b : Vl} (h : valF a b = true) : closedF a = true ∧ closedF b = true := by
  unfold valF at h
  split at h
  · cases h
  · rename_i hc
    cases ha : closedF a <;> cases hb : closedF b <;> simp [ha, hb] at hc ⊢
theorem valF_refl {v : Vl} (h : closedF v = true) : valF v v = true := by
  unfold valF
  rw [h]
  simp only [Bool.not_true, Bool.or_self, Bool.false_eq_true, if_false]
  by_cases hk : v.k = 3
  · rw [if_pos ⟨hk, hk⟩]
    unfold closedF at h
    rw [if_neg (by omega), if_pos hk] at h
    rw [Bool.or_eq_true] at h ⊢
    rcases h with h | h
    · exact .inl h
    · right
      have ht : topF v.hk v.hn ≠ 0 := by simpa using h
      have : heapF v.hk v.hn v.hk v.hn = true := by simp [heapF, ht]
      rw [this]
      cases v.nul <;> rfl
  · rw [if_neg (fun h => hk h.1)]
    simp [eqVl]
theorem valF_bot {v : Vl} : valF vBot v = closedF v := by
  unfold valF
  have : closedF vBot = true := rfl
  rw [this]
  cases hv : closedF v with
  | false => rfl
  | true =>
    simp only [Bool.not_true, Bool.or_self, Bool.false_eq_true, if_false]
    rw [if_neg (fun h => by cases h.1)]
    simp [vBot]

theorem valsF_nil : valsF [] [] = true := rfl
theorem valsF_snoc {l bs : List Vl} {x v : Vl} (hl : l.length = bs.length) : valsF (l ++ [x]) (bs ++ [v]) = (valsF l bs && valF x v) := by
  unfold valsF
  rw [List.zip_append hl]
  simp only [List.length_append, hl, List.all_append, beq_self_eq_true, Bool.true_and]
  simp

/-- Above a frame's height (or without a frame) a value that was pushed comes back. -/
theorem takesF_snoc {st : List Vl} {fr : List Frm} {x v : Vl} {vs : List Vl} (h : ∀ f, fr.getLast? = some f → f.ht ≤ st.length) : takesF (st ++ [x]) fr (vs ++ [v]) = if valF x v = true then takesF st fr vs else (141, st) := by
  have hp : popF (st ++ [x]) fr = (x, 0, st) := by
    unfold popF
    simp only [List.getLast?_append, List.getLast?_singleton, Option.some_or, List.dropLast_concat]
    cases hf : fr.getLast? with
    | none => rfl
    | some f =>
      have := h f hf
      simp only [List.length_append, List.length_singleton]
      rw [if_pos (by omega)]
  unfold takesF
  rw [List.reverse_append]
  simp only [List.reverse_cons, List.reverse_nil, List.nil_append, List.singleton_append, takesR, takeF, hp]
  cases hv : valF x v with
  | true => simp
  | false => simp

theorem takesF_same : ∀ (n : Nat) {st : List Vl} {fr : List Frm} {l bs : List Vl}, l.length = n → l.length = bs.length → (∀ f, fr.getLast? = some f → f.ht ≤ st.length) →
    (valsF l bs = true → takesF (st ++ l) fr bs = (0, st)) ∧ (valsF l bs = false → (takesF (st ++ l) fr bs).1 = 141)
  | 0, st, fr, l, bs, hn, hl, h => by
    have h1 : l = [] := List.length_eq_zero_iff.1 hn
    have h2 : bs = [] := List.length_eq_zero_iff.1 (by omega)
    subst h1 h2
    exact ⟨fun _ => by simp [takesF_nil], fun h => by cases h⟩
  | n + 1, st, fr, l, bs, hn, hl, h => by
    rcases List.eq_nil_or_concat l with rfl | ⟨l', x, rfl⟩
    · simp at hn
    rcases List.eq_nil_or_concat bs with rfl | ⟨bs', v, rfl⟩
    · simp at hl
    simp only [List.concat_eq_append] at hn hl ⊢
    have hl' : l'.length = bs'.length := by simpa using hl
    have hn' : l'.length = n := by simpa using hn
    have ih := takesF_same n (st := st) (fr := fr) hn' hl' h
    rw [← List.append_assoc, takesF_snoc (fun f hf => by have := h f hf; simp; omega), valsF_snoc hl']
    cases hv : valF x v with
    | true => simpa using ih
    | false => simp

/-- What was taken as types can be taken as them again. -/
theorem takesF_ok : ∀ (n : Nat) {st : List Vl} {bs : List Vl}, bs.length = n → (takesF st [] bs).1 = 0 → ∀ v ∈ bs, closedF v = true
  | 0, st, bs, hn, _ => by
    have h2 : bs = [] := List.length_eq_zero_iff.1 hn
    subst h2; simp
  | n + 1, st, bs, hn, h0 => by
    rcases List.eq_nil_or_concat bs with rfl | ⟨bs', v, rfl⟩
    · simp at hn
    simp only [List.concat_eq_append] at hn h0 ⊢
    rcases List.eq_nil_or_concat st with rfl | ⟨st', x, rfl⟩
    · unfold takesF at h0
      rw [List.reverse_append] at h0
      simp [takesR, takeF, popF] at h0
    simp only [List.concat_eq_append] at h0
    rw [takesF_snoc (by simp)] at h0
    split at h0
    · rename_i hv
      intro u hu
      rcases List.mem_append.1 hu with hu | hu
      · exact takesF_ok n (by simpa using hn) h0 u hu
      · simp at hu; subst hu; exact (valF_closed hv).2
    · cases h0
theorem valsF_self {l : List Vl} (h : ∀ v ∈ l, closedF v = true) : valsF l l = true :=
  valsF_true rfl fun i h1 h2 => valF_refl (h _ (List.getElem_mem h1))

/-- In a dead frame at its height: what types are taken, nothing changes; an error is that one of them is no type. -/
theorem takesR_dead (f : Frm) (st : List Vl) (h : f.ht = st.length) (hd : f.dead = true) : ∀ l, (takesR [f] l st).1 = 0 ∨ ((takesR [f] l st).1 = 141 ∧ ∃ v ∈ l, closedF v = false)
  | [] => .inl rfl
  | v :: l => by
    have hp := popF_at st [] f h
    rw [hd] at hp
    have hp : popF st [f] = (vBot, 0, st) := hp
    cases hv : closedF v with
    | true =>
      have h1 : takeF st [f] v = (0, st) := by simp [takeF, hp, valF_bot, hv]
      simp only [takesR, h1, if_true]
      rcases takesR_dead f st h hd l with h | ⟨h, u, hu, hc⟩
      · exact .inl h
      · exact .inr ⟨h, u, by simp [hu], hc⟩
    | false =>
      have h1 : takeF st [f] v = (141, st) := by simp [takeF, hp, valF_bot, hv]
      right
      simp only [takesR, h1]
      exact ⟨rfl, v, by simp, hv⟩
theorem valsF_notself {l : List Vl} {v : Vl} (hv : v ∈ l) (hc : closedF v = false) : valsF l l = false := by
  obtain ⟨i, hi, rfl⟩ := List.mem_iff_getElem.1 hv
  refine valsF_false hi hi ?_
  cases h : valF l[i] l[i] with
  | false => rfl
  | true => rw [(valF_closed h).1] at hc; cases hc
end Go.Proofs.Yteendcbmoagdfaa
