/-
  Stack seat: the families of the heap types that are given, over a table without types.
-/
import Derived.Test.YteendcbmoagdfaaM
set_option linter.unusedVariables false
set_option linter.unusedSimpArgs false
set_option maxRecDepth 20000
namespace Go.Proofs.Yteendcbmoagdfaa
open Go Go.Eng

def topsF (k : Int) : Int := if 1 ≤ k ∧ k ≤ 6 then 1 else if 7 ≤ k ∧ k ≤ 8 then 7 else if 9 ≤ k ∧ k ≤ 10 then 9 else if 11 ≤ k ∧ k ≤ 12 then 11 else 0
def aboveF (k : Int) : Int := if k = 2 then 1 else if 3 ≤ k ∧ k ≤ 5 then 2 else 0

theorem k12 (k : Int) : k = 1 ∨ k = 2 ∨ k = 3 ∨ k = 4 ∨ k = 5 ∨ k = 6 ∨ k = 7 ∨ k = 8 ∨ k = 9 ∨ k = 10 ∨ k = 11 ∨ k = 12 ∨ (k < 1 ∨ 12 < k) := by omega
theorem beq_ff {a b : Int} (h : a ≠ b) : (a == b) = false := by simp [h]

theorem m_tops {w : World} (k : Int) : Calls Try.prog 55 #[.int .i64 k] w fun e w' => e = .returned (.int .i64 (topsF k)) ∧ Ext w w' := by
  refine start0 (args := [.v (.int .i64 k)]) (G := (· < w.heap.size)) Try.func55 rfl Try.ntmps55 (by simp [SV.lt]) (fun _ h => h) ?_
  refine Res.run 1000 ?_
  rcases k12 k with rfl | rfl | rfl | rfl | rfl | rfl | rfl | rfl | rfl | rfl | rfl | rfl | h
  iterate 12
    simp only [↓reduceIte, Nat.reduceEqDiff, Nat.reduceAdd, Nat.reduceSub, Nat.reduceMul, Nat.reduceLT, Int.reduceToNat, Int.reduceBEq, Int.reduceBNe, Int.reduceLT, Int.reduceLE, E, E', TY]
    exact Ret.one rfl (by kernel_rfl)
  have h1 : (k == 1) = false := beq_ff (by omega)
  have h2 : (k == 2) = false := beq_ff (by omega)
  have h3 : (k == 3) = false := beq_ff (by omega)
  have h4 : (k == 4) = false := beq_ff (by omega)
  have h5 : (k == 5) = false := beq_ff (by omega)
  have h6 : (k == 6) = false := beq_ff (by omega)
  have h7 : (k == 7) = false := beq_ff (by omega)
  have h8 : (k == 8) = false := beq_ff (by omega)
  have h9 : (k == 9) = false := beq_ff (by omega)
  have h10 : (k == 10) = false := beq_ff (by omega)
  have h11 : (k == 11) = false := beq_ff (by omega)
  have h12 : (k == 12) = false := beq_ff (by omega)
  have hf : topsF k = 0 := by unfold topsF; rw [if_neg (by omega), if_neg (by omega), if_neg (by omega), if_neg (by omega)]
  rw [hf]
  simp only [↓reduceIte, Nat.reduceEqDiff, Nat.reduceAdd, Nat.reduceSub, Nat.reduceMul, Nat.reduceLT, Int.reduceToNat, Int.reduceBEq, Int.reduceBNe, Int.reduceLT, Int.reduceLE, E, E', TY, h1, h2, h3, h4, h5, h6, h7, h8, h9, h10, h11, h12]
  exact Ret.one rfl (by kernel_rfl)

theorem m_above {w : World} (k : Int) : Calls Try.prog 58 #[.int .i64 k] w fun e w' => e = .returned (.int .i64 (aboveF k)) ∧ Ext w w' := by
  refine start0 (args := [.v (.int .i64 k)]) (G := (· < w.heap.size)) Try.func58 rfl Try.ntmps58 (by simp [SV.lt]) (fun _ h => h) ?_
  refine Res.run 1000 ?_
  by_cases h2 : k = 2
  · subst h2
    simp only [↓reduceIte, Nat.reduceEqDiff, Nat.reduceAdd, Nat.reduceSub, Nat.reduceMul, Nat.reduceLT, Int.reduceToNat, Int.reduceBEq, Int.reduceBNe, Int.reduceLT, Int.reduceLE, E, E', TY]
    exact Ret.one rfl (by kernel_rfl)
  by_cases h3 : k = 3
  · subst h3
    simp only [↓reduceIte, Nat.reduceEqDiff, Nat.reduceAdd, Nat.reduceSub, Nat.reduceMul, Nat.reduceLT, Int.reduceToNat, Int.reduceBEq, Int.reduceBNe, Int.reduceLT, Int.reduceLE, E, E', TY]
    exact Ret.one rfl (by kernel_rfl)
  by_cases h4 : k = 4
  · subst h4
    simp only [↓reduceIte, Nat.reduceEqDiff, Nat.reduceAdd, Nat.reduceSub, Nat.reduceMul, Nat.reduceLT, Int.reduceToNat, Int.reduceBEq, Int.reduceBNe, Int.reduceLT, Int.reduceLE, E, E', TY]
    exact Ret.one rfl (by kernel_rfl)
  by_cases h5 : k = 5
  · subst h5
    simp only [↓reduceIte, Nat.reduceEqDiff, Nat.reduceAdd, Nat.reduceSub, Nat.reduceMul, Nat.reduceLT, Int.reduceToNat, Int.reduceBEq, Int.reduceBNe, Int.reduceLT, Int.reduceLE, E, E', TY]
    exact Ret.one rfl (by kernel_rfl)
  have hf : aboveF k = 0 := by unfold aboveF; rw [if_neg (by omega), if_neg (by omega)]
  rw [hf]
  simp only [↓reduceIte, Nat.reduceEqDiff, Nat.reduceAdd, Nat.reduceSub, Nat.reduceMul, Nat.reduceLT, Int.reduceToNat, Int.reduceBEq, Int.reduceBNe, Int.reduceLT, Int.reduceLE, E, E', TY, beq_ff h2, beq_ff h3, beq_ff h4, beq_ff h5]
  exact Ret.one rfl (by kernel_rfl)

theorem m_gone {w : World} {t : Nat} (h : ETab w t) : Calls Try.prog 35 #[.pointer (some ⟨t, 0, none⟩)] w fun e w' => e = .returned (.bool false) ∧ Ext w w' := by
  refine start0 (args := [.v (.pointer (some ⟨t, 0, none⟩))]) (G := (· < w.heap.size)) Try.func35 rfl Try.ntmps35 (by simp [SV.lt]) (fun _ h => h) ?_
  refine Res.run 1000 ?_
  simp only [↓reduceIte, Nat.reduceEqDiff, Nat.reduceAdd, Nat.reduceSub, Nat.reduceMul, Nat.reduceLT, Int.reduceToNat, Int.reduceBEq, Int.reduceBNe, Int.reduceLT, Int.reduceLE, E, E', TY]
  refine ⟨fnok40, CallAt.pure #[.pointer (some ⟨t, 0, none⟩), .int .i64 (-1)] (.tuple #[subZ, .int .i64 4]) (fun _ => rfl) (fun w' hw => roll_get (h.keep hw) (-1)) (Res.run 900 ?_)⟩
  simp only [↓reduceIte, Nat.reduceEqDiff, Nat.reduceAdd, Nat.reduceSub, Nat.reduceMul, Nat.reduceLT, Int.reduceToNat, Int.reduceBEq, Int.reduceBNe, Int.reduceLT, Int.reduceLE, E, E', TY, subZ]
  exact Ret.one rfl (by kernel_rfl)

theorem m_of {w : World} {t : Nat} (h : ETab w t) (k n : Int) : Calls Try.prog 54 #[.pointer (some ⟨t, 0, none⟩), .agg #[.int .i64 k, .int .i64 n]] w fun e w' => e = .returned (.tuple #[subZ, .bool false]) ∧ Ext w w' := by
  refine start0 (args := [.v (.pointer (some ⟨t, 0, none⟩)), .v (.agg #[.int .i64 k, .int .i64 n])]) (G := (· < w.heap.size)) Try.func54 rfl Try.ntmps54 (by simp [SV.lt]) (fun _ h => h) ?_
  refine Res.run 1000 ?_
  by_cases hk : k = 15
  · subst hk
    simp only [↓reduceIte, Nat.reduceEqDiff, Nat.reduceAdd, Nat.reduceSub, Nat.reduceMul, Nat.reduceLT, Int.reduceToNat, Int.reduceBEq, Int.reduceBNe, Int.reduceLT, Int.reduceLE, E, E', TY]
    refine ⟨fnok40, CallAt.pure #[.pointer (some ⟨t, 0, none⟩), .int .i64 n] (.tuple #[subZ, .int .i64 4]) (fun _ => rfl) (fun w' hw => roll_get (h.keep hw) n) (Res.run 900 ?_)⟩
    simp only [↓reduceIte, Nat.reduceEqDiff, Nat.reduceAdd, Nat.reduceSub, Nat.reduceMul, Nat.reduceLT, Int.reduceToNat, Int.reduceBEq, Int.reduceBNe, Int.reduceLT, Int.reduceLE, E, E', TY, subZ]
    exact Ret.det [.agg [.v (.bool false), .v (.slice none 0 0), .v (.int .i64 0), .v (.slice none 0 0), .v (.slice none 0 0), .v (.slice none 0 0)], .v (.bool false)] rfl (by kernel_rfl) (fun _ => rfl)
  · have hk' : (k != 15) = true := by simp [hk]
    simp only [↓reduceIte, Nat.reduceEqDiff, Nat.reduceAdd, Nat.reduceSub, Nat.reduceMul, Nat.reduceLT, Int.reduceToNat, Int.reduceBEq, Int.reduceBNe, Int.reduceLT, Int.reduceLE, E, E', TY, hk']
    exact Ret.det [.agg [.v (.bool false), .v (.slice none 0 0), .v (.int .i64 0), .v (.slice none 0 0), .v (.slice none 0 0), .v (.slice none 0 0)], .v (.bool false)] rfl (by kernel_rfl) (fun _ => rfl)

/-- The family of a heap type (its kind), over a table without types. -/
def topF (k n : Int) : Int := if n = 0 then topsF k else 0

theorem m_Top {w : World} {t : Nat} (h : ETab w t) (k n : Int) : Calls Try.prog 52 #[.pointer (some ⟨t, 0, none⟩), .agg #[.int .i64 k, .int .i64 n]] w fun e w' => e = .returned (.agg #[.int .i64 (topF k n), .int .i64 0]) ∧ Ext w w' := by
  refine start0 (args := [.v (.pointer (some ⟨t, 0, none⟩)), .v (.agg #[.int .i64 k, .int .i64 n])]) (G := (· < w.heap.size)) Try.func52 rfl Try.ntmps52 (by simp [SV.lt]) (fun _ h => h) ?_
  refine Res.run 1000 ?_
  simp only [↓reduceIte, Nat.reduceEqDiff, Nat.reduceAdd, Nat.reduceSub, Nat.reduceMul, Nat.reduceLT, Int.reduceToNat, Int.reduceBEq, Int.reduceBNe, Int.reduceLT, Int.reduceLE, E, E', TY]
  refine ⟨fnok35, CallAt.pure #[.pointer (some ⟨t, 0, none⟩)] (.bool false) (fun _ => rfl) (fun w' hw => m_gone (h.keep hw)) (Res.run 900 ?_)⟩
  simp only [↓reduceIte, Nat.reduceEqDiff, Nat.reduceAdd, Nat.reduceSub, Nat.reduceMul, Nat.reduceLT, Int.reduceToNat, Int.reduceBEq, Int.reduceBNe, Int.reduceLT, Int.reduceLE, E, E', TY]
  refine ⟨fnok54, CallAt.pure #[.pointer (some ⟨t, 0, none⟩), .agg #[.int .i64 k, .int .i64 n]] (.tuple #[subZ, .bool false]) (fun _ => rfl) (fun w' hw => m_of (h.keep hw) k n) (Res.run 900 ?_)⟩
  by_cases hn : n = 0
  · subst hn
    simp only [↓reduceIte, Nat.reduceEqDiff, Nat.reduceAdd, Nat.reduceSub, Nat.reduceMul, Nat.reduceLT, Int.reduceToNat, Int.reduceBEq, Int.reduceBNe, Int.reduceLT, Int.reduceLE, E, E', TY, subZ]
    refine ⟨fnok55, CallAt.pure #[.int .i64 k] (.int .i64 (topsF k)) (fun _ => rfl) (fun w' hw => m_tops k) (Res.run 900 ?_)⟩
    have hf : topF k 0 = topsF k := by simp [topF]
    rw [hf]
    simp only [↓reduceIte, Nat.reduceEqDiff, Nat.reduceAdd, Nat.reduceSub, Nat.reduceMul, Nat.reduceLT, Int.reduceToNat, Int.reduceBEq, Int.reduceBNe, Int.reduceLT, Int.reduceLE, E, E', TY]
    exact Ret.det [.agg [.v (.int .i64 (topsF k)), .v (.int .i64 0)]] rfl (by kernel_rfl) (fun _ => rfl)
  · have hn' : (n != 0) = true := by simp [hn]
    have hf : topF k n = 0 := by simp [topF, hn]
    rw [hf]
    simp only [↓reduceIte, Nat.reduceEqDiff, Nat.reduceAdd, Nat.reduceSub, Nat.reduceMul, Nat.reduceLT, Int.reduceToNat, Int.reduceBEq, Int.reduceBNe, Int.reduceLT, Int.reduceLE, E, E', TY, hn', subZ]
    exact Ret.det [.agg [.v (.int .i64 0), .v (.int .i64 0)]] rfl (by kernel_rfl) (fun _ => rfl)
end Go.Proofs.Yteendcbmoagdfaa
