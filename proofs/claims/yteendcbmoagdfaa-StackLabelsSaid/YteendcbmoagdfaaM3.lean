/-
  Stack seat: matching of heap and value types over a table without types.
-/
import Derived.Test.YteendcbmoagdfaaM2
set_option linter.unusedVariables false
set_option linter.unusedSimpArgs false
set_option maxRecDepth 20000
namespace Go.Proofs.Yteendcbmoagdfaa
open Go Go.Eng

def bottomF (k : Int) : Int := if k = 1 then 6 else if k = 7 then 8 else if k = 9 then 10 else if k = 11 then 12 else 0

theorem m_Bottom {w : World} {t : Nat} (h : ETab w t) (k n : Int) : Calls Try.prog 57 #[.pointer (some ⟨t, 0, none⟩), .agg #[.int .i64 k, .int .i64 n]] w fun e w' => e = .returned (.agg #[.int .i64 (bottomF (topF k n)), .int .i64 0]) ∧ Ext w w' := by
  refine start0 (args := [.v (.pointer (some ⟨t, 0, none⟩)), .v (.agg #[.int .i64 k, .int .i64 n])]) (G := (· < w.heap.size)) Try.func57 rfl Try.ntmps57 (by simp [SV.lt]) (fun _ h => h) ?_
  refine Res.run 1000 ?_
  simp only [↓reduceIte, Nat.reduceEqDiff, Nat.reduceAdd, Nat.reduceSub, Nat.reduceMul, Nat.reduceLT, Int.reduceToNat, Int.reduceBEq, Int.reduceBNe, Int.reduceLT, Int.reduceLE, E, E', TY]
  refine ⟨fnok52, CallAt.pure #[.pointer (some ⟨t, 0, none⟩), .agg #[.int .i64 k, .int .i64 n]] (.agg #[.int .i64 (topF k n), .int .i64 0]) (fun _ => rfl) (fun w' hw => m_Top (h.keep hw) k n) (Res.run 900 ?_)⟩
  generalize topF k n = m
  by_cases h1 : m = 1
  · subst h1
    simp only [↓reduceIte, Nat.reduceEqDiff, Nat.reduceAdd, Nat.reduceSub, Nat.reduceMul, Nat.reduceLT, Int.reduceToNat, Int.reduceBEq, Int.reduceBNe, Int.reduceLT, Int.reduceLE, E, E', TY]
    exact Ret.det [.agg [.v (.int .i64 6), .v (.int .i64 0)]] rfl (by kernel_rfl) (fun _ => rfl)
  by_cases h7 : m = 7
  · subst h7
    simp only [↓reduceIte, Nat.reduceEqDiff, Nat.reduceAdd, Nat.reduceSub, Nat.reduceMul, Nat.reduceLT, Int.reduceToNat, Int.reduceBEq, Int.reduceBNe, Int.reduceLT, Int.reduceLE, E, E', TY]
    exact Ret.det [.agg [.v (.int .i64 8), .v (.int .i64 0)]] rfl (by kernel_rfl) (fun _ => rfl)
  by_cases h9 : m = 9
  · subst h9
    simp only [↓reduceIte, Nat.reduceEqDiff, Nat.reduceAdd, Nat.reduceSub, Nat.reduceMul, Nat.reduceLT, Int.reduceToNat, Int.reduceBEq, Int.reduceBNe, Int.reduceLT, Int.reduceLE, E, E', TY]
    exact Ret.det [.agg [.v (.int .i64 10), .v (.int .i64 0)]] rfl (by kernel_rfl) (fun _ => rfl)
  by_cases h11 : m = 11
  · subst h11
    simp only [↓reduceIte, Nat.reduceEqDiff, Nat.reduceAdd, Nat.reduceSub, Nat.reduceMul, Nat.reduceLT, Int.reduceToNat, Int.reduceBEq, Int.reduceBNe, Int.reduceLT, Int.reduceLE, E, E', TY]
    exact Ret.det [.agg [.v (.int .i64 12), .v (.int .i64 0)]] rfl (by kernel_rfl) (fun _ => rfl)
  have hf : bottomF m = 0 := by simp [bottomF, h1, h7, h9, h11]
  rw [hf]
  simp only [↓reduceIte, Nat.reduceEqDiff, Nat.reduceAdd, Nat.reduceSub, Nat.reduceMul, Nat.reduceLT, Int.reduceToNat, Int.reduceBEq, Int.reduceBNe, Int.reduceLT, Int.reduceLE, E, E', TY, beq_ff h1, beq_ff h7, beq_ff h9, beq_ff h11]
  exact Ret.det [.agg [.v (.int .i64 0), .v (.int .i64 0)]] rfl (by kernel_rfl) (fun _ => rfl)

/-- One heap type matches another, over a table without types. -/
def climbF : Nat → Int → Int → Int → Bool
  | 0, _, _, _ => false
  | f + 1, k, bk, bn => if k = 0 then false else if bk = k ∧ bn = 0 then true else climbF f (aboveF k) bk bn
def heapF (ak an bk bn : Int) : Bool :=
  if topF ak an = 0 then false else if topF ak an ≠ topF bk bn then false
  else if (ak = bk ∧ an = bn) ∨ (ak = bottomF (topF bk bn) ∧ an = 0) then true else climbF 13 ak bk bn

theorem topsF_range (k : Int) (h : topsF k ≠ 0) : 1 ≤ k ∧ k ≤ 12 := by
  unfold topsF at h
  refine ⟨?_, ?_⟩ <;> (repeat' split at h) <;> omega
theorem aboveF_lt (k : Int) (h : 1 ≤ k) : 0 ≤ aboveF k ∧ aboveF k < k := by
  unfold aboveF
  split
  · omega
  · split <;> omega
theorem climbF_fuel (f g : Nat) (k bk bn : Int) (h0 : 0 ≤ k) (hf : k ≤ f) (hg : k ≤ g) : climbF (f + 1) k bk bn = climbF (g + 1) k bk bn := by
  induction f generalizing k g with
  | zero =>
    have : k = 0 := by omega
    subst this
    simp [climbF]
  | succ f ih =>
    by_cases hk : k = 0
    · subst hk; simp [climbF]
    · have := aboveF_lt k (by omega)
      cases g with
      | zero => omega
      | succ g =>
        have e := ih g (aboveF k) this.1 (by omega) (by omega)
        show (if k = 0 then false else if bk = k ∧ bn = 0 then true else climbF (f + 1) (aboveF k) bk bn) = (if k = 0 then false else if bk = k ∧ bn = 0 then true else climbF (g + 1) (aboveF k) bk bn)
        rw [e]

theorem m_climbs {w : World} {t : Nat} (h : ETab w t) (seen : Value) (ak an bk bn : Int) : Calls Try.prog 53 #[.pointer (some ⟨t, 0, none⟩), seen, .agg #[.int .i64 ak, .int .i64 an], .agg #[.int .i64 bk, .int .i64 bn]] w fun e w' => e = .returned (.bool (heapF ak an bk bn)) ∧ Ext w w' := by
  refine start0 (args := [.v (.pointer (some ⟨t, 0, none⟩)), .v seen, .v (.agg #[.int .i64 ak, .int .i64 an]), .v (.agg #[.int .i64 bk, .int .i64 bn])]) (G := (· < w.heap.size)) Try.func53 rfl Try.ntmps53 (by simp [SV.lt]) (fun _ h => h) ?_
  refine Res.run 1000 ?_
  simp only [↓reduceIte, Nat.reduceEqDiff, Nat.reduceAdd, Nat.reduceSub, Nat.reduceMul, Nat.reduceLT, Int.reduceToNat, Int.reduceBEq, Int.reduceBNe, Int.reduceLT, Int.reduceLE, E, E', TY]
  refine ⟨fnok52, CallAt.pure #[.pointer (some ⟨t, 0, none⟩), .agg #[.int .i64 ak, .int .i64 an]] (.agg #[.int .i64 (topF ak an), .int .i64 0]) (fun _ => rfl) (fun w' hw => m_Top (h.keep hw) ak an) (Res.run 900 ?_)⟩
  simp only [↓reduceIte, Nat.reduceEqDiff, Nat.reduceAdd, Nat.reduceSub, Nat.reduceMul, Nat.reduceLT, Int.reduceToNat, Int.reduceBEq, Int.reduceBNe, Int.reduceLT, Int.reduceLE, E, E', TY]
  refine Res.quiet [.agg #[.int .i64 (topF bk bn), .int .i64 0]] (by kernel_rfl) (by kernel_rfl) ?_
  by_cases h0 : topF ak an = 0
  · have e0 : (topF ak an == 0) = true := by simp [h0]
    have hf : heapF ak an bk bn = false := by simp [heapF, h0]
    rw [hf]
    simp only [↓reduceIte, Nat.reduceEqDiff, Nat.reduceAdd, Nat.reduceSub, Nat.reduceMul, Nat.reduceLT, Int.reduceToNat, Int.reduceBEq, Int.reduceBNe, Int.reduceLT, Int.reduceLE, E, E', TY, e0]
    refine Res.run 900 ?_
    simp only [↓reduceIte, Nat.reduceEqDiff, Nat.reduceAdd, Nat.reduceSub, Nat.reduceMul, Nat.reduceLT, Int.reduceToNat, Int.reduceBEq, Int.reduceBNe, Int.reduceLT, Int.reduceLE, E, E', TY]
    exact Ret.one rfl (by kernel_rfl)
  have e0 : (topF ak an == 0) = false := beq_ff h0
  by_cases h1 : topF ak an = topF bk bn
  case neg =>
    have e1 : (topF ak an == topF bk bn) = false := beq_ff h1
    have hf : heapF ak an bk bn = false := by simp [heapF, h0, h1]
    rw [hf]
    simp only [↓reduceIte, Nat.reduceEqDiff, Nat.reduceAdd, Nat.reduceSub, Nat.reduceMul, Nat.reduceLT, Int.reduceToNat, Int.reduceBEq, Int.reduceBNe, Int.reduceLT, Int.reduceLE, E, E', TY, e0, e1, fnok52]
    refine ⟨fun new w' hs => m_Top (h.keep hs.ext) bk bn, Res.run 900 ?_⟩
    simp only [↓reduceIte, Nat.reduceEqDiff, Nat.reduceAdd, Nat.reduceSub, Nat.reduceMul, Nat.reduceLT, Int.reduceToNat, Int.reduceBEq, Int.reduceBNe, Int.reduceLT, Int.reduceLE, E, E', TY]
    exact Ret.one rfl (by kernel_rfl)
  have e1 : (topF ak an == topF bk bn) = true := by simp [h1]
  simp only [↓reduceIte, Nat.reduceEqDiff, Nat.reduceAdd, Nat.reduceSub, Nat.reduceMul, Nat.reduceLT, Int.reduceToNat, Int.reduceBEq, Int.reduceBNe, Int.reduceLT, Int.reduceLE, E, E', TY, e0, e1, fnok52]
  refine ⟨fun new w' hs => m_Top (h.keep hs.ext) bk bn, Res.run 900 ?_⟩
  simp only [↓reduceIte, Nat.reduceEqDiff, Nat.reduceAdd, Nat.reduceSub, Nat.reduceMul, Nat.reduceLT, Int.reduceToNat, Int.reduceBEq, Int.reduceBNe, Int.reduceLT, Int.reduceLE, E, E', TY]
  refine Res.quiet [.agg #[.int .i64 (bottomF (topF bk bn)), .int .i64 0]] (by kernel_rfl) (by kernel_rfl) ?_
  by_cases h2 : ak = bk ∧ an = bn
  · have e2 : (ak == bk && an == bn) = true := by simp [h2]
    have hf : heapF ak an bk bn = true := by simp [heapF, h0, h1, h2]; intro h; exact absurd h (h2.1 ▸ h2.2 ▸ (h1 ▸ h0))
    rw [hf]
    simp only [↓reduceIte, Nat.reduceEqDiff, Nat.reduceAdd, Nat.reduceSub, Nat.reduceMul, Nat.reduceLT, Int.reduceToNat, Int.reduceBEq, Int.reduceBNe, Int.reduceLT, Int.reduceLE, E, E', TY, e2]
    refine Res.run 900 ?_
    simp only [↓reduceIte, Nat.reduceEqDiff, Nat.reduceAdd, Nat.reduceSub, Nat.reduceMul, Nat.reduceLT, Int.reduceToNat, Int.reduceBEq, Int.reduceBNe, Int.reduceLT, Int.reduceLE, E, E', TY]
    exact Ret.one rfl (by kernel_rfl)
  have e2 : (ak == bk && an == bn) = false := by
    rw [Bool.and_eq_false_iff]
    by_cases hq : ak = bk
    · right; simp; intro hn; exact h2 ⟨hq, hn⟩
    · left; simp [hq]
  by_cases h3 : ak = bottomF (topF bk bn) ∧ an = 0
  · have e3 : (ak == bottomF (topF bk bn) && an == 0) = true := by simp [h3]
    have hf : heapF ak an bk bn = true := by unfold heapF; rw [if_neg h0, if_neg (by simp [h1]), if_pos (Or.inr h3)]
    rw [hf]
    simp only [↓reduceIte, Nat.reduceEqDiff, Nat.reduceAdd, Nat.reduceSub, Nat.reduceMul, Nat.reduceLT, Int.reduceToNat, Int.reduceBEq, Int.reduceBNe, Int.reduceLT, Int.reduceLE, E, E', TY, e2, e3, fnok57]
    refine ⟨fun new w' hs => m_Bottom (h.keep hs.ext) bk bn, Res.run 900 ?_⟩
    simp only [↓reduceIte, Nat.reduceEqDiff, Nat.reduceAdd, Nat.reduceSub, Nat.reduceMul, Nat.reduceLT, Int.reduceToNat, Int.reduceBEq, Int.reduceBNe, Int.reduceLT, Int.reduceLE, E, E', TY]
    exact Ret.one rfl (by kernel_rfl)
  have e3 : (ak == bottomF (topF bk bn) && an == 0) = false := by
    rw [Bool.and_eq_false_iff]
    by_cases hq : ak = bottomF (topF bk bn)
    · right; simp; intro hn; exact h3 ⟨hq, hn⟩
    · left; simp [hq]
  have hf : heapF ak an bk bn = climbF 13 ak bk bn := by unfold heapF; rw [if_neg h0, if_neg (by simp [h1]), if_neg (fun h => h.elim h2 h3)]
  obtain ⟨r, hr⟩ : ∃ r, climbF 13 ak bk bn = r := ⟨_, rfl⟩
  rw [hf, hr]
  simp only [↓reduceIte, Nat.reduceEqDiff, Nat.reduceAdd, Nat.reduceSub, Nat.reduceMul, Nat.reduceLT, Int.reduceToNat, Int.reduceBEq, Int.reduceBNe, Int.reduceLT, Int.reduceLE, E, E', TY, e2, e3, fnok57]
  refine ⟨fun new w' hs => m_Bottom (h.keep hs.ext) bk bn, Res.run 900 ?_⟩
  simp only [↓reduceIte, Nat.reduceEqDiff, Nat.reduceAdd, Nat.reduceSub, Nat.reduceMul, Nat.reduceLT, Int.reduceToNat, Int.reduceBEq, Int.reduceBNe, Int.reduceLT, Int.reduceLE, E, E', TY]
  refine ⟨fnok54, CallAt.pure #[.pointer (some ⟨t, 0, none⟩), .agg #[.int .i64 ak, .int .i64 an]] (.tuple #[subZ, .bool false]) (fun _ => rfl) (fun w' hw => m_of (h.keep hw) ak an) (Res.run 900 ?_)⟩
  simp only [↓reduceIte, Nat.reduceEqDiff, Nat.reduceAdd, Nat.reduceSub, Nat.reduceMul, Nat.reduceLT, Int.reduceToNat, Int.reduceBEq, Int.reduceBNe, Int.reduceLT, Int.reduceLE, E, E', TY, subZ]
  have hak := topsF_range ak (by intro hq; apply h0; unfold topF; split <;> simp [hq])
  refine Res.loop (X := {k : Int // 0 ≤ k ∧ k ≤ 12 ∧ climbF 13 k bk bn = r})
    (fun x => { T := mkT 91 [(6, .p 0 0), (7, .p 1 0), (8, .v (.bool false)), (12, .v (.int .i64 x.1))], X := [], L := [.cells 39 [.v (.int .i64 ak), .v (.int .i64 an)], .cells 39 [.v (.int .i64 bk), .v (.int .i64 bn)]], D := [] })
    (fun x => x.1.toNat) ⟨ak, by omega, by omega, hr⟩ (St.Le.of 2 (by simp only [↓reduceIte, Nat.reduceEqDiff, Nat.reduceAdd, Nat.reduceSub, Nat.reduceMul, Nat.reduceLT, Int.reduceToNat, Int.reduceBEq, Int.reduceBNe, Int.reduceLT, Int.reduceLE, E, E', TY])) ?_
  rintro ⟨k, hk0, hk12, hk⟩
  refine Res.run 900 ?_
  by_cases hz : k = 0
  · subst hz
    obtain rfl : r = false := hk.symm
    simp only [↓reduceIte, Nat.reduceEqDiff, Nat.reduceAdd, Nat.reduceSub, Nat.reduceMul, Nat.reduceLT, Int.reduceToNat, Int.reduceBEq, Int.reduceBNe, Int.reduceLT, Int.reduceLE, E, E', TY]
    exact Ret.one rfl (by kernel_rfl)
  have ez : (k != 0) = true := by simp [hz]
  by_cases hb : bk = k ∧ bn = 0
  · have eb : (bk == k && bn == 0) = true := by simp [hb]
    obtain rfl : r = true := by rw [← hk, climbF, if_neg hz, if_pos hb]
    simp only [↓reduceIte, Nat.reduceEqDiff, Nat.reduceAdd, Nat.reduceSub, Nat.reduceMul, Nat.reduceLT, Int.reduceToNat, Int.reduceBEq, Int.reduceBNe, Int.reduceLT, Int.reduceLE, E, E', TY, ez, eb]
    exact Ret.one rfl (by kernel_rfl)
  have eb : (bk == k && bn == 0) = false := by
    rw [Bool.and_eq_false_iff]
    by_cases hq : bk = k
    · right; simp; intro hn; exact hb ⟨hq, hn⟩
    · left; simp [hq]
  have ha := aboveF_lt k (by omega)
  have hf : climbF 13 k bk bn = climbF 13 (aboveF k) bk bn := by
    rw [climbF, if_neg hz, if_neg hb]
    exact climbF_fuel 11 12 _ _ _ ha.1 (by omega) (by omega)
  simp only [↓reduceIte, Nat.reduceEqDiff, Nat.reduceAdd, Nat.reduceSub, Nat.reduceMul, Nat.reduceLT, Int.reduceToNat, Int.reduceBEq, Int.reduceBNe, Int.reduceLT, Int.reduceLE, E, E', TY, ez, eb]
  refine ⟨fnok58, CallAt.pure #[.int .i64 k] (.int .i64 (aboveF k)) (fun _ => rfl) (fun w' hw => m_above k) (Res.run 900 ?_)⟩
  simp only [↓reduceIte, Nat.reduceEqDiff, Nat.reduceAdd, Nat.reduceSub, Nat.reduceMul, Nat.reduceLT, Int.reduceToNat, Int.reduceBEq, Int.reduceBNe, Int.reduceLT, Int.reduceLE, E, E', TY]
  exact Res.again (⟨aboveF k, ha.1, by omega, by rw [← hk, hf]⟩ : {k : Int // 0 ≤ k ∧ k ≤ 12 ∧ climbF 13 k bk bn = r}) (by simp only; omega) (St.Le.of 2 (by simp only [↓reduceIte, Nat.reduceEqDiff, Nat.reduceAdd, Nat.reduceSub, Nat.reduceMul, Nat.reduceLT, Int.reduceToNat, Int.reduceBEq, Int.reduceBNe, Int.reduceLT, Int.reduceLE, E, E', TY]))
end Go.Proofs.Yteendcbmoagdfaa
