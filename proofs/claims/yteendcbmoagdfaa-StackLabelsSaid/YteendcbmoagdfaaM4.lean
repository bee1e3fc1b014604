/-
  Stack seat: matching of value types over a table without types.
-/
import Derived.Test.YteendcbmoagdfaaM3
set_option linter.unusedVariables false
set_option linter.unusedSimpArgs false
set_option maxRecDepth 20000
set_option maxHeartbeats 4000000
namespace Go.Proofs.Yteendcbmoagdfaa
open Go Go.Eng

theorem m_Heap {w : World} {t : Nat} (h : ETab w t) (ak an bk bn : Int) : Calls Try.prog 50 #[.pointer (some ⟨t, 0, none⟩), .agg #[.int .i64 ak, .int .i64 an], .agg #[.int .i64 bk, .int .i64 bn]] w fun e w' => e = .returned (.bool (heapF ak an bk bn)) ∧ Ext w w' := by
  refine start0 (args := [.v (.pointer (some ⟨t, 0, none⟩)), .v (.agg #[.int .i64 ak, .int .i64 an]), .v (.agg #[.int .i64 bk, .int .i64 bn])]) (G := (· < w.heap.size)) Try.func50 rfl Try.ntmps50 (by simp [SV.lt]) (fun _ h => h) ?_
  refine Res.run 1000 ?_
  simp only [↓reduceIte, Nat.reduceEqDiff, Nat.reduceAdd, Nat.reduceSub, Nat.reduceMul, Nat.reduceLT, Int.reduceToNat, Int.reduceBEq, Int.reduceBNe, Int.reduceLT, Int.reduceLE, E, E', TY]
  refine Res.makeMap (fun m => Res.run 900 ?_)
  simp only [↓reduceIte, Nat.reduceEqDiff, Nat.reduceAdd, Nat.reduceSub, Nat.reduceMul, Nat.reduceLT, Int.reduceToNat, Int.reduceBEq, Int.reduceBNe, Int.reduceLT, Int.reduceLE, E, E', TY]
  refine ⟨fnok53, CallAt.pure #[.pointer (some ⟨t, 0, none⟩), .map (some m), .agg #[.int .i64 ak, .int .i64 an], .agg #[.int .i64 bk, .int .i64 bn]] (.bool (heapF ak an bk bn)) (fun _ => rfl) (fun w' hw => m_climbs (h.keep hw) _ ak an bk bn) (Res.run 900 ?_)⟩
  simp only [↓reduceIte, Nat.reduceEqDiff, Nat.reduceAdd, Nat.reduceSub, Nat.reduceMul, Nat.reduceLT, Int.reduceToNat, Int.reduceBEq, Int.reduceBNe, Int.reduceLT, Int.reduceLE, E, E', TY]
  exact Ret.one rfl (by kernel_rfl)

/-- A value type: kind, null, heap type. -/
structure Vl where
  k : Int
  nul : Bool
  hk : Int
  hn : Int
deriving DecidableEq
def Vl.v (x : Vl) : Value := .agg #[.int .i64 x.k, .bool x.nul, .int .i64 x.hk, .int .i64 x.hn]

def closedF (x : Vl) : Bool :=
  if x.k = 1 ∨ x.k = 2 ∨ x.k = 4 then (x.nul == false && (x.hk == 0 && x.hn == 0))
  else if x.k = 3 then (x.nul == false && (x.hk == 0 && x.hn == 0)) || !(topF x.hk x.hn == 0) else false

theorem m_closed {w : World} {t : Nat} (h : ETab w t) (x : Vl) : Calls Try.prog 49 #[.pointer (some ⟨t, 0, none⟩), x.v] w fun e w' => e = .returned (.bool (closedF x)) ∧ Ext w w' := by
  obtain ⟨k, nul, hk, hn⟩ := x
  simp only [Vl.v]
  refine start0 (args := [.v (.pointer (some ⟨t, 0, none⟩)), .v (.agg #[.int .i64 k, .bool nul, .int .i64 hk, .int .i64 hn])]) (G := (· < w.heap.size)) Try.func49 rfl Try.ntmps49 (by simp [SV.lt]) (fun _ h => h) ?_
  refine Res.run 1000 ?_
  by_cases h1 : k = 1
  · subst h1
    simp only [↓reduceIte, Nat.reduceEqDiff, Nat.reduceAdd, Nat.reduceSub, Nat.reduceMul, Nat.reduceLT, Int.reduceToNat, Int.reduceBEq, Int.reduceBNe, Int.reduceLT, Int.reduceLE, E, E', TY]
    exact Ret.one rfl (by kernel_rfl)
  by_cases h2 : k = 2
  · subst h2
    simp only [↓reduceIte, Nat.reduceEqDiff, Nat.reduceAdd, Nat.reduceSub, Nat.reduceMul, Nat.reduceLT, Int.reduceToNat, Int.reduceBEq, Int.reduceBNe, Int.reduceLT, Int.reduceLE, E, E', TY]
    exact Ret.one rfl (by kernel_rfl)
  by_cases h4 : k = 4
  · subst h4
    simp only [↓reduceIte, Nat.reduceEqDiff, Nat.reduceAdd, Nat.reduceSub, Nat.reduceMul, Nat.reduceLT, Int.reduceToNat, Int.reduceBEq, Int.reduceBNe, Int.reduceLT, Int.reduceLE, E, E', TY]
    exact Ret.one rfl (by kernel_rfl)
  by_cases h3 : k = 3
  · subst h3
    cases hb : (nul == false && (hk == 0 && hn == 0)) with
    | true =>
      have hf : closedF ⟨3, nul, hk, hn⟩ = true := by simp only [closedF]; rw [if_neg (by decide), if_pos trivial, hb]; rfl
      rw [hf]
      simp only [↓reduceIte, Nat.reduceEqDiff, Nat.reduceAdd, Nat.reduceSub, Nat.reduceMul, Nat.reduceLT, Int.reduceToNat, Int.reduceBEq, Int.reduceBNe, Int.reduceLT, Int.reduceLE, E, E', TY, hb]
      exact Ret.one rfl (by kernel_rfl)
    | false =>
      have hf : closedF ⟨3, nul, hk, hn⟩ = !(topF hk hn == 0) := by simp only [closedF]; rw [if_neg (by decide), if_pos trivial, hb]; rfl
      rw [hf]
      simp only [↓reduceIte, Nat.reduceEqDiff, Nat.reduceAdd, Nat.reduceSub, Nat.reduceMul, Nat.reduceLT, Int.reduceToNat, Int.reduceBEq, Int.reduceBNe, Int.reduceLT, Int.reduceLE, E, E', TY, hb]
      refine ⟨fnok52, CallAt.pure #[.pointer (some ⟨t, 0, none⟩), .agg #[.int .i64 hk, .int .i64 hn]] (.agg #[.int .i64 (topF hk hn), .int .i64 0]) (fun _ => rfl) (fun w' hw => m_Top (h.keep hw) hk hn) (Res.run 900 ?_)⟩
      simp only [↓reduceIte, Nat.reduceEqDiff, Nat.reduceAdd, Nat.reduceSub, Nat.reduceMul, Nat.reduceLT, Int.reduceToNat, Int.reduceBEq, Int.reduceBNe, Int.reduceLT, Int.reduceLE, E, E', TY]
      exact Ret.one rfl (by kernel_rfl)
  have hf : closedF ⟨k, nul, hk, hn⟩ = false := by simp [closedF, h1, h2, h3, h4]
  rw [hf]
  simp only [↓reduceIte, Nat.reduceEqDiff, Nat.reduceAdd, Nat.reduceSub, Nat.reduceMul, Nat.reduceLT, Int.reduceToNat, Int.reduceBEq, Int.reduceBNe, Int.reduceLT, Int.reduceLE, E, E', TY, beq_ff h1, beq_ff h2, beq_ff h3, beq_ff h4]
  exact Ret.one rfl (by kernel_rfl)
def eqVl (a b : Vl) : Bool := a.k == b.k && (a.nul == b.nul && (a.hk == b.hk && a.hn == b.hn))
def valF (a b : Vl) : Bool :=
  if !closedF a || !closedF b then false
  else if a.k = 3 ∧ b.k = 3 then (a.nul == false && (a.hk == 0 && a.hn == 0)) || ((!a.nul || b.nul) && heapF a.hk a.hn b.hk b.hn)
  else eqVl a b || a.k == 4

theorem m_Val {w : World} {t : Nat} (h : ETab w t) (a b : Vl) : Calls Try.prog 41 #[.pointer (some ⟨t, 0, none⟩), a.v, b.v] w fun e w' => e = .returned (.bool (valF a b)) ∧ Ext w w' := by
  have ha : ∀ w', Ext w w' → Calls Try.prog 49 #[.pointer (some ⟨t, 0, none⟩), a.v] w' fun e w'' => e = .returned (.bool (closedF a)) ∧ Ext w' w'' := fun w' hw => m_closed (h.keep hw) a
  have hb : ∀ w', Ext w w' → Calls Try.prog 49 #[.pointer (some ⟨t, 0, none⟩), b.v] w' fun e w'' => e = .returned (.bool (closedF b)) ∧ Ext w' w'' := fun w' hw => m_closed (h.keep hw) b
  obtain ⟨r, hr⟩ : ∃ r, valF a b = r := ⟨_, rfl⟩
  rw [hr]
  unfold valF at hr
  generalize hca : closedF a = ca at *
  generalize hcb : closedF b = cb at *
  obtain ⟨ak, anul, ahk, ahn⟩ := a
  obtain ⟨bk, bnul, bhk, bhn⟩ := b
  simp only [Vl.v] at *
  refine start0 (args := [.v (.pointer (some ⟨t, 0, none⟩)), .v (.agg #[.int .i64 ak, .bool anul, .int .i64 ahk, .int .i64 ahn]), .v (.agg #[.int .i64 bk, .bool bnul, .int .i64 bhk, .int .i64 bhn])]) (G := (· < w.heap.size)) Try.func41 rfl Try.ntmps41 (by simp [SV.lt]) (fun _ h => h) ?_
  refine Res.run 1000 ?_
  simp only [↓reduceIte, Nat.reduceEqDiff, Nat.reduceAdd, Nat.reduceSub, Nat.reduceMul, Nat.reduceLT, Int.reduceToNat, Int.reduceBEq, Int.reduceBNe, Int.reduceLT, Int.reduceLE, E, E', TY]
  refine ⟨fnok49, CallAt.pure #[.pointer (some ⟨t, 0, none⟩), .agg #[.int .i64 ak, .bool anul, .int .i64 ahk, .int .i64 ahn]] (.bool ca) (fun _ => rfl) ha (Res.run 900 ?_)⟩
  cases ca with
  | false =>
    obtain rfl : r = false := hr.symm
    simp only [↓reduceIte, Nat.reduceEqDiff, Nat.reduceAdd, Nat.reduceSub, Nat.reduceMul, Nat.reduceLT, Int.reduceToNat, Int.reduceBEq, Int.reduceBNe, Int.reduceLT, Int.reduceLE, E, E', TY]
    exact Ret.one rfl (by kernel_rfl)
  | true =>
  simp only [↓reduceIte, Nat.reduceEqDiff, Nat.reduceAdd, Nat.reduceSub, Nat.reduceMul, Nat.reduceLT, Int.reduceToNat, Int.reduceBEq, Int.reduceBNe, Int.reduceLT, Int.reduceLE, E, E', TY]
  refine ⟨fnok49, CallAt.pure #[.pointer (some ⟨t, 0, none⟩), .agg #[.int .i64 bk, .bool bnul, .int .i64 bhk, .int .i64 bhn]] (.bool cb) (fun _ => rfl) hb (Res.run 900 ?_)⟩
  cases cb with
  | false =>
    obtain rfl : r = false := hr.symm
    simp only [↓reduceIte, Nat.reduceEqDiff, Nat.reduceAdd, Nat.reduceSub, Nat.reduceMul, Nat.reduceLT, Int.reduceToNat, Int.reduceBEq, Int.reduceBNe, Int.reduceLT, Int.reduceLE, E, E', TY]
    exact Ret.one rfl (by kernel_rfl)
  | true =>
  simp only [↓reduceIte, Nat.reduceEqDiff, Nat.reduceAdd, Nat.reduceSub, Nat.reduceMul, Nat.reduceLT, Int.reduceToNat, Int.reduceBEq, Int.reduceBNe, Int.reduceLT, Int.reduceLE, E, E', TY]
  refine ⟨fnok35, CallAt.pure #[.pointer (some ⟨t, 0, none⟩)] (.bool false) (fun _ => rfl) (fun w' hw => m_gone (h.keep hw)) (Res.run 900 ?_)⟩
  rw [if_neg (by decide)] at hr
  by_cases h3 : ak = 3 ∧ bk = 3
  · obtain ⟨rfl, rfl⟩ := h3
    simp only [and_self, if_true] at hr
    cases hn : (anul == false && (ahk == 0 && ahn == 0)) with
    | true =>
      obtain rfl : r = true := by rw [← hr, hn]; rfl
      simp only [↓reduceIte, Nat.reduceEqDiff, Nat.reduceAdd, Nat.reduceSub, Nat.reduceMul, Nat.reduceLT, Int.reduceToNat, Int.reduceBEq, Int.reduceBNe, Int.reduceLT, Int.reduceLE, E, E', TY, hn]
      exact Ret.one rfl (by kernel_rfl)
    | false =>
      rw [hn, Bool.false_or] at hr
      cases anul with
      | false =>
        simp only [Bool.not_false, Bool.true_or, Bool.true_and] at hr
        simp only [↓reduceIte, Nat.reduceEqDiff, Nat.reduceAdd, Nat.reduceSub, Nat.reduceMul, Nat.reduceLT, Int.reduceToNat, Int.reduceBEq, Int.reduceBNe, Int.reduceLT, Int.reduceLE, E, E', TY, hn]
        refine ⟨fnok50, CallAt.pure #[.pointer (some ⟨t, 0, none⟩), .agg #[.int .i64 ahk, .int .i64 ahn], .agg #[.int .i64 bhk, .int .i64 bhn]] (.bool r) (fun _ => rfl) (fun w' hw => hr ▸ m_Heap (h.keep hw) ahk ahn bhk bhn) (Res.run 900 ?_)⟩
        simp only [↓reduceIte, Nat.reduceEqDiff, Nat.reduceAdd, Nat.reduceSub, Nat.reduceMul, Nat.reduceLT, Int.reduceToNat, Int.reduceBEq, Int.reduceBNe, Int.reduceLT, Int.reduceLE, E, E', TY]
        exact Ret.one rfl (by kernel_rfl)
      | true =>
        cases bnul with
        | false =>
          obtain rfl : r = false := by rw [← hr]; rfl
          simp only [↓reduceIte, Nat.reduceEqDiff, Nat.reduceAdd, Nat.reduceSub, Nat.reduceMul, Nat.reduceLT, Int.reduceToNat, Int.reduceBEq, Int.reduceBNe, Int.reduceLT, Int.reduceLE, E, E', TY, hn]
          exact Ret.one rfl (by kernel_rfl)
        | true =>
          simp only [Bool.or_true, Bool.true_and] at hr
          simp only [↓reduceIte, Nat.reduceEqDiff, Nat.reduceAdd, Nat.reduceSub, Nat.reduceMul, Nat.reduceLT, Int.reduceToNat, Int.reduceBEq, Int.reduceBNe, Int.reduceLT, Int.reduceLE, E, E', TY, hn]
          refine ⟨fnok50, CallAt.pure #[.pointer (some ⟨t, 0, none⟩), .agg #[.int .i64 ahk, .int .i64 ahn], .agg #[.int .i64 bhk, .int .i64 bhn]] (.bool r) (fun _ => rfl) (fun w' hw => hr ▸ m_Heap (h.keep hw) ahk ahn bhk bhn) (Res.run 900 ?_)⟩
          simp only [↓reduceIte, Nat.reduceEqDiff, Nat.reduceAdd, Nat.reduceSub, Nat.reduceMul, Nat.reduceLT, Int.reduceToNat, Int.reduceBEq, Int.reduceBNe, Int.reduceLT, Int.reduceLE, E, E', TY]
          exact Ret.one rfl (by kernel_rfl)
  · rw [if_neg h3] at hr
    have e3 : ak = 3 → (bk == 3) = false := fun h => beq_ff (fun h' => h3 ⟨h, h'⟩)
    cases he : eqVl ⟨ak, anul, ahk, ahn⟩ ⟨bk, bnul, bhk, bhn⟩ with
    | true =>
      obtain rfl : r = true := by rw [← hr, he]; rfl
      simp only [eqVl] at he
      by_cases ha3 : ak = 3
      · subst ha3
        have e := e3 rfl
        simp only [↓reduceIte, Nat.reduceEqDiff, Nat.reduceAdd, Nat.reduceSub, Nat.reduceMul, Nat.reduceLT, Int.reduceToNat, Int.reduceBEq, Int.reduceBNe, Int.reduceLT, Int.reduceLE, E, E', TY, e, he]
        exact Ret.one rfl (by kernel_rfl)
      · have e := beq_ff ha3
        simp only [↓reduceIte, Nat.reduceEqDiff, Nat.reduceAdd, Nat.reduceSub, Nat.reduceMul, Nat.reduceLT, Int.reduceToNat, Int.reduceBEq, Int.reduceBNe, Int.reduceLT, Int.reduceLE, E, E', TY, e, he]
        exact Ret.one rfl (by kernel_rfl)
    | false =>
      rw [he, Bool.false_or] at hr
      simp only [eqVl] at he
      subst hr
      by_cases ha3 : ak = 3
      · subst ha3
        have e := e3 rfl
        simp only [↓reduceIte, Nat.reduceEqDiff, Nat.reduceAdd, Nat.reduceSub, Nat.reduceMul, Nat.reduceLT, Int.reduceToNat, Int.reduceBEq, Int.reduceBNe, Int.reduceLT, Int.reduceLE, E, E', TY, e, he]
        exact Ret.one rfl (by kernel_rfl)
      · have e := beq_ff ha3
        simp only [↓reduceIte, Nat.reduceEqDiff, Nat.reduceAdd, Nat.reduceSub, Nat.reduceMul, Nat.reduceLT, Int.reduceToNat, Int.reduceBEq, Int.reduceBNe, Int.reduceLT, Int.reduceLE, E, E', TY, e, he]
        exact Ret.one rfl (by kernel_rfl)
end Go.Proofs.Yteendcbmoagdfaa
