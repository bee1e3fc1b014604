/-
  The kind layer: the reference's Heaps, With and Copy, at the chapter's example; loops of a few rounds are walked round by round.
-/
import Derived.Test.YtkcbmkoafmffoaaDoorKC
import Derived.LoopNIn
set_option linter.unusedVariables false
set_option linter.unusedSimpArgs false
set_option maxRecDepth 20000
set_option maxHeartbeats 8000000
namespace Go.Proofs.YtkcbmkoafmffoaaDoor
open Go Go.Eng

section rounds
variable {P : Program} {Q : Pst} {G : Nat → Prop} {W : World}
theorem Wt_rnd (R : Act → World → Prop) (k : List It) : Wt P Q (.rnd R :: k) = Exit.then R (Wt P Q k) := by
  funext e a w
  cases e <;> rfl
/-- A loop of at most m + 1 rounds. -/
theorem Res.rounds (m : Nat) {σ : St} {c : Code} {k : List It} (h : Res P Q G W σ (.code c :: .rnd (Code.roundsIn (wf Q.ro) 0 P c (Wt P Q k) m) :: k)) : Res P Q G W σ (.code (.loop c) :: k) := by
  intro new a w hs
  refine wpIn_loop_rounds (m + 1) ?_
  have := h new a w hs
  show c.wpIn (wf Q.ro) 0 P _ a w
  rw [← Wt_rnd]
  exact this
theorem Res.more {m : Nat} {σ : St} {c : Code} {k : List It} (h : Res P Q G W σ (.code c :: .rnd (Code.roundsIn (wf Q.ro) 0 P c (Wt P Q k) m) :: k)) : Res P Q G W σ (.rnd (Code.roundsIn (wf Q.ro) 0 P c (Wt P Q k) (m + 1)) :: k) := by
  intro new a w hs
  have := h new a w hs
  show c.wpIn (wf Q.ro) 0 P _ a w
  rw [← Wt_rnd]
  exact this
end rounds

def kS : Sb := ⟨false, [⟨13, 2⟩], 3, [], [], [⟨8, ⟨1, false, ⟨0, 0⟩⟩, true⟩]⟩
def kT : Sb := ⟨true, [], 1, [⟨1, false, ⟨0, 0⟩⟩], [], []⟩
def kV : Vl := ⟨3, true, ⟨1, 0⟩⟩


theorem okRd_sub {G : Nat → Prop} {W : World} {A : Option Addr} {o n m : Nat} (h : okRd G W A 0 n) (hn : o + m ≤ n) : okRd G W A o m := by
  obtain ⟨ad, rfl, hg, hc⟩ := h
  refine ⟨ad, rfl, hg, fun j hj => ?_⟩
  have := hc (o + j) (by omega)
  rw [Nat.zero_add] at this
  exact this
theorem one4 (k : Int) (b : Bool) (h n : Int) : ∀ u ∈ [Value.int .i64 k, .bool b, .int .i64 h, .int .i64 n], u.oneCell' = true := by
  intro u hu; simp only [List.mem_cons, List.not_mem_nil, or_false] at hu; rcases hu with rfl | rfl | rfl | rfl <;> rfl
theorem gV_take {cur cs : List Value} {n : Nat} (h : cur.take n = cs) (i : Nat) (hi : i < cs.length) : gV cur i = cs[i] := by
  exact (row_get h (List.getElem?_eq_getElem hi)).1

theorem m_rHeaps {w : World} (x : SL) (h : SbR (· < w.heap.size) w kS x) : Calls Tryd.prog 68 #[kS.v x] w fun e w' => ∃ b cap cur, e = .returned (.slice (sA false b 0) 1 cap) ∧ FS0 2 1 (hcs kS.su) false cap cur ∧ Ext w w' ∧ w.heap.size ≤ b ∧ b < w'.heap.size ∧ w'.heap[b]? = some (.cells cur.toArray 33 (0, 0)) := by
  refine start0 (args := [.v (.agg #[.bool false, .slice x.a1 1 x.c1, .int .i64 3, .slice x.a2 0 x.c2, .slice x.a3 0 x.c3, .slice x.a4 1 x.c4])]) (G := (· < w.heap.size)) Tryd.func68 rfl Tryd.ntmps68 (by simp [SV.lt]) (fun _ h => h) ?_
  refine Res.run 1000 ?_
  obtain ⟨a0, a1, a2⟩ := hcs_at h.su 0 (by decide)
  have hA1 : x.a1.isSome = true := okRd_some a0
  rw [Nat.zero_mul, pAdd_zero] at a0 a1 a2
  have a1 : rd w x.a1 0 = .int .i64 13 := a1
  have a2 : rd w x.a1 1 = .int .i64 2 := a2
  obtain ⟨f0, f1, f2, f3, f4, f5, f6⟩ := fcs_at h.fs 0 (by decide)
  have hA4 : x.a4.isSome = true := okRd_some f0
  rw [Nat.zero_mul, pAdd_zero] at f0 f1 f2 f3 f4 f5 f6
  have f2 : rd w x.a4 1 = .int .i64 1 := f2
  have f3 : rd w x.a4 2 = .bool false := f3
  have f4 : rd w x.a4 3 = .int .i64 0 := f4
  have f5 : rd w x.a4 4 = .int .i64 0 := f5
  have f7 : okRd (· < w.heap.size) w x.a4 1 4 := okRd_sub f0 (by decide)
  simp only [↓reduceIte, Nat.reduceEqDiff, Nat.reduceAdd, Nat.reduceSub, Nat.reduceMul, Nat.reduceLT, Int.reduceToNat, Int.reduceBEq, Int.reduceBNe, Int.reduceLT, Int.reduceLE, E, E', TY]
  refine Res.op (OpAt.append (x := .tmp 7) (y := .tmp 9) (t := 22) (e := 33) (size := 2) (bytes := 16) (i := 1) (nl := false) (n := 0) (cap := 0) (m := 1) (cur := []) [.int .i64 13, .int .i64 2] rfl rfl rfl rfl ap22 rfl (by kernel_rfl) rfl (by omega) (by simp [maxLen]) (fun h => by cases h)
    (SrcOK.v (A := x.a1) (c := x.c1) rfl (fun hA => by rw [hA] at hA1; cases hA1) (.inr ⟨a0, fun i u hu => ?_⟩)) rfl (by intro u hu; simp only [List.mem_cons, List.not_mem_nil, or_false] at hu; rcases hu with rfl | rfl <;> rfl) ⟨by simp [maxLen], by omega⟩ fun nl1 k1 cu1 c1 c2 c3 c4 c5 c6 => Res.run 900 ?_)
  · match i, hu with
    | 0, hu => simp at hu; subst hu; exact a1
    | 1, hu => simp at hu; subst hu; exact a2
  obtain rfl : nl1 = false := by cases nl1 with | false => rfl | true => simp at c6
  simp only [↓reduceIte, Nat.reduceEqDiff, Nat.reduceAdd, Nat.reduceSub, Nat.reduceMul, Nat.reduceLT, Int.reduceToNat, Int.reduceBEq, Int.reduceBNe, Int.reduceLT, Int.reduceLE, E, E', TY]
  refine Res.draw 9 [.cells 29 [.v (.bool false), .v (.slice x.a1 1 x.c1), .v (.int .i64 3), .v (.slice x.a2 0 x.c2), .v (.slice x.a3 0 x.c3), .v (.slice x.a4 1 x.c4)], .dead, .row false 33 cu1] (.take 1 (.take 2 (.take 3 (.take 5 (.take 6 (.take 7 (.run 0 (.run 4 (.run 8 .fin .fin) .fin) .fin))))))) (by kernel_rfl) (by kernel_rfl) fun new hnew => Res.run 900 ?_
  have hnl : new.length = 3 := by have := hnew; simp at this; omega
  simp only [↓reduceIte, Nat.reduceEqDiff, Nat.reduceAdd, Nat.reduceSub, Nat.reduceMul, Nat.reduceLT, Int.reduceToNat, Int.reduceBEq, Int.reduceBNe, Int.reduceLT, Int.reduceLE, E, E', TY, hnl]
  refine OpAt.append (x := .tmp 11) (y := .tmp 14) (t := 24) (e := 35) (size := 4) (bytes := 32) (i := 3) (nl := false) (n := 0) (cap := 0) (m := 0) (cur := []) [] rfl rfl rfl rfl ap24 rfl (by kernel_rfl) rfl (by omega) (by simp [maxLen]) (fun h => by cases h)
    (SrcOK.v (A := x.a2) (c := x.c2) rfl (fun _ => rfl) (.inl rfl)) rfl (by simp) ⟨by simp [maxLen], by omega⟩ fun nl2 k2 cu2 d1 d2 d3 d4 d5 d6 => Res.run 900 ?_
  obtain rfl : nl2 = false := by cases nl2 with | false => rfl | true => simp at d6
  simp only [↓reduceIte, Nat.reduceEqDiff, Nat.reduceAdd, Nat.reduceSub, Nat.reduceMul, Nat.reduceLT, Int.reduceToNat, Int.reduceBEq, Int.reduceBNe, Int.reduceLT, Int.reduceLE, E, E', TY, hnl]
  refine OpAt.append (x := .tmp 15) (y := .tmp 18) (t := 24) (e := 35) (size := 4) (bytes := 32) (i := 4) (nl := false) (n := 0) (cap := k2) (m := 0) (cur := cu2) [] rfl rfl rfl rfl ap24 rfl (by kernel_rfl) d3 (by omega) d2 d5
    (SrcOK.v (A := x.a3) (c := x.c3) rfl (fun _ => rfl) (.inl rfl)) rfl (by simp) ⟨by simp [maxLen], by omega⟩ fun nl3 k3 cu3 g1 g2 g3 g4 g5 g6 => Res.run 900 ?_
  obtain rfl : nl3 = false := by cases nl3 with | false => rfl | true => simp at g6
  simp only [↓reduceIte, Nat.reduceEqDiff, Nat.reduceAdd, Nat.reduceSub, Nat.reduceMul, Nat.reduceLT, Int.reduceToNat, Int.reduceBEq, Int.reduceBNe, Int.reduceLT, Int.reduceLE, E, E', TY, hnl]
  refine Res.rounds 1 (Res.run 900 ?_)
  have e1 : decide (((0 : Int)) < ((1 : Nat) : Int)) = true := by decide
  simp only [↓reduceIte, Nat.reduceEqDiff, Nat.reduceAdd, Nat.reduceSub, Nat.reduceMul, Nat.reduceLT, Int.reduceToNat, Int.reduceBEq, Int.reduceBNe, Int.reduceLT, Int.reduceLE, E, E', TY, hnl, e1, f2, f3, f4, f5]
  refine ⟨⟨by decide, hA4⟩, hA4, hA4, f7, ?_⟩
  refine Res.op (OpAt.append (x := .tmp 28) (y := .tmp 37) (t := 24) (e := 35) (size := 4) (bytes := 32) (i := 5) (nl := false) (n := 0) (cap := k3) (m := 1) (cur := cu3) [.int .i64 1, .bool false, .int .i64 0, .int .i64 0] rfl rfl rfl rfl ap24 rfl rfl g3 (by omega) g2 g5
    (SrcOK.s (j := 6) (off := 0) (c := 1) (nl := false) rfl rfl (by simp) (by intro i u hu; rw [Nat.zero_add]; exact hu)) rfl (one4 _ _ _ _) ⟨by simp [maxLen], by omega⟩ fun nl4 k4 cu4 i1 i2 i3 i4 i5 i6 => Res.run 900 ?_)
  obtain rfl : nl4 = false := by cases nl4 with | false => rfl | true => simp at i6
  have hc0 : gV cu4 0 = .int .i64 1 := gV_take i4 0 (by simp)
  simp only [↓reduceIte, Nat.reduceEqDiff, Nat.reduceAdd, Nat.reduceSub, Nat.reduceMul, Nat.reduceLT, Int.reduceToNat, Int.reduceBEq, Int.reduceBNe, Int.reduceLT, Int.reduceLE, E, E', TY, hnl]
  refine ⟨i64ok_of (by decide) (by decide), Res.more (m := 0) (Res.run 900 ?_)⟩
  have e2 : decide (((1 : Int)) < ((1 : Nat) : Int)) = false := by decide
  simp only [↓reduceIte, Nat.reduceEqDiff, Nat.reduceAdd, Nat.reduceSub, Nat.reduceMul, Nat.reduceLT, Int.reduceToNat, Int.reduceBEq, Int.reduceBNe, Int.reduceLT, Int.reduceLE, E, E', TY, hnl, Int.reduceAdd, e2]
  refine Res.rounds 1 (Res.run 900 ?_)
  simp only [↓reduceIte, Nat.reduceEqDiff, Nat.reduceAdd, Nat.reduceSub, Nat.reduceMul, Nat.reduceLT, Int.reduceToNat, Int.reduceBEq, Int.reduceBNe, Int.reduceLT, Int.reduceLE, E, E', TY, hnl, e1, hc0]
  have hcl : 0 < cu4.length := by omega
  refine ⟨by decide, hcl, i64ok_of (by decide) (by decide), Res.more (m := 0) (Res.run 900 ?_)⟩
  simp only [↓reduceIte, Nat.reduceEqDiff, Nat.reduceAdd, Nat.reduceSub, Nat.reduceMul, Nat.reduceLT, Int.reduceToNat, Int.reduceBEq, Int.reduceBNe, Int.reduceLT, Int.reduceLE, E, E', TY, hnl, Int.reduceAdd, e2]
  refine Ret.body [.s 2 false 0 1 k1] rfl (by kernel_rfl) fun nw w' hs => ?_
  obtain ⟨own, ho⟩ := hs
  obtain ⟨q1, q2⟩ := ho.ok 2 _ rfl rfl
  obtain ⟨q3, q4⟩ := ho.out 2 _ (by simp) q1
  refine ⟨_, k1, cu1, rfl, ⟨c1, c2, c3, ?_, c5⟩, ho.keep, Nat.le_of_not_lt q3, q4, q2⟩
  exact c4

theorem build_arr2 (x0 x1 : Option Addr) (c0 c1 n0 n1 : Nat) (w : World) : (Instr.build 131 #[(0, .slice x0 n0 c0), (1, .slice x1 n1 c1)]).run Tryd.prog w = .ok (.agg #[.slice x0 n0 c0, .slice x1 n1 c1]) w := by kernel_rfl
/-- The array of the two lists. -/
theorem Res.arr2 {Q : Pst} {G : Nat → Prop} {W : World} {σ : St} {k : List It} {all rest : List Oper} {o : Oper} {a b : Operand} {x0 x1 : Option Addr} {n0 n1 c0 c1 : Nat} (ho : o.op = .build 131 #[(0, a), (1, b)]) (ha : ev σ a = some (.v (.slice x0 n0 c0))) (hb : ev σ b = some (.v (.slice x1 n1 c1)))
    (h : Res Tryd.prog Q G W (σ.put o.dst (.agg [.v (.slice x0 n0 c0), .v (.slice x1 n1 c1)])) (.ops all rest :: k)) (hg : o.guard = none := by rfl) : Res Tryd.prog Q G W σ (.ops all (o :: rest) :: k) := by
  refine Res.op ?_ hg (by rw [ho]; intro c hc; cases hc)
  intro new act w hs
  obtain ⟨ea, _⟩ := ev_sound hs ha
  obtain ⟨eb, _⟩ := ev_sound hs hb
  refine GoRun.opK (wp_value (v := (SV.agg [.v (.slice x0 n0 c0), .v (.slice x1 n1 c1)]).den (σ.X ++ new)) (w' := w) ?_ ?_)
  · simp only [execOp, ho, List.map_toArray, List.map_cons, List.map_nil, ea, eb, SV.den, At.den]
    have := build_arr2 x0 x1 c0 c1 n0 n1 w
    simp only [Sem.run_bind, this, Result.andThen_ok, Sem.run_pure]
  · exact h new _ w (hs.put o.dst (.agg [.v (.slice x0 n0 c0), .v (.slice x1 n1 c1)]) (by simp [SV.lt, At.lt]))

theorem m_With {w : World} (x : SL) (h : SbR (· < w.heap.size) w kS x) (A : Option Addr) (c : Nat) (hA : Cs (· < w.heap.size) w A (hcs kS.su)) :
    Calls Tryd.prog 67 #[kS.v x, .slice A 1 c] w fun e w' => ∃ y, e = .returned (kS.v y) ∧ Ext w w' ∧ SbR (fun b => w.heap.size ≤ b ∧ b < w'.heap.size) w' kS y := by
  refine start0 (args := [.v (.agg #[.bool false, .slice x.a1 1 x.c1, .int .i64 3, .slice x.a2 0 x.c2, .slice x.a3 0 x.c3, .slice x.a4 1 x.c4]), .v (.slice A 1 c)]) (G := (· < w.heap.size)) Tryd.func67 rfl Tryd.ntmps67 (by simp [SV.lt]) (fun _ h => h) ?_
  refine Res.run 1000 ?_
  obtain ⟨a0, a1, a2⟩ := hcs_at hA 0 (by decide)
  have hA1 : A.isSome = true := okRd_some a0
  rw [Nat.zero_mul, pAdd_zero] at a0 a1 a2
  have a1 : rd w A 0 = .int .i64 13 := a1
  have a2 : rd w A 1 = .int .i64 2 := a2
  obtain ⟨f0, f1, f2, f3, f4, f5, f6⟩ := fcs_at h.fs 0 (by decide)
  have hA4 : x.a4.isSome = true := okRd_some f0
  rw [Nat.zero_mul, pAdd_zero] at f0 f1 f2 f3 f4 f5 f6
  have f1 : rd w x.a4 0 = .int .i64 8 := f1
  have f2 : rd w x.a4 1 = .int .i64 1 := f2
  have f3 : rd w x.a4 2 = .bool false := f3
  have f4 : rd w x.a4 3 = .int .i64 0 := f4
  have f5 : rd w x.a4 4 = .int .i64 0 := f5
  have f6 : rd w x.a4 5 = .bool true := f6
  have e1 : decide (((0 : Int)) < ((1 : Nat) : Int)) = true := by decide
  have e2 : decide (((1 : Int)) < ((1 : Nat) : Int)) = false := by decide
  simp only [↓reduceIte, Nat.reduceEqDiff, Nat.reduceAdd, Nat.reduceSub, Nat.reduceMul, Nat.reduceLT, Int.reduceToNat, Int.reduceBEq, Int.reduceBNe, Int.reduceLT, Int.reduceLE, E, E', TY]
  refine Res.rounds 1 (Res.run 900 ?_)
  simp only [↓reduceIte, Nat.reduceEqDiff, Nat.reduceAdd, Nat.reduceSub, Nat.reduceMul, Nat.reduceLT, Int.reduceToNat, Int.reduceBEq, Int.reduceBNe, Int.reduceLT, Int.reduceLE, E, E', TY, e1]
  refine Res.draw 9 [.cells 29 [.v (.bool false), .v (.slice x.a1 1 x.c1), .v (.int .i64 3), .v (.slice x.a2 0 x.c2), .v (.slice x.a3 0 x.c3), .v (.slice x.a4 1 x.c4)], .cells 29 [.v (.bool false), .v (.slice none 0 0), .v (.int .i64 0), .v (.slice none 0 0), .v (.slice none 0 0), .v (.slice none 0 0)], .cells 29 [.v (.bool false), .v (.slice none 0 0), .v (.int .i64 3), .v (.slice none 0 0), .v (.slice none 0 0), .v (.slice none 0 0)]] (.take 0 (.take 1 (.take 2 (.take 3 (.take 4 (.take 5 (.run 6 (.run 7 (.take 8 .fin) .fin) .fin))))))) (by kernel_rfl) (by kernel_rfl) fun new hnew => Res.run 900 ?_
  have hnl : new.length = 3 := by have := hnew; simp at this; omega
  simp only [↓reduceIte, Nat.reduceEqDiff, Nat.reduceAdd, Nat.reduceSub, Nat.reduceMul, Nat.reduceLT, Int.reduceToNat, Int.reduceBEq, Int.reduceBNe, Int.reduceLT, Int.reduceLE, E, E', TY, hnl, a1, a2]
  refine ⟨⟨by decide, hA1⟩, a0, ?_⟩
  refine OpAt.appendN (x := .tmp 29) (y := .tmp 34) (t := 22) (e := 33) (size := 2) (bytes := 16) (m := 1) [.int .i64 13, .int .i64 2] rfl rfl rfl rfl ap22 rfl
    (SrcOK.s (j := 3) (off := 0) (c := 1) (nl := false) rfl rfl (by simp) (by intro i u hu; rw [Nat.zero_add]; exact hu)) rfl (by intro u hu; simp only [List.mem_cons, List.not_mem_nil, or_false] at hu; rcases hu with rfl | rfl <;> rfl) ⟨by simp [maxLen], by omega⟩ fun nl1 k1 cu1 c1 c2 c3 c4 c5 c6 => Res.run 900 ?_
  obtain rfl : nl1 = false := by cases nl1 with | false => rfl | true => simp at c6
  simp only [↓reduceIte, Nat.reduceEqDiff, Nat.reduceAdd, Nat.reduceSub, Nat.reduceMul, Nat.reduceLT, Int.reduceToNat, Int.reduceBEq, Int.reduceBNe, Int.reduceLT, Int.reduceLE, E, E', TY, hnl]
  refine ⟨i64ok_of (by decide) (by decide), i64ok_of (by decide) (by decide), Res.more (m := 0) (Res.run 900 ?_)⟩
  simp only [↓reduceIte, Nat.reduceEqDiff, Nat.reduceAdd, Nat.reduceSub, Nat.reduceMul, Nat.reduceLT, Int.reduceToNat, Int.reduceBEq, Int.reduceBNe, Int.reduceLT, Int.reduceLE, E, E', TY, hnl, Int.reduceAdd, e2]
  refine Res.arr2 rfl rfl rfl (Res.run 900 ?_)
  simp only [↓reduceIte, Nat.reduceEqDiff, Nat.reduceAdd, Nat.reduceSub, Nat.reduceMul, Nat.reduceLT, Int.reduceToNat, Int.reduceBEq, Int.reduceBNe, Int.reduceLT, Int.reduceLE, E, E', TY, hnl]
  refine Res.rounds 2 (Res.run 900 ?_)
  have e3 : decide ((0 : Int) < 2) = true := by decide
  have e4 : decide ((1 : Int) < 2) = true := by decide
  have e5 : decide ((2 : Int) < 2) = false := by decide
  have e6 : decide (((0 : Int)) < ((0 : Nat) : Int)) = false := by decide
  simp only [↓reduceIte, Nat.reduceEqDiff, Nat.reduceAdd, Nat.reduceSub, Nat.reduceMul, Nat.reduceLT, Int.reduceToNat, Int.reduceBEq, Int.reduceBNe, Int.reduceLT, Int.reduceLE, E, E', TY, hnl, e3]
  refine Res.rounds 0 (Res.run 900 ?_)
  simp only [↓reduceIte, Nat.reduceEqDiff, Nat.reduceAdd, Nat.reduceSub, Nat.reduceMul, Nat.reduceLT, Int.reduceToNat, Int.reduceBEq, Int.reduceBNe, Int.reduceLT, Int.reduceLE, E, E', TY, hnl, e6]
  refine ⟨by decide, i64ok_of (by decide) (by decide), Res.more (m := 1) (Res.run 900 ?_)⟩
  simp only [↓reduceIte, Nat.reduceEqDiff, Nat.reduceAdd, Nat.reduceSub, Nat.reduceMul, Nat.reduceLT, Int.reduceToNat, Int.reduceBEq, Int.reduceBNe, Int.reduceLT, Int.reduceLE, E, E', TY, hnl, Int.reduceAdd, e4]
  refine Res.rounds 0 (Res.run 900 ?_)
  simp only [↓reduceIte, Nat.reduceEqDiff, Nat.reduceAdd, Nat.reduceSub, Nat.reduceMul, Nat.reduceLT, Int.reduceToNat, Int.reduceBEq, Int.reduceBNe, Int.reduceLT, Int.reduceLE, E, E', TY, hnl, e6]
  refine ⟨by decide, i64ok_of (by decide) (by decide), Res.more (m := 0) (Res.run 900 ?_)⟩
  simp only [↓reduceIte, Nat.reduceEqDiff, Nat.reduceAdd, Nat.reduceSub, Nat.reduceMul, Nat.reduceLT, Int.reduceToNat, Int.reduceBEq, Int.reduceBNe, Int.reduceLT, Int.reduceLE, E, E', TY, hnl, Int.reduceAdd, e5]
  refine Res.rounds 1 (Res.run 900 ?_)
  simp only [↓reduceIte, Nat.reduceEqDiff, Nat.reduceAdd, Nat.reduceSub, Nat.reduceMul, Nat.reduceLT, Int.reduceToNat, Int.reduceBEq, Int.reduceBNe, Int.reduceLT, Int.reduceLE, E, E', TY, hnl, e1, f1, f2, f3, f4, f5, f6]
  refine ⟨⟨by decide, hA4⟩, f0, ?_⟩
  refine Res.op (OpAt.appendN (x := .tmp 122) (y := .tmp 124) (t := 25) (e := 83) (size := 6) (bytes := 48) (m := 1) [.int .i64 8, .int .i64 1, .bool false, .int .i64 0, .int .i64 0, .bool true] rfl rfl rfl rfl ap25 rfl
    (SrcOK.s (j := 7) (off := 0) (c := 1) (nl := false) rfl rfl (by simp) (by intro i u hu; rw [Nat.zero_add]; exact hu)) rfl (Fd.one ⟨8, ⟨1, false, ⟨0, 0⟩⟩, true⟩) ⟨by simp [maxLen], by omega⟩ fun nl2 k2 cu2 d1 d2 d3 d4 d5 d6 => Res.run 900 ?_)
  obtain rfl : nl2 = false := by cases nl2 with | false => rfl | true => simp at d6
  simp only [↓reduceIte, Nat.reduceEqDiff, Nat.reduceAdd, Nat.reduceSub, Nat.reduceMul, Nat.reduceLT, Int.reduceToNat, Int.reduceBEq, Int.reduceBNe, Int.reduceLT, Int.reduceLE, E, E', TY, hnl]
  refine ⟨i64ok_of (by decide) (by decide), Res.more (m := 0) (Res.run 900 ?_)⟩
  simp only [↓reduceIte, Nat.reduceEqDiff, Nat.reduceAdd, Nat.reduceSub, Nat.reduceMul, Nat.reduceLT, Int.reduceToNat, Int.reduceBEq, Int.reduceBNe, Int.reduceLT, Int.reduceLE, E, E', TY, hnl, Int.reduceAdd, e2]
  refine Ret.body [.agg [.v (.bool false), .s 4 false 0 1 k1, .v (.int .i64 3), .v (.slice none 0 0), .v (.slice none 0 0), .s 8 false 0 1 k2]] rfl (by kernel_rfl) fun nw w' hs => ?_
  obtain ⟨own, ho⟩ := hs
  obtain ⟨p1, p2⟩ := ho.ok 4 _ rfl rfl
  obtain ⟨p3, p4⟩ := ho.out 4 _ (by simp) p1
  obtain ⟨q1, q2⟩ := ho.ok 8 _ rfl rfl
  obtain ⟨q3, q4⟩ := ho.out 8 _ (by simp) q1
  refine ⟨⟨some ⟨_, 0, none⟩, k1, none, 0, none, 0, some ⟨_, 0, none⟩, k2⟩, rfl, ho.keep, ?_, .inl rfl, .inl rfl, ?_, (fun h => by cases h), fun _ => rfl, fun _ => rfl, (fun h => by cases h)⟩
  · exact cs_rowA (nl := false) (q := 0) (size := 2) (n := 1) (ty := 33) (fun _ => ⟨⟨Nat.le_of_not_lt p3, p4⟩, p2⟩) ⟨c1, c2, c3, c4, c5⟩
  · exact cs_rowA (nl := false) (q := 0) (size := 6) (n := 1) (ty := 83) (fun _ => ⟨⟨Nat.le_of_not_lt q3, q4⟩, q2⟩) ⟨d1, d2, d3, d4, d5⟩

/-- The example lies there. -/
def KsA (y : SL) : Asn := ⟨fun O _ w => SbR O w kS y, fun h hw => h.loc hw⟩

theorem m_Copy {w : World} (x : SL) (h : SbR (· < w.heap.size) w kS x) :
    Calls Tryd.prog 35 #[kS.v x] w fun e w' => ∃ y, e = .returned (kS.v y) ∧ Ext w w' ∧ SbR (fun b => w.heap.size ≤ b ∧ b < w'.heap.size) w' kS y := by
  refine start0 (args := [.v (.agg #[.bool false, .slice x.a1 1 x.c1, .int .i64 3, .slice x.a2 0 x.c2, .slice x.a3 0 x.c3, .slice x.a4 1 x.c4])]) (G := (· < w.heap.size)) Tryd.func35 rfl Tryd.ntmps35 (by simp [SV.lt]) (fun _ h => h) ?_
  refine Res.run 1000 ?_
  simp only [↓reduceIte, Nat.reduceEqDiff, Nat.reduceAdd, Nat.reduceSub, Nat.reduceMul, Nat.reduceLT, Int.reduceToNat, Int.reduceBEq, Int.reduceBNe, Int.reduceLT, Int.reduceLE, E, E', TY]
  refine Res.draw 4 [.cells 29 [.v (.bool false), .v (.slice x.a1 1 x.c1), .v (.int .i64 3), .v (.slice x.a2 0 x.c2), .v (.slice x.a3 0 x.c3), .v (.slice x.a4 1 x.c4)], .cells 29 [.v (.bool false), .v (.slice none 0 0), .v (.int .i64 0), .v (.slice none 0 0), .v (.slice none 0 0), .v (.slice none 0 0)]] (.take 0 (.take 1 (.run 2 (.run 3 .fin .fin) .fin))) (by kernel_rfl) (by kernel_rfl) fun new hnew => Res.run 900 ?_
  have hnl : new.length = 2 := by have := hnew; simp at this; omega
  simp only [↓reduceIte, Nat.reduceEqDiff, Nat.reduceAdd, Nat.reduceSub, Nat.reduceMul, Nat.reduceLT, Int.reduceToNat, Int.reduceBEq, Int.reduceBNe, Int.reduceLT, Int.reduceLE, E, E', TY, hnl]
  refine ⟨fnok68, CallAt.row 33 (fun nl n cap cur => nl = false ∧ n = 1 ∧ FS0 2 1 (hcs kS.su) false cap cur) (fun nw w' hs => ?_) ?_⟩
  · refine (m_rHeaps x (h.ext hs.ext)).mono ?_
    rintro e w2 ⟨b, cap, cur, rfl, hF, hE, h1, h2, h3⟩
    exact ⟨false, b, 1, cap, _, rfl, ⟨rfl, rfl, hF⟩, hE, fun _ => ⟨h1, h2, h3⟩⟩
  rintro nl m cap cur ⟨rfl, rfl, hF⟩
  refine Res.run 900 ?_
  simp only [↓reduceIte, Nat.reduceEqDiff, Nat.reduceAdd, Nat.reduceSub, Nat.reduceMul, Nat.reduceLT, Int.reduceToNat, Int.reduceBEq, Int.reduceBNe, Int.reduceLT, Int.reduceLE, E, E', TY, hnl]
  refine ⟨fnok67, ?_⟩
  refine CallAt.mkA (fun v A' => ∃ y, v = kS.v y ∧ A' = KsA y) ?_ ?_
  · intro nw w' hs
    obtain ⟨own, ho⟩ := hs
    obtain ⟨p1, p2⟩ := ho.ok 2 _ rfl rfl
    obtain ⟨p3, p4⟩ := ho.out 2 _ (by simp) p1
    refine (m_With x (h.ext ho.keep) _ cap (cs_rowA (nl := false) (q := 0) (size := 2) (n := 1) (ty := 33) (O := (· < w'.heap.size)) (fun _ => ⟨p4, p2⟩) hF)).mono ?_
    rintro e w2 ⟨y, rfl, hE, hR⟩
    exact ⟨_, _, _, rfl, ⟨y, rfl, rfl⟩, hR, hE, fun b hb => hb⟩
  rintro _ _ ⟨y, rfl, rfl⟩
  refine Res.run 900 ?_
  have hv : kS.v y = .agg #[.bool false, .slice y.a1 1 y.c1, .int .i64 3, .slice y.a2 0 y.c2, .slice y.a3 0 y.c3, .slice y.a4 1 y.c4] := rfl
  simp only [↓reduceIte, Nat.reduceEqDiff, Nat.reduceAdd, Nat.reduceSub, Nat.reduceMul, Nat.reduceLT, Int.reduceToNat, Int.reduceBEq, Int.reduceBNe, Int.reduceLT, Int.reduceLE, E, E', TY, hnl, hv]
  refine Ret.body [.agg [.v (.bool false), .v (.slice y.a1 1 y.c1), .v (.int .i64 3), .v (.slice y.a2 0 y.c2), .v (.slice y.a3 0 y.c3), .v (.slice y.a4 1 y.c4)]] rfl (by kernel_rfl) fun nw w' hs => ?_
  obtain ⟨own, ho⟩ := hs
  have hR : SbR (own 3) w' kS y := ho.ok 3 _ rfl
  refine ⟨y, rfl, ho.keep, hR.mono fun b hb => ?_⟩
  obtain ⟨p3, p4⟩ := ho.out 3 _ (by simp) hb
  exact ⟨Nat.le_of_not_lt p3, p4⟩
end Go.Proofs.YtkcbmkoafmffoaaDoor
