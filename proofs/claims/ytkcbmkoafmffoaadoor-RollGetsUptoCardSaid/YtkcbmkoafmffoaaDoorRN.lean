/-
  The roll layer: the body of RollNone.
-/
import Derived.Test.YtkcbmkoafmffoaaDoorRF
set_option linter.unusedVariables false
set_option linter.unusedSimpArgs false
set_option maxRecDepth 20000
set_option maxHeartbeats 8000000
namespace Go.Proofs.YtkcbmkoafmffoaaDoor
open Go Go.Eng

theorem build_arrT (x0 x1 : Option Addr) (w : World) : (Instr.build 78 #[(0, .pointer x0), (1, .pointer x1)]).run Tryd.prog w = .ok (.agg #[.pointer x0, .pointer x1]) w := by kernel_rfl
/-- The array of the two tables. -/
theorem Res.arrT {Q : Pst} {G : Nat → Prop} {W : World} {σ : St} {k : List It} {all rest : List Oper} {o : Oper} {a b : Operand} (ho : o.op = .build 78 #[(0, a), (1, b)]) (ha : ev σ a = some (.v (.pointer none))) (hb : ev σ b = some (.p 1 0)) (hl : 1 < σ.L.length)
    (h : Res Tryd.prog Q G W (σ.put o.dst (.agg [.v (.pointer none), .p 1 0])) (.ops all rest :: k)) (hg : o.guard = none := by rfl) : Res Tryd.prog Q G W σ (.ops all (o :: rest) :: k) := by
  refine Res.op ?_ hg (by rw [ho]; intro c hc; cases hc)
  intro new act w hs
  obtain ⟨ea, _⟩ := ev_sound hs ha
  obtain ⟨eb, _⟩ := ev_sound hs hb
  refine GoRun.opK (wp_value (v := (SV.agg [.v (.pointer none), .p 1 0]).den (σ.X ++ new)) (w' := w) ?_ ?_)
  · simp only [execOp, ho, List.map_toArray, List.map_cons, List.map_nil, ea, eb, SV.den, At.den]
    have := build_arrT none (some ⟨(σ.X ++ new).getD 1 0, 0, none⟩) w
    simp only [Sem.run_bind, this, Result.andThen_ok, Sem.run_pure]
  · exact h new _ w (hs.put o.dst (.agg [.v (.pointer none), .p 1 0]) (by simp [SV.lt, At.lt]; omega))

/-- What the pointer s holds is no table. -/
def NS (G : Nat → Prop) (W : World) (σ : St) (s : SV) : Prop := ∀ new w, HS G W σ new w → ∃ A, s.den (σ.X ++ new) = .pointer A ∧ NT w A
theorem NS.nil {G : Nat → Prop} {W : World} {σ : St} : NS G W σ (.v (.pointer none)) := fun _ _ _ => ⟨none, rfl, .inl rfl⟩
theorem NS.at {G : Nat → Prop} {W : World} {σ : St} (h : getE σ.L 1 = some (.cells 77 [.v (.slice none 0 0), .v (.slice none 0 0), .v (.map none)])) : NS G W σ (.p 1 0) := by
  rintro new w ⟨own, ho⟩
  rw [getE_eq] at h
  obtain ⟨h1, h2⟩ := ho.ok 1 _ h
  exact ⟨_, rfl, .inr ⟨_, rfl, h2⟩⟩
theorem CallAt.nm {Q : Pst} {G : Nat → Prop} {W : World} {σ : St} {dst : Option Tmp} {k : List It} {f : FuncId} {s : SV} {rest : List SV} (v : Value) (hs : NS G W σ s) (hc : ∀ (new : List Nat) (w : World) (A : Option Addr), NT w A → Calls Tryd.prog f (Value.pointer A :: rest.map (SV.den (σ.X ++ new))).toArray w fun e w' => e = .returned v ∧ Ext w w')
    (hk : Res Tryd.prog Q G W (σ.put dst (.v v)) k) : CallAt Tryd.prog Q G W σ f (s :: rest) dst k := by
  refine CallAt.detS (.v v) trivial (fun new w h => ?_) hk
  obtain ⟨A, e, hn⟩ := hs new w h
  rw [List.map_cons, e]
  exact hc new w A hn

theorem m_RN {w : World} (n : Int) (v : Vl) (hT : TabIn (· < w.heap.size) w) : Calls Tryd.prog 8 #[.int .i64 n, v.v] w fun e w' => e = .returned (.bool true) ∧ Ext w w' := by
  have hv : v.v = .agg #[.int .i64 v.k, .bool v.nul, .int .i64 v.h.k, .int .i64 v.h.n] := rfl
  have bv : ∀ n y, (bxS n).v y = .agg #[.bool false, .slice y.a1 0 y.c1, .int .i64 2, .slice y.a2 0 y.c2, .slice y.a3 0 y.c3, .slice y.a4 1 y.c4] := fun _ _ => rfl
  refine start0 (args := [.v (.int .i64 n), .v v.v]) (G := (· < w.heap.size)) Tryd.func8 rfl Tryd.ntmps8 (by simp [SV.lt]) (fun _ h => h) ?_
  refine Res.run 1000 ?_
  simp only [↓reduceIte, Nat.reduceEqDiff, Nat.reduceAdd, Nat.reduceSub, Nat.reduceMul, Nat.reduceLT, Int.reduceToNat, Int.reduceBEq, Int.reduceBNe, Int.reduceLT, Int.reduceLE, E, E', TY, hv]
  refine Res.arrT rfl rfl rfl (by simp) (Res.run 900 ?_)
  simp only [↓reduceIte, Nat.reduceEqDiff, Nat.reduceAdd, Nat.reduceSub, Nat.reduceMul, Nat.reduceLT, Int.reduceToNat, Int.reduceBEq, Int.reduceBNe, Int.reduceLT, Int.reduceLE, E, E', TY]
  refine Res.rounds 2 (Res.run 900 ?_)
  have c0 : decide ((0 : Int) < 2) = true := by decide
  have c1 : decide ((1 : Int) < 2) = true := by decide
  have c2 : decide ((2 : Int) < 2) = false := by decide
  have hsz : sbZ = .agg #[.bool false, .slice none 0 0, .int .i64 0, .slice none 0 0, .slice none 0 0, .slice none 0 0] := rfl
  have hvz : vlZ = .agg #[.int .i64 0, .bool false, .int .i64 0, .int .i64 0] := rfl
  have l0 : decide (((0 : Nat) : Int) > 0) = false := by decide
  simp only [↓reduceIte, Nat.reduceEqDiff, Nat.reduceAdd, Nat.reduceSub, Nat.reduceMul, Nat.reduceLT, Int.reduceToNat, Int.reduceBEq, Int.reduceBNe, Int.reduceLT, Int.reduceLE, E, E', TY, c0]
  refine ⟨by decide, fnok19, CallAt.box 0 fun y => Res.run 900 ?_⟩
  simp only [↓reduceIte, Nat.reduceEqDiff, Nat.reduceAdd, Nat.reduceSub, Nat.reduceMul, Nat.reduceLT, Int.reduceToNat, Int.reduceBEq, Int.reduceBNe, Int.reduceLT, Int.reduceLE, E, E', TY, bv]
  refine ⟨fnok18, CallAt.nm (.tuple #[.slice none 0 0, .int .i64 1]) NS.nil (fun new w' A h => n_add h _ _ _ _ _ _) (Res.run 900 ?_)⟩
  simp only [↓reduceIte, Nat.reduceEqDiff, Nat.reduceAdd, Nat.reduceSub, Nat.reduceMul, Nat.reduceLT, Int.reduceToNat, Int.reduceBEq, Int.reduceBNe, Int.reduceLT, Int.reduceLE, E, E', TY]
  refine ⟨fnok25, CallAt.nm (.tuple #[sbZ, .int .i64 1]) NS.nil (fun new w' A h => n_get h n) (Res.run 900 ?_)⟩
  simp only [↓reduceIte, Nat.reduceEqDiff, Nat.reduceAdd, Nat.reduceSub, Nat.reduceMul, Nat.reduceLT, Int.reduceToNat, Int.reduceBEq, Int.reduceBNe, Int.reduceLT, Int.reduceLE, E, E', TY, hsz]
  refine ⟨fnok26, CallAt.nm (.tuple #[.int .i64 0, .int .i64 0, .int .i64 1]) NS.nil (fun new w' A h => n_group h n) (Res.run 900 ?_)⟩
  simp only [↓reduceIte, Nat.reduceEqDiff, Nat.reduceAdd, Nat.reduceSub, Nat.reduceMul, Nat.reduceLT, Int.reduceToNat, Int.reduceBEq, Int.reduceBNe, Int.reduceLT, Int.reduceLE, E, E', TY]
  refine ⟨fnok23, CallAt.nm (.tuple #[vlZ, .int .i64 1]) NS.nil (fun new w' A h => n_close h _ _ _ v) (Res.run 900 ?_)⟩
  simp only [↓reduceIte, Nat.reduceEqDiff, Nat.reduceAdd, Nat.reduceSub, Nat.reduceMul, Nat.reduceLT, Int.reduceToNat, Int.reduceBEq, Int.reduceBNe, Int.reduceLT, Int.reduceLE, E, E', TY, hvz, l0]
  refine ⟨fnok33, CallAt.det #[sbZ, sbZ] (.bool true) (fun _ => rfl) (fun w' _ => z_same) (Res.run 900 ?_)⟩
  simp only [↓reduceIte, Nat.reduceEqDiff, Nat.reduceAdd, Nat.reduceSub, Nat.reduceMul, Nat.reduceLT, Int.reduceToNat, Int.reduceBEq, Int.reduceBNe, Int.reduceLT, Int.reduceLE, E, E', TY, Int.reduceAdd, beq_self_eq_true]
  refine ⟨i64ok_of (by decide) (by decide), fnok22, CallAt.nm (.int .i64 0) NS.nil (fun new w' A h => n_len h) (Res.run 900 ?_)⟩
  simp only [↓reduceIte, Nat.reduceEqDiff, Nat.reduceAdd, Nat.reduceSub, Nat.reduceMul, Nat.reduceLT, Int.reduceToNat, Int.reduceBEq, Int.reduceBNe, Int.reduceLT, Int.reduceLE, E, E', TY]
  refine ⟨fnok30, CallAt.nm (.pointer none) NS.nil (fun new w' A h => n_copy h) (Res.run 900 ?_)⟩
  simp only [↓reduceIte, Nat.reduceEqDiff, Nat.reduceAdd, Nat.reduceSub, Nat.reduceMul, Nat.reduceLT, Int.reduceToNat, Int.reduceBEq, Int.reduceBNe, Int.reduceLT, Int.reduceLE, E, E', TY]
  refine ⟨i64ok_of (by decide) (by decide), Res.more (m := 1) (Res.run 900 ?_)⟩
  simp only [↓reduceIte, Nat.reduceEqDiff, Nat.reduceAdd, Nat.reduceSub, Nat.reduceMul, Nat.reduceLT, Int.reduceToNat, Int.reduceBEq, Int.reduceBNe, Int.reduceLT, Int.reduceLE, E, E', TY, Int.reduceAdd, c1]
  refine ⟨by decide, fnok19, CallAt.box 0 fun y => Res.run 900 ?_⟩
  simp only [↓reduceIte, Nat.reduceEqDiff, Nat.reduceAdd, Nat.reduceSub, Nat.reduceMul, Nat.reduceLT, Int.reduceToNat, Int.reduceBEq, Int.reduceBNe, Int.reduceLT, Int.reduceLE, E, E', TY, bv]
  refine ⟨fnok18, CallAt.nm (.tuple #[.slice none 0 0, .int .i64 1]) (NS.at rfl) (fun new w' A h => n_add h _ _ _ _ _ _) (Res.run 900 ?_)⟩
  simp only [↓reduceIte, Nat.reduceEqDiff, Nat.reduceAdd, Nat.reduceSub, Nat.reduceMul, Nat.reduceLT, Int.reduceToNat, Int.reduceBEq, Int.reduceBNe, Int.reduceLT, Int.reduceLE, E, E', TY]
  refine ⟨fnok25, CallAt.nm (.tuple #[sbZ, .int .i64 1]) (NS.at rfl) (fun new w' A h => n_get h n) (Res.run 900 ?_)⟩
  simp only [↓reduceIte, Nat.reduceEqDiff, Nat.reduceAdd, Nat.reduceSub, Nat.reduceMul, Nat.reduceLT, Int.reduceToNat, Int.reduceBEq, Int.reduceBNe, Int.reduceLT, Int.reduceLE, E, E', TY, hsz]
  refine ⟨fnok26, CallAt.nm (.tuple #[.int .i64 0, .int .i64 0, .int .i64 1]) (NS.at rfl) (fun new w' A h => n_group h n) (Res.run 900 ?_)⟩
  simp only [↓reduceIte, Nat.reduceEqDiff, Nat.reduceAdd, Nat.reduceSub, Nat.reduceMul, Nat.reduceLT, Int.reduceToNat, Int.reduceBEq, Int.reduceBNe, Int.reduceLT, Int.reduceLE, E, E', TY]
  refine ⟨fnok23, CallAt.nm (.tuple #[vlZ, .int .i64 1]) (NS.at rfl) (fun new w' A h => n_close h _ _ _ v) (Res.run 900 ?_)⟩
  simp only [↓reduceIte, Nat.reduceEqDiff, Nat.reduceAdd, Nat.reduceSub, Nat.reduceMul, Nat.reduceLT, Int.reduceToNat, Int.reduceBEq, Int.reduceBNe, Int.reduceLT, Int.reduceLE, E, E', TY, hvz, l0]
  refine ⟨fnok33, CallAt.det #[sbZ, sbZ] (.bool true) (fun _ => rfl) (fun w' _ => z_same) (Res.run 900 ?_)⟩
  simp only [↓reduceIte, Nat.reduceEqDiff, Nat.reduceAdd, Nat.reduceSub, Nat.reduceMul, Nat.reduceLT, Int.reduceToNat, Int.reduceBEq, Int.reduceBNe, Int.reduceLT, Int.reduceLE, E, E', TY, Int.reduceAdd, beq_self_eq_true]
  refine ⟨i64ok_of (by decide) (by decide), fnok22, CallAt.nm (.int .i64 0) (NS.at rfl) (fun new w' A h => n_len h) (Res.run 900 ?_)⟩
  simp only [↓reduceIte, Nat.reduceEqDiff, Nat.reduceAdd, Nat.reduceSub, Nat.reduceMul, Nat.reduceLT, Int.reduceToNat, Int.reduceBEq, Int.reduceBNe, Int.reduceLT, Int.reduceLE, E, E', TY]
  refine ⟨fnok30, CallAt.nm (.pointer none) (NS.at rfl) (fun new w' A h => n_copy h) (Res.run 900 ?_)⟩
  simp only [↓reduceIte, Nat.reduceEqDiff, Nat.reduceAdd, Nat.reduceSub, Nat.reduceMul, Nat.reduceLT, Int.reduceToNat, Int.reduceBEq, Int.reduceBNe, Int.reduceLT, Int.reduceLE, E, E', TY]
  refine ⟨i64ok_of (by decide) (by decide), Res.more (m := 0) (Res.run 900 ?_)⟩
  simp only [↓reduceIte, Nat.reduceEqDiff, Nat.reduceAdd, Nat.reduceSub, Nat.reduceMul, Nat.reduceLT, Int.reduceToNat, Int.reduceBEq, Int.reduceBNe, Int.reduceLT, Int.reduceLE, E, E', TY, Int.reduceAdd, c2]
  refine ⟨fnok16, CallAt.det #[] (.bool true) (fun _ => rfl) (fun w' hK => m_known ((hT.keep hK).mono fun b hb => Nat.lt_of_lt_of_le hb hK.size)) (Res.run 900 ?_)⟩
  simp only [↓reduceIte, Nat.reduceEqDiff, Nat.reduceAdd, Nat.reduceSub, Nat.reduceMul, Nat.reduceLT, Int.reduceToNat, Int.reduceBEq, Int.reduceBNe, Int.reduceLT, Int.reduceLE, E, E', TY]
  exact Ret.one rfl (by kernel_rfl)
end Go.Proofs.YtkcbmkoafmffoaaDoor
