/-
  StackWithin, walked.
-/
import Derived.Test.YteendcbmoagdfaaZ
set_option linter.unusedVariables false
set_option linter.unusedSimpArgs false
set_option maxRecDepth 20000
set_option maxHeartbeats 4000000
namespace Go.Proofs.Yteendcbmoagdfaa
open Go Go.Eng

section
variable {Q : Pst} {G : Nat → Prop} {W : World}
theorem Cs.sl {w : World} {O : Nat → Prop} {A : Option Addr} {l : List Vl} (h : Cs (Gm w O) w A (flat l)) : SlV (· < w.heap.size) w A l := SlV.of_cs (h.mono fun b hb => hb.1)
theorem CallAt.same {σ : St} {dst : Option Tmp} {k : List It} {i : Nat} {s1 s2 : SV} (a b : List Vl) (h1 : SrcV G W σ i s1 a) (h2 : SrcV G W σ i s2 b) (hl : a.length ≤ 1000000) (hk : Res Try.prog Q G W (σ.put dst (.v (.bool (eqVls a b)))) k) : CallAt Try.prog Q G W σ 15 [s1, s2] dst k := by
  refine CallAt.detS (.v (.bool (eqVls a b))) trivial (fun new w hs => ?_) hk
  obtain ⟨own, ho⟩ := hs
  obtain ⟨A1, c1, e1, k1, _⟩ := h1 new w own ho
  obtain ⟨A2, c2, e2, k2, _⟩ := h2 new w own ho
  simp only [List.map_cons, List.map_nil, e1, e2]
  exact m_SameVals a b A1 A2 c1 c2 k1.sl k2.sl hl
theorem CallAt.known {σ : St} {dst : Option Tmp} {k : List It} (hk : Res Try.prog Q G W (σ.put dst (.v (.bool true))) k) : CallAt Try.prog Q G W σ 7 [] dst k :=
  CallAt.detS (.v (.bool true)) trivial (fun new w hs => m_known) hk
end

theorem takesF_nil (st : List Vl) (fr : List Frm) : takesF st fr [] = (0, st) := rfl
theorem openF_nil (st : List Vl) (op : Int) (rs : List Vl) (fr : List Frm) : openF st fr op [] rs = (0, st, fr ++ [⟨op, [], rs, st.length, false, []⟩]) := by
  simp [openF, takesF_nil]
theorem upF_all {st : List Vl} {n : Int} (h : (st.length : Int) ≤ n) : upF st n = st := by
  unfold upF
  rw [Nat.min_eq_right (by omega), Nat.sub_self]
  rfl
theorem eqVls_self (l : List Vl) : eqVls l l = true := by simp [eqVls]

/-- In a frame whose height is the stack's, nothing is taken. -/
theorem popF_at (st : List Vl) (fr : List Frm) (f : Frm) (h : f.ht = st.length) : popF st (fr ++ [f]) = if f.dead then (vBot, 0, st) else (vZ, 140, st) := by
  unfold popF
  simp only [List.getLast?_append, List.getLast?_singleton, Option.some_or]
  cases st.getLast? with
  | none => simp
  | some x => simp [h]
theorem takesR_at (fr : List Frm) (f : Frm) (st : List Vl) (h : f.ht = st.length) : ∀ l, (takesR (fr ++ [f]) l st).2 = st ∧ (f.dead = false → l ≠ [] → (takesR (fr ++ [f]) l st).1 = 140)
  | [] => ⟨rfl, fun _ h => absurd rfl h⟩
  | v :: l => by
    have hp := popF_at st fr f h
    have ih := (takesR_at fr f st h l).1
    cases hd : f.dead with
    | false =>
      rw [hd] at hp
      have h1 : takeF st (fr ++ [f]) v = (140, st) := by simp [takeF, hp]
      simp only [takesR, h1]
      exact ⟨rfl, fun _ _ => rfl⟩
    | true =>
      rw [hd] at hp
      cases hv : valF vBot v with
      | true =>
        have h1 : takeF st (fr ++ [f]) v = (0, st) := by simp [takeF, hp, hv]
        simp only [takesR, h1]
        exact ⟨ih, fun h => by cases h⟩
      | false =>
        have h1 : takeF st (fr ++ [f]) v = (141, st) := by simp [takeF, hp, hv]
        simp only [takesR, h1]
        exact ⟨rfl, fun h => by cases h⟩

theorem m_within {w : World} (A : Option Addr) (c : Nat) (below : List Vl) (hb : Cs (· < w.heap.size) w A (flat below)) (hA : A = none → below = []) (B : Option Addr) (d : Nat) (tk : List Vl) (ht : Cs (· < w.heap.size) w B (flat tk)) (hB : B = none → tk = []) (dead : Bool) :
    Calls Try.prog 3 #[.slice A below.length c, .slice B tk.length d, .bool dead] w fun e w' => e = .returned (.bool true) ∧ Ext w w' := by
  refine start0 (args := [.v (.slice A below.length c), .v (.slice B tk.length d), .v (.bool dead)]) (G := (· < w.heap.size)) Try.func3 rfl Try.ntmps3 (by simp [SV.lt]) (fun _ h => h) ?_
  refine Res.run 1000 ?_
  simp only [↓reduceIte, Nat.reduceEqDiff, Nat.reduceAdd, Nat.reduceSub, Nat.reduceMul, Nat.reduceLT, Int.reduceToNat, Int.reduceBEq, Int.reduceBNe, Int.reduceLT, Int.reduceLE, E, E', TY]
  refine ⟨fnok7, CallAt.known (Res.run 900 ?_)⟩
  by_cases h1 : (below.length : Int) > 20
  · have e1 : decide ((below.length : Int) > 20) = true := by simp only [h1, decide_true]
    simp only [↓reduceIte, Nat.reduceEqDiff, Nat.reduceAdd, Nat.reduceSub, Nat.reduceMul, Nat.reduceLT, Int.reduceToNat, Int.reduceBEq, Int.reduceBNe, Int.reduceLT, Int.reduceLE, E, E', TY, e1]
    exact Ret.one rfl (by kernel_rfl)
  have e1 : decide ((below.length : Int) > 20) = false := by simp only [h1, decide_false]
  by_cases h2 : (tk.length : Int) > 20
  · have e2 : decide ((tk.length : Int) > 20) = true := by simp only [h2, decide_true]
    simp only [↓reduceIte, Nat.reduceEqDiff, Nat.reduceAdd, Nat.reduceSub, Nat.reduceMul, Nat.reduceLT, Int.reduceToNat, Int.reduceBEq, Int.reduceBNe, Int.reduceLT, Int.reduceLE, E, E', TY, e1, e2]
    exact Ret.one rfl (by kernel_rfl)
  have e2 : decide ((tk.length : Int) > 20) = false := by simp only [h2, decide_false]
  simp only [↓reduceIte, Nat.reduceEqDiff, Nat.reduceAdd, Nat.reduceSub, Nat.reduceMul, Nat.reduceLT, Int.reduceToNat, Int.reduceBEq, Int.reduceBNe, Int.reduceLT, Int.reduceLE, E, E', TY, e1, e2]
  refine ⟨fnok9, CallAt.rnew ?_⟩
  refine Res.fixX fun nx hnx => ?_
  obtain ⟨t, rfl⟩ := len1 (l := nx) (by have := hnx; simp only [St.new, St.put, List.length_append, List.length_cons, List.length_nil] at this; omega)
  clear hnx
  refine Res.run 900 ?_
  simp only [↓reduceIte, Nat.reduceEqDiff, Nat.reduceAdd, Nat.reduceSub, Nat.reduceMul, Nat.reduceLT, Int.reduceToNat, Int.reduceBEq, Int.reduceBNe, Int.reduceLT, Int.reduceLE, E, E', TY, List.nil_append]
  refine ⟨fnok8, CallAt.snew rfl (Res.run 900 ?_)⟩
  simp only [↓reduceIte, Nat.reduceEqDiff, Nat.reduceAdd, Nat.reduceSub, Nat.reduceMul, Nat.reduceLT, Int.reduceToNat, Int.reduceBEq, Int.reduceBNe, Int.reduceLT, Int.reduceLE, E, E', TY]
  refine ⟨fnok10, CallAt.push (j := 0) (t := t) (st := []) (fr := []) below ⟨rfl, rfl, rfl, by decide⟩ (SrcV.ext (by simp) hb hA) (by simp; omega) (Res.run 900 ?_)⟩
  simp only [↓reduceIte, Nat.reduceEqDiff, Nat.reduceAdd, Nat.reduceSub, Nat.reduceMul, Nat.reduceLT, Int.reduceToNat, Int.reduceBEq, Int.reduceBNe, Int.reduceLT, Int.reduceLE, E, E', TY, List.nil_append]
  refine ⟨fnok11, CallAt.open (j := 0) (t := t) (st := below) (fr := []) [] [] ⟨rfl, rfl, rfl, by decide⟩ SrcV.nil SrcV.nil (by omega) (by simp) (by simp) (by simp) (Res.run 900 ?_)⟩
  simp only [↓reduceIte, Nat.reduceEqDiff, Nat.reduceAdd, Nat.reduceSub, Nat.reduceMul, Nat.reduceLT, Int.reduceToNat, Int.reduceBEq, Int.reduceBNe, Int.reduceLT, Int.reduceLE, E, E', TY, openF_nil, List.nil_append]
  obtain ⟨f, hf⟩ : ∃ f : Frm, f = ⟨2, [], [], below.length, false, []⟩ := ⟨_, rfl⟩
  rw [← hf]
  have hfht : 0 ≤ f.ht := by rw [hf]; simp
  have hup : upF below 100 = below := upF_all (by omega)
  cases dead with
  | true =>
    simp only [↓reduceIte, Nat.reduceEqDiff, Nat.reduceAdd, Nat.reduceSub, Nat.reduceMul, Nat.reduceLT, Int.reduceToNat, Int.reduceBEq, Int.reduceBNe, Int.reduceLT, Int.reduceLE, E, E', TY]
    refine ⟨fnok12, CallAt.die (j := 0) (t := t) (st := below) (fr := []) (f := f) ⟨rfl, rfl, rfl, by decide⟩ hfht (by simp) (Res.run 900 ?_)⟩
    obtain ⟨f', hf'⟩ : ∃ f' : Frm, f' = { f with dead := true } := ⟨_, rfl⟩
    have hfd : f'.dead = true := by rw [hf']
    have hfh : f'.ht = below.length := by rw [hf', hf]
    have hrs : f'.rs = [] := by rw [hf', hf]
    have hps : f'.ps = [] := by rw [hf', hf]
    have hpf : popF below [f'] = (vBot, 0, below) := by have := popF_at below [] f' hfh; rw [hfd] at this; exact this
    have hvv : vBot.v = .agg #[.int .i64 4, .bool false, .int .i64 0, .int .i64 0] := rfl
    have d1 : below.take f.ht.toNat = below := by rw [hf]; simp
    rw [← hf', d1, List.nil_append]
    simp only [↓reduceIte, Nat.reduceEqDiff, Nat.reduceAdd, Nat.reduceSub, Nat.reduceMul, Nat.reduceLT, Int.reduceToNat, Int.reduceBEq, Int.reduceBNe, Int.reduceLT, Int.reduceLE, E, E', TY]
    refine ⟨fnok13, CallAt.dead (j := 0) (t := t) (st := below) (fr := []) (f := f') ⟨rfl, rfl, rfl, by decide⟩ (by simp) (Res.run 900 ?_)⟩
    simp only [↓reduceIte, Nat.reduceEqDiff, Nat.reduceAdd, Nat.reduceSub, Nat.reduceMul, Nat.reduceLT, Int.reduceToNat, Int.reduceBEq, Int.reduceBNe, Int.reduceLT, Int.reduceLE, E, E', TY, hfd, bne_self_eq_false, beq_self_eq_true, Bool.not_true, Bool.not_false]
    refine ⟨fnok14, CallAt.height (j := 0) (t := t) (st := below) (fr := [f']) ⟨rfl, rfl, rfl, by decide⟩ (Res.run 900 ?_)⟩
    simp only [↓reduceIte, Nat.reduceEqDiff, Nat.reduceAdd, Nat.reduceSub, Nat.reduceMul, Nat.reduceLT, Int.reduceToNat, Int.reduceBEq, Int.reduceBNe, Int.reduceLT, Int.reduceLE, E, E', TY, bne_self_eq_false, beq_self_eq_true, Bool.not_true, Bool.not_false]
    refine ⟨fnok16, CallAt.top (j := 0) (t := t) (st := below) (fr := [f']) (n := 100) ⟨rfl, rfl, rfl, by decide⟩ (by omega) fun nl1 b1 k1 cur1 hF1 => ?_⟩
    rw [hup] at hF1 ⊢
    refine Res.run 900 ?_
    simp only [↓reduceIte, Nat.reduceEqDiff, Nat.reduceAdd, Nat.reduceSub, Nat.reduceMul, Nat.reduceLT, Int.reduceToNat, Int.reduceBEq, Int.reduceBNe, Int.reduceLT, Int.reduceLE, E, E', TY]
    refine ⟨fnok15, CallAt.same (i := 1) below below (SrcV.row (j := 2) (by simp) rfl (by decide) hF1) (SrcV.ext (by simp) hb hA) (by omega) (Res.run 900 ?_)⟩
    simp only [↓reduceIte, Nat.reduceEqDiff, Nat.reduceAdd, Nat.reduceSub, Nat.reduceMul, Nat.reduceLT, Int.reduceToNat, Int.reduceBEq, Int.reduceBNe, Int.reduceLT, Int.reduceLE, E, E', TY, eqVls_self, Bool.not_true]
    refine ⟨fnok17, CallAt.take (j := 0) (t := t) (st := below) (fr := [f']) tk ⟨rfl, rfl, rfl, by decide⟩ (SrcV.ext (by simp) ht hB) (by omega) (by simp) (by omega) (Res.run 900 ?_)⟩
    obtain ⟨r2, r1⟩ := takesR_at [] f' below hfh tk.reverse
    have r2 : (takesF below [f'] tk).2 = below := r2
    have r1 : f'.dead = false → tk.reverse ≠ [] → (takesF below [f'] tk).1 = 140 := r1
    rw [r2]
    simp only [↓reduceIte, Nat.reduceEqDiff, Nat.reduceAdd, Nat.reduceSub, Nat.reduceMul, Nat.reduceLT, Int.reduceToNat, Int.reduceBEq, Int.reduceBNe, Int.reduceLT, Int.reduceLE, E, E', TY]
    refine ⟨fnok14, CallAt.height (j := 0) (t := t) (st := below) (fr := [f']) ⟨rfl, rfl, rfl, by decide⟩ (Res.run 900 ?_)⟩
    simp only [↓reduceIte, Nat.reduceEqDiff, Nat.reduceAdd, Nat.reduceSub, Nat.reduceMul, Nat.reduceLT, Int.reduceToNat, Int.reduceBEq, Int.reduceBNe, Int.reduceLT, Int.reduceLE, E, E', TY, bne_self_eq_false, beq_self_eq_true, Bool.not_true, Bool.not_false]
    refine ⟨fnok18, CallAt.pop (j := 0) (t := t) (st := below) (fr := [f']) ⟨rfl, rfl, rfl, by decide⟩ (by omega) (by simp) (Res.run 900 ?_)⟩
    simp only [↓reduceIte, Nat.reduceEqDiff, Nat.reduceAdd, Nat.reduceSub, Nat.reduceMul, Nat.reduceLT, Int.reduceToNat, Int.reduceBEq, Int.reduceBNe, Int.reduceLT, Int.reduceLE, E, E', TY, hpf, hvv, bne_self_eq_false, beq_self_eq_true, Bool.not_true, Bool.not_false]
    have c1 : clsErr below ([] ++ [f']) f' = none := by
      unfold clsErr
      rw [hrs, takesF_nil]
      simp [hfh]
    have c2 : takesF below ([] ++ [f']) f'.rs = (0, below) := by rw [hrs, takesF_nil]
    refine ⟨fnok19, CallAt.close (j := 0) (t := t) (st := below) (fr := []) (f := f') ⟨rfl, rfl, rfl, by decide⟩ c1 (by omega) (by simp) (by rw [hps]; simp) (by rw [hrs]; simp) fun nl2 b2 k2 cur2 nl3 b3 k3 cur3 hF2 hF3 => ?_⟩
    rw [c2]
    refine Res.run 900 ?_
    simp only [↓reduceIte, Nat.reduceEqDiff, Nat.reduceAdd, Nat.reduceSub, Nat.reduceMul, Nat.reduceLT, Int.reduceToNat, Int.reduceBEq, Int.reduceBNe, Int.reduceLT, Int.reduceLE, E, E', TY]
    refine ⟨fnok20, CallAt.frames (j := 0) (t := t) (st := below) (fr := []) ⟨rfl, rfl, rfl, by decide⟩ (Res.run 900 ?_)⟩
    simp only [↓reduceIte, Nat.reduceEqDiff, Nat.reduceAdd, Nat.reduceSub, Nat.reduceMul, Nat.reduceLT, Int.reduceToNat, Int.reduceBEq, Int.reduceBNe, Int.reduceLT, Int.reduceLE, E, E', TY, List.length_nil, Int.natCast_zero, bne_self_eq_false, beq_self_eq_true, Bool.not_true, Bool.not_false]
    refine ⟨fnok16, CallAt.top (j := 0) (t := t) (st := below) (fr := []) (n := 100) ⟨rfl, rfl, rfl, by decide⟩ (by omega) fun nl4 b4 k4 cur4 hF4 => ?_⟩
    rw [hup] at hF4 ⊢
    refine Res.run 900 ?_
    simp only [↓reduceIte, Nat.reduceEqDiff, Nat.reduceAdd, Nat.reduceSub, Nat.reduceMul, Nat.reduceLT, Int.reduceToNat, Int.reduceBEq, Int.reduceBNe, Int.reduceLT, Int.reduceLE, E, E', TY]
    refine ⟨fnok15, CallAt.same (i := 1) below below (SrcV.row (j := 5) (by simp) rfl (by decide) hF4) (SrcV.ext (by simp) hb hA) (by omega) (Res.run 900 ?_)⟩
    simp only [↓reduceIte, Nat.reduceEqDiff, Nat.reduceAdd, Nat.reduceSub, Nat.reduceMul, Nat.reduceLT, Int.reduceToNat, Int.reduceBEq, Int.reduceBNe, Int.reduceLT, Int.reduceLE, E, E', TY, eqVls_self, bne_self_eq_false, beq_self_eq_true, Bool.not_true, Bool.not_false]
    exact Ret.one rfl (by kernel_rfl)
  | false =>
    obtain ⟨f', hf'⟩ : ∃ f' : Frm, f' = f := ⟨_, rfl⟩
    rw [← hf']
    have hfd : f'.dead = false := by rw [hf', hf]
    have hfh : f'.ht = below.length := by rw [hf', hf]
    have hrs : f'.rs = [] := by rw [hf', hf]
    have hps : f'.ps = [] := by rw [hf', hf]
    have hpf : popF below [f'] = (vZ, 140, below) := by have := popF_at below [] f' hfh; rw [hfd] at this; exact this
    have hvv : vZ.v = .agg #[.int .i64 0, .bool false, .int .i64 0, .int .i64 0] := rfl
    simp only [↓reduceIte, Nat.reduceEqDiff, Nat.reduceAdd, Nat.reduceSub, Nat.reduceMul, Nat.reduceLT, Int.reduceToNat, Int.reduceBEq, Int.reduceBNe, Int.reduceLT, Int.reduceLE, E, E', TY]
    refine ⟨fnok13, CallAt.dead (j := 0) (t := t) (st := below) (fr := []) (f := f') ⟨rfl, rfl, rfl, by decide⟩ (by simp) (Res.run 900 ?_)⟩
    simp only [↓reduceIte, Nat.reduceEqDiff, Nat.reduceAdd, Nat.reduceSub, Nat.reduceMul, Nat.reduceLT, Int.reduceToNat, Int.reduceBEq, Int.reduceBNe, Int.reduceLT, Int.reduceLE, E, E', TY, hfd, bne_self_eq_false, beq_self_eq_true, Bool.not_true, Bool.not_false]
    refine ⟨fnok14, CallAt.height (j := 0) (t := t) (st := below) (fr := [f']) ⟨rfl, rfl, rfl, by decide⟩ (Res.run 900 ?_)⟩
    simp only [↓reduceIte, Nat.reduceEqDiff, Nat.reduceAdd, Nat.reduceSub, Nat.reduceMul, Nat.reduceLT, Int.reduceToNat, Int.reduceBEq, Int.reduceBNe, Int.reduceLT, Int.reduceLE, E, E', TY, bne_self_eq_false, beq_self_eq_true, Bool.not_true, Bool.not_false]
    refine ⟨fnok16, CallAt.top (j := 0) (t := t) (st := below) (fr := [f']) (n := 100) ⟨rfl, rfl, rfl, by decide⟩ (by omega) fun nl1 b1 k1 cur1 hF1 => ?_⟩
    rw [hup] at hF1 ⊢
    refine Res.run 900 ?_
    simp only [↓reduceIte, Nat.reduceEqDiff, Nat.reduceAdd, Nat.reduceSub, Nat.reduceMul, Nat.reduceLT, Int.reduceToNat, Int.reduceBEq, Int.reduceBNe, Int.reduceLT, Int.reduceLE, E, E', TY]
    refine ⟨fnok15, CallAt.same (i := 1) below below (SrcV.row (j := 2) (by simp) rfl (by decide) hF1) (SrcV.ext (by simp) hb hA) (by omega) (Res.run 900 ?_)⟩
    simp only [↓reduceIte, Nat.reduceEqDiff, Nat.reduceAdd, Nat.reduceSub, Nat.reduceMul, Nat.reduceLT, Int.reduceToNat, Int.reduceBEq, Int.reduceBNe, Int.reduceLT, Int.reduceLE, E, E', TY, eqVls_self, Bool.not_true]
    refine ⟨fnok17, CallAt.take (j := 0) (t := t) (st := below) (fr := [f']) tk ⟨rfl, rfl, rfl, by decide⟩ (SrcV.ext (by simp) ht hB) (by omega) (by simp) (by omega) (Res.run 900 ?_)⟩
    obtain ⟨r2, r1⟩ := takesR_at [] f' below hfh tk.reverse
    have r2 : (takesF below [f'] tk).2 = below := r2
    have r1 : f'.dead = false → tk.reverse ≠ [] → (takesF below [f'] tk).1 = 140 := r1
    rw [r2]
    by_cases hn : tk = []
    · have e3 : (takesF below [f'] tk).1 = 0 := by rw [hn]; rfl
      have e4 : decide ((tk.length : Int) > 0) = false := by rw [hn]; rfl
      simp only [↓reduceIte, Nat.reduceEqDiff, Nat.reduceAdd, Nat.reduceSub, Nat.reduceMul, Nat.reduceLT, Int.reduceToNat, Int.reduceBEq, Int.reduceBNe, Int.reduceLT, Int.reduceLE, E, E', TY, e3, e4]
      refine ⟨fnok14, CallAt.height (j := 0) (t := t) (st := below) (fr := [f']) ⟨rfl, rfl, rfl, by decide⟩ (Res.run 900 ?_)⟩
      simp only [↓reduceIte, Nat.reduceEqDiff, Nat.reduceAdd, Nat.reduceSub, Nat.reduceMul, Nat.reduceLT, Int.reduceToNat, Int.reduceBEq, Int.reduceBNe, Int.reduceLT, Int.reduceLE, E, E', TY, bne_self_eq_false, beq_self_eq_true, Bool.not_true, Bool.not_false]
      refine ⟨fnok18, CallAt.pop (j := 0) (t := t) (st := below) (fr := [f']) ⟨rfl, rfl, rfl, by decide⟩ (by omega) (by simp) (Res.run 900 ?_)⟩
      simp only [↓reduceIte, Nat.reduceEqDiff, Nat.reduceAdd, Nat.reduceSub, Nat.reduceMul, Nat.reduceLT, Int.reduceToNat, Int.reduceBEq, Int.reduceBNe, Int.reduceLT, Int.reduceLE, E, E', TY, hpf, hvv, bne_self_eq_false, beq_self_eq_true, Bool.not_true, Bool.not_false]
      have c1 : clsErr below ([] ++ [f']) f' = none := by
        unfold clsErr
        rw [hrs, takesF_nil]
        simp [hfh]
      have c2 : takesF below ([] ++ [f']) f'.rs = (0, below) := by rw [hrs, takesF_nil]
      refine ⟨fnok19, CallAt.close (j := 0) (t := t) (st := below) (fr := []) (f := f') ⟨rfl, rfl, rfl, by decide⟩ c1 (by omega) (by simp) (by rw [hps]; simp) (by rw [hrs]; simp) fun nl2 b2 k2 cur2 nl3 b3 k3 cur3 hF2 hF3 => ?_⟩
      rw [c2]
      refine Res.run 900 ?_
      simp only [↓reduceIte, Nat.reduceEqDiff, Nat.reduceAdd, Nat.reduceSub, Nat.reduceMul, Nat.reduceLT, Int.reduceToNat, Int.reduceBEq, Int.reduceBNe, Int.reduceLT, Int.reduceLE, E, E', TY]
      refine ⟨fnok20, CallAt.frames (j := 0) (t := t) (st := below) (fr := []) ⟨rfl, rfl, rfl, by decide⟩ (Res.run 900 ?_)⟩
      simp only [↓reduceIte, Nat.reduceEqDiff, Nat.reduceAdd, Nat.reduceSub, Nat.reduceMul, Nat.reduceLT, Int.reduceToNat, Int.reduceBEq, Int.reduceBNe, Int.reduceLT, Int.reduceLE, E, E', TY, List.length_nil, Int.natCast_zero, bne_self_eq_false, beq_self_eq_true, Bool.not_true, Bool.not_false]
      refine ⟨fnok16, CallAt.top (j := 0) (t := t) (st := below) (fr := []) (n := 100) ⟨rfl, rfl, rfl, by decide⟩ (by omega) fun nl4 b4 k4 cur4 hF4 => ?_⟩
      rw [hup] at hF4 ⊢
      refine Res.run 900 ?_
      simp only [↓reduceIte, Nat.reduceEqDiff, Nat.reduceAdd, Nat.reduceSub, Nat.reduceMul, Nat.reduceLT, Int.reduceToNat, Int.reduceBEq, Int.reduceBNe, Int.reduceLT, Int.reduceLE, E, E', TY]
      refine ⟨fnok15, CallAt.same (i := 1) below below (SrcV.row (j := 5) (by simp) rfl (by decide) hF4) (SrcV.ext (by simp) hb hA) (by omega) (Res.run 900 ?_)⟩
      simp only [↓reduceIte, Nat.reduceEqDiff, Nat.reduceAdd, Nat.reduceSub, Nat.reduceMul, Nat.reduceLT, Int.reduceToNat, Int.reduceBEq, Int.reduceBNe, Int.reduceLT, Int.reduceLE, E, E', TY, eqVls_self, bne_self_eq_false, beq_self_eq_true, Bool.not_true, Bool.not_false]
      exact Ret.one rfl (by kernel_rfl)
    · have e3 : (takesF below [f'] tk).1 = 140 := r1 hfd (by simpa using hn)
      simp only [↓reduceIte, Nat.reduceEqDiff, Nat.reduceAdd, Nat.reduceSub, Nat.reduceMul, Nat.reduceLT, Int.reduceToNat, Int.reduceBEq, Int.reduceBNe, Int.reduceLT, Int.reduceLE, E, E', TY, e3, bne_self_eq_false]
      refine ⟨fnok14, CallAt.height (j := 0) (t := t) (st := below) (fr := [f']) ⟨rfl, rfl, rfl, by decide⟩ (Res.run 900 ?_)⟩
      simp only [↓reduceIte, Nat.reduceEqDiff, Nat.reduceAdd, Nat.reduceSub, Nat.reduceMul, Nat.reduceLT, Int.reduceToNat, Int.reduceBEq, Int.reduceBNe, Int.reduceLT, Int.reduceLE, E, E', TY, bne_self_eq_false, beq_self_eq_true, Bool.not_true, Bool.not_false]
      refine ⟨fnok18, CallAt.pop (j := 0) (t := t) (st := below) (fr := [f']) ⟨rfl, rfl, rfl, by decide⟩ (by omega) (by simp) (Res.run 900 ?_)⟩
      simp only [↓reduceIte, Nat.reduceEqDiff, Nat.reduceAdd, Nat.reduceSub, Nat.reduceMul, Nat.reduceLT, Int.reduceToNat, Int.reduceBEq, Int.reduceBNe, Int.reduceLT, Int.reduceLE, E, E', TY, hpf, hvv, bne_self_eq_false, beq_self_eq_true, Bool.not_true, Bool.not_false]
      have c1 : clsErr below ([] ++ [f']) f' = none := by
        unfold clsErr
        rw [hrs, takesF_nil]
        simp [hfh]
      have c2 : takesF below ([] ++ [f']) f'.rs = (0, below) := by rw [hrs, takesF_nil]
      refine ⟨fnok19, CallAt.close (j := 0) (t := t) (st := below) (fr := []) (f := f') ⟨rfl, rfl, rfl, by decide⟩ c1 (by omega) (by simp) (by rw [hps]; simp) (by rw [hrs]; simp) fun nl2 b2 k2 cur2 nl3 b3 k3 cur3 hF2 hF3 => ?_⟩
      rw [c2]
      refine Res.run 900 ?_
      simp only [↓reduceIte, Nat.reduceEqDiff, Nat.reduceAdd, Nat.reduceSub, Nat.reduceMul, Nat.reduceLT, Int.reduceToNat, Int.reduceBEq, Int.reduceBNe, Int.reduceLT, Int.reduceLE, E, E', TY]
      refine ⟨fnok20, CallAt.frames (j := 0) (t := t) (st := below) (fr := []) ⟨rfl, rfl, rfl, by decide⟩ (Res.run 900 ?_)⟩
      simp only [↓reduceIte, Nat.reduceEqDiff, Nat.reduceAdd, Nat.reduceSub, Nat.reduceMul, Nat.reduceLT, Int.reduceToNat, Int.reduceBEq, Int.reduceBNe, Int.reduceLT, Int.reduceLE, E, E', TY, List.length_nil, Int.natCast_zero, bne_self_eq_false, beq_self_eq_true, Bool.not_true, Bool.not_false]
      refine ⟨fnok16, CallAt.top (j := 0) (t := t) (st := below) (fr := []) (n := 100) ⟨rfl, rfl, rfl, by decide⟩ (by omega) fun nl4 b4 k4 cur4 hF4 => ?_⟩
      rw [hup] at hF4 ⊢
      refine Res.run 900 ?_
      simp only [↓reduceIte, Nat.reduceEqDiff, Nat.reduceAdd, Nat.reduceSub, Nat.reduceMul, Nat.reduceLT, Int.reduceToNat, Int.reduceBEq, Int.reduceBNe, Int.reduceLT, Int.reduceLE, E, E', TY]
      refine ⟨fnok15, CallAt.same (i := 1) below below (SrcV.row (j := 5) (by simp) rfl (by decide) hF4) (SrcV.ext (by simp) hb hA) (by omega) (Res.run 900 ?_)⟩
      simp only [↓reduceIte, Nat.reduceEqDiff, Nat.reduceAdd, Nat.reduceSub, Nat.reduceMul, Nat.reduceLT, Int.reduceToNat, Int.reduceBEq, Int.reduceBNe, Int.reduceLT, Int.reduceLE, E, E', TY, eqVls_self, bne_self_eq_false, beq_self_eq_true, Bool.not_true, Bool.not_false]
      exact Ret.one rfl (by kernel_rfl)
end Go.Proofs.Yteendcbmoagdfaa
