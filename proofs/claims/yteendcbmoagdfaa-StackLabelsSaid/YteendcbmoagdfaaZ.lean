/-
  The chapter's rows: known.
-/
import Derived.Test.YteendcbmoagdfaaY
set_option linter.unusedVariables false
set_option linter.unusedSimpArgs false
set_option maxRecDepth 20000
set_option maxHeartbeats 4000000
namespace Go.Proofs.Yteendcbmoagdfaa
open Go Go.Eng

section
variable {Q : Pst} {G : Nat → Prop} {W : World}
/-- A row of ours is let go: from now on it lies in the world as it is. -/
theorem Res.free {σ : St} {k : List It} {b : Nat} {nl : Bool} {ty : TypeId} {cur : List Value} (i : Nat) (hi : getE σ.L i = some (.asn (RowA b nl ty cur)))
    (h : ∀ new w1, σ.X.length + new.length = σ.L.length → Keep G W w1 → (nl = false → w1.heap[b]? = some (.cells cur.toArray ty (0, 0))) → Res Try.prog Q (fun x => G x ∨ (nl = false ∧ x = b)) w1 { σ with X := σ.X ++ new, L := setE σ.L i .dead } k) : Res Try.prog Q G W σ k := by
  intro new a w hs
  obtain ⟨own, ho⟩ := hs.hs
  rw [getE_eq] at hi
  have hil := (List.getElem?_eq_some_iff.1 hi).1
  have hR : (RowA b nl ty cur).R (own i) _ w := ho.ok i _ hi
  have hLl : (setE σ.L i .dead).length = σ.L.length := by simp [setE_eq]
  refine h new w ho.len ho.keep (fun hn => (hR hn).2) [] a w ⟨hs.tsz, by simpa using hs.tmp, fun t sv ht => by rw [hLl]; exact hs.tlt t sv ht, by simpa using hs.dfr, fun d hd => by rw [hLl]; exact hs.dlt d hd, fun j x => if j = i then False else own j x, ?_⟩
  refine ⟨by rw [hLl]; have := ho.len; simp; omega, ?_, ?_, ?_, ?_, ?_, Keep.refl _ _⟩
  · intro j e hj
    simp only [setE_eq] at hj
    simp only [List.append_nil]
    by_cases hji : j = i
    · subst hji
      rw [List.getElem?_set_self hil] at hj
      injection hj with hj; subst hj
      trivial
    · rw [List.getElem?_set_ne (fun h => hji h.symm)] at hj
      have h2 : (fun x => if j = i then False else own j x) = own j := by funext x; exact if_neg hji
      rw [h2]
      exact ho.ok j e hj
  · intro e he
    rw [hLl]
    rw [setE_eq] at he
    rcases List.mem_or_eq_of_mem_set he with he | rfl
    · exact ho.entlt e he
    · trivial
  · intro j l x hj hl hjl h1 h2
    rw [hLl] at hj hl
    split at h1
    · exact h1
    · split at h2
      · exact h2
      · exact ho.apart j l x hj hl hjl h1 h2
  · intro j x hj h1
    rw [hLl] at hj
    split at h1
    · exact h1.elim
    · rename_i hji
      obtain ⟨h3, h4⟩ := ho.out j x hj h1
      refine ⟨?_, h4⟩
      rintro (hg | ⟨hn, rfl⟩)
      · exact h3 hg
      · exact ho.apart j i x hj hil hji h1 (hR hn).1
  · rintro x (hg | ⟨hn, rfl⟩)
    · have := ho.inW x hg; have := ho.keep.size; omega
    · exact (ho.out i x hil (hR hn).1).2
end

/-- The frame of the chapter's example. -/
def knF (d : Bool) : Frm := ⟨2, [v32], [v64], 0, d, []⟩

theorem m_known {w : World} : Calls Try.prog 7 #[] w fun e w' => e = .returned (.bool true) ∧ Ext w w' := by
  refine start0 (args := []) (G := (· < w.heap.size)) Try.func7 rfl Try.ntmps7 (by simp [SV.lt]) (fun _ h => h) ?_
  refine Res.run 1000 ?_
  simp only [↓reduceIte, Nat.reduceEqDiff, Nat.reduceAdd, Nat.reduceSub, Nat.reduceMul, Nat.reduceLT, Int.reduceToNat, Int.reduceBEq, Int.reduceBNe, Int.reduceLT, Int.reduceLE, E, E', TY]
  refine ⟨fnok9, CallAt.rnew ?_⟩
  refine Res.fixX fun nx hnx => ?_
  obtain ⟨t, rfl⟩ := len1 (l := nx) (by have := hnx; simp only [St.new, St.put, List.length_append, List.length_cons, List.length_nil] at this; omega)
  refine Res.run 900 ?_
  simp only [↓reduceIte, Nat.reduceEqDiff, Nat.reduceAdd, Nat.reduceSub, Nat.reduceMul, Nat.reduceLT, Int.reduceToNat, Int.reduceBEq, Int.reduceBNe, Int.reduceLT, Int.reduceLE, E, E', TY, List.nil_append]
  refine ⟨fnok8, CallAt.snew rfl (Res.run 900 ?_)⟩
  simp only [↓reduceIte, Nat.reduceEqDiff, Nat.reduceAdd, Nat.reduceSub, Nat.reduceMul, Nat.reduceLT, Int.reduceToNat, Int.reduceBEq, Int.reduceBNe, Int.reduceLT, Int.reduceLE, E, E', TY]
  have i32c : ∀ {Q : Pst} {G : Nat → Prop} {W : World} {σ : St} {dst : Option Tmp} {k : List It}, Res Try.prog Q G W (σ.put dst (.v v32.v)) k → CallAt Try.prog Q G W σ 25 [] dst k := fun h => CallAt.det #[] v32.v (fun _ => rfl) (fun w' _ => m_i32) h
  have i64c : ∀ {Q : Pst} {G : Nat → Prop} {W : World} {σ : St} {dst : Option Tmp} {k : List It}, Res Try.prog Q G W (σ.put dst (.v v64.v)) k → CallAt Try.prog Q G W σ 26 [] dst k := fun h => CallAt.det #[] v64.v (fun _ => rfl) (fun w' _ => m_i64) h
  have hv32 : v32.v = .agg #[.int .i64 1, .bool false, .int .i64 0, .int .i64 0] := rfl
  have hv64 : v64.v = .agg #[.int .i64 2, .bool false, .int .i64 0, .int .i64 0] := rfl
  have fl1 : (flat [v32]).map SV.v = [.v (.int .i64 1), .v (.bool false), .v (.int .i64 0), .v (.int .i64 0)] := rfl
  have fl2 : (flat [v64]).map SV.v = [.v (.int .i64 2), .v (.bool false), .v (.int .i64 0), .v (.int .i64 0)] := rfl
  have fl3 : (flat [v32, v64]).map SV.v = [.v (.int .i64 1), .v (.bool false), .v (.int .i64 0), .v (.int .i64 0), .v (.int .i64 2), .v (.bool false), .v (.int .i64 0), .v (.int .i64 0)] := rfl
  refine ⟨fnok25, i32c (Res.run 900 ?_)⟩
  simp only [↓reduceIte, Nat.reduceEqDiff, Nat.reduceAdd, Nat.reduceSub, Nat.reduceMul, Nat.reduceLT, Int.reduceToNat, Int.reduceBEq, Int.reduceBNe, Int.reduceLT, Int.reduceLE, E, E', TY, hv32, hv64]
  refine ⟨fnok26, i64c (Res.run 900 ?_)⟩
  simp only [↓reduceIte, Nat.reduceEqDiff, Nat.reduceAdd, Nat.reduceSub, Nat.reduceMul, Nat.reduceLT, Int.reduceToNat, Int.reduceBEq, Int.reduceBNe, Int.reduceLT, Int.reduceLE, E, E', TY, hv32, hv64]
  refine ⟨fnok10, CallAt.push (j := 0) (t := t) (st := []) (fr := []) [v32, v64] ⟨rfl, rfl, rfl, by decide⟩ (SrcV.cells (l := [v32, v64]) (by simp) rfl (by decide) fl3) (by decide) (Res.run 900 ?_)⟩
  simp only [↓reduceIte, Nat.reduceEqDiff, Nat.reduceAdd, Nat.reduceSub, Nat.reduceMul, Nat.reduceLT, Int.reduceToNat, Int.reduceBEq, Int.reduceBNe, Int.reduceLT, Int.reduceLE, E, E', TY, hv32, hv64, List.nil_append]
  refine ⟨fnok25, i32c (Res.run 900 ?_)⟩
  simp only [↓reduceIte, Nat.reduceEqDiff, Nat.reduceAdd, Nat.reduceSub, Nat.reduceMul, Nat.reduceLT, Int.reduceToNat, Int.reduceBEq, Int.reduceBNe, Int.reduceLT, Int.reduceLE, E, E', TY, hv32, hv64]
  refine ⟨fnok26, i64c (Res.run 900 ?_)⟩
  simp only [↓reduceIte, Nat.reduceEqDiff, Nat.reduceAdd, Nat.reduceSub, Nat.reduceMul, Nat.reduceLT, Int.reduceToNat, Int.reduceBEq, Int.reduceBNe, Int.reduceLT, Int.reduceLE, E, E', TY, hv32, hv64]
  have t1 : takesF [v32, v64] [] [v32, v64] = (0, []) := by kernel_rfl
  refine ⟨fnok17, CallAt.take (j := 0) (t := t) (st := [v32, v64]) (fr := []) [v32, v64] ⟨rfl, rfl, rfl, by decide⟩ (SrcV.cells (l := [v32, v64]) (by simp) rfl (by decide) fl3) (by decide) (by decide) (by decide) (Res.run 900 ?_)⟩
  simp only [↓reduceIte, Nat.reduceEqDiff, Nat.reduceAdd, Nat.reduceSub, Nat.reduceMul, Nat.reduceLT, Int.reduceToNat, Int.reduceBEq, Int.reduceBNe, Int.reduceLT, Int.reduceLE, E, E', TY, hv32, hv64, t1]
  refine ⟨fnok25, i32c (Res.run 900 ?_)⟩
  simp only [↓reduceIte, Nat.reduceEqDiff, Nat.reduceAdd, Nat.reduceSub, Nat.reduceMul, Nat.reduceLT, Int.reduceToNat, Int.reduceBEq, Int.reduceBNe, Int.reduceLT, Int.reduceLE, E, E', TY, hv32, hv64]
  have t2 : takesF [] [] [v32] = (140, []) := by kernel_rfl
  refine ⟨fnok17, CallAt.take (j := 0) (t := t) (st := []) (fr := []) [v32] ⟨rfl, rfl, rfl, by decide⟩ (SrcV.cells (l := [v32]) (by simp) rfl (by decide) fl1) (by decide) (by decide) (by decide) (Res.run 900 ?_)⟩
  simp only [↓reduceIte, Nat.reduceEqDiff, Nat.reduceAdd, Nat.reduceSub, Nat.reduceMul, Nat.reduceLT, Int.reduceToNat, Int.reduceBEq, Int.reduceBNe, Int.reduceLT, Int.reduceLE, E, E', TY, hv32, hv64, t2]
  refine ⟨fnok25, i32c (Res.run 900 ?_)⟩
  simp only [↓reduceIte, Nat.reduceEqDiff, Nat.reduceAdd, Nat.reduceSub, Nat.reduceMul, Nat.reduceLT, Int.reduceToNat, Int.reduceBEq, Int.reduceBNe, Int.reduceLT, Int.reduceLE, E, E', TY, hv32, hv64]
  refine ⟨fnok10, CallAt.push (j := 0) (t := t) (st := []) (fr := []) [v32] ⟨rfl, rfl, rfl, by decide⟩ (SrcV.cells (l := [v32]) (by simp) rfl (by decide) fl1) (by decide) (Res.run 900 ?_)⟩
  simp only [↓reduceIte, Nat.reduceEqDiff, Nat.reduceAdd, Nat.reduceSub, Nat.reduceMul, Nat.reduceLT, Int.reduceToNat, Int.reduceBEq, Int.reduceBNe, Int.reduceLT, Int.reduceLE, E, E', TY, hv32, hv64, List.nil_append]
  refine ⟨fnok25, i32c (Res.run 900 ?_)⟩
  simp only [↓reduceIte, Nat.reduceEqDiff, Nat.reduceAdd, Nat.reduceSub, Nat.reduceMul, Nat.reduceLT, Int.reduceToNat, Int.reduceBEq, Int.reduceBNe, Int.reduceLT, Int.reduceLE, E, E', TY, hv32, hv64]
  refine ⟨fnok26, i64c (Res.run 900 ?_)⟩
  simp only [↓reduceIte, Nat.reduceEqDiff, Nat.reduceAdd, Nat.reduceSub, Nat.reduceMul, Nat.reduceLT, Int.reduceToNat, Int.reduceBEq, Int.reduceBNe, Int.reduceLT, Int.reduceLE, E, E', TY, hv32, hv64]
  have t3 : openF [v32] [] 2 [v32] [v64] = (0, [v32], [knF false]) := by kernel_rfl
  refine ⟨fnok11, CallAt.open (j := 0) (t := t) (st := [v32]) (fr := []) [v32] [v64] ⟨rfl, rfl, rfl, by decide⟩ (SrcV.cells (l := [v32]) (by simp) rfl (by decide) fl1) (SrcV.cells (l := [v64]) (by simp) rfl (by decide) fl2) (by decide) (by decide) (by decide) (by decide) (Res.run 900 ?_)⟩
  simp only [↓reduceIte, Nat.reduceEqDiff, Nat.reduceAdd, Nat.reduceSub, Nat.reduceMul, Nat.reduceLT, Int.reduceToNat, Int.reduceBEq, Int.reduceBNe, Int.reduceLT, Int.reduceLE, E, E', TY, t3]
  refine ⟨fnok23, CallAt.label (j := 0) (t := t) (st := [v32]) (fr := [knF false]) 0 0 (knF false) ⟨rfl, rfl, rfl, by decide⟩ rfl rfl (by decide) (by decide) (by decide) fun nl b cap cur hF => Res.run 900 ?_⟩
  have hlab : (knF false).lab = [v64] := by kernel_rfl
  rw [hlab] at hF
  simp only [↓reduceIte, Nat.reduceEqDiff, Nat.reduceAdd, Nat.reduceSub, Nat.reduceMul, Nat.reduceLT, Int.reduceToNat, Int.reduceBEq, Int.reduceBNe, Int.reduceLT, Int.reduceLE, E, E', TY, hlab, List.length_cons, List.length_nil]
  have c1 : clsErr [v32] ([] ++ [knF false]) (knF false) = some 141 := by kernel_rfl
  have c2 : takesF [v32] ([] ++ [knF false]) (knF false).rs = (141, []) := by kernel_rfl
  refine ⟨fnok19, CallAt.closeE (j := 0) (t := t) (st := [v32]) (fr := []) (f := knF false) ⟨rfl, rfl, rfl, by decide⟩ c1 (by decide) (by decide) (by decide) (by decide) (Res.run 900 ?_)⟩
  simp only [↓reduceIte, Nat.reduceEqDiff, Nat.reduceAdd, Nat.reduceSub, Nat.reduceMul, Nat.reduceLT, Int.reduceToNat, Int.reduceBEq, Int.reduceBNe, Int.reduceLT, Int.reduceLE, E, E', TY, c2, List.nil_append]
  refine ⟨fnok12, CallAt.die (j := 0) (t := t) (st := []) (fr := []) (f := knF false) ⟨rfl, rfl, rfl, by decide⟩ (by decide) (by decide) (Res.run 900 ?_)⟩
  have d1 : ([] : List Vl).take (knF false).ht.toNat = [] := rfl
  have d2 : [] ++ [{ knF false with dead := true }] = [knF true] := rfl
  simp only [↓reduceIte, Nat.reduceEqDiff, Nat.reduceAdd, Nat.reduceSub, Nat.reduceMul, Nat.reduceLT, Int.reduceToNat, Int.reduceBEq, Int.reduceBNe, Int.reduceLT, Int.reduceLE, E, E', TY, d1, d2]
  have p1 : popF [] [knF true] = (vBot, 0, []) := by kernel_rfl
  have hvb : vBot.v = .agg #[.int .i64 4, .bool false, .int .i64 0, .int .i64 0] := rfl
  refine ⟨fnok18, CallAt.pop (j := 0) (t := t) (st := []) (fr := [knF true]) ⟨rfl, rfl, rfl, by decide⟩ (by decide) (by decide) (Res.run 900 ?_)⟩
  simp only [↓reduceIte, Nat.reduceEqDiff, Nat.reduceAdd, Nat.reduceSub, Nat.reduceMul, Nat.reduceLT, Int.reduceToNat, Int.reduceBEq, Int.reduceBNe, Int.reduceLT, Int.reduceLE, E, E', TY, p1, hvb]
  have c3 : clsErr [] ([] ++ [knF true]) (knF true) = none := by kernel_rfl
  have c4 : takesF [] ([] ++ [knF true]) (knF true).rs = (0, []) := by kernel_rfl
  refine ⟨fnok19, CallAt.close (j := 0) (t := t) (st := []) (fr := []) (f := knF true) ⟨rfl, rfl, rfl, by decide⟩ c3 (by decide) (by decide) (by decide) (by decide) fun nl1 b1 k1 cur1 nl2 b2 k2 cur2 hF1 hF2 => Res.run 900 ?_⟩
  have q1 : (knF true).rs.length = 1 := rfl
  have c5 : takesF [] [knF true] (knF true).rs = (0, []) := by kernel_rfl
  simp only [↓reduceIte, Nat.reduceEqDiff, Nat.reduceAdd, Nat.reduceSub, Nat.reduceMul, Nat.reduceLT, Int.reduceToNat, Int.reduceBEq, Int.reduceBNe, Int.reduceLT, Int.reduceLE, E, E', TY, c5, q1]
  refine Res.free (b := b) (nl := nl) (ty := 41) (cur := cur) 8 rfl fun nx w1 hnx hK hrow => ?_
  obtain rfl : nl = false := by
    cases nl with
    | false => rfl
    | true => have := hF.nil rfl; have := hF.capk; simp at this; omega
  have hcs : Cs (fun x => x < w.heap.size ∨ (false = false ∧ x = b)) w1 (sA false b 0) (flat [v64]) := (cs_rowA (O := fun x => x = b) (q := 0) (ty := 41) (fun _ => ⟨rfl, hrow rfl⟩) hF).mono fun x hx => .inr ⟨rfl, hx⟩
  obtain ⟨a0, a1, a2, a3, a4⟩ := SlV.of_cs hcs 0 (by decide)
  rw [Nat.zero_mul, pAdd_zero] at a0 a1 a2 a3 a4
  have a1 : rd w1 (sA false b 0) 0 = .int .i64 2 := a1
  have a2 : rd w1 (sA false b 0) 1 = .bool false := a2
  have a3 : rd w1 (sA false b 0) 2 = .int .i64 0 := a3
  have a4 : rd w1 (sA false b 0) 3 = .int .i64 0 := a4
  have a0 : okRd (fun x => x < w.heap.size ∨ x = b) w1 (sA false b 0) 0 4 := okRd_mono a0 fun x hx => hx.imp id fun h => h.2
  have e1 : (((1 : Nat) : Int) == 1) = true := rfl
  refine Res.quiet [v64.v, .int .i64 0] (by kernel_rfl) (by kernel_rfl) ?_
  simp only [↓reduceIte, Nat.reduceEqDiff, Nat.reduceAdd, Nat.reduceSub, Nat.reduceMul, Nat.reduceLT, Int.reduceToNat, Int.reduceBEq, Int.reduceBNe, Int.reduceLT, Int.reduceLE, E, E', TY, a1, a2, a3, a4, e1, hv64, fnok26, fnok20, beq_self_eq_true]
  refine ⟨⟨by decide, rfl⟩, a0, fun new w' hs => m_i64, fun new w' hs => ?_, ?_⟩
  · obtain ⟨own, ho⟩ := hs
    exact m_frames (MT.mc (i := 1) (j := 0) (t := t) (st := []) (fr := []) ⟨rfl, rfl, rfl, by decide⟩ ho)
  refine Res.run 900 ?_
  simp only [↓reduceIte, Nat.reduceEqDiff, Nat.reduceAdd, Nat.reduceSub, Nat.reduceMul, Nat.reduceLT, Int.reduceToNat, Int.reduceBEq, Int.reduceBNe, Int.reduceLT, Int.reduceLE, E, E', TY]
  refine Ret.body [.v (.bool true)] rfl (by kernel_rfl) fun new w' hs => ⟨rfl, ?_⟩
  exact hK.trans (hs.keep.mono fun k hk => .inl hk)
end Go.Proofs.Yteendcbmoagdfaa
