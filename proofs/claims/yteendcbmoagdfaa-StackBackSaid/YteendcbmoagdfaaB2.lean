/-
  StackBack, walked.
-/
import Derived.Test.YteendcbmoagdfaaB1
set_option linter.unusedVariables false
set_option linter.unusedSimpArgs false
set_option maxRecDepth 20000
set_option maxHeartbeats 8000000
namespace Go.Proofs.Yteendcbmoagdfaa
open Go Go.Eng

section
variable {Q : Pst} {G : Nat → Prop} {W : World}
theorem dens_le {σ σ' : St} {args : List SV} {new new' : List Nat} (hX : σ'.X = σ.X) (ha : ∀ s ∈ args, s.lt σ.X.length) : (args.map (SV.den (σ'.X ++ new'))) = (args.map (SV.den (σ.X ++ new))) := by
  rw [hX]
  refine List.map_congr_left fun s hs => ?_
  rw [SV.den_append (ids := σ.X) (m := new') (ha s hs)]
  rw [SV.den_append (ids := σ.X) (m := new) (ha s hs)]
theorem CallAt.le {P : Program} {σ σ' : St} {f : FuncId} {args : List SV} {dst : Option Tmp} {k : List It} (h : St.Le σ' σ) (hX : σ'.X = σ.X) (ha : ∀ s ∈ args, s.lt σ.X.length) (hc : CallAt P Q G W σ' f args dst k) : CallAt P Q G W σ f args dst k := by
  intro new a w hs
  have hq := h G W new a w hs
  obtain ⟨new', hs'⟩ := hq
  have h2 := hc new' a w hs'
  have hden := dens_le (new := new) (new' := new') hX ha
  rw [hden] at h2
  exact h2
theorem CallAt.vals {σ : St} {dst : Option Tmp} {k : List It} {i j t : Nat} {s1 s2 : SV} (a b : List Vl) (ht : getE σ.L j = some (.asn TabA)) (hx : σ.X[j]? = some t) (h1 : SrcV G W σ i s1 a) (h2 : SrcV G W σ i s2 b) (hl : a.length ≤ 1000000) (hk : Res Try.prog Q G W (σ.put dst (.v (.bool (valsF a b)))) k) : CallAt Try.prog Q G W σ 21 [.p j 0, s1, s2] dst k := by
  refine CallAt.detS (.v (.bool (valsF a b))) trivial (fun new w hs => ?_) hk
  obtain ⟨own, ho⟩ := hs
  obtain ⟨A1, c1, e1, k1, _⟩ := h1 new w own ho
  obtain ⟨A2, c2, e2, k2, _⟩ := h2 new w own ho
  have hX : (σ.X ++ new).getD j 0 = t := by
    have hl := (List.getElem?_eq_some_iff.1 hx).1
    rw [List.getD_eq_getElem?_getD, List.getElem?_append_left hl, hx]; rfl
  rw [getE_eq] at ht
  have hT : TabA.R (own j) ((σ.X ++ new).getD j 0) w := ho.ok j _ ht
  rw [hX] at hT
  have hp : (SV.p j 0).den (σ.X ++ new) = .pointer (some ⟨t, 0, none⟩) := by show Value.pointer (some ⟨(σ.X ++ new).getD j 0, 0, none⟩) = _; rw [hX]
  have ht2 : ETab w t := hT.2
  have key := m_Vals ht2 a b A1 A2 c1 c2 k1.sl k2.sl hl
  rw [List.map_cons, List.map_cons, List.map_cons, List.map_nil, e1, e2, hp]
  exact key
theorem SrcV.row1 {σ : St} {i j b : Nat} {nl : Bool} {cap : Nat} {cur : List Value} {b2 : Nat} {nl2 : Bool} {cur2 : List Value} {l : List Vl} (hi : i < σ.L.length) (hj : getE σ.L j = some (.asn (Row2A b nl cur b2 nl2 cur2))) (hij : j ≠ i) (hF : FS0 4 l.length (flat l) nl cap cur) : SrcV G W σ i (.v (.slice (sA nl b 0) l.length cap)) l := by
  intro new w own ho
  rw [getE_eq] at hj
  have jl := (List.getElem?_eq_some_iff.1 hj).1
  have hR : (Row2A b nl cur b2 nl2 cur2).R (own j) _ w := ho.ok j _ hj
  exact ⟨_, cap, rfl, (cs_rowA hR.1 hF).mono fun b hb => ⟨(ho.out j b jl hb).2, fun hb' => ho.apart j i b jl hi hij hb hb'⟩, fun h => fs0_nil hF h⟩
theorem SrcV.row2 {σ : St} {i j b : Nat} {nl : Bool} {cap : Nat} {cur : List Value} {b2 : Nat} {nl2 : Bool} {cur2 : List Value} {l : List Vl} (hi : i < σ.L.length) (hj : getE σ.L j = some (.asn (Row2A b2 nl2 cur2 b nl cur))) (hij : j ≠ i) (hF : FS0 4 l.length (flat l) nl cap cur) : SrcV G W σ i (.v (.slice (sA nl b 0) l.length cap)) l := by
  intro new w own ho
  rw [getE_eq] at hj
  have jl := (List.getElem?_eq_some_iff.1 hj).1
  have hR : (Row2A b2 nl2 cur2 b nl cur).R (own j) _ w := ho.ok j _ hj
  exact ⟨_, cap, rfl, (cs_rowA hR.2 hF).mono fun b hb => ⟨(ho.out j b jl hb).2, fun hb' => ho.apart j i b jl hi hij hb hb'⟩, fun h => fs0_nil hF h⟩
end

theorem m_back {w : World} (A : Option Addr) (c : Nat) (below : List Vl) (hb : Cs (· < w.heap.size) w A (flat below)) (hA : A = none → below = []) (B : Option Addr) (d : Nat) (l : List Vl) (hl : Cs (· < w.heap.size) w B (flat l)) (hB : B = none → l = [])
    (C : Option Addr) (e : Nat) (bs : List Vl) (hs : Cs (· < w.heap.size) w C (flat bs)) (hC : C = none → bs = []) (F0 : Option Addr) (g : Nat) (dd : List Vl) (hd : Cs (· < w.heap.size) w F0 (flat dd)) (hE : F0 = none → dd = []) :
    Calls Try.prog 4 #[.slice A below.length c, .slice B l.length d, .slice C bs.length e, .slice F0 dd.length g] w fun e w' => e = .returned (.bool true) ∧ Ext w w' := by
  refine start0 (args := [.v (.slice A below.length c), .v (.slice B l.length d), .v (.slice C bs.length e), .v (.slice F0 dd.length g)]) (G := (· < w.heap.size)) Try.func4 rfl Try.ntmps4 (by simp [SV.lt]) (fun _ h => h) ?_
  refine Res.run 1000 ?_
  simp only [↓reduceIte, Nat.reduceEqDiff, Nat.reduceAdd, Nat.reduceSub, Nat.reduceMul, Nat.reduceLT, Int.reduceToNat, Int.reduceBEq, Int.reduceBNe, Int.reduceLT, Int.reduceLE, E, E', TY]
  refine ⟨fnok7, CallAt.known (Res.run 900 ?_)⟩
  by_cases h1 : (below.length : Int) > 20
  · have e1 : decide ((below.length : Int) > 20) = true := by simp only [h1, decide_true]
    simp only [↓reduceIte, Nat.reduceEqDiff, Nat.reduceAdd, Nat.reduceSub, Nat.reduceMul, Nat.reduceLT, Int.reduceToNat, Int.reduceBEq, Int.reduceBNe, Int.reduceLT, Int.reduceLE, E, E', TY, e1]
    exact Ret.one rfl (by kernel_rfl)
  have e1 : decide ((below.length : Int) > 20) = false := by simp only [h1, decide_false]
  by_cases h2 : (l.length : Int) > 20
  · have e2 : decide ((l.length : Int) > 20) = true := by simp only [h2, decide_true]
    simp only [↓reduceIte, Nat.reduceEqDiff, Nat.reduceAdd, Nat.reduceSub, Nat.reduceMul, Nat.reduceLT, Int.reduceToNat, Int.reduceBEq, Int.reduceBNe, Int.reduceLT, Int.reduceLE, E, E', TY, e1, e2]
    exact Ret.one rfl (by kernel_rfl)
  have e2 : decide ((l.length : Int) > 20) = false := by simp only [h2, decide_false]
  by_cases h3 : (bs.length : Int) > 20
  · have e3 : decide ((bs.length : Int) > 20) = true := by simp only [h3, decide_true]
    simp only [↓reduceIte, Nat.reduceEqDiff, Nat.reduceAdd, Nat.reduceSub, Nat.reduceMul, Nat.reduceLT, Int.reduceToNat, Int.reduceBEq, Int.reduceBNe, Int.reduceLT, Int.reduceLE, E, E', TY, e1, e2, e3]
    exact Ret.one rfl (by kernel_rfl)
  have e3 : decide ((bs.length : Int) > 20) = false := by simp only [h3, decide_false]
  by_cases h4 : (dd.length : Int) > 20
  · have e4 : decide ((dd.length : Int) > 20) = true := by simp only [h4, decide_true]
    simp only [↓reduceIte, Nat.reduceEqDiff, Nat.reduceAdd, Nat.reduceSub, Nat.reduceMul, Nat.reduceLT, Int.reduceToNat, Int.reduceBEq, Int.reduceBNe, Int.reduceLT, Int.reduceLE, E, E', TY, e1, e2, e3, e4]
    exact Ret.one rfl (by kernel_rfl)
  have e4 : decide ((dd.length : Int) > 20) = false := by simp only [h4, decide_false]
  simp only [↓reduceIte, Nat.reduceEqDiff, Nat.reduceAdd, Nat.reduceSub, Nat.reduceMul, Nat.reduceLT, Int.reduceToNat, Int.reduceBEq, Int.reduceBNe, Int.reduceLT, Int.reduceLE, E, E', TY, e1, e2, e3, e4]
  refine ⟨fnok9, CallAt.rnew ?_⟩
  refine Res.fixX fun nx hnx => ?_
  obtain ⟨t, rfl⟩ := len1 (l := nx) (by have := hnx; simp only [St.new, St.put, List.length_append, List.length_cons, List.length_nil] at this; omega)
  clear hnx
  refine Res.run 900 ?_
  simp only [↓reduceIte, Nat.reduceEqDiff, Nat.reduceAdd, Nat.reduceSub, Nat.reduceMul, Nat.reduceLT, Int.reduceToNat, Int.reduceBEq, Int.reduceBNe, Int.reduceLT, Int.reduceLE, E, E', TY, List.nil_append]
  refine ⟨fnok8, CallAt.snew rfl (Res.run 900 ?_)⟩
  simp only [↓reduceIte, Nat.reduceEqDiff, Nat.reduceAdd, Nat.reduceSub, Nat.reduceMul, Nat.reduceLT, Int.reduceToNat, Int.reduceBEq, Int.reduceBNe, Int.reduceLT, Int.reduceLE, E, E', TY]
  refine ⟨fnok10, CallAt.push (j := 0) (t := t) (st := []) (fr := []) below ⟨rfl, rfl, rfl, by decide⟩ (SrcV.ext (by simp) hb hA) (by simp; omega) (Res.run 900 ?_)⟩
  have hup : upF below (below.length : Int) = below := upF_all (by omega)
  have k1 : below.take ((⟨2, [], dd, below.length, false, []⟩ : Frm).ht).toNat = below := by simp
  obtain ⟨f', hf'⟩ : ∃ f' : Frm, f' = { (⟨2, [], dd, below.length, false, []⟩ : Frm) with dead := true } := ⟨_, rfl⟩
  have k3 : f'.rs = dd := by rw [hf']
  have k4 : f'.ht = below.length := by rw [hf']
  have k5 : f'.ps = [] := by rw [hf']
  have k6 := takesR_dead f' below k4 (by rw [hf']) dd.reverse
  have k6 : (takesF below [f'] dd).1 = 0 ∨ ((takesF below [f'] dd).1 = 141 ∧ ∃ v ∈ dd, closedF v = false) := by
    rcases k6 with h | ⟨h, v, hv, hcl⟩
    · exact .inl h
    · exact .inr ⟨h, v, by simpa using hv, hcl⟩
  have k2 : (takesF below [f'] dd).2 = below := (takesR_at [] f' below k4 dd.reverse).1
  by_cases hlen : l.length = bs.length
  · have q1 : ((l.length : Int) == (bs.length : Int)) = true := by simp [hlen]
    simp only [↓reduceIte, Nat.reduceEqDiff, Nat.reduceAdd, Nat.reduceSub, Nat.reduceMul, Nat.reduceLT, Int.reduceToNat, Int.reduceBEq, Int.reduceBNe, Int.reduceLT, Int.reduceLE, E, E', TY, List.nil_append, q1]
    refine ⟨fnok21, CallAt.vals (i := 1) (j := 0) (t := t) l bs rfl rfl (SrcV.ext (by simp) hl hB) (SrcV.ext (by simp) hs hC) (by omega) (Res.run 900 ?_)⟩
    obtain ⟨r1, r2⟩ := takesF_same l.length (st := below) (fr := []) rfl hlen (by simp)
    cases hv : valsF l bs with
    | true =>
      have r1 := r1 hv
      simp only [↓reduceIte, Nat.reduceEqDiff, Nat.reduceAdd, Nat.reduceSub, Nat.reduceMul, Nat.reduceLT, Int.reduceToNat, Int.reduceBEq, Int.reduceBNe, Int.reduceLT, Int.reduceLE, E, E', TY]
      refine ⟨fnok10, CallAt.push (j := 0) (t := t) (st := below) (fr := []) l ⟨rfl, rfl, rfl, by decide⟩ (SrcV.ext (by simp) hl hB) (by omega) (Res.run 900 ?_)⟩
      simp only [↓reduceIte, Nat.reduceEqDiff, Nat.reduceAdd, Nat.reduceSub, Nat.reduceMul, Nat.reduceLT, Int.reduceToNat, Int.reduceBEq, Int.reduceBNe, Int.reduceLT, Int.reduceLE, E, E', TY]
      refine ⟨fnok17, CallAt.take (j := 0) (t := t) (st := below ++ l) (fr := []) bs ⟨rfl, rfl, rfl, by decide⟩ (SrcV.ext (by simp) hs hC) (by simp; omega) (by simp) (by omega) (Res.run 900 ?_)⟩
      simp only [↓reduceIte, Nat.reduceEqDiff, Nat.reduceAdd, Nat.reduceSub, Nat.reduceMul, Nat.reduceLT, Int.reduceToNat, Int.reduceBEq, Int.reduceBNe, Int.reduceLT, Int.reduceLE, E, E', TY, r1, bne_self_eq_false]
      refine ⟨fnok14, CallAt.height (j := 0) (t := t) (st := below) (fr := []) ⟨rfl, rfl, rfl, by decide⟩ (Res.run 900 ?_)⟩
      simp only [↓reduceIte, Nat.reduceEqDiff, Nat.reduceAdd, Nat.reduceSub, Nat.reduceMul, Nat.reduceLT, Int.reduceToNat, Int.reduceBEq, Int.reduceBNe, Int.reduceLT, Int.reduceLE, E, E', TY]
      refine ⟨fnok16, CallAt.top (j := 0) (t := t) (st := below) (fr := []) (n := below.length) ⟨rfl, rfl, rfl, by decide⟩ (by omega) fun nl1 b1 k1' cur1 hF1 => ?_⟩
      rw [hup] at hF1 ⊢
      refine Res.run 900 ?_
      simp only [↓reduceIte, Nat.reduceEqDiff, Nat.reduceAdd, Nat.reduceSub, Nat.reduceMul, Nat.reduceLT, Int.reduceToNat, Int.reduceBEq, Int.reduceBNe, Int.reduceLT, Int.reduceLE, E, E', TY]
      refine ⟨fnok15, CallAt.same (i := 1) below below (SrcV.row (j := 2) (by simp) rfl (by decide) hF1) (SrcV.ext (by simp) hb hA) (by omega) (Res.run 900 ?_)⟩
      simp only [↓reduceIte, Nat.reduceEqDiff, Nat.reduceAdd, Nat.reduceSub, Nat.reduceMul, Nat.reduceLT, Int.reduceToNat, Int.reduceBEq, Int.reduceBNe, Int.reduceLT, Int.reduceLE, E, E', TY, eqVls_self, q1, bne_self_eq_false, beq_self_eq_true, Bool.not_true, Bool.not_false]
      refine ⟨fnok8, CallAt.le (σ' := { T := mkT 219 [(0, .v (.slice A below.length c)), (1, .v (.slice B l.length d)), (2, .v (.slice C bs.length e)), (3, .v (.slice F0 dd.length g)), (9, .p 0 0), (11, .v (.bool true)), (92, .p 0 0)], X := [t], L := [.asn TabA], D := [] }) (St.Le.of 1 (by simp only [↓reduceIte, Nat.reduceEqDiff, Nat.reduceAdd, Nat.reduceSub, Nat.reduceMul, Nat.reduceLT, Int.reduceToNat, Int.reduceBEq, Int.reduceBNe, Int.reduceLT, Int.reduceLE, E, E', TY])) rfl (by simp [SV.lt]) (CallAt.snew rfl (Res.run 900 ?_))⟩
      simp only [↓reduceIte, Nat.reduceEqDiff, Nat.reduceAdd, Nat.reduceSub, Nat.reduceMul, Nat.reduceLT, Int.reduceToNat, Int.reduceBEq, Int.reduceBNe, Int.reduceLT, Int.reduceLE, E, E', TY]
      refine ⟨fnok10, CallAt.push (j := 0) (t := t) (st := []) (fr := []) below ⟨rfl, rfl, rfl, by decide⟩ (SrcV.ext (by simp) hb hA) (by simp; omega) (Res.run 900 ?_)⟩
      simp only [↓reduceIte, Nat.reduceEqDiff, Nat.reduceAdd, Nat.reduceSub, Nat.reduceMul, Nat.reduceLT, Int.reduceToNat, Int.reduceBEq, Int.reduceBNe, Int.reduceLT, Int.reduceLE, E, E', TY, List.nil_append]
      refine ⟨fnok10, CallAt.push (j := 0) (t := t) (st := below) (fr := []) l ⟨rfl, rfl, rfl, by decide⟩ (SrcV.ext (by simp) hl hB) (by omega) (Res.run 900 ?_)⟩
      simp only [↓reduceIte, Nat.reduceEqDiff, Nat.reduceAdd, Nat.reduceSub, Nat.reduceMul, Nat.reduceLT, Int.reduceToNat, Int.reduceBEq, Int.reduceBNe, Int.reduceLT, Int.reduceLE, E, E', TY]
      refine ⟨fnok11, CallAt.open (j := 0) (t := t) (st := below ++ l) (fr := []) bs l ⟨rfl, rfl, rfl, by decide⟩ (SrcV.ext (by simp) hs hC) (SrcV.ext (by simp) hl hB) (by simp; omega) (by simp) (by omega) (by omega) (Res.run 900 ?_)⟩
      obtain ⟨st1, ht1⟩ : ∃ st1, takesF (below ++ l) [] bs = (0, st1) := ⟨_, r1⟩
      have hop : openF (below ++ l) [] 3 bs l = (0, st1 ++ bs, [⟨3, bs, l, st1.length, false, []⟩]) := by simp [openF, ht1]
      rw [hop]
      have hcl1 : ∀ v ∈ bs, closedF v = true := takesF_ok bs.length rfl (by rw [ht1])
      have hst1 : st1.length ≤ 40 := by have := takesR_len [] bs.reverse (below ++ l); unfold takesF at ht1; rw [ht1] at this; simp at this; omega
      obtain ⟨f, hf⟩ : ∃ f : Frm, f = ⟨3, bs, l, st1.length, false, []⟩ := ⟨_, rfl⟩
      rw [← hf]
      have hfo : f.op = 3 := by rw [hf]
      have hfp : f.ps = bs := by rw [hf]
      have hfr : f.rs = l := by rw [hf]
      have hfh : f.ht = st1.length := by rw [hf]
      simp only [↓reduceIte, Nat.reduceEqDiff, Nat.reduceAdd, Nat.reduceSub, Nat.reduceMul, Nat.reduceLT, Int.reduceToNat, Int.reduceBEq, Int.reduceBNe, Int.reduceLT, Int.reduceLE, E, E', TY]
      refine ⟨fnok14, CallAt.height (j := 0) (t := t) (st := st1 ++ bs) (fr := [f]) ⟨rfl, rfl, rfl, by decide⟩ (Res.run 900 ?_)⟩
      have eh : (((st1 ++ bs).length : Nat) : Int) - (bs.length : Int) = (st1.length : Int) := by simp
      simp only [↓reduceIte, Nat.reduceEqDiff, Nat.reduceAdd, Nat.reduceSub, Nat.reduceMul, Nat.reduceLT, Int.reduceToNat, Int.reduceBEq, Int.reduceBNe, Int.reduceLT, Int.reduceLE, E, E', TY, eh]
      refine ⟨i64ok_of (by omega) (by omega), ?_⟩
      have hself := valsF_self hcl1
      obtain ⟨s1, _⟩ := takesF_same bs.length (st := st1) (fr := [f]) (l := bs) (bs := bs) rfl rfl (by intro f0 h0; simp at h0; subst h0; rw [hfh]; exact Int.le_refl _)
      obtain ⟨s2, s3⟩ := takesF_same l.length (st := st1) (fr := [f]) (l := l) (bs := l) rfl rfl (by intro f0 h0; simp at h0; subst h0; rw [hfh]; exact Int.le_refl _)
      have s1 := s1 hself
      refine ⟨fnok17, CallAt.take (j := 0) (t := t) (st := st1 ++ bs) (fr := [f]) bs ⟨rfl, rfl, rfl, by decide⟩ (SrcV.ext (by simp) hs hC) (by simp; omega) (by simp) (by omega) (Res.run 900 ?_)⟩
      simp only [↓reduceIte, Nat.reduceEqDiff, Nat.reduceAdd, Nat.reduceSub, Nat.reduceMul, Nat.reduceLT, Int.reduceToNat, Int.reduceBEq, Int.reduceBNe, Int.reduceLT, Int.reduceLE, E, E', TY, s1]
      refine ⟨fnok10, CallAt.push (j := 0) (t := t) (st := st1) (fr := [f]) l ⟨rfl, rfl, rfl, by decide⟩ (SrcV.ext (by simp) hl hB) (by omega) (Res.run 900 ?_)⟩
      simp only [↓reduceIte, Nat.reduceEqDiff, Nat.reduceAdd, Nat.reduceSub, Nat.reduceMul, Nat.reduceLT, Int.reduceToNat, Int.reduceBEq, Int.reduceBNe, Int.reduceLT, Int.reduceLE, E, E', TY]
      refine ⟨fnok21, CallAt.vals (i := 1) (j := 0) (t := t) l l rfl rfl (SrcV.ext (by simp) hl hB) (SrcV.ext (by simp) hl hB) (by omega) (Res.run 900 ?_)⟩
      cases hvl : valsF l l with
      | true =>
        have s2 := s2 hvl
        simp only [↓reduceIte, Nat.reduceEqDiff, Nat.reduceAdd, Nat.reduceSub, Nat.reduceMul, Nat.reduceLT, Int.reduceToNat, Int.reduceBEq, Int.reduceBNe, Int.reduceLT, Int.reduceLE, E, E', TY, hvl]
        have c1 : clsErr (st1 ++ l) ([] ++ [f]) f = none := by
          unfold clsErr
          rw [hfr, List.nil_append, s2]
          simp [hfh]
        have c2 : takesF (st1 ++ l) ([] ++ [f]) f.rs = (0, st1) := by rw [hfr, List.nil_append, s2]
        refine ⟨fnok19, CallAt.close (j := 0) (t := t) (st := st1 ++ l) (fr := []) (f := f) ⟨rfl, rfl, rfl, by decide⟩ c1 (by simp; omega) (by simp) (by rw [hfp]; omega) (by rw [hfr]; omega) fun nl1 b1 k1' cur1 nl2 b2 k2' cur2 hF1 hF2 => ?_⟩
        rw [c2]
        rw [hfp] at hF1
        rw [hfr] at hF2
        refine Res.run 900 ?_
        simp only [↓reduceIte, Nat.reduceEqDiff, Nat.reduceAdd, Nat.reduceSub, Nat.reduceMul, Nat.reduceLT, Int.reduceToNat, Int.reduceBEq, Int.reduceBNe, Int.reduceLT, Int.reduceLE, E, E', TY, hfo, hfp, hfr, bne_self_eq_false, beq_self_eq_true, Bool.not_true, Bool.not_false]
        refine ⟨fnok15, CallAt.same (i := 1) bs bs (SrcV.row1 (j := 2) (by simp) rfl (by decide) hF1) (SrcV.ext (by simp) hs hC) (by omega) (Res.run 900 ?_)⟩
        simp only [↓reduceIte, Nat.reduceEqDiff, Nat.reduceAdd, Nat.reduceSub, Nat.reduceMul, Nat.reduceLT, Int.reduceToNat, Int.reduceBEq, Int.reduceBNe, Int.reduceLT, Int.reduceLE, E, E', TY, eqVls_self, bne_self_eq_false, beq_self_eq_true, Bool.not_true, Bool.not_false]
        refine ⟨fnok15, CallAt.same (i := 1) l l (SrcV.row2 (j := 2) (by simp) rfl (by decide) hF2) (SrcV.ext (by simp) hl hB) (by omega) (Res.run 900 ?_)⟩
        simp only [↓reduceIte, Nat.reduceEqDiff, Nat.reduceAdd, Nat.reduceSub, Nat.reduceMul, Nat.reduceLT, Int.reduceToNat, Int.reduceBEq, Int.reduceBNe, Int.reduceLT, Int.reduceLE, E, E', TY, eqVls_self, bne_self_eq_false, beq_self_eq_true, Bool.not_true, Bool.not_false]
        refine ⟨fnok14, CallAt.height (j := 0) (t := t) (st := st1) (fr := []) ⟨rfl, rfl, rfl, by decide⟩ (Res.run 900 ?_)⟩
        simp only [↓reduceIte, Nat.reduceEqDiff, Nat.reduceAdd, Nat.reduceSub, Nat.reduceMul, Nat.reduceLT, Int.reduceToNat, Int.reduceBEq, Int.reduceBNe, Int.reduceLT, Int.reduceLE, E, E', TY, bne_self_eq_false, beq_self_eq_true, Bool.not_true, Bool.not_false]
        refine ⟨fnok20, CallAt.frames (j := 0) (t := t) (st := st1) (fr := []) ⟨rfl, rfl, rfl, by decide⟩ (Res.run 900 ?_)⟩
        simp only [↓reduceIte, Nat.reduceEqDiff, Nat.reduceAdd, Nat.reduceSub, Nat.reduceMul, Nat.reduceLT, Int.reduceToNat, Int.reduceBEq, Int.reduceBNe, Int.reduceLT, Int.reduceLE, E, E', TY, List.length_nil, Int.natCast_zero, bne_self_eq_false, beq_self_eq_true, Bool.not_true, Bool.not_false]
        refine ⟨fnok8, CallAt.le (σ' := { T := mkT 219 [(0, .v (.slice A below.length c)), (3, .v (.slice F0 dd.length g)), (9, .p 0 0), (170, .p 0 0)], X := [t], L := [.asn TabA], D := [] }) (St.Le.of 1 (by simp only [↓reduceIte, Nat.reduceEqDiff, Nat.reduceAdd, Nat.reduceSub, Nat.reduceMul, Nat.reduceLT, Int.reduceToNat, Int.reduceBEq, Int.reduceBNe, Int.reduceLT, Int.reduceLE, E, E', TY])) rfl (by simp [SV.lt]) (CallAt.snew rfl (Res.run 900 ?_))⟩
        simp only [↓reduceIte, Nat.reduceEqDiff, Nat.reduceAdd, Nat.reduceSub, Nat.reduceMul, Nat.reduceLT, Int.reduceToNat, Int.reduceBEq, Int.reduceBNe, Int.reduceLT, Int.reduceLE, E, E', TY]
        refine ⟨fnok10, CallAt.push (j := 0) (t := t) (st := []) (fr := []) below ⟨rfl, rfl, rfl, by decide⟩ (SrcV.ext (by simp) hb hA) (by simp; omega) (Res.run 900 ?_)⟩
        simp only [↓reduceIte, Nat.reduceEqDiff, Nat.reduceAdd, Nat.reduceSub, Nat.reduceMul, Nat.reduceLT, Int.reduceToNat, Int.reduceBEq, Int.reduceBNe, Int.reduceLT, Int.reduceLE, E, E', TY, List.nil_append]
        refine ⟨fnok11, CallAt.open (j := 0) (t := t) (st := below) (fr := []) [] dd ⟨rfl, rfl, rfl, by decide⟩ SrcV.nil (SrcV.ext (by simp) hd hE) (by omega) (by simp) (by simp) (by omega) (Res.run 900 ?_)⟩
        simp only [↓reduceIte, Nat.reduceEqDiff, Nat.reduceAdd, Nat.reduceSub, Nat.reduceMul, Nat.reduceLT, Int.reduceToNat, Int.reduceBEq, Int.reduceBNe, Int.reduceLT, Int.reduceLE, E, E', TY, openF_nil, List.nil_append]
        refine ⟨fnok12, CallAt.die (j := 0) (t := t) (st := below) (fr := []) (f := ⟨2, [], dd, below.length, false, []⟩) ⟨rfl, rfl, rfl, by decide⟩ (by simp) (by simp) (Res.run 900 ?_)⟩
        rw [k1, List.nil_append, ← hf']
        simp only [↓reduceIte, Nat.reduceEqDiff, Nat.reduceAdd, Nat.reduceSub, Nat.reduceMul, Nat.reduceLT, Int.reduceToNat, Int.reduceBEq, Int.reduceBNe, Int.reduceLT, Int.reduceLE, E, E', TY]
        refine Res.loop (X := {i : Nat // i ≤ 3 ∧ (0 < i → (takesF below [f'] dd).1 = 0)})
          (fun x => { T := mkT 219 [(0, .v (.slice A below.length c)), (3, .v (.slice F0 dd.length g)), (9, .p 0 0), (10, .p 1 0), (20, .v (.int .i64 (x.1 : Int)))], X := [t], L := [.asn TabA, .asn (MachA t below [f'])], D := [] })
          (fun x => 3 - x.1) ⟨0, by omega, by omega⟩ (St.Le.of 2 (by simp only [↓reduceIte, Nat.reduceEqDiff, Nat.reduceAdd, Nat.reduceSub, Nat.reduceMul, Nat.reduceLT, Int.reduceToNat, Int.reduceBEq, Int.reduceBNe, Int.reduceLT, Int.reduceLE, E, E', TY]; simp)) ?_
        rintro ⟨i, hi, hi0⟩
        simp only at hi hi0 ⊢
        refine Res.run 900 ?_
        by_cases hlt : i < 3
        case neg =>
          have e9 : decide ((i : Int) < 3) = false := by simp; omega
          have t0 : (takesF below [f'] dd).1 = 0 := hi0 (by omega)
          have t1 : takesF below [f'] dd = (0, below) := Prod.ext t0 k2
          simp only [↓reduceIte, Nat.reduceEqDiff, Nat.reduceAdd, Nat.reduceSub, Nat.reduceMul, Nat.reduceLT, Int.reduceToNat, Int.reduceBEq, Int.reduceBNe, Int.reduceLT, Int.reduceLE, E, E', TY, e9]
          have c1 : clsErr below ([] ++ [f']) f' = none := by
            unfold clsErr
            rw [k3, List.nil_append, t1]
            simp [k4]
          have c2 : takesF below ([] ++ [f']) f'.rs = (0, below) := by rw [k3, List.nil_append, t1]
          refine ⟨fnok19, CallAt.close (j := 0) (t := t) (st := below) (fr := []) (f := f') ⟨rfl, rfl, rfl, by decide⟩ c1 (by omega) (by simp) (by rw [k5]; simp) (by rw [k3]; omega) fun nl5 b5 k5 cur5 nl6 b6 k6 cur6 hF5 hF6 => ?_⟩
          rw [c2]
          refine Res.run 900 ?_
          simp only [↓reduceIte, Nat.reduceEqDiff, Nat.reduceAdd, Nat.reduceSub, Nat.reduceMul, Nat.reduceLT, Int.reduceToNat, Int.reduceBEq, Int.reduceBNe, Int.reduceLT, Int.reduceLE, E, E', TY, beq_self_eq_true]
          refine ⟨fnok14, CallAt.height (j := 0) (t := t) (st := below) (fr := []) ⟨rfl, rfl, rfl, by decide⟩ (Res.run 900 ?_)⟩
          simp only [↓reduceIte, Nat.reduceEqDiff, Nat.reduceAdd, Nat.reduceSub, Nat.reduceMul, Nat.reduceLT, Int.reduceToNat, Int.reduceBEq, Int.reduceBNe, Int.reduceLT, Int.reduceLE, E, E', TY]
          refine ⟨fnok16, CallAt.top (j := 0) (t := t) (st := below) (fr := []) (n := below.length) ⟨rfl, rfl, rfl, by decide⟩ (by omega) fun nl7 b7 k7 cur7 hF7 => ?_⟩
          rw [hup] at hF7 ⊢
          refine Res.run 900 ?_
          simp only [↓reduceIte, Nat.reduceEqDiff, Nat.reduceAdd, Nat.reduceSub, Nat.reduceMul, Nat.reduceLT, Int.reduceToNat, Int.reduceBEq, Int.reduceBNe, Int.reduceLT, Int.reduceLE, E, E', TY]
          refine ⟨fnok15, CallAt.same (i := 1) below below (SrcV.row (j := 3) (by simp) rfl (by decide) hF7) (SrcV.ext (by simp) hb hA) (by omega) (Res.run 900 ?_)⟩
          simp only [↓reduceIte, Nat.reduceEqDiff, Nat.reduceAdd, Nat.reduceSub, Nat.reduceMul, Nat.reduceLT, Int.reduceToNat, Int.reduceBEq, Int.reduceBNe, Int.reduceLT, Int.reduceLE, E, E', TY, eqVls_self]
          exact Ret.one rfl (by kernel_rfl)
        have e9 : decide ((i : Int) < 3) = true := by simp; omega
        simp only [↓reduceIte, Nat.reduceEqDiff, Nat.reduceAdd, Nat.reduceSub, Nat.reduceMul, Nat.reduceLT, Int.reduceToNat, Int.reduceBEq, Int.reduceBNe, Int.reduceLT, Int.reduceLE, E, E', TY, e9]
        refine ⟨fnok17, CallAt.take (j := 0) (t := t) (st := below) (fr := [f']) dd ⟨rfl, rfl, rfl, by decide⟩ (SrcV.ext (by simp) hd hE) (by omega) (by simp) (by omega) (Res.run 900 ?_)⟩
        rw [k2]
        rcases k6 with t0 | ⟨t0, v, hv, hcl⟩
        · simp only [↓reduceIte, Nat.reduceEqDiff, Nat.reduceAdd, Nat.reduceSub, Nat.reduceMul, Nat.reduceLT, Int.reduceToNat, Int.reduceBEq, Int.reduceBNe, Int.reduceLT, Int.reduceLE, E, E', TY, t0, bne_self_eq_false]
          refine ⟨i64ok_of (by omega) (by omega), ?_⟩
          exact Res.again (⟨i + 1, by omega, fun _ => t0⟩ : {i : Nat // i ≤ 3 ∧ (0 < i → (takesF below [f'] dd).1 = 0)}) (by simp only; omega) (St.Le.of 2 (by simp only [↓reduceIte, Nat.reduceEqDiff, Nat.reduceAdd, Nat.reduceSub, Nat.reduceMul, Nat.reduceLT, Int.reduceToNat, Int.reduceBEq, Int.reduceBNe, Int.reduceLT, Int.reduceLE, E, E', TY, Int.natCast_add, Int.cast_ofNat_Int]))
        · simp only [↓reduceIte, Nat.reduceEqDiff, Nat.reduceAdd, Nat.reduceSub, Nat.reduceMul, Nat.reduceLT, Int.reduceToNat, Int.reduceBEq, Int.reduceBNe, Int.reduceLT, Int.reduceLE, E, E', TY, t0, beq_self_eq_true]
          refine ⟨fnok21, CallAt.vals (i := 1) (j := 0) (t := t) dd dd rfl rfl (SrcV.ext (by simp) hd hE) (SrcV.ext (by simp) hd hE) (by omega) (Res.run 900 ?_)⟩
          have hns := valsF_notself hv hcl
          simp only [↓reduceIte, Nat.reduceEqDiff, Nat.reduceAdd, Nat.reduceSub, Nat.reduceMul, Nat.reduceLT, Int.reduceToNat, Int.reduceBEq, Int.reduceBNe, Int.reduceLT, Int.reduceLE, E, E', TY, hns, Bool.not_false]
          exact Ret.one rfl (by kernel_rfl)
      | false =>
        have s3 := s3 hvl
        simp only [↓reduceIte, Nat.reduceEqDiff, Nat.reduceAdd, Nat.reduceSub, Nat.reduceMul, Nat.reduceLT, Int.reduceToNat, Int.reduceBEq, Int.reduceBNe, Int.reduceLT, Int.reduceLE, E, E', TY, hvl]
        have c1 : clsErr (st1 ++ l) ([] ++ [f]) f = some 141 := by
          unfold clsErr
          rw [hfr, List.nil_append]
          simp [s3]
        refine ⟨fnok19, CallAt.closeE (j := 0) (t := t) (st := st1 ++ l) (fr := []) (f := f) ⟨rfl, rfl, rfl, by decide⟩ c1 (by simp; omega) (by simp) (by rw [hfp]; omega) (by rw [hfr]; omega) (Res.run 900 ?_)⟩
        simp only [↓reduceIte, Nat.reduceEqDiff, Nat.reduceAdd, Nat.reduceSub, Nat.reduceMul, Nat.reduceLT, Int.reduceToNat, Int.reduceBEq, Int.reduceBNe, Int.reduceLT, Int.reduceLE, E, E', TY, bne_self_eq_false, beq_self_eq_true, Bool.not_true, Bool.not_false]
        refine ⟨fnok8, CallAt.le (σ' := { T := mkT 219 [(0, .v (.slice A below.length c)), (3, .v (.slice F0 dd.length g)), (9, .p 0 0), (170, .p 0 0)], X := [t], L := [.asn TabA], D := [] }) (St.Le.of 1 (by simp only [↓reduceIte, Nat.reduceEqDiff, Nat.reduceAdd, Nat.reduceSub, Nat.reduceMul, Nat.reduceLT, Int.reduceToNat, Int.reduceBEq, Int.reduceBNe, Int.reduceLT, Int.reduceLE, E, E', TY])) rfl (by simp [SV.lt]) (CallAt.snew rfl (Res.run 900 ?_))⟩
        simp only [↓reduceIte, Nat.reduceEqDiff, Nat.reduceAdd, Nat.reduceSub, Nat.reduceMul, Nat.reduceLT, Int.reduceToNat, Int.reduceBEq, Int.reduceBNe, Int.reduceLT, Int.reduceLE, E, E', TY]
        refine ⟨fnok10, CallAt.push (j := 0) (t := t) (st := []) (fr := []) below ⟨rfl, rfl, rfl, by decide⟩ (SrcV.ext (by simp) hb hA) (by simp; omega) (Res.run 900 ?_)⟩
        simp only [↓reduceIte, Nat.reduceEqDiff, Nat.reduceAdd, Nat.reduceSub, Nat.reduceMul, Nat.reduceLT, Int.reduceToNat, Int.reduceBEq, Int.reduceBNe, Int.reduceLT, Int.reduceLE, E, E', TY, List.nil_append]
        refine ⟨fnok11, CallAt.open (j := 0) (t := t) (st := below) (fr := []) [] dd ⟨rfl, rfl, rfl, by decide⟩ SrcV.nil (SrcV.ext (by simp) hd hE) (by omega) (by simp) (by simp) (by omega) (Res.run 900 ?_)⟩
        simp only [↓reduceIte, Nat.reduceEqDiff, Nat.reduceAdd, Nat.reduceSub, Nat.reduceMul, Nat.reduceLT, Int.reduceToNat, Int.reduceBEq, Int.reduceBNe, Int.reduceLT, Int.reduceLE, E, E', TY, openF_nil, List.nil_append]
        refine ⟨fnok12, CallAt.die (j := 0) (t := t) (st := below) (fr := []) (f := ⟨2, [], dd, below.length, false, []⟩) ⟨rfl, rfl, rfl, by decide⟩ (by simp) (by simp) (Res.run 900 ?_)⟩
        rw [k1, List.nil_append, ← hf']
        simp only [↓reduceIte, Nat.reduceEqDiff, Nat.reduceAdd, Nat.reduceSub, Nat.reduceMul, Nat.reduceLT, Int.reduceToNat, Int.reduceBEq, Int.reduceBNe, Int.reduceLT, Int.reduceLE, E, E', TY]
        refine Res.loop (X := {i : Nat // i ≤ 3 ∧ (0 < i → (takesF below [f'] dd).1 = 0)})
          (fun x => { T := mkT 219 [(0, .v (.slice A below.length c)), (3, .v (.slice F0 dd.length g)), (9, .p 0 0), (10, .p 1 0), (20, .v (.int .i64 (x.1 : Int)))], X := [t], L := [.asn TabA, .asn (MachA t below [f'])], D := [] })
          (fun x => 3 - x.1) ⟨0, by omega, by omega⟩ (St.Le.of 2 (by simp only [↓reduceIte, Nat.reduceEqDiff, Nat.reduceAdd, Nat.reduceSub, Nat.reduceMul, Nat.reduceLT, Int.reduceToNat, Int.reduceBEq, Int.reduceBNe, Int.reduceLT, Int.reduceLE, E, E', TY]; simp)) ?_
        rintro ⟨i, hi, hi0⟩
        simp only at hi hi0 ⊢
        refine Res.run 900 ?_
        by_cases hlt : i < 3
        case neg =>
          have e9 : decide ((i : Int) < 3) = false := by simp; omega
          have t0 : (takesF below [f'] dd).1 = 0 := hi0 (by omega)
          have t1 : takesF below [f'] dd = (0, below) := Prod.ext t0 k2
          simp only [↓reduceIte, Nat.reduceEqDiff, Nat.reduceAdd, Nat.reduceSub, Nat.reduceMul, Nat.reduceLT, Int.reduceToNat, Int.reduceBEq, Int.reduceBNe, Int.reduceLT, Int.reduceLE, E, E', TY, e9]
          have c1 : clsErr below ([] ++ [f']) f' = none := by
            unfold clsErr
            rw [k3, List.nil_append, t1]
            simp [k4]
          have c2 : takesF below ([] ++ [f']) f'.rs = (0, below) := by rw [k3, List.nil_append, t1]
          refine ⟨fnok19, CallAt.close (j := 0) (t := t) (st := below) (fr := []) (f := f') ⟨rfl, rfl, rfl, by decide⟩ c1 (by omega) (by simp) (by rw [k5]; simp) (by rw [k3]; omega) fun nl5 b5 k5 cur5 nl6 b6 k6 cur6 hF5 hF6 => ?_⟩
          rw [c2]
          refine Res.run 900 ?_
          simp only [↓reduceIte, Nat.reduceEqDiff, Nat.reduceAdd, Nat.reduceSub, Nat.reduceMul, Nat.reduceLT, Int.reduceToNat, Int.reduceBEq, Int.reduceBNe, Int.reduceLT, Int.reduceLE, E, E', TY, beq_self_eq_true]
          refine ⟨fnok14, CallAt.height (j := 0) (t := t) (st := below) (fr := []) ⟨rfl, rfl, rfl, by decide⟩ (Res.run 900 ?_)⟩
          simp only [↓reduceIte, Nat.reduceEqDiff, Nat.reduceAdd, Nat.reduceSub, Nat.reduceMul, Nat.reduceLT, Int.reduceToNat, Int.reduceBEq, Int.reduceBNe, Int.reduceLT, Int.reduceLE, E, E', TY]
          refine ⟨fnok16, CallAt.top (j := 0) (t := t) (st := below) (fr := []) (n := below.length) ⟨rfl, rfl, rfl, by decide⟩ (by omega) fun nl7 b7 k7 cur7 hF7 => ?_⟩
          rw [hup] at hF7 ⊢
          refine Res.run 900 ?_
          simp only [↓reduceIte, Nat.reduceEqDiff, Nat.reduceAdd, Nat.reduceSub, Nat.reduceMul, Nat.reduceLT, Int.reduceToNat, Int.reduceBEq, Int.reduceBNe, Int.reduceLT, Int.reduceLE, E, E', TY]
          refine ⟨fnok15, CallAt.same (i := 1) below below (SrcV.row (j := 3) (by simp) rfl (by decide) hF7) (SrcV.ext (by simp) hb hA) (by omega) (Res.run 900 ?_)⟩
          simp only [↓reduceIte, Nat.reduceEqDiff, Nat.reduceAdd, Nat.reduceSub, Nat.reduceMul, Nat.reduceLT, Int.reduceToNat, Int.reduceBEq, Int.reduceBNe, Int.reduceLT, Int.reduceLE, E, E', TY, eqVls_self]
          exact Ret.one rfl (by kernel_rfl)
        have e9 : decide ((i : Int) < 3) = true := by simp; omega
        simp only [↓reduceIte, Nat.reduceEqDiff, Nat.reduceAdd, Nat.reduceSub, Nat.reduceMul, Nat.reduceLT, Int.reduceToNat, Int.reduceBEq, Int.reduceBNe, Int.reduceLT, Int.reduceLE, E, E', TY, e9]
        refine ⟨fnok17, CallAt.take (j := 0) (t := t) (st := below) (fr := [f']) dd ⟨rfl, rfl, rfl, by decide⟩ (SrcV.ext (by simp) hd hE) (by omega) (by simp) (by omega) (Res.run 900 ?_)⟩
        rw [k2]
        rcases k6 with t0 | ⟨t0, v, hv, hcl⟩
        · simp only [↓reduceIte, Nat.reduceEqDiff, Nat.reduceAdd, Nat.reduceSub, Nat.reduceMul, Nat.reduceLT, Int.reduceToNat, Int.reduceBEq, Int.reduceBNe, Int.reduceLT, Int.reduceLE, E, E', TY, t0, bne_self_eq_false]
          refine ⟨i64ok_of (by omega) (by omega), ?_⟩
          exact Res.again (⟨i + 1, by omega, fun _ => t0⟩ : {i : Nat // i ≤ 3 ∧ (0 < i → (takesF below [f'] dd).1 = 0)}) (by simp only; omega) (St.Le.of 2 (by simp only [↓reduceIte, Nat.reduceEqDiff, Nat.reduceAdd, Nat.reduceSub, Nat.reduceMul, Nat.reduceLT, Int.reduceToNat, Int.reduceBEq, Int.reduceBNe, Int.reduceLT, Int.reduceLE, E, E', TY, Int.natCast_add, Int.cast_ofNat_Int]))
        · simp only [↓reduceIte, Nat.reduceEqDiff, Nat.reduceAdd, Nat.reduceSub, Nat.reduceMul, Nat.reduceLT, Int.reduceToNat, Int.reduceBEq, Int.reduceBNe, Int.reduceLT, Int.reduceLE, E, E', TY, t0, beq_self_eq_true]
          refine ⟨fnok21, CallAt.vals (i := 1) (j := 0) (t := t) dd dd rfl rfl (SrcV.ext (by simp) hd hE) (SrcV.ext (by simp) hd hE) (by omega) (Res.run 900 ?_)⟩
          have hns := valsF_notself hv hcl
          simp only [↓reduceIte, Nat.reduceEqDiff, Nat.reduceAdd, Nat.reduceSub, Nat.reduceMul, Nat.reduceLT, Int.reduceToNat, Int.reduceBEq, Int.reduceBNe, Int.reduceLT, Int.reduceLE, E, E', TY, hns, Bool.not_false]
          exact Ret.one rfl (by kernel_rfl)
    | false =>
      have r2 := r2 hv
      simp only [↓reduceIte, Nat.reduceEqDiff, Nat.reduceAdd, Nat.reduceSub, Nat.reduceMul, Nat.reduceLT, Int.reduceToNat, Int.reduceBEq, Int.reduceBNe, Int.reduceLT, Int.reduceLE, E, E', TY]
      refine ⟨fnok10, CallAt.push (j := 0) (t := t) (st := below) (fr := []) l ⟨rfl, rfl, rfl, by decide⟩ (SrcV.ext (by simp) hl hB) (by omega) (Res.run 900 ?_)⟩
      simp only [↓reduceIte, Nat.reduceEqDiff, Nat.reduceAdd, Nat.reduceSub, Nat.reduceMul, Nat.reduceLT, Int.reduceToNat, Int.reduceBEq, Int.reduceBNe, Int.reduceLT, Int.reduceLE, E, E', TY]
      refine ⟨fnok17, CallAt.take (j := 0) (t := t) (st := below ++ l) (fr := []) bs ⟨rfl, rfl, rfl, by decide⟩ (SrcV.ext (by simp) hs hC) (by simp; omega) (by simp) (by omega) (Res.run 900 ?_)⟩
      simp only [↓reduceIte, Nat.reduceEqDiff, Nat.reduceAdd, Nat.reduceSub, Nat.reduceMul, Nat.reduceLT, Int.reduceToNat, Int.reduceBEq, Int.reduceBNe, Int.reduceLT, Int.reduceLE, E, E', TY, r2, q1, bne_self_eq_false, beq_self_eq_true, Bool.not_true, Bool.not_false]
      refine ⟨fnok8, CallAt.le (σ' := { T := mkT 219 [(0, .v (.slice A below.length c)), (1, .v (.slice B l.length d)), (2, .v (.slice C bs.length e)), (3, .v (.slice F0 dd.length g)), (9, .p 0 0), (11, .v (.bool false)), (92, .p 0 0)], X := [t], L := [.asn TabA], D := [] }) (St.Le.of 1 (by simp only [↓reduceIte, Nat.reduceEqDiff, Nat.reduceAdd, Nat.reduceSub, Nat.reduceMul, Nat.reduceLT, Int.reduceToNat, Int.reduceBEq, Int.reduceBNe, Int.reduceLT, Int.reduceLE, E, E', TY])) rfl (by simp [SV.lt]) (CallAt.snew rfl (Res.run 900 ?_))⟩
      simp only [↓reduceIte, Nat.reduceEqDiff, Nat.reduceAdd, Nat.reduceSub, Nat.reduceMul, Nat.reduceLT, Int.reduceToNat, Int.reduceBEq, Int.reduceBNe, Int.reduceLT, Int.reduceLE, E, E', TY]
      refine ⟨fnok10, CallAt.push (j := 0) (t := t) (st := []) (fr := []) below ⟨rfl, rfl, rfl, by decide⟩ (SrcV.ext (by simp) hb hA) (by simp; omega) (Res.run 900 ?_)⟩
      simp only [↓reduceIte, Nat.reduceEqDiff, Nat.reduceAdd, Nat.reduceSub, Nat.reduceMul, Nat.reduceLT, Int.reduceToNat, Int.reduceBEq, Int.reduceBNe, Int.reduceLT, Int.reduceLE, E, E', TY, List.nil_append]
      refine ⟨fnok10, CallAt.push (j := 0) (t := t) (st := below) (fr := []) l ⟨rfl, rfl, rfl, by decide⟩ (SrcV.ext (by simp) hl hB) (by omega) (Res.run 900 ?_)⟩
      simp only [↓reduceIte, Nat.reduceEqDiff, Nat.reduceAdd, Nat.reduceSub, Nat.reduceMul, Nat.reduceLT, Int.reduceToNat, Int.reduceBEq, Int.reduceBNe, Int.reduceLT, Int.reduceLE, E, E', TY]
      refine ⟨fnok11, CallAt.open (j := 0) (t := t) (st := below ++ l) (fr := []) bs l ⟨rfl, rfl, rfl, by decide⟩ (SrcV.ext (by simp) hs hC) (SrcV.ext (by simp) hl hB) (by simp; omega) (by simp) (by omega) (by omega) (Res.run 900 ?_)⟩
      have hop : (openF (below ++ l) [] 3 bs l).1 = 141 := by simp [openF, r2]
      have q2 : ((l.length : Int) != (bs.length : Int)) = false := by simp [hlen]
      simp only [↓reduceIte, Nat.reduceEqDiff, Nat.reduceAdd, Nat.reduceSub, Nat.reduceMul, Nat.reduceLT, Int.reduceToNat, Int.reduceBEq, Int.reduceBNe, Int.reduceLT, Int.reduceLE, E, E', TY, hop, q2, bne_self_eq_false, beq_self_eq_true, Bool.not_true, Bool.not_false]
      exact Ret.one rfl (by kernel_rfl)
  · have q1 : ((l.length : Int) == (bs.length : Int)) = false := by simp; omega
    have q2 : ((l.length : Int) != (bs.length : Int)) = true := by simp; omega
    simp only [↓reduceIte, Nat.reduceEqDiff, Nat.reduceAdd, Nat.reduceSub, Nat.reduceMul, Nat.reduceLT, Int.reduceToNat, Int.reduceBEq, Int.reduceBNe, Int.reduceLT, Int.reduceLE, E, E', TY, List.nil_append, q1]
    refine ⟨fnok10, CallAt.push (j := 0) (t := t) (st := below) (fr := []) l ⟨rfl, rfl, rfl, by decide⟩ (SrcV.ext (by simp) hl hB) (by omega) (Res.run 900 ?_)⟩
    simp only [↓reduceIte, Nat.reduceEqDiff, Nat.reduceAdd, Nat.reduceSub, Nat.reduceMul, Nat.reduceLT, Int.reduceToNat, Int.reduceBEq, Int.reduceBNe, Int.reduceLT, Int.reduceLE, E, E', TY]
    refine ⟨fnok17, CallAt.take (j := 0) (t := t) (st := below ++ l) (fr := []) bs ⟨rfl, rfl, rfl, by decide⟩ (SrcV.ext (by simp) hs hC) (by simp; omega) (by simp) (by omega) (Res.run 900 ?_)⟩
    simp only [↓reduceIte, Nat.reduceEqDiff, Nat.reduceAdd, Nat.reduceSub, Nat.reduceMul, Nat.reduceLT, Int.reduceToNat, Int.reduceBEq, Int.reduceBNe, Int.reduceLT, Int.reduceLE, E, E', TY, q1, bne_self_eq_false, beq_self_eq_true, Bool.not_true, Bool.not_false]
    refine ⟨fnok8, CallAt.le (σ' := { T := mkT 219 [(0, .v (.slice A below.length c)), (1, .v (.slice B l.length d)), (2, .v (.slice C bs.length e)), (3, .v (.slice F0 dd.length g)), (9, .p 0 0), (11, .v (.bool false)), (92, .p 0 0)], X := [t], L := [.asn TabA], D := [] }) (St.Le.of 1 (by simp only [↓reduceIte, Nat.reduceEqDiff, Nat.reduceAdd, Nat.reduceSub, Nat.reduceMul, Nat.reduceLT, Int.reduceToNat, Int.reduceBEq, Int.reduceBNe, Int.reduceLT, Int.reduceLE, E, E', TY])) rfl (by simp [SV.lt]) (CallAt.snew rfl (Res.run 900 ?_))⟩
    simp only [↓reduceIte, Nat.reduceEqDiff, Nat.reduceAdd, Nat.reduceSub, Nat.reduceMul, Nat.reduceLT, Int.reduceToNat, Int.reduceBEq, Int.reduceBNe, Int.reduceLT, Int.reduceLE, E, E', TY]
    refine ⟨fnok10, CallAt.push (j := 0) (t := t) (st := []) (fr := []) below ⟨rfl, rfl, rfl, by decide⟩ (SrcV.ext (by simp) hb hA) (by simp; omega) (Res.run 900 ?_)⟩
    simp only [↓reduceIte, Nat.reduceEqDiff, Nat.reduceAdd, Nat.reduceSub, Nat.reduceMul, Nat.reduceLT, Int.reduceToNat, Int.reduceBEq, Int.reduceBNe, Int.reduceLT, Int.reduceLE, E, E', TY, List.nil_append]
    refine ⟨fnok10, CallAt.push (j := 0) (t := t) (st := below) (fr := []) l ⟨rfl, rfl, rfl, by decide⟩ (SrcV.ext (by simp) hl hB) (by omega) (Res.run 900 ?_)⟩
    simp only [↓reduceIte, Nat.reduceEqDiff, Nat.reduceAdd, Nat.reduceSub, Nat.reduceMul, Nat.reduceLT, Int.reduceToNat, Int.reduceBEq, Int.reduceBNe, Int.reduceLT, Int.reduceLE, E, E', TY]
    refine ⟨fnok11, CallAt.open (j := 0) (t := t) (st := below ++ l) (fr := []) bs l ⟨rfl, rfl, rfl, by decide⟩ (SrcV.ext (by simp) hs hC) (SrcV.ext (by simp) hl hB) (by simp; omega) (by simp) (by omega) (by omega) (Res.run 900 ?_)⟩
    by_cases hr : (takesF (below ++ l) [] bs).1 = 0
    case neg =>
      obtain ⟨er, hop⟩ : ∃ er, (openF (below ++ l) [] 3 bs l).1 = er := ⟨_, rfl⟩
      have her : (er != 0) = true := by rw [← hop]; simp [openF, hr]
      simp only [↓reduceIte, Nat.reduceEqDiff, Nat.reduceAdd, Nat.reduceSub, Nat.reduceMul, Nat.reduceLT, Int.reduceToNat, Int.reduceBEq, Int.reduceBNe, Int.reduceLT, Int.reduceLE, E, E', TY, hop, her, q2]
      exact Ret.one rfl (by kernel_rfl)
    obtain ⟨st1, ht1⟩ : ∃ st1, takesF (below ++ l) [] bs = (0, st1) := ⟨_, Prod.ext hr rfl⟩
    have hop : openF (below ++ l) [] 3 bs l = (0, st1 ++ bs, [⟨3, bs, l, st1.length, false, []⟩]) := by simp [openF, ht1]
    rw [hop]
    have hcl1 : ∀ v ∈ bs, closedF v = true := takesF_ok bs.length rfl (by rw [ht1])
    have hst1 : st1.length ≤ 40 := by have := takesR_len [] bs.reverse (below ++ l); unfold takesF at ht1; rw [ht1] at this; simp at this; omega
    obtain ⟨f, hf⟩ : ∃ f : Frm, f = ⟨3, bs, l, st1.length, false, []⟩ := ⟨_, rfl⟩
    rw [← hf]
    have hfo : f.op = 3 := by rw [hf]
    have hfp : f.ps = bs := by rw [hf]
    have hfr : f.rs = l := by rw [hf]
    have hfh : f.ht = st1.length := by rw [hf]
    simp only [↓reduceIte, Nat.reduceEqDiff, Nat.reduceAdd, Nat.reduceSub, Nat.reduceMul, Nat.reduceLT, Int.reduceToNat, Int.reduceBEq, Int.reduceBNe, Int.reduceLT, Int.reduceLE, E, E', TY]
    refine ⟨fnok14, CallAt.height (j := 0) (t := t) (st := st1 ++ bs) (fr := [f]) ⟨rfl, rfl, rfl, by decide⟩ (Res.run 900 ?_)⟩
    have eh : (((st1 ++ bs).length : Nat) : Int) - (bs.length : Int) = (st1.length : Int) := by simp
    simp only [↓reduceIte, Nat.reduceEqDiff, Nat.reduceAdd, Nat.reduceSub, Nat.reduceMul, Nat.reduceLT, Int.reduceToNat, Int.reduceBEq, Int.reduceBNe, Int.reduceLT, Int.reduceLE, E, E', TY, eh]
    refine ⟨i64ok_of (by omega) (by omega), ?_⟩
    have hself := valsF_self hcl1
    obtain ⟨s1, _⟩ := takesF_same bs.length (st := st1) (fr := [f]) (l := bs) (bs := bs) rfl rfl (by intro f0 h0; simp at h0; subst h0; rw [hfh]; exact Int.le_refl _)
    obtain ⟨s2, s3⟩ := takesF_same l.length (st := st1) (fr := [f]) (l := l) (bs := l) rfl rfl (by intro f0 h0; simp at h0; subst h0; rw [hfh]; exact Int.le_refl _)
    have s1 := s1 hself
    refine ⟨fnok17, CallAt.take (j := 0) (t := t) (st := st1 ++ bs) (fr := [f]) bs ⟨rfl, rfl, rfl, by decide⟩ (SrcV.ext (by simp) hs hC) (by simp; omega) (by simp) (by omega) (Res.run 900 ?_)⟩
    simp only [↓reduceIte, Nat.reduceEqDiff, Nat.reduceAdd, Nat.reduceSub, Nat.reduceMul, Nat.reduceLT, Int.reduceToNat, Int.reduceBEq, Int.reduceBNe, Int.reduceLT, Int.reduceLE, E, E', TY, s1]
    refine ⟨fnok10, CallAt.push (j := 0) (t := t) (st := st1) (fr := [f]) l ⟨rfl, rfl, rfl, by decide⟩ (SrcV.ext (by simp) hl hB) (by omega) (Res.run 900 ?_)⟩
    simp only [↓reduceIte, Nat.reduceEqDiff, Nat.reduceAdd, Nat.reduceSub, Nat.reduceMul, Nat.reduceLT, Int.reduceToNat, Int.reduceBEq, Int.reduceBNe, Int.reduceLT, Int.reduceLE, E, E', TY]
    refine ⟨fnok21, CallAt.vals (i := 1) (j := 0) (t := t) l l rfl rfl (SrcV.ext (by simp) hl hB) (SrcV.ext (by simp) hl hB) (by omega) (Res.run 900 ?_)⟩
    cases hvl : valsF l l with
    | true =>
      have s2 := s2 hvl
      simp only [↓reduceIte, Nat.reduceEqDiff, Nat.reduceAdd, Nat.reduceSub, Nat.reduceMul, Nat.reduceLT, Int.reduceToNat, Int.reduceBEq, Int.reduceBNe, Int.reduceLT, Int.reduceLE, E, E', TY, hvl]
      have c1 : clsErr (st1 ++ l) ([] ++ [f]) f = none := by
        unfold clsErr
        rw [hfr, List.nil_append, s2]
        simp [hfh]
      have c2 : takesF (st1 ++ l) ([] ++ [f]) f.rs = (0, st1) := by rw [hfr, List.nil_append, s2]
      refine ⟨fnok19, CallAt.close (j := 0) (t := t) (st := st1 ++ l) (fr := []) (f := f) ⟨rfl, rfl, rfl, by decide⟩ c1 (by simp; omega) (by simp) (by rw [hfp]; omega) (by rw [hfr]; omega) fun nl1 b1 k1' cur1 nl2 b2 k2' cur2 hF1 hF2 => ?_⟩
      rw [c2]
      rw [hfp] at hF1
      rw [hfr] at hF2
      refine Res.run 900 ?_
      simp only [↓reduceIte, Nat.reduceEqDiff, Nat.reduceAdd, Nat.reduceSub, Nat.reduceMul, Nat.reduceLT, Int.reduceToNat, Int.reduceBEq, Int.reduceBNe, Int.reduceLT, Int.reduceLE, E, E', TY, hfo, hfp, hfr, bne_self_eq_false, beq_self_eq_true, Bool.not_true, Bool.not_false]
      refine ⟨fnok15, CallAt.same (i := 1) bs bs (SrcV.row1 (j := 2) (by simp) rfl (by decide) hF1) (SrcV.ext (by simp) hs hC) (by omega) (Res.run 900 ?_)⟩
      simp only [↓reduceIte, Nat.reduceEqDiff, Nat.reduceAdd, Nat.reduceSub, Nat.reduceMul, Nat.reduceLT, Int.reduceToNat, Int.reduceBEq, Int.reduceBNe, Int.reduceLT, Int.reduceLE, E, E', TY, eqVls_self, bne_self_eq_false, beq_self_eq_true, Bool.not_true, Bool.not_false]
      refine ⟨fnok15, CallAt.same (i := 1) l l (SrcV.row2 (j := 2) (by simp) rfl (by decide) hF2) (SrcV.ext (by simp) hl hB) (by omega) (Res.run 900 ?_)⟩
      simp only [↓reduceIte, Nat.reduceEqDiff, Nat.reduceAdd, Nat.reduceSub, Nat.reduceMul, Nat.reduceLT, Int.reduceToNat, Int.reduceBEq, Int.reduceBNe, Int.reduceLT, Int.reduceLE, E, E', TY, eqVls_self, bne_self_eq_false, beq_self_eq_true, Bool.not_true, Bool.not_false]
      refine ⟨fnok14, CallAt.height (j := 0) (t := t) (st := st1) (fr := []) ⟨rfl, rfl, rfl, by decide⟩ (Res.run 900 ?_)⟩
      simp only [↓reduceIte, Nat.reduceEqDiff, Nat.reduceAdd, Nat.reduceSub, Nat.reduceMul, Nat.reduceLT, Int.reduceToNat, Int.reduceBEq, Int.reduceBNe, Int.reduceLT, Int.reduceLE, E, E', TY, bne_self_eq_false, beq_self_eq_true, Bool.not_true, Bool.not_false]
      refine ⟨fnok20, CallAt.frames (j := 0) (t := t) (st := st1) (fr := []) ⟨rfl, rfl, rfl, by decide⟩ (Res.run 900 ?_)⟩
      simp only [↓reduceIte, Nat.reduceEqDiff, Nat.reduceAdd, Nat.reduceSub, Nat.reduceMul, Nat.reduceLT, Int.reduceToNat, Int.reduceBEq, Int.reduceBNe, Int.reduceLT, Int.reduceLE, E, E', TY, List.length_nil, Int.natCast_zero, bne_self_eq_false, beq_self_eq_true, Bool.not_true, Bool.not_false]
      refine ⟨fnok8, CallAt.le (σ' := { T := mkT 219 [(0, .v (.slice A below.length c)), (3, .v (.slice F0 dd.length g)), (9, .p 0 0), (170, .p 0 0)], X := [t], L := [.asn TabA], D := [] }) (St.Le.of 1 (by simp only [↓reduceIte, Nat.reduceEqDiff, Nat.reduceAdd, Nat.reduceSub, Nat.reduceMul, Nat.reduceLT, Int.reduceToNat, Int.reduceBEq, Int.reduceBNe, Int.reduceLT, Int.reduceLE, E, E', TY])) rfl (by simp [SV.lt]) (CallAt.snew rfl (Res.run 900 ?_))⟩
      simp only [↓reduceIte, Nat.reduceEqDiff, Nat.reduceAdd, Nat.reduceSub, Nat.reduceMul, Nat.reduceLT, Int.reduceToNat, Int.reduceBEq, Int.reduceBNe, Int.reduceLT, Int.reduceLE, E, E', TY]
      refine ⟨fnok10, CallAt.push (j := 0) (t := t) (st := []) (fr := []) below ⟨rfl, rfl, rfl, by decide⟩ (SrcV.ext (by simp) hb hA) (by simp; omega) (Res.run 900 ?_)⟩
      simp only [↓reduceIte, Nat.reduceEqDiff, Nat.reduceAdd, Nat.reduceSub, Nat.reduceMul, Nat.reduceLT, Int.reduceToNat, Int.reduceBEq, Int.reduceBNe, Int.reduceLT, Int.reduceLE, E, E', TY, List.nil_append]
      refine ⟨fnok11, CallAt.open (j := 0) (t := t) (st := below) (fr := []) [] dd ⟨rfl, rfl, rfl, by decide⟩ SrcV.nil (SrcV.ext (by simp) hd hE) (by omega) (by simp) (by simp) (by omega) (Res.run 900 ?_)⟩
      simp only [↓reduceIte, Nat.reduceEqDiff, Nat.reduceAdd, Nat.reduceSub, Nat.reduceMul, Nat.reduceLT, Int.reduceToNat, Int.reduceBEq, Int.reduceBNe, Int.reduceLT, Int.reduceLE, E, E', TY, openF_nil, List.nil_append]
      refine ⟨fnok12, CallAt.die (j := 0) (t := t) (st := below) (fr := []) (f := ⟨2, [], dd, below.length, false, []⟩) ⟨rfl, rfl, rfl, by decide⟩ (by simp) (by simp) (Res.run 900 ?_)⟩
      rw [k1, List.nil_append, ← hf']
      simp only [↓reduceIte, Nat.reduceEqDiff, Nat.reduceAdd, Nat.reduceSub, Nat.reduceMul, Nat.reduceLT, Int.reduceToNat, Int.reduceBEq, Int.reduceBNe, Int.reduceLT, Int.reduceLE, E, E', TY]
      refine Res.loop (X := {i : Nat // i ≤ 3 ∧ (0 < i → (takesF below [f'] dd).1 = 0)})
        (fun x => { T := mkT 219 [(0, .v (.slice A below.length c)), (3, .v (.slice F0 dd.length g)), (9, .p 0 0), (10, .p 1 0), (20, .v (.int .i64 (x.1 : Int)))], X := [t], L := [.asn TabA, .asn (MachA t below [f'])], D := [] })
        (fun x => 3 - x.1) ⟨0, by omega, by omega⟩ (St.Le.of 2 (by simp only [↓reduceIte, Nat.reduceEqDiff, Nat.reduceAdd, Nat.reduceSub, Nat.reduceMul, Nat.reduceLT, Int.reduceToNat, Int.reduceBEq, Int.reduceBNe, Int.reduceLT, Int.reduceLE, E, E', TY]; simp)) ?_
      rintro ⟨i, hi, hi0⟩
      simp only at hi hi0 ⊢
      refine Res.run 900 ?_
      by_cases hlt : i < 3
      case neg =>
        have e9 : decide ((i : Int) < 3) = false := by simp; omega
        have t0 : (takesF below [f'] dd).1 = 0 := hi0 (by omega)
        have t1 : takesF below [f'] dd = (0, below) := Prod.ext t0 k2
        simp only [↓reduceIte, Nat.reduceEqDiff, Nat.reduceAdd, Nat.reduceSub, Nat.reduceMul, Nat.reduceLT, Int.reduceToNat, Int.reduceBEq, Int.reduceBNe, Int.reduceLT, Int.reduceLE, E, E', TY, e9]
        have c1 : clsErr below ([] ++ [f']) f' = none := by
          unfold clsErr
          rw [k3, List.nil_append, t1]
          simp [k4]
        have c2 : takesF below ([] ++ [f']) f'.rs = (0, below) := by rw [k3, List.nil_append, t1]
        refine ⟨fnok19, CallAt.close (j := 0) (t := t) (st := below) (fr := []) (f := f') ⟨rfl, rfl, rfl, by decide⟩ c1 (by omega) (by simp) (by rw [k5]; simp) (by rw [k3]; omega) fun nl5 b5 k5 cur5 nl6 b6 k6 cur6 hF5 hF6 => ?_⟩
        rw [c2]
        refine Res.run 900 ?_
        simp only [↓reduceIte, Nat.reduceEqDiff, Nat.reduceAdd, Nat.reduceSub, Nat.reduceMul, Nat.reduceLT, Int.reduceToNat, Int.reduceBEq, Int.reduceBNe, Int.reduceLT, Int.reduceLE, E, E', TY, beq_self_eq_true]
        refine ⟨fnok14, CallAt.height (j := 0) (t := t) (st := below) (fr := []) ⟨rfl, rfl, rfl, by decide⟩ (Res.run 900 ?_)⟩
        simp only [↓reduceIte, Nat.reduceEqDiff, Nat.reduceAdd, Nat.reduceSub, Nat.reduceMul, Nat.reduceLT, Int.reduceToNat, Int.reduceBEq, Int.reduceBNe, Int.reduceLT, Int.reduceLE, E, E', TY]
        refine ⟨fnok16, CallAt.top (j := 0) (t := t) (st := below) (fr := []) (n := below.length) ⟨rfl, rfl, rfl, by decide⟩ (by omega) fun nl7 b7 k7 cur7 hF7 => ?_⟩
        rw [hup] at hF7 ⊢
        refine Res.run 900 ?_
        simp only [↓reduceIte, Nat.reduceEqDiff, Nat.reduceAdd, Nat.reduceSub, Nat.reduceMul, Nat.reduceLT, Int.reduceToNat, Int.reduceBEq, Int.reduceBNe, Int.reduceLT, Int.reduceLE, E, E', TY]
        refine ⟨fnok15, CallAt.same (i := 1) below below (SrcV.row (j := 3) (by simp) rfl (by decide) hF7) (SrcV.ext (by simp) hb hA) (by omega) (Res.run 900 ?_)⟩
        simp only [↓reduceIte, Nat.reduceEqDiff, Nat.reduceAdd, Nat.reduceSub, Nat.reduceMul, Nat.reduceLT, Int.reduceToNat, Int.reduceBEq, Int.reduceBNe, Int.reduceLT, Int.reduceLE, E, E', TY, eqVls_self]
        exact Ret.one rfl (by kernel_rfl)
      have e9 : decide ((i : Int) < 3) = true := by simp; omega
      simp only [↓reduceIte, Nat.reduceEqDiff, Nat.reduceAdd, Nat.reduceSub, Nat.reduceMul, Nat.reduceLT, Int.reduceToNat, Int.reduceBEq, Int.reduceBNe, Int.reduceLT, Int.reduceLE, E, E', TY, e9]
      refine ⟨fnok17, CallAt.take (j := 0) (t := t) (st := below) (fr := [f']) dd ⟨rfl, rfl, rfl, by decide⟩ (SrcV.ext (by simp) hd hE) (by omega) (by simp) (by omega) (Res.run 900 ?_)⟩
      rw [k2]
      rcases k6 with t0 | ⟨t0, v, hv, hcl⟩
      · simp only [↓reduceIte, Nat.reduceEqDiff, Nat.reduceAdd, Nat.reduceSub, Nat.reduceMul, Nat.reduceLT, Int.reduceToNat, Int.reduceBEq, Int.reduceBNe, Int.reduceLT, Int.reduceLE, E, E', TY, t0, bne_self_eq_false]
        refine ⟨i64ok_of (by omega) (by omega), ?_⟩
        exact Res.again (⟨i + 1, by omega, fun _ => t0⟩ : {i : Nat // i ≤ 3 ∧ (0 < i → (takesF below [f'] dd).1 = 0)}) (by simp only; omega) (St.Le.of 2 (by simp only [↓reduceIte, Nat.reduceEqDiff, Nat.reduceAdd, Nat.reduceSub, Nat.reduceMul, Nat.reduceLT, Int.reduceToNat, Int.reduceBEq, Int.reduceBNe, Int.reduceLT, Int.reduceLE, E, E', TY, Int.natCast_add, Int.cast_ofNat_Int]))
      · simp only [↓reduceIte, Nat.reduceEqDiff, Nat.reduceAdd, Nat.reduceSub, Nat.reduceMul, Nat.reduceLT, Int.reduceToNat, Int.reduceBEq, Int.reduceBNe, Int.reduceLT, Int.reduceLE, E, E', TY, t0, beq_self_eq_true]
        refine ⟨fnok21, CallAt.vals (i := 1) (j := 0) (t := t) dd dd rfl rfl (SrcV.ext (by simp) hd hE) (SrcV.ext (by simp) hd hE) (by omega) (Res.run 900 ?_)⟩
        have hns := valsF_notself hv hcl
        simp only [↓reduceIte, Nat.reduceEqDiff, Nat.reduceAdd, Nat.reduceSub, Nat.reduceMul, Nat.reduceLT, Int.reduceToNat, Int.reduceBEq, Int.reduceBNe, Int.reduceLT, Int.reduceLE, E, E', TY, hns, Bool.not_false]
        exact Ret.one rfl (by kernel_rfl)
    | false =>
      have s3 := s3 hvl
      simp only [↓reduceIte, Nat.reduceEqDiff, Nat.reduceAdd, Nat.reduceSub, Nat.reduceMul, Nat.reduceLT, Int.reduceToNat, Int.reduceBEq, Int.reduceBNe, Int.reduceLT, Int.reduceLE, E, E', TY, hvl]
      have c1 : clsErr (st1 ++ l) ([] ++ [f]) f = some 141 := by
        unfold clsErr
        rw [hfr, List.nil_append]
        simp [s3]
      refine ⟨fnok19, CallAt.closeE (j := 0) (t := t) (st := st1 ++ l) (fr := []) (f := f) ⟨rfl, rfl, rfl, by decide⟩ c1 (by simp; omega) (by simp) (by rw [hfp]; omega) (by rw [hfr]; omega) (Res.run 900 ?_)⟩
      simp only [↓reduceIte, Nat.reduceEqDiff, Nat.reduceAdd, Nat.reduceSub, Nat.reduceMul, Nat.reduceLT, Int.reduceToNat, Int.reduceBEq, Int.reduceBNe, Int.reduceLT, Int.reduceLE, E, E', TY, bne_self_eq_false, beq_self_eq_true, Bool.not_true, Bool.not_false]
      refine ⟨fnok8, CallAt.le (σ' := { T := mkT 219 [(0, .v (.slice A below.length c)), (3, .v (.slice F0 dd.length g)), (9, .p 0 0), (170, .p 0 0)], X := [t], L := [.asn TabA], D := [] }) (St.Le.of 1 (by simp only [↓reduceIte, Nat.reduceEqDiff, Nat.reduceAdd, Nat.reduceSub, Nat.reduceMul, Nat.reduceLT, Int.reduceToNat, Int.reduceBEq, Int.reduceBNe, Int.reduceLT, Int.reduceLE, E, E', TY])) rfl (by simp [SV.lt]) (CallAt.snew rfl (Res.run 900 ?_))⟩
      simp only [↓reduceIte, Nat.reduceEqDiff, Nat.reduceAdd, Nat.reduceSub, Nat.reduceMul, Nat.reduceLT, Int.reduceToNat, Int.reduceBEq, Int.reduceBNe, Int.reduceLT, Int.reduceLE, E, E', TY]
      refine ⟨fnok10, CallAt.push (j := 0) (t := t) (st := []) (fr := []) below ⟨rfl, rfl, rfl, by decide⟩ (SrcV.ext (by simp) hb hA) (by simp; omega) (Res.run 900 ?_)⟩
      simp only [↓reduceIte, Nat.reduceEqDiff, Nat.reduceAdd, Nat.reduceSub, Nat.reduceMul, Nat.reduceLT, Int.reduceToNat, Int.reduceBEq, Int.reduceBNe, Int.reduceLT, Int.reduceLE, E, E', TY, List.nil_append]
      refine ⟨fnok11, CallAt.open (j := 0) (t := t) (st := below) (fr := []) [] dd ⟨rfl, rfl, rfl, by decide⟩ SrcV.nil (SrcV.ext (by simp) hd hE) (by omega) (by simp) (by simp) (by omega) (Res.run 900 ?_)⟩
      simp only [↓reduceIte, Nat.reduceEqDiff, Nat.reduceAdd, Nat.reduceSub, Nat.reduceMul, Nat.reduceLT, Int.reduceToNat, Int.reduceBEq, Int.reduceBNe, Int.reduceLT, Int.reduceLE, E, E', TY, openF_nil, List.nil_append]
      refine ⟨fnok12, CallAt.die (j := 0) (t := t) (st := below) (fr := []) (f := ⟨2, [], dd, below.length, false, []⟩) ⟨rfl, rfl, rfl, by decide⟩ (by simp) (by simp) (Res.run 900 ?_)⟩
      rw [k1, List.nil_append, ← hf']
      simp only [↓reduceIte, Nat.reduceEqDiff, Nat.reduceAdd, Nat.reduceSub, Nat.reduceMul, Nat.reduceLT, Int.reduceToNat, Int.reduceBEq, Int.reduceBNe, Int.reduceLT, Int.reduceLE, E, E', TY]
      refine Res.loop (X := {i : Nat // i ≤ 3 ∧ (0 < i → (takesF below [f'] dd).1 = 0)})
        (fun x => { T := mkT 219 [(0, .v (.slice A below.length c)), (3, .v (.slice F0 dd.length g)), (9, .p 0 0), (10, .p 1 0), (20, .v (.int .i64 (x.1 : Int)))], X := [t], L := [.asn TabA, .asn (MachA t below [f'])], D := [] })
        (fun x => 3 - x.1) ⟨0, by omega, by omega⟩ (St.Le.of 2 (by simp only [↓reduceIte, Nat.reduceEqDiff, Nat.reduceAdd, Nat.reduceSub, Nat.reduceMul, Nat.reduceLT, Int.reduceToNat, Int.reduceBEq, Int.reduceBNe, Int.reduceLT, Int.reduceLE, E, E', TY]; simp)) ?_
      rintro ⟨i, hi, hi0⟩
      simp only at hi hi0 ⊢
      refine Res.run 900 ?_
      by_cases hlt : i < 3
      case neg =>
        have e9 : decide ((i : Int) < 3) = false := by simp; omega
        have t0 : (takesF below [f'] dd).1 = 0 := hi0 (by omega)
        have t1 : takesF below [f'] dd = (0, below) := Prod.ext t0 k2
        simp only [↓reduceIte, Nat.reduceEqDiff, Nat.reduceAdd, Nat.reduceSub, Nat.reduceMul, Nat.reduceLT, Int.reduceToNat, Int.reduceBEq, Int.reduceBNe, Int.reduceLT, Int.reduceLE, E, E', TY, e9]
        have c1 : clsErr below ([] ++ [f']) f' = none := by
          unfold clsErr
          rw [k3, List.nil_append, t1]
          simp [k4]
        have c2 : takesF below ([] ++ [f']) f'.rs = (0, below) := by rw [k3, List.nil_append, t1]
        refine ⟨fnok19, CallAt.close (j := 0) (t := t) (st := below) (fr := []) (f := f') ⟨rfl, rfl, rfl, by decide⟩ c1 (by omega) (by simp) (by rw [k5]; simp) (by rw [k3]; omega) fun nl5 b5 k5 cur5 nl6 b6 k6 cur6 hF5 hF6 => ?_⟩
        rw [c2]
        refine Res.run 900 ?_
        simp only [↓reduceIte, Nat.reduceEqDiff, Nat.reduceAdd, Nat.reduceSub, Nat.reduceMul, Nat.reduceLT, Int.reduceToNat, Int.reduceBEq, Int.reduceBNe, Int.reduceLT, Int.reduceLE, E, E', TY, beq_self_eq_true]
        refine ⟨fnok14, CallAt.height (j := 0) (t := t) (st := below) (fr := []) ⟨rfl, rfl, rfl, by decide⟩ (Res.run 900 ?_)⟩
        simp only [↓reduceIte, Nat.reduceEqDiff, Nat.reduceAdd, Nat.reduceSub, Nat.reduceMul, Nat.reduceLT, Int.reduceToNat, Int.reduceBEq, Int.reduceBNe, Int.reduceLT, Int.reduceLE, E, E', TY]
        refine ⟨fnok16, CallAt.top (j := 0) (t := t) (st := below) (fr := []) (n := below.length) ⟨rfl, rfl, rfl, by decide⟩ (by omega) fun nl7 b7 k7 cur7 hF7 => ?_⟩
        rw [hup] at hF7 ⊢
        refine Res.run 900 ?_
        simp only [↓reduceIte, Nat.reduceEqDiff, Nat.reduceAdd, Nat.reduceSub, Nat.reduceMul, Nat.reduceLT, Int.reduceToNat, Int.reduceBEq, Int.reduceBNe, Int.reduceLT, Int.reduceLE, E, E', TY]
        refine ⟨fnok15, CallAt.same (i := 1) below below (SrcV.row (j := 3) (by simp) rfl (by decide) hF7) (SrcV.ext (by simp) hb hA) (by omega) (Res.run 900 ?_)⟩
        simp only [↓reduceIte, Nat.reduceEqDiff, Nat.reduceAdd, Nat.reduceSub, Nat.reduceMul, Nat.reduceLT, Int.reduceToNat, Int.reduceBEq, Int.reduceBNe, Int.reduceLT, Int.reduceLE, E, E', TY, eqVls_self]
        exact Ret.one rfl (by kernel_rfl)
      have e9 : decide ((i : Int) < 3) = true := by simp; omega
      simp only [↓reduceIte, Nat.reduceEqDiff, Nat.reduceAdd, Nat.reduceSub, Nat.reduceMul, Nat.reduceLT, Int.reduceToNat, Int.reduceBEq, Int.reduceBNe, Int.reduceLT, Int.reduceLE, E, E', TY, e9]
      refine ⟨fnok17, CallAt.take (j := 0) (t := t) (st := below) (fr := [f']) dd ⟨rfl, rfl, rfl, by decide⟩ (SrcV.ext (by simp) hd hE) (by omega) (by simp) (by omega) (Res.run 900 ?_)⟩
      rw [k2]
      rcases k6 with t0 | ⟨t0, v, hv, hcl⟩
      · simp only [↓reduceIte, Nat.reduceEqDiff, Nat.reduceAdd, Nat.reduceSub, Nat.reduceMul, Nat.reduceLT, Int.reduceToNat, Int.reduceBEq, Int.reduceBNe, Int.reduceLT, Int.reduceLE, E, E', TY, t0, bne_self_eq_false]
        refine ⟨i64ok_of (by omega) (by omega), ?_⟩
        exact Res.again (⟨i + 1, by omega, fun _ => t0⟩ : {i : Nat // i ≤ 3 ∧ (0 < i → (takesF below [f'] dd).1 = 0)}) (by simp only; omega) (St.Le.of 2 (by simp only [↓reduceIte, Nat.reduceEqDiff, Nat.reduceAdd, Nat.reduceSub, Nat.reduceMul, Nat.reduceLT, Int.reduceToNat, Int.reduceBEq, Int.reduceBNe, Int.reduceLT, Int.reduceLE, E, E', TY, Int.natCast_add, Int.cast_ofNat_Int]))
      · simp only [↓reduceIte, Nat.reduceEqDiff, Nat.reduceAdd, Nat.reduceSub, Nat.reduceMul, Nat.reduceLT, Int.reduceToNat, Int.reduceBEq, Int.reduceBNe, Int.reduceLT, Int.reduceLE, E, E', TY, t0, beq_self_eq_true]
        refine ⟨fnok21, CallAt.vals (i := 1) (j := 0) (t := t) dd dd rfl rfl (SrcV.ext (by simp) hd hE) (SrcV.ext (by simp) hd hE) (by omega) (Res.run 900 ?_)⟩
        have hns := valsF_notself hv hcl
        simp only [↓reduceIte, Nat.reduceEqDiff, Nat.reduceAdd, Nat.reduceSub, Nat.reduceMul, Nat.reduceLT, Int.reduceToNat, Int.reduceBEq, Int.reduceBNe, Int.reduceLT, Int.reduceLE, E, E', TY, hns, Bool.not_false]
        exact Ret.one rfl (by kernel_rfl)
end Go.Proofs.Yteendcbmoagdfaa
