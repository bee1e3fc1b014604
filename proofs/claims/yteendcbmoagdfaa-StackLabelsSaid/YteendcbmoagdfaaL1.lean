/-
  StackLabels, walked.
-/
import Derived.Test.YteendcbmoagdfaaG2
set_option linter.unusedVariables false
set_option linter.unusedSimpArgs false
set_option maxRecDepth 20000
set_option maxHeartbeats 8000000
namespace Go.Proofs.Yteendcbmoagdfaa
open Go Go.Eng

section
variable {Q : Pst} {G : Nat → Prop} {W : World}
theorem CallAt.give {σ : St} {dst : Option Tmp} {k : List It} {i j t : Nat} {st : List Vl} {fr : List Frm} {f : Frm} {v : Int} (h : MT σ i j t st (fr ++ [f])) (hv : 0 ≤ v) (hfz : fr.length + 1 ≤ 1000000) (hgz : f.gv.length ≤ 1000000)
    (hk : Res Try.prog Q G W ((σ.ent i (.asn (MachA t st (fr ++ [{ f with gv := f.gv ++ [v] }])))).put dst (.v (.int .i64 0))) k) : CallAt Try.prog Q G W σ 22 [.p i 0, .v (.int .i64 v)] dst k := by
  refine CallAt.asnO i (MachA t st (fr ++ [f])) h.m (fun u A' => u = .int .i64 0 ∧ A' = MachA t st (fr ++ [{ f with gv := f.gv ++ [v] }])) ?_ (by rintro _ _ ⟨rfl, rfl⟩; exact hk)
  intro new w own ho
  refine (m_give (h.mc ho) v hv hfz hgz).mono ?_
  rintro e w' ⟨rfl, O', hR, hC⟩
  exact ⟨_, _, O', rfl, ⟨rfl, rfl⟩, hR, hC⟩
theorem CallAt.given {σ : St} {dst : Option Tmp} {k : List It} {i j t : Nat} {st : List Vl} {fr : List Frm} {v : Int} {r : Bool} (h : MT σ i j t st fr) (hr : (fr.any fun f => f.gv.contains v) = r) (hfz : fr.length ≤ 1000000) (hgz : ∀ f ∈ fr, f.gv.length ≤ 1000000)
    (hk : Res Try.prog Q G W (σ.put dst (.v (.bool r))) k) : CallAt Try.prog Q G W σ 24 [.p i 0, .v (.int .i64 v)] dst k := by
  subst hr
  refine CallAt.detS (.v (.bool (fr.any fun f => f.gv.contains v))) trivial (fun new w hs => ?_) hk
  obtain ⟨own, ho⟩ := hs
  exact m_given (h.mc ho) v hfz hgz
end

/-- A list that came in within a list: where it lies. -/
structure RV where
  a : Option Addr
  c : Nat
  l : List Vl
def rv0 : RV := ⟨none, 0, []⟩
def rcells (rows : List RV) : List Value := rows.map fun r => .slice r.a r.l.length r.c
theorem rcells_length (rows : List RV) : (rcells rows).length = rows.length := by simp [rcells]
theorem rcells_get {rows : List RV} {k : Nat} (h : k < rows.length) : (rcells rows)[k]? = some (.slice rows[k].a rows[k].l.length rows[k].c) := by simp [rcells, h]

/-- The k-th frame of the statement, and the first n. -/
def lbF (ops : List Int) (rows : List RV) (k : Nat) : Frm := ⟨ops.getD k 0, [], (rows.getD k rv0).l, 0, true, [(k : Int)]⟩
def frs (ops : List Int) (rows : List RV) (n : Nat) : List Frm := (List.range n).map (lbF ops rows)
theorem frs_len (ops : List Int) (rows : List RV) (n : Nat) : (frs ops rows n).length = n := by simp [frs]
theorem frs_succ (ops : List Int) (rows : List RV) (n : Nat) : frs ops rows (n + 1) = frs ops rows n ++ [lbF ops rows n] := by simp [frs, List.range_succ]
theorem frs_get (ops : List Int) (rows : List RV) {n k : Nat} (h : k < n) : (frs ops rows n)[k]? = some (lbF ops rows k) := by simp [frs, h]
theorem frs_gz (ops : List Int) (rows : List RV) (n : Nat) : ∀ f ∈ frs ops rows n, f.gv.length ≤ 1000000 := by
  intro f hf
  obtain ⟨k, _, rfl⟩ := List.mem_map.1 hf
  simp [lbF]
theorem frs_given (ops : List Int) (rows : List RV) {n k : Nat} (h : k < n) : ((frs ops rows n).any fun f => f.gv.contains (k : Int)) = true := by
  rw [List.any_eq_true]
  exact ⟨lbF ops rows k, List.mem_map.2 ⟨k, List.mem_range.2 h, rfl⟩, by simp [lbF]⟩
theorem frs_notgiven (ops : List Int) (rows : List RV) {n : Nat} {v : Int} (h : (n : Int) ≤ v) : ((frs ops rows n).any fun f => f.gv.contains v) = false := by
  rw [List.any_eq_false]
  intro f hf
  obtain ⟨k, hk, rfl⟩ := List.mem_map.1 hf
  have := List.mem_range.1 hk
  simp [lbF]
  omega

theorem m_labels {w : World} (A : Option Addr) (c : Nat) (ops : List Int) (hA : Cs (· < w.heap.size) w A (icells ops)) (B : Option Addr) (d : Nat) (rows : List RV) (hB : Cs (· < w.heap.size) w B (rcells rows))
    (hR : ∀ r ∈ rows, Cs (· < w.heap.size) w r.a (flat r.l) ∧ (r.a = none → r.l = [])) :
    Calls Try.prog 5 #[.slice A ops.length c, .slice B rows.length d] w fun e w' => e = .returned (.bool true) ∧ Ext w w' := by
  refine start0 (args := [.v (.slice A ops.length c), .v (.slice B rows.length d)]) (G := (· < w.heap.size)) Try.func5 rfl Try.ntmps5 (by simp [SV.lt]) (fun _ h => h) ?_
  refine Res.run 1000 ?_
  simp only [↓reduceIte, Nat.reduceEqDiff, Nat.reduceAdd, Nat.reduceSub, Nat.reduceMul, Nat.reduceLT, Int.reduceToNat, Int.reduceBEq, Int.reduceBNe, Int.reduceLT, Int.reduceLE, E, E', TY]
  refine ⟨fnok7, CallAt.known (Res.run 900 ?_)⟩
  by_cases h1 : (ops.length : Int) > 20
  · have e1 : decide ((ops.length : Int) > 20) = true := by simp only [h1, decide_true]
    simp only [↓reduceIte, Nat.reduceEqDiff, Nat.reduceAdd, Nat.reduceSub, Nat.reduceMul, Nat.reduceLT, Int.reduceToNat, Int.reduceBEq, Int.reduceBNe, Int.reduceLT, Int.reduceLE, E, E', TY, e1]
    exact Ret.one rfl (by kernel_rfl)
  have e1 : decide ((ops.length : Int) > 20) = false := by simp only [h1, decide_false]
  simp only [↓reduceIte, Nat.reduceEqDiff, Nat.reduceAdd, Nat.reduceSub, Nat.reduceMul, Nat.reduceLT, Int.reduceToNat, Int.reduceBEq, Int.reduceBNe, Int.reduceLT, Int.reduceLE, E, E', TY, e1]
  refine ⟨fnok9, CallAt.rnew ?_⟩
  refine Res.fixX fun nx hnx => ?_
  obtain ⟨t, rfl⟩ := len1 (l := nx) (by have := hnx; simp only [St.new, St.put, List.length_append, List.length_cons, List.length_nil] at this; omega)
  clear hnx
  refine Res.run 900 ?_
  simp only [↓reduceIte, Nat.reduceEqDiff, Nat.reduceAdd, Nat.reduceSub, Nat.reduceMul, Nat.reduceLT, Int.reduceToNat, Int.reduceBEq, Int.reduceBNe, Int.reduceLT, Int.reduceLE, E, E', TY, List.nil_append]
  refine ⟨fnok8, CallAt.snew rfl (Res.run 900 ?_)⟩
  simp only [↓reduceIte, Nat.reduceEqDiff, Nat.reduceAdd, Nat.reduceSub, Nat.reduceMul, Nat.reduceLT, Int.reduceToNat, Int.reduceBEq, Int.reduceBNe, Int.reduceLT, Int.reduceLE, E, E', TY]
  refine Res.loop (X := {i : Nat // i ≤ ops.length ∧ ∀ k, k < i → (rows.getD k rv0).l.length ≤ 10})
    (fun x => { T := mkT 126 [(0, .v (.slice A ops.length c)), (1, .v (.slice B rows.length d)), (5, .p 1 0), (6, .v (.int .i64 (x.1 : Int)))], X := [t], L := [.asn TabA, .asn (MachA t [] (frs ops rows x.1))], D := [] })
    (fun x => ops.length - x.1) ⟨0, by omega, fun k hk => absurd hk (by omega)⟩ (St.Le.of 2 (by simp only [↓reduceIte, Nat.reduceEqDiff, Nat.reduceAdd, Nat.reduceSub, Nat.reduceMul, Nat.reduceLT, Int.reduceToNat, Int.reduceBEq, Int.reduceBNe, Int.reduceLT, Int.reduceLE, E, E', TY]; simp [frs])) ?_
  rintro ⟨i, hi, hin⟩
  simp only at hi hin ⊢
  refine Res.run 900 ?_
  by_cases hlt : i < ops.length
  case neg =>
    have e2 : decide ((i : Int) < (ops.length : Int)) = false := by simp; omega
    simp only [↓reduceIte, Nat.reduceEqDiff, Nat.reduceAdd, Nat.reduceSub, Nat.reduceMul, Nat.reduceLT, Int.reduceToNat, Int.reduceBEq, Int.reduceBNe, Int.reduceLT, Int.reduceLE, E, E', TY, e2]
    exact Ret.one rfl (by kernel_rfl)
  have e2 : decide ((i : Int) < (ops.length : Int)) = true := by simp; omega
  obtain ⟨a0, a1⟩ := hA.at (i := i) (n := 1) (by omega) (by rw [icells_length]; omega)
  have a1 := a1 0 _ (icells_get hlt)
  have hAs : A.isSome = true := okRd_some a0
  obtain ⟨r, hr⟩ : ∃ r, rows.getD i rv0 = r := ⟨_, rfl⟩
  have hrc : Cs (· < w.heap.size) w r.a (flat r.l) ∧ (r.a = none → r.l = []) := by
    rw [← hr]
    by_cases h : i < rows.length
    · rw [List.getD_eq_getElem?_getD, List.getElem?_eq_getElem h]; exact hR _ (List.getElem_mem h)
    · rw [List.getD_eq_getElem?_getD, List.getElem?_eq_none (by omega)]; exact ⟨.inl rfl, fun _ => rfl⟩
  have hlb : lbF ops rows i = ⟨ops[i], [], r.l, 0, true, [(i : Int)]⟩ := by
    unfold lbF; rw [hr, List.getD_eq_getElem?_getD, List.getElem?_eq_getElem hlt]; rfl
  by_cases hir : i < rows.length
  · have e3 : decide ((i : Int) < (rows.length : Int)) = true := by simp; omega
    obtain ⟨r0, r1⟩ := hB.at (i := i) (n := 1) (by omega) (by rw [rcells_length]; omega)
    have r1 := r1 0 _ (rcells_get hir)
    have hrr : rows[i] = r := by rw [← hr, List.getD_eq_getElem?_getD, List.getElem?_eq_getElem hir]; rfl
    rw [hrr] at r1
    have hBs : B.isSome = true := okRd_some r0
    by_cases hbig : (r.l.length : Int) > 10
    · have e4 : decide ((r.l.length : Int) > 10) = true := by simp only [hbig, decide_true]
      simp only [↓reduceIte, Nat.reduceEqDiff, Nat.reduceAdd, Nat.reduceSub, Nat.reduceMul, Nat.reduceLT, Int.reduceToNat, Int.reduceBEq, Int.reduceBNe, Int.reduceLT, Int.reduceLE, E, E', TY, e2, e3, r1, e4, Int.toNat_natCast, Nat.mul_one]
      exact ⟨⟨by omega, by omega, hBs⟩, r0, Ret.one rfl (by kernel_rfl)⟩
    have e4 : decide ((r.l.length : Int) > 10) = false := by simp only [hbig, decide_false]
    have hin' : ∀ k, k < i + 1 → (rows.getD k rv0).l.length ≤ 10 := by
      intro k hk
      by_cases hki : k = i
      · subst hki; rw [hr]; omega
      · exact hin k (by omega)
    simp only [↓reduceIte, Nat.reduceEqDiff, Nat.reduceAdd, Nat.reduceSub, Nat.reduceMul, Nat.reduceLT, Int.reduceToNat, Int.reduceBEq, Int.reduceBNe, Int.reduceLT, Int.reduceLE, E, E', TY, e2, e3, r1, e4, a1, Int.toNat_natCast, Nat.mul_one]
    refine ⟨⟨by omega, by omega, hBs⟩, r0, ⟨by omega, by omega, hAs⟩, a0, ?_⟩
    refine ⟨fnok11, CallAt.open (j := 0) (t := t) (st := []) (fr := frs ops rows i) [] r.l ⟨rfl, rfl, rfl, by decide⟩ SrcV.nil (SrcV.ext (by simp) hrc.1 hrc.2) (by simp) (by rw [frs_len]; omega) (by simp) (by first | omega | simp) (Res.run 900 ?_)⟩
    simp only [↓reduceIte, Nat.reduceEqDiff, Nat.reduceAdd, Nat.reduceSub, Nat.reduceMul, Nat.reduceLT, Int.reduceToNat, Int.reduceBEq, Int.reduceBNe, Int.reduceLT, Int.reduceLE, E, E', TY, openF_nil]
    refine ⟨fnok22, CallAt.give (j := 0) (t := t) (st := []) (fr := frs ops rows i) (f := ⟨ops[i], [], r.l, ([] : List Vl).length, false, []⟩) ⟨rfl, rfl, rfl, by decide⟩ (by omega) (by rw [frs_len]; omega) (by simp) (Res.run 900 ?_)⟩
    simp only [↓reduceIte, Nat.reduceEqDiff, Nat.reduceAdd, Nat.reduceSub, Nat.reduceMul, Nat.reduceLT, Int.reduceToNat, Int.reduceBEq, Int.reduceBNe, Int.reduceLT, Int.reduceLE, E, E', TY]
    refine ⟨fnok12, CallAt.die (j := 0) (t := t) (st := []) (fr := frs ops rows i) (f := ⟨ops[i], [], r.l, ([] : List Vl).length, false, [] ++ [(i : Int)]⟩) ⟨rfl, rfl, rfl, by decide⟩ (by simp) (by rw [frs_len]; omega) (Res.run 900 ?_)⟩
    have hfs : frs ops rows i ++ [{ (⟨ops[i], [], r.l, ([] : List Vl).length, false, [] ++ [(i : Int)]⟩ : Frm) with dead := true }] = frs ops rows (i + 1) := by rw [frs_succ, hlb]; rfl
    rw [hfs, List.take_nil]
    simp only [↓reduceIte, Nat.reduceEqDiff, Nat.reduceAdd, Nat.reduceSub, Nat.reduceMul, Nat.reduceLT, Int.reduceToNat, Int.reduceBEq, Int.reduceBNe, Int.reduceLT, Int.reduceLE, E, E', TY]
    refine Res.loop (X := {k : Nat // k ≤ i + 1})
      (fun x => { T := mkT 126 [(0, .v (.slice A ops.length c)), (1, .v (.slice B rows.length d)), (5, .p 1 0), (6, .v (.int .i64 (i : Int))), (8, .v (.int .i64 (x.1 : Int)))], X := [t], L := [.asn TabA, .asn (MachA t [] (frs ops rows (i + 1)))], D := [] })
      (fun x => i + 1 - x.1) ⟨0, by omega⟩ (St.Le.of 2 (by simp only [↓reduceIte, Nat.reduceEqDiff, Nat.reduceAdd, Nat.reduceSub, Nat.reduceMul, Nat.reduceLT, Int.reduceToNat, Int.reduceBEq, Int.reduceBNe, Int.reduceLT, Int.reduceLE, E, E', TY]; simp)) ?_
    rintro ⟨k, hk⟩
    simp only at hk ⊢
    refine Res.run 900 ?_
    by_cases hki : k ≤ i
    case neg =>
      have e5 : decide ((k : Int) ≤ (i : Int)) = false := by simp; omega
      simp only [↓reduceIte, Nat.reduceEqDiff, Nat.reduceAdd, Nat.reduceSub, Nat.reduceMul, Nat.reduceLT, Int.reduceToNat, Int.reduceBEq, Int.reduceBNe, Int.reduceLT, Int.reduceLE, E, E', TY, e5]
      refine ⟨i64ok_of (by omega) (by omega), fnok23, CallAt.label0 (j := 0) (t := t) (st := []) (fr := frs ops rows (i + 1)) ⟨rfl, rfl, rfl, by decide⟩ (by right; rw [frs_len]; omega) (Res.run 900 ?_)⟩
      simp only [↓reduceIte, Nat.reduceEqDiff, Nat.reduceAdd, Nat.reduceSub, Nat.reduceMul, Nat.reduceLT, Int.reduceToNat, Int.reduceBEq, Int.reduceBNe, Int.reduceLT, Int.reduceLE, E, E', TY, bne_self_eq_false, beq_self_eq_true, Bool.not_true, Bool.not_false]
      refine ⟨i64ok_of (by omega) (by omega), fnok24, CallAt.given (r := false) (j := 0) (t := t) (st := []) (fr := frs ops rows (i + 1)) ⟨rfl, rfl, rfl, by decide⟩ (frs_notgiven ops rows (by omega)) (by rw [frs_len]; omega) (frs_gz _ _ _) (Res.run 900 ?_)⟩
      simp only [↓reduceIte, Nat.reduceEqDiff, Nat.reduceAdd, Nat.reduceSub, Nat.reduceMul, Nat.reduceLT, Int.reduceToNat, Int.reduceBEq, Int.reduceBNe, Int.reduceLT, Int.reduceLE, E, E', TY, bne_self_eq_false, beq_self_eq_true, Bool.not_true, Bool.not_false]
      refine ⟨fnok20, CallAt.frames (j := 0) (t := t) (st := []) (fr := frs ops rows (i + 1)) ⟨rfl, rfl, rfl, by decide⟩ (Res.run 900 ?_)⟩
      have e6 : (((frs ops rows (i + 1)).length : Int) != (i : Int) + 1) = false := by rw [frs_len]; simp
      simp only [↓reduceIte, Nat.reduceEqDiff, Nat.reduceAdd, Nat.reduceSub, Nat.reduceMul, Nat.reduceLT, Int.reduceToNat, Int.reduceBEq, Int.reduceBNe, Int.reduceLT, Int.reduceLE, E, E', TY, e6, bne_self_eq_false, beq_self_eq_true, Bool.not_true, Bool.not_false]
      refine ⟨i64ok_of (by omega) (by omega), i64ok_of (by omega) (by omega), ?_⟩
      exact Res.again (⟨i + 1, by omega, hin'⟩ : {i : Nat // i ≤ ops.length ∧ ∀ k, k < i → (rows.getD k rv0).l.length ≤ 10}) (by simp only; omega) (St.Le.of 2 (by simp only [↓reduceIte, Nat.reduceEqDiff, Nat.reduceAdd, Nat.reduceSub, Nat.reduceMul, Nat.reduceLT, Int.reduceToNat, Int.reduceBEq, Int.reduceBNe, Int.reduceLT, Int.reduceLE, E, E', TY, Int.natCast_add, Int.cast_ofNat_Int]))
    have e5 : decide ((k : Int) ≤ (i : Int)) = true := by simp; omega
    have e6 : (i : Int) - (k : Int) = ((i - k : Nat) : Int) := by omega
    have hko : k < ops.length := by omega
    obtain ⟨b0, b1⟩ := hA.at (i := k) (n := 1) (by omega) (by rw [icells_length]; omega)
    have b1 := b1 0 _ (icells_get hko)
    obtain ⟨f, hf⟩ : ∃ f, lbF ops rows k = f := ⟨_, rfl⟩
    have hfop : f.op = ops[k] := by rw [← hf]; simp [lbF, List.getElem?_eq_getElem hko]
    have hfps : f.ps = [] := by rw [← hf]; rfl
    have hfrs : f.rs = (rows.getD k rv0).l := by rw [← hf]; rfl
    simp only [↓reduceIte, Nat.reduceEqDiff, Nat.reduceAdd, Nat.reduceSub, Nat.reduceMul, Nat.reduceLT, Int.reduceToNat, Int.reduceBEq, Int.reduceBNe, Int.reduceLT, Int.reduceLE, E, E', TY, e5, e6]
    refine ⟨i64ok_of (by omega) (by omega), fnok23, ?_⟩
    have hrz : f.rs.length ≤ 1000000 := by rw [hfrs]; have := hin' k (by omega); omega
    refine CallAt.label (j := 0) (t := t) (st := []) (fr := frs ops rows (i + 1)) (i - k) k f ⟨rfl, rfl, rfl, by decide⟩ (by rw [frs_len]; omega) (by rw [frs_get ops rows (by omega), hf]) (by rw [frs_len]; omega) (by rw [hfps]; simp) hrz fun nl b cap cur hF => ?_
    by_cases hkr : k < rows.length
    · have e7 : decide ((k : Int) < (rows.length : Int)) = true := by simp; omega
      obtain ⟨g0, g1⟩ := hB.at (i := k) (n := 1) (by omega) (by rw [rcells_length]; omega)
      have g1 := g1 0 _ (rcells_get hkr)
      have hfr2 : f.rs = rows[k].l := by rw [hfrs, List.getD_eq_getElem?_getD, List.getElem?_eq_getElem hkr]; rfl
      by_cases h3 : ops[k] = 3
      · have e8 : (ops[k] != 3) = false := by simp [h3]
        have hlab : f.lab = [] := by unfold Frm.lab; rw [hfop, h3, if_pos rfl, hfps]
        rw [hlab] at hF ⊢
        refine Res.run 900 ?_
        simp only [↓reduceIte, Nat.reduceEqDiff, Nat.reduceAdd, Nat.reduceSub, Nat.reduceMul, Nat.reduceLT, Int.reduceToNat, Int.reduceBEq, Int.reduceBNe, Int.reduceLT, Int.reduceLE, E, E', TY, e7, b1, e8, bne_self_eq_false, beq_self_eq_true, Bool.not_true, Bool.not_false, Int.toNat_natCast, Nat.mul_one]
        refine ⟨⟨by omega, by omega, hAs⟩, b0, fnok15, CallAt.same (i := 1) [] [] (SrcV.row (j := 2) (by simp) rfl (by decide) hF) SrcV.nil (by simp) (Res.run 900 ?_)⟩
        simp only [↓reduceIte, Nat.reduceEqDiff, Nat.reduceAdd, Nat.reduceSub, Nat.reduceMul, Nat.reduceLT, Int.reduceToNat, Int.reduceBEq, Int.reduceBNe, Int.reduceLT, Int.reduceLE, E, E', TY, eqVls_self, bne_self_eq_false, beq_self_eq_true, Bool.not_true, Bool.not_false]
        refine ⟨fnok24, CallAt.given (r := true) (j := 0) (t := t) (st := []) (fr := frs ops rows (i + 1)) ⟨rfl, rfl, rfl, by decide⟩ (frs_given ops rows (by omega)) (by rw [frs_len]; omega) (frs_gz _ _ _) (Res.run 900 ?_)⟩
        simp only [↓reduceIte, Nat.reduceEqDiff, Nat.reduceAdd, Nat.reduceSub, Nat.reduceMul, Nat.reduceLT, Int.reduceToNat, Int.reduceBEq, Int.reduceBNe, Int.reduceLT, Int.reduceLE, E, E', TY, bne_self_eq_false, beq_self_eq_true, Bool.not_true, Bool.not_false]
        refine ⟨i64ok_of (by omega) (by omega), ?_⟩
        exact Res.again (⟨k + 1, by omega⟩ : {k : Nat // k ≤ i + 1}) (by simp only; omega) (St.Le.of 2 (by simp only [↓reduceIte, Nat.reduceEqDiff, Nat.reduceAdd, Nat.reduceSub, Nat.reduceMul, Nat.reduceLT, Int.reduceToNat, Int.reduceBEq, Int.reduceBNe, Int.reduceLT, Int.reduceLE, E, E', TY, Int.natCast_add, Int.cast_ofNat_Int]))
      · have e8 : (ops[k] != 3) = true := by simp [h3]
        have hlab : f.lab = rows[k].l := by unfold Frm.lab; rw [hfop, if_neg h3, hfr2]
        rw [hlab] at hF ⊢
        refine Res.run 900 ?_
        simp only [↓reduceIte, Nat.reduceEqDiff, Nat.reduceAdd, Nat.reduceSub, Nat.reduceMul, Nat.reduceLT, Int.reduceToNat, Int.reduceBEq, Int.reduceBNe, Int.reduceLT, Int.reduceLE, E, E', TY, e7, b1, e8, g1, bne_self_eq_false, beq_self_eq_true, Bool.not_true, Bool.not_false, Int.toNat_natCast, Nat.mul_one]
        refine ⟨⟨by omega, by omega, hAs⟩, b0, ⟨by omega, by omega, okRd_some g0⟩, g0, fnok15, CallAt.same (i := 1) rows[k].l rows[k].l (SrcV.row (j := 2) (by simp) rfl (by decide) hF) (SrcV.ext (by simp) (hR _ (List.getElem_mem hkr)).1 (hR _ (List.getElem_mem hkr)).2) (by rw [← hfr2]; omega) (Res.run 900 ?_)⟩
        simp only [↓reduceIte, Nat.reduceEqDiff, Nat.reduceAdd, Nat.reduceSub, Nat.reduceMul, Nat.reduceLT, Int.reduceToNat, Int.reduceBEq, Int.reduceBNe, Int.reduceLT, Int.reduceLE, E, E', TY, eqVls_self, bne_self_eq_false, beq_self_eq_true, Bool.not_true, Bool.not_false]
        refine ⟨fnok24, CallAt.given (r := true) (j := 0) (t := t) (st := []) (fr := frs ops rows (i + 1)) ⟨rfl, rfl, rfl, by decide⟩ (frs_given ops rows (by omega)) (by rw [frs_len]; omega) (frs_gz _ _ _) (Res.run 900 ?_)⟩
        simp only [↓reduceIte, Nat.reduceEqDiff, Nat.reduceAdd, Nat.reduceSub, Nat.reduceMul, Nat.reduceLT, Int.reduceToNat, Int.reduceBEq, Int.reduceBNe, Int.reduceLT, Int.reduceLE, E, E', TY, bne_self_eq_false, beq_self_eq_true, Bool.not_true, Bool.not_false]
        refine ⟨i64ok_of (by omega) (by omega), ?_⟩
        exact Res.again (⟨k + 1, by omega⟩ : {k : Nat // k ≤ i + 1}) (by simp only; omega) (St.Le.of 2 (by simp only [↓reduceIte, Nat.reduceEqDiff, Nat.reduceAdd, Nat.reduceSub, Nat.reduceMul, Nat.reduceLT, Int.reduceToNat, Int.reduceBEq, Int.reduceBNe, Int.reduceLT, Int.reduceLE, E, E', TY, Int.natCast_add, Int.cast_ofNat_Int]))
    · have e7 : decide ((k : Int) < (rows.length : Int)) = false := by simp; omega
      have hfr2 : f.rs = [] := by rw [hfrs, List.getD_eq_getElem?_getD, List.getElem?_eq_none (by omega)]; rfl
      have hlab : f.lab = [] := by unfold Frm.lab; rw [hfps, hfr2]; split <;> rfl
      rw [hlab] at hF ⊢
      refine Res.run 900 ?_
      simp only [↓reduceIte, Nat.reduceEqDiff, Nat.reduceAdd, Nat.reduceSub, Nat.reduceMul, Nat.reduceLT, Int.reduceToNat, Int.reduceBEq, Int.reduceBNe, Int.reduceLT, Int.reduceLE, E, E', TY, e7, bne_self_eq_false, beq_self_eq_true, Bool.not_true, Bool.not_false, Int.toNat_natCast, Nat.mul_one]
      refine ⟨fnok15, CallAt.same (i := 1) [] [] (SrcV.row (j := 2) (by simp) rfl (by decide) hF) SrcV.nil (by simp) (Res.run 900 ?_)⟩
      simp only [↓reduceIte, Nat.reduceEqDiff, Nat.reduceAdd, Nat.reduceSub, Nat.reduceMul, Nat.reduceLT, Int.reduceToNat, Int.reduceBEq, Int.reduceBNe, Int.reduceLT, Int.reduceLE, E, E', TY, eqVls_self, bne_self_eq_false, beq_self_eq_true, Bool.not_true, Bool.not_false]
      refine ⟨fnok24, CallAt.given (r := true) (j := 0) (t := t) (st := []) (fr := frs ops rows (i + 1)) ⟨rfl, rfl, rfl, by decide⟩ (frs_given ops rows (by omega)) (by rw [frs_len]; omega) (frs_gz _ _ _) (Res.run 900 ?_)⟩
      simp only [↓reduceIte, Nat.reduceEqDiff, Nat.reduceAdd, Nat.reduceSub, Nat.reduceMul, Nat.reduceLT, Int.reduceToNat, Int.reduceBEq, Int.reduceBNe, Int.reduceLT, Int.reduceLE, E, E', TY, bne_self_eq_false, beq_self_eq_true, Bool.not_true, Bool.not_false]
      refine ⟨i64ok_of (by omega) (by omega), ?_⟩
      exact Res.again (⟨k + 1, by omega⟩ : {k : Nat // k ≤ i + 1}) (by simp only; omega) (St.Le.of 2 (by simp only [↓reduceIte, Nat.reduceEqDiff, Nat.reduceAdd, Nat.reduceSub, Nat.reduceMul, Nat.reduceLT, Int.reduceToNat, Int.reduceBEq, Int.reduceBNe, Int.reduceLT, Int.reduceLE, E, E', TY, Int.natCast_add, Int.cast_ofNat_Int]))
  · have e3 : decide ((i : Int) < (rows.length : Int)) = false := by simp; omega
    have hr0 : r = rv0 := by rw [← hr, List.getD_eq_getElem?_getD, List.getElem?_eq_none (by omega)]; rfl
    subst hr0
    have hlb : lbF ops rows i = ⟨ops[i], [], [], 0, true, [(i : Int)]⟩ := hlb
    have e4 : decide (((0 : Nat) : Int) > 10) = false := by decide
    have hin' : ∀ k, k < i + 1 → (rows.getD k rv0).l.length ≤ 10 := by
      intro k hk
      by_cases hki : k = i
      · subst hki; rw [hr]; simp [rv0]
      · exact hin k (by omega)
    simp only [↓reduceIte, Nat.reduceEqDiff, Nat.reduceAdd, Nat.reduceSub, Nat.reduceMul, Nat.reduceLT, Int.reduceToNat, Int.reduceBEq, Int.reduceBNe, Int.reduceLT, Int.reduceLE, E, E', TY, e2, e3, e4, a1, Int.toNat_natCast, Nat.mul_one]
    refine ⟨⟨by omega, by omega, hAs⟩, a0, ?_⟩
    refine ⟨fnok11, CallAt.open (j := 0) (t := t) (st := []) (fr := frs ops rows i) [] ([] : List Vl) ⟨rfl, rfl, rfl, by decide⟩ SrcV.nil (SrcV.nil) (by simp) (by rw [frs_len]; omega) (by simp) (by first | omega | simp) (Res.run 900 ?_)⟩
    simp only [↓reduceIte, Nat.reduceEqDiff, Nat.reduceAdd, Nat.reduceSub, Nat.reduceMul, Nat.reduceLT, Int.reduceToNat, Int.reduceBEq, Int.reduceBNe, Int.reduceLT, Int.reduceLE, E, E', TY, openF_nil]
    refine ⟨fnok22, CallAt.give (j := 0) (t := t) (st := []) (fr := frs ops rows i) (f := ⟨ops[i], [], ([] : List Vl), ([] : List Vl).length, false, []⟩) ⟨rfl, rfl, rfl, by decide⟩ (by omega) (by rw [frs_len]; omega) (by simp) (Res.run 900 ?_)⟩
    simp only [↓reduceIte, Nat.reduceEqDiff, Nat.reduceAdd, Nat.reduceSub, Nat.reduceMul, Nat.reduceLT, Int.reduceToNat, Int.reduceBEq, Int.reduceBNe, Int.reduceLT, Int.reduceLE, E, E', TY]
    refine ⟨fnok12, CallAt.die (j := 0) (t := t) (st := []) (fr := frs ops rows i) (f := ⟨ops[i], [], ([] : List Vl), ([] : List Vl).length, false, [] ++ [(i : Int)]⟩) ⟨rfl, rfl, rfl, by decide⟩ (by simp) (by rw [frs_len]; omega) (Res.run 900 ?_)⟩
    have hfs : frs ops rows i ++ [{ (⟨ops[i], [], ([] : List Vl), ([] : List Vl).length, false, [] ++ [(i : Int)]⟩ : Frm) with dead := true }] = frs ops rows (i + 1) := by rw [frs_succ, hlb]; rfl
    rw [hfs, List.take_nil]
    simp only [↓reduceIte, Nat.reduceEqDiff, Nat.reduceAdd, Nat.reduceSub, Nat.reduceMul, Nat.reduceLT, Int.reduceToNat, Int.reduceBEq, Int.reduceBNe, Int.reduceLT, Int.reduceLE, E, E', TY]
    refine Res.loop (X := {k : Nat // k ≤ i + 1})
      (fun x => { T := mkT 126 [(0, .v (.slice A ops.length c)), (1, .v (.slice B rows.length d)), (5, .p 1 0), (6, .v (.int .i64 (i : Int))), (8, .v (.int .i64 (x.1 : Int)))], X := [t], L := [.asn TabA, .asn (MachA t [] (frs ops rows (i + 1)))], D := [] })
      (fun x => i + 1 - x.1) ⟨0, by omega⟩ (St.Le.of 2 (by simp only [↓reduceIte, Nat.reduceEqDiff, Nat.reduceAdd, Nat.reduceSub, Nat.reduceMul, Nat.reduceLT, Int.reduceToNat, Int.reduceBEq, Int.reduceBNe, Int.reduceLT, Int.reduceLE, E, E', TY]; simp)) ?_
    rintro ⟨k, hk⟩
    simp only at hk ⊢
    refine Res.run 900 ?_
    by_cases hki : k ≤ i
    case neg =>
      have e5 : decide ((k : Int) ≤ (i : Int)) = false := by simp; omega
      simp only [↓reduceIte, Nat.reduceEqDiff, Nat.reduceAdd, Nat.reduceSub, Nat.reduceMul, Nat.reduceLT, Int.reduceToNat, Int.reduceBEq, Int.reduceBNe, Int.reduceLT, Int.reduceLE, E, E', TY, e5]
      refine ⟨i64ok_of (by omega) (by omega), fnok23, CallAt.label0 (j := 0) (t := t) (st := []) (fr := frs ops rows (i + 1)) ⟨rfl, rfl, rfl, by decide⟩ (by right; rw [frs_len]; omega) (Res.run 900 ?_)⟩
      simp only [↓reduceIte, Nat.reduceEqDiff, Nat.reduceAdd, Nat.reduceSub, Nat.reduceMul, Nat.reduceLT, Int.reduceToNat, Int.reduceBEq, Int.reduceBNe, Int.reduceLT, Int.reduceLE, E, E', TY, bne_self_eq_false, beq_self_eq_true, Bool.not_true, Bool.not_false]
      refine ⟨i64ok_of (by omega) (by omega), fnok24, CallAt.given (r := false) (j := 0) (t := t) (st := []) (fr := frs ops rows (i + 1)) ⟨rfl, rfl, rfl, by decide⟩ (frs_notgiven ops rows (by omega)) (by rw [frs_len]; omega) (frs_gz _ _ _) (Res.run 900 ?_)⟩
      simp only [↓reduceIte, Nat.reduceEqDiff, Nat.reduceAdd, Nat.reduceSub, Nat.reduceMul, Nat.reduceLT, Int.reduceToNat, Int.reduceBEq, Int.reduceBNe, Int.reduceLT, Int.reduceLE, E, E', TY, bne_self_eq_false, beq_self_eq_true, Bool.not_true, Bool.not_false]
      refine ⟨fnok20, CallAt.frames (j := 0) (t := t) (st := []) (fr := frs ops rows (i + 1)) ⟨rfl, rfl, rfl, by decide⟩ (Res.run 900 ?_)⟩
      have e6 : (((frs ops rows (i + 1)).length : Int) != (i : Int) + 1) = false := by rw [frs_len]; simp
      simp only [↓reduceIte, Nat.reduceEqDiff, Nat.reduceAdd, Nat.reduceSub, Nat.reduceMul, Nat.reduceLT, Int.reduceToNat, Int.reduceBEq, Int.reduceBNe, Int.reduceLT, Int.reduceLE, E, E', TY, e6, bne_self_eq_false, beq_self_eq_true, Bool.not_true, Bool.not_false]
      refine ⟨i64ok_of (by omega) (by omega), i64ok_of (by omega) (by omega), ?_⟩
      exact Res.again (⟨i + 1, by omega, hin'⟩ : {i : Nat // i ≤ ops.length ∧ ∀ k, k < i → (rows.getD k rv0).l.length ≤ 10}) (by simp only; omega) (St.Le.of 2 (by simp only [↓reduceIte, Nat.reduceEqDiff, Nat.reduceAdd, Nat.reduceSub, Nat.reduceMul, Nat.reduceLT, Int.reduceToNat, Int.reduceBEq, Int.reduceBNe, Int.reduceLT, Int.reduceLE, E, E', TY, Int.natCast_add, Int.cast_ofNat_Int]))
    have e5 : decide ((k : Int) ≤ (i : Int)) = true := by simp; omega
    have e6 : (i : Int) - (k : Int) = ((i - k : Nat) : Int) := by omega
    have hko : k < ops.length := by omega
    obtain ⟨b0, b1⟩ := hA.at (i := k) (n := 1) (by omega) (by rw [icells_length]; omega)
    have b1 := b1 0 _ (icells_get hko)
    obtain ⟨f, hf⟩ : ∃ f, lbF ops rows k = f := ⟨_, rfl⟩
    have hfop : f.op = ops[k] := by rw [← hf]; simp [lbF, List.getElem?_eq_getElem hko]
    have hfps : f.ps = [] := by rw [← hf]; rfl
    have hfrs : f.rs = (rows.getD k rv0).l := by rw [← hf]; rfl
    simp only [↓reduceIte, Nat.reduceEqDiff, Nat.reduceAdd, Nat.reduceSub, Nat.reduceMul, Nat.reduceLT, Int.reduceToNat, Int.reduceBEq, Int.reduceBNe, Int.reduceLT, Int.reduceLE, E, E', TY, e5, e6]
    refine ⟨i64ok_of (by omega) (by omega), fnok23, ?_⟩
    have hrz : f.rs.length ≤ 1000000 := by rw [hfrs]; have := hin' k (by omega); omega
    refine CallAt.label (j := 0) (t := t) (st := []) (fr := frs ops rows (i + 1)) (i - k) k f ⟨rfl, rfl, rfl, by decide⟩ (by rw [frs_len]; omega) (by rw [frs_get ops rows (by omega), hf]) (by rw [frs_len]; omega) (by rw [hfps]; simp) hrz fun nl b cap cur hF => ?_
    by_cases hkr : k < rows.length
    · have e7 : decide ((k : Int) < (rows.length : Int)) = true := by simp; omega
      obtain ⟨g0, g1⟩ := hB.at (i := k) (n := 1) (by omega) (by rw [rcells_length]; omega)
      have g1 := g1 0 _ (rcells_get hkr)
      have hfr2 : f.rs = rows[k].l := by rw [hfrs, List.getD_eq_getElem?_getD, List.getElem?_eq_getElem hkr]; rfl
      by_cases h3 : ops[k] = 3
      · have e8 : (ops[k] != 3) = false := by simp [h3]
        have hlab : f.lab = [] := by unfold Frm.lab; rw [hfop, h3, if_pos rfl, hfps]
        rw [hlab] at hF ⊢
        refine Res.run 900 ?_
        simp only [↓reduceIte, Nat.reduceEqDiff, Nat.reduceAdd, Nat.reduceSub, Nat.reduceMul, Nat.reduceLT, Int.reduceToNat, Int.reduceBEq, Int.reduceBNe, Int.reduceLT, Int.reduceLE, E, E', TY, e7, b1, e8, bne_self_eq_false, beq_self_eq_true, Bool.not_true, Bool.not_false, Int.toNat_natCast, Nat.mul_one]
        refine ⟨⟨by omega, by omega, hAs⟩, b0, fnok15, CallAt.same (i := 1) [] [] (SrcV.row (j := 2) (by simp) rfl (by decide) hF) SrcV.nil (by simp) (Res.run 900 ?_)⟩
        simp only [↓reduceIte, Nat.reduceEqDiff, Nat.reduceAdd, Nat.reduceSub, Nat.reduceMul, Nat.reduceLT, Int.reduceToNat, Int.reduceBEq, Int.reduceBNe, Int.reduceLT, Int.reduceLE, E, E', TY, eqVls_self, bne_self_eq_false, beq_self_eq_true, Bool.not_true, Bool.not_false]
        refine ⟨fnok24, CallAt.given (r := true) (j := 0) (t := t) (st := []) (fr := frs ops rows (i + 1)) ⟨rfl, rfl, rfl, by decide⟩ (frs_given ops rows (by omega)) (by rw [frs_len]; omega) (frs_gz _ _ _) (Res.run 900 ?_)⟩
        simp only [↓reduceIte, Nat.reduceEqDiff, Nat.reduceAdd, Nat.reduceSub, Nat.reduceMul, Nat.reduceLT, Int.reduceToNat, Int.reduceBEq, Int.reduceBNe, Int.reduceLT, Int.reduceLE, E, E', TY, bne_self_eq_false, beq_self_eq_true, Bool.not_true, Bool.not_false]
        refine ⟨i64ok_of (by omega) (by omega), ?_⟩
        exact Res.again (⟨k + 1, by omega⟩ : {k : Nat // k ≤ i + 1}) (by simp only; omega) (St.Le.of 2 (by simp only [↓reduceIte, Nat.reduceEqDiff, Nat.reduceAdd, Nat.reduceSub, Nat.reduceMul, Nat.reduceLT, Int.reduceToNat, Int.reduceBEq, Int.reduceBNe, Int.reduceLT, Int.reduceLE, E, E', TY, Int.natCast_add, Int.cast_ofNat_Int]))
      · have e8 : (ops[k] != 3) = true := by simp [h3]
        have hlab : f.lab = rows[k].l := by unfold Frm.lab; rw [hfop, if_neg h3, hfr2]
        rw [hlab] at hF ⊢
        refine Res.run 900 ?_
        simp only [↓reduceIte, Nat.reduceEqDiff, Nat.reduceAdd, Nat.reduceSub, Nat.reduceMul, Nat.reduceLT, Int.reduceToNat, Int.reduceBEq, Int.reduceBNe, Int.reduceLT, Int.reduceLE, E, E', TY, e7, b1, e8, g1, bne_self_eq_false, beq_self_eq_true, Bool.not_true, Bool.not_false, Int.toNat_natCast, Nat.mul_one]
        refine ⟨⟨by omega, by omega, hAs⟩, b0, ⟨by omega, by omega, okRd_some g0⟩, g0, fnok15, CallAt.same (i := 1) rows[k].l rows[k].l (SrcV.row (j := 2) (by simp) rfl (by decide) hF) (SrcV.ext (by simp) (hR _ (List.getElem_mem hkr)).1 (hR _ (List.getElem_mem hkr)).2) (by rw [← hfr2]; omega) (Res.run 900 ?_)⟩
        simp only [↓reduceIte, Nat.reduceEqDiff, Nat.reduceAdd, Nat.reduceSub, Nat.reduceMul, Nat.reduceLT, Int.reduceToNat, Int.reduceBEq, Int.reduceBNe, Int.reduceLT, Int.reduceLE, E, E', TY, eqVls_self, bne_self_eq_false, beq_self_eq_true, Bool.not_true, Bool.not_false]
        refine ⟨fnok24, CallAt.given (r := true) (j := 0) (t := t) (st := []) (fr := frs ops rows (i + 1)) ⟨rfl, rfl, rfl, by decide⟩ (frs_given ops rows (by omega)) (by rw [frs_len]; omega) (frs_gz _ _ _) (Res.run 900 ?_)⟩
        simp only [↓reduceIte, Nat.reduceEqDiff, Nat.reduceAdd, Nat.reduceSub, Nat.reduceMul, Nat.reduceLT, Int.reduceToNat, Int.reduceBEq, Int.reduceBNe, Int.reduceLT, Int.reduceLE, E, E', TY, bne_self_eq_false, beq_self_eq_true, Bool.not_true, Bool.not_false]
        refine ⟨i64ok_of (by omega) (by omega), ?_⟩
        exact Res.again (⟨k + 1, by omega⟩ : {k : Nat // k ≤ i + 1}) (by simp only; omega) (St.Le.of 2 (by simp only [↓reduceIte, Nat.reduceEqDiff, Nat.reduceAdd, Nat.reduceSub, Nat.reduceMul, Nat.reduceLT, Int.reduceToNat, Int.reduceBEq, Int.reduceBNe, Int.reduceLT, Int.reduceLE, E, E', TY, Int.natCast_add, Int.cast_ofNat_Int]))
    · have e7 : decide ((k : Int) < (rows.length : Int)) = false := by simp; omega
      have hfr2 : f.rs = [] := by rw [hfrs, List.getD_eq_getElem?_getD, List.getElem?_eq_none (by omega)]; rfl
      have hlab : f.lab = [] := by unfold Frm.lab; rw [hfps, hfr2]; split <;> rfl
      rw [hlab] at hF ⊢
      refine Res.run 900 ?_
      simp only [↓reduceIte, Nat.reduceEqDiff, Nat.reduceAdd, Nat.reduceSub, Nat.reduceMul, Nat.reduceLT, Int.reduceToNat, Int.reduceBEq, Int.reduceBNe, Int.reduceLT, Int.reduceLE, E, E', TY, e7, bne_self_eq_false, beq_self_eq_true, Bool.not_true, Bool.not_false, Int.toNat_natCast, Nat.mul_one]
      refine ⟨fnok15, CallAt.same (i := 1) [] [] (SrcV.row (j := 2) (by simp) rfl (by decide) hF) SrcV.nil (by simp) (Res.run 900 ?_)⟩
      simp only [↓reduceIte, Nat.reduceEqDiff, Nat.reduceAdd, Nat.reduceSub, Nat.reduceMul, Nat.reduceLT, Int.reduceToNat, Int.reduceBEq, Int.reduceBNe, Int.reduceLT, Int.reduceLE, E, E', TY, eqVls_self, bne_self_eq_false, beq_self_eq_true, Bool.not_true, Bool.not_false]
      refine ⟨fnok24, CallAt.given (r := true) (j := 0) (t := t) (st := []) (fr := frs ops rows (i + 1)) ⟨rfl, rfl, rfl, by decide⟩ (frs_given ops rows (by omega)) (by rw [frs_len]; omega) (frs_gz _ _ _) (Res.run 900 ?_)⟩
      simp only [↓reduceIte, Nat.reduceEqDiff, Nat.reduceAdd, Nat.reduceSub, Nat.reduceMul, Nat.reduceLT, Int.reduceToNat, Int.reduceBEq, Int.reduceBNe, Int.reduceLT, Int.reduceLE, E, E', TY, bne_self_eq_false, beq_self_eq_true, Bool.not_true, Bool.not_false]
      refine ⟨i64ok_of (by omega) (by omega), ?_⟩
      exact Res.again (⟨k + 1, by omega⟩ : {k : Nat // k ≤ i + 1}) (by simp only; omega) (St.Le.of 2 (by simp only [↓reduceIte, Nat.reduceEqDiff, Nat.reduceAdd, Nat.reduceSub, Nat.reduceMul, Nat.reduceLT, Int.reduceToNat, Int.reduceBEq, Int.reduceBNe, Int.reduceLT, Int.reduceLE, E, E', TY, Int.natCast_add, Int.cast_ofNat_Int]))
end Go.Proofs.Yteendcbmoagdfaa
