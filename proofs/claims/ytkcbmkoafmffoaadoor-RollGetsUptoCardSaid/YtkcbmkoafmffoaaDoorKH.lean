/-
  The kind layer: the writing of heap types, value types and fields.
-/
import Derived.Test.YtkcbmkoafmffoaaDoorKL
import Derived.Test.YtkcbmkoafmffoaaDoorKB
set_option linter.unusedVariables false
set_option linter.unusedSimpArgs false
set_option maxRecDepth 20000
set_option maxHeartbeats 8000000
namespace Go.Proofs.YtkcbmkoafmffoaaDoor
open Go Go.Eng

/-- The names of the heap types that are given. -/
def nmB : List ByteArray := [⟨#[]⟩, ⟨#[97, 110, 121]⟩, ⟨#[101, 113]⟩, ⟨#[105, 51, 49]⟩, ⟨#[115, 116, 114, 117, 99, 116]⟩, ⟨#[97, 114, 114, 97, 121]⟩, ⟨#[110, 111, 110, 101]⟩, ⟨#[102, 117, 110, 99]⟩, ⟨#[110, 111, 102, 117, 110, 99]⟩, ⟨#[101, 120, 116, 101, 114, 110]⟩, ⟨#[110, 111, 101, 120, 116, 101, 114, 110]⟩, ⟨#[101, 120, 110]⟩, ⟨#[110, 111, 101, 120, 110]⟩]
def nameB (k : Int) : ByteArray := nmB.getD k.toNat ⟨#[]⟩
theorem nameB_size (k : Int) : (nameB k).size ≤ 8 := by
  unfold nameB
  rw [List.getD_eq_getElem?_getD]
  by_cases h : k.toNat < nmB.length
  · rw [List.getElem?_eq_getElem h]
    have : ∀ b ∈ nmB, b.size ≤ 8 := by decide
    exact this _ (List.getElem_mem h)
  · rw [List.getElem?_eq_none (by omega)]; decide
def heapT (h : Hp) : ByteArray :=
  if h.k = 13 then itoaB h.n else if h.k = 14 then ⟨#[114, 101, 99, 46]⟩ ++ itoaB h.n else if h.k = 15 then ⟨#[100, 101, 102, 46]⟩ ++ itoaB h.n
  else if h.k < 1 ∨ h.k > 12 then ⟨#[63]⟩ else nameB h.k
theorem heapT_size (h : Hp) (hn : i64ok h.n) : (heapT h).size ≤ 25 := by
  have h1 := itoaB_size h.n hn
  have h2 := nameB_size h.k
  unfold heapT
  split
  · omega
  · split
    · rw [ByteArray.size_append]; show 4 + _ ≤ 25; omega
    · split
      · rw [ByteArray.size_append]; show 4 + _ ≤ 25; omega
      · split
        · decide
        · omega

theorem m_names {w : World} : Calls Tryd.prog 74 #[] w fun e w' => ∃ b, e = .returned (.slice (some ⟨b, 0, none⟩) 13 13) ∧ Ext w w' ∧ w.heap.size ≤ b ∧ b < w'.heap.size ∧ w'.heap[b]? = some (.cells (nmB.map Value.string).toArray 9 (0, 0)) := by
  refine start0 (args := []) (G := (· < w.heap.size)) Tryd.func74 rfl Tryd.ntmps74 (by simp [SV.lt]) (fun _ h => h) ?_
  refine Res.run 1000 ?_
  simp only [↓reduceIte, Nat.reduceEqDiff, Nat.reduceAdd, Nat.reduceSub, Nat.reduceMul, Nat.reduceLT, Int.reduceToNat, Int.reduceBEq, Int.reduceBNe, Int.reduceLT, Int.reduceLE, E, E', TY]
  refine Ret.body [.s 0 false 0 13 13] rfl (by kernel_rfl) fun new w' hs => ?_
  obtain ⟨own, ho⟩ := hs
  obtain ⟨k1, k2⟩ := ho.ok 0 _ rfl
  obtain ⟨k3, k4⟩ := ho.out 0 _ (by simp) k1
  exact ⟨_, rfl, ho.keep, by omega, k4, k2⟩

theorem m_heapText {w : World} (h : Hp) (hn : i64ok h.n) (ht : Tab w) : Calls Tryd.prog 43 #[h.v] w fun e w' => e = .returned (.string (heapT h)) ∧ Ext w w' := by
  obtain ⟨k, n⟩ := h
  obtain ⟨r, hr⟩ : ∃ r, heapT ⟨k, n⟩ = r := ⟨_, rfl⟩
  rw [hr]
  unfold heapT at hr
  simp only at hr hn
  have hI := itoaB_size n hn
  refine start0 (args := [.v (.agg #[.int .i64 k, .int .i64 n])]) (G := (· < w.heap.size)) Tryd.func43 rfl Tryd.ntmps43 (by simp [SV.lt]) (fun _ h => h) ?_
  refine Res.run 1000 ?_
  simp only [↓reduceIte, Nat.reduceEqDiff, Nat.reduceAdd, Nat.reduceSub, Nat.reduceMul, Nat.reduceLT, Int.reduceToNat, Int.reduceBEq, Int.reduceBNe, Int.reduceLT, Int.reduceLE, E, E', TY]
  refine ⟨fnok73, CallAt.pure #[.int .i64 n] (.string (itoaB n)) (fun _ => rfl) (fun w' hw => m_Itoa n hn (ht.ext hw)) (Res.run 900 ?_)⟩
  by_cases h13 : k = 13
  · subst h13
    rw [if_pos rfl] at hr
    have e0 : ((13 : Int) == 13) = true := rfl
    simp only [↓reduceIte, Nat.reduceEqDiff, Nat.reduceAdd, Nat.reduceSub, Nat.reduceMul, Nat.reduceLT, Int.reduceToNat, Int.reduceBEq, Int.reduceBNe, Int.reduceLT, Int.reduceLE, E, E', TY, e0, hr]
    exact Ret.one rfl (by kernel_rfl)
  have e13 : (k == 13) = false := beq_ff h13
  rw [if_neg h13] at hr
  by_cases h14 : k = 14
  · subst h14
    rw [if_pos rfl] at hr
    have e0 : ((14 : Int) == 14) = true := rfl
    simp only [↓reduceIte, Nat.reduceEqDiff, Nat.reduceAdd, Nat.reduceSub, Nat.reduceMul, Nat.reduceLT, Int.reduceToNat, Int.reduceBEq, Int.reduceBNe, Int.reduceLT, Int.reduceLE, E, E', TY, e0, e13, hr]
    exact ⟨i64ok_of (by omega) (by show (((4 + (itoaB n).size : Nat)) : Int) ≤ _; omega), Ret.one rfl (by kernel_rfl)⟩
  have e14 : (k == 14) = false := beq_ff h14
  rw [if_neg h14] at hr
  by_cases h15 : k = 15
  · subst h15
    rw [if_pos rfl] at hr
    have e0 : ((15 : Int) == 15) = true := rfl
    simp only [↓reduceIte, Nat.reduceEqDiff, Nat.reduceAdd, Nat.reduceSub, Nat.reduceMul, Nat.reduceLT, Int.reduceToNat, Int.reduceBEq, Int.reduceBNe, Int.reduceLT, Int.reduceLE, E, E', TY, e0, e13, e14, hr]
    exact ⟨i64ok_of (by omega) (by show (((4 + (itoaB n).size : Nat)) : Int) ≤ _; omega), Ret.one rfl (by kernel_rfl)⟩
  have e15 : (k == 15) = false := beq_ff h15
  rw [if_neg h15] at hr
  by_cases h1 : k < 1
  · rw [if_pos (.inl h1)] at hr
    subst hr
    have e1 : decide (k < 1) = true := decide_eq_true h1
    simp only [↓reduceIte, Nat.reduceEqDiff, Nat.reduceAdd, Nat.reduceSub, Nat.reduceMul, Nat.reduceLT, Int.reduceToNat, Int.reduceBEq, Int.reduceBNe, Int.reduceLT, Int.reduceLE, E, E', TY, e13, e14, e15, e1]
    exact Ret.one rfl (by kernel_rfl)
  have e1 : decide (k < 1) = false := decide_eq_false h1
  by_cases h2 : k > 12
  · rw [if_pos (.inr h2)] at hr
    subst hr
    have e2 : decide (k > 12) = true := decide_eq_true h2
    simp only [↓reduceIte, Nat.reduceEqDiff, Nat.reduceAdd, Nat.reduceSub, Nat.reduceMul, Nat.reduceLT, Int.reduceToNat, Int.reduceBEq, Int.reduceBNe, Int.reduceLT, Int.reduceLE, E, E', TY, e13, e14, e15, e1, e2]
    exact Ret.one rfl (by kernel_rfl)
  have e2 : decide (k > 12) = false := decide_eq_false h2
  rw [if_neg (by omega)] at hr
  simp only [↓reduceIte, Nat.reduceEqDiff, Nat.reduceAdd, Nat.reduceSub, Nat.reduceMul, Nat.reduceLT, Int.reduceToNat, Int.reduceBEq, Int.reduceBNe, Int.reduceLT, Int.reduceLE, E, E', TY, e13, e14, e15, e1, e2]
  refine Res.draw 5 [.cells 33 [.v (.int .i64 k), .v (.int .i64 n)]] (.take 1 (.take 2 (.run 0 (.run 3 (.run 4 .fin .fin) .fin) .fin))) (by kernel_rfl) (by kernel_rfl) fun new hnew => Res.run 900 ?_
  have hnl : new.length = 1 := by have := hnew; simp at this; omega
  simp only [↓reduceIte, Nat.reduceEqDiff, Nat.reduceAdd, Nat.reduceSub, Nat.reduceMul, Nat.reduceLT, Int.reduceToNat, Int.reduceBEq, Int.reduceBNe, Int.reduceLT, Int.reduceLE, E, E', TY, hnl]
  refine ⟨fnok74, CallAt.row 9 (fun nl n cap cur => nl = false ∧ n = 13 ∧ cap = 13 ∧ cur = nmB.map Value.string) (fun nw w' hs => ?_) ?_⟩
  · refine m_names.mono ?_
    rintro e w' ⟨b, rfl, hE, h1, h2, h3⟩
    exact ⟨false, b, 13, 13, _, rfl, ⟨rfl, rfl, rfl, rfl⟩, hE, fun _ => ⟨h1, h2, h3⟩⟩
  rintro nl m cap cur ⟨rfl, rfl, rfl, rfl⟩
  have hg : gV (nmB.map Value.string) k.toNat = .string r := by
    have hlt : k.toNat < nmB.length := by show k.toNat < 13; omega
    rw [← hr]
    unfold nameB gV
    rw [List.getD_eq_getElem?_getD, List.getD_eq_getElem?_getD, List.getElem?_map, List.getElem?_eq_getElem hlt]
    rfl
  refine Res.run 900 ?_
  simp only [↓reduceIte, Nat.reduceEqDiff, Nat.reduceAdd, Nat.reduceSub, Nat.reduceMul, Nat.reduceLT, Int.reduceToNat, Int.reduceBEq, Int.reduceBNe, Int.reduceLT, Int.reduceLE, E, E', TY, hnl, Nat.zero_add, Nat.mul_one, hg]
  refine ⟨⟨by omega, by omega⟩, by show k.toNat < 13; omega, ?_⟩
  exact Ret.one rfl (by kernel_rfl)

def valT (v : Vl) : ByteArray :=
  if v.k = 1 then ⟨#[105, 51, 50]⟩ else if v.k = 2 then ⟨#[105, 54, 52]⟩ else if v.k = 3 then (if v.nul = true then ⟨#[40, 114, 101, 102, 32, 110, 117, 108, 108, 32]⟩ ++ heapT v.h ++ ⟨#[41]⟩ else ⟨#[40, 114, 101, 102, 32]⟩ ++ heapT v.h ++ ⟨#[41]⟩) else ⟨#[98, 111, 116]⟩
theorem valT_size (v : Vl) (hn : v.k = 3 → i64ok v.h.n) : (valT v).size ≤ 40 := by
  unfold valT
  split
  · decide
  · split
    · decide
    · split
      · rename_i h3
        have := heapT_size v.h (hn h3)
        split
        · simp only [ByteArray.size_append]; show 10 + _ + 1 ≤ 40; omega
        · simp only [ByteArray.size_append]; show 5 + _ + 1 ≤ 40; omega
      · decide

theorem m_ValText {w : World} (v : Vl) (hn : v.k = 3 → i64ok v.h.n) (ht : Tab w) : Calls Tryd.prog 15 #[v.v] w fun e w' => e = .returned (.string (valT v)) ∧ Ext w w' := by
  obtain ⟨k, nul, h⟩ := v
  obtain ⟨r, hr⟩ : ∃ r, valT ⟨k, nul, h⟩ = r := ⟨_, rfl⟩
  rw [hr]
  unfold valT at hr
  simp only at hr hn
  refine start0 (args := [.v (.agg #[.int .i64 k, .bool nul, .int .i64 h.k, .int .i64 h.n])]) (G := (· < w.heap.size)) Tryd.func15 rfl Tryd.ntmps15 (by simp [SV.lt]) (fun _ h => h) ?_
  refine Res.run 1000 ?_
  by_cases h1 : k = 1
  · subst h1
    rw [if_pos rfl] at hr
    have e0 : ((1 : Int) == 1) = true := rfl
    simp only [↓reduceIte, Nat.reduceEqDiff, Nat.reduceAdd, Nat.reduceSub, Nat.reduceMul, Nat.reduceLT, Int.reduceToNat, Int.reduceBEq, Int.reduceBNe, Int.reduceLT, Int.reduceLE, E, E', TY, e0, hr]
    exact Ret.one rfl (by kernel_rfl)
  have e1 : (k == 1) = false := beq_ff h1
  rw [if_neg h1] at hr
  by_cases h2 : k = 2
  · subst h2
    rw [if_pos rfl] at hr
    have e0 : ((2 : Int) == 2) = true := rfl
    simp only [↓reduceIte, Nat.reduceEqDiff, Nat.reduceAdd, Nat.reduceSub, Nat.reduceMul, Nat.reduceLT, Int.reduceToNat, Int.reduceBEq, Int.reduceBNe, Int.reduceLT, Int.reduceLE, E, E', TY, e0, e1, hr]
    exact Ret.one rfl (by kernel_rfl)
  have e2 : (k == 2) = false := beq_ff h2
  rw [if_neg h2] at hr
  by_cases h3 : k = 3
  · subst h3
    rw [if_pos rfl] at hr
    have e0 : ((3 : Int) == 3) = true := rfl
    have hs := heapT_size h (hn rfl)
    cases nul with
    | true =>
      rw [if_pos rfl] at hr
      simp only [↓reduceIte, Nat.reduceEqDiff, Nat.reduceAdd, Nat.reduceSub, Nat.reduceMul, Nat.reduceLT, Int.reduceToNat, Int.reduceBEq, Int.reduceBNe, Int.reduceLT, Int.reduceLE, E, E', TY, e0, e1, e2]
      refine ⟨fnok43, CallAt.pure #[h.v] (.string (heapT h)) (fun _ => rfl) (fun w' hw => m_heapText h (hn rfl) (ht.ext hw)) (Res.run 900 ?_)⟩
      simp only [↓reduceIte, Nat.reduceEqDiff, Nat.reduceAdd, Nat.reduceSub, Nat.reduceMul, Nat.reduceLT, Int.reduceToNat, Int.reduceBEq, Int.reduceBNe, Int.reduceLT, Int.reduceLE, E, E', TY, hr]
      exact ⟨i64ok_of (by omega) (by show (((10 + (heapT h).size : Nat)) : Int) ≤ _; omega), i64ok_of (by omega) (by rw [ByteArray.size_append]; show (((10 + (heapT h).size + 1 : Nat)) : Int) ≤ _; omega), Ret.one rfl (by kernel_rfl)⟩
    | false =>
      rw [if_neg (by decide)] at hr
      simp only [↓reduceIte, Nat.reduceEqDiff, Nat.reduceAdd, Nat.reduceSub, Nat.reduceMul, Nat.reduceLT, Int.reduceToNat, Int.reduceBEq, Int.reduceBNe, Int.reduceLT, Int.reduceLE, E, E', TY, e0, e1, e2]
      refine ⟨fnok43, CallAt.pure #[h.v] (.string (heapT h)) (fun _ => rfl) (fun w' hw => m_heapText h (hn rfl) (ht.ext hw)) (Res.run 900 ?_)⟩
      simp only [↓reduceIte, Nat.reduceEqDiff, Nat.reduceAdd, Nat.reduceSub, Nat.reduceMul, Nat.reduceLT, Int.reduceToNat, Int.reduceBEq, Int.reduceBNe, Int.reduceLT, Int.reduceLE, E, E', TY, hr]
      exact ⟨i64ok_of (by omega) (by show (((5 + (heapT h).size : Nat)) : Int) ≤ _; omega), i64ok_of (by omega) (by rw [ByteArray.size_append]; show (((5 + (heapT h).size + 1 : Nat)) : Int) ≤ _; omega), Ret.one rfl (by kernel_rfl)⟩
  have e3 : (k == 3) = false := beq_ff h3
  rw [if_neg h3] at hr
  simp only [↓reduceIte, Nat.reduceEqDiff, Nat.reduceAdd, Nat.reduceSub, Nat.reduceMul, Nat.reduceLT, Int.reduceToNat, Int.reduceBEq, Int.reduceBNe, Int.reduceLT, Int.reduceLE, E, E', TY, e1, e2, e3, hr]
  exact Ret.one rfl (by kernel_rfl)

def fldT (f : Fd) : ByteArray :=
  if f.m = true then ⟨#[40, 109, 117, 116, 32]⟩ ++ (if f.pk = 0 then valT f.t else ⟨#[105]⟩ ++ itoaB f.pk) ++ ⟨#[41]⟩ else (if f.pk = 0 then valT f.t else ⟨#[105]⟩ ++ itoaB f.pk)
/-- The numbers are a machine's. -/
structure Fd.ok (f : Fd) : Prop where
  pk : i64ok f.pk
  n : f.t.k = 3 → i64ok f.t.h.n
theorem fldT_in (f : Fd) (h : f.ok) : (if f.pk = 0 then valT f.t else ⟨#[105]⟩ ++ itoaB f.pk).size ≤ 40 := by
  have h1 := valT_size f.t h.n
  have h2 := itoaB_size f.pk h.pk
  split
  · omega
  · rw [ByteArray.size_append]; show 1 + _ ≤ 40; omega
theorem fldT_size (f : Fd) (h : f.ok) : (fldT f).size ≤ 50 := by
  have := fldT_in f h
  unfold fldT
  split
  · rw [ByteArray.size_append, ByteArray.size_append]; show 5 + _ + 1 ≤ 50; omega
  · omega

theorem m_fieldText {w : World} (f : Fd) (h : f.ok) (ht : Tab w) : Calls Tryd.prog 45 #[f.v] w fun e w' => e = .returned (.string (fldT f)) ∧ Ext w w' := by
  obtain ⟨pk, t, m⟩ := f
  have hin := fldT_in _ h
  obtain ⟨u, hu⟩ : ∃ u, (if pk = 0 then valT t else ⟨#[105]⟩ ++ itoaB pk) = u := ⟨_, rfl⟩
  have hf : fldT ⟨pk, t, m⟩ = if m = true then ⟨#[40, 109, 117, 116, 32]⟩ ++ u ++ ⟨#[41]⟩ else u := by unfold fldT; rw [← hu]
  simp only at hin
  rw [hu] at hin
  rw [hf]
  have hpk := h.pk
  have hI := itoaB_size pk hpk
  simp only at hpk
  refine start0 (args := [.v (.agg #[.int .i64 pk, .int .i64 t.k, .bool t.nul, .int .i64 t.h.k, .int .i64 t.h.n, .bool m])]) (G := (· < w.heap.size)) Tryd.func45 rfl Tryd.ntmps45 (by simp [SV.lt]) (fun _ h => h) ?_
  refine Res.run 1000 ?_
  simp only [↓reduceIte, Nat.reduceEqDiff, Nat.reduceAdd, Nat.reduceSub, Nat.reduceMul, Nat.reduceLT, Int.reduceToNat, Int.reduceBEq, Int.reduceBNe, Int.reduceLT, Int.reduceLE, E, E', TY]
  refine ⟨fnok15, CallAt.pure #[t.v] (.string (valT t)) (fun _ => rfl) (fun w' hw => m_ValText t h.n (ht.ext hw)) (Res.run 900 ?_)⟩
  by_cases h0 : pk = 0
  · subst h0
    rw [if_pos rfl] at hu
    have e0 : ((0 : Int) != 0) = false := rfl
    cases m with
    | true =>
      rw [if_pos rfl]
      simp only [↓reduceIte, Nat.reduceEqDiff, Nat.reduceAdd, Nat.reduceSub, Nat.reduceMul, Nat.reduceLT, Int.reduceToNat, Int.reduceBEq, Int.reduceBNe, Int.reduceLT, Int.reduceLE, E, E', TY, e0, hu]
      exact ⟨i64ok_of (by omega) (by show (((5 + u.size : Nat)) : Int) ≤ _; omega), i64ok_of (by omega) (by rw [ByteArray.size_append]; show (((5 + u.size + 1 : Nat)) : Int) ≤ _; omega), Ret.one rfl (by kernel_rfl)⟩
    | false =>
      rw [if_neg (by decide)]
      simp only [↓reduceIte, Nat.reduceEqDiff, Nat.reduceAdd, Nat.reduceSub, Nat.reduceMul, Nat.reduceLT, Int.reduceToNat, Int.reduceBEq, Int.reduceBNe, Int.reduceLT, Int.reduceLE, E, E', TY, e0, hu]
      exact Ret.one rfl (by kernel_rfl)
  · rw [if_neg h0] at hu
    have e0 : (pk != 0) = true := by simp [h0]
    simp only [↓reduceIte, Nat.reduceEqDiff, Nat.reduceAdd, Nat.reduceSub, Nat.reduceMul, Nat.reduceLT, Int.reduceToNat, Int.reduceBEq, Int.reduceBNe, Int.reduceLT, Int.reduceLE, E, E', TY, e0]
    refine ⟨fnok73, CallAt.pure #[.int .i64 pk] (.string (itoaB pk)) (fun _ => rfl) (fun w' hw => m_Itoa pk hpk (ht.ext hw)) (Res.run 900 ?_)⟩
    cases m with
    | true =>
      rw [if_pos rfl]
      simp only [↓reduceIte, Nat.reduceEqDiff, Nat.reduceAdd, Nat.reduceSub, Nat.reduceMul, Nat.reduceLT, Int.reduceToNat, Int.reduceBEq, Int.reduceBNe, Int.reduceLT, Int.reduceLE, E, E', TY, hu]
      exact ⟨i64ok_of (by omega) (by show (((1 + (itoaB pk).size : Nat)) : Int) ≤ _; omega), i64ok_of (by omega) (by show (((5 + u.size : Nat)) : Int) ≤ _; omega), i64ok_of (by omega) (by rw [ByteArray.size_append]; show (((5 + u.size + 1 : Nat)) : Int) ≤ _; omega), Ret.one rfl (by kernel_rfl)⟩
    | false =>
      rw [if_neg (by decide)]
      simp only [↓reduceIte, Nat.reduceEqDiff, Nat.reduceAdd, Nat.reduceSub, Nat.reduceMul, Nat.reduceLT, Int.reduceToNat, Int.reduceBEq, Int.reduceBNe, Int.reduceLT, Int.reduceLE, E, E', TY, hu]
      exact ⟨i64ok_of (by omega) (by show (((1 + (itoaB pk).size : Nat)) : Int) ≤ _; omega), Ret.one rfl (by kernel_rfl)⟩
end Go.Proofs.YtkcbmkoafmffoaaDoor
