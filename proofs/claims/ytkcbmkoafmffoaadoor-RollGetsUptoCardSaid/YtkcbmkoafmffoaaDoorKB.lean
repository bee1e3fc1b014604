/-
  The kind layer: which types are plain; one by one and in lists.
-/
import Derived.Test.YtkcbmkoafmffoaaDoorKA
set_option linter.unusedVariables false
set_option linter.unusedSimpArgs false
set_option maxRecDepth 20000
set_option maxHeartbeats 4400000
namespace Go.Proofs.YtkcbmkoafmffoaaDoor
open Go Go.Eng

def phF (h : Hp) : Bool := if h.k = 13 then decide (0 ≤ h.n ∧ h.n ≤ 4294967295) else decide (1 ≤ h.k ∧ h.k ≤ 12 ∧ h.n = 0)

theorem m_plainHeap {w : World} (h : Hp) : Calls Tryd.prog 37 #[h.v] w fun e w' => e = .returned (.bool (phF h)) ∧ Ext w w' := by
  obtain ⟨k, n⟩ := h
  obtain ⟨r, hr⟩ : ∃ r, phF ⟨k, n⟩ = r := ⟨_, rfl⟩
  rw [hr]
  unfold phF at hr
  simp only at hr
  refine start0 (args := [.v (.agg #[.int .i64 k, .int .i64 n])]) (G := (· < w.heap.size)) Tryd.func37 rfl Tryd.ntmps37 (by simp [SV.lt]) (fun _ h => h) ?_
  refine Res.run 1000 ?_
  by_cases hk : k = 13
  · subst hk
    rw [if_pos rfl] at hr
    have e0 : ((13 : Int) == 13) = true := rfl
    by_cases h1 : n ≥ 0
    · have e1 : decide (n ≥ 0) = true := decide_eq_true h1
      have e2 : decide (n ≤ 4294967295) = r := by rw [← hr]; simp; omega
      simp only [↓reduceIte, Nat.reduceEqDiff, Nat.reduceAdd, Nat.reduceSub, Nat.reduceMul, Nat.reduceLT, Int.reduceToNat, Int.reduceBEq, Int.reduceBNe, Int.reduceLT, Int.reduceLE, E, E', TY, e0, e1, e2]
      exact Ret.one rfl (by kernel_rfl)
    · have e1 : decide (n ≥ 0) = false := decide_eq_false h1
      obtain rfl : r = false := by rw [← hr]; simp; omega
      simp only [↓reduceIte, Nat.reduceEqDiff, Nat.reduceAdd, Nat.reduceSub, Nat.reduceMul, Nat.reduceLT, Int.reduceToNat, Int.reduceBEq, Int.reduceBNe, Int.reduceLT, Int.reduceLE, E, E', TY, e0, e1]
      exact Ret.one rfl (by kernel_rfl)
  · rw [if_neg hk] at hr
    have e0 : (k == 13) = false := beq_ff hk
    by_cases h1 : k ≥ 1
    · have e1 : decide (k ≥ 1) = true := decide_eq_true h1
      by_cases h2 : k ≤ 12
      · have e2 : decide (k ≤ 12) = true := decide_eq_true h2
        have e3 : (n == 0) = r := by rw [← hr, Bool.eq_iff_iff]; simp; omega
        simp only [↓reduceIte, Nat.reduceEqDiff, Nat.reduceAdd, Nat.reduceSub, Nat.reduceMul, Nat.reduceLT, Int.reduceToNat, Int.reduceBEq, Int.reduceBNe, Int.reduceLT, Int.reduceLE, E, E', TY, e0, e1, e2, e3]
        exact Ret.one rfl (by kernel_rfl)
      · have e2 : decide (k ≤ 12) = false := decide_eq_false h2
        obtain rfl : r = false := by rw [← hr]; simp; omega
        simp only [↓reduceIte, Nat.reduceEqDiff, Nat.reduceAdd, Nat.reduceSub, Nat.reduceMul, Nat.reduceLT, Int.reduceToNat, Int.reduceBEq, Int.reduceBNe, Int.reduceLT, Int.reduceLE, E, E', TY, e0, e1, e2]
        exact Ret.one rfl (by kernel_rfl)
    · have e1 : decide (k ≥ 1) = false := decide_eq_false h1
      obtain rfl : r = false := by rw [← hr]; simp; omega
      simp only [↓reduceIte, Nat.reduceEqDiff, Nat.reduceAdd, Nat.reduceSub, Nat.reduceMul, Nat.reduceLT, Int.reduceToNat, Int.reduceBEq, Int.reduceBNe, Int.reduceLT, Int.reduceLE, E, E', TY, e0, e1]
      exact Ret.one rfl (by kernel_rfl)

def pvF (v : Vl) : Bool := if v.k = 1 ∨ v.k = 2 then decide (v.nul = false ∧ v.h.k = 0 ∧ v.h.n = 0) else if v.k = 3 then phF v.h else false

theorem m_PlainVal {w : World} (v : Vl) : Calls Tryd.prog 14 #[v.v] w fun e w' => e = .returned (.bool (pvF v)) ∧ Ext w w' := by
  obtain ⟨k, nul, hk, hn⟩ := v
  obtain ⟨r, hr⟩ : ∃ r, pvF ⟨k, nul, hk, hn⟩ = r := ⟨_, rfl⟩
  rw [hr]
  unfold pvF at hr
  simp only at hr
  refine start0 (args := [.v (.agg #[.int .i64 k, .bool nul, .int .i64 hk, .int .i64 hn])]) (G := (· < w.heap.size)) Tryd.func14 rfl Tryd.ntmps14 (by simp [SV.lt]) (fun _ h => h) ?_
  refine Res.run 1000 ?_
  have e5 : (k == k) = true := beq_self_eq_true k
  have e6 : (nul == false) = !nul := by cases nul <;> rfl
  by_cases h1 : k = 1
  · subst h1
    rw [if_pos (.inl rfl)] at hr
    have e0 : ((1 : Int) == 1) = true := rfl
    have e9 : (!nul && (hk == 0 && hn == 0)) = r := by rw [← hr, Bool.eq_iff_iff]; simp
    simp only [↓reduceIte, Nat.reduceEqDiff, Nat.reduceAdd, Nat.reduceSub, Nat.reduceMul, Nat.reduceLT, Int.reduceToNat, Int.reduceBEq, Int.reduceBNe, Int.reduceLT, Int.reduceLE, E, E', TY, e0, e5, e6, e9]
    exact Ret.one rfl (by kernel_rfl)
  have e1 : (k == 1) = false := beq_ff h1
  by_cases h2 : k = 2
  · subst h2
    rw [if_pos (.inr rfl)] at hr
    have e0 : ((2 : Int) == 2) = true := rfl
    have e9 : (!nul && (hk == 0 && hn == 0)) = r := by rw [← hr, Bool.eq_iff_iff]; simp
    simp only [↓reduceIte, Nat.reduceEqDiff, Nat.reduceAdd, Nat.reduceSub, Nat.reduceMul, Nat.reduceLT, Int.reduceToNat, Int.reduceBEq, Int.reduceBNe, Int.reduceLT, Int.reduceLE, E, E', TY, e0, e1, e5, e6, e9]
    exact Ret.one rfl (by kernel_rfl)
  have e2 : (k == 2) = false := beq_ff h2
  rw [if_neg (by omega)] at hr
  by_cases h3 : k = 3
  · subst h3
    rw [if_pos rfl] at hr
    have e0 : ((3 : Int) == 3) = true := rfl
    simp only [↓reduceIte, Nat.reduceEqDiff, Nat.reduceAdd, Nat.reduceSub, Nat.reduceMul, Nat.reduceLT, Int.reduceToNat, Int.reduceBEq, Int.reduceBNe, Int.reduceLT, Int.reduceLE, E, E', TY, e0, e1, e2]
    refine ⟨fnok37, CallAt.pure #[.agg #[.int .i64 hk, .int .i64 hn]] (.bool r) (fun _ => rfl) (fun w' hw => by rw [← hr]; exact m_plainHeap ⟨hk, hn⟩) (Res.run 900 ?_)⟩
    simp only [↓reduceIte, Nat.reduceEqDiff, Nat.reduceAdd, Nat.reduceSub, Nat.reduceMul, Nat.reduceLT, Int.reduceToNat, Int.reduceBEq, Int.reduceBNe, Int.reduceLT, Int.reduceLE, E, E', TY]
    exact Ret.one rfl (by kernel_rfl)
  have e3 : (k == 3) = false := beq_ff h3
  rw [if_neg h3] at hr
  subst hr
  simp only [↓reduceIte, Nat.reduceEqDiff, Nat.reduceAdd, Nat.reduceSub, Nat.reduceMul, Nat.reduceLT, Int.reduceToNat, Int.reduceBEq, Int.reduceBNe, Int.reduceLT, Int.reduceLE, E, E', TY, e1, e2, e3]
  exact Ret.one rfl (by kernel_rfl)

def pfF (f : Fd) : Bool := if f.pk = 0 then pvF f.t else if f.pk = 8 ∨ f.pk = 16 then decide (f.t = ⟨1, false, ⟨0, 0⟩⟩) else false

theorem m_plainField {w : World} (f : Fd) : Calls Tryd.prog 42 #[f.v] w fun e w' => e = .returned (.bool (pfF f)) ∧ Ext w w' := by
  obtain ⟨pk, ⟨k, nul, ⟨hk, hn⟩⟩, m⟩ := f
  obtain ⟨r, hr⟩ : ∃ r, pfF ⟨pk, ⟨k, nul, hk, hn⟩, m⟩ = r := ⟨_, rfl⟩
  rw [hr]
  unfold pfF at hr
  simp only at hr
  refine start0 (args := [.v (.agg #[.int .i64 pk, .int .i64 k, .bool nul, .int .i64 hk, .int .i64 hn, .bool m])]) (G := (· < w.heap.size)) Tryd.func42 rfl Tryd.ntmps42 (by simp [SV.lt]) (fun _ h => h) ?_
  refine Res.run 1000 ?_
  by_cases h0 : pk = 0
  · subst h0
    rw [if_pos rfl] at hr
    have e0 : ((0 : Int) == 0) = true := rfl
    simp only [↓reduceIte, Nat.reduceEqDiff, Nat.reduceAdd, Nat.reduceSub, Nat.reduceMul, Nat.reduceLT, Int.reduceToNat, Int.reduceBEq, Int.reduceBNe, Int.reduceLT, Int.reduceLE, E, E', TY, e0]
    refine ⟨fnok14, CallAt.pure #[.agg #[.int .i64 k, .bool nul, .int .i64 hk, .int .i64 hn]] (.bool r) (fun _ => rfl) (fun w' hw => by rw [← hr]; exact m_PlainVal ⟨k, nul, hk, hn⟩) (Res.run 900 ?_)⟩
    simp only [↓reduceIte, Nat.reduceEqDiff, Nat.reduceAdd, Nat.reduceSub, Nat.reduceMul, Nat.reduceLT, Int.reduceToNat, Int.reduceBEq, Int.reduceBNe, Int.reduceLT, Int.reduceLE, E, E', TY]
    exact Ret.one rfl (by kernel_rfl)
  have e0 : (pk == 0) = false := beq_ff h0
  rw [if_neg h0] at hr
  have e6 : (nul == false) = !nul := by cases nul <;> rfl
  by_cases h8 : pk = 8
  · subst h8
    rw [if_pos (.inl rfl)] at hr
    have e1 : ((8 : Int) == 8) = true := rfl
    have e9 : ((k == 1) && (!nul && (hk == 0 && hn == 0))) = r := by rw [← hr, Bool.eq_iff_iff]; simp
    simp only [↓reduceIte, Nat.reduceEqDiff, Nat.reduceAdd, Nat.reduceSub, Nat.reduceMul, Nat.reduceLT, Int.reduceToNat, Int.reduceBEq, Int.reduceBNe, Int.reduceLT, Int.reduceLE, E, E', TY, e0, e1, e6, e9]
    exact Ret.one rfl (by kernel_rfl)
  have e1 : (pk == 8) = false := beq_ff h8
  by_cases h16 : pk = 16
  · subst h16
    rw [if_pos (.inr rfl)] at hr
    have e2 : ((16 : Int) == 16) = true := rfl
    have e9 : ((k == 1) && (!nul && (hk == 0 && hn == 0))) = r := by rw [← hr, Bool.eq_iff_iff]; simp
    simp only [↓reduceIte, Nat.reduceEqDiff, Nat.reduceAdd, Nat.reduceSub, Nat.reduceMul, Nat.reduceLT, Int.reduceToNat, Int.reduceBEq, Int.reduceBNe, Int.reduceLT, Int.reduceLE, E, E', TY, e0, e1, e2, e6, e9]
    exact Ret.one rfl (by kernel_rfl)
  have e2 : (pk == 16) = false := beq_ff h16
  rw [if_neg (by omega)] at hr
  subst hr
  simp only [↓reduceIte, Nat.reduceEqDiff, Nat.reduceAdd, Nat.reduceSub, Nat.reduceMul, Nat.reduceLT, Int.reduceToNat, Int.reduceBEq, Int.reduceBNe, Int.reduceLT, Int.reduceLE, E, E', TY, e0, e1, e2]
  exact Ret.one rfl (by kernel_rfl)

theorem m_ps1 {w : World} (v : Vl) : Calls Tryd.prog 38 #[v.v] w fun e w' => e = .returned (.bool (!pvF v)) ∧ Ext w w' := by
  refine start0 (args := [.v (.agg #[.int .i64 v.k, .bool v.nul, .int .i64 v.h.k, .int .i64 v.h.n])]) (G := (· < w.heap.size)) Tryd.func38 rfl Tryd.ntmps38 (by simp [SV.lt]) (fun _ h => h) ?_
  refine Res.run 1000 ?_
  simp only [↓reduceIte, Nat.reduceEqDiff, Nat.reduceAdd, Nat.reduceSub, Nat.reduceMul, Nat.reduceLT, Int.reduceToNat, Int.reduceBEq, Int.reduceBNe, Int.reduceLT, Int.reduceLE, E, E', TY]
  refine ⟨fnok14, CallAt.pure #[v.v] (.bool (pvF v)) (fun _ => rfl) (fun w' hw => m_PlainVal v) (Res.run 900 ?_)⟩
  simp only [↓reduceIte, Nat.reduceEqDiff, Nat.reduceAdd, Nat.reduceSub, Nat.reduceMul, Nat.reduceLT, Int.reduceToNat, Int.reduceBEq, Int.reduceBNe, Int.reduceLT, Int.reduceLE, E, E', TY]
  exact Ret.one rfl (by kernel_rfl)
theorem m_ps2 {w : World} (v : Fd) : Calls Tryd.prog 41 #[v.v] w fun e w' => e = .returned (.bool (!pfF v)) ∧ Ext w w' := by
  refine start0 (args := [.v (.agg #[.int .i64 v.pk, .int .i64 v.t.k, .bool v.t.nul, .int .i64 v.t.h.k, .int .i64 v.t.h.n, .bool v.m])]) (G := (· < w.heap.size)) Tryd.func41 rfl Tryd.ntmps41 (by simp [SV.lt]) (fun _ h => h) ?_
  refine Res.run 1000 ?_
  simp only [↓reduceIte, Nat.reduceEqDiff, Nat.reduceAdd, Nat.reduceSub, Nat.reduceMul, Nat.reduceLT, Int.reduceToNat, Int.reduceBEq, Int.reduceBNe, Int.reduceLT, Int.reduceLE, E, E', TY]
  refine ⟨fnok42, CallAt.pure #[v.v] (.bool (pfF v)) (fun _ => rfl) (fun w' hw => m_plainField v) (Res.run 900 ?_)⟩
  simp only [↓reduceIte, Nat.reduceEqDiff, Nat.reduceAdd, Nat.reduceSub, Nat.reduceMul, Nat.reduceLT, Int.reduceToNat, Int.reduceBEq, Int.reduceBNe, Int.reduceLT, Int.reduceLE, E, E', TY]
  exact Ret.one rfl (by kernel_rfl)

theorem m_idxV {w : World} (A : Option Addr) (c : Nat) (l : List Vl) (g : Nat) (p : Vl → Bool) (hg : fnOK Tryd.prog g = true) (hp : ∀ v w, Calls Tryd.prog g #[v.v] w fun e w' => e = .returned (.bool (p v)) ∧ Ext w w') (hA : Cs (· < w.heap.size) w A (vcs l)) (hz : l.length ≤ 1100000) :
    Calls Tryd.prog 71 #[.slice A l.length c, .func (.func g) #[] #[]] w fun e w' => ∃ i : Int, e = .returned (.int .i64 i) ∧ decide (i ≥ 0) = l.any p ∧ Ext w w' := by
  refine start0 (args := [.v (.slice A l.length c), .v (.func (.func g) #[] #[])]) (G := (· < w.heap.size)) Tryd.func71 rfl Tryd.ntmps71 (by simp [SV.lt]) (fun _ h => h) ?_
  refine Res.run 1000 ?_
  simp only [↓reduceIte, Nat.reduceEqDiff, Nat.reduceAdd, Nat.reduceSub, Nat.reduceMul, Nat.reduceLT, Int.reduceToNat, Int.reduceBEq, Int.reduceBNe, Int.reduceLT, Int.reduceLE, E, E', TY]
  refine Res.loop (X := {k : Nat // k ≤ l.length ∧ ∀ j (h : j < l.length), j < k → p l[j] = false})
    (fun x => { T := mkT 19 [(0, .v (.slice A l.length c)), (1, .v (.func (.func g) #[] #[])), (7, .v (.int .i64 l.length)), (8, .v (.int .i64 (x.1 : Int)))], X := [], L := [], D := [] })
    (fun x => l.length - x.1) ⟨0, by omega, fun _ _ h => absurd h (by omega)⟩ (St.Le.of 0 (by simp only [↓reduceIte, Nat.reduceEqDiff, Nat.reduceAdd, Nat.reduceSub, Nat.reduceMul, Nat.reduceLT, Int.reduceToNat, Int.reduceBEq, Int.reduceBNe, Int.reduceLT, Int.reduceLE, E, E', TY]; simp)) ?_
  rintro ⟨k, hk, hinv⟩
  simp only at hk hinv ⊢
  refine Res.run 900 ?_
  by_cases hlt : k < l.length
  case neg =>
    have e2 : decide ((k : Int) < (l.length : Int)) = false := by simp; omega
    simp only [↓reduceIte, Nat.reduceEqDiff, Nat.reduceAdd, Nat.reduceSub, Nat.reduceMul, Nat.reduceLT, Int.reduceToNat, Int.reduceBEq, Int.reduceBNe, Int.reduceLT, Int.reduceLE, E, E', TY, e2]
    refine Ret.body [.v (.int .i64 (-1))] rfl (by kernel_rfl) fun new w' hs => ⟨-1, rfl, ?_, hs.keep⟩
    have : l.any p = false := by
      rw [List.any_eq_false]
      intro f hf
      obtain ⟨j, hj, rfl⟩ := List.mem_iff_getElem.1 hf
      rw [hinv j hj (by omega)]; simp
    rw [this]; rfl
  have e2 : decide ((k : Int) < (l.length : Int)) = true := by simp; omega
  obtain ⟨a0, a1, a2, a3, a4⟩ := vcs_at hA k hlt
  have hAs : A.isSome = true := okRd_some a0
  simp only [↓reduceIte, Nat.reduceEqDiff, Nat.reduceAdd, Nat.reduceSub, Nat.reduceMul, Nat.reduceLT, Int.reduceToNat, Int.reduceBEq, Int.reduceBNe, Int.reduceLT, Int.reduceLE, E, E', TY, e2, a1, a2, a3, a4, Int.toNat_natCast]
  refine ⟨⟨by omega, by omega, hAs⟩, a0, hg, ?_⟩
  refine CallAt.det #[l[k].v] (.bool (p l[k])) (fun ids => rfl) (fun w' hw => hp l[k] w') (Res.run 900 ?_)
  cases hv : p l[k] with
  | true =>
    simp only [↓reduceIte, Nat.reduceEqDiff, Nat.reduceAdd, Nat.reduceSub, Nat.reduceMul, Nat.reduceLT, Int.reduceToNat, Int.reduceBEq, Int.reduceBNe, Int.reduceLT, Int.reduceLE, E, E', TY]
    refine Ret.body [.v (.int .i64 (k : Int))] rfl (by kernel_rfl) fun new w' hs => ⟨k, rfl, ?_, hs.keep⟩
    have : l.any p = true := List.any_eq_true.2 ⟨l[k], List.getElem_mem hlt, hv⟩
    rw [this]; simp
  | false =>
    simp only [↓reduceIte, Nat.reduceEqDiff, Nat.reduceAdd, Nat.reduceSub, Nat.reduceMul, Nat.reduceLT, Int.reduceToNat, Int.reduceBEq, Int.reduceBNe, Int.reduceLT, Int.reduceLE, E, E', TY]
    refine ⟨i64ok_of (by omega) (by omega), ?_⟩
    refine Res.again (⟨k + 1, by omega, fun j h1 hj => ?_⟩ : {k : Nat // k ≤ l.length ∧ ∀ j (h : j < l.length), j < k → p l[j] = false}) (by simp only; omega) (St.Le.of 0 (by simp only [↓reduceIte, Nat.reduceEqDiff, Nat.reduceAdd, Nat.reduceSub, Nat.reduceMul, Nat.reduceLT, Int.reduceToNat, Int.reduceBEq, Int.reduceBNe, Int.reduceLT, Int.reduceLE, E, E', TY, Int.natCast_add, Int.cast_ofNat_Int]))
    by_cases hjk : j = k
    · subst hjk; exact hv
    · exact hinv j h1 (by omega)

theorem m_ctV {w : World} (A : Option Addr) (c : Nat) (l : List Vl) (g : Nat) (p : Vl → Bool) (hg : fnOK Tryd.prog g = true) (hp : ∀ v w, Calls Tryd.prog g #[v.v] w fun e w' => e = .returned (.bool (p v)) ∧ Ext w w') (hA : Cs (· < w.heap.size) w A (vcs l)) (hz : l.length ≤ 1100000) :
    Calls Tryd.prog 39 #[.slice A l.length c, .func (.func g) #[] #[]] w fun e w' => e = .returned (.bool (l.any p)) ∧ Ext w w' := by
  refine start0 (args := [.v (.slice A l.length c), .v (.func (.func g) #[] #[])]) (G := (· < w.heap.size)) Tryd.func39 rfl Tryd.ntmps39 (by simp [SV.lt]) (fun _ h => h) ?_
  refine Res.run 1000 ?_
  simp only [↓reduceIte, Nat.reduceEqDiff, Nat.reduceAdd, Nat.reduceSub, Nat.reduceMul, Nat.reduceLT, Int.reduceToNat, Int.reduceBEq, Int.reduceBNe, Int.reduceLT, Int.reduceLE, E, E', TY]
  refine ⟨fnok71, CallAt.sm (fun u => ∃ i : Int, u = .int .i64 i ∧ decide (i ≥ 0) = l.any p) (fun new w' hs => ?_) ?_⟩
  · refine (m_idxV A c l g p hg hp (hA.ext hs.keep) hz).mono ?_
    rintro e w'' ⟨i, rfl, hi, hE⟩
    exact ⟨_, rfl, hE, i, rfl, hi⟩
  · rintro u ⟨i, rfl, hi⟩
    refine Res.run 900 ?_
    simp only [↓reduceIte, Nat.reduceEqDiff, Nat.reduceAdd, Nat.reduceSub, Nat.reduceMul, Nat.reduceLT, Int.reduceToNat, Int.reduceBEq, Int.reduceBNe, Int.reduceLT, Int.reduceLE, E, E', TY, hi]
    exact Ret.one rfl (by kernel_rfl)

theorem m_idxF {w : World} (A : Option Addr) (c : Nat) (l : List Fd) (g : Nat) (p : Fd → Bool) (hg : fnOK Tryd.prog g = true) (hp : ∀ v w, Calls Tryd.prog g #[v.v] w fun e w' => e = .returned (.bool (p v)) ∧ Ext w w') (hA : Cs (· < w.heap.size) w A (fcs l)) (hz : l.length ≤ 1100000) :
    Calls Tryd.prog 72 #[.slice A l.length c, .func (.func g) #[] #[]] w fun e w' => ∃ i : Int, e = .returned (.int .i64 i) ∧ decide (i ≥ 0) = l.any p ∧ Ext w w' := by
  refine start0 (args := [.v (.slice A l.length c), .v (.func (.func g) #[] #[])]) (G := (· < w.heap.size)) Tryd.func72 rfl Tryd.ntmps72 (by simp [SV.lt]) (fun _ h => h) ?_
  refine Res.run 1000 ?_
  simp only [↓reduceIte, Nat.reduceEqDiff, Nat.reduceAdd, Nat.reduceSub, Nat.reduceMul, Nat.reduceLT, Int.reduceToNat, Int.reduceBEq, Int.reduceBNe, Int.reduceLT, Int.reduceLE, E, E', TY]
  refine Res.loop (X := {k : Nat // k ≤ l.length ∧ ∀ j (h : j < l.length), j < k → p l[j] = false})
    (fun x => { T := mkT 19 [(0, .v (.slice A l.length c)), (1, .v (.func (.func g) #[] #[])), (7, .v (.int .i64 l.length)), (8, .v (.int .i64 (x.1 : Int)))], X := [], L := [], D := [] })
    (fun x => l.length - x.1) ⟨0, by omega, fun _ _ h => absurd h (by omega)⟩ (St.Le.of 0 (by simp only [↓reduceIte, Nat.reduceEqDiff, Nat.reduceAdd, Nat.reduceSub, Nat.reduceMul, Nat.reduceLT, Int.reduceToNat, Int.reduceBEq, Int.reduceBNe, Int.reduceLT, Int.reduceLE, E, E', TY]; simp)) ?_
  rintro ⟨k, hk, hinv⟩
  simp only at hk hinv ⊢
  refine Res.run 900 ?_
  by_cases hlt : k < l.length
  case neg =>
    have e2 : decide ((k : Int) < (l.length : Int)) = false := by simp; omega
    simp only [↓reduceIte, Nat.reduceEqDiff, Nat.reduceAdd, Nat.reduceSub, Nat.reduceMul, Nat.reduceLT, Int.reduceToNat, Int.reduceBEq, Int.reduceBNe, Int.reduceLT, Int.reduceLE, E, E', TY, e2]
    refine Ret.body [.v (.int .i64 (-1))] rfl (by kernel_rfl) fun new w' hs => ⟨-1, rfl, ?_, hs.keep⟩
    have : l.any p = false := by
      rw [List.any_eq_false]
      intro f hf
      obtain ⟨j, hj, rfl⟩ := List.mem_iff_getElem.1 hf
      rw [hinv j hj (by omega)]; simp
    rw [this]; rfl
  have e2 : decide ((k : Int) < (l.length : Int)) = true := by simp; omega
  obtain ⟨a0, a1, a2, a3, a4, a5, a6⟩ := fcs_at hA k hlt
  have hAs : A.isSome = true := okRd_some a0
  simp only [↓reduceIte, Nat.reduceEqDiff, Nat.reduceAdd, Nat.reduceSub, Nat.reduceMul, Nat.reduceLT, Int.reduceToNat, Int.reduceBEq, Int.reduceBNe, Int.reduceLT, Int.reduceLE, E, E', TY, e2, a1, a2, a3, a4, a5, a6, Int.toNat_natCast]
  refine ⟨⟨by omega, by omega, hAs⟩, a0, hg, ?_⟩
  refine CallAt.det #[l[k].v] (.bool (p l[k])) (fun ids => rfl) (fun w' hw => hp l[k] w') (Res.run 900 ?_)
  cases hv : p l[k] with
  | true =>
    simp only [↓reduceIte, Nat.reduceEqDiff, Nat.reduceAdd, Nat.reduceSub, Nat.reduceMul, Nat.reduceLT, Int.reduceToNat, Int.reduceBEq, Int.reduceBNe, Int.reduceLT, Int.reduceLE, E, E', TY]
    refine Ret.body [.v (.int .i64 (k : Int))] rfl (by kernel_rfl) fun new w' hs => ⟨k, rfl, ?_, hs.keep⟩
    have : l.any p = true := List.any_eq_true.2 ⟨l[k], List.getElem_mem hlt, hv⟩
    rw [this]; simp
  | false =>
    simp only [↓reduceIte, Nat.reduceEqDiff, Nat.reduceAdd, Nat.reduceSub, Nat.reduceMul, Nat.reduceLT, Int.reduceToNat, Int.reduceBEq, Int.reduceBNe, Int.reduceLT, Int.reduceLE, E, E', TY]
    refine ⟨i64ok_of (by omega) (by omega), ?_⟩
    refine Res.again (⟨k + 1, by omega, fun j h1 hj => ?_⟩ : {k : Nat // k ≤ l.length ∧ ∀ j (h : j < l.length), j < k → p l[j] = false}) (by simp only; omega) (St.Le.of 0 (by simp only [↓reduceIte, Nat.reduceEqDiff, Nat.reduceAdd, Nat.reduceSub, Nat.reduceMul, Nat.reduceLT, Int.reduceToNat, Int.reduceBEq, Int.reduceBNe, Int.reduceLT, Int.reduceLE, E, E', TY, Int.natCast_add, Int.cast_ofNat_Int]))
    by_cases hjk : j = k
    · subst hjk; exact hv
    · exact hinv j h1 (by omega)

theorem m_ctF {w : World} (A : Option Addr) (c : Nat) (l : List Fd) (g : Nat) (p : Fd → Bool) (hg : fnOK Tryd.prog g = true) (hp : ∀ v w, Calls Tryd.prog g #[v.v] w fun e w' => e = .returned (.bool (p v)) ∧ Ext w w') (hA : Cs (· < w.heap.size) w A (fcs l)) (hz : l.length ≤ 1100000) :
    Calls Tryd.prog 40 #[.slice A l.length c, .func (.func g) #[] #[]] w fun e w' => e = .returned (.bool (l.any p)) ∧ Ext w w' := by
  refine start0 (args := [.v (.slice A l.length c), .v (.func (.func g) #[] #[])]) (G := (· < w.heap.size)) Tryd.func40 rfl Tryd.ntmps40 (by simp [SV.lt]) (fun _ h => h) ?_
  refine Res.run 1000 ?_
  simp only [↓reduceIte, Nat.reduceEqDiff, Nat.reduceAdd, Nat.reduceSub, Nat.reduceMul, Nat.reduceLT, Int.reduceToNat, Int.reduceBEq, Int.reduceBNe, Int.reduceLT, Int.reduceLE, E, E', TY]
  refine ⟨fnok72, CallAt.sm (fun u => ∃ i : Int, u = .int .i64 i ∧ decide (i ≥ 0) = l.any p) (fun new w' hs => ?_) ?_⟩
  · refine (m_idxF A c l g p hg hp (hA.ext hs.keep) hz).mono ?_
    rintro e w'' ⟨i, rfl, hi, hE⟩
    exact ⟨_, rfl, hE, i, rfl, hi⟩
  · rintro u ⟨i, rfl, hi⟩
    refine Res.run 900 ?_
    simp only [↓reduceIte, Nat.reduceEqDiff, Nat.reduceAdd, Nat.reduceSub, Nat.reduceMul, Nat.reduceLT, Int.reduceToNat, Int.reduceBEq, Int.reduceBNe, Int.reduceLT, Int.reduceLE, E, E', TY, hi]
    exact Ret.one rfl (by kernel_rfl)
end Go.Proofs.YtkcbmkoafmffoaaDoor
