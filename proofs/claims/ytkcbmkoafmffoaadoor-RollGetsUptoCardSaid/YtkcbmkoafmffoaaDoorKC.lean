/-
  The kind layer: when types are the same; which have a first value.
-/
import Derived.Test.YtkcbmkoafmffoaaDoorKB
set_option linter.unusedVariables false
set_option linter.unusedSimpArgs false
set_option maxRecDepth 20000
set_option maxHeartbeats 8000000
namespace Go.Proofs.YtkcbmkoafmffoaaDoor
open Go Go.Eng

theorem m_eqH {w : World} (a b : List Hp) (A B : Option Addr) (ca cb : Nat) (ha : Cs (· < w.heap.size) w A (hcs a)) (hb : Cs (· < w.heap.size) w B (hcs b)) (hl : a.length ≤ 1100000) :
    Calls Tryd.prog 46 #[.slice A a.length ca, .slice B b.length cb] w fun e w' => e = .returned (.bool (decide (a = b))) ∧ Ext w w' := by
  obtain ⟨r, hr⟩ : ∃ r, decide (a = b) = r := ⟨_, rfl⟩
  rw [hr]
  refine start0 (args := [.v (.slice A a.length ca), .v (.slice B b.length cb)]) (G := (· < w.heap.size)) Tryd.func46 rfl Tryd.ntmps46 (by simp [SV.lt]) (fun _ h => h) ?_
  refine Res.run 1000 ?_
  by_cases hq : a.length = b.length
  case neg =>
    have e1 : ((a.length : Int) != (b.length : Int)) = true := by simp; omega
    obtain rfl : r = false := by rw [← hr]; simp only [decide_eq_false_iff_not]; intro h; exact hq (by rw [h])
    simp only [↓reduceIte, Nat.reduceEqDiff, Nat.reduceAdd, Nat.reduceSub, Nat.reduceMul, Nat.reduceLT, Int.reduceToNat, Int.reduceBEq, Int.reduceBNe, Int.reduceLT, Int.reduceLE, E, E', TY, e1]
    exact Ret.one rfl (by kernel_rfl)
  have e1 : ((a.length : Int) != (b.length : Int)) = false := by simp [hq]
  simp only [↓reduceIte, Nat.reduceEqDiff, Nat.reduceAdd, Nat.reduceSub, Nat.reduceMul, Nat.reduceLT, Int.reduceToNat, Int.reduceBEq, Int.reduceBNe, Int.reduceLT, Int.reduceLE, E, E', TY, e1]
  refine Res.loop (X := {k : Nat // k ≤ a.length ∧ ∀ j (h1 : j < a.length) (h2 : j < b.length), j < k → a[j] = b[j]})
    (fun x => { T := mkT 26 [(0, .v (.slice A a.length ca)), (1, .v (.slice B b.length cb)), (4, .v (.bool false)), (12, .v (.int .i64 a.length)), (13, .v (.int .i64 (x.1 : Int)))], X := [], L := [], D := [] })
    (fun x => a.length - x.1) ⟨0, by omega, fun _ _ _ h => absurd h (by omega)⟩ (St.Le.of 0 (by simp only [↓reduceIte, Nat.reduceEqDiff, Nat.reduceAdd, Nat.reduceSub, Nat.reduceMul, Nat.reduceLT, Int.reduceToNat, Int.reduceBEq, Int.reduceBNe, Int.reduceLT, Int.reduceLE, E, E', TY]; simp)) ?_
  rintro ⟨k, hk, hinv⟩
  refine Res.run 900 ?_
  by_cases hlt : k < a.length
  case neg =>
    have e2 : decide ((k : Int) < (a.length : Int)) = false := by simp; omega
    obtain rfl : r = true := by
      rw [← hr]
      simp only [decide_eq_true_eq]
      exact List.ext_getElem hq (fun i h1 h2 => hinv i h1 h2 (by omega))
    simp only [↓reduceIte, Nat.reduceEqDiff, Nat.reduceAdd, Nat.reduceSub, Nat.reduceMul, Nat.reduceLT, Int.reduceToNat, Int.reduceBEq, Int.reduceBNe, Int.reduceLT, Int.reduceLE, E, E', TY, e2]
    exact Ret.one rfl (by kernel_rfl)
  have e2 : decide ((k : Int) < (a.length : Int)) = true := by simp; omega
  have hkb : k < b.length := by omega
  obtain ⟨a0, a1, a2⟩ := hcs_at ha k hlt
  obtain ⟨b0, b1, b2⟩ := hcs_at hb k hkb
  have hAs : A.isSome = true := okRd_some a0
  have hBs : B.isSome = true := okRd_some b0
  simp only [↓reduceIte, Nat.reduceEqDiff, Nat.reduceAdd, Nat.reduceSub, Nat.reduceMul, Nat.reduceLT, Int.reduceToNat, Int.reduceBEq, Int.reduceBNe, Int.reduceLT, Int.reduceLE, E, E', TY, e2]
  refine Res.quiet [] (by kernel_rfl) (by kernel_rfl) ?_
  simp only [↓reduceIte, Nat.reduceEqDiff, Nat.reduceAdd, Nat.reduceSub, Nat.reduceMul, Nat.reduceLT, Int.reduceToNat, Int.reduceBEq, Int.reduceBNe, Int.reduceLT, Int.reduceLE, E, E', TY, a1, a2, b1, b2, Int.toNat_natCast]
  refine ⟨⟨by omega, by omega, hAs⟩, a0, ⟨by omega, by omega, hBs⟩, b0, ?_⟩
  refine Res.run 900 ?_
  have hv : (a[k].k == b[k].k && (a[k].n == b[k].n)) = decide (a[k] = b[k]) := by
    generalize a[k] = p, b[k] = q
    obtain ⟨p1, p2⟩ := p
    obtain ⟨q1, q2⟩ := q
    rw [Bool.eq_iff_iff]; simp [and_assoc]
  cases hw : decide (a[k] = b[k]) with
  | false =>
    rw [hw] at hv
    obtain rfl : r = false := by
      rw [← hr]
      simp only [decide_eq_false_iff_not]
      rintro rfl
      simp at hw
    simp only [↓reduceIte, Nat.reduceEqDiff, Nat.reduceAdd, Nat.reduceSub, Nat.reduceMul, Nat.reduceLT, Int.reduceToNat, Int.reduceBEq, Int.reduceBNe, Int.reduceLT, Int.reduceLE, E, E', TY, hv]
    exact Ret.one rfl (by kernel_rfl)
  | true =>
    rw [hw] at hv
    simp only [↓reduceIte, Nat.reduceEqDiff, Nat.reduceAdd, Nat.reduceSub, Nat.reduceMul, Nat.reduceLT, Int.reduceToNat, Int.reduceBEq, Int.reduceBNe, Int.reduceLT, Int.reduceLE, E, E', TY, hv]
    refine ⟨i64ok_of (by omega) (by omega), ?_⟩
    refine Res.again (⟨k + 1, by omega, fun j h1 h2 hj => ?_⟩ : {k : Nat // k ≤ a.length ∧ ∀ j (h1 : j < a.length) (h2 : j < b.length), j < k → a[j] = b[j]}) (by simp only; omega) (St.Le.of 0 (by simp only [↓reduceIte, Nat.reduceEqDiff, Nat.reduceAdd, Nat.reduceSub, Nat.reduceMul, Nat.reduceLT, Int.reduceToNat, Int.reduceBEq, Int.reduceBNe, Int.reduceLT, Int.reduceLE, E, E', TY, Int.natCast_add, Int.cast_ofNat_Int]))
    by_cases hjk : j = k
    · subst hjk; exact of_decide_eq_true hw
    · exact hinv j h1 h2 (by omega)

theorem m_eqV {w : World} (a b : List Vl) (A B : Option Addr) (ca cb : Nat) (ha : Cs (· < w.heap.size) w A (vcs a)) (hb : Cs (· < w.heap.size) w B (vcs b)) (hl : a.length ≤ 1100000) :
    Calls Tryd.prog 75 #[.slice A a.length ca, .slice B b.length cb] w fun e w' => e = .returned (.bool (decide (a = b))) ∧ Ext w w' := by
  obtain ⟨r, hr⟩ : ∃ r, decide (a = b) = r := ⟨_, rfl⟩
  rw [hr]
  refine start0 (args := [.v (.slice A a.length ca), .v (.slice B b.length cb)]) (G := (· < w.heap.size)) Tryd.func75 rfl Tryd.ntmps75 (by simp [SV.lt]) (fun _ h => h) ?_
  refine Res.run 1000 ?_
  by_cases hq : a.length = b.length
  case neg =>
    have e1 : ((a.length : Int) != (b.length : Int)) = true := by simp; omega
    obtain rfl : r = false := by rw [← hr]; simp only [decide_eq_false_iff_not]; intro h; exact hq (by rw [h])
    simp only [↓reduceIte, Nat.reduceEqDiff, Nat.reduceAdd, Nat.reduceSub, Nat.reduceMul, Nat.reduceLT, Int.reduceToNat, Int.reduceBEq, Int.reduceBNe, Int.reduceLT, Int.reduceLE, E, E', TY, e1]
    exact Ret.one rfl (by kernel_rfl)
  have e1 : ((a.length : Int) != (b.length : Int)) = false := by simp [hq]
  simp only [↓reduceIte, Nat.reduceEqDiff, Nat.reduceAdd, Nat.reduceSub, Nat.reduceMul, Nat.reduceLT, Int.reduceToNat, Int.reduceBEq, Int.reduceBNe, Int.reduceLT, Int.reduceLE, E, E', TY, e1]
  refine Res.loop (X := {k : Nat // k ≤ a.length ∧ ∀ j (h1 : j < a.length) (h2 : j < b.length), j < k → a[j] = b[j]})
    (fun x => { T := mkT 26 [(0, .v (.slice A a.length ca)), (1, .v (.slice B b.length cb)), (4, .v (.bool false)), (12, .v (.int .i64 a.length)), (13, .v (.int .i64 (x.1 : Int)))], X := [], L := [], D := [] })
    (fun x => a.length - x.1) ⟨0, by omega, fun _ _ _ h => absurd h (by omega)⟩ (St.Le.of 0 (by simp only [↓reduceIte, Nat.reduceEqDiff, Nat.reduceAdd, Nat.reduceSub, Nat.reduceMul, Nat.reduceLT, Int.reduceToNat, Int.reduceBEq, Int.reduceBNe, Int.reduceLT, Int.reduceLE, E, E', TY]; simp)) ?_
  rintro ⟨k, hk, hinv⟩
  refine Res.run 900 ?_
  by_cases hlt : k < a.length
  case neg =>
    have e2 : decide ((k : Int) < (a.length : Int)) = false := by simp; omega
    obtain rfl : r = true := by
      rw [← hr]
      simp only [decide_eq_true_eq]
      exact List.ext_getElem hq (fun i h1 h2 => hinv i h1 h2 (by omega))
    simp only [↓reduceIte, Nat.reduceEqDiff, Nat.reduceAdd, Nat.reduceSub, Nat.reduceMul, Nat.reduceLT, Int.reduceToNat, Int.reduceBEq, Int.reduceBNe, Int.reduceLT, Int.reduceLE, E, E', TY, e2]
    exact Ret.one rfl (by kernel_rfl)
  have e2 : decide ((k : Int) < (a.length : Int)) = true := by simp; omega
  have hkb : k < b.length := by omega
  obtain ⟨a0, a1, a2, a3, a4⟩ := vcs_at ha k hlt
  obtain ⟨b0, b1, b2, b3, b4⟩ := vcs_at hb k hkb
  have hAs : A.isSome = true := okRd_some a0
  have hBs : B.isSome = true := okRd_some b0
  simp only [↓reduceIte, Nat.reduceEqDiff, Nat.reduceAdd, Nat.reduceSub, Nat.reduceMul, Nat.reduceLT, Int.reduceToNat, Int.reduceBEq, Int.reduceBNe, Int.reduceLT, Int.reduceLE, E, E', TY, e2]
  refine Res.quiet [] (by kernel_rfl) (by kernel_rfl) ?_
  simp only [↓reduceIte, Nat.reduceEqDiff, Nat.reduceAdd, Nat.reduceSub, Nat.reduceMul, Nat.reduceLT, Int.reduceToNat, Int.reduceBEq, Int.reduceBNe, Int.reduceLT, Int.reduceLE, E, E', TY, a1, a2, a3, a4, b1, b2, b3, b4, Int.toNat_natCast]
  refine ⟨⟨by omega, by omega, hAs⟩, a0, ⟨by omega, by omega, hBs⟩, b0, ?_⟩
  refine Res.run 900 ?_
  have hv : (a[k].k == b[k].k && (a[k].nul == b[k].nul && (a[k].h.k == b[k].h.k && (a[k].h.n == b[k].h.n)))) = decide (a[k] = b[k]) := by
    generalize a[k] = p, b[k] = q
    obtain ⟨p1, p2, p3, p4⟩ := p
    obtain ⟨q1, q2, q3, q4⟩ := q
    rw [Bool.eq_iff_iff]; simp [and_assoc]
  cases hw : decide (a[k] = b[k]) with
  | false =>
    rw [hw] at hv
    obtain rfl : r = false := by
      rw [← hr]
      simp only [decide_eq_false_iff_not]
      rintro rfl
      simp at hw
    simp only [↓reduceIte, Nat.reduceEqDiff, Nat.reduceAdd, Nat.reduceSub, Nat.reduceMul, Nat.reduceLT, Int.reduceToNat, Int.reduceBEq, Int.reduceBNe, Int.reduceLT, Int.reduceLE, E, E', TY, hv]
    exact Ret.one rfl (by kernel_rfl)
  | true =>
    rw [hw] at hv
    simp only [↓reduceIte, Nat.reduceEqDiff, Nat.reduceAdd, Nat.reduceSub, Nat.reduceMul, Nat.reduceLT, Int.reduceToNat, Int.reduceBEq, Int.reduceBNe, Int.reduceLT, Int.reduceLE, E, E', TY, hv]
    refine ⟨i64ok_of (by omega) (by omega), ?_⟩
    refine Res.again (⟨k + 1, by omega, fun j h1 h2 hj => ?_⟩ : {k : Nat // k ≤ a.length ∧ ∀ j (h1 : j < a.length) (h2 : j < b.length), j < k → a[j] = b[j]}) (by simp only; omega) (St.Le.of 0 (by simp only [↓reduceIte, Nat.reduceEqDiff, Nat.reduceAdd, Nat.reduceSub, Nat.reduceMul, Nat.reduceLT, Int.reduceToNat, Int.reduceBEq, Int.reduceBNe, Int.reduceLT, Int.reduceLE, E, E', TY, Int.natCast_add, Int.cast_ofNat_Int]))
    by_cases hjk : j = k
    · subst hjk; exact of_decide_eq_true hw
    · exact hinv j h1 h2 (by omega)

theorem m_eqF {w : World} (a b : List Fd) (A B : Option Addr) (ca cb : Nat) (ha : Cs (· < w.heap.size) w A (fcs a)) (hb : Cs (· < w.heap.size) w B (fcs b)) (hl : a.length ≤ 1100000) :
    Calls Tryd.prog 48 #[.slice A a.length ca, .slice B b.length cb] w fun e w' => e = .returned (.bool (decide (a = b))) ∧ Ext w w' := by
  obtain ⟨r, hr⟩ : ∃ r, decide (a = b) = r := ⟨_, rfl⟩
  rw [hr]
  refine start0 (args := [.v (.slice A a.length ca), .v (.slice B b.length cb)]) (G := (· < w.heap.size)) Tryd.func48 rfl Tryd.ntmps48 (by simp [SV.lt]) (fun _ h => h) ?_
  refine Res.run 1000 ?_
  by_cases hq : a.length = b.length
  case neg =>
    have e1 : ((a.length : Int) != (b.length : Int)) = true := by simp; omega
    obtain rfl : r = false := by rw [← hr]; simp only [decide_eq_false_iff_not]; intro h; exact hq (by rw [h])
    simp only [↓reduceIte, Nat.reduceEqDiff, Nat.reduceAdd, Nat.reduceSub, Nat.reduceMul, Nat.reduceLT, Int.reduceToNat, Int.reduceBEq, Int.reduceBNe, Int.reduceLT, Int.reduceLE, E, E', TY, e1]
    exact Ret.one rfl (by kernel_rfl)
  have e1 : ((a.length : Int) != (b.length : Int)) = false := by simp [hq]
  simp only [↓reduceIte, Nat.reduceEqDiff, Nat.reduceAdd, Nat.reduceSub, Nat.reduceMul, Nat.reduceLT, Int.reduceToNat, Int.reduceBEq, Int.reduceBNe, Int.reduceLT, Int.reduceLE, E, E', TY, e1]
  refine Res.loop (X := {k : Nat // k ≤ a.length ∧ ∀ j (h1 : j < a.length) (h2 : j < b.length), j < k → a[j] = b[j]})
    (fun x => { T := mkT 26 [(0, .v (.slice A a.length ca)), (1, .v (.slice B b.length cb)), (4, .v (.bool false)), (12, .v (.int .i64 a.length)), (13, .v (.int .i64 (x.1 : Int)))], X := [], L := [], D := [] })
    (fun x => a.length - x.1) ⟨0, by omega, fun _ _ _ h => absurd h (by omega)⟩ (St.Le.of 0 (by simp only [↓reduceIte, Nat.reduceEqDiff, Nat.reduceAdd, Nat.reduceSub, Nat.reduceMul, Nat.reduceLT, Int.reduceToNat, Int.reduceBEq, Int.reduceBNe, Int.reduceLT, Int.reduceLE, E, E', TY]; simp)) ?_
  rintro ⟨k, hk, hinv⟩
  refine Res.run 900 ?_
  by_cases hlt : k < a.length
  case neg =>
    have e2 : decide ((k : Int) < (a.length : Int)) = false := by simp; omega
    obtain rfl : r = true := by
      rw [← hr]
      simp only [decide_eq_true_eq]
      exact List.ext_getElem hq (fun i h1 h2 => hinv i h1 h2 (by omega))
    simp only [↓reduceIte, Nat.reduceEqDiff, Nat.reduceAdd, Nat.reduceSub, Nat.reduceMul, Nat.reduceLT, Int.reduceToNat, Int.reduceBEq, Int.reduceBNe, Int.reduceLT, Int.reduceLE, E, E', TY, e2]
    exact Ret.one rfl (by kernel_rfl)
  have e2 : decide ((k : Int) < (a.length : Int)) = true := by simp; omega
  have hkb : k < b.length := by omega
  obtain ⟨a0, a1, a2, a3, a4, a5, a6⟩ := fcs_at ha k hlt
  obtain ⟨b0, b1, b2, b3, b4, b5, b6⟩ := fcs_at hb k hkb
  have hAs : A.isSome = true := okRd_some a0
  have hBs : B.isSome = true := okRd_some b0
  simp only [↓reduceIte, Nat.reduceEqDiff, Nat.reduceAdd, Nat.reduceSub, Nat.reduceMul, Nat.reduceLT, Int.reduceToNat, Int.reduceBEq, Int.reduceBNe, Int.reduceLT, Int.reduceLE, E, E', TY, e2]
  refine Res.quiet [] (by kernel_rfl) (by kernel_rfl) ?_
  simp only [↓reduceIte, Nat.reduceEqDiff, Nat.reduceAdd, Nat.reduceSub, Nat.reduceMul, Nat.reduceLT, Int.reduceToNat, Int.reduceBEq, Int.reduceBNe, Int.reduceLT, Int.reduceLE, E, E', TY, a1, a2, a3, a4, a5, a6, b1, b2, b3, b4, b5, b6, Int.toNat_natCast]
  refine ⟨⟨by omega, by omega, hAs⟩, a0, ⟨by omega, by omega, hBs⟩, b0, ?_⟩
  refine Res.run 900 ?_
  have hv : (a[k].pk == b[k].pk && (a[k].t.k == b[k].t.k && (a[k].t.nul == b[k].t.nul && (a[k].t.h.k == b[k].t.h.k && (a[k].t.h.n == b[k].t.h.n && (a[k].m == b[k].m)))))) = decide (a[k] = b[k]) := by
    generalize a[k] = p, b[k] = q
    obtain ⟨p1, ⟨p2, p3, p4, p5⟩, p6⟩ := p
    obtain ⟨q1, ⟨q2, q3, q4, q5⟩, q6⟩ := q
    rw [Bool.eq_iff_iff]; simp [and_assoc]
  cases hw : decide (a[k] = b[k]) with
  | false =>
    rw [hw] at hv
    obtain rfl : r = false := by
      rw [← hr]
      simp only [decide_eq_false_iff_not]
      rintro rfl
      simp at hw
    simp only [↓reduceIte, Nat.reduceEqDiff, Nat.reduceAdd, Nat.reduceSub, Nat.reduceMul, Nat.reduceLT, Int.reduceToNat, Int.reduceBEq, Int.reduceBNe, Int.reduceLT, Int.reduceLE, E, E', TY, hv]
    exact Ret.one rfl (by kernel_rfl)
  | true =>
    rw [hw] at hv
    simp only [↓reduceIte, Nat.reduceEqDiff, Nat.reduceAdd, Nat.reduceSub, Nat.reduceMul, Nat.reduceLT, Int.reduceToNat, Int.reduceBEq, Int.reduceBNe, Int.reduceLT, Int.reduceLE, E, E', TY, hv]
    refine ⟨i64ok_of (by omega) (by omega), ?_⟩
    refine Res.again (⟨k + 1, by omega, fun j h1 h2 hj => ?_⟩ : {k : Nat // k ≤ a.length ∧ ∀ j (h1 : j < a.length) (h2 : j < b.length), j < k → a[j] = b[j]}) (by simp only; omega) (St.Le.of 0 (by simp only [↓reduceIte, Nat.reduceEqDiff, Nat.reduceAdd, Nat.reduceSub, Nat.reduceMul, Nat.reduceLT, Int.reduceToNat, Int.reduceBEq, Int.reduceBNe, Int.reduceLT, Int.reduceLE, E, E', TY, Int.natCast_add, Int.cast_ofNat_Int]))
    by_cases hjk : j = k
    · subst hjk; exact of_decide_eq_true hw
    · exact hinv j h1 h2 (by omega)

theorem m_SameVals {w : World} (a b : List Vl) (A B : Option Addr) (ca cb : Nat) (ha : Cs (· < w.heap.size) w A (vcs a)) (hb : Cs (· < w.heap.size) w B (vcs b)) (hl : a.length ≤ 1100000) :
    Calls Tryd.prog 47 #[.slice A a.length ca, .slice B b.length cb] w fun e w' => e = .returned (.bool (decide (a = b))) ∧ Ext w w' := by
  refine start0 (args := [.v (.slice A a.length ca), .v (.slice B b.length cb)]) (G := (· < w.heap.size)) Tryd.func47 rfl Tryd.ntmps47 (by simp [SV.lt]) (fun _ h => h) ?_
  refine Res.run 1000 ?_
  simp only [↓reduceIte, Nat.reduceEqDiff, Nat.reduceAdd, Nat.reduceSub, Nat.reduceMul, Nat.reduceLT, Int.reduceToNat, Int.reduceBEq, Int.reduceBNe, Int.reduceLT, Int.reduceLE, E, E', TY]
  refine ⟨fnok75, CallAt.pure #[.slice A a.length ca, .slice B b.length cb] (.bool (decide (a = b))) (fun _ => rfl) (fun w' hw => m_eqV a b A B ca cb (ha.ext hw) (hb.ext hw) hl) (Res.run 900 ?_)⟩
  simp only [↓reduceIte, Nat.reduceEqDiff, Nat.reduceAdd, Nat.reduceSub, Nat.reduceMul, Nat.reduceLT, Int.reduceToNat, Int.reduceBEq, Int.reduceBNe, Int.reduceLT, Int.reduceLE, E, E', TY]
  exact Ret.one rfl (by kernel_rfl)

theorem sb_eq {a b : Sb} (h1 : a.fin = b.fin) (h2 : a.su = b.su) (h3 : a.k = b.k) (h4 : a.ps = b.ps) (h5 : a.rs = b.rs) : decide (a = b) = decide (a.fs = b.fs) := by
  cases a; cases b
  simp only at h1 h2 h3 h4 h5
  subst h1 h2 h3 h4 h5
  simp
theorem m_Same {w : World} (a b : Sb) (x y : SL) (ha : SbR (· < w.heap.size) w a x) (hb : SbR (· < w.heap.size) w b y) (hz : a.small 1100000) :
    Calls Tryd.prog 13 #[a.v x, b.v y] w fun e w' => e = .returned (.bool (decide (a = b))) ∧ Ext w w' := by
  obtain ⟨r, hr⟩ : ∃ r, decide (a = b) = r := ⟨_, rfl⟩
  rw [hr]
  refine start0 (args := [.v (a.v x), .v (b.v y)]) (G := (· < w.heap.size)) Tryd.func13 rfl Tryd.ntmps13 (by simp [SV.lt]) (fun _ h => h) ?_
  refine Res.run 1000 ?_
  simp only [↓reduceIte, Nat.reduceEqDiff, Nat.reduceAdd, Nat.reduceSub, Nat.reduceMul, Nat.reduceLT, Int.reduceToNat, Int.reduceBEq, Int.reduceBNe, Int.reduceLT, Int.reduceLE, E, E', TY, Sb.v]
  have hne : ∀ {p : Prop}, (a = b → p) → ¬ p → r = false := fun h1 h2 => by rw [← hr]; exact decide_eq_false fun h => h2 (h1 h)
  refine Res.draw 7 [.cells 29 [.v (.bool a.fin), .v (.slice x.a1 a.su.length x.c1), .v (.int .i64 a.k), .v (.slice x.a2 a.ps.length x.c2), .v (.slice x.a3 a.rs.length x.c3), .v (.slice x.a4 a.fs.length x.c4)],
    .cells 29 [.v (.bool b.fin), .v (.slice y.a1 b.su.length y.c1), .v (.int .i64 b.k), .v (.slice y.a2 b.ps.length y.c2), .v (.slice y.a3 b.rs.length y.c3), .v (.slice y.a4 b.fs.length y.c4)]]
    (.take 0 (.take 1 (.take 2 (.take 3 (.run 4 (.run 5 (.run 6 .fin .fin) .fin) (.run 5 (.run 4 (.run 6 .fin .fin) .fin) .fin)))))) (by kernel_rfl) (by kernel_rfl) fun new hnew => ?_
  obtain ⟨n0, n1, rfl⟩ : ∃ n0 n1, new = [n0, n1] := by
    match new, hnew with
    | [n0, n1], _ => exact ⟨n0, n1, rfl⟩
  refine Res.run 900 ?_
  simp only [↓reduceIte, Nat.reduceEqDiff, Nat.reduceAdd, Nat.reduceSub, Nat.reduceMul, Nat.reduceLT, Int.reduceToNat, Int.reduceBEq, Int.reduceBNe, Int.reduceLT, Int.reduceLE, E, E', TY, List.nil_append]
  refine ⟨?_, ?_⟩
  all_goals
    cases h1 : (a.fin == b.fin) with
    | false =>
      obtain rfl : r = false := hne (p := (a.fin == b.fin) = true) (fun h => by rw [h]; simp) (by rw [h1]; simp)
      simp only [↓reduceIte, Nat.reduceEqDiff, Nat.reduceAdd, Nat.reduceSub, Nat.reduceMul, Nat.reduceLT, Int.reduceToNat, Int.reduceBEq, Int.reduceBNe, Int.reduceLT, Int.reduceLE, E, E', TY, h1]
      exact Ret.one rfl (by kernel_rfl)
    | true =>
    simp only [↓reduceIte, Nat.reduceEqDiff, Nat.reduceAdd, Nat.reduceSub, Nat.reduceMul, Nat.reduceLT, Int.reduceToNat, Int.reduceBEq, Int.reduceBNe, Int.reduceLT, Int.reduceLE, E, E', TY, h1]
    refine ⟨fnok46, CallAt.pure #[.slice x.a1 a.su.length x.c1, .slice y.a1 b.su.length y.c1] (.bool (decide (a.su = b.su))) (fun _ => rfl) (fun w' hw => m_eqH _ _ _ _ _ _ (ha.su.ext hw) (hb.su.ext hw) hz.su) (Res.run 900 ?_)⟩
    cases h2 : decide (a.su = b.su) with
    | false =>
      obtain rfl : r = false := hne (p := a.su = b.su) (fun h => by rw [h]) (of_decide_eq_false h2)
      simp only [↓reduceIte, Nat.reduceEqDiff, Nat.reduceAdd, Nat.reduceSub, Nat.reduceMul, Nat.reduceLT, Int.reduceToNat, Int.reduceBEq, Int.reduceBNe, Int.reduceLT, Int.reduceLE, E, E', TY]
      exact Ret.one rfl (by kernel_rfl)
    | true =>
    cases h3 : (a.k == b.k) with
    | false =>
      obtain rfl : r = false := hne (p := (a.k == b.k) = true) (fun h => by rw [h]; simp) (by rw [h3]; simp)
      simp only [↓reduceIte, Nat.reduceEqDiff, Nat.reduceAdd, Nat.reduceSub, Nat.reduceMul, Nat.reduceLT, Int.reduceToNat, Int.reduceBEq, Int.reduceBNe, Int.reduceLT, Int.reduceLE, E, E', TY, h3]
      exact Ret.one rfl (by kernel_rfl)
    | true =>
    simp only [↓reduceIte, Nat.reduceEqDiff, Nat.reduceAdd, Nat.reduceSub, Nat.reduceMul, Nat.reduceLT, Int.reduceToNat, Int.reduceBEq, Int.reduceBNe, Int.reduceLT, Int.reduceLE, E, E', TY, h3]
    refine ⟨fnok47, CallAt.pure #[.slice x.a2 a.ps.length x.c2, .slice y.a2 b.ps.length y.c2] (.bool (decide (a.ps = b.ps))) (fun _ => rfl) (fun w' hw => m_SameVals _ _ _ _ _ _ (ha.ps.ext hw) (hb.ps.ext hw) hz.ps) (Res.run 900 ?_)⟩
    cases h4 : decide (a.ps = b.ps) with
    | false =>
      obtain rfl : r = false := hne (p := a.ps = b.ps) (fun h => by rw [h]) (of_decide_eq_false h4)
      simp only [↓reduceIte, Nat.reduceEqDiff, Nat.reduceAdd, Nat.reduceSub, Nat.reduceMul, Nat.reduceLT, Int.reduceToNat, Int.reduceBEq, Int.reduceBNe, Int.reduceLT, Int.reduceLE, E, E', TY]
      exact Ret.one rfl (by kernel_rfl)
    | true =>
    simp only [↓reduceIte, Nat.reduceEqDiff, Nat.reduceAdd, Nat.reduceSub, Nat.reduceMul, Nat.reduceLT, Int.reduceToNat, Int.reduceBEq, Int.reduceBNe, Int.reduceLT, Int.reduceLE, E, E', TY]
    refine ⟨fnok47, CallAt.pure #[.slice x.a3 a.rs.length x.c3, .slice y.a3 b.rs.length y.c3] (.bool (decide (a.rs = b.rs))) (fun _ => rfl) (fun w' hw => m_SameVals _ _ _ _ _ _ (ha.rs.ext hw) (hb.rs.ext hw) hz.rs) (Res.run 900 ?_)⟩
    cases h5 : decide (a.rs = b.rs) with
    | false =>
      obtain rfl : r = false := hne (p := a.rs = b.rs) (fun h => by rw [h]) (of_decide_eq_false h5)
      simp only [↓reduceIte, Nat.reduceEqDiff, Nat.reduceAdd, Nat.reduceSub, Nat.reduceMul, Nat.reduceLT, Int.reduceToNat, Int.reduceBEq, Int.reduceBNe, Int.reduceLT, Int.reduceLE, E, E', TY]
      exact Ret.one rfl (by kernel_rfl)
    | true =>
    simp only [↓reduceIte, Nat.reduceEqDiff, Nat.reduceAdd, Nat.reduceSub, Nat.reduceMul, Nat.reduceLT, Int.reduceToNat, Int.reduceBEq, Int.reduceBNe, Int.reduceLT, Int.reduceLE, E, E', TY]
    refine ⟨fnok48, CallAt.pure #[.slice x.a4 a.fs.length x.c4, .slice y.a4 b.fs.length y.c4] (.bool (decide (a.fs = b.fs))) (fun _ => rfl) (fun w' hw => m_eqF _ _ _ _ _ _ (ha.fs.ext hw) (hb.fs.ext hw) hz.fs) (Res.run 900 ?_)⟩
    have h6 : decide (a.fs = b.fs) = r := by
      rw [← hr, sb_eq (eq_of_beq h1) (of_decide_eq_true h2) (eq_of_beq h3) (of_decide_eq_true h4) (of_decide_eq_true h5)]
    rw [h6]
    simp only [↓reduceIte, Nat.reduceEqDiff, Nat.reduceAdd, Nat.reduceSub, Nat.reduceMul, Nat.reduceLT, Int.reduceToNat, Int.reduceBEq, Int.reduceBNe, Int.reduceLT, Int.reduceLE, E, E', TY]
    exact Ret.one rfl (by kernel_rfl)

def dfF (v : Vl) : Bool := v.k == 1 || (v.k == 2 || (v.k == 3 && v.nul))
theorem m_Default {w : World} (v : Vl) : Calls Tryd.prog 34 #[v.v] w fun e w' => e = .returned (.bool (dfF v)) ∧ Ext w w' := by
  obtain ⟨k, nul, hk, hn⟩ := v
  obtain ⟨r, hr⟩ : ∃ r, dfF ⟨k, nul, hk, hn⟩ = r := ⟨_, rfl⟩
  rw [hr]
  unfold dfF at hr
  simp only at hr
  refine start0 (args := [.v (.agg #[.int .i64 k, .bool nul, .int .i64 hk, .int .i64 hn])]) (G := (· < w.heap.size)) Tryd.func34 rfl Tryd.ntmps34 (by simp [SV.lt]) (fun _ h => h) ?_
  refine Res.run 1000 ?_
  cases h1 : (k == 1) with
  | true =>
    obtain rfl : r = true := by rw [← hr, h1]; rfl
    simp only [↓reduceIte, Nat.reduceEqDiff, Nat.reduceAdd, Nat.reduceSub, Nat.reduceMul, Nat.reduceLT, Int.reduceToNat, Int.reduceBEq, Int.reduceBNe, Int.reduceLT, Int.reduceLE, E, E', TY, h1]
    exact Ret.one rfl (by kernel_rfl)
  | false =>
  cases h2 : (k == 2) with
  | true =>
    obtain rfl : r = true := by rw [← hr, h1, h2]; rfl
    simp only [↓reduceIte, Nat.reduceEqDiff, Nat.reduceAdd, Nat.reduceSub, Nat.reduceMul, Nat.reduceLT, Int.reduceToNat, Int.reduceBEq, Int.reduceBNe, Int.reduceLT, Int.reduceLE, E, E', TY, h1, h2]
    exact Ret.one rfl (by kernel_rfl)
  | false =>
  cases h3 : (k == 3) with
  | false =>
    obtain rfl : r = false := by rw [← hr, h1, h2, h3]; rfl
    simp only [↓reduceIte, Nat.reduceEqDiff, Nat.reduceAdd, Nat.reduceSub, Nat.reduceMul, Nat.reduceLT, Int.reduceToNat, Int.reduceBEq, Int.reduceBNe, Int.reduceLT, Int.reduceLE, E, E', TY, h1, h2, h3]
    exact Ret.one rfl (by kernel_rfl)
  | true =>
    obtain rfl : r = nul := by rw [← hr, h1, h2, h3]; simp
    cases r <;> (simp only [↓reduceIte, Nat.reduceEqDiff, Nat.reduceAdd, Nat.reduceSub, Nat.reduceMul, Nat.reduceLT, Int.reduceToNat, Int.reduceBEq, Int.reduceBNe, Int.reduceLT, Int.reduceLE, E, E', TY, h1, h2, h3]; exact Ret.one rfl (by kernel_rfl))
end Go.Proofs.YtkcbmkoafmffoaaDoor
