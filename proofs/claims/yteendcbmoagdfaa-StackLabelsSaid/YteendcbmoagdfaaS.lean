/-
  Slices of value types that are read; lists of them matched and compared, over a table without types.
-/
import Derived.Test.YteendcbmoagdfaaM4
set_option linter.unusedVariables false
set_option linter.unusedSimpArgs false
set_option maxRecDepth 20000
set_option maxHeartbeats 4000000
namespace Go.Proofs.Yteendcbmoagdfaa
open Go Go.Eng

/-- The list l lies at A, in blocks of G. -/
def SlV (G : Nat → Prop) (W : World) (A : Option Addr) (l : List Vl) : Prop :=
  ∀ i (h : i < l.length), okRd G W (pAdd A (i * 4)) 0 4 ∧ rd W (pAdd A (i * 4)) 0 = .int .i64 l[i].k ∧ rd W (pAdd A (i * 4)) 1 = .bool l[i].nul ∧ rd W (pAdd A (i * 4)) 2 = .int .i64 l[i].hk ∧ rd W (pAdd A (i * 4)) 3 = .int .i64 l[i].hn

theorem SlV.keep {G : Nat → Prop} {W w : World} {A : Option Addr} {l : List Vl} (h : SlV G W A l) (hk : Keep G W w) : SlV G w A l := by
  intro i hi
  obtain ⟨h0, h1, h2, h3, h4⟩ := h i hi
  have r0 := okRd_rd h0 hk 0 (by omega)
  have r1 := okRd_rd h0 hk 1 (by omega)
  have r2 := okRd_rd h0 hk 2 (by omega)
  have r3 := okRd_rd h0 hk 3 (by omega)
  simp only [Nat.zero_add] at r0 r1 r2 r3
  exact ⟨okRd_keep h0 hk, by rw [r0, h1], by rw [r1, h2], by rw [r2, h3], by rw [r3, h4]⟩
theorem SlV.mono {G G' : Nat → Prop} {W : World} {A : Option Addr} {l : List Vl} (h : SlV G W A l) (hg : ∀ b, G b → G' b) : SlV G' W A l :=
  fun i hi => ⟨okRd_mono (h i hi).1 hg, (h i hi).2⟩
theorem SlV.isSome {G : Nat → Prop} {W : World} {A : Option Addr} {l : List Vl} (h : SlV G W A l) {i : Nat} (hi : i < l.length) : A.isSome = true := okRd_some (h i hi).1

def valsF (a b : List Vl) : Bool := a.length == b.length && (a.zip b).all fun p => valF p.1 p.2

theorem valsF_false {a b : List Vl} {i : Nat} (ha : i < a.length) (hb : i < b.length) (h : valF a[i] b[i] = false) : valsF a b = false := by
  unfold valsF
  rw [Bool.and_eq_false_iff]
  right
  rw [List.all_eq_false]
  refine ⟨(a[i], b[i]), ?_, by simp [h]⟩
  rw [List.mem_iff_getElem]
  exact ⟨i, by simp; omega, by simp⟩
theorem valsF_true {a b : List Vl} (hl : a.length = b.length) (h : ∀ i (ha : i < a.length) (hb : i < b.length), valF a[i] b[i] = true) : valsF a b = true := by
  unfold valsF
  rw [Bool.and_eq_true]
  refine ⟨by simp [hl], ?_⟩
  rw [List.all_eq_true]
  rintro ⟨x, y⟩ hm
  obtain ⟨i, hi, he⟩ := List.mem_iff_getElem.1 hm
  have hi' : i < a.length ∧ i < b.length := by simpa [Nat.lt_min] using hi
  simp only [List.getElem_zip, Prod.mk.injEq] at he
  obtain ⟨rfl, rfl⟩ := he
  exact h i hi'.1 hi'.2

theorem m_vmatch {w : World} {t : Nat} (h : ETab w t) (a b : List Vl) (A B : Option Addr) (ca cb : Nat) (ha : SlV (· < w.heap.size) w A a) (hb : SlV (· < w.heap.size) w B b) (hl : a.length ≤ 1000000) :
    Calls Try.prog 34 #[.slice A a.length ca, .pointer (some ⟨t, 0, none⟩), .slice B b.length cb] w fun e w' => e = .returned (.bool (valsF a b)) ∧ Ext w w' := by
  obtain ⟨r, hr⟩ : ∃ r, valsF a b = r := ⟨_, rfl⟩
  rw [hr]
  refine start0 (args := [.v (.slice A a.length ca), .v (.pointer (some ⟨t, 0, none⟩)), .v (.slice B b.length cb)]) (G := (· < w.heap.size)) Try.func34 rfl Try.ntmps34 (by simp [SV.lt]) (fun _ h => h) ?_
  refine Res.run 1000 ?_
  by_cases hq : a.length = b.length
  case neg =>
    have e1 : ((a.length : Int) != (b.length : Int)) = true := by simp; omega
    obtain rfl : r = false := by rw [← hr]; simp [valsF, hq]
    simp only [↓reduceIte, Nat.reduceEqDiff, Nat.reduceAdd, Nat.reduceSub, Nat.reduceMul, Nat.reduceLT, Int.reduceToNat, Int.reduceBEq, Int.reduceBNe, Int.reduceLT, Int.reduceLE, E, E', TY, e1]
    exact Ret.one rfl (by kernel_rfl)
  have e1 : ((a.length : Int) != (b.length : Int)) = false := by simp [hq]
  simp only [↓reduceIte, Nat.reduceEqDiff, Nat.reduceAdd, Nat.reduceSub, Nat.reduceMul, Nat.reduceLT, Int.reduceToNat, Int.reduceBEq, Int.reduceBNe, Int.reduceLT, Int.reduceLE, E, E', TY, e1]
  refine Res.loop (X := {k : Nat // k ≤ a.length ∧ ∀ j (h1 : j < a.length) (h2 : j < b.length), j < k → valF a[j] b[j] = true})
    (fun x => { T := mkT 30 [(0, .v (.slice A a.length ca)), (1, .v (.pointer (some ⟨t, 0, none⟩))), (2, .v (.slice B b.length cb)), (6, .v (.bool false)), (14, .v (.int .i64 a.length)), (15, .v (.int .i64 (x.1 : Int)))], X := [], L := [], D := [] })
    (fun x => a.length - x.1) ⟨0, by omega, fun _ _ _ h => absurd h (by omega)⟩ (St.Le.of 0 (by simp only [↓reduceIte, Nat.reduceEqDiff, Nat.reduceAdd, Nat.reduceSub, Nat.reduceMul, Nat.reduceLT, Int.reduceToNat, Int.reduceBEq, Int.reduceBNe, Int.reduceLT, Int.reduceLE, E, E', TY]; simp)) ?_
  rintro ⟨k, hk, hinv⟩
  refine Res.run 900 ?_
  by_cases hlt : k < a.length
  case neg =>
    have e2 : decide ((k : Int) < (a.length : Int)) = false := by simp; omega
    obtain rfl : r = true := by rw [← hr]; exact valsF_true hq (fun i h1 h2 => hinv i h1 h2 (by omega))
    simp only [↓reduceIte, Nat.reduceEqDiff, Nat.reduceAdd, Nat.reduceSub, Nat.reduceMul, Nat.reduceLT, Int.reduceToNat, Int.reduceBEq, Int.reduceBNe, Int.reduceLT, Int.reduceLE, E, E', TY, e2]
    exact Ret.one rfl (by kernel_rfl)
  have e2 : decide ((k : Int) < (a.length : Int)) = true := by simp; omega
  have hkb : k < b.length := by omega
  obtain ⟨a0, a1, a2, a3, a4⟩ := ha k hlt
  obtain ⟨b0, b1, b2, b3, b4⟩ := hb k hkb
  simp only [↓reduceIte, Nat.reduceEqDiff, Nat.reduceAdd, Nat.reduceSub, Nat.reduceMul, Nat.reduceLT, Int.reduceToNat, Int.reduceBEq, Int.reduceBNe, Int.reduceLT, Int.reduceLE, E, E', TY, e2]
  refine Res.quiet [.bool (valF a[k] b[k])] (by kernel_rfl) (by kernel_rfl) ?_
  simp only [↓reduceIte, Nat.reduceEqDiff, Nat.reduceAdd, Nat.reduceSub, Nat.reduceMul, Nat.reduceLT, Int.reduceToNat, Int.reduceBEq, Int.reduceBNe, Int.reduceLT, Int.reduceLE, E, E', TY, a1, a2, a3, a4, b1, b2, b3, b4, Int.toNat_natCast, fnok41]
  refine ⟨⟨by omega, by omega, ha.isSome hlt⟩, a0, ⟨by omega, by omega, hb.isSome hkb⟩, b0, fun new w' hs => m_Val (h.keep hs.ext) a[k] b[k], ?_⟩
  refine Res.run 900 ?_
  cases hv : valF a[k] b[k] with
  | false =>
    obtain rfl : r = false := by rw [← hr]; exact valsF_false hlt hkb hv
    simp only [↓reduceIte, Nat.reduceEqDiff, Nat.reduceAdd, Nat.reduceSub, Nat.reduceMul, Nat.reduceLT, Int.reduceToNat, Int.reduceBEq, Int.reduceBNe, Int.reduceLT, Int.reduceLE, E, E', TY]
    exact Ret.one rfl (by kernel_rfl)
  | true =>
    simp only [↓reduceIte, Nat.reduceEqDiff, Nat.reduceAdd, Nat.reduceSub, Nat.reduceMul, Nat.reduceLT, Int.reduceToNat, Int.reduceBEq, Int.reduceBNe, Int.reduceLT, Int.reduceLE, E, E', TY]
    refine ⟨i64ok_of (by omega) (by omega), ?_⟩
    refine Res.again (⟨k + 1, by omega, fun j h1 h2 hj => ?_⟩ : {k : Nat // k ≤ a.length ∧ ∀ j (h1 : j < a.length) (h2 : j < b.length), j < k → valF a[j] b[j] = true}) (by simp only; omega) (St.Le.of 0 (by simp only [↓reduceIte, Nat.reduceEqDiff, Nat.reduceAdd, Nat.reduceSub, Nat.reduceMul, Nat.reduceLT, Int.reduceToNat, Int.reduceBEq, Int.reduceBNe, Int.reduceLT, Int.reduceLE, E, E', TY, Int.natCast_add, Int.cast_ofNat_Int]))
    by_cases hjk : j = k
    · subst hjk; exact hv
    · exact hinv j h1 h2 (by omega)

theorem m_Vals {w : World} {t : Nat} (h : ETab w t) (a b : List Vl) (A B : Option Addr) (ca cb : Nat) (ha : SlV (· < w.heap.size) w A a) (hb : SlV (· < w.heap.size) w B b) (hl : a.length ≤ 1000000) :
    Calls Try.prog 21 #[.pointer (some ⟨t, 0, none⟩), .slice A a.length ca, .slice B b.length cb] w fun e w' => e = .returned (.bool (valsF a b)) ∧ Ext w w' := by
  refine start0 (args := [.v (.pointer (some ⟨t, 0, none⟩)), .v (.slice A a.length ca), .v (.slice B b.length cb)]) (G := (· < w.heap.size)) Try.func21 rfl Try.ntmps21 (by simp [SV.lt]) (fun _ h => h) ?_
  refine Res.run 1000 ?_
  simp only [↓reduceIte, Nat.reduceEqDiff, Nat.reduceAdd, Nat.reduceSub, Nat.reduceMul, Nat.reduceLT, Int.reduceToNat, Int.reduceBEq, Int.reduceBNe, Int.reduceLT, Int.reduceLE, E, E', TY]
  refine ⟨fnok35, CallAt.pure #[.pointer (some ⟨t, 0, none⟩)] (.bool false) (fun _ => rfl) (fun w' hw => m_gone (h.keep hw)) (Res.run 900 ?_)⟩
  simp only [↓reduceIte, Nat.reduceEqDiff, Nat.reduceAdd, Nat.reduceSub, Nat.reduceMul, Nat.reduceLT, Int.reduceToNat, Int.reduceBEq, Int.reduceBNe, Int.reduceLT, Int.reduceLE, E, E', TY]
  refine ⟨fnok34, CallAt.pure #[.slice A a.length ca, .pointer (some ⟨t, 0, none⟩), .slice B b.length cb] (.bool (valsF a b)) (fun _ => rfl)
    (fun w' hw => m_vmatch (h.keep hw) a b A B ca cb ((ha.keep hw).mono fun _ hb => Nat.lt_of_lt_of_le hb hw.size) ((hb.keep hw).mono fun _ hb => Nat.lt_of_lt_of_le hb hw.size) hl) (Res.run 900 ?_)⟩
  simp only [↓reduceIte, Nat.reduceEqDiff, Nat.reduceAdd, Nat.reduceSub, Nat.reduceMul, Nat.reduceLT, Int.reduceToNat, Int.reduceBEq, Int.reduceBNe, Int.reduceLT, Int.reduceLE, E, E', TY]
  exact Ret.one rfl (by kernel_rfl)

theorem eqVl_iff (a b : Vl) : eqVl a b = true ↔ a = b := by
  cases a; cases b
  simp [eqVl, Vl.mk.injEq]
def eqVls (a b : List Vl) : Bool := decide (a = b)

theorem m_Equal {w : World} (a b : List Vl) (A B : Option Addr) (ca cb : Nat) (ha : SlV (· < w.heap.size) w A a) (hb : SlV (· < w.heap.size) w B b) (hl : a.length ≤ 1000000) :
    Calls Try.prog 30 #[.slice A a.length ca, .slice B b.length cb] w fun e w' => e = .returned (.bool (eqVls a b)) ∧ Ext w w' := by
  obtain ⟨r, hr⟩ : ∃ r, eqVls a b = r := ⟨_, rfl⟩
  rw [hr]
  refine start0 (args := [.v (.slice A a.length ca), .v (.slice B b.length cb)]) (G := (· < w.heap.size)) Try.func30 rfl Try.ntmps30 (by simp [SV.lt]) (fun _ h => h) ?_
  refine Res.run 1000 ?_
  by_cases hq : a.length = b.length
  case neg =>
    have e1 : ((a.length : Int) != (b.length : Int)) = true := by simp; omega
    obtain rfl : r = false := by rw [← hr]; simp only [eqVls, decide_eq_false_iff_not]; intro h; exact hq (by rw [h])
    simp only [↓reduceIte, Nat.reduceEqDiff, Nat.reduceAdd, Nat.reduceSub, Nat.reduceMul, Nat.reduceLT, Int.reduceToNat, Int.reduceBEq, Int.reduceBNe, Int.reduceLT, Int.reduceLE, E, E', TY, e1]
    exact Ret.one rfl (by kernel_rfl)
  have e1 : ((a.length : Int) != (b.length : Int)) = false := by simp [hq]
  simp only [↓reduceIte, Nat.reduceEqDiff, Nat.reduceAdd, Nat.reduceSub, Nat.reduceMul, Nat.reduceLT, Int.reduceToNat, Int.reduceBEq, Int.reduceBNe, Int.reduceLT, Int.reduceLE, E, E', TY, e1]
  refine Res.loop (X := {k : Nat // k ≤ a.length ∧ ∀ j (h1 : j < a.length) (h2 : j < b.length), j < k → a[j] = b[j]})
    (fun x => { T := mkT 26 [(0, .v (.slice A a.length ca)), (1, .v (.slice B b.length cb)), (4, .v (.bool false)), (12, .v (.int .i64 a.length)), (13, .v (.int .i64 (x.1 : Int)))], X := [], L := [], D := [] })
    (fun x => a.length - x.1) ⟨0, by omega, fun _ _ _ h => absurd h (by omega)⟩ (St.Le.of 0 (by simp only [↓reduceIte, Nat.reduceEqDiff, Nat.reduceAdd, Nat.reduceSub, Nat.reduceMul, Nat.reduceLT, Int.reduceToNat, Int.reduceBEq, Int.reduceBNe, Int.reduceLT, Int.reduceLE, E, E', TY]; simp)) ?_
  rintro ⟨k, hk, hinv⟩
  refine Res.run 900 ?_
  by_cases hlt : k < a.length
  case neg =>
    have e2 : decide ((k : Int) < (a.length : Int)) = false := by simp; omega
    obtain rfl : r = true := by
      rw [← hr]
      simp only [eqVls, decide_eq_true_eq]
      exact List.ext_getElem hq (fun i h1 h2 => hinv i h1 h2 (by omega))
    simp only [↓reduceIte, Nat.reduceEqDiff, Nat.reduceAdd, Nat.reduceSub, Nat.reduceMul, Nat.reduceLT, Int.reduceToNat, Int.reduceBEq, Int.reduceBNe, Int.reduceLT, Int.reduceLE, E, E', TY, e2]
    exact Ret.one rfl (by kernel_rfl)
  have e2 : decide ((k : Int) < (a.length : Int)) = true := by simp; omega
  have hkb : k < b.length := by omega
  obtain ⟨a0, a1, a2, a3, a4⟩ := ha k hlt
  obtain ⟨b0, b1, b2, b3, b4⟩ := hb k hkb
  simp only [↓reduceIte, Nat.reduceEqDiff, Nat.reduceAdd, Nat.reduceSub, Nat.reduceMul, Nat.reduceLT, Int.reduceToNat, Int.reduceBEq, Int.reduceBNe, Int.reduceLT, Int.reduceLE, E, E', TY, e2]
  refine Res.quiet [] (by kernel_rfl) (by kernel_rfl) ?_
  simp only [↓reduceIte, Nat.reduceEqDiff, Nat.reduceAdd, Nat.reduceSub, Nat.reduceMul, Nat.reduceLT, Int.reduceToNat, Int.reduceBEq, Int.reduceBNe, Int.reduceLT, Int.reduceLE, E, E', TY, a1, a2, a3, a4, b1, b2, b3, b4, Int.toNat_natCast]
  refine ⟨⟨by omega, by omega, ha.isSome hlt⟩, a0, ⟨by omega, by omega, hb.isSome hkb⟩, b0, ?_⟩
  refine Res.run 900 ?_
  have hv : (a[k].k == b[k].k && (a[k].nul == b[k].nul && (a[k].hk == b[k].hk && a[k].hn == b[k].hn))) = eqVl a[k] b[k] := rfl
  cases hw : eqVl a[k] b[k] with
  | false =>
    rw [hw] at hv
    obtain rfl : r = false := by
      rw [← hr]
      simp only [eqVls, decide_eq_false_iff_not]
      rintro rfl
      rw [(eqVl_iff _ _).2 rfl] at hw
      cases hw
    simp only [↓reduceIte, Nat.reduceEqDiff, Nat.reduceAdd, Nat.reduceSub, Nat.reduceMul, Nat.reduceLT, Int.reduceToNat, Int.reduceBEq, Int.reduceBNe, Int.reduceLT, Int.reduceLE, E, E', TY, hv]
    exact Ret.one rfl (by kernel_rfl)
  | true =>
    rw [hw] at hv
    simp only [↓reduceIte, Nat.reduceEqDiff, Nat.reduceAdd, Nat.reduceSub, Nat.reduceMul, Nat.reduceLT, Int.reduceToNat, Int.reduceBEq, Int.reduceBNe, Int.reduceLT, Int.reduceLE, E, E', TY, hv]
    refine ⟨i64ok_of (by omega) (by omega), ?_⟩
    refine Res.again (⟨k + 1, by omega, fun j h1 h2 hj => ?_⟩ : {k : Nat // k ≤ a.length ∧ ∀ j (h1 : j < a.length) (h2 : j < b.length), j < k → a[j] = b[j]}) (by simp only; omega) (St.Le.of 0 (by simp only [↓reduceIte, Nat.reduceEqDiff, Nat.reduceAdd, Nat.reduceSub, Nat.reduceMul, Nat.reduceLT, Int.reduceToNat, Int.reduceBEq, Int.reduceBNe, Int.reduceLT, Int.reduceLE, E, E', TY, Int.natCast_add, Int.cast_ofNat_Int]))
    by_cases hjk : j = k
    · subst hjk; exact (eqVl_iff _ _).1 hw
    · exact hinv j h1 h2 (by omega)

theorem m_SameVals {w : World} (a b : List Vl) (A B : Option Addr) (ca cb : Nat) (ha : SlV (· < w.heap.size) w A a) (hb : SlV (· < w.heap.size) w B b) (hl : a.length ≤ 1000000) :
    Calls Try.prog 15 #[.slice A a.length ca, .slice B b.length cb] w fun e w' => e = .returned (.bool (eqVls a b)) ∧ Ext w w' := by
  refine start0 (args := [.v (.slice A a.length ca), .v (.slice B b.length cb)]) (G := (· < w.heap.size)) Try.func15 rfl Try.ntmps15 (by simp [SV.lt]) (fun _ h => h) ?_
  refine Res.run 1000 ?_
  simp only [↓reduceIte, Nat.reduceEqDiff, Nat.reduceAdd, Nat.reduceSub, Nat.reduceMul, Nat.reduceLT, Int.reduceToNat, Int.reduceBEq, Int.reduceBNe, Int.reduceLT, Int.reduceLE, E, E', TY]
  refine ⟨fnok30, CallAt.pure #[.slice A a.length ca, .slice B b.length cb] (.bool (eqVls a b)) (fun _ => rfl)
    (fun w' hw => m_Equal a b A B ca cb ((ha.keep hw).mono fun _ hb => Nat.lt_of_lt_of_le hb hw.size) ((hb.keep hw).mono fun _ hb => Nat.lt_of_lt_of_le hb hw.size) hl) (Res.run 900 ?_)⟩
  simp only [↓reduceIte, Nat.reduceEqDiff, Nat.reduceAdd, Nat.reduceSub, Nat.reduceMul, Nat.reduceLT, Int.reduceToNat, Int.reduceBEq, Int.reduceBNe, Int.reduceLT, Int.reduceLE, E, E', TY]
  exact Ret.one rfl (by kernel_rfl)
end Go.Proofs.Yteendcbmoagdfaa
