/-
  The machine's method Given: slices.Index, Contains, IndexFunc, ContainsFunc, and the closure.
-/
import Derived.Test.YteendcbmoagdfaaB1
set_option linter.unusedVariables false
set_option linter.unusedSimpArgs false
set_option maxRecDepth 20000
set_option maxHeartbeats 4000000
namespace Go.Proofs.Yteendcbmoagdfaa
open Go Go.Eng

theorem icells_get {l : List Int} {k : Nat} (h : k < l.length) : (icells l)[k]? = some (.int .i64 l[k]) := by simp [icells, h]
theorem icells_length (l : List Int) : (icells l).length = l.length := by simp [icells]

theorem m_index {w : World} (A : Option Addr) (c : Nat) (l : List Int) (v : Int) (h : Cs (· < w.heap.size) w A (icells l)) (hz : l.length ≤ 1000000) :
    Calls Try.prog 44 #[.slice A l.length c, .int .i64 v] w fun e w' => ∃ i : Int, e = .returned (.int .i64 i) ∧ (decide (i ≥ 0) = l.contains v) ∧ Ext w w' := by
  refine start0 (args := [.v (.slice A l.length c), .v (.int .i64 v)]) (G := (· < w.heap.size)) Try.func44 rfl Try.ntmps44 (by simp [SV.lt]) (fun _ h => h) ?_
  refine Res.run 1000 ?_
  simp only [↓reduceIte, Nat.reduceEqDiff, Nat.reduceAdd, Nat.reduceSub, Nat.reduceMul, Nat.reduceLT, Int.reduceToNat, Int.reduceBEq, Int.reduceBNe, Int.reduceLT, Int.reduceLE, E, E', TY]
  refine Res.loop (X := {k : Nat // k ≤ l.length ∧ ∀ j (h : j < l.length), j < k → l[j] ≠ v})
    (fun x => { T := mkT 19 [(0, .v (.slice A l.length c)), (1, .v (.int .i64 v)), (7, .v (.int .i64 l.length)), (8, .v (.int .i64 (x.1 : Int)))], X := [], L := [], D := [] })
    (fun x => l.length - x.1) ⟨0, by omega, fun _ _ h => absurd h (by omega)⟩ (St.Le.of 0 (by simp only [↓reduceIte, Nat.reduceEqDiff, Nat.reduceAdd, Nat.reduceSub, Nat.reduceMul, Nat.reduceLT, Int.reduceToNat, Int.reduceBEq, Int.reduceBNe, Int.reduceLT, Int.reduceLE, E, E', TY]; simp)) ?_
  rintro ⟨k, hk, hinv⟩
  simp only at hk hinv ⊢
  refine Res.run 900 ?_
  by_cases hlt : k < l.length
  case neg =>
    have e2 : decide ((k : Int) < (l.length : Int)) = false := by simp; omega
    simp only [↓reduceIte, Nat.reduceEqDiff, Nat.reduceAdd, Nat.reduceSub, Nat.reduceMul, Nat.reduceLT, Int.reduceToNat, Int.reduceBEq, Int.reduceBNe, Int.reduceLT, Int.reduceLE, E, E', TY, e2]
    refine Ret.body [.v (.int .i64 (-1))] rfl (by kernel_rfl) fun new w' hs => ⟨-1, rfl, ?_, hs.keep⟩
    have : l.contains v = false := by
      rw [Bool.eq_false_iff]
      intro hc
      have := List.contains_iff_mem.1 hc
      obtain ⟨j, hj, he⟩ := List.mem_iff_getElem.1 this
      exact hinv j hj (by omega) he
    rw [this]; rfl
  have e2 : decide ((k : Int) < (l.length : Int)) = true := by simp; omega
  obtain ⟨a0, a1⟩ := h.at (i := k) (n := 1) (by omega) (by rw [icells_length]; omega)
  have a1 := a1 0 _ (icells_get hlt)
  have hA : A.isSome = true := okRd_some a0
  by_cases hv : l[k] = v
  · have e3 : (v == l[k]) = true := by simp [hv]
    simp only [↓reduceIte, Nat.reduceEqDiff, Nat.reduceAdd, Nat.reduceSub, Nat.reduceMul, Nat.reduceLT, Int.reduceToNat, Int.reduceBEq, Int.reduceBNe, Int.reduceLT, Int.reduceLE, E, E', TY, e2, a1, e3, Int.toNat_natCast, Nat.mul_one]
    refine ⟨⟨by omega, by omega, hA⟩, a0, ?_⟩
    refine Ret.body [.v (.int .i64 (k : Int))] rfl (by kernel_rfl) fun new w' hs => ⟨k, rfl, ?_, hs.keep⟩
    have : l.contains v = true := List.contains_iff_mem.2 (hv ▸ List.getElem_mem hlt)
    rw [this]; simp
  · have e3 : (v == l[k]) = false := by simp; exact fun h => hv h.symm
    simp only [↓reduceIte, Nat.reduceEqDiff, Nat.reduceAdd, Nat.reduceSub, Nat.reduceMul, Nat.reduceLT, Int.reduceToNat, Int.reduceBEq, Int.reduceBNe, Int.reduceLT, Int.reduceLE, E, E', TY, e2, a1, e3, Int.toNat_natCast, Nat.mul_one]
    refine ⟨⟨by omega, by omega, hA⟩, a0, i64ok_of (by omega) (by omega), ?_⟩
    refine Res.again (⟨k + 1, by omega, fun j h1 hj => ?_⟩ : {k : Nat // k ≤ l.length ∧ ∀ j (h : j < l.length), j < k → l[j] ≠ v}) (by simp only; omega) (St.Le.of 0 (by simp only [↓reduceIte, Nat.reduceEqDiff, Nat.reduceAdd, Nat.reduceSub, Nat.reduceMul, Nat.reduceLT, Int.reduceToNat, Int.reduceBEq, Int.reduceBNe, Int.reduceLT, Int.reduceLE, E, E', TY, Int.natCast_add, Int.cast_ofNat_Int]))
    by_cases hjk : j = k
    · subst hjk; exact hv
    · exact hinv j h1 (by omega)

section
variable {P : Program} {Q : Pst} {G : Nat → Prop} {W : World}
/-- A call that leaves all as it is, and hands back a value of which something is known. -/
theorem CallAt.sm {σ : St} {f : FuncId} {args : List SV} {dst : Option Tmp} {k : List It} (Post : Value → Prop)
    (hc : ∀ new w, HS G W σ new w → Calls P f (args.map (SV.den (σ.X ++ new))).toArray w fun e w' => ∃ v, e = .returned v ∧ Ext w w' ∧ Post v)
    (hk : ∀ v, Post v → Res P Q G W (σ.put dst (.v v)) k) : CallAt P Q G W σ f args dst k := by
  intro new a w hs
  refine (hc new w hs.hs).mono ?_
  rintro e w' ⟨v, rfl, hE, hp⟩
  exact hk v hp new _ w' ((hs.put dst (.v v) trivial).world ((hs.put dst (.v v) trivial).hs.ext' hE))
end

theorem m_contains {w : World} (A : Option Addr) (c : Nat) (l : List Int) (v : Int) (h : Cs (· < w.heap.size) w A (icells l)) (hz : l.length ≤ 1000000) :
    Calls Try.prog 39 #[.slice A l.length c, .int .i64 v] w fun e w' => e = .returned (.bool (l.contains v)) ∧ Ext w w' := by
  refine start0 (args := [.v (.slice A l.length c), .v (.int .i64 v)]) (G := (· < w.heap.size)) Try.func39 rfl Try.ntmps39 (by simp [SV.lt]) (fun _ h => h) ?_
  refine Res.run 1000 ?_
  simp only [↓reduceIte, Nat.reduceEqDiff, Nat.reduceAdd, Nat.reduceSub, Nat.reduceMul, Nat.reduceLT, Int.reduceToNat, Int.reduceBEq, Int.reduceBNe, Int.reduceLT, Int.reduceLE, E, E', TY]
  refine ⟨fnok44, CallAt.sm (fun u => ∃ i : Int, u = .int .i64 i ∧ decide (i ≥ 0) = l.contains v) (fun new w' hs => ?_) ?_⟩
  · refine (m_index A c l v (h.ext hs.keep) hz).mono ?_
    rintro e w'' ⟨i, rfl, hi, hE⟩
    exact ⟨_, rfl, hE, i, rfl, hi⟩
  · rintro u ⟨i, rfl, hi⟩
    refine Res.run 900 ?_
    simp only [↓reduceIte, Nat.reduceEqDiff, Nat.reduceAdd, Nat.reduceSub, Nat.reduceMul, Nat.reduceLT, Int.reduceToNat, Int.reduceBEq, Int.reduceBNe, Int.reduceLT, Int.reduceLE, E, E', TY, hi]
    exact Ret.one rfl (by kernel_rfl)

/-- The closure of Given: what it captured lies at b. -/
theorem m_given1 {w : World} (b : Nat) (v : Int) (hb : w.heap[b]? = some (.cells #[.int .i64 v] 3 (0, 0))) (f : Frm) (x : FA) (hg : Cs (· < w.heap.size) w x.a3 (icells f.gv)) (hz : f.gv.length ≤ 1000000) :
    Calls Try.prog 38 #[.agg (fcell f x).toArray, .pointer (some ⟨b, 0, none⟩)] w fun e w' => e = .returned (.bool (f.gv.contains v)) ∧ Ext w w' := by
  have r0 : rd w (some ⟨b, 0, none⟩) 0 = .int .i64 v := rd0 (l := [_]) hb 0
  have o0 := okRd0 (l := [_]) hb 0 1 (by simp)
  refine start0 (args := [.v (.agg #[.int .i64 f.op, .slice x.a1 f.ps.length x.c1, .slice x.a2 f.rs.length x.c2, .int .i64 f.ht, .bool f.dead, .slice x.a3 f.gv.length x.c3]), .v (.pointer (some ⟨b, 0, none⟩))]) (G := (· < w.heap.size)) Try.func38 rfl Try.ntmps38 (by simp [SV.lt]) (fun _ h => h) ?_
  refine Res.run 1000 ?_
  simp only [↓reduceIte, Nat.reduceEqDiff, Nat.reduceAdd, Nat.reduceSub, Nat.reduceMul, Nat.reduceLT, Int.reduceToNat, Int.reduceBEq, Int.reduceBNe, Int.reduceLT, Int.reduceLE, E, E', TY, r0]
  refine ⟨o0, fnok39, CallAt.pure #[.slice x.a3 f.gv.length x.c3, .int .i64 v] (.bool (f.gv.contains v)) (fun _ => rfl) (fun w' hw => m_contains x.a3 x.c3 f.gv v (hg.ext hw) hz) (Res.run 900 ?_)⟩
  simp only [↓reduceIte, Nat.reduceEqDiff, Nat.reduceAdd, Nat.reduceSub, Nat.reduceMul, Nat.reduceLT, Int.reduceToNat, Int.reduceBEq, Int.reduceBNe, Int.reduceLT, Int.reduceLE, E, E', TY]
  exact Ret.one rfl (by kernel_rfl)

/-- The frames, as the closure finds them. -/
def FrsOK (w : World) (A : Option Addr) (fr : List Frm) (xs : List FA) : Prop :=
  ∀ k (h : k < fr.length), ∃ h' : k < xs.length, FrX w A k fr[k] (xs[k]'h') ∧ Cs (· < w.heap.size) w (xs[k]'h').a3 (icells fr[k].gv) ∧ fr[k].gv.length ≤ 1000000

theorem m_indexF {w : World} (A : Option Addr) (c : Nat) (fr : List Frm) (xs : List FA) (b : Nat) (v : Int) (hb : w.heap[b]? = some (.cells #[.int .i64 v] 3 (0, 0))) (h : FrsOK w A fr xs) (hz : fr.length ≤ 1000000) :
    Calls Try.prog 43 #[.slice A fr.length c, .func (.func 38) #[] #[.pointer (some ⟨b, 0, none⟩)]] w fun e w' => ∃ i : Int, e = .returned (.int .i64 i) ∧ (decide (i ≥ 0) = fr.any fun f => f.gv.contains v) ∧ Ext w w' := by
  refine start0 (args := [.v (.slice A fr.length c), .v (.func (.func 38) #[] #[.pointer (some ⟨b, 0, none⟩)])]) (G := (· < w.heap.size)) Try.func43 rfl Try.ntmps43 (by simp [SV.lt]) (fun _ h => h) ?_
  refine Res.run 1000 ?_
  simp only [↓reduceIte, Nat.reduceEqDiff, Nat.reduceAdd, Nat.reduceSub, Nat.reduceMul, Nat.reduceLT, Int.reduceToNat, Int.reduceBEq, Int.reduceBNe, Int.reduceLT, Int.reduceLE, E, E', TY]
  refine Res.loop (X := {k : Nat // k ≤ fr.length ∧ ∀ j (h : j < fr.length), j < k → fr[j].gv.contains v = false})
    (fun x => { T := mkT 19 [(0, .v (.slice A fr.length c)), (1, .v (.func (.func 38) #[] #[.pointer (some ⟨b, 0, none⟩)])), (7, .v (.int .i64 fr.length)), (8, .v (.int .i64 (x.1 : Int)))], X := [], L := [], D := [] })
    (fun x => fr.length - x.1) ⟨0, by omega, fun _ _ h => absurd h (by omega)⟩ (St.Le.of 0 (by simp only [↓reduceIte, Nat.reduceEqDiff, Nat.reduceAdd, Nat.reduceSub, Nat.reduceMul, Nat.reduceLT, Int.reduceToNat, Int.reduceBEq, Int.reduceBNe, Int.reduceLT, Int.reduceLE, E, E', TY]; simp)) ?_
  rintro ⟨k, hk, hinv⟩
  simp only at hk hinv ⊢
  refine Res.run 900 ?_
  by_cases hlt : k < fr.length
  case neg =>
    have e2 : decide ((k : Int) < (fr.length : Int)) = false := by simp; omega
    simp only [↓reduceIte, Nat.reduceEqDiff, Nat.reduceAdd, Nat.reduceSub, Nat.reduceMul, Nat.reduceLT, Int.reduceToNat, Int.reduceBEq, Int.reduceBNe, Int.reduceLT, Int.reduceLE, E, E', TY, e2]
    refine Ret.body [.v (.int .i64 (-1))] rfl (by kernel_rfl) fun new w' hs => ⟨-1, rfl, ?_, hs.keep⟩
    have : (fr.any fun f => f.gv.contains v) = false := by
      rw [List.any_eq_false]
      intro f hf
      obtain ⟨j, hj, rfl⟩ := List.mem_iff_getElem.1 hf
      rw [hinv j hj (by omega)]; simp
    rw [this]; rfl
  have e2 : decide ((k : Int) < (fr.length : Int)) = true := by simp; omega
  obtain ⟨h', ⟨g, g0, g1, g2, g3, g4, g5⟩, hc, hgz⟩ := h k hlt
  have hA : A.isSome = true := okRd_some g
  simp only [↓reduceIte, Nat.reduceEqDiff, Nat.reduceAdd, Nat.reduceSub, Nat.reduceMul, Nat.reduceLT, Int.reduceToNat, Int.reduceBEq, Int.reduceBNe, Int.reduceLT, Int.reduceLE, E, E', TY, e2, g0, g1, g2, g3, g4, g5, Int.toNat_natCast]
  refine ⟨⟨by omega, by omega, hA⟩, g, fnok38, ?_⟩
  refine CallAt.det #[.agg (fcell fr[k] (xs[k]'h')).toArray, .pointer (some ⟨b, 0, none⟩)] (.bool (fr[k].gv.contains v)) (fun ids => rfl) (fun w' hw => m_given1 b v (keepH hw hb) fr[k] (xs[k]'h') (hc.ext hw) hgz) (Res.run 900 ?_)
  cases hv : fr[k].gv.contains v with
  | true =>
    simp only [↓reduceIte, Nat.reduceEqDiff, Nat.reduceAdd, Nat.reduceSub, Nat.reduceMul, Nat.reduceLT, Int.reduceToNat, Int.reduceBEq, Int.reduceBNe, Int.reduceLT, Int.reduceLE, E, E', TY]
    refine Ret.body [.v (.int .i64 (k : Int))] rfl (by kernel_rfl) fun new w' hs => ⟨k, rfl, ?_, hs.keep⟩
    have : (fr.any fun f => f.gv.contains v) = true := List.any_eq_true.2 ⟨fr[k], List.getElem_mem hlt, hv⟩
    rw [this]; simp
  | false =>
    simp only [↓reduceIte, Nat.reduceEqDiff, Nat.reduceAdd, Nat.reduceSub, Nat.reduceMul, Nat.reduceLT, Int.reduceToNat, Int.reduceBEq, Int.reduceBNe, Int.reduceLT, Int.reduceLE, E, E', TY]
    refine ⟨i64ok_of (by omega) (by omega), ?_⟩
    refine Res.again (⟨k + 1, by omega, fun j h1 hj => ?_⟩ : {k : Nat // k ≤ fr.length ∧ ∀ j (h : j < fr.length), j < k → fr[j].gv.contains v = false}) (by simp only; omega) (St.Le.of 0 (by simp only [↓reduceIte, Nat.reduceEqDiff, Nat.reduceAdd, Nat.reduceSub, Nat.reduceMul, Nat.reduceLT, Int.reduceToNat, Int.reduceBEq, Int.reduceBNe, Int.reduceLT, Int.reduceLE, E, E', TY, Int.natCast_add, Int.cast_ofNat_Int]))
    by_cases hjk : j = k
    · subst hjk; exact hv
    · exact hinv j h1 (by omega)

theorem FrsOK.ext {w w' : World} {A : Option Addr} {fr : List Frm} {xs : List FA} (h : FrsOK w A fr xs) (hE : Ext w w') : FrsOK w' A fr xs := by
  intro k hk
  obtain ⟨h', ⟨g, g0, g1, g2, g3, g4, g5⟩, hc, hz⟩ := h k hk
  have k0 := okRd_rd g hE 0 (by omega)
  have k1 := okRd_rd g hE 1 (by omega)
  have k2 := okRd_rd g hE 2 (by omega)
  have k3 := okRd_rd g hE 3 (by omega)
  have k4 := okRd_rd g hE 4 (by omega)
  have k5 := okRd_rd g hE 5 (by omega)
  simp only [Nat.zero_add] at k0 k1 k2 k3 k4 k5
  exact ⟨h', ⟨okRd_mono (okRd_keep g hE) fun b hb => Nat.lt_of_lt_of_le hb hE.size, by rw [k0, g0], by rw [k1, g1], by rw [k2, g2], by rw [k3, g3], by rw [k4, g4], by rw [k5, g5]⟩, hc.ext hE, hz⟩

theorem m_containsF {w : World} (A : Option Addr) (c : Nat) (fr : List Frm) (xs : List FA) (b : Nat) (v : Int) (hb : w.heap[b]? = some (.cells #[.int .i64 v] 3 (0, 0))) (h : FrsOK w A fr xs) (hz : fr.length ≤ 1000000) :
    Calls Try.prog 37 #[.slice A fr.length c, .func (.func 38) #[] #[.pointer (some ⟨b, 0, none⟩)]] w fun e w' => e = .returned (.bool (fr.any fun f => f.gv.contains v)) ∧ Ext w w' := by
  refine start0 (args := [.v (.slice A fr.length c), .v (.func (.func 38) #[] #[.pointer (some ⟨b, 0, none⟩)])]) (G := (· < w.heap.size)) Try.func37 rfl Try.ntmps37 (by simp [SV.lt]) (fun _ h => h) ?_
  refine Res.run 1000 ?_
  simp only [↓reduceIte, Nat.reduceEqDiff, Nat.reduceAdd, Nat.reduceSub, Nat.reduceMul, Nat.reduceLT, Int.reduceToNat, Int.reduceBEq, Int.reduceBNe, Int.reduceLT, Int.reduceLE, E, E', TY]
  refine ⟨fnok43, CallAt.sm (fun u => ∃ i : Int, u = .int .i64 i ∧ decide (i ≥ 0) = fr.any fun f => f.gv.contains v) (fun new w' hs => ?_) ?_⟩
  · refine (m_indexF A c fr xs b v (keepH hs.keep hb) (h.ext hs.keep) hz).mono ?_
    rintro e w'' ⟨i, rfl, hi, hE⟩
    exact ⟨_, rfl, hE, i, rfl, hi⟩
  · rintro u ⟨i, rfl, hi⟩
    refine Res.run 900 ?_
    simp only [↓reduceIte, Nat.reduceEqDiff, Nat.reduceAdd, Nat.reduceSub, Nat.reduceMul, Nat.reduceLT, Int.reduceToNat, Int.reduceBEq, Int.reduceBNe, Int.reduceLT, Int.reduceLE, E, E', TY, hi]
    exact Ret.one rfl (by kernel_rfl)

theorem m_given {w : World} {O : Nat → Prop} {m t : Nat} {st : List Vl} {fr : List Frm} {pp : Option MachP} (h : Mc w O m t st fr pp) (v : Int) (hfz : fr.length ≤ 1000000) (hgz : ∀ f ∈ fr, f.gv.length ≤ 1000000) :
    Calls Try.prog 24 #[.pointer (some ⟨m, 0, none⟩), .int .i64 v] w fun e w' => e = .returned (.bool (fr.any fun f => f.gv.contains v)) ∧ Ext w w' := by
  obtain ⟨p, hp, _⟩ := h.R
  have h1 := rd0 (l := [_, _, _]) hp.hm 2
  have o1 := okRd0 (l := [_, _, _]) hp.hm 2 1 (by simp)
  simp only [List.getElem?_cons_succ, List.getElem?_cons_zero, Option.getD_some] at h1
  have hlt : ∀ b, p.Or b → b < w.heap.size := fun b hb => h.lt b (hp.own 3 b (.inr (.inr (.inr ⟨rfl, hb⟩))))
  have hfrs : FrsOK w (sA p.nl2 p.b2 0) fr p.xs := by
    intro k hk
    obtain ⟨hk', g, fo⟩ := hp.frX hk
    exact ⟨hk', g, fo.g.mono hlt, hgz _ (List.getElem_mem hk)⟩
  refine start0 (args := [.v (.pointer (some ⟨m, 0, none⟩)), .v (.int .i64 v)]) (G := (· < w.heap.size)) Try.func24 rfl Try.ntmps24 (by simp [SV.lt]) (fun _ h => h) ?_
  refine Res.run 1000 ?_
  simp only [↓reduceIte, Nat.reduceEqDiff, Nat.reduceAdd, Nat.reduceSub, Nat.reduceMul, Nat.reduceLT, Int.reduceToNat, Int.reduceBEq, Int.reduceBNe, Int.reduceLT, Int.reduceLE, E, E', TY]
  refine ⟨fnok27, CallAt.pure #[.pointer (some ⟨m, 0, none⟩)] (.bool true) (fun _ => rfl) (fun w' hw => m_there (keepH hw hp.hm) (h.tab.keep hw)) (Res.run 900 ?_)⟩
  simp only [↓reduceIte, Nat.reduceEqDiff, Nat.reduceAdd, Nat.reduceSub, Nat.reduceMul, Nat.reduceLT, Int.reduceToNat, Int.reduceBEq, Int.reduceBNe, Int.reduceLT, Int.reduceLE, E, E', TY, h1]
  refine ⟨o1, fnok37, CallAt.detS (.v (.bool (fr.any fun f => f.gv.contains v))) trivial (fun new w' hs => ?_) (Res.run 900 ?_)⟩
  · have hb := (hs.ent_get (i := 0) rfl).1
    exact m_containsF _ _ fr p.xs _ v hb (hfrs.ext hs.keep) hfz
  simp only [↓reduceIte, Nat.reduceEqDiff, Nat.reduceAdd, Nat.reduceSub, Nat.reduceMul, Nat.reduceLT, Int.reduceToNat, Int.reduceBEq, Int.reduceBNe, Int.reduceLT, Int.reduceLE, E, E', TY]
  exact Ret.one rfl (by kernel_rfl)
end Go.Proofs.Yteendcbmoagdfaa
