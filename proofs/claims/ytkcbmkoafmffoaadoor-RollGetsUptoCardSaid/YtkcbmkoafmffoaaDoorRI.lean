/-
  The roll layer: Map with a closure that keeps nothing; Get and Group.
-/
import Derived.Test.YtkcbmkoafmffoaaDoorRP
set_option linter.unusedVariables false
set_option linter.unusedSimpArgs false
set_option maxRecDepth 20000
set_option maxHeartbeats 8000000
namespace Go.Proofs.YtkcbmkoafmffoaaDoor
open Go Go.Eng

/-- Map with a closure that only reads. -/
theorem m_MapR {w : World} (s : Sb) (x : SL) (g : Nat) (cap : List Value) (f : Hp → Hp) (hg : fnOK Tryd.prog g = true) (hs : SbR (· < w.heap.size) w s x) (hz : s.small 1100000)
    (hst : ∀ h ∈ sHeaps s, ∀ w1, Ext w w1 → Calls Tryd.prog g (h.v :: cap).toArray w1 fun e w' => e = .returned (f h).v ∧ Ext w1 w') :
    Calls Tryd.prog 20 #[s.v x, .func (.func g) #[] cap.toArray] w fun e w' => ∃ y, e = .returned ((smap f s).v y) ∧ Ext w w' ∧ SbR (fun b => w.heap.size ≤ b ∧ b < w'.heap.size) w' (smap f s) y := by
  have hM := m_Map (w := w) (G := (· < w.heap.size)) (W := w) (O := fun _ => False) s x g cap (fun _ => Inv.none) (fun i => f ((sHeaps s).getD i ⟨0, 0⟩)) hg (Keep.refl _ _) (fun b hb => ⟨hb, id⟩) (fun b hb => hb.elim) (fun b hb => hb) (hs.mono fun b hb => ⟨hb, id⟩) hz (fun i h hi => by
    intro w1 O hK hI hO
    refine (hst h (List.mem_of_getElem? hi) w1 hK).mono ?_
    rintro e w' ⟨rfl, hE⟩
    refine ⟨fun _ => False, ?_, fun b hb => hb, hE.os, hE.tape, hE.output, hE.size, fun b hb _ => hE.block b hb, fun b hb => hb.elim⟩
    rw [List.getD_eq_getElem?_getD, hi]; rfl)
  rw [mapS_smap] at hM
  refine hM.mono ?_
  rintro e w' ⟨O1, O2, y, rfl, hI, hR, hC, hO2, hdis⟩
  refine ⟨y, rfl, ⟨hC.os, hC.tape, hC.output, hC.size, fun b hb => hC.block b hb id⟩, hR.mono fun b hb => ?_⟩
  obtain ⟨h1, h2⟩ := hO2 b hb
  exact ⟨h2.resolve_right id, h1⟩

section mapR
variable {Q : Pst} {G : Nat → Prop} {W : World}
theorem CallAt.mapR {σ : St} {dst : Option Tmp} {k : List It} {args : List SV} (q : Sb × SL) (g : Nat) (f : Hp → Hp) (hg : fnOK Tryd.prog g = true) (hz : q.1.small 1100000)
    (hargs : ∀ new w own, HSo G W σ new w own → ∃ cap : List Value, (args.map (SV.den (σ.X ++ new))).toArray = #[q.1.v q.2, .func (.func g) #[] cap.toArray] ∧ SbR (· < w.heap.size) w q.1 q.2 ∧ ∀ h ∈ sHeaps q.1, ∀ w1, Ext w w1 → Calls Tryd.prog g (h.v :: cap).toArray w1 fun e w' => e = .returned (f h).v ∧ Ext w1 w')
    (hk : ∀ y, Res Tryd.prog Q G W ((σ.new (.asn (NstA [(smap f q.1, y)]))).put dst (.v ((smap f q.1).v y))) k) : CallAt Tryd.prog Q G W σ 20 args dst k := by
  refine CallAt.mkA (fun v A' => ∃ y, v = (smap f q.1).v y ∧ A' = NstA [(smap f q.1, y)]) ?_ (by rintro _ _ ⟨y, rfl, rfl⟩; exact hk y)
  intro new w hs
  obtain ⟨own, ho⟩ := hs
  obtain ⟨cap, e, hS, hst⟩ := hargs new w own ho
  rw [e]
  refine (m_MapR q.1 q.2 g cap f hg hS hz hst).mono ?_
  rintro e w' ⟨y, rfl, hE, hR⟩
  refine ⟨_, _, _, rfl, ⟨y, rfl, rfl⟩, fun p hp => ?_, hE, fun b hb => hb⟩
  simp only [List.mem_cons, List.not_mem_nil, or_false] at hp
  subst hp; exact hR
end mapR

/-! ### Get -/
def unH (f : Int) (h : Hp) : Hp := if h.k = 14 then ⟨15, f + h.n⟩ else h
theorem m_get1 {w : World} {bf : Nat} {f : Int} (hf : w.heap[bf]? = some (.cells #[.int .i64 f] 3 (0, 0))) (h : Hp) (hn : h.k = 14 → i64ok (f + h.n)) :
    Calls Tryd.prog 58 #[h.v, .pointer (some ⟨bf, 0, none⟩)] w fun e w' => e = .returned (unH f h).v ∧ Ext w w' := by
  obtain ⟨k, n⟩ := h
  have rf : rd w (some ⟨bf, 0, none⟩) 0 = .int .i64 f := rd0 (l := [_]) hf 0
  have of := okRd0 (l := [_]) hf 0 1 (by simp)
  obtain ⟨r, hr⟩ : ∃ r, unH f ⟨k, n⟩ = r := ⟨_, rfl⟩
  rw [hr]
  unfold unH at hr
  simp only at hr hn
  refine start0 (args := [.v (.agg #[.int .i64 k, .int .i64 n]), .v (.pointer (some ⟨bf, 0, none⟩))]) (G := (· < w.heap.size)) Tryd.func58 rfl Tryd.ntmps58 (by simp [SV.lt]) (fun _ h => h) ?_
  refine Res.run 1000 ?_
  by_cases h14 : k = 14
  · have e1 : (k == 14) = true := by simp [h14]
    rw [if_pos h14] at hr
    subst hr
    simp only [↓reduceIte, Nat.reduceEqDiff, Nat.reduceAdd, Nat.reduceSub, Nat.reduceMul, Nat.reduceLT, Int.reduceToNat, Int.reduceBEq, Int.reduceBNe, Int.reduceLT, Int.reduceLE, E, E', TY, e1, rf, beq_self_eq_true, Bool.and_true, Bool.true_and]
    refine ⟨of, hn h14, ?_⟩
    exact Ret.det [.agg [.v (.int .i64 15), .v (.int .i64 (f + n))]] rfl (by kernel_rfl) (fun _ => rfl)
  · have e1 : (k == 14) = false := beq_ff h14
    rw [if_neg h14] at hr
    subst hr
    simp only [↓reduceIte, Nat.reduceEqDiff, Nat.reduceAdd, Nat.reduceSub, Nat.reduceMul, Nat.reduceLT, Int.reduceToNat, Int.reduceBEq, Int.reduceBNe, Int.reduceLT, Int.reduceLE, E, E', TY, e1, Bool.false_and]
    exact Ret.det [.agg [.v (.int .i64 k), .v (.int .i64 n)]] rfl (by kernel_rfl) (fun _ => rfl)

def nilS : Sb := ⟨false, [], 0, [], [], []⟩
def getF (s : TS) (id : Int) : Sb × Int := if hasF s id = true then (smap (unH (s.es.getD id.toNat (0, 0)).1) (s.ts.getD id.toNat nilS), 0) else (nilS, 4)
theorem es_at {G : Nat → Prop} {w : World} {A : Option Addr} {l : List (Int × Int)} (h : Cs G w A (ecs l)) (k : Nat) (hk : k < l.length) :
    okRd G w (pAdd A (k * 2)) 0 1 ∧ okRd G w (pAdd A (k * 2)) 1 1 ∧ rd w (pAdd A (k * 2)) 0 = .int .i64 l[k].1 ∧ rd w (pAdd A (k * 2)) 1 = .int .i64 l[k].2 := by
  have hl : ∀ e : Int × Int, (e2cs e).length = 2 := fun _ => rfl
  have g := fun j hj => flat_get hl l k hk j hj
  obtain ⟨a, b⟩ := h.at (i := k * 2) (n := 2) (by omega) (by show _ ≤ (l.flatMap e2cs).length; rw [flat_length hl]; omega)
  obtain ⟨ad, e, h1, h2⟩ := a
  refine ⟨⟨ad, e, h1, fun j hj => h2 j (by omega)⟩, ⟨ad, e, h1, fun j hj => ?_⟩, b 0 _ (g 0 (by omega)), b 1 _ (g 1 (by omega))⟩
  obtain rfl : j = 0 := by omega
  exact h2 1 (by omega)
theorem m_Get {w : World} {O : Nat → Prop} {p : Nat} {s : TS} (hT : TabW w O p s) (id : Int) (he : s.es.length = s.ts.length) (hz : ∀ t ∈ s.ts, t.small 1100000) (hn : ∀ i (h : i < s.ts.length), ∀ x ∈ sHeaps s.ts[i], x.k = 14 → i64ok ((s.es.getD i (0, 0)).1 + x.n)) :
    Calls Tryd.prog 25 #[.pointer (some ⟨p, 0, none⟩), .int .i64 id] w fun e w' => ∃ y, e = .returned (.tuple #[(getF s id).1.v y, .int .i64 (getF s id).2]) ∧ Ext w w' ∧ SbR (fun b => w.heap.size ≤ b ∧ b < w'.heap.size) w' (getF s id).1 y := by
  obtain ⟨r, hr⟩ : ∃ r, hasF s id = r := ⟨_, rfl⟩
  obtain ⟨R, hR⟩ : ∃ R, getF s id = R := ⟨_, rfl⟩
  rw [hR]
  unfold getF at hR
  rw [hr] at hR
  refine start0 (args := [.v (.pointer (some ⟨p, 0, none⟩)), .v (.int .i64 id)]) (G := (· < w.heap.size)) Tryd.func25 rfl Tryd.ntmps25 (by simp [SV.lt]) (fun _ h => h) ?_
  refine Res.run 1000 ?_
  simp only [↓reduceIte, Nat.reduceEqDiff, Nat.reduceAdd, Nat.reduceSub, Nat.reduceMul, Nat.reduceLT, Int.reduceToNat, Int.reduceBEq, Int.reduceBNe, Int.reduceLT, Int.reduceLE, E, E', TY]
  refine ⟨fnok49, CallAt.pure #[.pointer (some ⟨p, 0, none⟩)] (.bool true) (fun _ => rfl) (fun w' hw => m_there (hT.ext hw)) (Res.run 900 ?_)⟩
  simp only [↓reduceIte, Nat.reduceEqDiff, Nat.reduceAdd, Nat.reduceSub, Nat.reduceMul, Nat.reduceLT, Int.reduceToNat, Int.reduceBEq, Int.reduceBNe, Int.reduceLT, Int.reduceLE, E, E', TY]
  refine ⟨fnok52, CallAt.pure #[.pointer (some ⟨p, 0, none⟩), .int .i64 id] (.bool r) (fun _ => rfl) (fun w' hw => by rw [← hr]; exact m_has (hT.ext hw) id) (Res.run 900 ?_)⟩
  cases r with
  | false =>
    rw [if_neg (by simp)] at hR
    subst hR
    simp only [↓reduceIte, Nat.reduceEqDiff, Nat.reduceAdd, Nat.reduceSub, Nat.reduceMul, Nat.reduceLT, Int.reduceToNat, Int.reduceBEq, Int.reduceBNe, Int.reduceLT, Int.reduceLE, E, E', TY]
    refine Ret.body [.agg [.v (.bool false), .v (.slice none 0 0), .v (.int .i64 0), .v (.slice none 0 0), .v (.slice none 0 0), .v (.slice none 0 0)], .v (.int .i64 4)] rfl (by kernel_rfl) fun new w' hs => ?_
    refine ⟨⟨none, 0, none, 0, none, 0, none, 0⟩, rfl, hs.keep, ⟨.inl rfl, .inl rfl, .inl rfl, .inl rfl, fun _ => rfl, fun _ => rfl, fun _ => rfl, fun _ => rfl⟩⟩
  | true =>
    rw [if_pos rfl] at hR
    have hb := hasF_iff.1 hr
    have hl : id.toNat < s.ts.length := by omega
    obtain ⟨d, hd, hO, hc, hA1, hA2, hN⟩ := hT.cells
    have hdl : d.l.length = s.ts.length := by rw [← hd.ts, List.length_map]
    have h0 : rd w (some ⟨p, 0, none⟩) 0 = .slice (sA d.r1.nl d.r1.b 0) s.ts.length d.r1.cap := rd0 (l := [_, _, _]) hc 0
    have h1 : rd w (some ⟨p, 0, none⟩) 1 = .slice (sA d.r2.nl d.r2.b 0) s.es.length d.r2.cap := rd0 (l := [_, _, _]) hc 1
    have o0 := okRd0 (l := [_, _, _]) hc 0 1 (by simp)
    have o1 := okRd0 (l := [_, _, _]) hc 1 1 (by simp)
    obtain ⟨q0, q1, q2, q3⟩ := es_at (hA2.mono hT.o) id.toNat (by omega)
    obtain ⟨a0, a1, a2, a3, a4, a5, a6⟩ := gcs_at (hA1.mono hT.o) id.toNat (by omega)
    have hAs1 : (sA d.r1.nl d.r1.b 0).isSome = true := okRd_some a0
    have hAs2 : (sA d.r2.nl d.r2.b 0).isSome = true := okRd_some q0
    obtain ⟨q, hq⟩ : ∃ q, d.l[id.toNat]'(by omega) = q := ⟨_, rfl⟩
    obtain ⟨e, hee⟩ : ∃ e, s.es[id.toNat]'(by omega) = e := ⟨_, rfl⟩
    rw [hq] at a1 a2 a3 a4 a5 a6
    rw [hee] at q2 q3
    have hqt : s.ts[id.toNat] = q.1 := by
      have : (d.l.map (·.1))[id.toNat]'(by simp; omega) = q.1 := by rw [List.getElem_map, hq]
      rw [← this]; simp only [hd.ts]
    have he1 : s.es.getD id.toNat (0, 0) = e := by rw [List.getD_eq_getElem?_getD, List.getElem?_eq_getElem (by omega), hee]; rfl
    have ht1 : s.ts.getD id.toNat nilS = q.1 := by rw [List.getD_eq_getElem?_getD, List.getElem?_eq_getElem hl, hqt]; rfl
    rw [he1, ht1] at hR
    have hnn : ∀ x ∈ sHeaps q.1, x.k = 14 → i64ok (e.1 + x.n) := by
      have := hn id.toNat hl
      rw [he1, hqt] at this
      exact this
    have hqm : q ∈ d.l := hq ▸ List.getElem_mem _
    have hqz : q.1.small 1100000 := by rw [← hqt]; exact hz _ (List.getElem_mem _)
    subst hR
    have ei : ((id.toNat : Nat) : Int) = id := Int.toNat_of_nonneg hb.1
    have es : (s.es.length : Int) = s.ts.length := by rw [he]
    simp only [↓reduceIte, Nat.reduceEqDiff, Nat.reduceAdd, Nat.reduceSub, Nat.reduceMul, Nat.reduceLT, Int.reduceToNat, Int.reduceBEq, Int.reduceBNe, Int.reduceLT, Int.reduceLE, E, E', TY, h1, q2]
    refine ⟨o1, ⟨hb.1, by omega, hAs2⟩, ?_⟩
    simp only [↓reduceIte, Nat.reduceEqDiff, Nat.reduceAdd, Nat.reduceSub, Nat.reduceMul, Nat.reduceLT, Int.reduceToNat, Int.reduceBEq, Int.reduceBNe, Int.reduceLT, Int.reduceLE, E, E', TY, h0, a1, a2, a3, a4, a5, a6]
    refine ⟨by obtain ⟨ad, e, _⟩ := q0; rw [e]; rfl, q0, o0, ⟨hb.1, by omega, hAs1⟩, a0, fnok20, ?_⟩
    refine CallAt.mapR q 58 (unH e.1) fnok58 hqz (fun new w' own ho => ?_) fun y => Res.run 900 ?_
    · obtain ⟨f1, f2⟩ := ho.ok 1 _ rfl
      refine ⟨[.pointer (some ⟨_, 0, none⟩)], rfl, ((hN q hqm).keep (ho.keep.mono fun b hb => hT.o b hb)).mono fun b hb => Nat.lt_of_lt_of_le (ho.inW b (hT.o b hb)) ho.keep.size, fun h hh w1 hE => ?_⟩
      exact m_get1 (by rw [hE.block _ (ho.out 1 _ (by simp) f1).2]; exact f2) h (hnn h hh)
    obtain ⟨u, hu⟩ : ∃ u, smap (unH e.1) q.1 = u := ⟨_, rfl⟩
    rw [hu]
    have hv : u.v y = .agg #[.bool u.fin, .slice y.a1 u.su.length y.c1, .int .i64 u.k, .slice y.a2 u.ps.length y.c2, .slice y.a3 u.rs.length y.c3, .slice y.a4 u.fs.length y.c4] := rfl
    simp only [↓reduceIte, Nat.reduceEqDiff, Nat.reduceAdd, Nat.reduceSub, Nat.reduceMul, Nat.reduceLT, Int.reduceToNat, Int.reduceBEq, Int.reduceBNe, Int.reduceLT, Int.reduceLE, E, E', TY, hv]
    refine Ret.body [.agg [.v (.bool u.fin), .v (.slice y.a1 u.su.length y.c1), .v (.int .i64 u.k), .v (.slice y.a2 u.ps.length y.c2), .v (.slice y.a3 u.rs.length y.c3), .v (.slice y.a4 u.fs.length y.c4)], .v (.int .i64 0)] rfl (by kernel_rfl) fun new w' hs => ?_
    obtain ⟨own, ho⟩ := hs
    have hN2 : GrR (own 2) w' [(u, y)] := ho.ok 2 _ rfl
    exact ⟨y, rfl, ho.keep, (hN2 _ List.mem_cons_self).mono fun b hb => by have := ho.out 2 b (by simp [St.new, St.put]) hb; exact ⟨by omega, this.2⟩⟩
theorem m_Group {w : World} {O : Nat → Prop} {p : Nat} {s : TS} (hT : TabW w O p s) (id : Int) (he : s.es.length = s.ts.length) :
    Calls Tryd.prog 26 #[.pointer (some ⟨p, 0, none⟩), .int .i64 id] w fun e w' => e = .returned (.tuple (if hasF s id = true then #[.int .i64 (s.es.getD id.toNat (0, 0)).1, .int .i64 (s.es.getD id.toNat (0, 0)).2, .int .i64 0] else #[.int .i64 0, .int .i64 0, .int .i64 4])) ∧ Ext w w' := by
  obtain ⟨r, hr⟩ : ∃ r, hasF s id = r := ⟨_, rfl⟩
  rw [hr]
  refine start0 (args := [.v (.pointer (some ⟨p, 0, none⟩)), .v (.int .i64 id)]) (G := (· < w.heap.size)) Tryd.func26 rfl Tryd.ntmps26 (by simp [SV.lt]) (fun _ h => h) ?_
  refine Res.run 1000 ?_
  simp only [↓reduceIte, Nat.reduceEqDiff, Nat.reduceAdd, Nat.reduceSub, Nat.reduceMul, Nat.reduceLT, Int.reduceToNat, Int.reduceBEq, Int.reduceBNe, Int.reduceLT, Int.reduceLE, E, E', TY]
  refine ⟨fnok49, CallAt.pure #[.pointer (some ⟨p, 0, none⟩)] (.bool true) (fun _ => rfl) (fun w' hw => m_there (hT.ext hw)) (Res.run 900 ?_)⟩
  simp only [↓reduceIte, Nat.reduceEqDiff, Nat.reduceAdd, Nat.reduceSub, Nat.reduceMul, Nat.reduceLT, Int.reduceToNat, Int.reduceBEq, Int.reduceBNe, Int.reduceLT, Int.reduceLE, E, E', TY]
  refine ⟨fnok52, CallAt.pure #[.pointer (some ⟨p, 0, none⟩), .int .i64 id] (.bool r) (fun _ => rfl) (fun w' hw => by rw [← hr]; exact m_has (hT.ext hw) id) (Res.run 900 ?_)⟩
  cases r with
  | false =>
    simp only [↓reduceIte, Nat.reduceEqDiff, Nat.reduceAdd, Nat.reduceSub, Nat.reduceMul, Nat.reduceLT, Int.reduceToNat, Int.reduceBEq, Int.reduceBNe, Int.reduceLT, Int.reduceLE, E, E', TY]
    exact Ret.det [.v (.int .i64 0), .v (.int .i64 0), .v (.int .i64 4)] rfl (by kernel_rfl) (fun _ => rfl)
  | true =>
    have hb := hasF_iff.1 hr
    have hl : id.toNat < s.ts.length := by omega
    obtain ⟨d, hd, hO, hc, hA1, hA2, hN⟩ := hT.cells
    have h1 : rd w (some ⟨p, 0, none⟩) 1 = .slice (sA d.r2.nl d.r2.b 0) s.es.length d.r2.cap := rd0 (l := [_, _, _]) hc 1
    have o1 := okRd0 (l := [_, _, _]) hc 1 1 (by simp)
    obtain ⟨q0, q1, q2, q3⟩ := es_at (hA2.mono hT.o) id.toNat (by omega)
    have hAs2 : (sA d.r2.nl d.r2.b 0).isSome = true := okRd_some q0
    obtain ⟨e, hee⟩ : ∃ e, s.es[id.toNat]'(by omega) = e := ⟨_, rfl⟩
    rw [hee] at q2 q3
    have he1 : s.es.getD id.toNat (0, 0) = e := by rw [List.getD_eq_getElem?_getD, List.getElem?_eq_getElem (by omega), hee]; rfl
    rw [he1]
    simp only [↓reduceIte, Nat.reduceEqDiff, Nat.reduceAdd, Nat.reduceSub, Nat.reduceMul, Nat.reduceLT, Int.reduceToNat, Int.reduceBEq, Int.reduceBNe, Int.reduceLT, Int.reduceLE, E, E', TY]
    refine Res.quiet [] (by kernel_rfl) (by kernel_rfl) ?_
    simp only [↓reduceIte, Nat.reduceEqDiff, Nat.reduceAdd, Nat.reduceSub, Nat.reduceMul, Nat.reduceLT, Int.reduceToNat, Int.reduceBEq, Int.reduceBNe, Int.reduceLT, Int.reduceLE, E, E', TY, h1, q2, q3]
    have sm : ∀ {n : Nat}, okRd (· < w.heap.size) w (pAdd (sA d.r2.nl d.r2.b 0) (id.toNat * 2)) n 1 → (pAdd (sA d.r2.nl d.r2.b 0) (id.toNat * 2)).isSome = true := fun h => by obtain ⟨ad, e, _⟩ := h; rw [e]; rfl
    refine ⟨o1, ⟨hb.1, by omega, hAs2⟩, sm q0, q0, o1, ⟨hb.1, by omega, hAs2⟩, sm q1, q1, Res.run 900 ?_⟩
    simp only [↓reduceIte, Nat.reduceEqDiff, Nat.reduceAdd, Nat.reduceSub, Nat.reduceMul, Nat.reduceLT, Int.reduceToNat, Int.reduceBEq, Int.reduceBNe, Int.reduceLT, Int.reduceLE, E, E', TY]
    exact Ret.body [.v (.int .i64 e.1), .v (.int .i64 e.2), .v (.int .i64 0)] rfl (by kernel_rfl) fun new w' hs => ⟨rfl, hs.keep⟩
/-! ### types that are told, unrolled -/
def wantH (next : List Int) (h : Hp) : Hp := if h.k = 13 ∧ 0 ≤ h.n ∧ h.n < next.length then ⟨15, next.getD h.n.toNat 0⟩ else h
theorem m_want {w : World} {bf : Nat} {l : List Int} {A : Option Addr} {c : Nat} (hf : w.heap[bf]? = some (.cells #[.slice A l.length c] 44 (0, 0))) (hA : Cs (· < w.heap.size) w A (ics l)) (h : Hp) :
    Calls Tryd.prog 24 #[h.v, .pointer (some ⟨bf, 0, none⟩)] w fun e w' => e = .returned (wantH l h).v ∧ Ext w w' := by
  obtain ⟨k, n⟩ := h
  have rf : rd w (some ⟨bf, 0, none⟩) 0 = .slice A l.length c := rd0 (l := [_]) hf 0
  have of := okRd0 (l := [_]) hf 0 1 (by simp)
  obtain ⟨r, hr⟩ : ∃ r, wantH l ⟨k, n⟩ = r := ⟨_, rfl⟩
  rw [hr]
  unfold wantH at hr
  simp only at hr
  refine start0 (args := [.v (.agg #[.int .i64 k, .int .i64 n]), .v (.pointer (some ⟨bf, 0, none⟩))]) (G := (· < w.heap.size)) Tryd.func24 rfl Tryd.ntmps24 (by simp [SV.lt]) (fun _ h => h) ?_
  refine Res.run 1000 ?_
  have no : ¬ (k = 13 ∧ 0 ≤ n ∧ n < l.length) → r = ⟨k, n⟩ := fun h => by rw [if_neg h] at hr; exact hr.symm
  by_cases h13 : k = 13
  case neg =>
    have e1 : (k == 13) = false := beq_ff h13
    obtain rfl := no (by omega)
    simp only [↓reduceIte, Nat.reduceEqDiff, Nat.reduceAdd, Nat.reduceSub, Nat.reduceMul, Nat.reduceLT, Int.reduceToNat, Int.reduceBEq, Int.reduceBNe, Int.reduceLT, Int.reduceLE, E, E', TY, e1]
    exact Ret.det [.agg [.v (.int .i64 k), .v (.int .i64 n)]] rfl (by kernel_rfl) (fun _ => rfl)
  have e1 : (k == 13) = true := by simp [h13]
  by_cases h0 : n ≥ 0
  case neg =>
    have e2 : decide (n ≥ 0) = false := decide_eq_false h0
    obtain rfl := no (by omega)
    simp only [↓reduceIte, Nat.reduceEqDiff, Nat.reduceAdd, Nat.reduceSub, Nat.reduceMul, Nat.reduceLT, Int.reduceToNat, Int.reduceBEq, Int.reduceBNe, Int.reduceLT, Int.reduceLE, E, E', TY, e1, e2]
    exact Ret.det [.agg [.v (.int .i64 k), .v (.int .i64 n)]] rfl (by kernel_rfl) (fun _ => rfl)
  have e2 : decide (n ≥ 0) = true := decide_eq_true h0
  by_cases h1 : n < (l.length : Int)
  case neg =>
    have e3 : decide (n < (l.length : Int)) = false := decide_eq_false h1
    obtain rfl := no (by omega)
    simp only [↓reduceIte, Nat.reduceEqDiff, Nat.reduceAdd, Nat.reduceSub, Nat.reduceMul, Nat.reduceLT, Int.reduceToNat, Int.reduceBEq, Int.reduceBNe, Int.reduceLT, Int.reduceLE, E, E', TY, e1, e2, rf, e3]
    exact ⟨of, Ret.det [.agg [.v (.int .i64 k), .v (.int .i64 n)]] rfl (by kernel_rfl) (fun _ => rfl)⟩
  have e3 : decide (n < (l.length : Int)) = true := decide_eq_true h1
  obtain ⟨q1, q2⟩ := ics_at hA n.toNat (by omega)
  have hAs : A.isSome = true := okRd_some q1
  rw [if_pos ⟨h13, h0, h1⟩, List.getD_eq_getElem?_getD, List.getElem?_eq_getElem (by omega)] at hr
  subst hr
  simp only [↓reduceIte, Nat.reduceEqDiff, Nat.reduceAdd, Nat.reduceSub, Nat.reduceMul, Nat.reduceLT, Int.reduceToNat, Int.reduceBEq, Int.reduceBNe, Int.reduceLT, Int.reduceLE, E, E', TY, e1, e2, rf, e3, q2]
  refine ⟨of, of, ⟨by omega, by omega, hAs⟩, q1, ?_⟩
  exact Ret.det [.agg [.v (.int .i64 15), .v (.int .i64 (l[n.toNat]'(by omega)))]] rfl (by kernel_rfl) (fun _ => rfl)

theorem mvV_congr {f g : Hp → Hp} {v : Vl} (h : v.k = 3 → f v.h = g v.h) : mvV f v = mvV g v := by
  unfold mvV
  split
  · rename_i h3; rw [h h3]
  · rfl
theorem smap_congr {f g : Hp → Hp} {s : Sb} (h : ∀ x ∈ sHeaps s, f x = g x) : smap f s = smap g s := by
  have m1 : ∀ h ∈ s.su, h ∈ sHeaps s := fun h hh => by unfold sHeaps; simp [hh]
  have m2 : ∀ v ∈ s.ps, v.k = 3 → v.h ∈ sHeaps s := fun v hv h3 => by unfold sHeaps; simp [mem_heapsV hv h3]
  have m3 : ∀ v ∈ s.rs, v.k = 3 → v.h ∈ sHeaps s := fun v hv h3 => by unfold sHeaps; simp [mem_heapsV hv h3]
  have m4 : ∀ x ∈ s.fs, x.t.k = 3 → x.t.h ∈ sHeaps s := fun x hx h3 => by
    have h : x.t.h ∈ heapsV (tys s.fs) := mem_heapsV (List.mem_map.2 ⟨x, hx, rfl⟩) h3
    unfold sHeaps; simp [h]
  unfold smap
  have e1 : s.su.map f = s.su.map g := List.map_congr_left fun x hx => h x (m1 x hx)
  have e2 : s.ps.map (mvV f) = s.ps.map (mvV g) := List.map_congr_left fun x hx => mvV_congr fun h3 => h _ (m2 x hx h3)
  have e3 : s.rs.map (mvV f) = s.rs.map (mvV g) := List.map_congr_left fun x hx => mvV_congr fun h3 => h _ (m3 x hx h3)
  have e4 : (s.fs.map fun x => (⟨x.pk, mvV f x.t, x.m⟩ : Fd)) = s.fs.map fun x => ⟨x.pk, mvV g x.t, x.m⟩ := List.map_congr_left fun x hx => by rw [mvV_congr fun h3 => h _ (m4 x hx h3)]
  rw [e1, e2, e3, e4]
theorem smap_comp (f g : Hp → Hp) (s : Sb) : smap f (smap g s) = smap (fun h => f (g h)) s := by
  have hv : ∀ v : Vl, mvV f (mvV g v) = mvV (fun h => f (g h)) v := fun v => by
    unfold mvV
    by_cases h3 : v.k = 3
    · simp [h3]
    · simp [h3]
  unfold smap
  simp only [List.map_map]
  congr 1
  · exact List.map_congr_left fun x _ => hv x
  · exact List.map_congr_left fun x _ => hv x
  · exact List.map_congr_left fun x _ => by simp only [Function.comp, hv]
theorem outI_get {ids : List Int} {a m : Int} {i : Nat} (hi : i < (outI ids (a, m)).length) : (outI ids (a, m)).getD i 0 = if i < ids.length then ids.getD i 0 else a + ((i - ids.length : Nat) : Int) := by
  have hl := outI_len ids (a, m)
  unfold outI at hi ⊢
  rw [List.getD_eq_getElem?_getD]
  split
  · rename_i h
    rw [List.getElem?_append_left h, List.getD_eq_getElem?_getD]
  · rename_i h
    rw [List.getElem?_append_right (by omega)]
    simp only [List.length_append, List.length_map, List.length_range] at hi
    simp only [List.getElem?_map]
    rw [List.getElem?_range (by omega)]
    rfl
/-- A type that was rolled up is unrolled. -/
theorem unroll {ids : List Int} {g : List Sb} {a : Int} {t : Sb} (ht : rollSok ids g.length t = true) : smap (unH a) (rollS ids g.length t) = smap (wantH (outI ids (a, (g.length : Int)))) t := by
  unfold rollSok at ht
  simp only [Bool.and_eq_true] at ht
  obtain ⟨h1, h2⟩ := ht
  obtain ⟨h3, h4⟩ := ps_heaps h1
  unfold rollS
  rw [smap_comp]
  refine smap_congr fun x hx => ?_
  have hp := List.all_eq_true.1 h3 x hx
  have ho := of_decide_eq_true (List.all_eq_true.1 h2 x hx)
  have hl := outI_len ids (a, (g.length : Int))
  simp only [Int.toNat_natCast] at hl
  by_cases h13 : x.k = 13
  · have h0 : 0 ≤ x.n ∧ x.n < ids.length + g.length := by omega
    unfold wantH
    rw [if_pos ⟨h13, h0.1, by rw [hl]; omega⟩, outI_get (by rw [hl]; omega)]
    unfold rollH
    rw [if_neg (by simp [h13])]
    by_cases hn : x.n < ids.length
    · rw [if_pos ⟨h0.1, hn⟩, if_pos (by omega)]
      rfl
    · rw [if_neg (by omega), if_pos (by omega), if_neg (by omega)]
      unfold unH
      rw [if_pos rfl]
      congr 1
      simp only
      omega
  · unfold phF at hp
    rw [if_neg h13] at hp
    have hp := of_decide_eq_true hp
    unfold wantH rollH unH
    rw [if_pos h13, if_neg (by omega), if_neg (by omega)]

end Go.Proofs.YtkcbmkoafmffoaaDoor
