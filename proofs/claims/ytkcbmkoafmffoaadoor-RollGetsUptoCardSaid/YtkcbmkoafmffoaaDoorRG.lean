/-
  The roll layer: Close.
-/
import Derived.Test.YtkcbmkoafmffoaaDoorRF
set_option linter.unusedVariables false
set_option linter.unusedSimpArgs false
set_option maxRecDepth 20000
set_option maxHeartbeats 8000000
namespace Go.Proofs.YtkcbmkoafmffoaaDoor
open Go Go.Eng

def clOk (s : TS) (ids : List Int) (h : Hp) : Bool := decide (h.k ≠ 13) || (decide (0 ≤ h.n ∧ h.n < ids.length) && hasF s (ids.getD h.n.toNat 0))
def clH (s : TS) (ids : List Int) (h : Hp) : Hp := if h.k ≠ 13 then h else if clOk s ids h = true then ⟨15, ids.getD h.n.toNat 0⟩ else h
def clF (s : TS) (ids : List Int) (v : Vl) : Vl × Int := if (pvF v && (decide (v.k ≠ 3) || clOk s ids v.h)) = true then (mvV (clH s ids) v, 0) else (⟨0, false, ⟨0, 0⟩⟩, 2)

theorem close1_step {G : Nat → Prop} {W : World} {bi bt bo p : Nat} {OT : Nat → Prop} {s : TS} {ids : List Int} {A : Option Addr} {c : Nat} (hi0 : G bi ∧ W.heap[bi]? = some (.cells #[.slice A ids.length c] 44 (0, 0))) (ht0 : G bt ∧ W.heap[bt]? = some (.cells #[.pointer (some ⟨p, 0, none⟩)] 45 (0, 0)))
    (hT : TabW W OT p s) (hOT : ∀ b, OT b → G b) (hA0 : Cs G W A (ics ids)) (b : Bool) (h : Hp) :
    Step G W 57 [.pointer (some ⟨bi, 0, none⟩), .pointer (some ⟨bt, 0, none⟩), .pointer (some ⟨bo, 0, none⟩)] h (clH s ids h) (OkI bo b) (OkI bo (b && clOk s ids h)) := by
  intro w O hK hI hO
  obtain ⟨k, n⟩ := h
  obtain ⟨r, hr⟩ : ∃ r, clH s ids ⟨k, n⟩ = r := ⟨_, rfl⟩
  obtain ⟨o, ho⟩ : ∃ o, clOk s ids ⟨k, n⟩ = o := ⟨_, rfl⟩
  rw [hr, ho]
  unfold clH at hr
  rw [ho] at hr
  unfold clOk at ho
  simp only at hr ho
  have gm : ∀ x, G x → W.heap[x]? ≠ none → Gm w O x := fun x hx hn => by
    refine ⟨?_, fun ho => (hO x ho).1 hx⟩
    have := hK.block x hx
    rcases Nat.lt_or_ge x w.heap.size with h' | h'
    · exact h'
    · rw [Array.getElem?_eq_none h'] at this; exact absurd this.symm hn
  have hi : w.heap[bi]? = some (.cells #[.slice A ids.length c] 44 (0, 0)) := by rw [hK.block _ hi0.1]; exact hi0.2
  have ht : w.heap[bt]? = some (.cells #[.pointer (some ⟨p, 0, none⟩)] 45 (0, 0)) := by rw [hK.block _ ht0.1]; exact ht0.2
  have ri : rd w (some ⟨bi, 0, none⟩) 0 = .slice A ids.length c := rd0 (l := [_]) hi 0
  have rt : rd w (some ⟨bt, 0, none⟩) 0 = .pointer (some ⟨p, 0, none⟩) := rd0 (l := [_]) ht 0
  have ok1 : ∀ {x : Nat} {v : Value} {t : Nat}, G x → W.heap[x]? ≠ none → w.heap[x]? = some (.cells #[v] t (0, 0)) → okRd (Gm w O) w (some ⟨x, 0, none⟩) 0 1 := by
    intro x v t hx hne hw
    obtain ⟨ad, e, _, h3⟩ := okRd0 (l := [v]) hw 0 1 (by simp)
    have e := Option.some.inj e
    subst e
    exact ⟨_, rfl, gm x hx hne, h3⟩
  have oi := ok1 hi0.1 (by rw [hi0.2]; simp) hi
  have ot := ok1 ht0.1 (by rw [ht0.2]; simp) ht
  have hTw : TabW w OT p s := ⟨(TabA s).loc hT.r fun b hb => hK.block b (hOT b hb), fun b hb => Nat.lt_of_lt_of_le (hT.o b hb) hK.size⟩
  have hA : ∀ i (hi : i < ids.length), okRd (Gm w O) w (pAdd A (i * 1)) 0 1 ∧ rd w (pAdd A (i * 1)) 0 = .int .i64 ids[i] := by
    intro i hi
    obtain ⟨h1, h2⟩ := ics_at (hA0.keep hK) i hi
    obtain ⟨ad, e, hg', h3⟩ := h1
    refine ⟨⟨ad, e, ?_, h3⟩, h2⟩
    refine ⟨?_, fun ho => (hO _ ho).1 hg'⟩
    have := h3 0 (by omega)
    rcases Nat.lt_or_ge ad.block w.heap.size with h' | h'
    · exact h'
    · have e : (ad.add (0 + 0)).block = ad.block := add_block _ _
      simp only [World.cell?, e, Array.getElem?_eq_none h'] at this
      cases this
  have hst : HS (Gm w O) w { T := T0 [.v (.agg #[.int .i64 k, .int .i64 n]), .v (.pointer (some ⟨bi, 0, none⟩)), .v (.pointer (some ⟨bt, 0, none⟩)), .p 0 0] 37, X := [bo], L := [.cells 4 [.v (.bool b)]], D := [] } [] w := by
    refine ⟨fun i x => i = 0 ∧ x = bo, rfl, ?_, ?_, ?_, ?_, fun b hb => hb.1, Keep.refl _ _⟩
    · intro i e hi
      match i, hi with
      | 0, hi =>
        simp at hi; subst hi
        exact ⟨⟨rfl, rfl⟩, hI.2⟩
    · intro e he
      simp at he; subst he
      intro c hc'
      simp at hc'; subst hc'; trivial
    · rintro i j x hi hj hij ⟨rfl, rfl⟩ ⟨rfl, _⟩
      exact hij rfl
    · rintro i x hi ⟨rfl, rfl⟩
      exact ⟨fun hg => hg.2 hI.1, (hO _ hI.1).2⟩
  refine Go.Eng.start (X := [bo]) (L := [.cells 4 [.v (.bool b)]]) (args := [.v (.agg #[.int .i64 k, .int .i64 n]), .v (.pointer (some ⟨bi, 0, none⟩)), .v (.pointer (some ⟨bt, 0, none⟩)), .p 0 0]) (G := Gm w O) Tryd.func57 rfl Tryd.ntmps57 (by simp [SV.lt]) hst ?_
  refine Res.run 1000 ?_
  have fin : ∀ {T : List (Option SV)} {X : List Nat} {L : List Ent} {b' : Bool} {new : List Nat} {w' : World}, HS (Gm w O) w { T := T, X := bo :: X, L := .cells 4 [.v (.bool b')] :: L, D := [] } new w' → ∃ O', (OkI bo b').R O' w' ∧ Chg w w' O O' := by
    rintro T X L b' new w' ⟨own, ho'⟩
    have g0 := ho'.ok 0 _ rfl
    exact ⟨own 0, g0, chg_of ho' 0 (by simp)⟩
  by_cases h13 : k = 13
  case neg =>
    have e1 : (k != 13) = true := by simp [h13]
    rw [if_pos h13] at hr
    subst hr
    obtain rfl : o = true := by rw [← ho]; simp [h13]
    simp only [↓reduceIte, Nat.reduceEqDiff, Nat.reduceAdd, Nat.reduceSub, Nat.reduceMul, Nat.reduceLT, Int.reduceToNat, Int.reduceBEq, Int.reduceBNe, Int.reduceLT, Int.reduceLE, E, E', TY, e1]
    refine Ret.body [.agg [.v (.int .i64 k), .v (.int .i64 n)]] rfl (by kernel_rfl) fun new w' hs => ?_
    obtain ⟨O', h1, h2⟩ := fin hs
    exact ⟨O', rfl, h1, h2⟩
  have e1 : (k != 13) = false := by simp [h13]
  rw [if_neg (by simp [h13])] at hr
  have ho : (decide (0 ≤ n ∧ n < ids.length) && hasF s (ids.getD n.toNat 0)) = o := by rw [← ho]; simp [h13]
  simp only [↓reduceIte, Nat.reduceEqDiff, Nat.reduceAdd, Nat.reduceSub, Nat.reduceMul, Nat.reduceLT, Int.reduceToNat, Int.reduceBEq, Int.reduceBNe, Int.reduceLT, Int.reduceLE, E, E', TY, e1]
  refine Res.quiet [.bool (hasF s (ids.getD n.toNat 0))] (by kernel_rfl) (by kernel_rfl) ?_
  by_cases h0 : n < 0
  · have e2 : decide (n < 0) = true := decide_eq_true h0
    obtain rfl : o = false := by rw [← ho, decide_eq_false (by omega)]; rfl
    rw [if_neg (by simp)] at hr
    subst hr
    simp only [↓reduceIte, Nat.reduceEqDiff, Nat.reduceAdd, Nat.reduceSub, Nat.reduceMul, Nat.reduceLT, Int.reduceToNat, Int.reduceBEq, Int.reduceBNe, Int.reduceLT, Int.reduceLE, E, E', TY, e2]
    refine Res.run 900 ?_
    simp only [↓reduceIte, Nat.reduceEqDiff, Nat.reduceAdd, Nat.reduceSub, Nat.reduceMul, Nat.reduceLT, Int.reduceToNat, Int.reduceBEq, Int.reduceBNe, Int.reduceLT, Int.reduceLE, E, E', TY]
    refine Ret.body [.agg [.v (.int .i64 k), .v (.int .i64 n)]] rfl (by kernel_rfl) fun new w' hs => ?_
    obtain ⟨O', h1, h2⟩ := fin hs
    exact ⟨O', rfl, h1, h2⟩
  have e2 : decide (n < 0) = false := decide_eq_false h0
  by_cases h1 : n ≥ ids.length
  · have e3 : decide (n ≥ ((ids.length : Nat) : Int)) = true := decide_eq_true h1
    obtain rfl : o = false := by rw [← ho, decide_eq_false (by omega)]; rfl
    rw [if_neg (by simp)] at hr
    subst hr
    simp only [↓reduceIte, Nat.reduceEqDiff, Nat.reduceAdd, Nat.reduceSub, Nat.reduceMul, Nat.reduceLT, Int.reduceToNat, Int.reduceBEq, Int.reduceBNe, Int.reduceLT, Int.reduceLE, E, E', TY, e2, e3, ri]
    refine ⟨oi, Res.run 900 ?_⟩
    simp only [↓reduceIte, Nat.reduceEqDiff, Nat.reduceAdd, Nat.reduceSub, Nat.reduceMul, Nat.reduceLT, Int.reduceToNat, Int.reduceBEq, Int.reduceBNe, Int.reduceLT, Int.reduceLE, E, E', TY]
    refine Ret.body [.agg [.v (.int .i64 k), .v (.int .i64 n)]] rfl (by kernel_rfl) fun new w' hs => ?_
    obtain ⟨O', h1, h2⟩ := fin hs
    exact ⟨O', rfl, h1, h2⟩
  have e3 : decide (n ≥ ((ids.length : Nat) : Int)) = false := decide_eq_false h1
  obtain ⟨q1, q2⟩ := hA n.toNat (by omega)
  have hAs : A.isSome = true := okRd_some q1
  have hg : ids.getD n.toNat 0 = ids[n.toNat]'(by omega) := by rw [List.getD_eq_getElem?_getD, List.getElem?_eq_getElem (by omega)]; rfl
  rw [decide_eq_true (⟨by omega, by omega⟩ : 0 ≤ n ∧ n < ids.length), Bool.true_and] at ho
  rw [hg] at hr ho ⊢
  have hasC : ∀ w', Keep (Gm w O) w w' → Calls Tryd.prog 52 #[.pointer (some ⟨p, 0, none⟩), .int .i64 (ids[n.toNat]'(by omega))] w' fun e w'' => e = .returned (.bool o) ∧ Ext w' w'' := by
    intro w' hk
    have hT' : TabW w' OT p s := ⟨(TabA s).loc hTw.r fun b hb => hk.block b ⟨hTw.o b hb, fun hob => (hO b hob).1 (hOT b hb)⟩, fun b hb => Nat.lt_of_lt_of_le (hTw.o b hb) hk.size⟩
    have := m_has hT' (ids[n.toNat]'(by omega))
    rw [ho] at this; exact this
  rw [ho]
  cases o with
  | false =>
    rw [if_neg (by simp)] at hr
    subst hr
    simp only [↓reduceIte, Nat.reduceEqDiff, Nat.reduceAdd, Nat.reduceSub, Nat.reduceMul, Nat.reduceLT, Int.reduceToNat, Int.reduceBEq, Int.reduceBNe, Int.reduceLT, Int.reduceLE, E, E', TY, e2, e3, ri, rt, q2, fnok52]
    refine ⟨oi, ot, oi, ⟨by omega, by omega, hAs⟩, q1, fun new w' hs => hasC w' hs.keep, Res.run 900 ?_⟩
    simp only [↓reduceIte, Nat.reduceEqDiff, Nat.reduceAdd, Nat.reduceSub, Nat.reduceMul, Nat.reduceLT, Int.reduceToNat, Int.reduceBEq, Int.reduceBNe, Int.reduceLT, Int.reduceLE, E, E', TY]
    refine Ret.body [.agg [.v (.int .i64 k), .v (.int .i64 n)]] rfl (by kernel_rfl) fun new w' hs => ?_
    obtain ⟨O', h1, h2⟩ := fin hs
    exact ⟨O', rfl, h1, h2⟩
  | true =>
    rw [if_pos rfl] at hr
    subst hr
    simp only [↓reduceIte, Nat.reduceEqDiff, Nat.reduceAdd, Nat.reduceSub, Nat.reduceMul, Nat.reduceLT, Int.reduceToNat, Int.reduceBEq, Int.reduceBNe, Int.reduceLT, Int.reduceLE, E, E', TY, e2, e3, ri, rt, q2, fnok52]
    refine ⟨oi, ot, oi, ⟨by omega, by omega, hAs⟩, q1, fun new w' hs => hasC w' hs.keep, Res.run 900 ?_⟩
    simp only [↓reduceIte, Nat.reduceEqDiff, Nat.reduceAdd, Nat.reduceSub, Nat.reduceMul, Nat.reduceLT, Int.reduceToNat, Int.reduceBEq, Int.reduceBNe, Int.reduceLT, Int.reduceLE, E, E', TY, ri, q2]
    refine ⟨oi, ⟨by omega, by omega, hAs⟩, q1, ?_⟩
    refine Ret.body [.agg [.v (.int .i64 15), .v (.int .i64 (ids[n.toNat]'(by omega)))]] rfl (by kernel_rfl) fun new w' hs => ?_
    obtain ⟨O', h1, h2⟩ := fin hs
    exact ⟨O', rfl, h1, h2⟩

theorem m_Close {w : World} {O : Nat → Prop} {p : Nat} {s : TS} (hT : TabW w O p s) (ids : List Int) (A : Option Addr) (c : Nat) (hA : Cs (· < w.heap.size) w A (ics ids)) (v : Vl) :
    Calls Tryd.prog 23 #[.pointer (some ⟨p, 0, none⟩), .slice A ids.length c, v.v] w fun e w' => e = .returned (.tuple #[(clF s ids v).1.v, .int .i64 (clF s ids v).2]) ∧ Ext w w' := by
  obtain ⟨R, hR⟩ : ∃ R, clF s ids v = R := ⟨_, rfl⟩
  rw [hR]
  unfold clF at hR
  have hv : v.v = .agg #[.int .i64 v.k, .bool v.nul, .int .i64 v.h.k, .int .i64 v.h.n] := rfl
  refine start0 (args := [.v (.pointer (some ⟨p, 0, none⟩)), .v (.slice A ids.length c), .v v.v]) (G := (· < w.heap.size)) Tryd.func23 rfl Tryd.ntmps23 (by simp [SV.lt]) (fun _ h => h) ?_
  refine Res.run 1000 ?_
  simp only [↓reduceIte, Nat.reduceEqDiff, Nat.reduceAdd, Nat.reduceSub, Nat.reduceMul, Nat.reduceLT, Int.reduceToNat, Int.reduceBEq, Int.reduceBNe, Int.reduceLT, Int.reduceLE, E, E', TY, hv]
  refine ⟨fnok49, CallAt.pure #[.pointer (some ⟨p, 0, none⟩)] (.bool true) (fun _ => rfl) (fun w' hw => m_there (hT.ext hw)) (Res.run 900 ?_)⟩
  simp only [↓reduceIte, Nat.reduceEqDiff, Nat.reduceAdd, Nat.reduceSub, Nat.reduceMul, Nat.reduceLT, Int.reduceToNat, Int.reduceBEq, Int.reduceBNe, Int.reduceLT, Int.reduceLE, E, E', TY]
  refine ⟨fnok14, CallAt.pure #[v.v] (.bool (pvF v)) (fun _ => rfl) (fun w' hw => m_PlainVal v) (Res.run 900 ?_)⟩
  obtain ⟨b0, hb0⟩ : ∃ b0, pvF v = b0 := ⟨_, rfl⟩
  rw [hb0] at hR ⊢
  simp only [↓reduceIte, Nat.reduceEqDiff, Nat.reduceAdd, Nat.reduceSub, Nat.reduceMul, Nat.reduceLT, Int.reduceToNat, Int.reduceBEq, Int.reduceBNe, Int.reduceLT, Int.reduceLE, E, E', TY]
  refine ⟨fnok56, ?_⟩
  obtain ⟨b1, hb1⟩ : ∃ b1, (b0 && (decide (v.k ≠ 3) || clOk s ids v.h)) = b1 := ⟨_, rfl⟩
  rw [hb1] at hR
  have hmv : mvF v (clH s ids v.h) = mvV (clH s ids) v := rfl
  obtain ⟨u, hu⟩ : ∃ u, mvV (clH s ids) v = u := ⟨_, rfl⟩
  rw [hu] at hR hmv
  have huv : u.v = .agg #[.int .i64 u.k, .bool u.nul, .int .i64 u.h.k, .int .i64 u.h.n] := rfl
  refine CallAt.merge 4 [4] (OkA b0) ⟨by simp, by simp⟩ (fun new w1 own ho => ?_) ?_
  · obtain ⟨g1, g2⟩ := ho.ok 4 _ rfl
    exact ⟨⟨4, by simp, by simp, g1⟩, g2⟩
  refine CallAt.asnO 4 (OkA b0) rfl (fun x A' => x = u.v ∧ A' = OkA b1) (fun new w1 own ho => ?_) ?_
  · obtain ⟨t1, t2⟩ := ho.ok 0 _ rfl
    obtain ⟨i1, i2⟩ := ho.ok 1 _ rfl
    have o1 : (OkA b0).R (own 4) _ w1 := ho.ok 4 _ rfl
    have gG : ∀ x, x < w.heap.size → Gm w1 (own 4) x := fun x hx => ⟨Nat.lt_of_lt_of_le hx ho.keep.size, fun h => (ho.out 4 x (by simp [St.merge, killE, setE]) h).1 hx⟩
    have gm : ∀ j x, j < 4 → own j x → Gm w1 (own 4) x := fun j x hj hx => ⟨(ho.out j x (by simp [St.merge, killE, setE]; omega) hx).2, fun h => ho.apart j 4 x (by simp [St.merge, killE, setE]; omega) (by simp [St.merge, killE, setE]) (by omega) hx h⟩
    have hM := m_MapVal (G := Gm w1 (own 4)) (W := w1) (O := own 4) v (clH s ids v.h) 57 [.pointer (some ⟨_, 0, none⟩), .pointer (some ⟨_, 0, none⟩), .pointer (some ⟨_, 0, none⟩)] (OkI _ b0) (OkI _ (b0 && clOk s ids v.h)) fnok57 (Keep.refl _ _) (fun b h => h) (fun b h => (ho.out 4 b (by simp [St.merge, killE, setE]) h).2) o1
      (fun h3 => close1_step ⟨gm 1 _ (by decide) i1, i2⟩ ⟨gm 0 _ (by decide) t1, t2⟩ (hT.ext ho.keep) (fun b hb => gG b (hT.o b hb)) ((hA.keep ho.keep).mono gG) b0 v.h)
    refine hM.mono ?_
    rintro e w' ⟨O', rfl, hI, hC⟩
    refine ⟨_, _, O', by rw [hmv], ⟨rfl, rfl⟩, ?_, hC⟩
    by_cases h3 : v.k = 3
    · rw [if_pos h3] at hI
      rw [decide_eq_false (by simp [h3]), Bool.false_or] at hb1
      rw [← hb1]; exact hI
    · rw [if_neg h3] at hI
      rw [decide_eq_true h3, Bool.true_or, Bool.and_true] at hb1
      rw [← hb1]; exact hI
  rintro _ _ ⟨rfl, rfl⟩
  refine Res.okOpen (b := b1) 4 rfl (Res.run 900 ?_)
  cases b1 with
  | true =>
    rw [if_pos rfl] at hR
    subst hR
    simp only [↓reduceIte, Nat.reduceEqDiff, Nat.reduceAdd, Nat.reduceSub, Nat.reduceMul, Nat.reduceLT, Int.reduceToNat, Int.reduceBEq, Int.reduceBNe, Int.reduceLT, Int.reduceLE, E, E', TY, huv, St.merge, killE]
    exact Ret.det [.agg [.v (.int .i64 u.k), .v (.bool u.nul), .v (.int .i64 u.h.k), .v (.int .i64 u.h.n)], .v (.int .i64 0)] rfl (by kernel_rfl) (fun _ => rfl)
  | false =>
    rw [if_neg (by simp)] at hR
    subst hR
    simp only [↓reduceIte, Nat.reduceEqDiff, Nat.reduceAdd, Nat.reduceSub, Nat.reduceMul, Nat.reduceLT, Int.reduceToNat, Int.reduceBEq, Int.reduceBNe, Int.reduceLT, Int.reduceLE, E, E', TY, huv, St.merge, killE]
    exact Ret.det [.agg [.v (.int .i64 0), .v (.bool false), .v (.int .i64 0), .v (.int .i64 0)], .v (.int .i64 2)] rfl (by kernel_rfl) (fun _ => rfl)
end Go.Proofs.YtkcbmkoafmffoaaDoor
