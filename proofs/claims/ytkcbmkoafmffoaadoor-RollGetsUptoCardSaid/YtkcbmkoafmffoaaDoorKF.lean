/-
  The kind layer: Heaps, as an iterator.
-/
import Derived.Test.YtkcbmkoafmffoaaDoorKF0
set_option linter.unusedVariables false
set_option linter.unusedSimpArgs false
set_option maxRecDepth 20000
set_option maxHeartbeats 8000000
namespace Go.Proofs.YtkcbmkoafmffoaaDoor
open Go Go.Eng

/-- The heap types that were collected: hs, in a cell of block p. -/
def Coll (p : Nat) (hs : List Hp) : Inv where
  R O w := ∃ nl b cap cur, FS0 2 hs.length (hcs hs) nl cap cur ∧ O p ∧ w.heap[p]? = some (.cells #[.slice (sA nl b 0) hs.length cap] 22 (0, 0)) ∧ (nl = false → O b ∧ b ≠ p ∧ w.heap[b]? = some (.cells cur.toArray 33 (0, 0)))
  loc := by
    rintro O w w' ⟨nl, b, cap, cur, hF, hp, hc, hr⟩ hw
    exact ⟨nl, b, cap, cur, hF, hp, by rw [hw _ hp]; exact hc, fun hn => ⟨(hr hn).1, (hr hn).2.1, by rw [hw _ (hr hn).1]; exact (hr hn).2.2⟩⟩

theorem m_H11 {w : World} {O : Nat → Prop} (p : Nat) (hs : List Hp) (h : Hp) (hz : hs.length ≤ 4400000) (hI : (Coll p hs).R O w) (hO : ∀ b, O b → b < w.heap.size) :
    Calls Tryd.prog 70 #[h.v, .pointer (some ⟨p, 0, none⟩)] w fun e w' => ∃ O', e = .returned h.v ∧ (Coll p (hs ++ [h])).R O' w' ∧ Chg w w' O O' := by
  obtain ⟨nl, b, cap, cur, hF, hp, hc, hr⟩ := hI
  have hst : HS (Gm w O) w { T := T0 [.v (.agg #[.int .i64 h.k, .int .i64 h.n]), .p 0 0] 9, X := [p, 0], L := [.cells 22 [.v (.slice (sA nl b 0) hs.length cap)], .asn (RowA b nl 33 cur)], D := [] } [] w := by
    refine ⟨fun i x => (i = 0 ∧ x = p) ∨ (i = 1 ∧ nl = false ∧ x = b), rfl, ?_, ?_, ?_, ?_, fun b hb => hb.1, Keep.refl _ _⟩
    · intro i e hi
      match i, hi with
      | 0, hi =>
        simp at hi; subst hi
        exact ⟨.inl ⟨rfl, rfl⟩, hc⟩
      | 1, hi =>
        simp at hi; subst hi
        exact fun hn => ⟨.inr ⟨rfl, hn, rfl⟩, (hr hn).2.2⟩
    · intro e he
      simp at he
      rcases he with rfl | rfl
      · intro c hc'
        simp at hc'; subst hc'; trivial
      · trivial
    · rintro i j x hi hj hij (⟨rfl, rfl⟩ | ⟨rfl, hn, rfl⟩) (⟨rfl, h2⟩ | ⟨rfl, hn2, h2⟩)
      · exact hij rfl
      · exact (hr hn2).2.1 h2.symm
      · exact (hr hn).2.1 h2
      · exact hij rfl
    · rintro i x hi (⟨rfl, rfl⟩ | ⟨rfl, hn, rfl⟩)
      · exact ⟨fun hg => hg.2 hp, hO _ hp⟩
      · exact ⟨fun hg => hg.2 (hr hn).1, hO _ (hr hn).1⟩
  refine Go.Eng.start (X := [p, 0]) (L := [.cells 22 [.v (.slice (sA nl b 0) hs.length cap)], .asn (RowA b nl 33 cur)]) (args := [.v (.agg #[.int .i64 h.k, .int .i64 h.n]), .p 0 0]) (G := Gm w O) Tryd.func70 rfl Tryd.ntmps70 (by simp [SV.lt]) hst ?_
  refine Res.run 1000 ?_
  simp only [↓reduceIte, Nat.reduceEqDiff, Nat.reduceAdd, Nat.reduceSub, Nat.reduceMul, Nat.reduceLT, Int.reduceToNat, Int.reduceBEq, Int.reduceBNe, Int.reduceLT, Int.reduceLE, E, E', TY]
  refine Res.op (OpAt.appendR (x := .tmp 4) (y := .tmp 6) (t := 22) (e := 33) (size := 2) (bytes := 16) (i := 1) (b := b) (nl := nl) (n := hs.length) (cap := cap) (m := 1) (cur := cur) h.cs rfl rfl rfl rfl ap22 rfl rfl hF
    (SrcOK.s (j := 4) (off := 0) (c := 1) (nl := false) rfl rfl (by simp) (by intro i u hu; rw [Nat.zero_add]; exact hu)) rfl (Hp.one _) ⟨by simp [maxLen]; omega, by omega⟩ fun nl' b' cap' cur' hF' hn' => Res.run 900 ?_)
  simp only [↓reduceIte, Nat.reduceEqDiff, Nat.reduceAdd, Nat.reduceSub, Nat.reduceMul, Nat.reduceLT, Int.reduceToNat, Int.reduceBEq, Int.reduceBNe, Int.reduceLT, Int.reduceLE, E, E', TY]
  refine Ret.body [.agg [.v (.int .i64 h.k), .v (.int .i64 h.n)]] rfl (by kernel_rfl) fun new w' hs' => ?_
  obtain ⟨own, ho⟩ := hs'
  have g0 := ho.ok 0 _ rfl
  have g1 : (RowA b' nl' 33 cur').R (own 1) _ w' := ho.ok 1 _ rfl
  refine ⟨fun x => own 0 x ∨ own 1 x, by simp [resOf, SV.den, At.den, Hp.v], ⟨nl', b', cap', cur', ?_, .inl g0.1, ?_, fun hn => ⟨.inr (g1 hn).1, ?_, (g1 hn).2⟩⟩, ?_⟩
  · have : hcs (hs ++ [h]) = hcs hs ++ h.cs := by simp [hcs]
    rw [this, List.length_append]; exact hF'
  · rw [List.length_append]; exact g0.2
  · intro he
    exact ho.apart 0 1 b' (by simp) (by simp) (by omega) (he ▸ g0.1) (g1 hn).1
  · have c0 := chg_of ho 0 (by simp)
    have c1 := chg_of ho 1 (by simp)
    exact ⟨c0.os, c0.tape, c0.output, c0.size, c0.block, fun x hx => hx.elim (c0.own x) (c1.own x)⟩

/-- The closure of Heaps collects. -/
theorem coll_step {G : Nat → Prop} {W : World} (p : Nat) (s : Sb) (hz : (sHeaps s).length ≤ 4400000) (i : Nat) (h : Hp) (hi : (sHeaps s)[i]? = some h) :
    Step G W 70 [.pointer (some ⟨p, 0, none⟩)] h h (Coll p ((sHeaps s).take i)) (Coll p ((sHeaps s).take (i + 1))) := by
  intro w O hK hI hO
  have hil := (List.getElem?_eq_some_iff.1 hi).1
  have e : (sHeaps s).take (i + 1) = (sHeaps s).take i ++ [h] := by rw [List.take_add_one, hi]; rfl
  rw [e]
  exact m_H11 p _ h (by rw [List.length_take]; omega) hI (fun b hb => (hO b hb).2)

def hpE (s : Sb) (i : Nat) : List Value := [((sHeaps s).getD i ⟨0, 0⟩).v]

/-- What the iterator reads: the type it was made with. -/
def HpR (G : Nat → Prop) (b : Nat) (s : Sb) (x : SL) (w : World) : Prop := G b ∧ w.heap[b]? = some (.cells (s.cs x).toArray 29 (0, 0)) ∧ SbR G w s x

theorem nref_le (l : List Vl) : nref l ≤ l.length := by
  induction l with
  | nil => simp [nref]
  | cons v l ih => unfold nref; split <;> simp <;> omega
theorem sHeaps_le {s : Sb} {B : Nat} (hz : s.small B) : (sHeaps s).length ≤ 4 * B := by
  have h1 := nref_le s.ps
  have h2 := nref_le s.rs
  have h3 := nref_le (tys s.fs)
  rw [tys_len] at h3
  have := hz.su
  have := hz.ps
  have := hz.rs
  have := hz.fs
  rw [sHeaps_len]; omega

/-- What was collected, as a thing of ours. -/
def CollA (hs : List Hp) : Asn where
  R O p w := (Coll p hs).R O w
  loc h hw := (Coll _ hs).loc h hw

theorem YieldAt.mono' {F : Fence} {m : Nat} {P : Program} {l : Nat} {args : Array Value} {W : World} {R R' : Ending → World → Prop} (h : YieldAt F m P l args W R) (hr : ∀ e w, R e w → R' e w) : YieldAt F m P l args W R' := by
  obtain ⟨fn, tmps, assign, body, hy, hR⟩ := h
  exact ⟨fn, tmps, assign, body, hy, hR.mono hr⟩

/-- Between two rounds. -/
structure HZ (G : Nat → Prop) (J : Nat → (Nat → Prop) → World → Prop) (A : Option Addr) (hs : List Hp) where
  i : Nat
  G' : Nat → Prop
  W : World
  O : Nat → Prop
  hi : i ≤ hs.length
  hj : J i O W
  hG : ∀ c, (G c ∨ O c) → G' c
  hl : ∀ c, G' c → c < W.heap.size
  hc : Cs (fun c => G' c ∧ ¬ O c) W A (hcs hs)

theorem heaps_iter (G : Nat → Prop) (b : Nat) (s : Sb) (x : SL) (hz : s.small 1100000) : Iter2 Tryd.prog 69 #[.pointer (some ⟨b, 0, none⟩)] (sHeaps s).length (hpE s) G (HpR G b s x) := by
  have hN := sHeaps_le hz
  intro l J Jx O0 w hJ hJx hout hxout hRd hy h0
  obtain ⟨hGb, hcell, hsb⟩ := hRd 0 O0 w h0
  have hout0 := hout 0 O0 w h0
  have hsb' : SbR (· < w.heap.size) w s x := hsb.mono fun c hc => hout0.2 c hc
  have r := rd0 (l := s.cs x) hcell
  have r0 : rd w (some ⟨b, 0, none⟩) 0 = .bool s.fin := r 0
  have r1 : rd w (some ⟨b, 0, none⟩) 1 = .slice x.a1 s.su.length x.c1 := r 1
  have r2 : rd w (some ⟨b, 0, none⟩) 2 = .int .i64 s.k := r 2
  have r3 : rd w (some ⟨b, 0, none⟩) 3 = .slice x.a2 s.ps.length x.c2 := r 3
  have r4 : rd w (some ⟨b, 0, none⟩) 4 = .slice x.a3 s.rs.length x.c3 := r 4
  have r5 : rd w (some ⟨b, 0, none⟩) 5 = .slice x.a4 s.fs.length x.c4 := r 5
  have o0 := okRd0 (l := s.cs x) hcell 0 6 (by simp [Sb.cs])
  refine start0 (args := [.v (.func (.yield l) #[] #[]), .v (.pointer (some ⟨b, 0, none⟩))]) (G := (· < w.heap.size)) Tryd.func69 rfl Tryd.ntmps69 (by simp [SV.lt]) (fun _ h => h) ?_
  refine Res.run 1000 ?_
  simp only [↓reduceIte, Nat.reduceEqDiff, Nat.reduceAdd, Nat.reduceSub, Nat.reduceMul, Nat.reduceLT, Int.reduceToNat, Int.reduceBEq, Int.reduceBNe, Int.reduceLT, Int.reduceLE, E, E', TY, r0, r1, r2, r3, r4, r5]
  refine ⟨o0, fnok20, ?_⟩
  refine CallAt.merge 0 [0] (CollA []) (by simp) (fun new w1 own ho => ?_) ?_
  · have h := ho.ok 0 _ rfl
    exact ⟨true, 0, 0, [], FS0.empty, ⟨0, by simp, by simp, h.1⟩, h.2, fun h => by cases h⟩
  refine CallAt.asnO 0 (CollA []) rfl (fun _ A' => A' = CollA (sHeaps s)) (fun new w1 own ho => ?_) ?_
  · have hm := m_Map (w := w1) (G := fun _ => False) (W := w1) (O := own 0) s x 70 [.pointer (some ⟨([] ++ new : List Nat).getD 0 0, 0, none⟩)] (fun i => Coll (([] ++ new : List Nat).getD 0 0) ((sHeaps s).take i)) (fun i => (sHeaps s).getD i ⟨0, 0⟩) fnok70 (Keep.refl _ _) (fun _ h => h.elim) (fun c hc => (ho.out 0 c (by simp [St.merge, setE_eq, killE]) hc).2) (ho.ok 0 _ rfl) ?_ hz ?_
    · refine hm.mono ?_
      rintro e w' ⟨O1, O2, y, rfl, hI, _, hC, _, _⟩
      rw [List.take_length] at hI
      exact ⟨_, _, O1, rfl, rfl, hI, hC⟩
    · exact (hsb'.keep ho.keep).mono fun c hc => ⟨by have := ho.keep.size; omega, fun hn => (ho.out 0 c (by simp [St.merge, setE_eq, killE]) hn).1 hc⟩
    · intro i h hi
      have : (sHeaps s).getD i ⟨0, 0⟩ = h := by rw [List.getD_eq_getElem?_getD, hi]; rfl
      rw [this]
      exact coll_step _ s (by omega) i h hi
  rintro u A' rfl
  refine Res.openA (D := RowX) 0 (CollA (sHeaps s)) rfl (fun d => FS0 2 (sHeaps s).length (hcs (sHeaps s)) d.nl d.cap d.cur) (fun d => .cells 22 [.v (.slice (sA d.nl d.b 0) (sHeaps s).length d.cap)]) (fun d => [.asn (RowA d.b d.nl 33 d.cur)]) ?_ ?_ fun d hF => Res.run 900 ?_
  · intro d
    refine ⟨?_, ?_⟩
    · intro c hc; simp at hc; subst hc; trivial
    · intro e he; simp at he; subst he; trivial
  · rintro ids O w1 hid ⟨nl, b2, cap, cur, hF, hp, hc, hr⟩ hO
    refine ⟨⟨nl, b2, cap, cur⟩, [0], fun i c => (i = 0 ∧ c = ids.getD 0 0) ∨ (i = 1 ∧ nl = false ∧ c = b2), hF, rfl, ⟨.inl ⟨rfl, rfl⟩, hc⟩, ?_, ?_, ?_⟩
    · intro j e hj
      match j, hj with
      | 0, hj =>
        simp at hj; subst hj
        exact fun hn => ⟨.inr ⟨rfl, hn, rfl⟩, (hr hn).2.2⟩
    · rintro i j c hij (⟨rfl, rfl⟩ | ⟨rfl, hn, rfl⟩) (⟨rfl, h2⟩ | ⟨rfl, hn2, h2⟩)
      · exact hij rfl
      · exact (hr hn2).2.1 h2.symm
      · exact (hr hn).2.1 h2
      · exact hij rfl
    · rintro i c (⟨rfl, rfl⟩ | ⟨rfl, hn, rfl⟩)
      · exact hp
      · exact (hr hn).1
  simp only [↓reduceIte, Nat.reduceEqDiff, Nat.reduceAdd, Nat.reduceSub, Nat.reduceMul, Nat.reduceLT, Int.reduceToNat, Int.reduceBEq, Int.reduceBNe, Int.reduceLT, Int.reduceLE, E, E', TY, List.append_nil]
  refine Res.free (b := d.b) (nl := d.nl) (ty := 33) (cur := d.cur) 1 rfl fun nx w1 hnx hK hrow => Res.run 900 ?_
  simp only [↓reduceIte, Nat.reduceEqDiff, Nat.reduceAdd, Nat.reduceSub, Nat.reduceMul, Nat.reduceLT, Int.reduceToNat, Int.reduceBEq, Int.reduceBNe, Int.reduceLT, Int.reduceLE, E, E', TY]
  have hc1 : Cs (fun c => (c < w.heap.size ∨ (d.nl = false ∧ c = d.b)) ∧ ¬ O0 c) w1 (sA d.nl d.b 0) (hcs (sHeaps s)) := by
    refine (cs_rowA (O := fun c => d.nl = false ∧ c = d.b) (q := 0) (ty := 33) (fun hn => ⟨⟨hn, rfl⟩, (hrow hn).1⟩) hF).mono fun c hc => ⟨.inr hc, fun ho => ?_⟩
    obtain ⟨hn, rfl⟩ := hc
    exact (hrow hn).2 (hout0.1 _ ho).2
  refine Res.loopW (X := HZ G J (sA d.nl d.b 0) (sHeaps s))
    (fun z => { T := mkT 20 [(0, .v (.func (.yield l) #[] #[])), (9, .v (.slice (sA d.nl d.b 0) (sHeaps s).length d.cap)), (10, .v (.int .i64 ((sHeaps s).length : Int))), (11, .v (.int .i64 (z.i : Int)))], X := [], L := [], D := [] })
    (fun z => z.G') (fun z => z.W) (fun z => (sHeaps s).length - z.i)
    ⟨0, fun c => c < w.heap.size ∨ (d.nl = false ∧ c = d.b), w1, O0, by omega, hJ 0 O0 w w1 h0 (hK.mono fun c hc => hc.elim (hout0.2 c) fun h => (hout0.1 c h).2), fun c hc => .inl (hc.elim (hout0.2 c) fun h => (hout0.1 c h).2), ?_, hc1⟩ rfl rfl (St.Le.of2 0 nx (by simp only [↓reduceIte, Nat.reduceEqDiff, Nat.reduceAdd, Nat.reduceSub, Nat.reduceMul, Nat.reduceLT, Int.reduceToNat, Int.reduceBEq, Int.reduceBNe, Int.reduceLT, Int.reduceLE, E, E', TY]; simp)) ?_
  · rintro c (hc | ⟨hn, rfl⟩)
    · have := hK.size; omega
    · exact (Array.getElem?_eq_some_iff.1 (hrow hn).1).1
  rintro ⟨i, G', W, O, hi, hj, hG, hl, hc⟩
  simp only at hi hj hG hl hc ⊢
  refine Res.run 900 ?_
  by_cases hlt : i < (sHeaps s).length
  case neg =>
    have e2 : decide ((i : Int) < ((sHeaps s).length : Int)) = false := by simp; omega
    simp only [↓reduceIte, Nat.reduceEqDiff, Nat.reduceAdd, Nat.reduceSub, Nat.reduceMul, Nat.reduceLT, Int.reduceToNat, Int.reduceBEq, Int.reduceBNe, Int.reduceLT, Int.reduceLE, E, E', TY, e2]
    refine Res.body [] rfl (by kernel_rfl) fun new w' hs => ⟨⟨_, rfl⟩, O, .inl ?_⟩
    obtain rfl : i = (sHeaps s).length := by omega
    exact hJ _ _ _ _ hj (hs.keep.mono hG)
  have e2 : decide ((i : Int) < ((sHeaps s).length : Int)) = true := by simp; omega
  obtain ⟨a0, a1, a2⟩ := hcs_at (hc.mono (G' := G') fun c hc => hc.1) i hlt
  have hAs : (sA d.nl d.b 0).isSome = true := okRd_some a0
  simp only [↓reduceIte, Nat.reduceEqDiff, Nat.reduceAdd, Nat.reduceSub, Nat.reduceMul, Nat.reduceLT, Int.reduceToNat, Int.reduceBEq, Int.reduceBNe, Int.reduceLT, Int.reduceLE, E, E', TY, e2, a1, a2, Int.toNat_natCast]
  refine ⟨⟨by omega, by omega, hAs⟩, a0, ?_⟩
  have hE : (hpE s i).toArray = #[(sHeaps s)[i].v] := by
    unfold hpE
    rw [List.getD_eq_getElem?_getD, List.getElem?_eq_getElem hlt]; rfl
  refine Res.yield (hpE s i).toArray (fun w v w' => ∃ O', Chg w w' O O' ∧ ((v = .bool true ∧ J (i + 1) O' w') ∨ (v = .bool false ∧ Jx i O' w'))) rfl rfl rfl rfl (fun ids => ?_) (fun new w' hs => ?_) ?_
  · rw [hE]; rfl
  · refine YieldAt.mono' (hy i O w' hlt (hJ _ _ _ _ hj (hs.keep.mono hG))) ?_
    rintro e w'' ⟨O', hC, ⟨rfl, h⟩ | ⟨rfl, h⟩⟩
    · exact ⟨_, rfl, O', hC, .inl ⟨rfl, h⟩⟩
    · exact ⟨_, rfl, O', hC, .inr ⟨rfl, h⟩⟩
  · rintro new w1' v w' hs ⟨O', hC, hp⟩
    have hKs := hs.keep
    obtain ⟨G2, hS2, hg1, hg2, hg3⟩ := HS.rebaseC hs hC (fun c hc => hG c (.inr hc))
    refine ⟨G2, w', _, rfl, hS2, Res.run 900 ?_⟩
    rcases hp with ⟨rfl, hp⟩ | ⟨rfl, hp⟩
    · simp only [↓reduceIte, Nat.reduceEqDiff, Nat.reduceAdd, Nat.reduceSub, Nat.reduceMul, Nat.reduceLT, Int.reduceToNat, Int.reduceBEq, Int.reduceBNe, Int.reduceLT, Int.reduceLE, E, E', TY, List.nil_append]
      refine ⟨i64ok_of (by omega) (by omega), ?_⟩
      refine Res.againW (x' := ⟨i + 1, G2, w', O', by omega, hp, fun c hc => hc.elim (fun h => hg1 c (hG c (.inl h))) (hg2 c), hg3, ?_⟩) (by simp only; omega) rfl rfl (St.Le.of2 0 new (by simp only [↓reduceIte, Nat.reduceEqDiff, Nat.reduceAdd, Nat.reduceSub, Nat.reduceMul, Nat.reduceLT, Int.reduceToNat, Int.reduceBEq, Int.reduceBNe, Int.reduceLT, Int.reduceLE, E, E', TY, Int.natCast_add, Int.cast_ofNat_Int]))
      refine ((hc.keep (hKs.mono fun c h => h.1)).loc fun c h => hC.block c ?_ h.2).mono fun c h => ⟨hg1 c h.1, fun ho => ?_⟩
      · have := hl c h.1; have := hKs.size; omega
      · have h3 := (hC.own c ho).2
        have := hl c h.1; have := hKs.size
        rcases h3 with h3 | h3
        · omega
        · exact h.2 h3
    · simp only [↓reduceIte, Nat.reduceEqDiff, Nat.reduceAdd, Nat.reduceSub, Nat.reduceMul, Nat.reduceLT, Int.reduceToNat, Int.reduceBEq, Int.reduceBNe, Int.reduceLT, Int.reduceLE, E, E', TY, List.nil_append]
      exact Ret.body [] rfl (by kernel_rfl) fun new w'' hs => ⟨⟨_, rfl⟩, O', .inr ⟨i, hlt, hJx _ _ _ _ hp (hs.keep.mono fun c hc => hc.elim (fun h => hg1 c (hG c (.inl h))) (hg2 c))⟩⟩
end Go.Proofs.YtkcbmkoafmffoaaDoor
