/-
  The roll layer: the chapter's rows: known.
-/
import Derived.Test.YtkcbmkoafmffoaaDoorRE
set_option linter.unusedVariables false
set_option linter.unusedSimpArgs false
set_option maxRecDepth 20000
set_option maxHeartbeats 8000000
namespace Go.Proofs.YtkcbmkoafmffoaaDoor
open Go Go.Eng

theorem row_cs {O : Nat → Prop} {w : World} {b ty size n : Nat} {l : List Value} (hO : O b) (h : w.heap[b]? = some (.cells l.toArray ty (0, 0))) (hl : l.length = n * size) (hm : n ≤ maxLen) : Cs O w (some ⟨b, 0, none⟩) l :=
  cs_rowA (nl := false) (q := 0) (size := size) (n := n) (cap := n) (ty := ty) (fun _ => ⟨hO, h⟩) ⟨Nat.le_refl _, hm, hl, by rw [← hl, List.take_length], fun h => by cases h⟩
theorem gm_of {G : Nat → Prop} {W w : World} {σ : St} {new : List Nat} {own : Nat → Nat → Prop} (ho : HSo G W σ new w own) {i j : Nat} (hi : i < σ.L.length) (hj : j < σ.L.length) (hij : j ≠ i) : ∀ b, own j b → Gm w (own i) b :=
  fun b hb => ⟨(ho.out j b hj hb).2, fun h => ho.apart j i b hj hi hij hb h⟩
theorem gm_base {G : Nat → Prop} {W w : World} {σ : St} {new : List Nat} {own : Nat → Nat → Prop} (ho : HSo G W σ new w own) {i : Nat} (hi : i < σ.L.length) : ∀ b, G b → Gm w (own i) b :=
  fun b hb => ⟨Nat.lt_of_lt_of_le (ho.inW b hb) ho.keep.size, fun h => (ho.out i b hi h).1 hb⟩

section add
variable {Q : Pst} {G : Nat → Prop} {W : World}
theorem CallAt.add {σ : St} {dst : Option Tmp} {k : List It} {args : List SV} (s : TS) (hf : s.fit) (i0 : Nat) (hi : σ.L[i0]? = some (.asn (TabA s))) (ids : List Int) (c : Nat) (gl : List (Sb × SL)) (cg : Nat) (r : TS × List Int × Int) (hr : addF s ids (gl.map (·.1)) = r)
    (hids : ∀ i ∈ ids, i64ok i) (hz : ids.length ≤ 1000000) (hgz : ∀ q ∈ gl, q.1.small 1100000 ∧ q.1.ok) (hm : gl.length ≤ 100000) (hT : TabIn G W)
    (hargs : ∀ new w own, HSo G W σ new w own → ∃ A B, (args.map (SV.den (σ.X ++ new))).toArray = #[.pointer (some ⟨(σ.X ++ new).getD i0 0, 0, none⟩), .slice A ids.length c, .slice B gl.length cg] ∧ Cs (Gm w (own i0)) w A (ics ids) ∧ (A = none → ids = []) ∧ Cs (Gm w (own i0)) w B (gcs gl) ∧ GrR (Gm w (own i0)) w gl)
    (hk : ∀ nl b cap cur, FS0 1 r.2.1.length (ics r.2.1) nl cap cur → Res Tryd.prog Q G W (((σ.ent i0 (.asn (TabA r.1))).new (.asn (RowA b nl 3 cur))).put dst (.v (.tuple #[.slice (sA nl b 0) r.2.1.length cap, .int .i64 r.2.2]))) k) : CallAt Tryd.prog Q G W σ 18 args dst k := by
  have hil := (List.getElem?_eq_some_iff.1 hi).1
  refine CallAt.asnA i0 (TabA s) (by rw [getE_eq]; exact hi) (fun v A' A2 => ∃ nl b cap cur, v = .tuple #[.slice (sA nl b 0) r.2.1.length cap, .int .i64 r.2.2] ∧ A' = TabA r.1 ∧ A2 = RowA b nl 3 cur ∧ FS0 1 r.2.1.length (ics r.2.1) nl cap cur) ?_ ?_
  · intro new w own ho
    obtain ⟨A, B, e, hA, nA, hB, hg⟩ := hargs new w own ho
    rw [e]
    refine (m_Add s hf (tabW_of ho hi) ids A c hA nA hids hz gl B cg hB hg hgz hm ((hT.keep ho.keep).mono (gm_base ho hil))).mono ?_
    rw [hr]
    rintro e w' ⟨O1, O2, nl, b, cap, cur, rfl, hF, hTa, hR, hC, hO2, hd⟩
    exact ⟨_, _, _, O1, O2, rfl, ⟨nl, b, cap, cur, rfl, rfl, rfl, hF⟩, hTa, hR, hC, hO2, hd⟩
  · rintro _ _ _ ⟨nl, b, cap, cur, rfl, rfl, rfl, hF⟩
    exact hk nl b cap cur hF
theorem CallAt.box {σ : St} {dst : Option Tmp} {k : List It} (n : Int) (hk : ∀ y, Res Tryd.prog Q G W ((σ.new (.asn (NstA [(bxS n, y)]))).put dst (.v ((bxS n).v y))) k) : CallAt Tryd.prog Q G W σ 19 [.v (.int .i64 n)] dst k := by
  refine CallAt.mkA (fun v A' => ∃ y, v = (bxS n).v y ∧ A' = NstA [(bxS n, y)]) ?_ (by rintro _ _ ⟨y, rfl, rfl⟩; exact hk y)
  intro new w hs
  refine (m_box n).mono ?_
  rintro e w' ⟨y, rfl, hE, hR⟩
  refine ⟨_, _, _, rfl, ⟨y, rfl, rfl⟩, fun q hq => ?_, hE, fun b hb => hb⟩
  simp only [List.mem_cons, List.not_mem_nil, or_false] at hq
  subst hq; exact hR
end add

/-! ### the example, reckoned -/
def rB (n : Int) : Sb := ⟨false, [], 2, [], [], [⟨0, ⟨3, true, ⟨14, n⟩⟩, false⟩]⟩
def s1 : TS := TS0.put [rB 0]
def s2 : TS := s1.put [rB 0, rB 1]
theorem txt_pos (s : Sb) : 2 ≤ (txtT s).size := by
  unfold txtT
  split
  · rw [ByteArray.size_append]; show 2 ≤ _ + 2; omega
  · rw [ByteArray.size_append]; show 2 ≤ _ + 2; omega
theorem k12 : keyG [rB 0, rB 1] ≠ keyG [rB 0] := by
  intro h
  have h := congrArg ByteArray.size h
  simp only [keyG, List.map_cons, List.map_nil, catB, ByteArray.size_append] at h
  have := txt_pos (rB 1)
  omega
theorem a1 : addF TS0 [] [bxS 0] = (s1, [0], 0) := by
  unfold addF
  rw [if_neg (by decide), if_neg (by decide)]
  have e : rollG [] [bxS 0] = [rB 0] := by decide
  rw [e]
  rfl
theorem a2 : addF s1 [0] [bxS 1] = (s1, [0, 0], 0) := by
  unfold addF
  rw [if_neg (by decide), if_neg (by decide)]
  have e : rollG [0] [bxS 1] = [rB 0] := by decide
  have e2 : s1.mp (keyG [rB 0]) = some (0, 1) := if_pos rfl
  rw [e, e2]
  rfl
theorem a3 : addF s1 [0, 0] [bxS 2, bxS 3] = (s2, [0, 0, 1, 2], 0) := by
  unfold addF
  rw [if_neg (by decide), if_neg (by decide)]
  have e : rollG [0, 0] [bxS 2, bxS 3] = [rB 0, rB 1] := by decide
  have e2 : s1.mp (keyG [rB 0, rB 1]) = none := if_neg k12
  rw [e, e2]
  rfl
theorem a4 : addF s2 [] [bxS 1] = (s2, [], 2) := by
  unfold addF
  rw [if_neg (by decide), if_pos (by decide)]
theorem fit0 : TS0.fit := ⟨by decide, by decide, by decide, fun k e h => by cases h⟩
theorem fit1 : s1.fit := by
  refine ⟨by decide, by decide, by decide, fun k e h => ?_⟩
  have h : (if k = keyG [rB 0] then some (((0 : Nat) : Int), ((1 : Nat) : Int)) else none) = some e := h
  split at h
  · injection h with h; subst h; decide
  · cases h
theorem fit2 : s2.fit := by
  refine ⟨by decide, by decide, by decide, fun k e h => ?_⟩
  have h : (if k = keyG [rB 0, rB 1] then some (((1 : Nat) : Int), ((2 : Nat) : Int)) else s1.mp k) = some e := h
  split at h
  · injection h with h; subst h; decide
  · exact fit1.mp k e h
theorem bx_z (n : Int) (hn : i64ok n) : (bxS n).small 1100000 ∧ (bxS n).ok := by
  refine ⟨⟨by simp [bxS], by simp [bxS], by simp [bxS], by simp [bxS]⟩, ⟨?_, ?_, ?_, ?_⟩⟩
  · intro h hh; cases hh
  · intro h hh; cases hh
  · intro h hh; cases hh
  · intro h hh
    simp only [bxS, List.mem_cons, List.not_mem_nil, or_false] at hh
    subst hh
    exact ⟨i64ok_of (by show (-9223372036854775808 : Int) ≤ 0; decide) (by show (0 : Int) ≤ 9223372036854775807; decide), fun _ => hn⟩

theorem m_known {w : World} (hT : TabIn (· < w.heap.size) w) : Calls Tryd.prog 16 #[] w fun e w' => e = .returned (.bool true) ∧ Ext w w' := by
  have small : ∀ n : Int, -10 ≤ n → n ≤ 10 → i64ok n := fun n h1 h2 => i64ok_of (by omega) (by omega)
  have bv : ∀ n y, (bxS n).v y = .agg #[.bool false, .slice y.a1 0 y.c1, .int .i64 2, .slice y.a2 0 y.c2, .slice y.a3 0 y.c3, .slice y.a4 1 y.c4] := fun _ _ => rfl
  refine start0 (args := []) (G := (· < w.heap.size)) Tryd.func16 rfl Tryd.ntmps16 (by simp [SV.lt]) (fun _ h => h) ?_
  refine Res.run 1000 ?_
  simp only [↓reduceIte, Nat.reduceEqDiff, Nat.reduceAdd, Nat.reduceSub, Nat.reduceMul, Nat.reduceLT, Int.reduceToNat, Int.reduceBEq, Int.reduceBNe, Int.reduceLT, Int.reduceLE, E, E', TY]
  refine ⟨fnok17, CallAt.mk (fun A' => A' = TabA TS0) (fun new w' hs => ?_) ?_⟩
  · refine m_New.mono ?_
    rintro e w2 ⟨p, O', rfl, h1, h2, h3⟩
    exact ⟨p, _, O', rfl, rfl, h1, h2, h3⟩
  rintro _ rfl
  refine Res.run 900 ?_
  simp only [↓reduceIte, Nat.reduceEqDiff, Nat.reduceAdd, Nat.reduceSub, Nat.reduceMul, Nat.reduceLT, Int.reduceToNat, Int.reduceBEq, Int.reduceBNe, Int.reduceLT, Int.reduceLE, E, E', TY]
  refine ⟨fnok19, CallAt.box 0 fun y0 => Res.run 900 ?_⟩
  simp only [↓reduceIte, Nat.reduceEqDiff, Nat.reduceAdd, Nat.reduceSub, Nat.reduceMul, Nat.reduceLT, Int.reduceToNat, Int.reduceBEq, Int.reduceBNe, Int.reduceLT, Int.reduceLE, E, E', TY, bv]
  refine ⟨fnok18, CallAt.add TS0 fit0 0 rfl [] 0 [(bxS 0, y0)] 1 _ a1 (by simp) (by simp) (by intro q hq; simp at hq; subst hq; exact bx_z 0 (small _ (by decide) (by decide))) (by simp) hT (fun new w' own ho => ?_) fun nl1 b1 k1 cu1 hF1 => Res.run 900 ?_⟩
  · obtain ⟨p1, p2⟩ := ho.ok 2 _ rfl
    have hN : GrR (own 1) w' [(bxS 0, y0)] := ho.ok 1 _ rfl
    exact ⟨none, _, rfl, .inl rfl, fun _ => rfl, row_cs (n := 1) (size := 6) (gm_of (i := 0) (j := 2) ho (by simp [St.new, St.put]) (by simp [St.new, St.put]) (by decide) _ p1) p2 rfl (by simp [maxLen]), hN.mono (gm_of (i := 0) (j := 1) ho (by simp [St.new, St.put]) (by simp [St.new, St.put]) (by decide))⟩
  simp only [↓reduceIte, Nat.reduceEqDiff, Nat.reduceAdd, Nat.reduceSub, Nat.reduceMul, Nat.reduceLT, Int.reduceToNat, Int.reduceBEq, Int.reduceBNe, Int.reduceLT, Int.reduceLE, E, E', TY]
  have hF1 : FS0 1 1 (ics [0]) nl1 k1 cu1 := hF1
  refine ⟨fnok19, CallAt.box 1 fun y1 => Res.run 900 ?_⟩
  simp only [↓reduceIte, Nat.reduceEqDiff, Nat.reduceAdd, Nat.reduceSub, Nat.reduceMul, Nat.reduceLT, Int.reduceToNat, Int.reduceBEq, Int.reduceBNe, Int.reduceLT, Int.reduceLE, E, E', TY, bv]
  refine ⟨fnok18, CallAt.add s1 fit1 0 rfl [0] k1 [(bxS 1, y1)] 1 _ a2 (by intro i hi; simp at hi; subst hi; exact small _ (by decide) (by decide)) (by simp) (by intro q hq; simp at hq; subst hq; exact bx_z 1 (small _ (by decide) (by decide))) (by simp) hT (fun new w' own ho => ?_) fun nl2 b2 k2 cu2 hF2 => Res.run 900 ?_⟩
  · obtain ⟨p1, p2⟩ := ho.ok 5 _ rfl
    have hN : GrR (own 4) w' [(bxS 1, y1)] := ho.ok 4 _ rfl
    have hR : (RowA b1 nl1 3 cu1).R (own 3) _ w' := ho.ok 3 _ rfl
    exact ⟨_, _, rfl, (cs_rowA hR hF1).mono (gm_of (i := 0) (j := 3) ho (by simp [St.new, St.put]) (by simp [St.new, St.put]) (by decide)), fun h => absurd (hF1.none h) (by decide), row_cs (n := 1) (size := 6) (gm_of (i := 0) (j := 5) ho (by simp [St.new, St.put]) (by simp [St.new, St.put]) (by decide) _ p1) p2 rfl (by simp [maxLen]), hN.mono (gm_of (i := 0) (j := 4) ho (by simp [St.new, St.put]) (by simp [St.new, St.put]) (by decide))⟩
  simp only [↓reduceIte, Nat.reduceEqDiff, Nat.reduceAdd, Nat.reduceSub, Nat.reduceMul, Nat.reduceLT, Int.reduceToNat, Int.reduceBEq, Int.reduceBNe, Int.reduceLT, Int.reduceLE, E, E', TY]
  have hF2 : FS0 1 2 (ics [0, 0]) nl2 k2 cu2 := hF2
  refine ⟨fnok19, CallAt.box 2 fun y2 => Res.run 900 ?_⟩
  simp only [↓reduceIte, Nat.reduceEqDiff, Nat.reduceAdd, Nat.reduceSub, Nat.reduceMul, Nat.reduceLT, Int.reduceToNat, Int.reduceBEq, Int.reduceBNe, Int.reduceLT, Int.reduceLE, E, E', TY, bv]
  refine ⟨fnok19, CallAt.box 3 fun y3 => Res.run 900 ?_⟩
  simp only [↓reduceIte, Nat.reduceEqDiff, Nat.reduceAdd, Nat.reduceSub, Nat.reduceMul, Nat.reduceLT, Int.reduceToNat, Int.reduceBEq, Int.reduceBNe, Int.reduceLT, Int.reduceLE, E, E', TY, bv]
  refine ⟨fnok18, CallAt.add s1 fit1 0 rfl [0, 0] k2 [(bxS 2, y2), (bxS 3, y3)] 2 _ a3 (by intro i hi; simp at hi; subst hi; exact small _ (by decide) (by decide)) (by simp) (by intro q hq; simp at hq; rcases hq with rfl | rfl <;> exact bx_z _ (small _ (by decide) (by decide))) (by simp) hT (fun new w' own ho => ?_) fun nl3 b3 k3 cu3 hF3 => Res.run 900 ?_⟩
  · obtain ⟨p1, p2⟩ := ho.ok 9 _ rfl
    have hN2 : GrR (own 7) w' [(bxS 2, y2)] := ho.ok 7 _ rfl
    have hN3 : GrR (own 8) w' [(bxS 3, y3)] := ho.ok 8 _ rfl
    have hR : (RowA b2 nl2 3 cu2).R (own 6) _ w' := ho.ok 6 _ rfl
    exact ⟨_, _, rfl, (cs_rowA hR hF2).mono (gm_of (i := 0) (j := 6) ho (by simp [St.new, St.put]) (by simp [St.new, St.put]) (by decide)), fun h => absurd (hF2.none h) (by decide), row_cs (n := 2) (size := 6) (gm_of (i := 0) (j := 9) ho (by simp [St.new, St.put]) (by simp [St.new, St.put]) (by decide) _ p1) p2 rfl (by simp [maxLen]), GrR.app (hN2.mono (gm_of (i := 0) (j := 7) ho (by simp [St.new, St.put]) (by simp [St.new, St.put]) (by decide))) (hN3.mono (gm_of (i := 0) (j := 8) ho (by simp [St.new, St.put]) (by simp [St.new, St.put]) (by decide)))⟩
  simp only [↓reduceIte, Nat.reduceEqDiff, Nat.reduceAdd, Nat.reduceSub, Nat.reduceMul, Nat.reduceLT, Int.reduceToNat, Int.reduceBEq, Int.reduceBNe, Int.reduceLT, Int.reduceLE, E, E', TY]
  have hF3 : FS0 1 4 (ics [0, 0, 1, 2]) nl3 k3 cu3 := hF3
  refine ⟨fnok19, CallAt.box 1 fun y4 => Res.run 900 ?_⟩
  simp only [↓reduceIte, Nat.reduceEqDiff, Nat.reduceAdd, Nat.reduceSub, Nat.reduceMul, Nat.reduceLT, Int.reduceToNat, Int.reduceBEq, Int.reduceBNe, Int.reduceLT, Int.reduceLE, E, E', TY, bv]
  refine ⟨fnok18, CallAt.add s2 fit2 0 rfl [] 0 [(bxS 1, y4)] 1 _ a4 (by simp) (by simp) (by intro q hq; simp at hq; subst hq; exact bx_z 1 (small _ (by decide) (by decide))) (by simp) hT (fun new w' own ho => ?_) fun nl4 b4 k4 cu4 hF4 => Res.run 900 ?_⟩
  · obtain ⟨p1, p2⟩ := ho.ok 12 _ rfl
    have hN : GrR (own 11) w' [(bxS 1, y4)] := ho.ok 11 _ rfl
    exact ⟨none, _, rfl, .inl rfl, fun _ => rfl, row_cs (n := 1) (size := 6) (gm_of (i := 0) (j := 12) ho (by simp [St.new, St.put]) (by simp [St.new, St.put]) (by decide) _ p1) p2 rfl (by simp [maxLen]), hN.mono (gm_of (i := 0) (j := 11) ho (by simp [St.new, St.put]) (by simp [St.new, St.put]) (by decide))⟩
  simp only [↓reduceIte, Nat.reduceEqDiff, Nat.reduceAdd, Nat.reduceSub, Nat.reduceMul, Nat.reduceLT, Int.reduceToNat, Int.reduceBEq, Int.reduceBNe, Int.reduceLT, Int.reduceLE, E, E', TY]
  refine ⟨fnok28, CallAt.detS (.v (.bool true)) trivial (fun new w' hs => ?_) (Res.run 900 ?_)⟩
  · obtain ⟨own, ho⟩ := hs
    obtain ⟨p1, p2⟩ := ho.ok 14 _ rfl
    have hR : (RowA b1 nl1 3 cu1).R (own 3) _ w' := ho.ok 3 _ rfl
    have hI := m_ints (w := w') [0] [0] _ _ k1 1 ((cs_rowA hR hF1).mono fun b hb => (ho.out 3 b (by simp [St.new, St.put]) hb).2) (row_cs (n := 1) (size := 1) (ho.out 14 _ (by simp [St.new, St.put]) p1).2 p2 rfl (by simp [maxLen])) (by simp)
    rw [decide_eq_true rfl] at hI
    exact hI
  simp only [↓reduceIte, Nat.reduceEqDiff, Nat.reduceAdd, Nat.reduceSub, Nat.reduceMul, Nat.reduceLT, Int.reduceToNat, Int.reduceBEq, Int.reduceBNe, Int.reduceLT, Int.reduceLE, E, E', TY]
  refine ⟨fnok28, CallAt.detS (.v (.bool true)) trivial (fun new w' hs => ?_) (Res.run 900 ?_)⟩
  · obtain ⟨own, ho⟩ := hs
    obtain ⟨p1, p2⟩ := ho.ok 15 _ rfl
    have hR : (RowA b2 nl2 3 cu2).R (own 6) _ w' := ho.ok 6 _ rfl
    have hI := m_ints (w := w') [0, 0] [0, 0] _ _ k2 2 ((cs_rowA hR hF2).mono fun b hb => (ho.out 6 b (by simp [St.new, St.put]) hb).2) (row_cs (n := 2) (size := 1) (ho.out 15 _ (by simp [St.new, St.put]) p1).2 p2 rfl (by simp [maxLen])) (by simp)
    rw [decide_eq_true rfl] at hI
    exact hI
  simp only [↓reduceIte, Nat.reduceEqDiff, Nat.reduceAdd, Nat.reduceSub, Nat.reduceMul, Nat.reduceLT, Int.reduceToNat, Int.reduceBEq, Int.reduceBNe, Int.reduceLT, Int.reduceLE, E, E', TY]
  refine ⟨fnok28, CallAt.detS (.v (.bool true)) trivial (fun new w' hs => ?_) (Res.run 900 ?_)⟩
  · obtain ⟨own, ho⟩ := hs
    obtain ⟨p1, p2⟩ := ho.ok 16 _ rfl
    have hR : (RowA b3 nl3 3 cu3).R (own 10) _ w' := ho.ok 10 _ rfl
    have hI := m_ints (w := w') [0, 0, 1, 2] [0, 0, 1, 2] _ _ k3 4 ((cs_rowA hR hF3).mono fun b hb => (ho.out 10 b (by simp [St.new, St.put]) hb).2) (row_cs (n := 4) (size := 1) (ho.out 16 _ (by simp [St.new, St.put]) p1).2 p2 rfl (by simp [maxLen])) (by simp)
    rw [decide_eq_true rfl] at hI
    exact hI
  simp only [↓reduceIte, Nat.reduceEqDiff, Nat.reduceAdd, Nat.reduceSub, Nat.reduceMul, Nat.reduceLT, Int.reduceToNat, Int.reduceBEq, Int.reduceBNe, Int.reduceLT, Int.reduceLE, E, E', TY]
  refine ⟨fnok22, CallAt.detS (.v (.int .i64 3)) trivial (fun new w' hs => ?_) (Res.run 900 ?_)⟩
  · obtain ⟨own, ho⟩ := hs
    exact m_Len (tabW_of (s := s2) (i := 0) ho rfl)
  simp only [↓reduceIte, Nat.reduceEqDiff, Nat.reduceAdd, Nat.reduceSub, Nat.reduceMul, Nat.reduceLT, Int.reduceToNat, Int.reduceBEq, Int.reduceBNe, Int.reduceLT, Int.reduceLE, E, E', TY]
  exact Ret.one rfl (by kernel_rfl)
end Go.Proofs.YtkcbmkoafmffoaaDoor
