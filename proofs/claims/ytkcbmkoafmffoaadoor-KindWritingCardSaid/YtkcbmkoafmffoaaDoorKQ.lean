/-
  The kind layer: the body of KindWriting.
-/
import Derived.Test.YtkcbmkoafmffoaaDoorKK
import Derived.Test.YtkcbmkoafmffoaaDoorKP
set_option linter.unusedVariables false
set_option linter.unusedSimpArgs false
set_option maxRecDepth 20000
set_option maxHeartbeats 8000000
namespace Go.Proofs.YtkcbmkoafmffoaaDoor
open Go Go.Eng

theorem tl_eq (a b : ByteArray) : (a.toList == b.toList) = decide (a = b) := by
  rw [Bool.eq_iff_iff, beq_iff_eq, decide_eq_true_iff, ByteArray.toList_eq, ByteArray.toList_eq]
  exact ⟨fun h => Lb_inj h, fun h => by rw [h]⟩
theorem txt_same {s t : Sb} (hs : psF s = true) (ht : psF t = true) : ((txtT s).toList == (txtT t).toList) = decide (s = t) := by
  rw [tl_eq]
  exact decide_eq_decide.2 ⟨txt_inj hs ht, fun h => by rw [h]⟩
theorem val_same {v u : Vl} (hv : pvF v = true) (hu : pvF u = true) : ((valT v).toList == (valT u).toList) = decide (v = u) := by
  rw [tl_eq]
  exact decide_eq_decide.2 ⟨val_inj hv hu, fun h => by rw [h]⟩
theorem vl_eqc (v u : Vl) : (v.k == u.k && (v.nul == u.nul && (v.h.k == u.h.k && v.h.n == u.h.n))) = decide (v = u) := by
  obtain ⟨a, b, c, d⟩ := v
  obtain ⟨a', b', c', d'⟩ := u
  rw [Bool.eq_iff_iff]
  simp
theorem grF_small {s : Sb} (h : grF s = false) : s.small 1000000 := by
  have := of_decide_eq_false h
  exact ⟨by omega, by omega, by omega, by omega⟩

theorem m_KW {w : World} (s t : Sb) (x y : SL) (v u : Vl) (hs : SbR (· < w.heap.size) w s x) (ht : SbR (· < w.heap.size) w t y) (so : s.ok) (to : t.ok) (vo : i64ok v.h.n) (uo : i64ok u.h.n) (hT : Tab w) :
    Calls Tryd.prog 3 #[s.v x, t.v y, v.v, u.v] w fun e w' => e = .returned (.bool true) ∧ Ext w w' := by
  have hsv : s.v x = .agg #[.bool s.fin, .slice x.a1 s.su.length x.c1, .int .i64 s.k, .slice x.a2 s.ps.length x.c2, .slice x.a3 s.rs.length x.c3, .slice x.a4 s.fs.length x.c4] := rfl
  have htv : t.v y = .agg #[.bool t.fin, .slice y.a1 t.su.length y.c1, .int .i64 t.k, .slice y.a2 t.ps.length y.c2, .slice y.a3 t.rs.length y.c3, .slice y.a4 t.fs.length y.c4] := rfl
  refine start0 (args := [.v (s.v x), .v (t.v y), .v v.v, .v u.v]) (G := (· < w.heap.size)) Tryd.func3 rfl Tryd.ntmps3 (by simp [SV.lt]) (fun _ h => h) ?_
  refine Res.run 1000 ?_
  have hvv : v.v = .agg #[.int .i64 v.k, .bool v.nul, .int .i64 v.h.k, .int .i64 v.h.n] := rfl
  have huv : u.v = .agg #[.int .i64 u.k, .bool u.nul, .int .i64 u.h.k, .int .i64 u.h.n] := rfl
  simp only [↓reduceIte, Nat.reduceEqDiff, Nat.reduceAdd, Nat.reduceSub, Nat.reduceMul, Nat.reduceLT, Int.reduceToNat, Int.reduceBEq, Int.reduceBNe, Int.reduceLT, Int.reduceLE, E, E', TY, hsv, htv, hvv, huv]
  refine ⟨fnok9, CallAt.pure #[] (.bool true) (fun _ => rfl) (fun w' hw => m_known (hT.ext hw)) (Res.run 900 ?_)⟩
  simp only [↓reduceIte, Nat.reduceEqDiff, Nat.reduceAdd, Nat.reduceSub, Nat.reduceMul, Nat.reduceLT, Int.reduceToNat, Int.reduceBEq, Int.reduceBNe, Int.reduceLT, Int.reduceLE, E, E', TY]
  refine ⟨fnok10, CallAt.pure #[s.v x] (.bool (grF s)) (fun _ => rfl) (fun w' hw => m_great s x) (Res.run 900 ?_)⟩
  cases g1 : grF s with
  | true =>
    simp only [↓reduceIte, Nat.reduceEqDiff, Nat.reduceAdd, Nat.reduceSub, Nat.reduceMul, Nat.reduceLT, Int.reduceToNat, Int.reduceBEq, Int.reduceBNe, Int.reduceLT, Int.reduceLE, E, E', TY]
    exact Ret.one rfl (by kernel_rfl)
  | false =>
  simp only [↓reduceIte, Nat.reduceEqDiff, Nat.reduceAdd, Nat.reduceSub, Nat.reduceMul, Nat.reduceLT, Int.reduceToNat, Int.reduceBEq, Int.reduceBNe, Int.reduceLT, Int.reduceLE, E, E', TY]
  refine ⟨fnok10, CallAt.pure #[t.v y] (.bool (grF t)) (fun _ => rfl) (fun w' hw => m_great t y) (Res.run 900 ?_)⟩
  cases g2 : grF t with
  | true =>
    simp only [↓reduceIte, Nat.reduceEqDiff, Nat.reduceAdd, Nat.reduceSub, Nat.reduceMul, Nat.reduceLT, Int.reduceToNat, Int.reduceBEq, Int.reduceBNe, Int.reduceLT, Int.reduceLE, E, E', TY]
    exact Ret.one rfl (by kernel_rfl)
  | false =>
  simp only [↓reduceIte, Nat.reduceEqDiff, Nat.reduceAdd, Nat.reduceSub, Nat.reduceMul, Nat.reduceLT, Int.reduceToNat, Int.reduceBEq, Int.reduceBNe, Int.reduceLT, Int.reduceLE, E, E', TY]
  have vo' : v.k = 3 → i64ok v.h.n := fun _ => vo
  have uo' : u.k = 3 → i64ok u.h.n := fun _ => uo
  refine Res.quiet [.bool (psF s), .bool (psF t), .string (txtT s), .string (txtT t), .bool (decide (s = t))] (by kernel_rfl) (by kernel_rfl) ?_
  have q1 : ∀ w', Ext w w' → Calls Tryd.prog 11 #[s.v x] w' fun e w'' => e = .returned (.bool (psF s)) ∧ Ext w' w'' := fun w' h => m_PlainSub s x (hs.ext h) (grF_small g1)
  have q2 : ∀ w', Ext w w' → Calls Tryd.prog 11 #[t.v y] w' fun e w'' => e = .returned (.bool (psF t)) ∧ Ext w' w'' := fun w' h => m_PlainSub t y (ht.ext h) (grF_small g2)
  by_cases p1 : psF s = true
  case' neg =>
    have p1 : psF s = false := by simpa using p1
    rw [p1] at q1 ⊢
    simp only [↓reduceIte, Nat.reduceEqDiff, Nat.reduceAdd, Nat.reduceSub, Nat.reduceMul, Nat.reduceLT, Int.reduceToNat, Int.reduceBEq, Int.reduceBNe, Int.reduceLT, Int.reduceLE, E, E', TY, fnok11]
    refine ⟨fun new w' hs' => q1 _ hs'.ext, Res.run 900 ?_⟩
    simp only [↓reduceIte, Nat.reduceEqDiff, Nat.reduceAdd, Nat.reduceSub, Nat.reduceMul, Nat.reduceLT, Int.reduceToNat, Int.reduceBEq, Int.reduceBNe, Int.reduceLT, Int.reduceLE, E, E', TY]
    refine Res.le (σ' := { T := mkT 53 [(6, .p 2 0), (7, .p 3 0), (8, .v (.bool false))], X := [], L := [.dead, .dead, .cells 35 [.v (.int .i64 v.k), .v (.bool v.nul), .v (.int .i64 v.h.k), .v (.int .i64 v.h.n)], .cells 35 [.v (.int .i64 u.k), .v (.bool u.nul), .v (.int .i64 u.h.k), .v (.int .i64 u.h.n)]], D := [] }) ?_ ?_
    · exact St.Le.of 4 (by simp only [↓reduceIte, Nat.reduceEqDiff, Nat.reduceAdd, Nat.reduceSub, Nat.reduceMul, Nat.reduceLT, Int.reduceToNat, Int.reduceBEq, Int.reduceBNe, Int.reduceLT, Int.reduceLE, E, E', TY])
  case' pos =>
    by_cases p2 : psF t = true
    case' neg =>
      have p2 : psF t = false := by simpa using p2
      rw [p1] at q1 ⊢
      rw [p2] at q2 ⊢
      simp only [↓reduceIte, Nat.reduceEqDiff, Nat.reduceAdd, Nat.reduceSub, Nat.reduceMul, Nat.reduceLT, Int.reduceToNat, Int.reduceBEq, Int.reduceBNe, Int.reduceLT, Int.reduceLE, E, E', TY, fnok11]
      refine ⟨fun new w' hs' => q1 _ hs'.ext, fun new w' hs' => q2 _ hs'.ext, Res.run 900 ?_⟩
      simp only [↓reduceIte, Nat.reduceEqDiff, Nat.reduceAdd, Nat.reduceSub, Nat.reduceMul, Nat.reduceLT, Int.reduceToNat, Int.reduceBEq, Int.reduceBNe, Int.reduceLT, Int.reduceLE, E, E', TY]
      refine Res.le (σ' := { T := mkT 53 [(6, .p 2 0), (7, .p 3 0), (8, .v (.bool false))], X := [], L := [.dead, .dead, .cells 35 [.v (.int .i64 v.k), .v (.bool v.nul), .v (.int .i64 v.h.k), .v (.int .i64 v.h.n)], .cells 35 [.v (.int .i64 u.k), .v (.bool u.nul), .v (.int .i64 u.h.k), .v (.int .i64 u.h.n)]], D := [] }) ?_ ?_
      · exact St.Le.of 4 (by simp only [↓reduceIte, Nat.reduceEqDiff, Nat.reduceAdd, Nat.reduceSub, Nat.reduceMul, Nat.reduceLT, Int.reduceToNat, Int.reduceBEq, Int.reduceBNe, Int.reduceLT, Int.reduceLE, E, E', TY])
    case' pos =>
      have e := txt_same p1 p2
      rw [p1] at q1 ⊢
      rw [p2] at q2 ⊢
      simp only [↓reduceIte, Nat.reduceEqDiff, Nat.reduceAdd, Nat.reduceSub, Nat.reduceMul, Nat.reduceLT, Int.reduceToNat, Int.reduceBEq, Int.reduceBNe, Int.reduceLT, Int.reduceLE, E, E', TY, fnok11, fnok12, fnok13, e, beq_self_eq_true]
      refine ⟨fun new w' hs' => q1 _ hs'.ext, fun new w' hs' => q2 _ hs'.ext, fun new w' hs' => m_Text s x (hs.ext hs'.ext) so (grF_small g1) (hT.ext hs'.ext), fun new w' hs' => m_Text t y (ht.ext hs'.ext) to (grF_small g2) (hT.ext hs'.ext), fun new w' hs' => m_Same s t x y (hs.ext hs'.ext) (ht.ext hs'.ext) (grF_small g1), Res.run 900 ?_⟩
      simp only [↓reduceIte, Nat.reduceEqDiff, Nat.reduceAdd, Nat.reduceSub, Nat.reduceMul, Nat.reduceLT, Int.reduceToNat, Int.reduceBEq, Int.reduceBNe, Int.reduceLT, Int.reduceLE, E, E', TY]
      refine Res.le (σ' := { T := mkT 53 [(6, .p 2 0), (7, .p 3 0), (8, .v (.bool false))], X := [], L := [.dead, .dead, .cells 35 [.v (.int .i64 v.k), .v (.bool v.nul), .v (.int .i64 v.h.k), .v (.int .i64 v.h.n)], .cells 35 [.v (.int .i64 u.k), .v (.bool u.nul), .v (.int .i64 u.h.k), .v (.int .i64 u.h.n)]], D := [] }) ?_ ?_
      · exact St.Le.of 4 (by simp only [↓reduceIte, Nat.reduceEqDiff, Nat.reduceAdd, Nat.reduceSub, Nat.reduceMul, Nat.reduceLT, Int.reduceToNat, Int.reduceBEq, Int.reduceBNe, Int.reduceLT, Int.reduceLE, E, E', TY])
  all_goals
    clear q1 q2
    refine Res.run 900 ?_
    simp only [↓reduceIte, Nat.reduceEqDiff, Nat.reduceAdd, Nat.reduceSub, Nat.reduceMul, Nat.reduceLT, Int.reduceToNat, Int.reduceBEq, Int.reduceBNe, Int.reduceLT, Int.reduceLE, E, E', TY]
    refine Res.quiet [.bool (pvF v), .bool (pvF u), .string (valT v), .string (valT u)] (by kernel_rfl) (by kernel_rfl) ?_
    cases r1 : pvF v with
    | false =>
      simp only [↓reduceIte, Nat.reduceEqDiff, Nat.reduceAdd, Nat.reduceSub, Nat.reduceMul, Nat.reduceLT, Int.reduceToNat, Int.reduceBEq, Int.reduceBNe, Int.reduceLT, Int.reduceLE, E, E', TY, fnok14]
      refine ⟨fun new w' hs' => ?_, Res.run 900 ?_⟩
      · have := m_PlainVal (w := w') v
        rw [r1] at this; exact this
      simp only [↓reduceIte, Nat.reduceEqDiff, Nat.reduceAdd, Nat.reduceSub, Nat.reduceMul, Nat.reduceLT, Int.reduceToNat, Int.reduceBEq, Int.reduceBNe, Int.reduceLT, Int.reduceLE, E, E', TY]
      exact Ret.one rfl (by kernel_rfl)
    | true =>
    cases r2 : pvF u with
    | false =>
      simp only [↓reduceIte, Nat.reduceEqDiff, Nat.reduceAdd, Nat.reduceSub, Nat.reduceMul, Nat.reduceLT, Int.reduceToNat, Int.reduceBEq, Int.reduceBNe, Int.reduceLT, Int.reduceLE, E, E', TY, fnok14]
      refine ⟨fun new w' hs' => ?_, fun new w' hs' => ?_, Res.run 900 ?_⟩
      · have := m_PlainVal (w := w') v
        rw [r1] at this; exact this
      · have := m_PlainVal (w := w') u
        rw [r2] at this; exact this
      simp only [↓reduceIte, Nat.reduceEqDiff, Nat.reduceAdd, Nat.reduceSub, Nat.reduceMul, Nat.reduceLT, Int.reduceToNat, Int.reduceBEq, Int.reduceBNe, Int.reduceLT, Int.reduceLE, E, E', TY]
      exact Ret.one rfl (by kernel_rfl)
    | true =>
    have e := val_same r1 r2
    have e2 := vl_eqc v u
    simp only [↓reduceIte, Nat.reduceEqDiff, Nat.reduceAdd, Nat.reduceSub, Nat.reduceMul, Nat.reduceLT, Int.reduceToNat, Int.reduceBEq, Int.reduceBNe, Int.reduceLT, Int.reduceLE, E, E', TY, fnok14, fnok15, e, e2, beq_self_eq_true]
    refine ⟨fun new w' hs' => ?_, fun new w' hs' => ?_, fun new w' hs' => m_ValText v vo' (hT.ext hs'.ext), fun new w' hs' => m_ValText u uo' (hT.ext hs'.ext), Res.run 900 ?_⟩
    · have := m_PlainVal (w := w') v
      rw [r1] at this; exact this
    · have := m_PlainVal (w := w') u
      rw [r2] at this; exact this
    simp only [↓reduceIte, Nat.reduceEqDiff, Nat.reduceAdd, Nat.reduceSub, Nat.reduceMul, Nat.reduceLT, Int.reduceToNat, Int.reduceBEq, Int.reduceBNe, Int.reduceLT, Int.reduceLE, E, E', TY]
    exact Ret.one rfl (by kernel_rfl)
end Go.Proofs.YtkcbmkoafmffoaaDoor
