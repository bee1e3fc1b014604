/-
  The kind layer's statements: known, great.
-/
import Derived.Test.YtkcbmkoafmffoaaDoorKI
import Derived.Test.YtkcbmkoafmffoaaDoorKJ
import Derived.Test.YtkcbmkoafmffoaaDoorKG
import Derived.Test.YtkcbmkoafmffoaaDoorKC
set_option linter.unusedVariables false
set_option linter.unusedSimpArgs false
set_option maxRecDepth 20000
set_option maxHeartbeats 8000000
namespace Go.Proofs.YtkcbmkoafmffoaaDoor
open Go Go.Eng

def grF (s : Sb) : Bool := decide (s.su.length > 20 ∨ s.ps.length > 60 ∨ s.rs.length > 60 ∨ s.fs.length > 60)

theorem m_great {w : World} (s : Sb) (x : SL) : Calls Tryd.prog 10 #[s.v x] w fun e w' => e = .returned (.bool (grF s)) ∧ Ext w w' := by
  obtain ⟨r, hr⟩ : ∃ r, grF s = r := ⟨_, rfl⟩
  rw [hr]
  unfold grF at hr
  refine start0 (args := [.v (s.v x)]) (G := (· < w.heap.size)) Tryd.func10 rfl Tryd.ntmps10 (by simp [SV.lt]) (fun _ h => h) ?_
  refine Res.run 1000 ?_
  by_cases h1 : s.su.length > 20
  · have e1 : decide ((s.su.length : Int) > 20) = true := by simp; omega
    obtain rfl : r = true := by rw [← hr]; simp; omega
    simp only [↓reduceIte, Nat.reduceEqDiff, Nat.reduceAdd, Nat.reduceSub, Nat.reduceMul, Nat.reduceLT, Int.reduceToNat, Int.reduceBEq, Int.reduceBNe, Int.reduceLT, Int.reduceLE, E, E', TY, Sb.v, e1]
    exact Ret.one rfl (by kernel_rfl)
  have e1 : decide ((s.su.length : Int) > 20) = false := by simp; omega
  by_cases h2 : s.ps.length > 60
  · have e2 : decide ((s.ps.length : Int) > 60) = true := by simp; omega
    obtain rfl : r = true := by rw [← hr]; simp; omega
    simp only [↓reduceIte, Nat.reduceEqDiff, Nat.reduceAdd, Nat.reduceSub, Nat.reduceMul, Nat.reduceLT, Int.reduceToNat, Int.reduceBEq, Int.reduceBNe, Int.reduceLT, Int.reduceLE, E, E', TY, Sb.v, e1, e2]
    exact Ret.one rfl (by kernel_rfl)
  have e2 : decide ((s.ps.length : Int) > 60) = false := by simp; omega
  by_cases h3 : s.rs.length > 60
  · have e3 : decide ((s.rs.length : Int) > 60) = true := by simp; omega
    obtain rfl : r = true := by rw [← hr]; simp; omega
    simp only [↓reduceIte, Nat.reduceEqDiff, Nat.reduceAdd, Nat.reduceSub, Nat.reduceMul, Nat.reduceLT, Int.reduceToNat, Int.reduceBEq, Int.reduceBNe, Int.reduceLT, Int.reduceLE, E, E', TY, Sb.v, e1, e2, e3]
    exact Ret.one rfl (by kernel_rfl)
  have e3 : decide ((s.rs.length : Int) > 60) = false := by simp; omega
  have e4 : decide ((s.fs.length : Int) > 60) = r := by rw [← hr]; exact decide_eq_decide.2 (by omega)
  simp only [↓reduceIte, Nat.reduceEqDiff, Nat.reduceAdd, Nat.reduceSub, Nat.reduceMul, Nat.reduceLT, Int.reduceToNat, Int.reduceBEq, Int.reduceBNe, Int.reduceLT, Int.reduceLE, E, E', TY, Sb.v, e1, e2, e3, e4]
  exact Ret.one rfl (by kernel_rfl)

theorem ks_row {O : Nat → Prop} {w : World} {b ty size n : Nat} {l : List Value} (hO : O b) (h : w.heap[b]? = some (.cells l.toArray ty (0, 0))) (hl : l.length = n * size) (hm : n ≤ maxLen) : Cs O w (some ⟨b, 0, none⟩) l :=
  cs_rowA (nl := false) (q := 0) (size := size) (n := n) (cap := n) (ty := ty) (fun _ => ⟨hO, h⟩) ⟨Nat.le_refl _, hm, hl, by rw [← hl, List.take_length], fun h => by cases h⟩

def kLS : List Ent := [.cells 33 [.v (.int .i64 13), .v (.int .i64 2)], .cells 83 [.v (.int .i64 8), .v (.int .i64 1), .v (.bool false), .v (.int .i64 0), .v (.int .i64 0), .v (.bool true)],
  .cells 29 [.v (.bool false), .s 0 false 0 1 1, .v (.int .i64 3), .v (.slice none 0 0), .v (.slice none 0 0), .s 1 false 0 1 1], .cells 35 [.v (.int .i64 1), .v (.bool false), .v (.int .i64 0), .v (.int .i64 0)],
  .cells 29 [.v (.bool true), .v (.slice none 0 0), .v (.int .i64 1), .s 3 false 0 1 1, .v (.slice none 0 0), .v (.slice none 0 0)], .cells 35 [.v (.int .i64 3), .v (.bool true), .v (.int .i64 1), .v (.int .i64 0)]]
def sX (i0 i1 : Nat) : SL := ⟨some ⟨i0, 0, none⟩, 1, none, 0, none, 0, some ⟨i1, 0, none⟩, 1⟩
def tX (i3 : Nat) : SL := ⟨none, 0, some ⟨i3, 0, none⟩, 1, none, 0, none, 0⟩
/-- The two types of the example can be read. -/
theorem ks_of {G : Nat → Prop} {W w : World} {σ : St} {new : List Nat} {i0 i1 i2 i3 i4 i5 : Nat} (hs : HS G W σ new w) (hL : ∀ j, j < 6 → σ.L[j]? = kLS[j]?) (hX : σ.X = [i0, i1, i2, i3, i4, i5]) : SbR (· < w.heap.size) w kS (sX i0 i1) ∧ SbR (· < w.heap.size) w kT (tX i3) := by
  obtain ⟨own, ho⟩ := hs
  have h6 : ∀ j, j < 6 → j < σ.L.length := by
    intro j hj
    have := hL j hj
    rw [List.getElem?_eq_getElem (show j < kLS.length by show j < 6; omega)] at this
    exact (List.getElem?_eq_some_iff.1 this).1
  obtain ⟨a1, a2⟩ := ho.ok 0 _ (hL 0 (by decide))
  obtain ⟨b1, b2⟩ := ho.ok 1 _ (hL 1 (by decide))
  obtain ⟨c1, c2⟩ := ho.ok 3 _ (hL 3 (by decide))
  have a3 := (ho.out 0 _ (h6 0 (by decide)) a1).2
  have b3 := (ho.out 1 _ (h6 1 (by decide)) b1).2
  have c3 := (ho.out 3 _ (h6 3 (by decide)) c1).2
  rw [hX] at a2 b2 c2 a3 b3 c3
  refine ⟨⟨?_, .inl rfl, .inl rfl, ?_, (fun h => by cases h), fun _ => rfl, fun _ => rfl, (fun h => by cases h)⟩, ⟨.inl rfl, ?_, .inl rfl, .inl rfl, fun _ => rfl, (fun h => by cases h), fun _ => rfl, fun _ => rfl⟩⟩
  · exact ks_row (n := 1) (size := 2) (l := hcs kS.su) (ty := 33) a3 a2 rfl (by simp [maxLen])
  · exact ks_row (n := 1) (size := 6) (l := fcs kS.fs) (ty := 83) b3 b2 rfl (by simp [maxLen])
  · exact ks_row (n := 1) (size := 4) (l := vcs kT.ps) (ty := 35) c3 c2 rfl (by simp [maxLen])

theorem kS_small : kS.small 1000000 := ⟨by decide, by decide, by decide, by decide⟩
theorem kT_small : kT.small 1000000 := ⟨by decide, by decide, by decide, by decide⟩

theorem kS_ok : kS.ok := by
  refine ⟨?_, ?_, ?_, ?_⟩
  · intro h hh; simp only [kS, List.mem_cons, List.not_mem_nil, or_false] at hh; subst hh; exact i64ok_of (by decide) (by decide)
  · intro h hh; cases hh
  · intro h hh; cases hh
  · intro h hh; simp only [kS, List.mem_cons, List.not_mem_nil, or_false] at hh; subst hh; exact ⟨i64ok_of (by decide) (by decide), fun _ => i64ok_of (by decide) (by decide)⟩
theorem kT_ok : kT.ok := by
  refine ⟨?_, ?_, ?_, ?_⟩
  · intro h hh; cases hh
  · intro h hh; simp only [kT, List.mem_cons, List.not_mem_nil, or_false] at hh; subst hh; exact fun _ => i64ok_of (by decide) (by decide)
  · intro h hh; cases hh
  · intro h hh; cases hh
theorem itoa2 : itoaB 2 = ⟨#[50]⟩ := by
  have : Lib.itoa 2 = [50] := by unfold Lib.itoa; rw [if_neg (by decide), show (2 : Int).toNat = 2 from rfl, Lib.decDigits_one (by decide)]; rfl
  unfold itoaB; rw [this]
theorem itoa8 : itoaB 8 = ⟨#[56]⟩ := by
  have : Lib.itoa 8 = [56] := by unfold Lib.itoa; rw [if_neg (by decide), show (8 : Int).toNat = 8 from rfl, Lib.decDigits_one (by decide)]; rfl
  unfold itoaB; rw [this]
theorem txt_kS : txtT kS = ⟨#[40, 115, 117, 98, 32, 50, 32, 40, 97, 114, 114, 97, 121, 32, 40, 109, 117, 116, 32, 105, 56, 41, 41, 41]⟩ := by
  have h1 : heapT ⟨13, 2⟩ = ⟨#[50]⟩ := by unfold heapT; rw [if_pos rfl]; exact itoa2
  have h2 : fldT ⟨8, ⟨1, false, ⟨0, 0⟩⟩, true⟩ = ⟨#[40, 109, 117, 116, 32, 105, 56, 41]⟩ := by
    unfold fldT; simp only [if_true, itoa8]; decide
  unfold txtT midT headT kS
  simp only [catG, h1, h2]
  decide
theorem txt_kT : txtT kT = ⟨#[40, 115, 117, 98, 32, 102, 105, 110, 97, 108, 32, 40, 102, 117, 110, 99, 32, 40, 112, 97, 114, 97, 109, 32, 105, 51, 50, 41, 41, 41]⟩ := by
  have h1 : valT ⟨1, false, ⟨0, 0⟩⟩ = ⟨#[105, 51, 50]⟩ := rfl
  unfold txtT midT headT kT lstT
  simp only [catG, h1]
  decide
theorem val_kV : valT kV = ⟨#[40, 114, 101, 102, 32, 110, 117, 108, 108, 32, 97, 110, 121, 41]⟩ := by
  have h1 : heapT ⟨1, 0⟩ = ⟨#[97, 110, 121]⟩ := rfl
  unfold valT kV
  simp only [h1]
  decide

theorem m_known {w : World} (ht : Tab w) : Calls Tryd.prog 9 #[] w fun e w' => e = .returned (.bool true) ∧ Ext w w' := by
  refine start0 (args := []) (G := (· < w.heap.size)) Tryd.func9 rfl Tryd.ntmps9 (by simp [SV.lt]) (fun _ h => h) ?_
  refine Res.run 1000 ?_
  simp only [↓reduceIte, Nat.reduceEqDiff, Nat.reduceAdd, Nat.reduceSub, Nat.reduceMul, Nat.reduceLT, Int.reduceToNat, Int.reduceBEq, Int.reduceBNe, Int.reduceLT, Int.reduceLE, E, E', TY]
  refine Res.draw 37 kLS (.take 0 (.run 1 (.take 2 (.take 3 (.run 4 (.take 5 (.take 6 (.take 7 (.run 8 (.take 9 (.take 10 (.take 11 (.take 12 (.run 13 (.take 14 (.take 15 (.take 16 (.take 17 (.run 18 (.take 19 (.take 20 (.take 21 (.take 22 (.run 23 (.take 24 (.take 25 (.take 26 (.take 27 (.run 28 (.take 29 (.take 30 (.take 31 (.take 32 (.take 33 (.run 34 (.run 35 (.take 36 .fin) .fin) .fin)))))) .fin))))) .fin))))) .fin))))) .fin))))) .fin)))) .fin))) .fin)) (by kernel_rfl) (by kernel_rfl) fun new hnew => Res.run 900 ?_
  have hnl : new.length = 6 := by have := hnew; simp at this; omega
  obtain ⟨i0, i1, i2, i3, i4, i5, rfl⟩ : ∃ i0 i1 i2 i3 i4 i5, new = [i0, i1, i2, i3, i4, i5] := by
    match new, hnl with
    | [i0, i1, i2, i3, i4, i5], _ => exact ⟨_, _, _, _, _, _, rfl⟩
  clear hnew hnl
  simp only [↓reduceIte, Nat.reduceEqDiff, Nat.reduceAdd, Nat.reduceSub, Nat.reduceMul, Nat.reduceLT, Int.reduceToNat, Int.reduceBEq, Int.reduceBNe, Int.reduceLT, Int.reduceLE, E, E', TY, kLS, List.nil_append]
  have p1 : psF kS = true := by decide
  have p2 : psF kT = true := by decide
  have hH : ∀ (σ : St) (nw : List Nat) (w' : World), HS (· < w.heap.size) w σ nw w' → (∀ j, j < 6 → σ.L[j]? = kLS[j]?) → σ.X = [i0, i1, i2, i3, i4, i5] → SbR (· < w'.heap.size) w' kS (sX i0 i1) ∧ SbR (· < w'.heap.size) w' kT (tX i3) := fun σ nw w' hs h1 h2 => ks_of hs h1 h2
  have hL : ∀ (l : List Ent), ∀ j, j < 6 → (kLS ++ l)[j]? = kLS[j]? := fun l j hj => List.getElem?_append_left hj
  refine ⟨fnok11, CallAt.detS (.v (.bool true)) trivial (fun nw w' hs => ?_) (Res.run 900 ?_)⟩
  · have := m_PlainSub kS (sX i0 i1) (hH _ _ _ hs (hL []) rfl).1 kS_small
    rw [p1] at this
    exact this
  simp only [↓reduceIte, Nat.reduceEqDiff, Nat.reduceAdd, Nat.reduceSub, Nat.reduceMul, Nat.reduceLT, Int.reduceToNat, Int.reduceBEq, Int.reduceBNe, Int.reduceLT, Int.reduceLE, E, E', TY, kLS, List.nil_append]
  refine ⟨fun _ => ⟨fnok11, CallAt.detS (.v (.bool true)) trivial (fun nw w' hs => ?_) (Res.run 900 ?_)⟩, fun h => by first | cases h | exact absurd trivial h⟩
  · have := m_PlainSub kT (tX i3) (hH _ _ _ hs (hL []) rfl).2 kT_small
    rw [p2] at this
    exact this
  simp only [↓reduceIte, Nat.reduceEqDiff, Nat.reduceAdd, Nat.reduceSub, Nat.reduceMul, Nat.reduceLT, Int.reduceToNat, Int.reduceBEq, Int.reduceBNe, Int.reduceLT, Int.reduceLE, E, E', TY, kLS, List.nil_append]
  refine ⟨fun _ => ⟨fnok12, CallAt.detS (.v (.string (txtT kS))) trivial (fun nw w' hs => ?_) (Res.run 900 ?_)⟩, fun h => by first | cases h | exact absurd trivial h⟩
  · exact m_Text kS (sX i0 i1) (hH _ _ _ hs (hL []) rfl).1 kS_ok kS_small (ht.ext hs.ext)
  rw [txt_kS]
  simp only [↓reduceIte, Nat.reduceEqDiff, Nat.reduceAdd, Nat.reduceSub, Nat.reduceMul, Nat.reduceLT, Int.reduceToNat, Int.reduceBEq, Int.reduceBNe, Int.reduceLT, Int.reduceLE, E, E', TY, kLS, List.nil_append, beq_self_eq_true]
  refine ⟨fun _ => ⟨fnok12, CallAt.detS (.v (.string (txtT kT))) trivial (fun nw w' hs => ?_) (Res.run 900 ?_)⟩, fun h => by first | cases h | exact absurd trivial h⟩
  · exact m_Text kT (tX i3) (hH _ _ _ hs (hL []) rfl).2 kT_ok kT_small (ht.ext hs.ext)
  rw [txt_kT]
  simp only [↓reduceIte, Nat.reduceEqDiff, Nat.reduceAdd, Nat.reduceSub, Nat.reduceMul, Nat.reduceLT, Int.reduceToNat, Int.reduceBEq, Int.reduceBNe, Int.reduceLT, Int.reduceLE, E, E', TY, kLS, List.nil_append, beq_self_eq_true]
  refine ⟨fun _ => ⟨fnok15, CallAt.detS (.v (.string (valT kV))) trivial (fun nw w' hs => ?_) (Res.run 900 ?_)⟩, fun h => by first | cases h | exact absurd trivial h⟩
  · exact m_ValText kV (fun _ => i64ok_of (by decide) (by decide)) (ht.ext hs.ext)
  rw [val_kV]
  simp only [↓reduceIte, Nat.reduceEqDiff, Nat.reduceAdd, Nat.reduceSub, Nat.reduceMul, Nat.reduceLT, Int.reduceToNat, Int.reduceBEq, Int.reduceBNe, Int.reduceLT, Int.reduceLE, E, E', TY, kLS, List.nil_append, beq_self_eq_true]
  refine ⟨fun _ => ⟨fnok34, CallAt.detS (.v (.bool true)) trivial (fun nw w' hs => ?_) (Res.run 900 ?_)⟩, fun h => by first | cases h | exact absurd trivial h⟩
  · exact m_Default kV
  simp only [↓reduceIte, Nat.reduceEqDiff, Nat.reduceAdd, Nat.reduceSub, Nat.reduceMul, Nat.reduceLT, Int.reduceToNat, Int.reduceBEq, Int.reduceBNe, Int.reduceLT, Int.reduceLE, E, E', TY, kLS, List.nil_append, beq_self_eq_true]
  refine ⟨fun _ => ⟨fnok13, CallAt.detS (.v (.bool false)) trivial (fun nw w' hs => ?_) (Res.run 900 ?_)⟩, fun h => by first | cases h | exact absurd trivial h⟩
  · exact m_Same kS kT (sX i0 i1) (tX i3) (hH _ _ _ hs (hL []) rfl).1 (hH _ _ _ hs (hL []) rfl).2 kS_small
  simp only [↓reduceIte, Nat.reduceEqDiff, Nat.reduceAdd, Nat.reduceSub, Nat.reduceMul, Nat.reduceLT, Int.reduceToNat, Int.reduceBEq, Int.reduceBNe, Int.reduceLT, Int.reduceLE, E, E', TY, kLS, List.nil_append, beq_self_eq_true]
  refine ⟨fun _ => ⟨fnok35, ?_⟩, fun h => by first | cases h | exact absurd trivial h⟩
  refine CallAt.mkA (fun v A' => ∃ y, v = kS.v y ∧ A' = KsA y) ?_ ?_
  · intro nw w' hs
    refine (m_Copy (sX i0 i1) (hH _ _ _ hs (hL []) rfl).1).mono ?_
    rintro e w2 ⟨y, rfl, hE, hR⟩
    exact ⟨_, _, _, rfl, ⟨y, rfl, rfl⟩, hR, hE, fun b hb => hb⟩
  rintro _ _ ⟨y, rfl, rfl⟩
  refine Res.run 900 ?_
  simp only [↓reduceIte, Nat.reduceEqDiff, Nat.reduceAdd, Nat.reduceSub, Nat.reduceMul, Nat.reduceLT, Int.reduceToNat, Int.reduceBEq, Int.reduceBNe, Int.reduceLT, Int.reduceLE, E, E', TY, kLS, List.nil_append, beq_self_eq_true]
  refine ⟨fnok13, CallAt.detS (.v (.bool true)) trivial (fun nw w' hs => ?_) (Res.run 900 ?_)⟩
  · have h1 := (hH _ _ _ hs (hL [.asn (KsA y)]) rfl).1
    obtain ⟨own, ho⟩ := hs
    have hR : SbR (own 6) w' kS y := ho.ok 6 _ rfl
    exact m_Same kS kS (sX i0 i1) y h1 (hR.mono fun b hb => (ho.out 6 _ (by simp [St.new, St.put]) hb).2) kS_small
  simp only [↓reduceIte, Nat.reduceEqDiff, Nat.reduceAdd, Nat.reduceSub, Nat.reduceMul, Nat.reduceLT, Int.reduceToNat, Int.reduceBEq, Int.reduceBNe, Int.reduceLT, Int.reduceLE, E, E', TY, kLS, List.nil_append, beq_self_eq_true]
  exact Ret.one rfl (by kernel_rfl)
end Go.Proofs.YtkcbmkoafmffoaaDoor
