/-
  The machine's methods: Take, that ranges over slices.Backward.
-/
import Derived.Test.YteendcbmoagdfaaR
set_option linter.unusedVariables false
set_option linter.unusedSimpArgs false
set_option maxRecDepth 20000
set_option maxHeartbeats 4000000
namespace Go.Proofs.Yteendcbmoagdfaa
open Go Go.Eng

theorem m_backward {w : World} (A : Option Addr) (n c : Nat) :
    Calls Try.prog 32 #[.slice A n c] w fun e w' => ∃ b, e = .returned (.func (.func 42) #[] #[.pointer (some ⟨b, 0, none⟩)]) ∧ Ext w w' ∧ w.heap.size ≤ b ∧ b < w'.heap.size ∧ w'.heap[b]? = some (.cells #[.slice A n c] 22 (0, 0)) := by
  refine start0 (args := [.v (.slice A n c)]) (G := (· < w.heap.size)) Try.func32 rfl Try.ntmps32 (by simp [SV.lt]) (fun _ h => h) ?_
  refine Res.run 1000 ?_
  simp only [↓reduceIte, Nat.reduceEqDiff, Nat.reduceAdd, Nat.reduceSub, Nat.reduceMul, Nat.reduceLT, Int.reduceToNat, Int.reduceBEq, Int.reduceBNe, Int.reduceLT, Int.reduceLE, E, E', TY]
  refine Ret.body [.fn (.func 42) [] [.p 0 0]] rfl (by kernel_rfl) fun new w' hs => ?_
  obtain ⟨own, ho⟩ := hs
  obtain ⟨k1, k2⟩ := ho.ok 0 _ rfl
  obtain ⟨k3, k4⟩ := ho.out 0 _ (by simp) k1
  exact ⟨_, rfl, ho.keep, by omega, k4, k2⟩

/-- What a round over slices.Backward is given. -/
def bwE (vs : List Vl) (i : Nat) : List Value := [.int .i64 ((vs.length : Int) - 1 - (i : Int)), (vs.reverse.getD i vZ).v]
/-- What the iterator reads. -/
def BwR (b : Nat) (A : Option Addr) (c : Nat) (vs : List Vl) (w : World) : Prop := w.heap[b]? = some (.cells #[.slice A vs.length c] 22 (0, 0)) ∧ Cs (· < w.heap.size) w A (flat vs)

theorem YieldAt.mono' {F : Fence} {m : Nat} {P : Program} {l : Nat} {args : Array Value} {W : World} {R R' : Ending → World → Prop} (h : YieldAt F m P l args W R) (hr : ∀ e w, R e w → R' e w) : YieldAt F m P l args W R' := by
  obtain ⟨fn, tmps, assign, body, hy, hR⟩ := h
  exact ⟨fn, tmps, assign, body, hy, hR.mono hr⟩

theorem bw_iter (b : Nat) (A : Option Addr) (c : Nat) (vs : List Vl) (hsz : vs.length ≤ 1000000) : Iter Try.prog 42 #[.pointer (some ⟨b, 0, none⟩)] vs.length (bwE vs) (BwR b A c vs) := by
  intro l J Jx w hE hEx hRd hY h0
  refine start0 (args := [.v (.func (.yield l) #[] #[]), .v (.pointer (some ⟨b, 0, none⟩))]) (G := (· < w.heap.size)) Try.func42 rfl Try.ntmps42 (by simp [SV.lt]) (fun _ h => h) ?_
  refine Res.run 1000 ?_
  obtain ⟨hb, hc⟩ := hRd _ _ h0
  have r0 : rd w (some ⟨b, 0, none⟩) 0 = .slice A vs.length c := rd0 (l := [_]) hb 0
  have o0 := okRd0 (l := [_]) hb 0 1 (by simp)
  simp only [↓reduceIte, Nat.reduceEqDiff, Nat.reduceAdd, Nat.reduceSub, Nat.reduceMul, Nat.reduceLT, Int.reduceToNat, Int.reduceBEq, Int.reduceBNe, Int.reduceLT, Int.reduceLE, E, E', TY, r0]
  refine ⟨o0, i64ok_of (by omega) (by omega), ?_⟩
  refine Res.loopW (X := {x : Nat × World // x.1 ≤ vs.length ∧ J x.1 x.2})
    (fun x => { T := mkT 19 [(0, .v (.func (.yield l) #[] #[])), (1, .v (.pointer (some ⟨b, 0, none⟩))), (3, .v (.int .i64 ((vs.length : Int) - 1 - (x.1.1 : Int))))], X := [], L := [], D := [] })
    (fun x b => b < x.1.2.heap.size) (fun x => x.1.2) (fun x => vs.length - x.1.1) ⟨(0, w), by simp, h0⟩ rfl rfl (St.Le.of 0 (by simp only [↓reduceIte, Nat.reduceEqDiff, Nat.reduceAdd, Nat.reduceSub, Nat.reduceMul, Nat.reduceLT, Int.reduceToNat, Int.reduceBEq, Int.reduceBNe, Int.reduceLT, Int.reduceLE, E, E', TY, Int.natCast_zero, Int.sub_zero])) ?_
  rintro ⟨⟨i, W⟩, hi, hJ⟩
  simp only at hi hJ ⊢
  obtain ⟨hb, hc⟩ := hRd _ _ hJ
  have r0 : rd W (some ⟨b, 0, none⟩) 0 = .slice A vs.length c := rd0 (l := [_]) hb 0
  have o0 := okRd0 (l := [_]) hb 0 1 (by simp)
  refine Res.run 900 ?_
  by_cases hlt : i < vs.length
  case neg =>
    have e2 : decide ((vs.length : Int) - 1 - (i : Int) ≥ 0) = false := by simp; omega
    simp only [↓reduceIte, Nat.reduceEqDiff, Nat.reduceAdd, Nat.reduceSub, Nat.reduceMul, Nat.reduceLT, Int.reduceToNat, Int.reduceBEq, Int.reduceBNe, Int.reduceLT, Int.reduceLE, E, E', TY, e2]
    refine Res.body [] rfl (by kernel_rfl) fun new w' hs => ⟨⟨_, rfl⟩, .inl ?_⟩
    obtain rfl : i = vs.length := by omega
    exact hE _ _ _ hJ hs.keep
  have e2 : decide ((vs.length : Int) - 1 - (i : Int) ≥ 0) = true := by simp; omega
  have e3 : (vs.length : Int) - 1 - (i : Int) = ((vs.length - 1 - i : Nat) : Int) := by omega
  obtain ⟨a0, a1, a2, a3, a4⟩ := SlV.of_cs hc (vs.length - 1 - i) (by omega)
  simp only [↓reduceIte, Nat.reduceEqDiff, Nat.reduceAdd, Nat.reduceSub, Nat.reduceMul, Nat.reduceLT, Int.reduceToNat, Int.reduceBEq, Int.reduceBNe, Int.reduceLT, Int.reduceLE, E, E', TY, e2, r0]
  rw [e3]
  have hv : vs.reverse.getD i vZ = vs[vs.length - 1 - i]'(by omega) := by
    rw [List.getD_eq_getElem?_getD, List.getElem?_reverse hlt, List.getElem?_eq_getElem (by omega)]
    rfl
  simp only [↓reduceIte, Nat.reduceEqDiff, Nat.reduceAdd, Nat.reduceSub, Nat.reduceMul, Nat.reduceLT, Int.reduceToNat, Int.reduceBEq, Int.reduceBNe, Int.reduceLT, Int.reduceLE, E, E', TY, Int.toNat_natCast, a1, a2, a3, a4]
  refine ⟨o0, ⟨by omega, by omega, SlV.isSome (SlV.of_cs hc) (i := vs.length - 1 - i) (by omega)⟩, a0, ?_⟩
  refine Res.yield (bwE vs i).toArray (fun w v w' => (v = .bool true ∧ J (i + 1) w') ∨ (v = .bool false ∧ Jx i w')) rfl rfl rfl rfl (fun ids => ?_) (fun new w' hs => ?_) ?_
  · simp only [List.map_cons, List.map_nil, SV.den, At.den, bwE, hv, e3, Vl.v]
  · refine YieldAt.mono' (hY i w' hlt (hE _ _ _ hJ hs.keep)) ?_
    rintro e w'' (⟨rfl, h⟩ | ⟨rfl, h⟩)
    · exact ⟨_, rfl, .inl ⟨rfl, h⟩⟩
    · exact ⟨_, rfl, .inr ⟨rfl, h⟩⟩
  · intro new w1 v w' hs hp
    obtain rfl : new = [] := by
      have := hs.len
      exact List.eq_nil_of_length_eq_zero (by simpa using this)
    refine ⟨(· < w'.heap.size), w', [], rfl, HS.nil (fun _ h => h), ?_⟩
    refine Res.run 900 ?_
    rcases hp with ⟨rfl, hp⟩ | ⟨rfl, hp⟩
    · simp only [↓reduceIte, Nat.reduceEqDiff, Nat.reduceAdd, Nat.reduceSub, Nat.reduceMul, Nat.reduceLT, Int.reduceToNat, Int.reduceBEq, Int.reduceBNe, Int.reduceLT, Int.reduceLE, E, E', TY, e3]
      refine ⟨i64ok_of (by omega) (by omega), ?_⟩
      refine Res.againW (⟨(i + 1, w'), by simp only; omega, hp⟩ : {x : Nat × World // x.1 ≤ vs.length ∧ J x.1 x.2}) (by simp only; omega) rfl rfl (St.Le.of 0 ?_)
      have e4 : ((vs.length - 1 - i : Nat) : Int) - 1 = (vs.length : Int) - 1 - ((i + 1 : Nat) : Int) := by omega
      simp only [↓reduceIte, Nat.reduceEqDiff, Nat.reduceAdd, Nat.reduceSub, Nat.reduceMul, Nat.reduceLT, Int.reduceToNat, Int.reduceBEq, Int.reduceBNe, Int.reduceLT, Int.reduceLE, E, E', TY, e4]
    · simp only [↓reduceIte, Nat.reduceEqDiff, Nat.reduceAdd, Nat.reduceSub, Nat.reduceMul, Nat.reduceLT, Int.reduceToNat, Int.reduceBEq, Int.reduceBNe, Int.reduceLT, Int.reduceLE, E, E', TY, e3]
      refine Ret.body [] rfl (by kernel_rfl) fun new w'' hs => ⟨⟨_, rfl⟩, .inr ⟨i, hlt, hEx _ _ _ hp hs.keep⟩⟩
end Go.Proofs.Yteendcbmoagdfaa
