/-
  The kind layer: MapVal and Map, whatever the closure does: what it keeps is said by a family of assertions.
-/
import Derived.Test.YtkcbmkoafmffoaaDoorKC
set_option linter.unusedVariables false
set_option linter.unusedSimpArgs false
set_option maxRecDepth 20000
set_option maxHeartbeats 8000000
namespace Go.Proofs.YtkcbmkoafmffoaaDoor
open Go Go.Eng

/-- What a closure keeps in blocks of its own. -/
structure Inv where
  R : (Nat → Prop) → World → Prop
  loc : ∀ {O : Nat → Prop} {w w' : World}, R O w → (∀ b, O b → w'.heap[b]? = w.heap[b]?) → R O w'
def Inv.asn (I : Inv) : Asn := ⟨fun O _ w => I.R O w, fun h hw => I.loc h hw⟩
/-- Nothing is kept. -/
def Inv.none : Inv := ⟨fun O _ => ∀ b, ¬ O b, fun h _ => h⟩

/-- The blocks of a world that are not O's. -/
def Gm (w : World) (O : Nat → Prop) (b : Nat) : Prop := b < w.heap.size ∧ ¬ O b

/-- A call of the closure g, which captured cap, at h: it hands back h', and what it keeps turns from I to I'. -/
def Step (G : Nat → Prop) (W : World) (g : Nat) (cap : List Value) (h h' : Hp) (I I' : Inv) : Prop :=
  ∀ w O, Keep G W w → I.R O w → (∀ b, O b → ¬ G b ∧ b < w.heap.size) → Calls Tryd.prog g (h.v :: cap).toArray w fun e w' => ∃ O', e = .returned h'.v ∧ I'.R O' w' ∧ Chg w w' O O'

theorem hs_inv {w : World} {O : Nat → Prop} {I : Inv} {T : List (Option SV)} (hI : I.R O w) (hO : ∀ b, O b → b < w.heap.size) : HS (Gm w O) w { T := T, X := [0], L := [.asn I.asn], D := [] } [] w := by
  refine ⟨fun i b => i = 0 ∧ O b, rfl, ?_, ?_, ?_, ?_, fun b hb => hb.1, Keep.refl _ _⟩
  · intro i e hi
    match i, hi with
    | 0, hi =>
      simp at hi; subst hi
      show I.R (fun b => 0 = 0 ∧ O b) w
      have : (fun b => 0 = 0 ∧ O b) = O := by funext b; simp
      rw [this]; exact hI
  · intro e he
    simp at he; subst he; trivial
  · intro i j b hi hj hij h1 h2
    exact hij (h1.1.trans h2.1.symm)
  · intro i b hi hb
    exact ⟨fun h => h.2 hb.2, hO b hb.2⟩

/-- At a walk's end: what became of the blocks O. -/
theorem chg_of {W w' : World} {O : Nat → Prop} {σ : St} {new : List Nat} {own : Nat → Nat → Prop} (ho : HSo (Gm W O) W σ new w' own) (i : Nat) (hi : i < σ.L.length) : Chg W w' O (own i) :=
  ⟨ho.keep.os, ho.keep.tape, ho.keep.output, ho.keep.size, fun b hb hn => ho.keep.block b ⟨hb, hn⟩, fun b hb => by
    obtain ⟨h1, h2⟩ := ho.out i b hi hb
    refine ⟨h2, ?_⟩
    by_cases hw : b < W.heap.size
    · right
      exact Classical.byContradiction fun hn => h1 ⟨hw, hn⟩
    · left; omega⟩

def mvF (v : Vl) (h : Hp) : Vl := if v.k = 3 then ⟨v.k, v.nul, h⟩ else v

theorem den_cap (ids : List Nat) (cap : List Value) : (cap.map SV.v).map (SV.den ids) = cap := by
  rw [List.map_map]
  have : (SV.den ids ∘ SV.v) = id := rfl
  rw [this, List.map_id]

theorem m_MapVal {w : World} {G : Nat → Prop} {W : World} {O : Nat → Prop} (v : Vl) (h' : Hp) (g : Nat) (cap : List Value) (I I' : Inv) (hg : fnOK Tryd.prog g = true) (hK : Keep G W w) (hG : ∀ b, G b → Gm w O b) (hO : ∀ b, O b → b < w.heap.size)
    (hI : I.R O w) (hst : v.k = 3 → Step G W g cap v.h h' I I') :
    Calls Tryd.prog 56 #[v.v, .func (.func g) #[] cap.toArray] w fun e w' => ∃ O', e = .returned (mvF v h').v ∧ (if v.k = 3 then I' else I).R O' w' ∧ Chg w w' O O' := by
  obtain ⟨k, nul, hk, hn⟩ := v
  refine Go.Eng.start (X := [0]) (L := [.asn I.asn]) (args := [.v (.agg #[.int .i64 k, .bool nul, .int .i64 hk, .int .i64 hn]), .v (.func (.func g) #[] cap.toArray)]) (G := Gm w O) Tryd.func56 rfl Tryd.ntmps56 (by simp [SV.lt]) (hs_inv hI hO) ?_
  refine Res.run 1000 ?_
  simp only at hst
  by_cases h3 : k = 3
  · subst h3
    have e0 : ((3 : Int) == 3) = true := rfl
    simp only [↓reduceIte, Nat.reduceEqDiff, Nat.reduceAdd, Nat.reduceSub, Nat.reduceMul, Nat.reduceLT, Int.reduceToNat, Int.reduceBEq, Int.reduceBNe, Int.reduceLT, Int.reduceLE, E, E', TY, e0]
    refine ⟨hg, CallAt.asn 0 I.asn rfl (fun u A' => u = h'.v ∧ A' = I'.asn) (fun new w1 O1 hs hA hO1 => ?_) ?_⟩
    · have h1 := hst rfl w1 O1 (hK.trans (hs.keep.mono hG)) hA (fun b hb => ⟨fun hgb => (hO1 b hb).1 (hG b hgb), (hO1 b hb).2⟩)
      simp only [List.map_nil, List.map_cons, List.nil_append, List.cons_append, List.map_append, den_cap, SV.den, At.den]
      refine h1.mono ?_
      rintro e w' ⟨O', rfl, hI', hC⟩
      exact ⟨_, _, O', rfl, ⟨rfl, rfl⟩, hI', hC⟩
    rintro u A' ⟨rfl, rfl⟩
    refine Res.run 900 ?_
    simp only [↓reduceIte, Nat.reduceEqDiff, Nat.reduceAdd, Nat.reduceSub, Nat.reduceMul, Nat.reduceLT, Int.reduceToNat, Int.reduceBEq, Int.reduceBNe, Int.reduceLT, Int.reduceLE, E, E', TY, Hp.v]
    refine Ret.body [.agg [.v (.int .i64 3), .v (.bool nul), .v (.int .i64 h'.k), .v (.int .i64 h'.n)]] rfl (by kernel_rfl) fun new w' hs => ?_
    obtain ⟨own, ho⟩ := hs
    refine ⟨own 0, by simp [resOf, SV.den, At.den, mvF, Vl.v], ?_, chg_of ho 0 (by simp)⟩
    exact ho.ok 0 _ rfl
  · have e0 : (k == 3) = false := beq_ff h3
    simp only [↓reduceIte, Nat.reduceEqDiff, Nat.reduceAdd, Nat.reduceSub, Nat.reduceMul, Nat.reduceLT, Int.reduceToNat, Int.reduceBEq, Int.reduceBNe, Int.reduceLT, Int.reduceLE, E, E', TY, e0]
    refine Ret.body [.agg [.v (.int .i64 k), .v (.bool nul), .v (.int .i64 hk), .v (.int .i64 hn)]] rfl (by kernel_rfl) fun new w' hs => ?_
    obtain ⟨own, ho⟩ := hs
    refine ⟨own 0, by simp [resOf, SV.den, At.den, mvF, Vl.v, h3], ?_, chg_of ho 0 (by simp)⟩
    rw [if_neg h3]
    exact ho.ok 0 _ rfl
end Go.Proofs.YtkcbmkoafmffoaaDoor
