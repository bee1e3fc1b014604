/-
  The roll layer: New, box, ints; a table that is not there.
-/
import Derived.Test.YtkcbmkoafmffoaaDoorRD
import Derived.Test.YtkcbmkoafmffoaaDoorKJ
set_option linter.unusedVariables false
set_option linter.unusedSimpArgs false
set_option maxRecDepth 20000
set_option maxHeartbeats 8000000
namespace Go.Proofs.YtkcbmkoafmffoaaDoor
open Go Go.Eng

theorem made_map (w : World) : MapOk (w.alloc (.map #[] 0)) w.heap.size 0 (fun _ => none) := by
  refine ⟨_, World.ownsMap_made w _ _ _, ⟨_, rfl⟩, fun k => ⟨rfl, rfl⟩⟩
/-- make(map[string]entry) -/
theorem Res.makeMapA {P : Program} {Q : Pst} {G : Nat → Prop} {W : World} {σ : St} {k : List It} {all rest : List Oper} {dst : Option Tmp} {t ty : TypeId} {pos : String} {after : Array Edge}
    (h : ∀ b, Res P Q G W ((σ.new (.asn (MapA b 0 fun _ => none))).put dst (.v (.map (some b)))) (.ops all rest :: k)) : Res P Q G W σ (.ops all ({ dst := dst, op := .makeMap t none, type := ty, pos := pos, after := after, guard := none } :: rest) :: k) := by
  intro new a w hs
  show wpListIn (wf Q.ro) 0 P all.toArray (Wt P Q k) (_ :: rest) a w
  unfold wpListIn
  rw [if_pos (by rfl)]
  refine (wp_value (v := .map (some w.heap.size)) (w' := w.alloc (.map #[] 0)) ?_ ?_).wpIn (by simp)
  · simp [execOp, Instr.makeMap]
  · have hE : Ext w (w.alloc (.map #[] 0)) := (Keep.refl _ w).alloc (fun k hk => hk) _
    obtain ⟨own, ho⟩ := hs.hs
    have hs2 := ho.add (e := .asn (MapA w.heap.size 0 fun _ => none)) (p := 0) (O := fun b => b = w.heap.size) (w' := w.alloc (.map #[] 0)) trivial hE.os hE.tape hE.output hE.size hE.block (by rintro _ rfl; exact ⟨Nat.le_refl _, by show w.heap.size < (w.heap.push _).size; rw [Array.size_push]; omega⟩) ⟨rfl, made_map w⟩
    have h2 := (hs.new ⟨_, hs2⟩).put dst (.v (.map (some w.heap.size))) trivial
    exact h w.heap.size _ _ _ h2

def TS0 : TS := ⟨[], [], 0, fun _ => none⟩
theorem m_New {w : World} : Calls Tryd.prog 17 #[] w fun e w' => ∃ p O', e = .returned (.pointer (some ⟨p, 0, none⟩)) ∧ (TabA TS0).R O' p w' ∧ Ext w w' ∧ ∀ b, O' b → w.heap.size ≤ b ∧ b < w'.heap.size := by
  refine start0 (args := []) (G := (· < w.heap.size)) Tryd.func17 rfl Tryd.ntmps17 (by simp [SV.lt]) (fun _ h => h) ?_
  refine Res.run 1000 ?_
  simp only [↓reduceIte, Nat.reduceEqDiff, Nat.reduceAdd, Nat.reduceSub, Nat.reduceMul, Nat.reduceLT, Int.reduceToNat, Int.reduceBEq, Int.reduceBNe, Int.reduceLT, Int.reduceLE, E, E', TY]
  refine Res.makeMapA fun mb => ?_
  refine Res.ghost (RowA 0 true 29 []) (fun w h => by cases h) ?_
  refine Res.ghost (RowA 0 true 103 []) (fun w h => by cases h) ?_
  refine Res.ghost (NstA []) (fun w q hq => by cases hq) (Res.run 900 ?_)
  simp only [↓reduceIte, Nat.reduceEqDiff, Nat.reduceAdd, Nat.reduceSub, Nat.reduceMul, Nat.reduceLT, Int.reduceToNat, Int.reduceBEq, Int.reduceBNe, Int.reduceLT, Int.reduceLE, E, E', TY]
  refine Ret.body [.p 4 0] rfl (by kernel_rfl) fun new w' hs => ?_
  obtain ⟨own, ho⟩ := hs
  have hc := tab_close (s := TS0) (d := ⟨[], RowX.e, RowX.e, mb⟩) (J := [3]) ho ⟨rfl, FS0.empty, FS0.empty⟩ 4 1 2 0 (by simp) rfl rfl rfl rfl (fun q hq => by cases hq)
  refine ⟨_, _, rfl, hc, ho.keep, fun b hb => ?_⟩
  obtain ⟨r, _, hr, hb⟩ := hb
  obtain ⟨h1, h2⟩ := ho.out r b hr hb
  exact ⟨Nat.le_of_not_lt h1, h2⟩

/-- A struct with one field: a reference to a type of the module. -/
def bxS (n : Int) : Sb := ⟨false, [], 2, [], [], [⟨0, ⟨3, true, ⟨13, n⟩⟩, false⟩]⟩
theorem m_box {w : World} (n : Int) : Calls Tryd.prog 19 #[.int .i64 n] w fun e w' => ∃ y, e = .returned ((bxS n).v y) ∧ Ext w w' ∧ SbR (fun b => w.heap.size ≤ b ∧ b < w'.heap.size) w' (bxS n) y := by
  refine start0 (args := [.v (.int .i64 n)]) (G := (· < w.heap.size)) Tryd.func19 rfl Tryd.ntmps19 (by simp [SV.lt]) (fun _ h => h) ?_
  refine Res.run 1000 ?_
  simp only [↓reduceIte, Nat.reduceEqDiff, Nat.reduceAdd, Nat.reduceSub, Nat.reduceMul, Nat.reduceLT, Int.reduceToNat, Int.reduceBEq, Int.reduceBNe, Int.reduceLT, Int.reduceLE, E, E', TY]
  refine Ret.body [.agg [.v (.bool false), .v (.slice none 0 0), .v (.int .i64 2), .v (.slice none 0 0), .v (.slice none 0 0), .s 1 false 0 1 1]] rfl (by kernel_rfl) fun nw w' hs => ?_
  obtain ⟨own, ho⟩ := hs
  obtain ⟨p1, p2⟩ := ho.ok 1 _ rfl
  obtain ⟨p3, p4⟩ := ho.out 1 _ (by simp) p1
  refine ⟨⟨none, 0, none, 0, none, 0, some ⟨_, 0, none⟩, 1⟩, rfl, ho.keep, .inl rfl, .inl rfl, .inl rfl, ?_, fun _ => rfl, fun _ => rfl, fun _ => rfl, (fun h => by cases h)⟩
  exact cs_rowA (nl := false) (q := 0) (size := 6) (n := 1) (cap := 1) (ty := 83) (fun _ => ⟨⟨Nat.le_of_not_lt p3, p4⟩, p2⟩) ⟨Nat.le_refl _, by simp [maxLen], rfl, rfl, fun h => by cases h⟩

theorem m_ints {w : World} (a b : List Int) (A B : Option Addr) (ca cb : Nat) (hA : Cs (· < w.heap.size) w A (ics a)) (hB : Cs (· < w.heap.size) w B (ics b)) (hz : a.length ≤ 1000000) :
    Calls Tryd.prog 28 #[.slice A a.length ca, .slice B b.length cb] w fun e w' => e = .returned (.bool (decide (a = b))) ∧ Ext w w' := by
  obtain ⟨r, hr⟩ : ∃ r, decide (a = b) = r := ⟨_, rfl⟩
  rw [hr]
  refine start0 (args := [.v (.slice A a.length ca), .v (.slice B b.length cb)]) (G := (· < w.heap.size)) Tryd.func28 rfl Tryd.ntmps28 (by simp [SV.lt]) (fun _ h => h) ?_
  refine Res.run 1000 ?_
  by_cases hl : a.length = b.length
  case neg =>
    have e1 : ((a.length : Int) != (b.length : Int)) = true := by simp; omega
    obtain rfl : r = false := by rw [← hr]; exact decide_eq_false fun h => hl (by rw [h])
    simp only [↓reduceIte, Nat.reduceEqDiff, Nat.reduceAdd, Nat.reduceSub, Nat.reduceMul, Nat.reduceLT, Int.reduceToNat, Int.reduceBEq, Int.reduceBNe, Int.reduceLT, Int.reduceLE, E, E', TY, e1]
    exact Ret.one rfl (by kernel_rfl)
  have e1 : ((a.length : Int) != (b.length : Int)) = false := by simp; omega
  simp only [↓reduceIte, Nat.reduceEqDiff, Nat.reduceAdd, Nat.reduceSub, Nat.reduceMul, Nat.reduceLT, Int.reduceToNat, Int.reduceBEq, Int.reduceBNe, Int.reduceLT, Int.reduceLE, E, E', TY, e1]
  refine Res.loop (X := {k : Nat // k ≤ a.length ∧ ∀ j (h : j < a.length) (h' : j < b.length), j < k → a[j] = b[j]})
    (fun z => { T := mkT 26 [(0, .v (.slice A a.length ca)), (1, .v (.slice B b.length cb)), (5, .v (.int .i64 (z.1 : Int)))], X := [], L := [], D := [] })
    (fun z => a.length - z.1) ⟨0, by omega, fun _ _ _ h => absurd h (by omega)⟩ (St.Le.of 0 (by simp only [↓reduceIte, Nat.reduceEqDiff, Nat.reduceAdd, Nat.reduceSub, Nat.reduceMul, Nat.reduceLT, Int.reduceToNat, Int.reduceBEq, Int.reduceBNe, Int.reduceLT, Int.reduceLE, E, E', TY]; rfl)) ?_
  rintro ⟨k, hk, hinv⟩
  simp only at hk hinv ⊢
  refine Res.run 900 ?_
  by_cases hlt : k < a.length
  · have e2 : decide ((k : Int) < (a.length : Int)) = true := by simp; omega
    obtain ⟨a0, a1⟩ := ics_at hA k hlt
    obtain ⟨b0, b1⟩ := ics_at hB k (by omega)
    have hAs : A.isSome = true := okRd_some a0
    have hBs : B.isSome = true := okRd_some b0
    simp only [↓reduceIte, Nat.reduceEqDiff, Nat.reduceAdd, Nat.reduceSub, Nat.reduceMul, Nat.reduceLT, Int.reduceToNat, Int.reduceBEq, Int.reduceBNe, Int.reduceLT, Int.reduceLE, E, E', TY, e2]
    refine Res.quiet [] (by kernel_rfl) (by kernel_rfl) ?_
    by_cases hq : a[k] = b[k]
    · have e3 : (a[k] != b[k]) = false := by simp [hq]
      simp only [↓reduceIte, Nat.reduceEqDiff, Nat.reduceAdd, Nat.reduceSub, Nat.reduceMul, Nat.reduceLT, Int.reduceToNat, Int.reduceBEq, Int.reduceBNe, Int.reduceLT, Int.reduceLE, E, E', TY, a1, b1, e3, Int.toNat_natCast]
      refine ⟨⟨by omega, by omega, hAs⟩, a0, ⟨by omega, by omega, hBs⟩, b0, Res.run 900 ?_⟩
      simp only [↓reduceIte, Nat.reduceEqDiff, Nat.reduceAdd, Nat.reduceSub, Nat.reduceMul, Nat.reduceLT, Int.reduceToNat, Int.reduceBEq, Int.reduceBNe, Int.reduceLT, Int.reduceLE, E, E', TY]
      refine ⟨i64ok_of (by omega) (by omega), ?_⟩
      refine Res.again (⟨k + 1, by omega, fun j h1 h2 hj => ?_⟩ : {k : Nat // k ≤ a.length ∧ ∀ j (h : j < a.length) (h' : j < b.length), j < k → a[j] = b[j]}) (by simp only; omega) (St.Le.of 0 (by simp only [↓reduceIte, Nat.reduceEqDiff, Nat.reduceAdd, Nat.reduceSub, Nat.reduceMul, Nat.reduceLT, Int.reduceToNat, Int.reduceBEq, Int.reduceBNe, Int.reduceLT, Int.reduceLE, E, E', TY, Int.natCast_add, Int.cast_ofNat_Int]))
      by_cases hjk : j = k
      · subst hjk; exact hq
      · exact hinv j h1 h2 (by omega)
    · have e3 : (a[k] != b[k]) = true := by simp [hq]
      obtain rfl : r = false := by
        rw [← hr]; refine decide_eq_false fun h => hq ?_
        subst h; rfl
      simp only [↓reduceIte, Nat.reduceEqDiff, Nat.reduceAdd, Nat.reduceSub, Nat.reduceMul, Nat.reduceLT, Int.reduceToNat, Int.reduceBEq, Int.reduceBNe, Int.reduceLT, Int.reduceLE, E, E', TY, a1, b1, e3, Int.toNat_natCast]
      refine ⟨⟨by omega, by omega, hAs⟩, a0, ⟨by omega, by omega, hBs⟩, b0, Res.run 900 ?_⟩
      simp only [↓reduceIte, Nat.reduceEqDiff, Nat.reduceAdd, Nat.reduceSub, Nat.reduceMul, Nat.reduceLT, Int.reduceToNat, Int.reduceBEq, Int.reduceBNe, Int.reduceLT, Int.reduceLE, E, E', TY]
      exact Ret.one rfl (by kernel_rfl)
  · have e2 : decide ((k : Int) < (a.length : Int)) = false := by simp; omega
    obtain rfl : r = true := by
      rw [← hr]
      refine decide_eq_true (List.ext_getElem hl fun j h1 h2 => hinv j h1 h2 (by omega))
    simp only [↓reduceIte, Nat.reduceEqDiff, Nat.reduceAdd, Nat.reduceSub, Nat.reduceMul, Nat.reduceLT, Int.reduceToNat, Int.reduceBEq, Int.reduceBNe, Int.reduceLT, Int.reduceLE, E, E', TY, e2]
    exact Ret.one rfl (by kernel_rfl)

/-! ### a table that is not there -/
def NT (w : World) (A : Option Addr) : Prop := A = none ∨ ∃ b, A = some ⟨b, 0, none⟩ ∧ w.heap[b]? = some (.cells #[.slice none 0 0, .slice none 0 0, .map none] 77 (0, 0))
theorem NT.ext {w w' : World} {A : Option Addr} (h : NT w A) (hE : Ext w w') : NT w' A := h.imp id fun ⟨b, h1, h2⟩ => ⟨b, h1, keepH hE h2⟩
theorem n_there {w : World} {A : Option Addr} (h : NT w A) : Calls Tryd.prog 49 #[.pointer A] w fun e w' => e = .returned (.bool false) ∧ Ext w w' := by
  rcases h with rfl | ⟨b, rfl, hb⟩
  · refine start0 (args := [.v (.pointer none)]) (G := (· < w.heap.size)) Tryd.func49 rfl Tryd.ntmps49 (by simp [SV.lt]) (fun _ h => h) ?_
    refine Res.run 1000 ?_
    simp only [↓reduceIte, Nat.reduceEqDiff, Nat.reduceAdd, Nat.reduceSub, Nat.reduceMul, Nat.reduceLT, Int.reduceToNat, Int.reduceBEq, Int.reduceBNe, Int.reduceLT, Int.reduceLE, E, E', TY]
    exact Ret.one rfl (by kernel_rfl)
  · have h2 : rd w (some ⟨b, 0, none⟩) 2 = .map none := rd0 (l := [_, _, _]) hb 2
    have o2 := okRd0 (l := [_, _, _]) hb 2 1 (by simp)
    refine start0 (args := [.v (.pointer (some ⟨b, 0, none⟩))]) (G := (· < w.heap.size)) Tryd.func49 rfl Tryd.ntmps49 (by simp [SV.lt]) (fun _ h => h) ?_
    refine Res.run 1000 ?_
    simp only [↓reduceIte, Nat.reduceEqDiff, Nat.reduceAdd, Nat.reduceSub, Nat.reduceMul, Nat.reduceLT, Int.reduceToNat, Int.reduceBEq, Int.reduceBNe, Int.reduceLT, Int.reduceLE, E, E', TY, h2]
    exact ⟨o2, Ret.one rfl (by kernel_rfl)⟩
def sbZ : Value := .agg #[.bool false, .slice none 0 0, .int .i64 0, .slice none 0 0, .slice none 0 0, .slice none 0 0]
theorem n_add {w : World} {A : Option Addr} (h : NT w A) (a b : Option Addr) (n c m d : Nat) : Calls Tryd.prog 18 #[.pointer A, .slice a n c, .slice b m d] w fun e w' => e = .returned (.tuple #[.slice none 0 0, .int .i64 1]) ∧ Ext w w' := by
  refine start0 (args := [.v (.pointer A), .v (.slice a n c), .v (.slice b m d)]) (G := (· < w.heap.size)) Tryd.func18 rfl Tryd.ntmps18 (by simp [SV.lt]) (fun _ h => h) ?_
  refine Res.run 1000 ?_
  simp only [↓reduceIte, Nat.reduceEqDiff, Nat.reduceAdd, Nat.reduceSub, Nat.reduceMul, Nat.reduceLT, Int.reduceToNat, Int.reduceBEq, Int.reduceBNe, Int.reduceLT, Int.reduceLE, E, E', TY]
  refine ⟨fnok49, CallAt.pure #[.pointer A] (.bool false) (fun _ => rfl) (fun w' hw => n_there (h.ext hw)) (Res.run 900 ?_)⟩
  simp only [↓reduceIte, Nat.reduceEqDiff, Nat.reduceAdd, Nat.reduceSub, Nat.reduceMul, Nat.reduceLT, Int.reduceToNat, Int.reduceBEq, Int.reduceBNe, Int.reduceLT, Int.reduceLE, E, E', TY]
  exact Ret.det [.v (.slice none 0 0), .v (.int .i64 1)] rfl (by kernel_rfl) (fun _ => rfl)
theorem n_get {w : World} {A : Option Addr} (h : NT w A) (n : Int) : Calls Tryd.prog 25 #[.pointer A, .int .i64 n] w fun e w' => e = .returned (.tuple #[sbZ, .int .i64 1]) ∧ Ext w w' := by
  refine start0 (args := [.v (.pointer A), .v (.int .i64 n)]) (G := (· < w.heap.size)) Tryd.func25 rfl Tryd.ntmps25 (by simp [SV.lt]) (fun _ h => h) ?_
  refine Res.run 1000 ?_
  simp only [↓reduceIte, Nat.reduceEqDiff, Nat.reduceAdd, Nat.reduceSub, Nat.reduceMul, Nat.reduceLT, Int.reduceToNat, Int.reduceBEq, Int.reduceBNe, Int.reduceLT, Int.reduceLE, E, E', TY]
  refine ⟨fnok49, CallAt.pure #[.pointer A] (.bool false) (fun _ => rfl) (fun w' hw => n_there (h.ext hw)) (Res.run 900 ?_)⟩
  simp only [↓reduceIte, Nat.reduceEqDiff, Nat.reduceAdd, Nat.reduceSub, Nat.reduceMul, Nat.reduceLT, Int.reduceToNat, Int.reduceBEq, Int.reduceBNe, Int.reduceLT, Int.reduceLE, E, E', TY]
  exact Ret.det [.agg [.v (.bool false), .v (.slice none 0 0), .v (.int .i64 0), .v (.slice none 0 0), .v (.slice none 0 0), .v (.slice none 0 0)], .v (.int .i64 1)] rfl (by kernel_rfl) (fun _ => rfl)
theorem n_group {w : World} {A : Option Addr} (h : NT w A) (n : Int) : Calls Tryd.prog 26 #[.pointer A, .int .i64 n] w fun e w' => e = .returned (.tuple #[.int .i64 0, .int .i64 0, .int .i64 1]) ∧ Ext w w' := by
  refine start0 (args := [.v (.pointer A), .v (.int .i64 n)]) (G := (· < w.heap.size)) Tryd.func26 rfl Tryd.ntmps26 (by simp [SV.lt]) (fun _ h => h) ?_
  refine Res.run 1000 ?_
  simp only [↓reduceIte, Nat.reduceEqDiff, Nat.reduceAdd, Nat.reduceSub, Nat.reduceMul, Nat.reduceLT, Int.reduceToNat, Int.reduceBEq, Int.reduceBNe, Int.reduceLT, Int.reduceLE, E, E', TY]
  refine ⟨fnok49, CallAt.pure #[.pointer A] (.bool false) (fun _ => rfl) (fun w' hw => n_there (h.ext hw)) (Res.run 900 ?_)⟩
  simp only [↓reduceIte, Nat.reduceEqDiff, Nat.reduceAdd, Nat.reduceSub, Nat.reduceMul, Nat.reduceLT, Int.reduceToNat, Int.reduceBEq, Int.reduceBNe, Int.reduceLT, Int.reduceLE, E, E', TY]
  exact Ret.det [.v (.int .i64 0), .v (.int .i64 0), .v (.int .i64 1)] rfl (by kernel_rfl) (fun _ => rfl)
def vlZ : Value := .agg #[.int .i64 0, .bool false, .int .i64 0, .int .i64 0]
theorem n_close {w : World} {A : Option Addr} (h : NT w A) (a : Option Addr) (n c : Nat) (v : Vl) : Calls Tryd.prog 23 #[.pointer A, .slice a n c, v.v] w fun e w' => e = .returned (.tuple #[vlZ, .int .i64 1]) ∧ Ext w w' := by
  have hv : v.v = .agg #[.int .i64 v.k, .bool v.nul, .int .i64 v.h.k, .int .i64 v.h.n] := rfl
  refine start0 (args := [.v (.pointer A), .v (.slice a n c), .v v.v]) (G := (· < w.heap.size)) Tryd.func23 rfl Tryd.ntmps23 (by simp [SV.lt]) (fun _ h => h) ?_
  refine Res.run 1000 ?_
  simp only [↓reduceIte, Nat.reduceEqDiff, Nat.reduceAdd, Nat.reduceSub, Nat.reduceMul, Nat.reduceLT, Int.reduceToNat, Int.reduceBEq, Int.reduceBNe, Int.reduceLT, Int.reduceLE, E, E', TY, hv]
  refine ⟨fnok49, CallAt.pure #[.pointer A] (.bool false) (fun _ => rfl) (fun w' hw => n_there (h.ext hw)) (Res.run 900 ?_)⟩
  simp only [↓reduceIte, Nat.reduceEqDiff, Nat.reduceAdd, Nat.reduceSub, Nat.reduceMul, Nat.reduceLT, Int.reduceToNat, Int.reduceBEq, Int.reduceBNe, Int.reduceLT, Int.reduceLE, E, E', TY]
  exact Ret.det [.agg [.v (.int .i64 0), .v (.bool false), .v (.int .i64 0), .v (.int .i64 0)], .v (.int .i64 1)] rfl (by kernel_rfl) (fun _ => rfl)
theorem n_len {w : World} {A : Option Addr} (h : NT w A) : Calls Tryd.prog 22 #[.pointer A] w fun e w' => e = .returned (.int .i64 0) ∧ Ext w w' := by
  refine start0 (args := [.v (.pointer A)]) (G := (· < w.heap.size)) Tryd.func22 rfl Tryd.ntmps22 (by simp [SV.lt]) (fun _ h => h) ?_
  refine Res.run 1000 ?_
  simp only [↓reduceIte, Nat.reduceEqDiff, Nat.reduceAdd, Nat.reduceSub, Nat.reduceMul, Nat.reduceLT, Int.reduceToNat, Int.reduceBEq, Int.reduceBNe, Int.reduceLT, Int.reduceLE, E, E', TY]
  refine ⟨fnok49, CallAt.pure #[.pointer A] (.bool false) (fun _ => rfl) (fun w' hw => n_there (h.ext hw)) (Res.run 900 ?_)⟩
  simp only [↓reduceIte, Nat.reduceEqDiff, Nat.reduceAdd, Nat.reduceSub, Nat.reduceMul, Nat.reduceLT, Int.reduceToNat, Int.reduceBEq, Int.reduceBNe, Int.reduceLT, Int.reduceLE, E, E', TY]
  exact Ret.one rfl (by kernel_rfl)
theorem n_copy {w : World} {A : Option Addr} (h : NT w A) : Calls Tryd.prog 30 #[.pointer A] w fun e w' => e = .returned (.pointer none) ∧ Ext w w' := by
  refine start0 (args := [.v (.pointer A)]) (G := (· < w.heap.size)) Tryd.func30 rfl Tryd.ntmps30 (by simp [SV.lt]) (fun _ h => h) ?_
  refine Res.run 1000 ?_
  simp only [↓reduceIte, Nat.reduceEqDiff, Nat.reduceAdd, Nat.reduceSub, Nat.reduceMul, Nat.reduceLT, Int.reduceToNat, Int.reduceBEq, Int.reduceBNe, Int.reduceLT, Int.reduceLE, E, E', TY]
  refine ⟨fnok49, CallAt.pure #[.pointer A] (.bool false) (fun _ => rfl) (fun w' hw => n_there (h.ext hw)) (Res.run 900 ?_)⟩
  simp only [↓reduceIte, Nat.reduceEqDiff, Nat.reduceAdd, Nat.reduceSub, Nat.reduceMul, Nat.reduceLT, Int.reduceToNat, Int.reduceBEq, Int.reduceBNe, Int.reduceLT, Int.reduceLE, E, E', TY]
  exact Ret.one rfl (by kernel_rfl)
theorem z_sameVals {w : World} : Calls Tryd.prog 66 #[.slice none 0 0, .slice none 0 0] w fun e w' => e = .returned (.bool true) ∧ Ext w w' := by
  refine start0 (args := [.v (.slice none 0 0), .v (.slice none 0 0)]) (G := (· < w.heap.size)) Tryd.func66 rfl Tryd.ntmps66 (by simp [SV.lt]) (fun _ h => h) ?_
  refine Res.run 1000 ?_
  have e1 : (((0 : Nat) : Int) != ((0 : Nat) : Int)) = false := rfl
  have e2 : decide ((0 : Int) < ((0 : Nat) : Int)) = false := rfl
  simp only [↓reduceIte, Nat.reduceEqDiff, Nat.reduceAdd, Nat.reduceSub, Nat.reduceMul, Nat.reduceLT, Int.reduceToNat, Int.reduceBEq, Int.reduceBNe, Int.reduceLT, Int.reduceLE, E, E', TY, e1]
  refine Res.rounds 0 (Res.run 900 ?_)
  simp only [↓reduceIte, Nat.reduceEqDiff, Nat.reduceAdd, Nat.reduceSub, Nat.reduceMul, Nat.reduceLT, Int.reduceToNat, Int.reduceBEq, Int.reduceBNe, Int.reduceLT, Int.reduceLE, E, E', TY, e2]
  exact Ret.one rfl (by kernel_rfl)
theorem z_same {w : World} : Calls Tryd.prog 33 #[sbZ, sbZ] w fun e w' => e = .returned (.bool true) ∧ Ext w w' := by
  refine start0 (args := [.v (.agg #[.bool false, .slice none 0 0, .int .i64 0, .slice none 0 0, .slice none 0 0, .slice none 0 0]), .v (.agg #[.bool false, .slice none 0 0, .int .i64 0, .slice none 0 0, .slice none 0 0, .slice none 0 0])]) (G := (· < w.heap.size)) Tryd.func33 rfl Tryd.ntmps33 (by simp [SV.lt]) (fun _ h => h) ?_
  refine Res.run 1000 ?_
  have e1 : (((0 : Nat) : Int) != ((0 : Nat) : Int)) = false := rfl
  have e2 : decide ((0 : Int) < ((0 : Nat) : Int)) = false := rfl
  have e3 : (!(false == false)) = false := rfl
  simp only [↓reduceIte, Nat.reduceEqDiff, Nat.reduceAdd, Nat.reduceSub, Nat.reduceMul, Nat.reduceLT, Int.reduceToNat, Int.reduceBEq, Int.reduceBNe, Int.reduceLT, Int.reduceLE, E, E', TY, e1, e3]
  refine Res.rounds 0 (Res.run 900 ?_)
  simp only [↓reduceIte, Nat.reduceEqDiff, Nat.reduceAdd, Nat.reduceSub, Nat.reduceMul, Nat.reduceLT, Int.reduceToNat, Int.reduceBEq, Int.reduceBNe, Int.reduceLT, Int.reduceLE, E, E', TY, e2]
  refine Res.rounds 0 (Res.run 900 ?_)
  simp only [↓reduceIte, Nat.reduceEqDiff, Nat.reduceAdd, Nat.reduceSub, Nat.reduceMul, Nat.reduceLT, Int.reduceToNat, Int.reduceBEq, Int.reduceBNe, Int.reduceLT, Int.reduceLE, E, E', TY, e2]
  refine ⟨fnok66, CallAt.pure #[.slice none 0 0, .slice none 0 0] (.bool true) (fun _ => rfl) (fun w' hw => z_sameVals) (Res.run 900 ?_)⟩
  simp only [↓reduceIte, Nat.reduceEqDiff, Nat.reduceAdd, Nat.reduceSub, Nat.reduceMul, Nat.reduceLT, Int.reduceToNat, Int.reduceBEq, Int.reduceBNe, Int.reduceLT, Int.reduceLE, E, E', TY]
  refine ⟨fnok66, CallAt.pure #[.slice none 0 0, .slice none 0 0] (.bool true) (fun _ => rfl) (fun w' hw => z_sameVals) (Res.run 900 ?_)⟩
  simp only [↓reduceIte, Nat.reduceEqDiff, Nat.reduceAdd, Nat.reduceSub, Nat.reduceMul, Nat.reduceLT, Int.reduceToNat, Int.reduceBEq, Int.reduceBNe, Int.reduceLT, Int.reduceLE, E, E', TY]
  exact Ret.one rfl (by kernel_rfl)
end Go.Proofs.YtkcbmkoafmffoaaDoor
