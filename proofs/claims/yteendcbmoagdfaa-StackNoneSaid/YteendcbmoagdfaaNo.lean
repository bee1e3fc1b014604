/-
  StackNone, walked.
-/
import Derived.Test.YteendcbmoagdfaaWi
set_option linter.unusedVariables false
set_option linter.unusedSimpArgs false
set_option maxRecDepth 20000
set_option maxHeartbeats 4000000
namespace Go.Proofs.Yteendcbmoagdfaa
open Go Go.Eng

/-- No machine, or one without a table. -/
def NM (w : World) (A : Option Addr) : Prop := A = none ∨ ∃ m, A = some ⟨m, 0, none⟩ ∧ w.heap[m]? = some (.cells #[.pointer none, .slice none 0 0, .slice none 0 0] 58 (0, 0))
theorem NM.keep {w w' : World} {A : Option Addr} (h : NM w A) (hE : Ext w w') : NM w' A := by
  rcases h with h | ⟨m, h1, h2⟩
  · exact .inl h
  · exact .inr ⟨m, h1, keepH hE h2⟩

theorem roll_there0 {w : World} : Calls Try.prog 45 #[.pointer none] w fun e w' => e = .returned (.bool false) ∧ Ext w w' := by
  refine start0 (args := [.v (.pointer none)]) (G := (· < w.heap.size)) Try.func45 rfl Try.ntmps45 (by simp [SV.lt]) (fun _ h => h) ?_
  refine Res.run 1000 ?_
  simp only [↓reduceIte, Nat.reduceEqDiff, Nat.reduceAdd, Nat.reduceSub, Nat.reduceMul, Nat.reduceLT, Int.reduceToNat, Int.reduceBEq, Int.reduceBNe, Int.reduceLT, Int.reduceLE, E, E', TY]
  exact Ret.one rfl (by kernel_rfl)
theorem roll_get0 {w : World} (n : Int) : Calls Try.prog 40 #[.pointer none, .int .i64 n] w fun e w' => e = .returned (.tuple #[subZ, .int .i64 1]) ∧ Ext w w' := by
  refine start0 (args := [.v (.pointer none), .v (.int .i64 n)]) (G := (· < w.heap.size)) Try.func40 rfl Try.ntmps40 (by simp [SV.lt]) (fun _ h => h) ?_
  refine Res.run 1000 ?_
  simp only [↓reduceIte, Nat.reduceEqDiff, Nat.reduceAdd, Nat.reduceSub, Nat.reduceMul, Nat.reduceLT, Int.reduceToNat, Int.reduceBEq, Int.reduceBNe, Int.reduceLT, Int.reduceLE, E, E', TY]
  refine ⟨fnok45, CallAt.pure #[.pointer none] (.bool false) (fun _ => rfl) (fun w' _ => roll_there0) (Res.run 900 ?_)⟩
  simp only [↓reduceIte, Nat.reduceEqDiff, Nat.reduceAdd, Nat.reduceSub, Nat.reduceMul, Nat.reduceLT, Int.reduceToNat, Int.reduceBEq, Int.reduceBNe, Int.reduceLT, Int.reduceLE, E, E', TY]
  exact Ret.det [.agg [.v (.bool false), .v (.slice none 0 0), .v (.int .i64 0), .v (.slice none 0 0), .v (.slice none 0 0), .v (.slice none 0 0)], .v (.int .i64 1)] rfl (by kernel_rfl) (fun _ => rfl)

theorem there0 {w : World} {A : Option Addr} (h : NM w A) : Calls Try.prog 27 #[.pointer A] w fun e w' => e = .returned (.bool false) ∧ Ext w w' := by
  rcases h with rfl | ⟨m, rfl, hm⟩
  · refine start0 (args := [.v (.pointer none)]) (G := (· < w.heap.size)) Try.func27 rfl Try.ntmps27 (by simp [SV.lt]) (fun _ h => h) ?_
    refine Res.run 1000 ?_
    simp only [↓reduceIte, Nat.reduceEqDiff, Nat.reduceAdd, Nat.reduceSub, Nat.reduceMul, Nat.reduceLT, Int.reduceToNat, Int.reduceBEq, Int.reduceBNe, Int.reduceLT, Int.reduceLE, E, E', TY]
    exact Ret.one rfl (by kernel_rfl)
  · have h0 : rd w (some ⟨m, 0, none⟩) 0 = .pointer none := rd0 (l := [_, _, _]) hm 0
    have o0 := okRd0 (l := [_, _, _]) hm 0 1 (by simp)
    refine start0 (args := [.v (.pointer (some ⟨m, 0, none⟩))]) (G := (· < w.heap.size)) Try.func27 rfl Try.ntmps27 (by simp [SV.lt]) (fun _ h => h) ?_
    refine Res.run 1000 ?_
    simp only [↓reduceIte, Nat.reduceEqDiff, Nat.reduceAdd, Nat.reduceSub, Nat.reduceMul, Nat.reduceLT, Int.reduceToNat, Int.reduceBEq, Int.reduceBNe, Int.reduceLT, Int.reduceLE, E, E', TY, h0]
    refine ⟨o0, fnok40, CallAt.pure #[.pointer none, .int .i64 (-1)] (.tuple #[subZ, .int .i64 1]) (fun _ => rfl) (fun w' hw => roll_get0 (-1)) (Res.run 900 ?_)⟩
    simp only [↓reduceIte, Nat.reduceEqDiff, Nat.reduceAdd, Nat.reduceSub, Nat.reduceMul, Nat.reduceLT, Int.reduceToNat, Int.reduceBEq, Int.reduceBNe, Int.reduceLT, Int.reduceLE, E, E', TY, subZ]
    exact Ret.one rfl (by kernel_rfl)

theorem n_push {w : World} {A : Option Addr} (h : NM w A) (B : Option Addr) (n c : Nat) : Calls Try.prog 10 #[.pointer A, .slice B n c] w fun e w' => e = .returned (.int .i64 1) ∧ Ext w w' := by
  refine start0 (args := [.v (.pointer A), .v (.slice B n c)]) (G := (· < w.heap.size)) Try.func10 rfl Try.ntmps10 (by simp [SV.lt]) (fun _ h => h) ?_
  refine Res.run 1000 ?_
  simp only [↓reduceIte, Nat.reduceEqDiff, Nat.reduceAdd, Nat.reduceSub, Nat.reduceMul, Nat.reduceLT, Int.reduceToNat, Int.reduceBEq, Int.reduceBNe, Int.reduceLT, Int.reduceLE, E, E', TY]
  refine ⟨fnok27, CallAt.pure #[.pointer A] (.bool false) (fun _ => rfl) (fun w' hw => there0 (h.keep hw)) (Res.run 900 ?_)⟩
  simp only [↓reduceIte, Nat.reduceEqDiff, Nat.reduceAdd, Nat.reduceSub, Nat.reduceMul, Nat.reduceLT, Int.reduceToNat, Int.reduceBEq, Int.reduceBNe, Int.reduceLT, Int.reduceLE, E, E', TY]
  exact Ret.det [.v (.int .i64 1)] rfl (by kernel_rfl) (fun _ => rfl)

theorem n_pop {w : World} {A : Option Addr} (h : NM w A) : Calls Try.prog 18 #[.pointer A] w fun e w' => e = .returned (.tuple #[vZ.v, .int .i64 1]) ∧ Ext w w' := by
  refine start0 (args := [.v (.pointer A)]) (G := (· < w.heap.size)) Try.func18 rfl Try.ntmps18 (by simp [SV.lt]) (fun _ h => h) ?_
  refine Res.run 1000 ?_
  simp only [↓reduceIte, Nat.reduceEqDiff, Nat.reduceAdd, Nat.reduceSub, Nat.reduceMul, Nat.reduceLT, Int.reduceToNat, Int.reduceBEq, Int.reduceBNe, Int.reduceLT, Int.reduceLE, E, E', TY]
  refine ⟨fnok27, CallAt.pure #[.pointer A] (.bool false) (fun _ => rfl) (fun w' hw => there0 (h.keep hw)) (Res.run 900 ?_)⟩
  simp only [↓reduceIte, Nat.reduceEqDiff, Nat.reduceAdd, Nat.reduceSub, Nat.reduceMul, Nat.reduceLT, Int.reduceToNat, Int.reduceBEq, Int.reduceBNe, Int.reduceLT, Int.reduceLE, E, E', TY]
  exact Ret.det [.agg [.v (.int .i64 0), .v (.bool false), .v (.int .i64 0), .v (.int .i64 0)], .v (.int .i64 1)] rfl (by kernel_rfl) (fun _ => rfl)

theorem n_take {w : World} {A : Option Addr} (h : NM w A) (B : Option Addr) (n c : Nat) : Calls Try.prog 17 #[.pointer A, .slice B n c] w fun e w' => e = .returned (.int .i64 1) ∧ Ext w w' := by
  refine startM (X := []) (L := []) (args := [.v (.pointer A), .v (.slice B n c)]) (G := (· < w.heap.size)) Try.func17 rfl Try.ntmps17 (by simp [SV.lt]) (HS.nil (fun _ h => h)) ?_
  refine Res.run 1000 ?_
  simp only [↓reduceIte, Nat.reduceEqDiff, Nat.reduceAdd, Nat.reduceSub, Nat.reduceMul, Nat.reduceLT, Int.reduceToNat, Int.reduceBEq, Int.reduceBNe, Int.reduceLT, Int.reduceLE, E, E', TY]
  refine ⟨fnok27, CallAt.pure #[.pointer A] (.bool false) (fun _ => rfl) (fun w' hw => there0 (h.keep hw)) (Res.run 900 ?_)⟩
  simp only [↓reduceIte, Nat.reduceEqDiff, Nat.reduceAdd, Nat.reduceSub, Nat.reduceMul, Nat.reduceLT, Int.reduceToNat, Int.reduceBEq, Int.reduceBNe, Int.reduceLT, Int.reduceLE, E, E', TY]
  exact Ret.bodyM [.v (.int .i64 1)] rfl (by kernel_rfl) (fun new w' hs => ⟨rfl, hs.keep⟩)

theorem n_open {w : World} {A : Option Addr} (h : NM w A) (op : Int) (B : Option Addr) (n c : Nat) (D : Option Addr) (k d : Nat) : Calls Try.prog 11 #[.pointer A, .int .i64 op, .slice B n c, .slice D k d] w fun e w' => e = .returned (.int .i64 1) ∧ Ext w w' := by
  refine start0 (args := [.v (.pointer A), .v (.int .i64 op), .v (.slice B n c), .v (.slice D k d)]) (G := (· < w.heap.size)) Try.func11 rfl Try.ntmps11 (by simp [SV.lt]) (fun _ h => h) ?_
  refine Res.run 1000 ?_
  simp only [↓reduceIte, Nat.reduceEqDiff, Nat.reduceAdd, Nat.reduceSub, Nat.reduceMul, Nat.reduceLT, Int.reduceToNat, Int.reduceBEq, Int.reduceBNe, Int.reduceLT, Int.reduceLE, E, E', TY]
  refine ⟨fnok17, CallAt.pure #[.pointer A, .slice B n c] (.int .i64 1) (fun _ => rfl) (fun w' hw => n_take (h.keep hw) B n c) (Res.run 900 ?_)⟩
  simp only [↓reduceIte, Nat.reduceEqDiff, Nat.reduceAdd, Nat.reduceSub, Nat.reduceMul, Nat.reduceLT, Int.reduceToNat, Int.reduceBEq, Int.reduceBNe, Int.reduceLT, Int.reduceLE, E, E', TY]
  exact Ret.one rfl (by kernel_rfl)

theorem n_close {w : World} {A : Option Addr} (h : NM w A) : Calls Try.prog 19 #[.pointer A] w fun e w' => e = .returned (.tuple #[.int .i64 0, .slice none 0 0, .slice none 0 0, .int .i64 1]) ∧ Ext w w' := by
  refine startM (X := []) (L := []) (args := [.v (.pointer A)]) (G := (· < w.heap.size)) Try.func19 rfl Try.ntmps19 (by simp [SV.lt]) (HS.nil (fun _ h => h)) ?_
  refine Res.run 1000 ?_
  simp only [↓reduceIte, Nat.reduceEqDiff, Nat.reduceAdd, Nat.reduceSub, Nat.reduceMul, Nat.reduceLT, Int.reduceToNat, Int.reduceBEq, Int.reduceBNe, Int.reduceLT, Int.reduceLE, E, E', TY]
  refine ⟨fnok27, CallAt.pure #[.pointer A] (.bool false) (fun _ => rfl) (fun w' hw => there0 (h.keep hw)) (Res.run 900 ?_)⟩
  simp only [↓reduceIte, Nat.reduceEqDiff, Nat.reduceAdd, Nat.reduceSub, Nat.reduceMul, Nat.reduceLT, Int.reduceToNat, Int.reduceBEq, Int.reduceBNe, Int.reduceLT, Int.reduceLE, E, E', TY]
  exact Ret.bodyM [.v (.int .i64 0), .v (.slice none 0 0), .v (.slice none 0 0), .v (.int .i64 1)] rfl (by kernel_rfl) (fun new w' hs => ⟨rfl, hs.keep⟩)

theorem n_die {w : World} {A : Option Addr} (h : NM w A) : Calls Try.prog 12 #[.pointer A] w fun e w' => e = .returned (.int .i64 1) ∧ Ext w w' := by
  refine start0 (args := [.v (.pointer A)]) (G := (· < w.heap.size)) Try.func12 rfl Try.ntmps12 (by simp [SV.lt]) (fun _ h => h) ?_
  refine Res.run 1000 ?_
  simp only [↓reduceIte, Nat.reduceEqDiff, Nat.reduceAdd, Nat.reduceSub, Nat.reduceMul, Nat.reduceLT, Int.reduceToNat, Int.reduceBEq, Int.reduceBNe, Int.reduceLT, Int.reduceLE, E, E', TY]
  refine ⟨fnok27, CallAt.pure #[.pointer A] (.bool false) (fun _ => rfl) (fun w' hw => there0 (h.keep hw)) (Res.run 900 ?_)⟩
  simp only [↓reduceIte, Nat.reduceEqDiff, Nat.reduceAdd, Nat.reduceSub, Nat.reduceMul, Nat.reduceLT, Int.reduceToNat, Int.reduceBEq, Int.reduceBNe, Int.reduceLT, Int.reduceLE, E, E', TY]
  exact Ret.det [.v (.int .i64 1)] rfl (by kernel_rfl) (fun _ => rfl)

theorem n_dead {w : World} {A : Option Addr} (h : NM w A) : Calls Try.prog 13 #[.pointer A] w fun e w' => e = .returned (.bool false) ∧ Ext w w' := by
  refine start0 (args := [.v (.pointer A)]) (G := (· < w.heap.size)) Try.func13 rfl Try.ntmps13 (by simp [SV.lt]) (fun _ h => h) ?_
  refine Res.run 1000 ?_
  simp only [↓reduceIte, Nat.reduceEqDiff, Nat.reduceAdd, Nat.reduceSub, Nat.reduceMul, Nat.reduceLT, Int.reduceToNat, Int.reduceBEq, Int.reduceBNe, Int.reduceLT, Int.reduceLE, E, E', TY]
  refine ⟨fnok27, CallAt.pure #[.pointer A] (.bool false) (fun _ => rfl) (fun w' hw => there0 (h.keep hw)) (Res.run 900 ?_)⟩
  simp only [↓reduceIte, Nat.reduceEqDiff, Nat.reduceAdd, Nat.reduceSub, Nat.reduceMul, Nat.reduceLT, Int.reduceToNat, Int.reduceBEq, Int.reduceBNe, Int.reduceLT, Int.reduceLE, E, E', TY]
  exact Ret.det [.v (.bool false)] rfl (by kernel_rfl) (fun _ => rfl)

theorem n_label {w : World} {A : Option Addr} (h : NM w A) (n : Int) : Calls Try.prog 23 #[.pointer A, .int .i64 n] w fun e w' => e = .returned (.tuple #[.slice none 0 0, .int .i64 1]) ∧ Ext w w' := by
  refine start0 (args := [.v (.pointer A), .v (.int .i64 n)]) (G := (· < w.heap.size)) Try.func23 rfl Try.ntmps23 (by simp [SV.lt]) (fun _ h => h) ?_
  refine Res.run 1000 ?_
  simp only [↓reduceIte, Nat.reduceEqDiff, Nat.reduceAdd, Nat.reduceSub, Nat.reduceMul, Nat.reduceLT, Int.reduceToNat, Int.reduceBEq, Int.reduceBNe, Int.reduceLT, Int.reduceLE, E, E', TY]
  refine ⟨fnok27, CallAt.pure #[.pointer A] (.bool false) (fun _ => rfl) (fun w' hw => there0 (h.keep hw)) (Res.run 900 ?_)⟩
  simp only [↓reduceIte, Nat.reduceEqDiff, Nat.reduceAdd, Nat.reduceSub, Nat.reduceMul, Nat.reduceLT, Int.reduceToNat, Int.reduceBEq, Int.reduceBNe, Int.reduceLT, Int.reduceLE, E, E', TY]
  exact Ret.det [.v (.slice none 0 0), .v (.int .i64 1)] rfl (by kernel_rfl) (fun _ => rfl)

theorem n_give {w : World} {A : Option Addr} (h : NM w A) (n : Int) : Calls Try.prog 22 #[.pointer A, .int .i64 n] w fun e w' => e = .returned (.int .i64 1) ∧ Ext w w' := by
  refine start0 (args := [.v (.pointer A), .v (.int .i64 n)]) (G := (· < w.heap.size)) Try.func22 rfl Try.ntmps22 (by simp [SV.lt]) (fun _ h => h) ?_
  refine Res.run 1000 ?_
  simp only [↓reduceIte, Nat.reduceEqDiff, Nat.reduceAdd, Nat.reduceSub, Nat.reduceMul, Nat.reduceLT, Int.reduceToNat, Int.reduceBEq, Int.reduceBNe, Int.reduceLT, Int.reduceLE, E, E', TY]
  refine ⟨fnok27, CallAt.pure #[.pointer A] (.bool false) (fun _ => rfl) (fun w' hw => there0 (h.keep hw)) (Res.run 900 ?_)⟩
  simp only [↓reduceIte, Nat.reduceEqDiff, Nat.reduceAdd, Nat.reduceSub, Nat.reduceMul, Nat.reduceLT, Int.reduceToNat, Int.reduceBEq, Int.reduceBNe, Int.reduceLT, Int.reduceLE, E, E', TY]
  exact Ret.det [.v (.int .i64 1)] rfl (by kernel_rfl) (fun _ => rfl)

theorem n_given {w : World} {A : Option Addr} (h : NM w A) (n : Int) : Calls Try.prog 24 #[.pointer A, .int .i64 n] w fun e w' => e = .returned (.bool false) ∧ Ext w w' := by
  refine start0 (args := [.v (.pointer A), .v (.int .i64 n)]) (G := (· < w.heap.size)) Try.func24 rfl Try.ntmps24 (by simp [SV.lt]) (fun _ h => h) ?_
  refine Res.run 1000 ?_
  simp only [↓reduceIte, Nat.reduceEqDiff, Nat.reduceAdd, Nat.reduceSub, Nat.reduceMul, Nat.reduceLT, Int.reduceToNat, Int.reduceBEq, Int.reduceBNe, Int.reduceLT, Int.reduceLE, E, E', TY]
  refine ⟨fnok27, CallAt.pure #[.pointer A] (.bool false) (fun _ => rfl) (fun w' hw => there0 (h.keep hw)) (Res.run 900 ?_)⟩
  simp only [↓reduceIte, Nat.reduceEqDiff, Nat.reduceAdd, Nat.reduceSub, Nat.reduceMul, Nat.reduceLT, Int.reduceToNat, Int.reduceBEq, Int.reduceBNe, Int.reduceLT, Int.reduceLE, E, E', TY]
  exact Ret.det [.v (.bool false)] rfl (by kernel_rfl) (fun _ => rfl)

theorem n_height {w : World} {A : Option Addr} (h : NM w A) : Calls Try.prog 14 #[.pointer A] w fun e w' => e = .returned (.int .i64 0) ∧ Ext w w' := by
  refine start0 (args := [.v (.pointer A)]) (G := (· < w.heap.size)) Try.func14 rfl Try.ntmps14 (by simp [SV.lt]) (fun _ h => h) ?_
  refine Res.run 1000 ?_
  simp only [↓reduceIte, Nat.reduceEqDiff, Nat.reduceAdd, Nat.reduceSub, Nat.reduceMul, Nat.reduceLT, Int.reduceToNat, Int.reduceBEq, Int.reduceBNe, Int.reduceLT, Int.reduceLE, E, E', TY]
  refine ⟨fnok27, CallAt.pure #[.pointer A] (.bool false) (fun _ => rfl) (fun w' hw => there0 (h.keep hw)) (Res.run 900 ?_)⟩
  simp only [↓reduceIte, Nat.reduceEqDiff, Nat.reduceAdd, Nat.reduceSub, Nat.reduceMul, Nat.reduceLT, Int.reduceToNat, Int.reduceBEq, Int.reduceBNe, Int.reduceLT, Int.reduceLE, E, E', TY]
  exact Ret.det [.v (.int .i64 0)] rfl (by kernel_rfl) (fun _ => rfl)

theorem n_frames {w : World} {A : Option Addr} (h : NM w A) : Calls Try.prog 20 #[.pointer A] w fun e w' => e = .returned (.int .i64 0) ∧ Ext w w' := by
  refine start0 (args := [.v (.pointer A)]) (G := (· < w.heap.size)) Try.func20 rfl Try.ntmps20 (by simp [SV.lt]) (fun _ h => h) ?_
  refine Res.run 1000 ?_
  simp only [↓reduceIte, Nat.reduceEqDiff, Nat.reduceAdd, Nat.reduceSub, Nat.reduceMul, Nat.reduceLT, Int.reduceToNat, Int.reduceBEq, Int.reduceBNe, Int.reduceLT, Int.reduceLE, E, E', TY]
  refine ⟨fnok27, CallAt.pure #[.pointer A] (.bool false) (fun _ => rfl) (fun w' hw => there0 (h.keep hw)) (Res.run 900 ?_)⟩
  simp only [↓reduceIte, Nat.reduceEqDiff, Nat.reduceAdd, Nat.reduceSub, Nat.reduceMul, Nat.reduceLT, Int.reduceToNat, Int.reduceBEq, Int.reduceBNe, Int.reduceLT, Int.reduceLE, E, E', TY]
  exact Ret.det [.v (.int .i64 0)] rfl (by kernel_rfl) (fun _ => rfl)

theorem n_top {w : World} {A : Option Addr} (h : NM w A) (n : Int) : Calls Try.prog 16 #[.pointer A, .int .i64 n] w fun e w' => e = .returned (.slice none 0 0) ∧ Ext w w' := by
  refine start0 (args := [.v (.pointer A), .v (.int .i64 n)]) (G := (· < w.heap.size)) Try.func16 rfl Try.ntmps16 (by simp [SV.lt]) (fun _ h => h) ?_
  refine Res.run 1000 ?_
  simp only [↓reduceIte, Nat.reduceEqDiff, Nat.reduceAdd, Nat.reduceSub, Nat.reduceMul, Nat.reduceLT, Int.reduceToNat, Int.reduceBEq, Int.reduceBNe, Int.reduceLT, Int.reduceLE, E, E', TY]
  refine ⟨fnok27, CallAt.pure #[.pointer A] (.bool false) (fun _ => rfl) (fun w' hw => there0 (h.keep hw)) (Res.run 900 ?_)⟩
  simp only [↓reduceIte, Nat.reduceEqDiff, Nat.reduceAdd, Nat.reduceSub, Nat.reduceMul, Nat.reduceLT, Int.reduceToNat, Int.reduceBEq, Int.reduceBNe, Int.reduceLT, Int.reduceLE, E, E', TY]
  exact Ret.det [.v (.slice none 0 0)] rfl (by kernel_rfl) (fun _ => rfl)

/-- A machine without a table, as a thing of ours. -/
def NMA : Asn where
  R O m w := O m ∧ w.heap[m]? = some (.cells #[.pointer none, .slice none 0 0, .slice none 0 0] 58 (0, 0))
  loc := by
    rintro O m w w' ⟨h1, h2⟩ hw
    exact ⟨h1, by rw [hw _ h1]; exact h2⟩
theorem n_new {w : World} : Calls Try.prog 8 #[.pointer none] w fun e w' => ∃ m, e = .returned (.pointer (some ⟨m, 0, none⟩)) ∧ NMA.R (fun b => b = m) m w' ∧ Ext w w' ∧ w.heap.size ≤ m ∧ m < w'.heap.size := by
  refine start0 (args := [.v (.pointer none)]) (G := (· < w.heap.size)) Try.func8 rfl Try.ntmps8 (by simp [SV.lt]) (fun _ h => h) ?_
  refine Res.run 1000 ?_
  simp only [↓reduceIte, Nat.reduceEqDiff, Nat.reduceAdd, Nat.reduceSub, Nat.reduceMul, Nat.reduceLT, Int.reduceToNat, Int.reduceBEq, Int.reduceBNe, Int.reduceLT, Int.reduceLE, E, E', TY]
  refine Ret.body [.p 0 0] rfl (by kernel_rfl) fun new w' hs => ?_
  obtain ⟨own, ho⟩ := hs
  obtain ⟨k1, k2⟩ := ho.ok 0 _ rfl
  obtain ⟨k3, k4⟩ := ho.out 0 _ (by simp) k1
  exact ⟨_, rfl, ⟨rfl, k2⟩, ho.keep, by omega, k4⟩

section
variable {Q : Pst} {G : Nat → Prop} {W : World}
/-- s is such a machine. -/
def NS (G : Nat → Prop) (W : World) (σ : St) (s : SV) : Prop := ∀ new w, HS G W σ new w → ∃ A, s.den (σ.X ++ new) = .pointer A ∧ NM w A
theorem NS.nil {σ : St} : NS G W σ (.v (.pointer none)) := fun new w hs => ⟨none, rfl, .inl rfl⟩
theorem NS.cells {σ : St} (i : Nat) (h : getE σ.L i = some (.cells 58 [.v (.pointer none), .v (.slice none 0 0), .v (.slice none 0 0)])) : NS G W σ (.p i 0) := fun new w hs => ⟨_, rfl, .inr ⟨_, rfl, (hs.ent_get h).1⟩⟩
theorem NS.asn {σ : St} (i : Nat) (h : getE σ.L i = some (.asn NMA)) : NS G W σ (.p i 0) := by
  rintro new w ⟨own, ho⟩
  rw [getE_eq] at h
  have hR : NMA.R (own i) _ w := ho.ok i _ h
  exact ⟨_, rfl, .inr ⟨_, rfl, hR.2⟩⟩
theorem CallAt.nm {σ : St} {dst : Option Tmp} {k : List It} {f : FuncId} {s : SV} {rest : List SV} {vs : List Value} {v : Value} (hs : NS G W σ s) (hr : ∀ ids, rest.map (SV.den ids) = vs) (hc : ∀ (w : World) (A : Option Addr), NM w A → Calls Try.prog f (Value.pointer A :: vs).toArray w fun e w' => e = .returned v ∧ Ext w w')
    (hk : Res Try.prog Q G W (σ.put dst (.v v)) k) : CallAt Try.prog Q G W σ f (s :: rest) dst k := by
  refine CallAt.detS (.v v) trivial (fun new w h => ?_) hk
  obtain ⟨A, e, hn⟩ := hs new w h
  rw [List.map_cons, hr, e]
  exact hc w A hn
theorem CallAt.nnew {σ : St} {dst : Option Tmp} {k : List It} (hk : Res Try.prog Q G W ((σ.new (.asn NMA)).put dst (.p σ.L.length 0)) k) : CallAt Try.prog Q G W σ 8 [.v (.pointer none)] dst k := by
  refine CallAt.mk (fun A' => A' = NMA) ?_ (by rintro _ rfl; exact hk)
  intro new w hs
  refine n_new.mono ?_
  rintro e w' ⟨m, rfl, hR, hE, h1, h2⟩
  exact ⟨m, _, fun b => b = m, rfl, rfl, hR, hE, by rintro _ rfl; exact ⟨h1, h2⟩⟩
end

theorem build_arr (x0 x1 x2 : Option Addr) (w : World) : (Instr.build 59 #[(0, .pointer x0), (1, .pointer x1), (2, .pointer x2)]).run Try.prog w = .ok (.agg #[.pointer x0, .pointer x1, .pointer x2]) w := by kernel_rfl

/-- The array of the three machines. -/
theorem Res.arr {Q : Pst} {G : Nat → Prop} {W : World} {σ : St} {k : List It} {all rest : List Oper} {o : Oper} {a b c : Operand} (ho : o.op = .build 59 #[(0, a), (1, b), (2, c)]) (ha : ev σ a = some (.v (.pointer none))) (hb : ev σ b = some (.p 0 0)) (hc : ev σ c = some (.p 1 0)) (hl : 1 < σ.L.length)
    (h : Res Try.prog Q G W (σ.put o.dst (.agg [.v (.pointer none), .p 0 0, .p 1 0])) (.ops all rest :: k)) (hg : o.guard = none := by rfl) : Res Try.prog Q G W σ (.ops all (o :: rest) :: k) := by
  refine Res.op ?_ hg (by rw [ho]; intro c hc; cases hc)
  intro new act w hs
  obtain ⟨ea, _⟩ := ev_sound hs ha
  obtain ⟨eb, _⟩ := ev_sound hs hb
  obtain ⟨ec, _⟩ := ev_sound hs hc
  refine GoRun.opK (wp_value (v := (SV.agg [.v (.pointer none), .p 0 0, .p 1 0]).den (σ.X ++ new)) (w' := w) ?_ ?_)
  · simp only [execOp, ho, List.map_toArray, List.map_cons, List.map_nil, ea, eb, ec, SV.den, At.den]
    have := build_arr none (some ⟨(σ.X ++ new).getD 0 0, 0, none⟩) (some ⟨(σ.X ++ new).getD 1 0, 0, none⟩) w
    simp only [Sem.run_bind, this, Result.andThen_ok, Sem.run_pure]
  · exact h new _ w (hs.put o.dst (.agg [.v (.pointer none), .p 0 0, .p 1 0]) (by simp [SV.lt, At.lt]; omega))

theorem m_none {w : World} (n : Int) (A : Option Addr) (c : Nat) (l : List Vl) :
    Calls Try.prog 6 #[.int .i64 n, .slice A l.length c] w fun e w' => e = .returned (.bool true) ∧ Ext w w' := by
  refine start0 (args := [.v (.int .i64 n), .v (.slice A l.length c)]) (G := (· < w.heap.size)) Try.func6 rfl Try.ntmps6 (by simp [SV.lt]) (fun _ h => h) ?_
  refine Res.run 1000 ?_
  by_cases h1 : (l.length : Int) > 20
  · have e1 : decide ((l.length : Int) > 20) = true := by simp only [h1, decide_true]
    simp only [↓reduceIte, Nat.reduceEqDiff, Nat.reduceAdd, Nat.reduceSub, Nat.reduceMul, Nat.reduceLT, Int.reduceToNat, Int.reduceBEq, Int.reduceBNe, Int.reduceLT, Int.reduceLE, E, E', TY, e1]
    refine ⟨fnok7, CallAt.known (Res.run 900 ?_)⟩
    simp only [↓reduceIte, Nat.reduceEqDiff, Nat.reduceAdd, Nat.reduceSub, Nat.reduceMul, Nat.reduceLT, Int.reduceToNat, Int.reduceBEq, Int.reduceBNe, Int.reduceLT, Int.reduceLE, E, E', TY]
    exact Ret.one rfl (by kernel_rfl)
  have e1 : decide ((l.length : Int) > 20) = false := by simp only [h1, decide_false]
  simp only [↓reduceIte, Nat.reduceEqDiff, Nat.reduceAdd, Nat.reduceSub, Nat.reduceMul, Nat.reduceLT, Int.reduceToNat, Int.reduceBEq, Int.reduceBNe, Int.reduceLT, Int.reduceLE, E, E', TY, e1]
  refine ⟨fnok8, CallAt.nnew (Res.run 900 ?_)⟩
  simp only [↓reduceIte, Nat.reduceEqDiff, Nat.reduceAdd, Nat.reduceSub, Nat.reduceMul, Nat.reduceLT, Int.reduceToNat, Int.reduceBEq, Int.reduceBNe, Int.reduceLT, Int.reduceLE, E, E', TY]
  refine Res.arr rfl rfl rfl rfl (by simp) (Res.run 900 ?_)
  simp only [↓reduceIte, Nat.reduceEqDiff, Nat.reduceAdd, Nat.reduceSub, Nat.reduceMul, Nat.reduceLT, Int.reduceToNat, Int.reduceBEq, Int.reduceBNe, Int.reduceLT, Int.reduceLE, E, E', TY]
  have hvz : vZ.v = .agg #[.int .i64 0, .bool false, .int .i64 0, .int .i64 0] := rfl
  refine Res.loop (X := {i : Nat // i ≤ 3})
    (fun x => { T := mkT 114 [(0, .v (.int .i64 n)), (1, .v (.slice A l.length c)), (6, .p 2 0), (7, .v (.int .i64 (x.1 : Int)))], X := [], L := [.cells 58 [.v (.pointer none), .v (.slice none 0 0), .v (.slice none 0 0)], .asn NMA, .cells 59 [.v (.pointer none), .p 0 0, .p 1 0]], D := [] })
    (fun x => 3 - x.1) ⟨0, by omega⟩ (St.Le.of 3 (by simp only [↓reduceIte, Nat.reduceEqDiff, Nat.reduceAdd, Nat.reduceSub, Nat.reduceMul, Nat.reduceLT, Int.reduceToNat, Int.reduceBEq, Int.reduceBNe, Int.reduceLT, Int.reduceLE, E, E', TY]; simp)) ?_
  intro x
  refine Res.run 900 ?_
  match x with
  | ⟨0, _⟩ =>
    have hi0 : ((0 : Nat) : Int) = 0 := rfl
    have e2 : decide ((0 : Int) < 3) = true := by decide
    simp only [↓reduceIte, Nat.reduceEqDiff, Nat.reduceAdd, Nat.reduceSub, Nat.reduceMul, Nat.reduceLT, Int.reduceToNat, Int.reduceBEq, Int.reduceBNe, Int.reduceLT, Int.reduceLE, E, E', TY, e2, hi0]
    refine ⟨by decide, fnok18, CallAt.nm (v := .tuple #[vZ.v, .int .i64 1]) (vs := []) NS.nil (fun _ => rfl) (fun w A h => n_pop h) (Res.run 900 ?_)⟩
    simp only [↓reduceIte, Nat.reduceEqDiff, Nat.reduceAdd, Nat.reduceSub, Nat.reduceMul, Nat.reduceLT, Int.reduceToNat, Int.reduceBEq, Int.reduceBNe, Int.reduceLT, Int.reduceLE, E, E', TY, hvz]
    refine ⟨fnok19, CallAt.nm (vs := []) NS.nil (fun _ => rfl) (fun w A h => n_close h) (Res.run 900 ?_)⟩
    simp only [↓reduceIte, Nat.reduceEqDiff, Nat.reduceAdd, Nat.reduceSub, Nat.reduceMul, Nat.reduceLT, Int.reduceToNat, Int.reduceBEq, Int.reduceBNe, Int.reduceLT, Int.reduceLE, E, E', TY]
    refine ⟨fnok23, CallAt.nm (vs := [.int .i64 n]) NS.nil (fun _ => rfl) (fun w A h => n_label h n) (Res.run 900 ?_)⟩
    simp only [↓reduceIte, Nat.reduceEqDiff, Nat.reduceAdd, Nat.reduceSub, Nat.reduceMul, Nat.reduceLT, Int.reduceToNat, Int.reduceBEq, Int.reduceBNe, Int.reduceLT, Int.reduceLE, E, E', TY]
    refine ⟨fnok10, CallAt.nm (vs := [.slice A l.length c]) NS.nil (fun _ => rfl) (fun w B h => n_push h A l.length c) (Res.run 900 ?_)⟩
    simp only [↓reduceIte, Nat.reduceEqDiff, Nat.reduceAdd, Nat.reduceSub, Nat.reduceMul, Nat.reduceLT, Int.reduceToNat, Int.reduceBEq, Int.reduceBNe, Int.reduceLT, Int.reduceLE, E, E', TY, beq_self_eq_true, bne_self_eq_false, Bool.not_true, Bool.not_false]
    refine ⟨fnok17, CallAt.nm (vs := [.slice A l.length c]) NS.nil (fun _ => rfl) (fun w B h => n_take h A l.length c) (Res.run 900 ?_)⟩
    simp only [↓reduceIte, Nat.reduceEqDiff, Nat.reduceAdd, Nat.reduceSub, Nat.reduceMul, Nat.reduceLT, Int.reduceToNat, Int.reduceBEq, Int.reduceBNe, Int.reduceLT, Int.reduceLE, E, E', TY, beq_self_eq_true, bne_self_eq_false, Bool.not_true, Bool.not_false]
    refine ⟨fnok11, CallAt.nm (vs := [.int .i64 2, .slice A l.length c, .slice A l.length c]) NS.nil (fun _ => rfl) (fun w B h => n_open h 2 A l.length c A l.length c) (Res.run 900 ?_)⟩
    simp only [↓reduceIte, Nat.reduceEqDiff, Nat.reduceAdd, Nat.reduceSub, Nat.reduceMul, Nat.reduceLT, Int.reduceToNat, Int.reduceBEq, Int.reduceBNe, Int.reduceLT, Int.reduceLE, E, E', TY, beq_self_eq_true, bne_self_eq_false, Bool.not_true, Bool.not_false]
    refine ⟨fnok12, CallAt.nm (vs := []) NS.nil (fun _ => rfl) (fun w A h => n_die h) (Res.run 900 ?_)⟩
    simp only [↓reduceIte, Nat.reduceEqDiff, Nat.reduceAdd, Nat.reduceSub, Nat.reduceMul, Nat.reduceLT, Int.reduceToNat, Int.reduceBEq, Int.reduceBNe, Int.reduceLT, Int.reduceLE, E, E', TY, beq_self_eq_true, bne_self_eq_false, Bool.not_true, Bool.not_false]
    refine ⟨fnok22, CallAt.nm (vs := [.int .i64 n]) NS.nil (fun _ => rfl) (fun w A h => n_give h n) (Res.run 900 ?_)⟩
    simp only [↓reduceIte, Nat.reduceEqDiff, Nat.reduceAdd, Nat.reduceSub, Nat.reduceMul, Nat.reduceLT, Int.reduceToNat, Int.reduceBEq, Int.reduceBNe, Int.reduceLT, Int.reduceLE, E, E', TY, beq_self_eq_true, bne_self_eq_false, Bool.not_true, Bool.not_false]
    refine ⟨fnok24, CallAt.nm (vs := [.int .i64 n]) NS.nil (fun _ => rfl) (fun w A h => n_given h n) (Res.run 900 ?_)⟩
    simp only [↓reduceIte, Nat.reduceEqDiff, Nat.reduceAdd, Nat.reduceSub, Nat.reduceMul, Nat.reduceLT, Int.reduceToNat, Int.reduceBEq, Int.reduceBNe, Int.reduceLT, Int.reduceLE, E, E', TY, beq_self_eq_true, bne_self_eq_false, Bool.not_true, Bool.not_false]
    refine ⟨fnok13, CallAt.nm (vs := []) NS.nil (fun _ => rfl) (fun w A h => n_dead h) (Res.run 900 ?_)⟩
    simp only [↓reduceIte, Nat.reduceEqDiff, Nat.reduceAdd, Nat.reduceSub, Nat.reduceMul, Nat.reduceLT, Int.reduceToNat, Int.reduceBEq, Int.reduceBNe, Int.reduceLT, Int.reduceLE, E, E', TY, beq_self_eq_true, bne_self_eq_false, Bool.not_true, Bool.not_false]
    refine ⟨fnok14, CallAt.nm (vs := []) NS.nil (fun _ => rfl) (fun w A h => n_height h) (Res.run 900 ?_)⟩
    simp only [↓reduceIte, Nat.reduceEqDiff, Nat.reduceAdd, Nat.reduceSub, Nat.reduceMul, Nat.reduceLT, Int.reduceToNat, Int.reduceBEq, Int.reduceBNe, Int.reduceLT, Int.reduceLE, E, E', TY, beq_self_eq_true, bne_self_eq_false, Bool.not_true, Bool.not_false]
    refine ⟨fnok20, CallAt.nm (vs := []) NS.nil (fun _ => rfl) (fun w A h => n_frames h) (Res.run 900 ?_)⟩
    simp only [↓reduceIte, Nat.reduceEqDiff, Nat.reduceAdd, Nat.reduceSub, Nat.reduceMul, Nat.reduceLT, Int.reduceToNat, Int.reduceBEq, Int.reduceBNe, Int.reduceLT, Int.reduceLE, E, E', TY, beq_self_eq_true, bne_self_eq_false, Bool.not_true, Bool.not_false]
    refine ⟨i64ok_of (by decide) (by decide), ?_⟩
    refine ⟨fnok16, CallAt.nm (vs := [.int .i64 n]) NS.nil (fun _ => rfl) (fun w A h => n_top h n) (Res.run 900 ?_)⟩
    simp only [↓reduceIte, Nat.reduceEqDiff, Nat.reduceAdd, Nat.reduceSub, Nat.reduceMul, Nat.reduceLT, Int.reduceToNat, Int.reduceBEq, Int.reduceBNe, Int.reduceLT, Int.reduceLE, E, E', TY, Int.natCast_zero, Int.add_zero, beq_self_eq_true, bne_self_eq_false, Bool.not_true, Bool.not_false]
    refine ⟨i64ok_of (by decide) (by decide), i64ok_of (by decide) (by decide), ?_⟩
    exact Res.again (⟨0 + 1, by omega⟩ : {i : Nat // i ≤ 3}) (by simp only; omega) (St.Le.of 3 (by simp only [↓reduceIte, Nat.reduceEqDiff, Nat.reduceAdd, Nat.reduceSub, Nat.reduceMul, Nat.reduceLT, Int.reduceToNat, Int.reduceBEq, Int.reduceBNe, Int.reduceLT, Int.reduceLE, E, E', TY]; simp))
  | ⟨1, _⟩ =>
    have hi0 : ((1 : Nat) : Int) = 1 := rfl
    have e2 : decide ((1 : Int) < 3) = true := by decide
    simp only [↓reduceIte, Nat.reduceEqDiff, Nat.reduceAdd, Nat.reduceSub, Nat.reduceMul, Nat.reduceLT, Int.reduceToNat, Int.reduceBEq, Int.reduceBNe, Int.reduceLT, Int.reduceLE, E, E', TY, e2, hi0]
    refine ⟨by decide, fnok18, CallAt.nm (v := .tuple #[vZ.v, .int .i64 1]) (vs := []) (NS.cells 0 rfl) (fun _ => rfl) (fun w A h => n_pop h) (Res.run 900 ?_)⟩
    simp only [↓reduceIte, Nat.reduceEqDiff, Nat.reduceAdd, Nat.reduceSub, Nat.reduceMul, Nat.reduceLT, Int.reduceToNat, Int.reduceBEq, Int.reduceBNe, Int.reduceLT, Int.reduceLE, E, E', TY, hvz]
    refine ⟨fnok19, CallAt.nm (vs := []) (NS.cells 0 rfl) (fun _ => rfl) (fun w A h => n_close h) (Res.run 900 ?_)⟩
    simp only [↓reduceIte, Nat.reduceEqDiff, Nat.reduceAdd, Nat.reduceSub, Nat.reduceMul, Nat.reduceLT, Int.reduceToNat, Int.reduceBEq, Int.reduceBNe, Int.reduceLT, Int.reduceLE, E, E', TY]
    refine ⟨fnok23, CallAt.nm (vs := [.int .i64 n]) (NS.cells 0 rfl) (fun _ => rfl) (fun w A h => n_label h n) (Res.run 900 ?_)⟩
    simp only [↓reduceIte, Nat.reduceEqDiff, Nat.reduceAdd, Nat.reduceSub, Nat.reduceMul, Nat.reduceLT, Int.reduceToNat, Int.reduceBEq, Int.reduceBNe, Int.reduceLT, Int.reduceLE, E, E', TY]
    refine ⟨fnok10, CallAt.nm (vs := [.slice A l.length c]) (NS.cells 0 rfl) (fun _ => rfl) (fun w B h => n_push h A l.length c) (Res.run 900 ?_)⟩
    simp only [↓reduceIte, Nat.reduceEqDiff, Nat.reduceAdd, Nat.reduceSub, Nat.reduceMul, Nat.reduceLT, Int.reduceToNat, Int.reduceBEq, Int.reduceBNe, Int.reduceLT, Int.reduceLE, E, E', TY, beq_self_eq_true, bne_self_eq_false, Bool.not_true, Bool.not_false]
    refine ⟨fnok17, CallAt.nm (vs := [.slice A l.length c]) (NS.cells 0 rfl) (fun _ => rfl) (fun w B h => n_take h A l.length c) (Res.run 900 ?_)⟩
    simp only [↓reduceIte, Nat.reduceEqDiff, Nat.reduceAdd, Nat.reduceSub, Nat.reduceMul, Nat.reduceLT, Int.reduceToNat, Int.reduceBEq, Int.reduceBNe, Int.reduceLT, Int.reduceLE, E, E', TY, beq_self_eq_true, bne_self_eq_false, Bool.not_true, Bool.not_false]
    refine ⟨fnok11, CallAt.nm (vs := [.int .i64 2, .slice A l.length c, .slice A l.length c]) (NS.cells 0 rfl) (fun _ => rfl) (fun w B h => n_open h 2 A l.length c A l.length c) (Res.run 900 ?_)⟩
    simp only [↓reduceIte, Nat.reduceEqDiff, Nat.reduceAdd, Nat.reduceSub, Nat.reduceMul, Nat.reduceLT, Int.reduceToNat, Int.reduceBEq, Int.reduceBNe, Int.reduceLT, Int.reduceLE, E, E', TY, beq_self_eq_true, bne_self_eq_false, Bool.not_true, Bool.not_false]
    refine ⟨fnok12, CallAt.nm (vs := []) (NS.cells 0 rfl) (fun _ => rfl) (fun w A h => n_die h) (Res.run 900 ?_)⟩
    simp only [↓reduceIte, Nat.reduceEqDiff, Nat.reduceAdd, Nat.reduceSub, Nat.reduceMul, Nat.reduceLT, Int.reduceToNat, Int.reduceBEq, Int.reduceBNe, Int.reduceLT, Int.reduceLE, E, E', TY, beq_self_eq_true, bne_self_eq_false, Bool.not_true, Bool.not_false]
    refine ⟨fnok22, CallAt.nm (vs := [.int .i64 n]) (NS.cells 0 rfl) (fun _ => rfl) (fun w A h => n_give h n) (Res.run 900 ?_)⟩
    simp only [↓reduceIte, Nat.reduceEqDiff, Nat.reduceAdd, Nat.reduceSub, Nat.reduceMul, Nat.reduceLT, Int.reduceToNat, Int.reduceBEq, Int.reduceBNe, Int.reduceLT, Int.reduceLE, E, E', TY, beq_self_eq_true, bne_self_eq_false, Bool.not_true, Bool.not_false]
    refine ⟨fnok24, CallAt.nm (vs := [.int .i64 n]) (NS.cells 0 rfl) (fun _ => rfl) (fun w A h => n_given h n) (Res.run 900 ?_)⟩
    simp only [↓reduceIte, Nat.reduceEqDiff, Nat.reduceAdd, Nat.reduceSub, Nat.reduceMul, Nat.reduceLT, Int.reduceToNat, Int.reduceBEq, Int.reduceBNe, Int.reduceLT, Int.reduceLE, E, E', TY, beq_self_eq_true, bne_self_eq_false, Bool.not_true, Bool.not_false]
    refine ⟨fnok13, CallAt.nm (vs := []) (NS.cells 0 rfl) (fun _ => rfl) (fun w A h => n_dead h) (Res.run 900 ?_)⟩
    simp only [↓reduceIte, Nat.reduceEqDiff, Nat.reduceAdd, Nat.reduceSub, Nat.reduceMul, Nat.reduceLT, Int.reduceToNat, Int.reduceBEq, Int.reduceBNe, Int.reduceLT, Int.reduceLE, E, E', TY, beq_self_eq_true, bne_self_eq_false, Bool.not_true, Bool.not_false]
    refine ⟨fnok14, CallAt.nm (vs := []) (NS.cells 0 rfl) (fun _ => rfl) (fun w A h => n_height h) (Res.run 900 ?_)⟩
    simp only [↓reduceIte, Nat.reduceEqDiff, Nat.reduceAdd, Nat.reduceSub, Nat.reduceMul, Nat.reduceLT, Int.reduceToNat, Int.reduceBEq, Int.reduceBNe, Int.reduceLT, Int.reduceLE, E, E', TY, beq_self_eq_true, bne_self_eq_false, Bool.not_true, Bool.not_false]
    refine ⟨fnok20, CallAt.nm (vs := []) (NS.cells 0 rfl) (fun _ => rfl) (fun w A h => n_frames h) (Res.run 900 ?_)⟩
    simp only [↓reduceIte, Nat.reduceEqDiff, Nat.reduceAdd, Nat.reduceSub, Nat.reduceMul, Nat.reduceLT, Int.reduceToNat, Int.reduceBEq, Int.reduceBNe, Int.reduceLT, Int.reduceLE, E, E', TY, beq_self_eq_true, bne_self_eq_false, Bool.not_true, Bool.not_false]
    refine ⟨i64ok_of (by decide) (by decide), ?_⟩
    refine ⟨fnok16, CallAt.nm (vs := [.int .i64 n]) (NS.cells 0 rfl) (fun _ => rfl) (fun w A h => n_top h n) (Res.run 900 ?_)⟩
    simp only [↓reduceIte, Nat.reduceEqDiff, Nat.reduceAdd, Nat.reduceSub, Nat.reduceMul, Nat.reduceLT, Int.reduceToNat, Int.reduceBEq, Int.reduceBNe, Int.reduceLT, Int.reduceLE, E, E', TY, Int.natCast_zero, Int.add_zero, beq_self_eq_true, bne_self_eq_false, Bool.not_true, Bool.not_false]
    refine ⟨i64ok_of (by decide) (by decide), i64ok_of (by decide) (by decide), ?_⟩
    exact Res.again (⟨1 + 1, by omega⟩ : {i : Nat // i ≤ 3}) (by simp only; omega) (St.Le.of 3 (by simp only [↓reduceIte, Nat.reduceEqDiff, Nat.reduceAdd, Nat.reduceSub, Nat.reduceMul, Nat.reduceLT, Int.reduceToNat, Int.reduceBEq, Int.reduceBNe, Int.reduceLT, Int.reduceLE, E, E', TY]; simp))
  | ⟨2, _⟩ =>
    have hi0 : ((2 : Nat) : Int) = 2 := rfl
    have e2 : decide ((2 : Int) < 3) = true := by decide
    simp only [↓reduceIte, Nat.reduceEqDiff, Nat.reduceAdd, Nat.reduceSub, Nat.reduceMul, Nat.reduceLT, Int.reduceToNat, Int.reduceBEq, Int.reduceBNe, Int.reduceLT, Int.reduceLE, E, E', TY, e2, hi0]
    refine ⟨by decide, fnok18, CallAt.nm (v := .tuple #[vZ.v, .int .i64 1]) (vs := []) (NS.asn 1 rfl) (fun _ => rfl) (fun w A h => n_pop h) (Res.run 900 ?_)⟩
    simp only [↓reduceIte, Nat.reduceEqDiff, Nat.reduceAdd, Nat.reduceSub, Nat.reduceMul, Nat.reduceLT, Int.reduceToNat, Int.reduceBEq, Int.reduceBNe, Int.reduceLT, Int.reduceLE, E, E', TY, hvz]
    refine ⟨fnok19, CallAt.nm (vs := []) (NS.asn 1 rfl) (fun _ => rfl) (fun w A h => n_close h) (Res.run 900 ?_)⟩
    simp only [↓reduceIte, Nat.reduceEqDiff, Nat.reduceAdd, Nat.reduceSub, Nat.reduceMul, Nat.reduceLT, Int.reduceToNat, Int.reduceBEq, Int.reduceBNe, Int.reduceLT, Int.reduceLE, E, E', TY]
    refine ⟨fnok23, CallAt.nm (vs := [.int .i64 n]) (NS.asn 1 rfl) (fun _ => rfl) (fun w A h => n_label h n) (Res.run 900 ?_)⟩
    simp only [↓reduceIte, Nat.reduceEqDiff, Nat.reduceAdd, Nat.reduceSub, Nat.reduceMul, Nat.reduceLT, Int.reduceToNat, Int.reduceBEq, Int.reduceBNe, Int.reduceLT, Int.reduceLE, E, E', TY]
    refine ⟨fnok10, CallAt.nm (vs := [.slice A l.length c]) (NS.asn 1 rfl) (fun _ => rfl) (fun w B h => n_push h A l.length c) (Res.run 900 ?_)⟩
    simp only [↓reduceIte, Nat.reduceEqDiff, Nat.reduceAdd, Nat.reduceSub, Nat.reduceMul, Nat.reduceLT, Int.reduceToNat, Int.reduceBEq, Int.reduceBNe, Int.reduceLT, Int.reduceLE, E, E', TY, beq_self_eq_true, bne_self_eq_false, Bool.not_true, Bool.not_false]
    refine ⟨fnok17, CallAt.nm (vs := [.slice A l.length c]) (NS.asn 1 rfl) (fun _ => rfl) (fun w B h => n_take h A l.length c) (Res.run 900 ?_)⟩
    simp only [↓reduceIte, Nat.reduceEqDiff, Nat.reduceAdd, Nat.reduceSub, Nat.reduceMul, Nat.reduceLT, Int.reduceToNat, Int.reduceBEq, Int.reduceBNe, Int.reduceLT, Int.reduceLE, E, E', TY, beq_self_eq_true, bne_self_eq_false, Bool.not_true, Bool.not_false]
    refine ⟨fnok11, CallAt.nm (vs := [.int .i64 2, .slice A l.length c, .slice A l.length c]) (NS.asn 1 rfl) (fun _ => rfl) (fun w B h => n_open h 2 A l.length c A l.length c) (Res.run 900 ?_)⟩
    simp only [↓reduceIte, Nat.reduceEqDiff, Nat.reduceAdd, Nat.reduceSub, Nat.reduceMul, Nat.reduceLT, Int.reduceToNat, Int.reduceBEq, Int.reduceBNe, Int.reduceLT, Int.reduceLE, E, E', TY, beq_self_eq_true, bne_self_eq_false, Bool.not_true, Bool.not_false]
    refine ⟨fnok12, CallAt.nm (vs := []) (NS.asn 1 rfl) (fun _ => rfl) (fun w A h => n_die h) (Res.run 900 ?_)⟩
    simp only [↓reduceIte, Nat.reduceEqDiff, Nat.reduceAdd, Nat.reduceSub, Nat.reduceMul, Nat.reduceLT, Int.reduceToNat, Int.reduceBEq, Int.reduceBNe, Int.reduceLT, Int.reduceLE, E, E', TY, beq_self_eq_true, bne_self_eq_false, Bool.not_true, Bool.not_false]
    refine ⟨fnok22, CallAt.nm (vs := [.int .i64 n]) (NS.asn 1 rfl) (fun _ => rfl) (fun w A h => n_give h n) (Res.run 900 ?_)⟩
    simp only [↓reduceIte, Nat.reduceEqDiff, Nat.reduceAdd, Nat.reduceSub, Nat.reduceMul, Nat.reduceLT, Int.reduceToNat, Int.reduceBEq, Int.reduceBNe, Int.reduceLT, Int.reduceLE, E, E', TY, beq_self_eq_true, bne_self_eq_false, Bool.not_true, Bool.not_false]
    refine ⟨fnok24, CallAt.nm (vs := [.int .i64 n]) (NS.asn 1 rfl) (fun _ => rfl) (fun w A h => n_given h n) (Res.run 900 ?_)⟩
    simp only [↓reduceIte, Nat.reduceEqDiff, Nat.reduceAdd, Nat.reduceSub, Nat.reduceMul, Nat.reduceLT, Int.reduceToNat, Int.reduceBEq, Int.reduceBNe, Int.reduceLT, Int.reduceLE, E, E', TY, beq_self_eq_true, bne_self_eq_false, Bool.not_true, Bool.not_false]
    refine ⟨fnok13, CallAt.nm (vs := []) (NS.asn 1 rfl) (fun _ => rfl) (fun w A h => n_dead h) (Res.run 900 ?_)⟩
    simp only [↓reduceIte, Nat.reduceEqDiff, Nat.reduceAdd, Nat.reduceSub, Nat.reduceMul, Nat.reduceLT, Int.reduceToNat, Int.reduceBEq, Int.reduceBNe, Int.reduceLT, Int.reduceLE, E, E', TY, beq_self_eq_true, bne_self_eq_false, Bool.not_true, Bool.not_false]
    refine ⟨fnok14, CallAt.nm (vs := []) (NS.asn 1 rfl) (fun _ => rfl) (fun w A h => n_height h) (Res.run 900 ?_)⟩
    simp only [↓reduceIte, Nat.reduceEqDiff, Nat.reduceAdd, Nat.reduceSub, Nat.reduceMul, Nat.reduceLT, Int.reduceToNat, Int.reduceBEq, Int.reduceBNe, Int.reduceLT, Int.reduceLE, E, E', TY, beq_self_eq_true, bne_self_eq_false, Bool.not_true, Bool.not_false]
    refine ⟨fnok20, CallAt.nm (vs := []) (NS.asn 1 rfl) (fun _ => rfl) (fun w A h => n_frames h) (Res.run 900 ?_)⟩
    simp only [↓reduceIte, Nat.reduceEqDiff, Nat.reduceAdd, Nat.reduceSub, Nat.reduceMul, Nat.reduceLT, Int.reduceToNat, Int.reduceBEq, Int.reduceBNe, Int.reduceLT, Int.reduceLE, E, E', TY, beq_self_eq_true, bne_self_eq_false, Bool.not_true, Bool.not_false]
    refine ⟨i64ok_of (by decide) (by decide), ?_⟩
    refine ⟨fnok16, CallAt.nm (vs := [.int .i64 n]) (NS.asn 1 rfl) (fun _ => rfl) (fun w A h => n_top h n) (Res.run 900 ?_)⟩
    simp only [↓reduceIte, Nat.reduceEqDiff, Nat.reduceAdd, Nat.reduceSub, Nat.reduceMul, Nat.reduceLT, Int.reduceToNat, Int.reduceBEq, Int.reduceBNe, Int.reduceLT, Int.reduceLE, E, E', TY, Int.natCast_zero, Int.add_zero, beq_self_eq_true, bne_self_eq_false, Bool.not_true, Bool.not_false]
    refine ⟨i64ok_of (by decide) (by decide), i64ok_of (by decide) (by decide), ?_⟩
    exact Res.again (⟨2 + 1, by omega⟩ : {i : Nat // i ≤ 3}) (by simp only; omega) (St.Le.of 3 (by simp only [↓reduceIte, Nat.reduceEqDiff, Nat.reduceAdd, Nat.reduceSub, Nat.reduceMul, Nat.reduceLT, Int.reduceToNat, Int.reduceBEq, Int.reduceBNe, Int.reduceLT, Int.reduceLE, E, E', TY]; simp))
  | ⟨3, _⟩ =>
    have e2 : decide (((3 : Nat) : Int) < 3) = false := by decide
    simp only [↓reduceIte, Nat.reduceEqDiff, Nat.reduceAdd, Nat.reduceSub, Nat.reduceMul, Nat.reduceLT, Int.reduceToNat, Int.reduceBEq, Int.reduceBNe, Int.reduceLT, Int.reduceLE, E, E', TY, e2]
    refine ⟨fnok7, CallAt.known (Res.run 900 ?_)⟩
    simp only [↓reduceIte, Nat.reduceEqDiff, Nat.reduceAdd, Nat.reduceSub, Nat.reduceMul, Nat.reduceLT, Int.reduceToNat, Int.reduceBEq, Int.reduceBNe, Int.reduceLT, Int.reduceLE, E, E', TY]
    exact Ret.one rfl (by kernel_rfl)
end Go.Proofs.Yteendcbmoagdfaa
