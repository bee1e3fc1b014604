/-
  Stack seat: the calls of package match and of the table, over a table without types: what each hands back. (Condition: the table is one that New made, nothing was added.)
-/
import Derived.Test.YteendcbmoagdfaaTy
set_option linter.unusedVariables false
set_option linter.unusedSimpArgs false
namespace Go.Proofs.Yteendcbmoagdfaa
open Go Go.Eng

/-- A table without types lies at t. -/
def ETab (w : World) (t : Nat) : Prop := ∃ r, w.heap[t]? = some (.cells #[.slice none 0 0, .slice none 0 0, .map (some r)] 66 (0, 0))

theorem rd0 {w : World} {b : Nat} {l : List Value} {ty : TypeId} {fz : Nat × Nat} (h : w.heap[b]? = some (.cells l.toArray ty fz)) (off : Nat) : rd w (some ⟨b, 0, none⟩) off = (l[off]?).getD undef := by
  simp only [rd, addr_add]
  simp [World.cell?, h]
theorem okRd0 {w : World} {b : Nat} {l : List Value} {ty : TypeId} {fz : Nat × Nat} (h : w.heap[b]? = some (.cells l.toArray ty fz)) (off n : Nat) (hn : off + n ≤ l.length) : okRd (· < w.heap.size) w (some ⟨b, 0, none⟩) off n := by
  refine ⟨_, rfl, (Array.getElem?_eq_some_iff.1 h).1, fun j hj => ?_⟩
  rw [addr_add]
  simp [World.cell?, h]
  omega

theorem ETab.keep {w w' : World} {t : Nat} (h : ETab w t) (hE : Ext w w') : ETab w' t := by
  obtain ⟨r, h⟩ := h
  exact ⟨r, by rw [hE.block t (Array.getElem?_eq_some_iff.1 h).1]; exact h⟩

theorem roll_there {w : World} {t : Nat} (h : ETab w t) : Calls Try.prog 45 #[.pointer (some ⟨t, 0, none⟩)] w fun e w' => e = .returned (.bool true) ∧ Ext w w' := by
  obtain ⟨r, h⟩ := h
  have h2 : rd w (some ⟨t, 0, none⟩) 2 = .map (some r) := rd0 (l := [_, _, _]) h 2
  have o2 := okRd0 (l := [_, _, _]) h 2 1 (by simp)
  refine start0 (args := [.v (.pointer (some ⟨t, 0, none⟩))]) (G := (· < w.heap.size)) Try.func45 rfl Try.ntmps45 (by simp [SV.lt]) (fun _ h => h) ?_
  refine Res.run 1000 ?_
  simp only [↓reduceIte, Nat.reduceEqDiff, Nat.reduceAdd, Nat.reduceSub, Nat.reduceMul, Nat.reduceLT, Int.reduceToNat, Int.reduceBEq, Int.reduceBNe, Int.reduceLT, Int.reduceLE, E, E', TY, h2]
  exact ⟨o2, Ret.one rfl (by kernel_rfl)⟩

theorem roll_has {w : World} {t : Nat} (h : ETab w t) (n : Int) : Calls Try.prog 46 #[.pointer (some ⟨t, 0, none⟩), .int .i64 n] w fun e w' => e = .returned (.bool false) ∧ Ext w w' := by
  obtain ⟨r, h⟩ := h
  have h2 : rd w (some ⟨t, 0, none⟩) 0 = .slice none 0 0 := rd0 (l := [_, _, _]) h 0
  have o2 := okRd0 (l := [_, _, _]) h 0 1 (by simp)
  refine start0 (args := [.v (.pointer (some ⟨t, 0, none⟩)), .v (.int .i64 n)]) (G := (· < w.heap.size)) Try.func46 rfl Try.ntmps46 (by simp [SV.lt]) (fun _ h => h) ?_
  refine Res.run 1000 ?_
  by_cases hn : n ≥ 0
  · have hn' : decide (n ≥ 0) = true := by simp [hn]
    have hn2 : decide (n < ((0 : Nat) : Int)) = false := by simp; omega
    simp only [↓reduceIte, Nat.reduceEqDiff, Nat.reduceAdd, Nat.reduceSub, Nat.reduceMul, Nat.reduceLT, Int.reduceToNat, Int.reduceBEq, Int.reduceBNe, Int.reduceLT, Int.reduceLE, E, E', TY, h2, hn', hn2]
    exact ⟨o2, Ret.one rfl (by kernel_rfl)⟩
  · have hn' : decide (n ≥ 0) = false := by simp; omega
    simp only [↓reduceIte, Nat.reduceEqDiff, Nat.reduceAdd, Nat.reduceSub, Nat.reduceMul, Nat.reduceLT, Int.reduceToNat, Int.reduceBEq, Int.reduceBNe, Int.reduceLT, Int.reduceLE, E, E', TY, h2, hn']
    exact Ret.one rfl (by kernel_rfl)

def subZ : Value := .agg #[.bool false, .slice none 0 0, .int .i64 0, .slice none 0 0, .slice none 0 0, .slice none 0 0]

theorem roll_get {w : World} {t : Nat} (h : ETab w t) (n : Int) : Calls Try.prog 40 #[.pointer (some ⟨t, 0, none⟩), .int .i64 n] w fun e w' => e = .returned (.tuple #[subZ, .int .i64 4]) ∧ Ext w w' := by
  refine start0 (args := [.v (.pointer (some ⟨t, 0, none⟩)), .v (.int .i64 n)]) (G := (· < w.heap.size)) Try.func40 rfl Try.ntmps40 (by simp [SV.lt]) (fun _ h => h) ?_
  refine Res.run 1000 ?_
  simp only [↓reduceIte, Nat.reduceEqDiff, Nat.reduceAdd, Nat.reduceSub, Nat.reduceMul, Nat.reduceLT, Int.reduceToNat, Int.reduceBEq, Int.reduceBNe, Int.reduceLT, Int.reduceLE, E, E', TY]
  refine ⟨fnok45, CallAt.pure #[.pointer (some ⟨t, 0, none⟩)] (.bool true) (fun _ => rfl) (fun w' hw => roll_there (h.keep hw)) (Res.run 900 ?_)⟩
  simp only [↓reduceIte, Nat.reduceEqDiff, Nat.reduceAdd, Nat.reduceSub, Nat.reduceMul, Nat.reduceLT, Int.reduceToNat, Int.reduceBEq, Int.reduceBNe, Int.reduceLT, Int.reduceLE, E, E', TY]
  refine ⟨fnok46, CallAt.pure #[.pointer (some ⟨t, 0, none⟩), .int .i64 n] (.bool false) (fun _ => rfl) (fun w' hw => roll_has (h.keep hw) n) (Res.run 900 ?_)⟩
  simp only [↓reduceIte, Nat.reduceEqDiff, Nat.reduceAdd, Nat.reduceSub, Nat.reduceMul, Nat.reduceLT, Int.reduceToNat, Int.reduceBEq, Int.reduceBNe, Int.reduceLT, Int.reduceLE, E, E', TY]
  exact Ret.det [.agg [.v (.bool false), .v (.slice none 0 0), .v (.int .i64 0), .v (.slice none 0 0), .v (.slice none 0 0), .v (.slice none 0 0)], .v (.int .i64 4)] rfl (by kernel_rfl) (fun _ => rfl)

end Go.Proofs.Yteendcbmoagdfaa
