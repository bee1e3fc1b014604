/-
  The kind layer: declared types that come in as arguments, read.
-/
import Derived.Test.YtkcbmkoafmffoaaDoorKH
import Derived.Test.YtkcbmkoafmffoaaDoorKI
import Derived.Test.YtkcbmkoafmffoaaDoorRows
import Derived.ProofKit
import Derived.LaidMore
import Derived.OpenShut
import Derived.Stop.Joined
import Derived.Stop.LaidErr
import Derived.Lib.LaidTab
import Derived.Lib.SmallJoins
import Derived.MakeChecks
import Derived.Deep.Slices
import Derived.Deep.Strs
set_option linter.unusedVariables false
set_option linter.unusedSimpArgs false
namespace Go.Proofs.YtkcbmkoafmffoaaDoor
open Go.ChangeShapes Go.WideShapes Go.ChangeAt Go.RowKit

theorem Tryd.own : ownKnob Tryd.prog.godebug = none := by kernel_rfl
theorem Tryd.laidOut : laidOutB Tryd.prog = true := by kernel_rfl
theorem cellsV : Tryd.prog.cellsOf 35 = 4 := by kernel_rfl
theorem cellsH : Tryd.prog.cellsOf 33 = 2 := by kernel_rfl
theorem cellsVK : Tryd.prog.cellsOf 30 = 1 := by kernel_rfl
theorem cellsHK : Tryd.prog.cellsOf 31 = 1 := by kernel_rfl
theorem cellsCK : Tryd.prog.cellsOf 23 = 1 := by kernel_rfl
theorem cellsS : Tryd.prog.cellsOf 29 = 6 := by kernel_rfl
theorem cellsC : Tryd.prog.cellsOf 27 = 4 := by kernel_rfl
theorem cellsF : Tryd.prog.cellsOf 83 = 6 := by kernel_rfl
theorem cellsSt : Tryd.prog.cellsOf 81 = 5 := by kernel_rfl
theorem cells3 : Tryd.prog.cellsOf 3 = 1 := by kernel_rfl
theorem cells4 : Tryd.prog.cellsOf 4 = 1 := by kernel_rfl
theorem cellsHs : Tryd.prog.cellsOf 22 = 1 := by kernel_rfl
theorem cellsVs : Tryd.prog.cellsOf 24 = 1 := by kernel_rfl
theorem cellsFs : Tryd.prog.cellsOf 25 = 1 := by kernel_rfl

theorem i64_wf {n : Int} (h : (Lit.int .i64 n).wf = true) : Go.Eng.i64ok n := by
  have h : (decide (IntKind.i64.min ≤ n) && decide (n ≤ IntKind.i64.max)) = true := h
  simp only [Bool.and_eq_true, decide_eq_true_eq] at h
  have h1 : (-9223372036854775808 : Int) ≤ n := h.1
  have h2 : n ≤ (9223372036854775807 : Int) := h.2
  exact Go.Eng.i64ok_of h1 h2

section readers
variable {H : Type} {enc : TypeId × Value → H} {W : World} {base : Nat} {sp : Nat → Bool} {hd : Bool}

theorem open_hp {n : Nat} {cs : List Value} {y : DataW H × List MemPlace} (h : DataW.trod enc Tryd.prog W base sp hd n 33 cs = some y) : ∃ x : Hp, cs = x.cs ∧ Go.Eng.i64ok x.n := by
  obtain ⟨z0, z1, n2, _, hl, k0, k1⟩ := trod_struct2 Tryd.underlying33 h
  rw [cellsH] at hl
  simp only at k0 k1
  rw [cellsHK] at k0
  rw [cells3] at k1
  match cs, hl with
  | [c0, c1], _ =>
    simp only [List.drop_zero, List.drop_succ_cons, List.take_succ_cons, List.take_zero] at k0 k1
    obtain ⟨c, e2, _, _⟩ := DataW.trod_int Tryd.underlying31 k0
    obtain ⟨d, e3, _, wf⟩ := DataW.trod_int Tryd.underlying3 k1
    simp only [List.cons.injEq, and_true] at e2 e3
    subst e2 e3
    exact ⟨⟨c, d⟩, rfl, i64_wf wf⟩
theorem open_vl {n : Nat} {cs : List Value} {y : DataW H × List MemPlace} (h : DataW.trod enc Tryd.prog W base sp hd n 35 cs = some y) : ∃ x : Vl, cs = x.cs ∧ Go.Eng.i64ok x.h.n := by
  obtain ⟨y0, y1, y2, n', _, hl, h0, h1, h2⟩ := Go.Deep.trod_struct3 Tryd.underlying35 h
  rw [cellsV] at hl
  simp only at h0 h1 h2
  rw [cellsVK] at h0
  rw [cells4] at h1
  rw [cellsH] at h2
  match cs, hl with
  | [c0, c1, c2, c3], _ =>
    simp only [List.drop_zero, List.drop_succ_cons, List.take_succ_cons, List.take_zero] at h0 h1 h2
    obtain ⟨a, e0, _, _⟩ := DataW.trod_int Tryd.underlying30 h0
    obtain ⟨b, e1, _⟩ := DataW.trod_bool Tryd.underlying4 h1
    obtain ⟨⟨c, d⟩, e2, wf⟩ := open_hp h2
    simp only [Hp.cs, List.cons.injEq, and_true] at e0 e1 e2
    obtain ⟨e2, e3⟩ := e2
    subst e0 e1 e2 e3
    exact ⟨⟨a, b, c, d⟩, rfl, wf⟩
theorem open_fd {n : Nat} {cs : List Value} {y : DataW H × List MemPlace} (h : DataW.trod enc Tryd.prog W base sp hd n 83 cs = some y) : ∃ x : Fd, cs = x.cs ∧ x.ok := by
  obtain ⟨y0, y1, n', _, hl, h0, h1⟩ := trod_struct2 Tryd.underlying83 h
  rw [cellsF] at hl
  simp only at h0 h1
  rw [cellsSt] at h0
  rw [cells4] at h1
  match cs, hl with
  | [c0, c1, c2, c3, c4, c5], _ =>
    simp only [List.drop_zero, List.drop_succ_cons, List.take_succ_cons, List.take_zero] at h0 h1
    obtain ⟨z0, z1, n2, _, _, k0, k1⟩ := trod_struct2 Tryd.underlying81 h0
    simp only at k0 k1
    rw [cells3] at k0
    rw [cellsV] at k1
    simp only [List.drop_zero, List.drop_succ_cons, List.take_succ_cons, List.take_zero] at k0 k1
    obtain ⟨a, e0, _, wa⟩ := DataW.trod_int Tryd.underlying3 k0
    obtain ⟨⟨b, c, d, e⟩, e1, wf⟩ := open_vl k1
    obtain ⟨m, e2, _⟩ := DataW.trod_bool Tryd.underlying4 h1
    simp only [Vl.cs, List.cons.injEq, and_true] at e0 e1 e2
    obtain ⟨e1, e3, e4, e5⟩ := e1
    subst e0 e1 e2 e3 e4 e5
    exact ⟨⟨a, ⟨b, c, d, e⟩, m⟩, rfl, ⟨i64_wf wa, fun _ => wf⟩⟩

/-- A list that came in. -/
theorem open_list {α : Type} (f : α → List Value) (s : Nat) (hs : ∀ x, (f x).length = s) (h0 : 0 < s) (good : α → Prop) (a0 : α) {T E : TypeId} (hu : Tryd.prog.underlying T = some (.slice E)) (hc : Tryd.prog.cellsOf E = s)
    (read : ∀ (n : Nat) (cs : List Value) (y : DataW H × List MemPlace), DataW.trod enc Tryd.prog W base sp hd n E cs = some y → ∃ x, cs = f x ∧ good x)
    {fuel : Nat} {cs : List Value} {y : DataW H × List MemPlace} (h : DataW.trod enc Tryd.prog W base sp hd fuel T cs = some y) :
    ∃ (A : Option Addr) (c : Nat) (l : List α), cs = [.slice A l.length c] ∧ Cs (· < W.heap.size) W A (l.flatMap f) ∧ (A = none → l = []) ∧ ∀ x ∈ l, good x := by
  rcases Go.Deep.open_slice hu h with ⟨hcs, _⟩ | ⟨a, len, cap, m, n, D, Pl, hcs, hb, hl, hm, hmm, hx, hel⟩
  · exact ⟨none, 0, [], hcs, .inl rfl, fun _ => rfl, fun _ h => by cases h⟩
  · rw [hc] at hel
    have hlm : len ≤ m := by rw [hmm]; split <;> omega
    have hex : ∀ i, i < len → ∃ x : α, W.cells? base (a.add (i * s)) s = some (f x) ∧ good x := by
      intro i hi
      obtain ⟨cs', h1, h2⟩ := hel i (by omega)
      obtain ⟨x, rfl, g⟩ := read _ _ _ h2
      exact ⟨x, h1, g⟩
    have : Inhabited α := ⟨a0⟩
    obtain ⟨g, hg⟩ := Go.Deep.choose_lt hex
    refine ⟨some a, cap, (List.range len).map g, by simpa using hcs, ?_, (fun h => by cases h), fun x hx => ?_⟩
    · by_cases hl0 : len = 0
      · subst hl0; exact .inl rfl
      right
      have hcell : ∀ i j, i < len → j < s → W.cell? (a.add (i * s + j)) = (f (g i))[j]? := by
        intro i j hi hj
        have := (World.cells?_some (hg i hi).1).2.2 j hj
        rw [Go.Eng.add_add] at this
        exact this
      have hlen : (((List.range len).map g).flatMap f).length = len * s := by rw [flat_length hs]; simp
      have hdm : ∀ q, q / s * s + q % s = q := fun q => by rw [Nat.mul_comm]; exact Nat.div_add_mod q s
      have hdl : ∀ q, q < len * s → q / s < len := fun q hq => Nat.div_lt_of_lt_mul (by rw [Nat.mul_comm]; exact hq)
      have hget : ∀ q, q < len * s → (((List.range len).map g).flatMap f)[q]? = W.cell? (a.add q) := by
        intro q hq
        have := flat_get hs ((List.range len).map g) (q / s) (by simpa using hdl q hq) (q % s) (Nat.mod_lt _ h0)
        rw [hdm] at this
        rw [this]
        simp only [List.getElem_map, List.getElem_range]
        have h2 := hcell (q / s) (q % s) (hdl q hq) (Nat.mod_lt _ h0)
        rw [hdm] at h2
        exact h2.symm
      refine ⟨⟨a, rfl, (by have := World.cells?_block (hg 0 (by omega)).1 h0; rw [Go.Eng.add_block] at this; exact this), fun j hj => ?_⟩, fun i u hu => ?_⟩
      · rw [hlen] at hj
        rw [Nat.zero_add]
        rw [← hget j hj]
        rw [List.getElem?_eq_getElem (by rw [hlen]; exact hj)]; rfl
      · have hi : i < len * s := by
          have := (List.getElem?_eq_some_iff.1 hu).1
          rw [hlen] at this
          exact this
        rw [hget i hi] at hu
        show ((some a).bind fun ad => W.cell? (ad.add i)).getD undef = u
        simp [hu]
    · obtain ⟨i, hi, rfl⟩ := List.mem_map.1 hx
      exact (hg i (List.mem_range.1 hi)).2

theorem open_hps {fuel : Nat} {cs : List Value} {y : DataW H × List MemPlace} (h : DataW.trod enc Tryd.prog W base sp hd fuel 22 cs = some y) :
    ∃ (A : Option Addr) (c : Nat) (l : List Hp), cs = [.slice A l.length c] ∧ Cs (· < W.heap.size) W A (hcs l) ∧ (A = none → l = []) ∧ ∀ x ∈ l, Go.Eng.i64ok x.n :=
  open_list Hp.cs 2 Hp.len (by decide) (fun x => Go.Eng.i64ok x.n) ⟨0, 0⟩ Tryd.underlying22 cellsH (fun _ _ _ h => open_hp h) h
theorem open_vls {fuel : Nat} {cs : List Value} {y : DataW H × List MemPlace} (h : DataW.trod enc Tryd.prog W base sp hd fuel 24 cs = some y) :
    ∃ (A : Option Addr) (c : Nat) (l : List Vl), cs = [.slice A l.length c] ∧ Cs (· < W.heap.size) W A (vcs l) ∧ (A = none → l = []) ∧ ∀ x ∈ l, Go.Eng.i64ok x.h.n :=
  open_list Vl.cs 4 Vl.len (by decide) (fun x => Go.Eng.i64ok x.h.n) ⟨0, false, ⟨0, 0⟩⟩ Tryd.underlying24 cellsV (fun _ _ _ h => open_vl h) h
theorem open_fds {fuel : Nat} {cs : List Value} {y : DataW H × List MemPlace} (h : DataW.trod enc Tryd.prog W base sp hd fuel 25 cs = some y) :
    ∃ (A : Option Addr) (c : Nat) (l : List Fd), cs = [.slice A l.length c] ∧ Cs (· < W.heap.size) W A (fcs l) ∧ (A = none → l = []) ∧ ∀ x ∈ l, x.ok :=
  open_list Fd.cs 6 Fd.len (by decide) Fd.ok ⟨0, ⟨0, false, ⟨0, 0⟩⟩, false⟩ Tryd.underlying25 cellsF (fun _ _ _ h => open_fd h) h

theorem open_sb {n : Nat} {cs : List Value} {y : DataW H × List MemPlace} (h : DataW.trod enc Tryd.prog W base sp hd n 29 cs = some y) : ∃ (s : Sb) (x : SL), cs = s.cs x ∧ s.ok ∧ SbR (· < W.heap.size) W s x := by
  obtain ⟨y0, y1, y2, n', _, hl, h0, h1, h2⟩ := Go.Deep.trod_struct3 Tryd.underlying29 h
  rw [cellsS] at hl
  simp only at h0 h1 h2
  rw [cells4] at h0
  rw [cellsHs] at h1
  rw [cellsC] at h2
  match cs, hl with
  | [c0, c1, c2, c3, c4, c5], _ =>
    simp only [List.drop_zero, List.drop_succ_cons, List.take_succ_cons, List.take_zero] at h0 h1 h2
    obtain ⟨f, e0, _⟩ := DataW.trod_bool Tryd.underlying4 h0
    obtain ⟨A1, d1, l1, e1, r1, n1, g1⟩ := open_hps h1
    obtain ⟨z0, z1, z2, z3, n2, _, _, k0, k1, k2, k3⟩ := Go.Joins.trod_struct4 Tryd.underlying27 h2
    simp only at k0 k1 k2 k3
    rw [cellsCK] at k0
    rw [cellsVs] at k1 k2
    rw [cellsFs] at k3
    simp only [List.drop_zero, List.drop_succ_cons, List.take_succ_cons, List.take_zero] at k0 k1 k2 k3
    obtain ⟨k, e2, _, _⟩ := DataW.trod_int Tryd.underlying23 k0
    obtain ⟨A2, d2, l2, e3, r2, n2, g2⟩ := open_vls k1
    obtain ⟨A3, d3, l3, e4, r3, n3, g3⟩ := open_vls k2
    obtain ⟨A4, d4, l4, e5, r4, n4, g4⟩ := open_fds k3
    simp only [List.cons.injEq, and_true] at e0 e1 e2 e3 e4 e5
    subst e0 e1 e2 e3 e4 e5
    exact ⟨⟨f, l1, k, l2, l3, l4⟩, ⟨A1, d1, A2, d2, A3, d3, A4, d4⟩, rfl, ⟨g1, fun v hv _ => g2 v hv, fun v hv _ => g3 v hv, g4⟩, ⟨r1, r2, r3, r4, n1, n2, n3, n4⟩⟩
end readers
end Go.Proofs.YtkcbmkoafmffoaaDoor
