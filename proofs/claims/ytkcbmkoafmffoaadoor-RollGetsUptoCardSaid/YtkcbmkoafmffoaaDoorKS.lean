/-
  The kind layer: what comes in as arguments, read, with bounds on its sizes.
-/
import Derived.Test.YtkcbmkoafmffoaaDoorKR
set_option linter.unusedVariables false
set_option linter.unusedSimpArgs false
namespace Go.Proofs.YtkcbmkoafmffoaaDoor
open Go.ChangeShapes Go.WideShapes Go.ChangeAt Go.RowKit

section bulk
variable {H : Type}
theorem bulk_one (d : DataW H) : 1 ≤ Rows.uptoBulk d := by
  cases d with
  | lit l => cases l <;> simp [Rows.uptoBulk]
  | nil => simp [Rows.uptoBulk]
  | ptr d => simp [Rows.uptoBulk]
  | slice e s => simp [Rows.uptoBulk]
  | agg p => simp [Rows.uptoBulk]
  | iface n d => simp [Rows.uptoBulk]
  | map e => simp [Rows.uptoBulk]
  | held h => simp [Rows.uptoBulk]
theorem bulk_part {d : DataW H} : ∀ {l : List (DataW H)}, d ∈ l → Rows.uptoBulk d ≤ Rows.uptoBulkAll l
  | e :: l, h => by
    rw [Rows.uptoBulkAll]
    rcases List.mem_cons.1 h with rfl | h
    · omega
    · have := bulk_part h; omega
theorem bulk_length : ∀ (l : List (DataW H)), l.length ≤ Rows.uptoBulkAll l
  | [] => by simp [Rows.uptoBulkAll]
  | d :: l => by
    rw [Rows.uptoBulkAll, List.length_cons]
    have := bulk_length l
    have := bulk_one d
    omega
theorem bulk_slice (e s : List (DataW H)) : Rows.uptoBulkAll e ≤ Rows.uptoBulk (.slice e s) := by rw [Rows.uptoBulk]; omega
theorem bulk_agg {d : DataW H} {l : List (DataW H)} (h : d ∈ l) : Rows.uptoBulk d ≤ Rows.uptoBulk (.agg l) := by rw [Rows.uptoBulk]; have := bulk_part h; omega
end bulk

section readers
variable {H : Type} {enc : TypeId × Value → H} {W : World} {base : Nat} {sp : Nat → Bool} {hd : Bool}
/-- A list that came in, with its size. -/
theorem open_listB {α : Type} (f : α → List Value) (s : Nat) (hs : ∀ x, (f x).length = s) (h0 : 0 < s) (good : α → Nat → Prop) (mono : ∀ x n m, n ≤ m → good x n → good x m) (a0 : α) {T E : TypeId} (hu : Tryd.prog.underlying T = some (.slice E)) (hc : Tryd.prog.cellsOf E = s)
    (read : ∀ (n : Nat) (cs : List Value) (y : DataW H × List MemPlace), DataW.trod enc Tryd.prog W base sp hd n E cs = some y → ∃ x, cs = f x ∧ good x (Rows.uptoBulk y.1))
    {fuel : Nat} {cs : List Value} {y : DataW H × List MemPlace} (h : DataW.trod enc Tryd.prog W base sp hd fuel T cs = some y) :
    ∃ (A : Option Addr) (c : Nat) (l : List α), cs = [.slice A l.length c] ∧ Cs (· < W.heap.size) W A (l.flatMap f) ∧ (A = none → l = []) ∧ (∀ x ∈ l, good x (Rows.uptoBulk y.1)) ∧ l.length ≤ Rows.uptoBulk y.1 := by
  rcases Go.Deep.open_slice hu h with ⟨hcs, _⟩ | ⟨a, len, cap, m, n, D, Pl, hcs, hb, hl, hm, hmm, hx, hel⟩
  · exact ⟨none, 0, [], hcs, .inl rfl, fun _ => rfl, (fun _ h => by cases h), by simp⟩
  · rw [hc] at hel
    have hlm : len ≤ m := by rw [hmm]; split <;> omega
    have hex : ∀ i, i < len → ∃ x : α, W.cells? base (a.add (i * s)) s = some (f x) ∧ good x (Rows.uptoBulk (D i)) := by
      intro i hi
      obtain ⟨cs', h1, h2⟩ := hel i (by omega)
      obtain ⟨x, rfl, g⟩ := read _ _ _ h2
      exact ⟨x, h1, g⟩
    have : Inhabited α := ⟨a0⟩
    obtain ⟨g, hg⟩ := Go.Deep.choose_lt hex
    have hy : y.1 = .slice ((List.range len).map D) ((List.range (m - len)).map fun j => D (len + j)) := by rw [hx]
    have hyb : Rows.uptoBulkAll ((List.range len).map D) ≤ Rows.uptoBulk y.1 := by rw [hy]; exact bulk_slice _ _
    refine ⟨some a, cap, (List.range len).map g, by simpa using hcs, ?_, (fun h => by cases h), fun x hx => ?_, ?_⟩
    · by_cases hl0 : len = 0
      · subst hl0; exact .inl rfl
      right
      have hcell : ∀ i j, i < len → j < s → W.cell? (a.add (i * s + j)) = (f (g i))[j]? := by
        intro i j hi hj
        have := (World.cells?_some (hg i hi).1).2.2 j hj
        rw [Go.Eng.add_add] at this
        exact this
      have hlen : (((List.range len).map g).flatMap f).length = len * s := by rw [flat_length hs]; simp
      have hdm : ∀ q, q / s * s + q % s = q := fun q => by rw [Nat.mul_comm]; exact Nat.div_add_mod q s
      have hdl : ∀ q, q < len * s → q / s < len := fun q hq => Nat.div_lt_of_lt_mul (by rw [Nat.mul_comm]; exact hq)
      have hget : ∀ q, q < len * s → (((List.range len).map g).flatMap f)[q]? = W.cell? (a.add q) := by
        intro q hq
        have := flat_get hs ((List.range len).map g) (q / s) (by simpa using hdl q hq) (q % s) (Nat.mod_lt _ h0)
        rw [hdm] at this
        rw [this]
        simp only [List.getElem_map, List.getElem_range]
        have h2 := hcell (q / s) (q % s) (hdl q hq) (Nat.mod_lt _ h0)
        rw [hdm] at h2
        exact h2.symm
      refine ⟨⟨a, rfl, (by have := World.cells?_block (hg 0 (by omega)).1 h0; rw [Go.Eng.add_block] at this; exact this), fun j hj => ?_⟩, fun i u hu => ?_⟩
      · rw [hlen] at hj
        rw [Nat.zero_add]
        rw [← hget j hj]
        rw [List.getElem?_eq_getElem (by rw [hlen]; exact hj)]; rfl
      · have hi : i < len * s := by
          have := (List.getElem?_eq_some_iff.1 hu).1
          rw [hlen] at this
          exact this
        rw [hget i hi] at hu
        show ((some a).bind fun ad => W.cell? (ad.add i)).getD undef = u
        simp [hu]
    · obtain ⟨i, hi, rfl⟩ := List.mem_map.1 hx
      have hil := List.mem_range.1 hi
      refine mono _ _ _ (Nat.le_trans (bulk_part ?_) hyb) (hg i hil).2
      exact List.mem_map.2 ⟨i, hi, rfl⟩
    · have := bulk_length ((List.range len).map D)
      simp only [List.length_map, List.length_range] at this ⊢
      omega

/-- A declared type that came in, with its sizes. -/
theorem open_sbB {n : Nat} {cs : List Value} {y : DataW H × List MemPlace} (h : DataW.trod enc Tryd.prog W base sp hd n 29 cs = some y) : ∃ (s : Sb) (x : SL), cs = s.cs x ∧ s.ok ∧ SbR (· < W.heap.size) W s x ∧ s.small (Rows.uptoBulk y.1) := by
  obtain ⟨y0, y1, y2, n', hy, hl, h0, h1, h2⟩ := Go.Deep.trod_struct3 Tryd.underlying29 h
  rw [cellsS] at hl
  simp only at h0 h1 h2
  rw [cells4] at h0
  rw [cellsHs] at h1
  rw [cellsC] at h2
  match cs, hl with
  | [c0, c1, c2, c3, c4, c5], _ =>
    simp only [List.drop_zero, List.drop_succ_cons, List.take_succ_cons, List.take_zero] at h0 h1 h2
    obtain ⟨f, e0, _⟩ := DataW.trod_bool Tryd.underlying4 h0
    obtain ⟨A1, d1, l1, e1, r1, n1, g1, b1⟩ := open_listB Hp.cs 2 Hp.len (by decide) (fun x _ => Go.Eng.i64ok x.n) (fun _ _ _ _ h => h) ⟨0, 0⟩ Tryd.underlying22 cellsH (fun _ _ _ h => open_hp h) h1
    obtain ⟨z0, z1, z2, z3, n2, hz, _, k0, k1, k2, k3⟩ := Go.Joins.trod_struct4 Tryd.underlying27 h2
    simp only at k0 k1 k2 k3
    rw [cellsCK] at k0
    rw [cellsVs] at k1 k2
    rw [cellsFs] at k3
    simp only [List.drop_zero, List.drop_succ_cons, List.take_succ_cons, List.take_zero] at k0 k1 k2 k3
    obtain ⟨k, e2, _, _⟩ := DataW.trod_int Tryd.underlying23 k0
    obtain ⟨A2, d2, l2, e3, r2, n2, g2, b2⟩ := open_listB Vl.cs 4 Vl.len (by decide) (fun x _ => Go.Eng.i64ok x.h.n) (fun _ _ _ _ h => h) ⟨0, false, ⟨0, 0⟩⟩ Tryd.underlying24 cellsV (fun _ _ _ h => open_vl h) k1
    obtain ⟨A3, d3, l3, e4, r3, n3, g3, b3⟩ := open_listB Vl.cs 4 Vl.len (by decide) (fun x _ => Go.Eng.i64ok x.h.n) (fun _ _ _ _ h => h) ⟨0, false, ⟨0, 0⟩⟩ Tryd.underlying24 cellsV (fun _ _ _ h => open_vl h) k2
    obtain ⟨A4, d4, l4, e5, r4, n4, g4, b4⟩ := open_listB Fd.cs 6 Fd.len (by decide) (fun x _ => x.ok) (fun _ _ _ _ h => h) ⟨0, ⟨0, false, ⟨0, 0⟩⟩, false⟩ Tryd.underlying25 cellsF (fun _ _ _ h => open_fd h) k3
    simp only [List.cons.injEq, and_true] at e0 e1 e2 e3 e4 e5
    subst e0 e1 e2 e3 e4 e5
    have q1 : Rows.uptoBulk y1.1 ≤ Rows.uptoBulk y.1 := by rw [hy]; exact bulk_agg (by simp)
    have q2 : Rows.uptoBulk y2.1 ≤ Rows.uptoBulk y.1 := by rw [hy]; exact bulk_agg (by simp)
    have p1 : Rows.uptoBulk z1.1 ≤ Rows.uptoBulk y2.1 := by rw [hz]; exact bulk_agg (by simp)
    have p2 : Rows.uptoBulk z2.1 ≤ Rows.uptoBulk y2.1 := by rw [hz]; exact bulk_agg (by simp)
    have p3 : Rows.uptoBulk z3.1 ≤ Rows.uptoBulk y2.1 := by rw [hz]; exact bulk_agg (by simp)
    exact ⟨⟨f, l1, k, l2, l3, l4⟩, ⟨A1, d1, A2, d2, A3, d3, A4, d4⟩, rfl, ⟨g1, fun v hv _ => g2 v hv, fun v hv _ => g3 v hv, g4⟩, ⟨r1, r2, r3, r4, n1, n2, n3, n4⟩, ⟨by simp only; omega, by simp only; omega, by simp only; omega, by simp only; omega⟩⟩
end readers
end Go.Proofs.YtkcbmkoafmffoaaDoor
