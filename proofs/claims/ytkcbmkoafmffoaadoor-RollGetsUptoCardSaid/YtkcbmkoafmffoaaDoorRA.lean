/-
  The roll layer: how a table lies in memory; opened and closed.
-/
import Derived.Test.YtkcbmkoafmffoaaDoorKI
import Derived.Test.YtkcbmkoafmffoaaDoorKG
import Derived.Test.YtkcbmkoafmffoaaDoorRJ
import Derived.Maps.Own
import Derived.Maps.OwnSet
import Derived.StringKeys
set_option linter.unusedVariables false
set_option linter.unusedSimpArgs false
set_option maxRecDepth 20000
set_option maxHeartbeats 8000000
namespace Go.Proofs.YtkcbmkoafmffoaaDoor
open Go Go.Eng

/-! ### lists of declared types, of entries, of numbers -/
def pcs (p : Sb × SL) : List Value := p.1.cs p.2
def gcs (l : List (Sb × SL)) : List Value := l.flatMap pcs
def e2cs (e : Int × Int) : List Value := [.int .i64 e.1, .int .i64 e.2]
def ecs (l : List (Int × Int)) : List Value := l.flatMap e2cs
def i1cs (n : Int) : List Value := [.int .i64 n]
def ics (l : List Int) : List Value := l.flatMap i1cs
theorem pcs_len (p : Sb × SL) : (pcs p).length = 6 := rfl
theorem e2_len (p : Int × Int) : (e2cs p).length = 2 := rfl
theorem i1_len (p : Int) : (i1cs p).length = 1 := rfl
theorem gcs_len (l : List (Sb × SL)) : (gcs l).length = l.length * 6 := flat_length pcs_len l
theorem ecs_len (l : List (Int × Int)) : (ecs l).length = l.length * 2 := flat_length e2_len l
theorem ics_len (l : List Int) : (ics l).length = l.length * 1 := flat_length i1_len l
theorem pcs_one (p : Sb × SL) : ∀ u ∈ pcs p, u.oneCell' = true := by
  intro u hu
  simp only [pcs, Sb.cs, List.mem_cons, List.not_mem_nil, or_false] at hu
  rcases hu with rfl | rfl | rfl | rfl | rfl | rfl <;> rfl
theorem e2_one (p : Int × Int) : ∀ u ∈ e2cs p, u.oneCell' = true := by
  intro u hu
  simp only [e2cs, List.mem_cons, List.not_mem_nil, or_false] at hu
  rcases hu with rfl | rfl <;> rfl
theorem i1_one (p : Int) : ∀ u ∈ i1cs p, u.oneCell' = true := by
  intro u hu
  simp only [i1cs, List.mem_cons, List.not_mem_nil, or_false] at hu
  rcases hu with rfl; rfl
theorem gcs_at {G : Nat → Prop} {W : World} {A : Option Addr} {l : List (Sb × SL)} (h : Cs G W A (gcs l)) (k : Nat) (hk : k < l.length) :
    okRd G W (pAdd A (k * 6)) 0 6 ∧ rd W (pAdd A (k * 6)) 0 = .bool l[k].1.fin ∧ rd W (pAdd A (k * 6)) 1 = .slice l[k].2.a1 l[k].1.su.length l[k].2.c1 ∧ rd W (pAdd A (k * 6)) 2 = .int .i64 l[k].1.k ∧ rd W (pAdd A (k * 6)) 3 = .slice l[k].2.a2 l[k].1.ps.length l[k].2.c2 ∧ rd W (pAdd A (k * 6)) 4 = .slice l[k].2.a3 l[k].1.rs.length l[k].2.c3 ∧ rd W (pAdd A (k * 6)) 5 = .slice l[k].2.a4 l[k].1.fs.length l[k].2.c4 := by
  obtain ⟨a, b⟩ := h.at (i := k * 6) (n := 6) (by omega) (by rw [gcs_len]; omega)
  have g := fun j hj => flat_get pcs_len l k hk j hj
  exact ⟨a, b 0 _ (g 0 (by omega)), b 1 _ (g 1 (by omega)), b 2 _ (g 2 (by omega)), b 3 _ (g 3 (by omega)), b 4 _ (g 4 (by omega)), b 5 _ (g 5 (by omega))⟩
theorem ics_at {G : Nat → Prop} {W : World} {A : Option Addr} {l : List Int} (h : Cs G W A (ics l)) (k : Nat) (hk : k < l.length) :
    okRd G W (pAdd A (k * 1)) 0 1 ∧ rd W (pAdd A (k * 1)) 0 = .int .i64 l[k] := by
  obtain ⟨a, b⟩ := h.at (i := k * 1) (n := 1) (by omega) (by rw [ics_len]; omega)
  have g := fun j hj => flat_get i1_len l k hk j hj
  exact ⟨a, b 0 _ (g 0 (by omega))⟩
theorem ecs_at {G : Nat → Prop} {W : World} {A : Option Addr} {l : List (Int × Int)} (h : Cs G W A (ecs l)) (k : Nat) (hk : k < l.length) :
    okRd G W (pAdd A (k * 2)) 0 2 ∧ rd W (pAdd A (k * 2)) 0 = .int .i64 l[k].1 ∧ rd W (pAdd A (k * 2)) 1 = .int .i64 l[k].2 := by
  obtain ⟨a, b⟩ := h.at (i := k * 2) (n := 2) (by omega) (by rw [ecs_len]; omega)
  have g := fun j hj => flat_get e2_len l k hk j hj
  exact ⟨a, b 0 _ (g 0 (by omega)), b 1 _ (g 1 (by omega))⟩
/-- The lists of all these types can be read. -/
def GrR (G : Nat → Prop) (W : World) (l : List (Sb × SL)) : Prop := ∀ p ∈ l, SbR G W p.1 p.2
theorem GrR.keep {G : Nat → Prop} {W w : World} {l : List (Sb × SL)} (h : GrR G W l) (hk : Keep G W w) : GrR G w l := fun p hp => (h p hp).keep hk
theorem GrR.mono {G G' : Nat → Prop} {W : World} {l : List (Sb × SL)} (h : GrR G W l) (hg : ∀ b, G b → G' b) : GrR G' W l := fun p hp => (h p hp).mono hg
theorem GrR.ext {w w' : World} {l : List (Sb × SL)} (h : GrR (· < w.heap.size) w l) (hE : Ext w w') : GrR (· < w'.heap.size) w' l := fun p hp => (h p hp).ext hE
theorem GrR.loc {O : Nat → Prop} {w w' : World} {l : List (Sb × SL)} (h : GrR O w l) (hw : ∀ b, O b → w'.heap[b]? = w.heap[b]?) : GrR O w' l := fun p hp => (h p hp).loc hw
theorem GrR.app {O : Nat → Prop} {w : World} {l m : List (Sb × SL)} (h : GrR O w l) (h' : GrR O w m) : GrR O w (l ++ m) := fun p hp => (List.mem_append.1 hp).elim (h p) (h' p)

/-! ### the map -/
/-- An entry, as a map's element is read. -/
def entR (v : Value) : Option (DataW Unit × List MemPlace) :=
  match v with
  | .agg cs => match cs.toList with
    | [.int .i64 a, .int .i64 b] => some (.agg [.lit (.int .i64 a), .lit (.int .i64 b)], [])
    | _ => none
  | _ => none
def entV (e : Int × Int) : Value := .agg #[.int .i64 e.1, .int .i64 e.2]
def entD (e : Int × Int) : DataW Unit := .agg [.lit (.int .i64 e.1), .lit (.int .i64 e.2)]
theorem entR_mk (e : Int × Int) : entR (entV e) = some (entD e, []) := rfl
theorem entR_inv {v : Value} {e : Int × Int} {ps : List MemPlace} (h : entR v = some (entD e, ps)) : v = entV e := by
  cases v with
  | agg cs =>
    obtain ⟨cs⟩ := cs
    unfold entR at h
    simp only at h
    split at h
    · rename_i a b
      simp only [entD, Option.some.injEq, Prod.mk.injEq, DataW.agg.injEq, List.cons.injEq, DataW.lit.injEq, Lit.int.injEq, true_and, and_true] at h
      rw [entV, ← h.1.1, ← h.1.2]
    · cases h
  | _ => cases h
def keyL (k : ByteArray) : Lit := .string k.data.toList
/-- Block b is a map of at most n entries, which has just these. -/
def MapOk (w : World) (b : Nat) (n : Nat) (mp : ByteArray → Option (Int × Int)) : Prop :=
  ∃ D : DataW Unit, w.ownsMap Tryd.prog 9 entR b n D ∧ Maps.IsMap D ∧ ∀ k, Maps.has D (keyL k) = (mp k).isSome ∧ D.atKey (keyL k) (entD (0, 0)) = entD ((mp k).getD (0, 0))
theorem MapOk.loc {w w' : World} {b n : Nat} {mp : ByteArray → Option (Int × Int)} (h : MapOk w b n mp) (hw : w'.heap[b]? = w.heap[b]?) : MapOk w' b n mp := by
  obtain ⟨D, ⟨es, clock, h1, h2, h3, h4⟩, h5⟩ := h
  exact ⟨D, ⟨es, clock, by rw [hw]; exact h1, h2, h3, h4⟩, h5⟩
theorem keyL_inj {k l : ByteArray} (h : keyL k = keyL l) : k = l := by
  obtain ⟨⟨k⟩⟩ := k
  obtain ⟨⟨l⟩⟩ := l
  simp only [keyL, Lit.string.injEq] at h
  rw [h]
theorem keyed9 : Maps.Keyed Tryd.prog 9 := Maps.Keyed.of_law (Go.WideMaps.string_law Tryd.underlying9)
theorem mapLook_run {w : World} {b n : Nat} {mp : ByteArray → Option (Int × Int)} (h : MapOk w b n mp) (k : ByteArray) (hk : k.size ≤ maxLen) :
    (Instr.lookup 75 (.map (some b)) (.string k) true).run Tryd.prog w = .ok (.tuple #[entV ((mp k).getD (0, 0)), .bool (mp k).isSome]) w := by
  obtain ⟨D, h1, h2, h3⟩ := h
  obtain ⟨v, ps, hr, hv⟩ := h1.look_ok (t := 75) (e := 103) keyed9 (by kernel_rfl) (z := entV (0, 0)) (by kernel_rfl) (entR_mk (0, 0)) (Go.WideMaps.keyOf_string_mk (s := k) Tryd.underlying9 hk)
  rw [hr]
  have := h3 k
  unfold keyL at this
  rw [this.2] at hv
  rw [this.1, entR_inv hv]
theorem mapPut_run {w : World} {b n : Nat} {mp : ByteArray → Option (Int × Int)} (h : MapOk w b n mp) (k : ByteArray) (hk : k.size ≤ maxLen) (e : Int × Int) (hn : n < maxLen) :
    ∃ w', (Instr.mapUpdate 75 (.map (some b)) (.string k) (entV e)).run Tryd.prog w = .ok () w' ∧ MapOk w' b (n + 1) (fun l => if l = k then some e else mp l) ∧ w.grownBy w' (some b) := by
  obtain ⟨D, h1, h2, h3⟩ := h
  obtain ⟨w', hr, ho, hg⟩ := h1.update (t := 75) (e := 103) keyed9 (by kernel_rfl) hn (Go.WideMaps.keyOf_string_mk (s := k) Tryd.underlying9 hk) (entR_mk e)
  refine ⟨w', hr, ⟨_, ho, ?_, fun l => ?_⟩, hg⟩
  · obtain ⟨es, rfl⟩ := h2
    exact ⟨_, rfl⟩
  · by_cases hl : l = k
    · subst hl
      simp only [if_true]
      have hkl : WideAt.IsKeyLit (keyL l) := trivial
      exact ⟨Maps.has_put_same h2 hkl _, Maps.atKey_put_same h2 hkl _ _⟩
    · simp only [if_neg hl]
      have hne : keyL l ≠ .string k.data.toList := fun e => hl (keyL_inj e)
      rw [Maps.has_put_other hne, Maps.atKey_put_other hne]
      exact h3 l

/-! ### the table -/
structure TS where
  ts : List Sb
  es : List (Int × Int)
  mn : Nat
  mp : ByteArray → Option (Int × Int)
/-- Where a table's parts lie. -/
structure TD where
  l : List (Sb × SL)
  r1 : RowX
  r2 : RowX
  mb : Nat
structure TD.ok (s : TS) (d : TD) : Prop where
  ts : d.l.map (·.1) = s.ts
  f1 : FS0 6 d.l.length (gcs d.l) d.r1.nl d.r1.cap d.r1.cur
  f2 : FS0 2 s.es.length (ecs s.es) d.r2.nl d.r2.cap d.r2.cur
def MapA (mb n : Nat) (mp : ByteArray → Option (Int × Int)) : Asn := ⟨fun O _ w => O mb ∧ MapOk w mb n mp, fun h hw => ⟨h.1, h.2.loc (hw _ h.1)⟩⟩
def NstA (l : List (Sb × SL)) : Asn := ⟨fun O _ w => GrR O w l, fun h hw => h.loc hw⟩
def TD.e0 (s : TS) (d : TD) : Ent := .cells 77 [.v (.slice (sA d.r1.nl d.r1.b 0) d.l.length d.r1.cap), .v (.slice (sA d.r2.nl d.r2.b 0) s.es.length d.r2.cap), .v (.map (some d.mb))]
def TD.els (s : TS) (d : TD) : List Ent := [.asn (RowA d.r1.b d.r1.nl 29 d.r1.cur), .asn (RowA d.r2.b d.r2.nl 103 d.r2.cur), .asn (MapA d.mb s.mn s.mp), .asn (NstA d.l)]
def TabR (s : TS) (d : TD) (O : Nat → Prop) (p : Nat) (w : World) (ow : Nat → Nat → Prop) : Prop :=
  d.ok s ∧ (d.e0 s).ok [] p (ow 0) w ∧ (∀ (j : Nat) (e : Ent), (d.els s)[j]? = some e → e.ok [] 0 (ow (j + 1)) w) ∧ (∀ i j b, i ≠ j → ow i b → ow j b → False) ∧ ∀ i b, ow i b → O b
/-- A table stands so. -/
def TabA (s : TS) : Asn where
  R O p w := ∃ d ow, TabR s d O p w ow
  loc := by
    rintro O p w w' ⟨d, ow, h1, h2, h3, h4, h5⟩ hw
    exact ⟨d, ow, h1, Ent.ok_loc h2 fun b hb => hw b (h5 0 b hb), fun j e he => Ent.ok_loc (h3 j e he) fun b hb => hw b (h5 _ b hb), h4, h5⟩

section table
variable {P : Program} {Q : Pst} {G : Nat → Prop} {W : World}
/-- The table is opened. -/
theorem Res.topen {s : TS} {σ : St} {k : List It} (i : Nat) (hi : getE σ.L i = some (.asn (TabA s))) (h : ∀ d : TD, d.ok s → Res P Q G W { σ with L := setE σ.L i (d.e0 s) ++ d.els s } k) : Res P Q G W σ k := by
  refine Res.openA i (TabA s) hi (fun d : TD => d.ok s) (TD.e0 s) (TD.els s) (fun d => ⟨?_, ?_⟩) ?_ h
  · intro c hc
    simp at hc
    rcases hc with rfl | rfl | rfl <;> trivial
  · intro e he
    simp only [TD.els, List.mem_cons, List.not_mem_nil, or_false] at he
    rcases he with rfl | rfl | rfl | rfl <;> trivial
  · rintro ids O w hl ⟨d, ow, h1, h2, h3, h4, h5⟩ hO
    refine ⟨d, [0, 0, 0, 0], ow, h1, rfl, h2, fun j e he => ?_, h4, h5⟩
    match j, he with
    | 0, he => simp [TD.els] at he; subst he; exact h3 0 _ rfl
    | 1, he => simp [TD.els] at he; subst he; exact h3 1 _ rfl
    | 2, he => simp [TD.els] at he; subst he; exact h3 2 _ rfl
    | 3, he => simp [TD.els] at he; subst he; exact h3 3 _ rfl
/-- The parts make a table. -/
theorem tab_close {s : TS} {σ : St} {new : List Nat} {w : World} {own : Nat → Nat → Prop} {d : TD} (ho : HSo G W σ new w own) (hd : d.ok s) (i0 j1 j2 j3 : Nat) (J : List Nat) (hn : (i0 :: j1 :: j2 :: j3 :: J).Nodup)
    (h0 : σ.L[i0]? = some (d.e0 s)) (h1 : σ.L[j1]? = some (.asn (RowA d.r1.b d.r1.nl 29 d.r1.cur))) (h2 : σ.L[j2]? = some (.asn (RowA d.r2.b d.r2.nl 103 d.r2.cur))) (h3 : σ.L[j3]? = some (.asn (MapA d.mb s.mn s.mp)))
    (hN : GrR (fun b => ∃ r, r ∈ J ∧ r < σ.L.length ∧ own r b) w d.l) : (TabA s).R (fun b => ∃ r, r ∈ i0 :: j1 :: j2 :: j3 :: J ∧ r < σ.L.length ∧ own r b) ((σ.X ++ new).getD i0 0) w := by
  have l0 := (List.getElem?_eq_some_iff.1 h0).1
  have l1 := (List.getElem?_eq_some_iff.1 h1).1
  have l2 := (List.getElem?_eq_some_iff.1 h2).1
  have l3 := (List.getElem?_eq_some_iff.1 h3).1
  refine ⟨d, fun i b => match i with | 0 => own i0 b | 1 => own j1 b | 2 => own j2 b | 3 => own j3 b | 4 => ∃ r, r ∈ J ∧ r < σ.L.length ∧ own r b | _ => False, hd, ho.ok i0 _ h0, fun j e he => ?_, ?_, ?_⟩
  · match j, he with
    | 0, he => simp [TD.els] at he; subst he; exact ho.ok j1 _ h1
    | 1, he => simp [TD.els] at he; subst he; exact ho.ok j2 _ h2
    | 2, he => simp [TD.els] at he; subst he; exact ho.ok j3 _ h3
    | 3, he => simp [TD.els] at he; subst he; exact hN
  · simp only [List.nodup_cons, List.mem_cons, not_or] at hn
    obtain ⟨⟨n1, n2, n3, n4⟩, ⟨n5, n6, n7⟩, ⟨n8, n9⟩, n10, _⟩ := hn
    have ap := fun i j b (hi : i < σ.L.length) (hj : j < σ.L.length) (hij : i ≠ j) h1 h2 => ho.apart i j b hi hj hij h1 h2
    have apJ : ∀ i b, i < σ.L.length → i ∉ J → own i b → (∃ r, r ∈ J ∧ r < σ.L.length ∧ own r b) → False := by
      rintro i b hi hJ ha ⟨r, hr, hrl, hb⟩
      exact ap i r b hi hrl (fun e => hJ (e ▸ hr)) ha hb
    intro i j b hij ha hb
    match i, j, ha, hb with
    | 0, 0, _, _ => exact hij rfl
    | 0, 1, ha, hb => exact ap _ _ b l0 l1 n1 ha hb
    | 0, 2, ha, hb => exact ap _ _ b l0 l2 n2 ha hb
    | 0, 3, ha, hb => exact ap _ _ b l0 l3 n3 ha hb
    | 0, 4, ha, hb => exact apJ _ b l0 n4 ha hb
    | 1, 0, ha, hb => exact ap _ _ b l0 l1 n1 hb ha
    | 1, 1, _, _ => exact hij rfl
    | 1, 2, ha, hb => exact ap _ _ b l1 l2 n5 ha hb
    | 1, 3, ha, hb => exact ap _ _ b l1 l3 n6 ha hb
    | 1, 4, ha, hb => exact apJ _ b l1 n7 ha hb
    | 2, 0, ha, hb => exact ap _ _ b l0 l2 n2 hb ha
    | 2, 1, ha, hb => exact ap _ _ b l1 l2 n5 hb ha
    | 2, 2, _, _ => exact hij rfl
    | 2, 3, ha, hb => exact ap _ _ b l2 l3 n8 ha hb
    | 2, 4, ha, hb => exact apJ _ b l2 n9 ha hb
    | 3, 0, ha, hb => exact ap _ _ b l0 l3 n3 hb ha
    | 3, 1, ha, hb => exact ap _ _ b l1 l3 n6 hb ha
    | 3, 2, ha, hb => exact ap _ _ b l2 l3 n8 hb ha
    | 3, 3, _, _ => exact hij rfl
    | 3, 4, ha, hb => exact apJ _ b l3 n10 ha hb
    | 4, 0, ha, hb => exact apJ _ b l0 n4 hb ha
    | 4, 1, ha, hb => exact apJ _ b l1 n7 hb ha
    | 4, 2, ha, hb => exact apJ _ b l2 n9 hb ha
    | 4, 3, ha, hb => exact apJ _ b l3 n10 hb ha
    | 4, 4, _, _ => exact hij rfl
    | _ + 5, _, ha, _ => exact ha
    | _, _ + 5, _, hb => exact hb
  · intro i b h
    match i, h with
    | 0, h => exact ⟨i0, by simp, l0, h⟩
    | 1, h => exact ⟨j1, by simp, l1, h⟩
    | 2, h => exact ⟨j2, by simp, l2, h⟩
    | 3, h => exact ⟨j3, by simp, l3, h⟩
    | 4, ⟨r, hr, hrl, h⟩ => exact ⟨r, by simp [hr], hrl, h⟩
    | _ + 5, h => exact h.elim
end table

/-- A table that lies at p, in blocks O that the caller holds. -/
structure TabW (w : World) (O : Nat → Prop) (p : Nat) (s : TS) : Prop where
  r : (TabA s).R O p w
  o : ∀ b, O b → b < w.heap.size
/-- Its three cells. -/
theorem TabW.cells {w : World} {O : Nat → Prop} {p : Nat} {s : TS} (h : TabW w O p s) : ∃ d : TD, d.ok s ∧ O p ∧ w.heap[p]? = some (.cells #[.slice (sA d.r1.nl d.r1.b 0) s.ts.length d.r1.cap, .slice (sA d.r2.nl d.r2.b 0) s.es.length d.r2.cap, .map (some d.mb)] 77 (0, 0)) ∧
    Cs O w (sA d.r1.nl d.r1.b 0) (gcs d.l) ∧ Cs O w (sA d.r2.nl d.r2.b 0) (ecs s.es) ∧ GrR O w d.l := by
  obtain ⟨d, ow, h1, h2, h3, h4, h5⟩ := h.r
  have hl : d.l.length = s.ts.length := by rw [← h1.ts, List.length_map]
  refine ⟨d, h1, h5 0 p h2.1, by rw [← hl]; exact h2.2, ?_, ?_, ?_⟩
  · exact (cs_rowA (q := 0) (h3 0 _ rfl) h1.f1).mono fun b hb => h5 _ b hb
  · exact (cs_rowA (q := 0) (h3 1 _ rfl) h1.f2).mono fun b hb => h5 _ b hb
  · have hN : GrR (ow 4) w d.l := h3 3 _ rfl
    exact hN.mono fun b hb => h5 _ b hb
theorem TabW.ext {w w' : World} {O : Nat → Prop} {p : Nat} {s : TS} (h : TabW w O p s) (hE : Ext w w') : TabW w' O p s :=
  ⟨(TabA s).loc h.r fun b hb => hE.block b (h.o b hb), fun b hb => Nat.lt_of_lt_of_le (h.o b hb) hE.size⟩

theorem m_there {w : World} {O : Nat → Prop} {p : Nat} {s : TS} (h : TabW w O p s) : Calls Tryd.prog 49 #[.pointer (some ⟨p, 0, none⟩)] w fun e w' => e = .returned (.bool true) ∧ Ext w w' := by
  obtain ⟨d, hd, hO, hc, _⟩ := h.cells
  have h2 : rd w (some ⟨p, 0, none⟩) 2 = .map (some d.mb) := rd0 (l := [_, _, _]) hc 2
  have o2 := okRd0 (l := [_, _, _]) hc 2 1 (by simp)
  refine start0 (args := [.v (.pointer (some ⟨p, 0, none⟩))]) (G := (· < w.heap.size)) Tryd.func49 rfl Tryd.ntmps49 (by simp [SV.lt]) (fun _ h => h) ?_
  refine Res.run 1000 ?_
  simp only [↓reduceIte, Nat.reduceEqDiff, Nat.reduceAdd, Nat.reduceSub, Nat.reduceMul, Nat.reduceLT, Int.reduceToNat, Int.reduceBEq, Int.reduceBNe, Int.reduceLT, Int.reduceLE, E, E', TY, h2]
  exact ⟨o2, Ret.one rfl (by kernel_rfl)⟩
def hasF (s : TS) (n : Int) : Bool := decide (0 ≤ n ∧ n < s.ts.length)
theorem m_has {w : World} {O : Nat → Prop} {p : Nat} {s : TS} (h : TabW w O p s) (n : Int) : Calls Tryd.prog 52 #[.pointer (some ⟨p, 0, none⟩), .int .i64 n] w fun e w' => e = .returned (.bool (hasF s n)) ∧ Ext w w' := by
  obtain ⟨d, hd, hO, hc, _⟩ := h.cells
  have h2 : rd w (some ⟨p, 0, none⟩) 0 = .slice (sA d.r1.nl d.r1.b 0) s.ts.length d.r1.cap := rd0 (l := [_, _, _]) hc 0
  have o2 := okRd0 (l := [_, _, _]) hc 0 1 (by simp)
  obtain ⟨r, hr⟩ : ∃ r, hasF s n = r := ⟨_, rfl⟩
  rw [hr]
  unfold hasF at hr
  refine start0 (args := [.v (.pointer (some ⟨p, 0, none⟩)), .v (.int .i64 n)]) (G := (· < w.heap.size)) Tryd.func52 rfl Tryd.ntmps52 (by simp [SV.lt]) (fun _ h => h) ?_
  refine Res.run 1000 ?_
  by_cases hn : n ≥ 0
  · have hn' : decide (n ≥ 0) = true := by simp [hn]
    have hn2 : decide (n < ((s.ts.length : Nat) : Int)) = r := by rw [← hr]; exact decide_eq_decide.2 (by omega)
    simp only [↓reduceIte, Nat.reduceEqDiff, Nat.reduceAdd, Nat.reduceSub, Nat.reduceMul, Nat.reduceLT, Int.reduceToNat, Int.reduceBEq, Int.reduceBNe, Int.reduceLT, Int.reduceLE, E, E', TY, h2, hn', hn2]
    exact ⟨o2, Ret.one rfl (by kernel_rfl)⟩
  · have hn' : decide (n ≥ 0) = false := by simp; omega
    obtain rfl : r = false := by rw [← hr]; exact decide_eq_false (by omega)
    simp only [↓reduceIte, Nat.reduceEqDiff, Nat.reduceAdd, Nat.reduceSub, Nat.reduceMul, Nat.reduceLT, Int.reduceToNat, Int.reduceBEq, Int.reduceBNe, Int.reduceLT, Int.reduceLE, E, E', TY, h2, hn']
    exact Ret.one rfl (by kernel_rfl)
theorem m_Len {w : World} {O : Nat → Prop} {p : Nat} {s : TS} (h : TabW w O p s) : Calls Tryd.prog 22 #[.pointer (some ⟨p, 0, none⟩)] w fun e w' => e = .returned (.int .i64 s.ts.length) ∧ Ext w w' := by
  obtain ⟨d, hd, hO, hc, _⟩ := h.cells
  have h2 : rd w (some ⟨p, 0, none⟩) 0 = .slice (sA d.r1.nl d.r1.b 0) s.ts.length d.r1.cap := rd0 (l := [_, _, _]) hc 0
  have o2 := okRd0 (l := [_, _, _]) hc 0 1 (by simp)
  refine start0 (args := [.v (.pointer (some ⟨p, 0, none⟩))]) (G := (· < w.heap.size)) Tryd.func22 rfl Tryd.ntmps22 (by simp [SV.lt]) (fun _ h => h) ?_
  refine Res.run 1000 ?_
  simp only [↓reduceIte, Nat.reduceEqDiff, Nat.reduceAdd, Nat.reduceSub, Nat.reduceMul, Nat.reduceLT, Int.reduceToNat, Int.reduceBEq, Int.reduceBNe, Int.reduceLT, Int.reduceLE, E, E', TY]
  refine ⟨fnok49, CallAt.pure #[.pointer (some ⟨p, 0, none⟩)] (.bool true) (fun _ => rfl) (fun w' hw => m_there (h.ext hw)) (Res.run 900 ?_)⟩
  simp only [↓reduceIte, Nat.reduceEqDiff, Nat.reduceAdd, Nat.reduceSub, Nat.reduceMul, Nat.reduceLT, Int.reduceToNat, Int.reduceBEq, Int.reduceBNe, Int.reduceLT, Int.reduceLE, E, E', TY, h2]
  exact ⟨o2, Ret.one rfl (by kernel_rfl)⟩
end Go.Proofs.YtkcbmkoafmffoaaDoor
