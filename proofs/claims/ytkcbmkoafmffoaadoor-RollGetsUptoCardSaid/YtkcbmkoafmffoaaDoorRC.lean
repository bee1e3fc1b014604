/-
  The roll layer: what Add computes; looking into a map and putting into it.
-/
import Derived.Test.YtkcbmkoafmffoaaDoorRB
set_option linter.unusedVariables false
set_option linter.unusedSimpArgs false
set_option maxRecDepth 20000
set_option maxHeartbeats 8000000
namespace Go.Proofs.YtkcbmkoafmffoaaDoor
open Go Go.Eng

def mvV (f : Hp → Hp) (v : Vl) : Vl := if v.k = 3 then ⟨v.k, v.nul, f v.h⟩ else v
/-- A declared type whose heap types are changed by a rule. -/
def smap (f : Hp → Hp) (s : Sb) : Sb := ⟨s.fin, s.su.map f, s.k, s.ps.map (mvV f), s.rs.map (mvV f), s.fs.map fun x => ⟨x.pk, mvV f x.t, x.m⟩⟩
theorem mapV_smap (φ : Nat → Hp) (f : Hp → Hp) : ∀ (l : List Vl) (i : Nat), (∀ j h, (heapsV l)[j]? = some h → φ (i + j) = f h) → mapV φ i l = l.map (mvV f)
  | [], _, _ => rfl
  | v :: l, i, h => by
    rw [mapV, List.map_cons]
    by_cases h3 : v.k = 3
    · rw [if_pos h3, mapV_smap φ f l (i + 1) fun j g hg => ?_]
      · have := h 0 v.h (by simp [heapsV, h3])
        rw [Nat.add_zero] at this
        simp only [mvF, mvV, if_pos h3, this]
      · have := h (j + 1) g (by simpa [heapsV, h3] using hg)
        rw [← this]; congr 1; omega
    · rw [if_neg h3, mapV_smap φ f l (i + 0) fun j g hg => ?_]
      · simp only [mvF, mvV, if_neg h3]
      · exact h j g (by simpa [heapsV, h3] using hg)
theorem mapFd_smap (φ : Nat → Hp) (f : Hp → Hp) : ∀ (l : List Fd) (i : Nat), (∀ j h, (heapsV (tys l))[j]? = some h → φ (i + j) = f h) → mapFd φ i l = l.map fun x => ⟨x.pk, mvV f x.t, x.m⟩
  | [], _, _ => rfl
  | x :: l, i, h => by
    rw [mapFd, List.map_cons]
    by_cases h3 : x.t.k = 3
    · rw [if_pos h3, mapFd_smap φ f l (i + 1) fun j g hg => ?_]
      · have := h 0 x.t.h (by simp [tys, heapsV, h3])
        rw [Nat.add_zero] at this
        simp only [mvF, mvV, if_pos h3, this]
      · have := h (j + 1) g (by simpa [tys, heapsV, h3] using hg)
        rw [← this]; congr 1; omega
    · rw [if_neg h3, mapFd_smap φ f l (i + 0) fun j g hg => ?_]
      · simp only [mvF, mvV, if_neg h3]
      · exact h j g (by simpa [tys, heapsV, h3] using hg)
theorem mapS_smap (f : Hp → Hp) (s : Sb) : mapS (fun i => f ((sHeaps s).getD i ⟨0, 0⟩)) s = smap f s := by
  have e : ∀ i h, (sHeaps s)[i]? = some h → f ((sHeaps s).getD i ⟨0, 0⟩) = f h := by
    intro i h hi
    rw [List.getD_eq_getElem?_getD, hi]; rfl
  have l2 := heapsV_len s.ps
  have l3 := heapsV_len s.rs
  unfold mapS smap
  congr 1
  · unfold mapH
    apply List.ext_getElem?
    intro i
    by_cases hi : i < s.su.length
    · simp only [List.getElem?_map, List.getElem?_range hi, Option.map_some, List.getElem?_eq_getElem hi]
      rw [e i _ (sHeaps_su s hi)]
    · rw [List.getElem?_eq_none (by simpa using hi), List.getElem?_eq_none (by simpa using hi)]
  · refine mapV_smap _ f _ _ fun j h hj => e _ _ ?_
    unfold sHeaps
    have hjl := (List.getElem?_eq_some_iff.1 hj).1
    rw [List.getElem?_append_left (by simp; omega), List.getElem?_append_left (by simp; omega), List.getElem?_append_right (by omega), Nat.add_sub_cancel_left]
    exact hj
  · refine mapV_smap _ f _ _ fun j h hj => e _ _ ?_
    unfold sHeaps
    have hjl := (List.getElem?_eq_some_iff.1 hj).1
    rw [List.getElem?_append_left (by simp; omega), List.getElem?_append_right (by simp; omega), List.length_append, l2, Nat.add_sub_cancel_left]
    exact hj
  · refine mapFd_smap _ f _ _ fun j h hj => e _ _ ?_
    unfold sHeaps
    rw [List.getElem?_append_right (by simp; omega)]
    rw [List.length_append, List.length_append, l2, l3, Nat.add_sub_cancel_left]
    exact hj
theorem smap_small {s : Sb} {B : Nat} (f : Hp → Hp) (h : s.small B) : (smap f s).small B := ⟨by simpa [smap] using h.su, by simpa [smap] using h.ps, by simpa [smap] using h.rs, by simpa [smap] using h.fs⟩
theorem smap_ok {s : Sb} (f : Hp → Hp) (hf : ∀ h, i64ok h.n → i64ok (f h).n) (h : s.ok) : (smap f s).ok := by
  have hv : ∀ v : Vl, (v.k = 3 → i64ok v.h.n) → (mvV f v).k = 3 → i64ok (mvV f v).h.n := by
    intro v hv h3
    unfold mvV at h3 ⊢
    split at h3
    · rename_i hk
      rw [if_pos hk]
      exact hf _ (hv hk)
    · rename_i hk
      exact absurd h3 hk
  refine ⟨?_, ?_, ?_, ?_⟩
  · intro x hx
    obtain ⟨y, hy, rfl⟩ := List.mem_map.1 hx
    exact hf y (h.su y hy)
  · intro x hx
    obtain ⟨y, hy, rfl⟩ := List.mem_map.1 hx
    exact hv y (h.ps y hy)
  · intro x hx
    obtain ⟨y, hy, rfl⟩ := List.mem_map.1 hx
    exact hv y (h.rs y hy)
  · intro x hx
    obtain ⟨y, hy, rfl⟩ := List.mem_map.1 hx
    exact ⟨(h.fs y hy).pk, hv y.t (h.fs y hy).n⟩
theorem sHeaps_ok {s : Sb} (h : s.ok) : ∀ x ∈ sHeaps s, i64ok x.n := by
  have hv : ∀ l : List Vl, (∀ v ∈ l, v.k = 3 → i64ok v.h.n) → ∀ x ∈ heapsV l, i64ok x.n := by
    intro l
    induction l with
    | nil => intro _ x hx; cases hx
    | cons v l ih =>
      intro h x hx
      unfold heapsV at hx
      split at hx
      · rename_i h3
        rcases List.mem_cons.1 hx with rfl | hx
        · exact h v List.mem_cons_self h3
        · exact ih (fun v hv => h v (List.mem_cons_of_mem _ hv)) x hx
      · exact ih (fun v hv => h v (List.mem_cons_of_mem _ hv)) x hx
  intro x hx
  unfold sHeaps at hx
  simp only [List.mem_append] at hx
  rcases hx with ((hx | hx) | hx) | hx
  · exact h.su x hx
  · exact hv _ h.ps x hx
  · exact hv _ h.rs x hx
  · refine hv _ ?_ x hx
    intro v hv'
    obtain ⟨f, hf, rfl⟩ := List.mem_map.1 hv'
    exact (h.fs f hf).n

/-! ### what Add computes -/
def rollS (ids : List Int) (m : Nat) (s : Sb) : Sb := smap (rollH ids m) s
def rollSok (ids : List Int) (m : Nat) (s : Sb) : Bool := psF s && (sHeaps s).all (rollOk ids m)
def rollG (ids : List Int) (g : List Sb) : List Sb := g.map (rollS ids g.length)
def keyG (r : List Sb) : ByteArray := catB (r.map txtT)
def outI (ids : List Int) (e : Int × Int) : List Int := ids ++ (List.range e.2.toNat).map fun (i : Nat) => e.1 + (i : Int)
/-- The table behind a group that is new. -/
def TS.put (s : TS) (r : List Sb) : TS := ⟨s.ts ++ r, s.es ++ List.replicate r.length ((s.ts.length : Int), (r.length : Int)), s.mn + 1, fun l => if l = keyG r then some ((s.ts.length : Int), (r.length : Int)) else s.mp l⟩
def addF (s : TS) (ids : List Int) (g : List Sb) : TS × List Int × Int :=
  if ids.any (fun i => !hasF s i) = true then (s, [], 2)
  else if g.all (rollSok ids g.length) = false then (s, [], 2)
  else match s.mp (keyG (rollG ids g)) with
    | some e => (s, outI ids e, 0)
    | none => if (s.ts.length : Int) + g.length > 10000 then (s, [], 5) else (s.put (rollG ids g), outI ids ((s.ts.length : Int), (g.length : Int)), 0)
/-- The sizes and numbers of a table are small. -/
structure TS.fit (s : TS) : Prop where
  ts : s.ts.length ≤ 10000
  es : s.es.length ≤ 10000
  mn : s.mn ≤ 10000000
  mp : ∀ k e, s.mp k = some e → 0 ≤ e.1 ∧ e.1 ≤ 10000 ∧ 0 ≤ e.2 ∧ e.2 ≤ 10000
theorem rollH_ok {ids : List Int} {m : Nat} (hids : ∀ i ∈ ids, i64ok i) (hz : ids.length ≤ 1100000) (h : Hp) (hh : i64ok h.n) : i64ok (rollH ids m h).n := by
  unfold rollH
  split
  · exact hh
  · split
    · rename_i h2
      show i64ok (ids.getD h.n.toNat 0)
      rw [List.getD_eq_getElem?_getD, List.getElem?_eq_getElem (show h.n.toNat < ids.length by omega)]
      exact hids _ (List.getElem_mem _)
    · split
      · rename_i h2
        have := hh.2
        exact i64ok_of (by show -9223372036854775808 ≤ h.n - (ids.length : Int); omega) (by show h.n - (ids.length : Int) ≤ 9223372036854775807; omega)
      · exact hh

section maps
variable {Q : Pst} {G : Nat → Prop} {W : World}
/-- v, ok := m[k] -/
theorem OpAt.mapLook {σ : St} {o : Oper} {k : List It} {x y : Operand} {i mb n : Nat} {mp : ByteArray → Option (Int × Int)} {key : ByteArray} (ho : o.op = .lookup 75 x y true) (hi : getE σ.L i = some (.asn (MapA mb n mp))) (hx : ev σ x = some (.v (.map (some mb)))) (hy : ev σ y = some (.v (.string key))) (hk : key.size ≤ maxLen)
    (h : Res Tryd.prog Q G W (σ.put o.dst (.v (.tuple #[entV ((mp key).getD (0, 0)), .bool (mp key).isSome]))) k) : OpAt Tryd.prog Q G W σ o k := by
  intro new a w hs
  obtain ⟨hxe, _⟩ := ev_sound hs hx
  obtain ⟨hye, _⟩ := ev_sound hs hy
  obtain ⟨own, hso⟩ := hs.hs
  rw [getE_eq] at hi
  have hR : (MapA mb n mp).R (own i) ((σ.X ++ new).getD i 0) w := hso.ok i _ hi
  have hrun := mapLook_run hR.2 key hk
  refine GoRun.opK (wp_value (v := .tuple #[entV ((mp key).getD (0, 0)), .bool (mp key).isSome]) (w' := w) ?_ ?_)
  · simp only [SV.den] at hxe hye
    simp only [execOp, ho, hxe, hye, Sem.run_bind, hrun, Result.andThen_ok, Sem.run_pure]
  · exact h new _ w (hs.put o.dst (.v _) trivial)
/-- m[k] = v -/
theorem OpAt.mapPut {σ : St} {o : Oper} {k : List It} {x y z : Operand} {i mb n : Nat} {mp : ByteArray → Option (Int × Int)} {key : ByteArray} {e : Int × Int} (ho : o.op = .mapUpdate 75 x y z) (hi : getE σ.L i = some (.asn (MapA mb n mp))) (hx : ev σ x = some (.v (.map (some mb)))) (hy : ev σ y = some (.v (.string key))) (hz : ev σ z = some (.agg [.v (.int .i64 e.1), .v (.int .i64 e.2)])) (hk : key.size ≤ maxLen) (hn : n < maxLen)
    (h : Res Tryd.prog Q G W ((σ.ent i (.asn (MapA mb (n + 1) (fun l => if l = key then some e else mp l)))).put o.dst (.v undef)) k) : OpAt Tryd.prog Q G W σ o k := by
  intro new a w hs
  obtain ⟨hxe, _⟩ := ev_sound hs hx
  obtain ⟨hye, _⟩ := ev_sound hs hy
  obtain ⟨hze, _⟩ := ev_sound hs hz
  obtain ⟨own, hso⟩ := hs.hs
  rw [getE_eq] at hi
  have hil := (List.getElem?_eq_some_iff.1 hi).1
  have hR : (MapA mb n mp).R (own i) ((σ.X ++ new).getD i 0) w := hso.ok i _ hi
  obtain ⟨w', hrun, hmo, hg⟩ := mapPut_run hR.2 key hk e hn
  have hso2 := hso.upd (e := .asn (MapA mb (n + 1) (fun l => if l = key then some e else mp l))) (O := own i) (i := i) (w' := w') hil trivial hg.os hg.tape hg.output hg.size (fun b hb hn => hg.block b hb fun he => hn (by injection he with he; rw [he]; exact hR.1)) (fun b hb => ⟨Nat.lt_of_lt_of_le (hso.out i b hil hb).2 hg.size, .inr hb⟩) ⟨hR.1, hmo⟩
  have hLl : (σ.ent i (.asn (MapA mb (n + 1) (fun l => if l = key then some e else mp l)))).L.length = σ.L.length := by simp [St.ent, setE_eq]
  have hsat : Sat G W (σ.ent i (.asn (MapA mb (n + 1) (fun l => if l = key then some e else mp l)))) new a w' := ⟨hs.tsz, hs.tmp, fun t sv ht => by rw [hLl]; exact hs.tlt t sv ht, hs.dfr, fun d hd => by rw [hLl]; exact hs.dlt d hd, _, hso2⟩
  refine GoRun.opK (wp_skip' (w' := w') ?_ ?_)
  · have hv : (SV.agg [.v (.int .i64 e.1), .v (.int .i64 e.2)]).den (σ.X ++ new) = entV e := rfl
    rw [hv] at hze
    simp only [SV.den] at hxe hye
    simp only [execOp, ho, hxe, hye, hze, Sem.run_bind, hrun, Result.andThen_ok, Sem.run_pure]
  · exact h new _ w' (hsat.put o.dst (.v undef) trivial)
end maps
end Go.Proofs.YtkcbmkoafmffoaaDoor
