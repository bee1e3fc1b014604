/-
  The kind layer: iterators that keep blocks of their own while the loop's rounds run.
-/
import Derived.Test.YtkcbmkoafmffoaaDoorKE
set_option linter.unusedVariables false
set_option linter.unusedSimpArgs false
set_option maxRecDepth 20000
set_option maxHeartbeats 4400000
namespace Go.Proofs.YtkcbmkoafmffoaaDoor
open Go Go.Eng
section rounds
variable {P : Program} {Q : Pst} {G : Nat → Prop} {W : World}

/-- Over the world as it is: the blocks O became O'. -/
theorem HS.rebaseC {σ : St} {new : List Nat} {w w' : World} {O O' : Nat → Prop} (h : HS G W σ new w) (hC : Chg w w' O O') (hO : ∀ b, O b → G b) :
    ∃ G', HS G' w' { σ with X := σ.X ++ new } [] w' ∧ (∀ b, G b → G' b) ∧ (∀ b, O' b → G' b) ∧ (∀ b, G' b → b < w'.heap.size) := by
  obtain ⟨own, ho⟩ := h
  refine ⟨fun b => b < w'.heap.size ∧ ∀ i, i < σ.L.length → ¬ own i b, ⟨own, by have := ho.len; simp; omega, ?_, ho.entlt, ho.apart, ?_, fun b hb => hb.1, Keep.refl _ _⟩, ?_, ?_, fun b hb => hb.1⟩
  · intro i e hi
    have il := (List.getElem?_eq_some_iff.1 hi).1
    have := ho.ok i e hi
    simp only [List.append_nil]
    exact Ent.ok_loc this fun b hb => hC.block b (ho.out i b il hb).2 fun hob => (ho.out i b il hb).1 (hO b hob)
  · intro i b hi hb
    exact ⟨fun h => h.2 i hi hb, by have := (ho.out i b hi hb).2; have := hC.size; omega⟩
  · intro b hb
    have := ho.inW b hb
    have := ho.keep.size
    have := hC.size
    exact ⟨by omega, fun i hi hi' => (ho.out i b hi hi').1 hb⟩
  · intro b hb
    obtain ⟨h1, h2⟩ := hC.own b hb
    refine ⟨h1, fun i hi hi' => ?_⟩
    have h3 := ho.out i b hi hi'
    rcases h2 with h2 | h2
    · omega
    · exact h3.1 (hO b h2)

/-- What an iterator must keep to, that has blocks of its own: N rounds at most, the i-th with the values encs i; O: what is the loop's. -/
def Iter2 (P : Program) (gf : Nat) (lb : Array Value) (N : Nat) (encs : Nat → List Value) (G : Nat → Prop) (Rd : World → Prop) : Prop :=
  ∀ (l : Nat) (J Jx : Nat → (Nat → Prop) → World → Prop) (O0 : Nat → Prop) (w : World),
    (∀ i O W1 W2, J i O W1 → Keep (fun b => G b ∨ O b) W1 W2 → J i O W2) → (∀ i O W1 W2, Jx i O W1 → Keep (fun b => G b ∨ O b) W1 W2 → Jx i O W2) →
    (∀ i O W1, J i O W1 → (∀ b, O b → ¬ G b ∧ b < W1.heap.size) ∧ (∀ b, G b → b < W1.heap.size)) → (∀ i O W1, Jx i O W1 → (∀ b, O b → ¬ G b ∧ b < W1.heap.size) ∧ (∀ b, G b → b < W1.heap.size)) → (∀ i O W1, J i O W1 → Rd W1) →
    (∀ i O W1, i < N → J i O W1 → YieldAt (wf none) 0 P l (encs i).toArray W1 fun e W' => ∃ O', Chg W1 W' O O' ∧ ((e = .returned (.bool true) ∧ J (i + 1) O' W') ∨ (e = .returned (.bool false) ∧ Jx i O' W'))) →
    J 0 O0 w → Calls P gf (#[.func (.yield l) #[] #[]] ++ lb) w fun e W' => (∃ v, e = .returned v) ∧ ∃ O', J N O' W' ∨ ∃ i, i < N ∧ Jx i O' W'

/-- With what is owned told. -/
def HSu (G : Nat → Prop) (W : World) (σ : St) (O : Nat → Prop) (w : World) : Prop := ∃ own, HSo G W σ [] w own ∧ ∀ b, O b ↔ ∃ j, j < σ.L.length ∧ own j b
theorem HSu.hs {σ : St} {O : Nat → Prop} {w : World} (h : HSu G W σ O w) : HS G W σ [] w := h.elim fun own h => ⟨own, h.1⟩
theorem HS.u {σ : St} {w : World} (h : HS G W σ [] w) : ∃ O, HSu G W σ O w := h.elim fun own h => ⟨_, own, h, fun b => Iff.rfl⟩
theorem HSu.keep {σ : St} {O : Nat → Prop} {w w' : World} (h : HSu G W σ O w) (hk : Keep (fun b => G b ∨ O b) w w') : HSu G W σ O w' := by
  obtain ⟨own, ho, hO⟩ := h
  refine ⟨own, ⟨ho.len, fun i e hi => ?_, ho.entlt, ho.apart, fun i b hi hb => ⟨(ho.out i b hi hb).1, by have := (ho.out i b hi hb).2; have := hk.size; omega⟩, ho.inW, ho.keep.trans (hk.mono fun b hb => .inl hb)⟩, hO⟩
  have il := (List.getElem?_eq_some_iff.1 hi).1
  exact Ent.ok_loc (ho.ok i e hi) fun b hb => hk.block b (.inr ((hO b).2 ⟨i, il, hb⟩))
theorem HSu.out {σ : St} {O : Nat → Prop} {w : World} (h : HSu G W σ O w) : (∀ b, O b → ¬ G b ∧ b < w.heap.size) ∧ (∀ b, G b → b < w.heap.size) := by
  obtain ⟨own, ho, hO⟩ := h
  refine ⟨fun b hb => ?_, fun b hb => by have := ho.inW b hb; have := ho.keep.size; omega⟩
  obtain ⟨j, hj, hb'⟩ := (hO b).1 hb
  exact ho.out j b hj hb'
/-- Over the world as it is, all that is not owned being kept. -/
theorem HSu.in {σ : St} {O : Nat → Prop} {w : World} (h : HSu G W σ O w) : HS (Gm w O) w σ [] w := by
  obtain ⟨own, ho, hO⟩ := h
  exact ⟨own, ho.len, ho.ok, ho.entlt, ho.apart, fun i b hi hb => ⟨fun hg => hg.2 ((hO b).2 ⟨i, hi, hb⟩), (ho.out i b hi hb).2⟩, fun b hb => hb.1, Keep.refl _ _⟩
/-- And back. -/
theorem HSu.back {σ τ : St} {O : Nat → Prop} {w w' : World} (h : HSu G W σ O w) (h' : HS (Gm w O) w τ [] w') : ∃ O', HSu G W τ O' w' ∧ Chg w w' O O' := by
  obtain ⟨own', ho'⟩ := h'
  have hout := h.out
  have hk := h.hs.keep
  have hin := h.hs.inW
  have hg : ∀ b, G b → Gm w O b := fun b hb => ⟨hout.2 b hb, fun ho => (hout.1 b ho).1 hb⟩
  refine ⟨fun b => ∃ j, j < τ.L.length ∧ own' j b, ⟨own', ⟨ho'.len, ho'.ok, ho'.entlt, ho'.apart, fun i b hi hb => ⟨fun hgb => (ho'.out i b hi hb).1 (hg b hgb), (ho'.out i b hi hb).2⟩, hin, hk.trans (ho'.keep.mono hg)⟩, fun b => Iff.rfl⟩, ho'.keep.os, ho'.keep.tape, ho'.keep.output, ho'.keep.size, fun b hb hn => ho'.keep.block b ⟨hb, hn⟩, ?_⟩
  rintro b ⟨j, hj, hb⟩
  obtain ⟨h1, h2⟩ := ho'.out j b hj hb
  refine ⟨h2, ?_⟩
  by_cases hw : b < w.heap.size
  · right
    exact Classical.byContradiction fun hn => h1 ⟨hw, hn⟩
  · left; omega

/-- A range over a function that keeps blocks of its own. -/
theorem Res.rangeFW {σ : St} {k : List It} {g : Operand} {ps : Array Tmp} {assign body : Code} {gf : Nat} {lb : Array Value} (hg : ev σ g = some (.v (.func (.func gf) #[] lb))) (hfn : fnOK P gf = true)
    (N : Nat) (encs : Nat → List Value) (hps : ∀ i, (encs i).length = ps.size) (Φ Φx : Nat → Prop) (hΦ : Φ 0) (L Lx : Nat → List Ent) (hL0 : L 0 = σ.L) (hLl : ∀ i, (L i).length = σ.L.length) (hLx : ∀ i, (Lx i).length = σ.L.length)
    (hLlt : ∀ i, ∀ e ∈ L i, e.lt σ.L.length) (hLxlt : ∀ i, ∀ e ∈ Lx i, e.lt σ.L.length)
    (Rd : World → Prop) (hRd : ∀ i X r w, isPre σ.X X → HS G W { T := [], X := X, L := rfL (L i) r, D := [] } [] w → Rd w) (hit : Iter2 P gf lb N encs G Rd)
    (hbody : ∀ (G' : Nat → Prop) (W' : World), Keep G W W' → (∀ b, G b → G' b) → (∀ b, G' b → b < W'.heap.size) → ∀ X l r i, i < N → Φ i → X.length = σ.L.length + 2 → X.getD (σ.L.length + 1) 0 = l → isPre σ.X X → r.state = .ready → r.pending = none →
      Res P ⟨some l, fun _ _ _ => False⟩ G' W' { T := tSet σ.T ps.toList (encs i), X := X, L := rfL (L i) r, D := [] } [.code assign, .rnd (Beg P l body (rq G' W' X { r with state := .busy } (Φ (i + 1)) (Φx i) (L (i + 1)) (Lx i)))])
    (hdone : ∀ X r, isPre σ.X X → Φ N → Res P Q G W { σ with X := X, L := rfL (L N) r, D := .mark σ.L.length :: σ.D } k)
    (hstop : ∀ X r i, isPre σ.X X → i < N → Φx i → Ret Q G W { σ with X := X, L := rfL (Lx i) r, D := .mark σ.L.length :: σ.D }) (hro : Q.ro = none := by rfl) :
    Res P Q G W σ (.code (.rangeFunc g ps assign body) :: k) := by
  intro new a w hs
  show (Code.rangeFunc g ps assign body).wpIn (wf Q.ro) 0 P (Wt P Q k) a w
  rw [hro]
  refine wpIn_rangeFunc ?_
  intro fn _
  obtain ⟨hge, _⟩ := ev_sound hs hg
  obtain ⟨rec, hrec⟩ : ∃ rec : LoopState → Option Code → Loop, rec = fun st pe => { state := st, pending := pe, fn, tmps := a.tmps, params := ps, assign, body, defers := w.heap.size } := ⟨_, rfl⟩
  have hlen : (σ.X ++ new).length = σ.L.length := by simpa using hs.hs.len
  have h1 := hs.hs.alloc (e := .obj (.deferred (some []))) (o := .deferred (some [])) trivial (fun w' hw => ⟨rfl, hw⟩)
  have h2 := h1.alloc (e := .obj (.loop (rec .ready none))) (o := .loop (rec .ready none)) trivial (fun w' hw => ⟨rfl, hw⟩)
  have h3 := h2.fix
  have hsz1 : (w.alloc (.deferred (some []))).heap.size = w.heap.size + 1 := by simp
  rw [hsz1] at h3
  obtain ⟨X, hX⟩ : ∃ X, X = σ.X ++ (new ++ [w.heap.size] ++ [w.heap.size + 1]) := ⟨_, rfl⟩
  have hXl : X.length = σ.L.length + 2 := by rw [hX]; simp at hlen ⊢; omega
  have hXd : X.getD (σ.L.length + 1) 0 = w.heap.size + 1 := by
    rw [hX, List.getD_eq_getElem?_getD, ← List.append_assoc, ← List.append_assoc, List.getElem?_append_right (by simp at hlen ⊢; omega)]
    simp at hlen ⊢
    rw [show σ.L.length + 1 - (σ.X.length + (new.length + 1)) = 0 by omega]
    rfl
  have hXd0 : X.getD σ.L.length 0 = w.heap.size := by
    rw [hX, List.getD_eq_getElem?_getD, ← List.append_assoc, ← List.append_assoc, List.getElem?_append_left (by simp at hlen ⊢; omega), List.getElem?_append_right (by omega), hlen]
    simp
  have hpre : isPre σ.X X := ⟨_, hX⟩
  have hXn : X = (σ.X ++ new) ++ [w.heap.size, w.heap.size + 1] := by rw [hX]; simp
  have h0 : HS G W { T := [], X := X, L := rfL (L 0) (rec .ready none), D := [] } [] ((w.alloc (.deferred (some []))).alloc (.loop (rec .ready none))) := by
    refine h3.same ?_ ?_
    · rw [hX]; rfl
    · rw [hL0]; simp [rfL, St.new]
  -- what the activation holds, whatever the entries are
  have hsat : ∀ (L' : List Ent) (r : Loop) (w' : World), L'.length = σ.L.length → HS G W { T := [], X := X, L := rfL L' r, D := [] } [] w' →
      Sat G W { σ with X := X, L := rfL L' r, D := .mark σ.L.length :: σ.D } [] { a with defers := [({ target := .collected w.heap.size, args := #[] } : Deferred)] ++ a.defers } w' := by
    intro L' r w' hl hh
    refine ⟨hs.tsz, ?_, ?_, ?_, ?_, hh.same rfl rfl⟩
    · intro t sv ht
      have := hs.tmp t sv ht
      simp only [List.append_nil]
      rw [hXn, SV.den_append (ids := σ.X ++ new) (m := [w.heap.size, w.heap.size + 1]) (by rw [hlen]; exact hs.tlt t sv ht)]
      exact this
    · intro t sv ht
      exact SV.lt_mono (by show σ.L.length ≤ (rfL L' r).length; rw [rfL_len]; omega) (hs.tlt t sv ht)
    · simp only [List.append_nil, List.map_cons, List.singleton_append]
      congr 1
      · simp only [DSV.den, hXd0]
      · rw [hs.dfr]
        apply List.map_congr_left
        intro d hd
        rw [hXn, DSV.den_append (ids := σ.X ++ new) (m := [w.heap.size, w.heap.size + 1]) (by rw [hlen]; exact hs.dlt d hd)]
    · intro d hd
      have hl2 : σ.L.length ≤ (rfL L' r).length := by rw [rfL_len]; omega
      rcases List.mem_cons.1 hd with rfl | hd
      · show σ.L.length < (rfL L' r).length
        rw [rfL_len]; omega
      · exact DSV.lt_mono hl2 (hs.dlt d hd)
  have eg : ∀ args w, (callFunc gf args).run P w = .ok (.enter gf args) w := by
    intro args w
    unfold fnOK at hfn
    split at hfn
    · rename_i f hf
      simp only [Bool.and_eq_true, bne_iff_ne] at hfn
      have hb : ¬ f.body = none := by intro hq; simp [hq] at hfn
      simp [callFunc, hf, hfn.1, hb]
    · cases hfn
  refine ⟨w.heap.size + 1, [{ target := .collected w.heap.size, args := #[] }], ((w.alloc (.deferred (some []))).alloc (.loop { state := .ready, pending := none, fn, tmps := a.tmps, params := ps, assign, body, defers := w.heap.size })), { target := .fn (.func gf) lb, args := #[.func (.yield (w.heap.size + 1)) #[] #[]] }, ((w.alloc (.deferred (some []))).alloc (.loop { state := .ready, pending := none, fn, tmps := a.tmps, params := ps, assign, body, defers := w.heap.size })), gf,
    #[.func (.yield (w.heap.size + 1)) #[] #[]] ++ lb, ((w.alloc (.deferred (some []))).alloc (.loop { state := .ready, pending := none, fn, tmps := a.tmps, params := ps, assign, body, defers := w.heap.size })), run_enterLoop_outer fn a.tmps ps assign body, ?_, fun _ _ => trivial, ?_, by simp [wf], ?_⟩
  · simp only [resolve, hge, SV.den]
    simp [Deferred.ofValue, Act.eval]
  · simp [invoke, eg]
  refine calls_in ?_
  subst hrec
  let R : LoopState → Option Code → Loop := fun st pe => { state := st, pending := pe, fn, tmps := a.tmps, params := ps, assign, body, defers := w.heap.size }
  obtain ⟨O0, h0⟩ := HS.u h0
  have hJ := hit (w.heap.size + 1) (fun i O W1 => Φ i ∧ HSu G W { T := [], X := X, L := rfL (L i) (R .ready none), D := [] } O W1) (fun i O W1 => Φx i ∧ HSu G W { T := [], X := X, L := rfL (Lx i) (R .done (some .ret)), D := [] } O W1) O0
    ((w.alloc (.deferred (some []))).alloc (.loop { state := .ready, pending := none, fn, tmps := a.tmps, params := ps, assign, body, defers := w.heap.size }))
    (fun i O W1 W2 hj he => ⟨hj.1, hj.2.keep he⟩) (fun i O W1 W2 hj he => ⟨hj.1, hj.2.keep he⟩) (fun i O W1 hj => hj.2.out) (fun i O W1 hj => hj.2.out) (fun i O W1 hj => hRd i X _ _ hpre hj.2.hs) ?_ ⟨hΦ, h0⟩
  · refine hJ.mono ?_
    rintro e W' ⟨⟨v, rfl⟩, O', ⟨hφ, hj⟩ | ⟨i, hi, hφ, hj⟩⟩
    all_goals replace hj := hj.hs
    · have ho := hj.obj (i := σ.L.length + 1) (rfL_get (hLl N))
      have hp := hj.putObj (i := σ.L.length + 1) (.loop (R .exhausted none)) (rfL_get (hLl N))
      simp only [List.append_nil] at ho hp
      rw [hXd] at ho hp
      rw [rfL_set (hLl N)] at hp
      have := run_endLoop (P := P) ho (by simp)
      refine ⟨none, _, this, ?_⟩
      have hd := hdone X (R .exhausted none) hpre hφ [] _ _ (hsat _ _ _ (hLl N) hp)
      exact hd
    · have ho := hj.obj (i := σ.L.length + 1) (rfL_get (hLx i))
      have hp := hj.putObj (i := σ.L.length + 1) (.loop (R .exhausted (some .ret))) (rfL_get (hLx i))
      simp only [List.append_nil] at ho hp
      rw [hXd] at ho hp
      rw [rfL_set (hLx i)] at hp
      have := run_endLoop (P := P) ho (by simp)
      refine ⟨some .ret, _, this, ?_⟩
      have hst : Res P Q G W { σ with X := X, L := rfL (Lx i) (R .exhausted (some .ret)), D := .mark σ.L.length :: σ.D } (.code .ret :: k) := Res.run 1 (hstop X (R .exhausted (some .ret)) i hpre hi hφ)
      have hd := hst [] _ _ (hsat _ _ _ (hLx i) hp)
      have hd' : (Code.ret).wpIn (wf Q.ro) 0 P (Wt P Q k) _ _ := hd
      rw [hro] at hd'
      exact hd'
  · rintro i O W1 hi ⟨hφ, hju⟩
    have hj := hju.in
    have ho := hj.obj (i := σ.L.length + 1) (rfL_get (hLl i))
    simp only [List.append_nil] at ho
    rw [hXd] at ho
    have hy := run_yield (P := P) (args := (encs i).toArray) ho (by simp [hps i, R])
    refine ⟨fn, _, assign, body, hy, roundIn_of_wpIn trivial ?_⟩
    have hb := hbody (Gm W1 O) W1 hju.hs.keep (fun b hb => ⟨hju.out.2 b hb, fun h => (hju.out.1 b h).1 hb⟩) (fun b hb => hb.1) X (w.heap.size + 1) (R .ready none) i hi hφ hXl hXd hpre rfl rfl
    have hts := tSet_sat (ids := X) (n := σ.L.length + 2) ps.toList (encs i) σ.T a.tmps hs.tsz (fun t sv ht => by rw [hXn, SV.den_append (ids := σ.X ++ new) (m := [w.heap.size, w.heap.size + 1]) (by rw [hlen]; exact hs.tlt t sv ht)]; exact hs.tmp t sv ht) (fun t sv ht => SV.lt_mono (by omega) (hs.tlt t sv ht))
    obtain ⟨t1, t2, t3⟩ := hts
    have hw := hb [] { tmps := (ps.toList.zip (encs i)).foldl (fun tmps x => tmps.setIfInBounds x.1 x.2) a.tmps, defers := [] } W1 ⟨t1, by simpa using t2, by simp only [rfL_len, hLl]; exact t3, rfl, by simp, hj.same rfl rfl⟩
    have hfold : (ps.zip (encs i).toArray).foldl (fun tmps (x : Tmp × Value) => tmps.setIfInBounds x.1 x.2) a.tmps = (ps.toList.zip (encs i)).foldl (fun tmps x => tmps.setIfInBounds x.1 x.2) a.tmps := by
      rw [← Array.foldl_toList]
      simp
    have hw' : assign.wpIn (wf (some (w.heap.size + 1))) 0 P (Wt P ⟨some (w.heap.size + 1), fun _ _ _ => False⟩ [.rnd (Beg P (w.heap.size + 1) body (rq (Gm W1 O) W1 X (R .busy none) (Φ (i + 1)) (Φx i) (L (i + 1)) (Lx i)))])
      { tmps := (ps.zip (encs i).toArray).foldl (fun tmps (x : Tmp × Value) => tmps.setIfInBounds x.1 x.2) a.tmps, defers := [] } W1 := by
      rw [hfold]; exact hw
    refine wpIn_mono hw' ?_
    have fin : ∀ (L' : List Ent) (jump : Option Code) (W3 : World), L'.length = σ.L.length → HS (Gm W1 O) W1 { T := [], X := X, L := rfL L' (R .busy none), D := [] } [] W3 →
        ∃ W4, (Instr.endRound (w.heap.size + 1) jump).run P W3 = .ok (.bool jump.isNone) W4 ∧ HS (Gm W1 O) W1 { T := [], X := X, L := rfL L' (R (if jump.isNone then .ready else .done) jump), D := [] } [] W4 := by
      intro L' jump W3 hl hh
      have ho := hh.obj (i := σ.L.length + 1) (rfL_get hl)
      simp only [List.append_nil] at ho
      rw [hXd] at ho
      have hp := hh.putObj (i := σ.L.length + 1) (.loop (R (if jump.isNone then .ready else .done) jump)) (rfL_get hl)
      simp only [List.append_nil] at hp
      rw [hXd, rfL_set hl] at hp
      have := run_endRound (P := P) jump ho
      refine ⟨_, this, ?_⟩
      exact hp
    rintro e a₁ w₁ hq
    cases e with
    | normal =>
      obtain ⟨w₂, hb1, hb2⟩ := hq
      refine ⟨w₂, hb1, wpIn_mono hb2 ?_⟩
      rintro e a₂ w₃ hq2
      have rlt : ∀ (L' : List Ent) (r : Loop), L'.length = σ.L.length → (∀ e ∈ L', e.lt σ.L.length) → ∀ e ∈ rfL L' r, e.lt (rfL L' r).length := by
        intro L' r hl hh e he
        rw [rfL_len, hl]
        simp only [rfL, List.mem_append, List.mem_cons, List.not_mem_nil, or_false] at he
        rcases he with he | rfl | rfl
        · exact Ent.lt_mono (by omega) (hh e he)
        · trivial
        · trivial
      cases e with
      | normal =>
        obtain ⟨hφ2, L', nw, hq2⟩ := hq2
        have hq2 := hq2.trunc (by rw [rfL_len, hLl, hXl]) (rlt _ _ (hLl _) (hLlt _))
        obtain ⟨W4, he, hh⟩ := fin _ none w₃ (hLl (i + 1)) hq2
        obtain ⟨O', hu, hc⟩ := hju.back hh
        exact ⟨_, W4, he, O', hc, .inl ⟨rfl, hφ2, hu⟩⟩
      | ret =>
        obtain ⟨hφ2, L', nw, hq2⟩ := hq2
        have hq2 := hq2.trunc (by rw [rfL_len, hLx, hXl]) (rlt _ _ (hLx _) (hLxlt _))
        obtain ⟨W4, he, hh⟩ := fin _ (some .ret) w₃ (hLx i) hq2
        obtain ⟨O', hu, hc⟩ := hju.back hh
        exact ⟨_, W4, he, O', hc, .inr ⟨rfl, hφ2, hu⟩⟩
      | exit id => exact hq2.elim
      | goto t => exact hq2.elim
      | panic ch => exact hq2.elim
      | outgrown => exact hq2.elim
    | ret =>
      exact hq.elim
    | exit id => exact hq.elim
    | goto t => exact hq.elim
    | panic ch => exact hq.elim
    | outgrown => exact hq.elim
end rounds
end Go.Proofs.YtkcbmkoafmffoaaDoor
