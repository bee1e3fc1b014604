/-
  The roll layer: lists of numbers searched and cloned; the closure by which a group is rolled up.
-/
import Derived.Test.YtkcbmkoafmffoaaDoorRA
set_option linter.unusedVariables false
set_option linter.unusedSimpArgs false
set_option maxRecDepth 20000
set_option maxHeartbeats 8000000
namespace Go.Proofs.YtkcbmkoafmffoaaDoor
open Go Go.Eng

theorem m_idxI {w : World} (A : Option Addr) (c : Nat) (l : List Int) (g : Nat) (q : Addr) (p : Int → Bool) (hg : fnOK Tryd.prog g = true) (hp : ∀ n w', Ext w w' → Calls Tryd.prog g #[.int .i64 n, .pointer (some q)] w' fun e w'' => e = .returned (.bool (p n)) ∧ Ext w' w'') (hA : Cs (· < w.heap.size) w A (ics l)) (hz : l.length ≤ 1100000) :
    Calls Tryd.prog 76 #[.slice A l.length c, .func (.func g) #[] #[.pointer (some q)]] w fun e w' => ∃ i : Int, e = .returned (.int .i64 i) ∧ decide (i ≥ 0) = l.any p ∧ Ext w w' := by
  refine start0 (args := [.v (.slice A l.length c), .v (.func (.func g) #[] #[.pointer (some q)])]) (G := (· < w.heap.size)) Tryd.func76 rfl Tryd.ntmps76 (by simp [SV.lt]) (fun _ h => h) ?_
  refine Res.run 1000 ?_
  simp only [↓reduceIte, Nat.reduceEqDiff, Nat.reduceAdd, Nat.reduceSub, Nat.reduceMul, Nat.reduceLT, Int.reduceToNat, Int.reduceBEq, Int.reduceBNe, Int.reduceLT, Int.reduceLE, E, E', TY]
  refine Res.loop (X := {k : Nat // k ≤ l.length ∧ ∀ j (h : j < l.length), j < k → p l[j] = false})
    (fun x => { T := mkT 19 [(0, .v (.slice A l.length c)), (1, .v (.func (.func g) #[] #[.pointer (some q)])), (7, .v (.int .i64 l.length)), (8, .v (.int .i64 (x.1 : Int)))], X := [], L := [], D := [] })
    (fun x => l.length - x.1) ⟨0, by omega, fun _ _ h => absurd h (by omega)⟩ (St.Le.of 0 (by simp only [↓reduceIte, Nat.reduceEqDiff, Nat.reduceAdd, Nat.reduceSub, Nat.reduceMul, Nat.reduceLT, Int.reduceToNat, Int.reduceBEq, Int.reduceBNe, Int.reduceLT, Int.reduceLE, E, E', TY]; simp)) ?_
  rintro ⟨k, hk, hinv⟩
  simp only at hk hinv ⊢
  refine Res.run 900 ?_
  by_cases hlt : k < l.length
  case neg =>
    have e2 : decide ((k : Int) < (l.length : Int)) = false := by simp; omega
    simp only [↓reduceIte, Nat.reduceEqDiff, Nat.reduceAdd, Nat.reduceSub, Nat.reduceMul, Nat.reduceLT, Int.reduceToNat, Int.reduceBEq, Int.reduceBNe, Int.reduceLT, Int.reduceLE, E, E', TY, e2]
    refine Ret.body [.v (.int .i64 (-1))] rfl (by kernel_rfl) fun new w' hs => ⟨-1, rfl, ?_, hs.keep⟩
    have : l.any p = false := by
      rw [List.any_eq_false]
      intro f hf
      obtain ⟨j, hj, rfl⟩ := List.mem_iff_getElem.1 hf
      rw [hinv j hj (by omega)]; simp
    rw [this]; rfl
  have e2 : decide ((k : Int) < (l.length : Int)) = true := by simp; omega
  obtain ⟨a0, a1⟩ := ics_at hA k hlt
  have hAs : A.isSome = true := okRd_some a0
  simp only [↓reduceIte, Nat.reduceEqDiff, Nat.reduceAdd, Nat.reduceSub, Nat.reduceMul, Nat.reduceLT, Int.reduceToNat, Int.reduceBEq, Int.reduceBNe, Int.reduceLT, Int.reduceLE, E, E', TY, e2, a1, Int.toNat_natCast]
  refine ⟨⟨by omega, by omega, hAs⟩, a0, hg, ?_⟩
  refine CallAt.det #[.int .i64 l[k], .pointer (some q)] (.bool (p l[k])) (fun ids => rfl) (fun w' hw => hp l[k] w' hw) (Res.run 900 ?_)
  cases hv : p l[k] with
  | true =>
    simp only [↓reduceIte, Nat.reduceEqDiff, Nat.reduceAdd, Nat.reduceSub, Nat.reduceMul, Nat.reduceLT, Int.reduceToNat, Int.reduceBEq, Int.reduceBNe, Int.reduceLT, Int.reduceLE, E, E', TY]
    refine Ret.body [.v (.int .i64 (k : Int))] rfl (by kernel_rfl) fun new w' hs => ⟨k, rfl, ?_, hs.keep⟩
    have : l.any p = true := List.any_eq_true.2 ⟨l[k], List.getElem_mem hlt, hv⟩
    rw [this]; simp
  | false =>
    simp only [↓reduceIte, Nat.reduceEqDiff, Nat.reduceAdd, Nat.reduceSub, Nat.reduceMul, Nat.reduceLT, Int.reduceToNat, Int.reduceBEq, Int.reduceBNe, Int.reduceLT, Int.reduceLE, E, E', TY]
    refine ⟨i64ok_of (by omega) (by omega), ?_⟩
    refine Res.again (⟨k + 1, by omega, fun j h1 hj => ?_⟩ : {k : Nat // k ≤ l.length ∧ ∀ j (h : j < l.length), j < k → p l[j] = false}) (by simp only; omega) (St.Le.of 0 (by simp only [↓reduceIte, Nat.reduceEqDiff, Nat.reduceAdd, Nat.reduceSub, Nat.reduceMul, Nat.reduceLT, Int.reduceToNat, Int.reduceBEq, Int.reduceBNe, Int.reduceLT, Int.reduceLE, E, E', TY, Int.natCast_add, Int.cast_ofNat_Int]))
    by_cases hjk : j = k
    · subst hjk; exact hv
    · exact hinv j h1 (by omega)

theorem m_ctI {w : World} (A : Option Addr) (c : Nat) (l : List Int) (g : Nat) (q : Addr) (p : Int → Bool) (hg : fnOK Tryd.prog g = true) (hp : ∀ n w', Ext w w' → Calls Tryd.prog g #[.int .i64 n, .pointer (some q)] w' fun e w'' => e = .returned (.bool (p n)) ∧ Ext w' w'') (hA : Cs (· < w.heap.size) w A (ics l)) (hz : l.length ≤ 1100000) :
    Calls Tryd.prog 50 #[.slice A l.length c, .func (.func g) #[] #[.pointer (some q)]] w fun e w' => e = .returned (.bool (l.any p)) ∧ Ext w w' := by
  refine start0 (args := [.v (.slice A l.length c), .v (.func (.func g) #[] #[.pointer (some q)])]) (G := (· < w.heap.size)) Tryd.func50 rfl Tryd.ntmps50 (by simp [SV.lt]) (fun _ h => h) ?_
  refine Res.run 1000 ?_
  simp only [↓reduceIte, Nat.reduceEqDiff, Nat.reduceAdd, Nat.reduceSub, Nat.reduceMul, Nat.reduceLT, Int.reduceToNat, Int.reduceBEq, Int.reduceBNe, Int.reduceLT, Int.reduceLE, E, E', TY]
  refine ⟨fnok76, CallAt.sm (fun u => ∃ i : Int, u = .int .i64 i ∧ decide (i ≥ 0) = l.any p) (fun new w' hs => ?_) ?_⟩
  · refine (m_idxI A c l g q p hg (fun n w2 h2 => hp n w2 (Ext.trans hs.ext h2)) (hA.ext hs.keep) hz).mono ?_
    rintro e w'' ⟨i, rfl, hi, hE⟩
    exact ⟨_, rfl, hE, i, rfl, hi⟩
  · rintro u ⟨i, rfl, hi⟩
    refine Res.run 900 ?_
    simp only [↓reduceIte, Nat.reduceEqDiff, Nat.reduceAdd, Nat.reduceSub, Nat.reduceMul, Nat.reduceLT, Int.reduceToNat, Int.reduceBEq, Int.reduceBNe, Int.reduceLT, Int.reduceLE, E, E', TY, hi]
    exact Ret.one rfl (by kernel_rfl)

theorem m_cloneI {w : World} (A : Option Addr) (c : Nat) (l : List Int) (hA : Cs (· < w.heap.size) w A (ics l)) (hn : A = none → l = []) (hz : l.length ≤ 1100000) :
    Calls Tryd.prog 55 #[.slice A l.length c] w fun e w' => ∃ nl b cap cur, e = .returned (.slice (sA nl b 0) l.length cap) ∧ FS0 1 l.length (ics l) nl cap cur ∧ Ext w w' ∧ (nl = false → w.heap.size ≤ b ∧ b < w'.heap.size ∧ w'.heap[b]? = some (.cells cur.toArray 3 (0, 0))) := by
  refine start0 (args := [.v (.slice A l.length c)]) (G := (· < w.heap.size)) Tryd.func55 rfl Tryd.ntmps55 (by simp [SV.lt]) (fun _ h => h) ?_
  refine Res.run 1000 ?_
  cases A with
  | none =>
    obtain rfl := hn rfl
    simp only [↓reduceIte, Nat.reduceEqDiff, Nat.reduceAdd, Nat.reduceSub, Nat.reduceMul, Nat.reduceLT, Int.reduceToNat, Int.reduceBEq, Int.reduceBNe, Int.reduceLT, Int.reduceLE, E, E', TY]
    refine Ret.body [.v (.slice none 0 0)] rfl (by kernel_rfl) fun new w' hs => ?_
    exact ⟨true, 0, 0, [], rfl, ⟨by simp, by simp [maxLen], by simp, rfl, fun _ => rfl⟩, hs.ext, fun h => by cases h⟩
  | some ad =>
    simp only [↓reduceIte, Nat.reduceEqDiff, Nat.reduceAdd, Nat.reduceSub, Nat.reduceMul, Nat.reduceLT, Int.reduceToNat, Int.reduceBEq, Int.reduceBNe, Int.reduceLT, Int.reduceLE, E, E', TY]
    refine Res.op (OpAt.append (x := .tmp 5) (y := .tmp 6) (t := 44) (e := 3) (size := 1) (bytes := 8) (i := 0) (nl := false) (n := 0) (cap := 0) (m := l.length) (cur := []) (ics l) rfl rfl rfl rfl ap44 rfl (by kernel_rfl) rfl (by omega) (by simp [maxLen]) (fun h => by cases h) (SrcOK.v (A := some ad) (c := c) rfl (fun h => by cases h) hA) (ics_len l) (flat_one i1_one l) ⟨by simp [maxLen]; omega, by omega⟩ fun nl cap cur c1 c2 c3 c4 c5 c6 => Res.run 900 ?_)
    simp only [↓reduceIte, Nat.reduceEqDiff, Nat.reduceAdd, Nat.reduceSub, Nat.reduceMul, Nat.reduceLT, Int.reduceToNat, Int.reduceBEq, Int.reduceBNe, Int.reduceLT, Int.reduceLE, E, E', TY]
    refine Ret.body [.s 1 nl 0 (0 + l.length) cap] rfl (by kernel_rfl) fun new w' hs => ?_
    simp only [Nat.zero_add, Nat.zero_mul, List.take_zero, List.nil_append] at c1 c4
    obtain ⟨own, ho⟩ := hs
    have h2 := ho.ok 1 _ rfl
    refine ⟨nl, new.getD 1 0, cap, cur, by simp [resOf, SV.den], ⟨c1, c2, c3, c4, c5⟩, ho.keep, fun hn => ?_⟩
    obtain ⟨h3, h4⟩ := h2 hn
    obtain ⟨h5, h6⟩ := ho.out 1 _ (by simp) h3
    exact ⟨Nat.le_of_not_lt h5, h6, h4⟩

/-- The closure that asks whether a number is one. -/
theorem m_add1 {w : World} {O : Nat → Prop} {p q : Nat} {s : TS} (h : TabW w O p s) (hq : w.heap[q]? = some (.cells #[.pointer (some ⟨p, 0, none⟩)] 45 (0, 0))) (n : Int) :
    Calls Tryd.prog 51 #[.int .i64 n, .pointer (some ⟨q, 0, none⟩)] w fun e w' => e = .returned (.bool (!hasF s n)) ∧ Ext w w' := by
  have h2 : rd w (some ⟨q, 0, none⟩) 0 = .pointer (some ⟨p, 0, none⟩) := rd0 (l := [_]) hq 0
  have o2 := okRd0 (l := [_]) hq 0 1 (by simp)
  refine start0 (args := [.v (.int .i64 n), .v (.pointer (some ⟨q, 0, none⟩))]) (G := (· < w.heap.size)) Tryd.func51 rfl Tryd.ntmps51 (by simp [SV.lt]) (fun _ h => h) ?_
  refine Res.run 1000 ?_
  simp only [↓reduceIte, Nat.reduceEqDiff, Nat.reduceAdd, Nat.reduceSub, Nat.reduceMul, Nat.reduceLT, Int.reduceToNat, Int.reduceBEq, Int.reduceBNe, Int.reduceLT, Int.reduceLE, E, E', TY, h2]
  refine ⟨o2, fnok52, CallAt.pure #[.pointer (some ⟨p, 0, none⟩), .int .i64 n] (.bool (hasF s n)) (fun _ => rfl) (fun w' hw => m_has (h.ext hw) n) (Res.run 900 ?_)⟩
  simp only [↓reduceIte, Nat.reduceEqDiff, Nat.reduceAdd, Nat.reduceSub, Nat.reduceMul, Nat.reduceLT, Int.reduceToNat, Int.reduceBEq, Int.reduceBNe, Int.reduceLT, Int.reduceLE, E, E', TY]
  exact Ret.one rfl (by kernel_rfl)

/-! ### rolling up -/
def rollH (ids : List Int) (m : Nat) (h : Hp) : Hp :=
  if h.k ≠ 13 then h else if 0 ≤ h.n ∧ h.n < ids.length then ⟨15, ids.getD h.n.toNat 0⟩ else if (ids.length : Int) ≤ h.n ∧ h.n < ids.length + m then ⟨14, h.n - ids.length⟩ else h
def rollOk (ids : List Int) (m : Nat) (h : Hp) : Bool := decide (h.k ≠ 13 ∨ (0 ≤ h.n ∧ h.n < ids.length + m))
/-- A bool in a cell of block p. -/
def OkI (p : Nat) (b : Bool) : Inv := ⟨fun O w => O p ∧ w.heap[p]? = some (.cells #[.bool b] 4 (0, 0)), fun h hw => ⟨h.1, by rw [hw _ h.1]; exact h.2⟩⟩
/-- What the closure has at hand. -/
structure CapR (G : Nat → Prop) (W : World) (bn bi bg : Nat) (ids : List Int) (A : Option Addr) (c : Nat) (B : Option Addr) (m cg : Nat) : Prop where
  n : G bn ∧ W.heap[bn]? = some (.cells #[.int .i64 ids.length] 3 (0, 0))
  i : G bi ∧ W.heap[bi]? = some (.cells #[.slice A ids.length c] 44 (0, 0))
  g : G bg ∧ W.heap[bg]? = some (.cells #[.slice B m cg] 51 (0, 0))
  a : Cs G W A (ics ids)

theorem add2_step {G : Nat → Prop} {W : World} {bn bi bg bo : Nat} {ids : List Int} {A : Option Addr} {c : Nat} {B : Option Addr} {m cg : Nat} (hc : CapR G W bn bi bg ids A c B m cg) (hz : ids.length ≤ 1100000) (hm : m ≤ 1100000) (b : Bool) (h : Hp) (hh : i64ok h.n) :
    Step G W 53 [.pointer (some ⟨bn, 0, none⟩), .pointer (some ⟨bi, 0, none⟩), .pointer (some ⟨bg, 0, none⟩), .pointer (some ⟨bo, 0, none⟩)] h (rollH ids m h) (OkI bo b) (OkI bo (b && rollOk ids m h)) := by
  intro w O hK hI hO
  obtain ⟨k, n⟩ := h
  obtain ⟨r, hr⟩ : ∃ r, rollH ids m ⟨k, n⟩ = r := ⟨_, rfl⟩
  obtain ⟨o, ho⟩ : ∃ o, rollOk ids m ⟨k, n⟩ = o := ⟨_, rfl⟩
  rw [hr, ho]
  unfold rollH at hr
  unfold rollOk at ho
  simp only at hr ho hh
  have gm : ∀ x, G x → W.heap[x]? ≠ none → Gm w O x := fun x hx hn => by
    refine ⟨?_, fun ho => (hO x ho).1 hx⟩
    have := hK.block x hx
    rcases Nat.lt_or_ge x w.heap.size with h' | h'
    · exact h'
    · rw [Array.getElem?_eq_none h'] at this; exact absurd this.symm hn
  have hn : w.heap[bn]? = some (.cells #[.int .i64 ids.length] 3 (0, 0)) := by rw [hK.block _ hc.n.1]; exact hc.n.2
  have hi : w.heap[bi]? = some (.cells #[.slice A ids.length c] 44 (0, 0)) := by rw [hK.block _ hc.i.1]; exact hc.i.2
  have hg : w.heap[bg]? = some (.cells #[.slice B m cg] 51 (0, 0)) := by rw [hK.block _ hc.g.1]; exact hc.g.2
  have rn : rd w (some ⟨bn, 0, none⟩) 0 = .int .i64 ids.length := rd0 (l := [_]) hn 0
  have ri : rd w (some ⟨bi, 0, none⟩) 0 = .slice A ids.length c := rd0 (l := [_]) hi 0
  have rg : rd w (some ⟨bg, 0, none⟩) 0 = .slice B m cg := rd0 (l := [_]) hg 0
  have ok1 : ∀ {x : Nat} {v : Value} {t : Nat}, G x → W.heap[x]? ≠ none → w.heap[x]? = some (.cells #[v] t (0, 0)) → okRd (Gm w O) w (some ⟨x, 0, none⟩) 0 1 := by
    intro x v t hx hne hw
    obtain ⟨ad, e, _, h3⟩ := okRd0 (l := [v]) hw 0 1 (by simp)
    have e := Option.some.inj e
    subst e
    exact ⟨_, rfl, gm x hx hne, h3⟩
  have on := ok1 hc.n.1 (by rw [hc.n.2]; simp) hn
  have oi := ok1 hc.i.1 (by rw [hc.i.2]; simp) hi
  have og := ok1 hc.g.1 (by rw [hc.g.2]; simp) hg
  have hA : ∀ i (hi : i < ids.length), okRd (Gm w O) w (pAdd A (i * 1)) 0 1 ∧ rd w (pAdd A (i * 1)) 0 = .int .i64 ids[i] := by
    intro i hi
    obtain ⟨h1, h2⟩ := ics_at (hc.a.keep hK) i hi
    obtain ⟨ad, e, hg', h3⟩ := h1
    refine ⟨⟨ad, e, ?_, h3⟩, h2⟩
    refine ⟨?_, fun ho => (hO _ ho).1 hg'⟩
    have := h3 0 (by omega)
    rcases Nat.lt_or_ge ad.block w.heap.size with h' | h'
    · exact h'
    · have e : (ad.add (0 + 0)).block = ad.block := add_block _ _
      simp only [World.cell?, e, Array.getElem?_eq_none h'] at this
      cases this
  have hst : HS (Gm w O) w { T := T0 [.v (.agg #[.int .i64 k, .int .i64 n]), .v (.pointer (some ⟨bn, 0, none⟩)), .v (.pointer (some ⟨bi, 0, none⟩)), .v (.pointer (some ⟨bg, 0, none⟩)), .p 0 0] 48, X := [bo], L := [.cells 4 [.v (.bool b)]], D := [] } [] w := by
    refine ⟨fun i x => i = 0 ∧ x = bo, rfl, ?_, ?_, ?_, ?_, fun b hb => hb.1, Keep.refl _ _⟩
    · intro i e hi
      match i, hi with
      | 0, hi =>
        simp at hi; subst hi
        exact ⟨⟨rfl, rfl⟩, hI.2⟩
    · intro e he
      simp at he; subst he
      intro c hc'
      simp at hc'; subst hc'; trivial
    · rintro i j x hi hj hij ⟨rfl, rfl⟩ ⟨rfl, _⟩
      exact hij rfl
    · rintro i x hi ⟨rfl, rfl⟩
      exact ⟨fun hg => hg.2 hI.1, (hO _ hI.1).2⟩
  refine Go.Eng.start (X := [bo]) (L := [.cells 4 [.v (.bool b)]]) (args := [.v (.agg #[.int .i64 k, .int .i64 n]), .v (.pointer (some ⟨bn, 0, none⟩)), .v (.pointer (some ⟨bi, 0, none⟩)), .v (.pointer (some ⟨bg, 0, none⟩)), .p 0 0]) (G := Gm w O) Tryd.func53 rfl Tryd.ntmps53 (by simp [SV.lt]) hst ?_
  refine Res.run 1000 ?_
  have fin : ∀ {T : List (Option SV)} {X : List Nat} {L : List Ent} {b' : Bool} {new : List Nat} {w' : World}, HS (Gm w O) w { T := T, X := bo :: X, L := .cells 4 [.v (.bool b')] :: L, D := [] } new w' → ∃ O', (OkI bo b').R O' w' ∧ Chg w w' O O' := by
    rintro T X L b' new w' ⟨own, ho'⟩
    have g0 := ho'.ok 0 _ rfl
    exact ⟨own 0, g0, chg_of ho' 0 (by simp)⟩
  by_cases h13 : k = 13
  case neg =>
    have e1 : (k != 13) = true := by simp [h13]
    rw [if_pos h13] at hr
    subst hr
    obtain rfl : o = true := by rw [← ho]; exact decide_eq_true (.inl h13)
    simp only [↓reduceIte, Nat.reduceEqDiff, Nat.reduceAdd, Nat.reduceSub, Nat.reduceMul, Nat.reduceLT, Int.reduceToNat, Int.reduceBEq, Int.reduceBNe, Int.reduceLT, Int.reduceLE, E, E', TY, e1]
    refine Ret.body [.agg [.v (.int .i64 k), .v (.int .i64 n)]] rfl (by kernel_rfl) fun new w' hs => ?_
    obtain ⟨O', h1, h2⟩ := fin hs
    exact ⟨O', rfl, h1, h2⟩
  have e1 : (k != 13) = false := by simp [h13]
  rw [if_neg (by simp [h13])] at hr
  by_cases h0 : n ≥ 0 ∧ n < ids.length
  · have e2 : decide (n ≥ 0) = true := decide_eq_true h0.1
    have e3 : decide (n < ((ids.length : Nat) : Int)) = true := decide_eq_true h0.2
    rw [if_pos h0] at hr
    obtain rfl : o = true := by rw [← ho]; exact decide_eq_true (.inr ⟨h0.1, by omega⟩)
    obtain ⟨q1, q2⟩ := hA n.toNat (by omega)
    have hAs : A.isSome = true := okRd_some q1
    simp only [↓reduceIte, Nat.reduceEqDiff, Nat.reduceAdd, Nat.reduceSub, Nat.reduceMul, Nat.reduceLT, Int.reduceToNat, Int.reduceBEq, Int.reduceBNe, Int.reduceLT, Int.reduceLE, E, E', TY, e1, e2, e3, rn, ri, q2]
    refine ⟨on, oi, ⟨h0.1, h0.2, hAs⟩, q1, ?_⟩
    refine Ret.body [.agg [.v (.int .i64 15), .v (.int .i64 ids[n.toNat])]] rfl (by kernel_rfl) fun new w' hs => ?_
    obtain ⟨O', h1, h2⟩ := fin hs
    refine ⟨O', ?_, h1, h2⟩
    rw [← hr, List.getD_eq_getElem?_getD, List.getElem?_eq_getElem (by omega)]
    rfl
  rw [if_neg h0] at hr
  have e23 : (decide (n ≥ 0) = true ∧ decide (n < ((ids.length : Nat) : Int)) = false) ∨ decide (n ≥ 0) = false := by
    by_cases h : n ≥ 0
    · exact .inl ⟨decide_eq_true h, decide_eq_false (by omega)⟩
    · exact .inr (decide_eq_false h)
  by_cases h1 : n ≥ ids.length
  case neg =>
    have e4 : decide (n ≥ ((ids.length : Nat) : Int)) = false := decide_eq_false h1
    rw [if_neg (by omega)] at hr
    subst hr
    obtain rfl : o = false := by rw [← ho]; exact decide_eq_false (by omega)
    have e2 : decide (n ≥ 0) = false := decide_eq_false (by omega)
    simp only [↓reduceIte, Nat.reduceEqDiff, Nat.reduceAdd, Nat.reduceSub, Nat.reduceMul, Nat.reduceLT, Int.reduceToNat, Int.reduceBEq, Int.reduceBNe, Int.reduceLT, Int.reduceLE, E, E', TY, e1, e2, e4, rn]
    refine ⟨on, ?_⟩
    refine Ret.body [.agg [.v (.int .i64 k), .v (.int .i64 n)]] rfl (by kernel_rfl) fun new w' hs => ?_
    obtain ⟨O', h1, h2⟩ := fin hs
    exact ⟨O', rfl, h1, h2⟩
  have e4 : decide (n ≥ ((ids.length : Nat) : Int)) = true := decide_eq_true h1
  have e2 : decide (n ≥ 0) = true := decide_eq_true (by omega)
  have e3 : decide (n < ((ids.length : Nat) : Int)) = false := decide_eq_false (by omega)
  by_cases h2 : n < ids.length + m
  · have e5 : decide (n < ((ids.length : Nat) : Int) + (m : Int)) = true := decide_eq_true h2
    rw [if_pos ⟨h1, h2⟩] at hr
    subst hr
    obtain rfl : o = true := by rw [← ho]; exact decide_eq_true (.inr ⟨by omega, h2⟩)
    simp only [↓reduceIte, Nat.reduceEqDiff, Nat.reduceAdd, Nat.reduceSub, Nat.reduceMul, Nat.reduceLT, Int.reduceToNat, Int.reduceBEq, Int.reduceBNe, Int.reduceLT, Int.reduceLE, E, E', TY, e1, e2, e3, e4, e5, rn, rg]
    refine ⟨on, on, on, og, i64ok_of (by omega) (by omega), on, i64ok_of (by omega) (by have := hh.2; omega), ?_⟩
    refine Ret.body [.agg [.v (.int .i64 14), .v (.int .i64 (n - ids.length))]] rfl (by kernel_rfl) fun new w' hs => ?_
    obtain ⟨O', h1, h2⟩ := fin hs
    exact ⟨O', rfl, h1, h2⟩
  · have e5 : decide (n < ((ids.length : Nat) : Int) + (m : Int)) = false := decide_eq_false h2
    rw [if_neg (by omega)] at hr
    subst hr
    obtain rfl : o = false := by rw [← ho]; exact decide_eq_false (by omega)
    simp only [↓reduceIte, Nat.reduceEqDiff, Nat.reduceAdd, Nat.reduceSub, Nat.reduceMul, Nat.reduceLT, Int.reduceToNat, Int.reduceBEq, Int.reduceBNe, Int.reduceLT, Int.reduceLE, E, E', TY, e1, e2, e3, e4, e5, rn, rg]
    refine ⟨on, on, on, og, i64ok_of (by omega) (by omega), ?_⟩
    refine Ret.body [.agg [.v (.int .i64 k), .v (.int .i64 n)]] rfl (by kernel_rfl) fun new w' hs => ?_
    obtain ⟨O', h1, h2⟩ := fin hs
    exact ⟨O', rfl, h1, h2⟩
end Go.Proofs.YtkcbmkoafmffoaaDoor
