/-
  Rows of cells that are read; slices.Clone and Clip; what New makes; there and inner.
-/
import Derived.Test.YteendcbmoagdfaaS
set_option linter.unusedVariables false
set_option linter.unusedSimpArgs false
set_option maxRecDepth 20000
set_option maxHeartbeats 4000000
namespace Go.Proofs.Yteendcbmoagdfaa
open Go Go.Eng

/-- The cells cs can be read at A, in blocks of G. -/
def Cs (G : Nat → Prop) (W : World) (A : Option Addr) (cs : List Value) : Prop :=
  cs = [] ∨ (okRd G W A 0 cs.length ∧ ∀ i u, cs[i]? = some u → rd W A i = u)

theorem Cs.keep {G : Nat → Prop} {W w : World} {A : Option Addr} {cs : List Value} (h : Cs G W A cs) (hk : Keep G W w) : Cs G w A cs := by
  rcases h with h | ⟨h1, h2⟩
  · exact .inl h
  · refine .inr ⟨okRd_keep h1 hk, fun i u hu => ?_⟩
    have := okRd_rd h1 hk i (List.getElem?_eq_some_iff.1 hu).1
    simp only [Nat.zero_add] at this
    rw [this, h2 i u hu]
theorem Cs.mono {G G' : Nat → Prop} {W : World} {A : Option Addr} {cs : List Value} (h : Cs G W A cs) (hg : ∀ b, G b → G' b) : Cs G' W A cs :=
  h.imp id fun h => ⟨okRd_mono h.1 hg, h.2⟩

def Vl.cs (x : Vl) : List Value := [.int .i64 x.k, .bool x.nul, .int .i64 x.hk, .int .i64 x.hn]
def flat (l : List Vl) : List Value := l.flatMap Vl.cs
theorem flat_length (l : List Vl) : (flat l).length = l.length * 4 := by
  induction l with
  | nil => rfl
  | cons x l ih => simp only [flat, List.flatMap_cons, List.length_append, List.length_cons] at ih ⊢; rw [ih]; simp [Vl.cs]; omega
theorem flat_append (l m : List Vl) : flat (l ++ m) = flat l ++ flat m := by simp [flat]
theorem flat_one (l : List Vl) : ∀ u ∈ flat l, u.oneCell' = true := by
  intro u hu
  obtain ⟨x, _, hx⟩ := List.mem_flatMap.1 hu
  simp only [Vl.cs, List.mem_cons, List.not_mem_nil, or_false] at hx
  rcases hx with rfl | rfl | rfl | rfl <;> rfl
theorem flat_get (l : List Vl) (k : Nat) (h : k < l.length) (j : Nat) (hj : j < 4) : (flat l)[k * 4 + j]? = (l[k].cs)[j]? := by
  induction l generalizing k with
  | nil => simp at h
  | cons x l ih =>
    cases k with
    | zero =>
      simp only [flat, List.flatMap_cons, Nat.zero_mul, Nat.zero_add, List.getElem_cons_zero]
      rw [List.getElem?_append_left (by simp [Vl.cs]; omega)]
    | succ k =>
      simp only [flat, List.flatMap_cons, List.getElem_cons_succ]
      rw [List.getElem?_append_right (by simp [Vl.cs]; omega)]
      rw [← ih k (by simpa using h)]
      simp only [flat, Vl.cs]
      congr 1
      simp
      omega
theorem flat_take (l : List Vl) (k : Nat) : (flat l).take (k * 4) = flat (l.take k) := by
  induction l generalizing k with
  | nil => simp [flat]
  | cons x l ih =>
    cases k with
    | zero => simp [flat]
    | succ k =>
      simp only [flat, List.flatMap_cons, List.take_succ_cons] at ih ⊢
      rw [show (k + 1) * 4 = x.cs.length + k * 4 by simp [Vl.cs]; omega, List.take_length_add_append, ih]

theorem SlV.cs {G : Nat → Prop} {W : World} {A : Option Addr} {l : List Vl} (h : SlV G W A l) : Cs G W A (flat l) := by
  by_cases hl : l = []
  · subst hl; exact .inl rfl
  · right
    have hpos : 0 < l.length := List.length_pos_iff.2 hl
    have h0 := (h 0 hpos).1
    obtain ⟨ad, hA, hg, _⟩ := h0
    cases A with
    | none => simp [pAdd] at hA
    | some ad0 =>
      simp only [pAdd, Option.map_some, Nat.zero_mul, Option.some.injEq] at hA
      have hb : ∀ n, (ad0.add n).block = ad0.block := add_block ad0
      have key : ∀ k (hk : k < l.length) j, j < 4 → (W.cell? (ad0.add (k * 4 + j))).isSome = true ∧ rd W (some ad0) (k * 4 + j) = rd W (pAdd (some ad0) (k * 4)) j := by
        intro k hk j hj
        obtain ⟨⟨ad, hA, _, hc⟩, _⟩ := h k hk
        simp only [pAdd, Option.map_some, Option.some.injEq] at hA
        subst hA
        have h1 := hc j hj
        rw [add_add] at h1
        refine ⟨by rw [Nat.zero_add] at h1; exact h1, ?_⟩
        simp only [rd, pAdd, Option.map_some, add_add]
      refine ⟨⟨ad0, rfl, by subst hA; rw [add_block] at hg; exact hg, ?_⟩, ?_⟩
      · intro j hj
        rw [flat_length] at hj
        have := (key (j / 4) (by omega) (j % 4) (Nat.mod_lt _ (by omega))).1
        rw [show j / 4 * 4 + j % 4 = j by omega] at this
        rw [Nat.zero_add]; exact this
      · intro i u hu
        have hi : i < (flat l).length := (List.getElem?_eq_some_iff.1 hu).1
        rw [flat_length] at hi
        have hk : i / 4 < l.length := by omega
        have hj : i % 4 < 4 := Nat.mod_lt _ (by omega)
        have h1 := (key (i / 4) hk (i % 4) hj).2
        have h2 := flat_get l (i / 4) hk (i % 4) hj
        rw [show i / 4 * 4 + i % 4 = i by omega] at h1 h2
        rw [h1]
        rw [hu] at h2
        obtain ⟨_, h3, h4, h5, h6⟩ := h (i / 4) hk
        have : i % 4 = 0 ∨ i % 4 = 1 ∨ i % 4 = 2 ∨ i % 4 = 3 := by omega
        rcases this with e | e | e | e <;> rw [e] at h2 ⊢ <;> simp only [Vl.cs, List.getElem?_cons_zero, List.getElem?_cons_succ, Option.some.injEq] at h2 <;> rw [h2] <;> assumption

theorem SlV.of_cs {G : Nat → Prop} {W : World} {A : Option Addr} {l : List Vl} (h : Cs G W A (flat l)) : SlV G W A l := by
  intro k hk
  rcases h with h | ⟨⟨ad, rfl, hg, hc⟩, h2⟩
  · have := congrArg List.length h
    rw [flat_length] at this
    simp at this
    omega
  · rw [flat_length] at hc
    have hr : ∀ j, j < 4 → ∀ u, (l[k].cs)[j]? = some u → rd W (pAdd (some ad) (k * 4)) j = u := by
      intro j hj u hu
      have := h2 (k * 4 + j) u (by rw [flat_get l k hk j hj]; exact hu)
      rw [← this]
      simp only [rd, pAdd, Option.map_some, add_add]
    refine ⟨⟨_, rfl, by rw [add_block]; exact hg, fun j hj => ?_⟩, hr 0 (by omega) _ rfl, hr 1 (by omega) _ rfl, hr 2 (by omega) _ rfl, hr 3 (by omega) _ rfl⟩
    have := hc (k * 4 + j) (by omega)
    rw [add_add, Nat.zero_add]
    rw [Nat.zero_add] at this
    exact this

/-- A slice that was made: n elements, the cells cs. -/
structure FSl (w w' : World) (ty size n : Nat) (cs : List Value) (nl : Bool) (b cap : Nat) (cur : List Value) : Prop where
  capk : n ≤ cap
  capm : cap ≤ maxLen
  len : cur.length = cap * size
  take : cur.take (n * size) = cs
  nil : nl = true → cap = 0
  row : nl = false → w.heap.size ≤ b ∧ b < w'.heap.size ∧ w'.heap[b]? = some (.cells cur.toArray ty (0, 0))

theorem st_clone {w : World} (A : Option Addr) (n c : Nat) (cs : List Value) (hcs : Cs (· < w.heap.size) w A cs) (hl : cs.length = n * 4) (hA : A = none → n = 0) (h1 : ∀ u ∈ cs, u.oneCell' = true) (hn : n ≤ 1000000) :
    Calls Try.prog 28 #[.slice A n c] w fun e w' => ∃ nl b cap cur, e = .returned (.slice (sA nl b 0) n cap) ∧ Ext w w' ∧ FSl w w' 41 4 n cs nl b cap cur := by
  refine start0 (args := [.v (.slice A n c)]) (G := (· < w.heap.size)) Try.func28 rfl Try.ntmps28 (by simp [SV.lt]) (fun _ h => h) ?_
  refine Res.run 1000 ?_
  cases A with
  | none =>
    obtain rfl := hA rfl
    have : cs = [] := List.eq_nil_of_length_eq_zero (by simpa using hl)
    subst this
    simp only [↓reduceIte, Nat.reduceEqDiff, Nat.reduceAdd, Nat.reduceSub, Nat.reduceMul, Nat.reduceLT, Int.reduceToNat, Int.reduceBEq, Int.reduceBNe, Int.reduceLT, Int.reduceLE, E, E', TY]
    refine Ret.body [.v (.slice none 0 0)] rfl (by kernel_rfl) fun new w' hs => ?_
    exact ⟨true, 0, 0, [], rfl, hs.ext, ⟨by omega, by simp [maxLen], by simp, by simp, fun _ => rfl, fun h => by cases h⟩⟩
  | some ad =>
    simp only [↓reduceIte, Nat.reduceEqDiff, Nat.reduceAdd, Nat.reduceSub, Nat.reduceMul, Nat.reduceLT, Int.reduceToNat, Int.reduceBEq, Int.reduceBNe, Int.reduceLT, Int.reduceLE, E, E', TY]
    refine Res.op (OpAt.append (x := .tmp 5) (y := .tmp 6) (t := 22) (e := 41) (size := 4) (bytes := 32) (i := 0) (nl := false) (n := 0) (cap := 0) (m := n) (cur := []) cs rfl rfl rfl rfl ap22 rfl (by kernel_rfl) rfl (by omega) (by simp [maxLen]) (fun h => by cases h) (SrcOK.v (A := some ad) (c := c) rfl (fun h => by cases h) ?_) hl h1 ⟨by simp [maxLen]; omega, by omega⟩ fun nl cap cur c1 c2 c3 c4 c5 c6 => Res.run 900 ?_)
    · exact hcs
    simp only [↓reduceIte, Nat.reduceEqDiff, Nat.reduceAdd, Nat.reduceSub, Nat.reduceMul, Nat.reduceLT, Int.reduceToNat, Int.reduceBEq, Int.reduceBNe, Int.reduceLT, Int.reduceLE, E, E', TY]
    refine Ret.body [.s 1 nl 0 (0 + n) cap] rfl (by kernel_rfl) fun new w' hs => ?_
    simp only [Nat.zero_add, Nat.zero_mul, List.take_zero, List.nil_append] at c1 c4
    obtain ⟨own, ho⟩ := hs
    have h2 := ho.ok 1 _ rfl
    refine ⟨nl, new.getD 1 0, cap, cur, by simp [resOf, SV.den], ho.keep, ⟨c1, c2, c3, c4, c5, fun hn => ?_⟩⟩
    obtain ⟨h3, h4⟩ := h2 hn
    obtain ⟨h5, h6⟩ := ho.out 1 _ (by simp) h3
    exact ⟨Nat.le_of_not_lt h5, h6, h4⟩
end Go.Proofs.Yteendcbmoagdfaa
