/-
  The machine as one thing: opened and closed; the methods, second part: take, Die, Dead.
-/
import Derived.Test.YteendcbmoagdfaaP
set_option linter.unusedVariables false
set_option linter.unusedSimpArgs false
set_option maxRecDepth 20000
set_option maxHeartbeats 4000000
namespace Go.Proofs.Yteendcbmoagdfaa
open Go Go.Eng

/-- What is known of the machine's parts in whatever world. -/
structure MachF (st : List Vl) (fr : List Frm) (p : MachP) : Prop where
  c1 : st.length ≤ p.cap1
  c2 : p.cap1 ≤ maxLen
  c3 : p.cur1.length = p.cap1 * 4
  c4 : p.cur1.take (st.length * 4) = flat st
  c5 : p.nl1 = true → p.cap1 = 0
  d1 : fr.length ≤ p.cap2
  d2 : p.cap2 ≤ maxLen
  d3 : p.cur2.length = p.cap2 * 6
  d4 : p.cur2.take (fr.length * 6) = fcells fr p.xs
  d5 : p.nl2 = true → p.cap2 = 0
  xl : fr.length = p.xs.length

theorem MachOK.toF {t : Nat} {st : List Vl} {fr : List Frm} {O : Nat → Prop} {m : Nat} {w : World} {p : MachP} (h : MachOK t st fr O m w p) : MachF st fr p :=
  ⟨h.s.capk, h.s.capm, h.s.len, h.s.take, h.s.nil, h.f.capk, h.f.capm, h.f.len, h.f.take, h.f.nil, h.r.1⟩

theorem MachF.frame {st : List Vl} {fr : List Frm} {p : MachP} (h : MachF st fr p) {k : Nat} (hk : k < fr.length) : ∃ hk', FrG p.cur2 k fr[k] (p.xs[k]'hk') := by
  have hk' : k < p.xs.length := by rw [← h.xl]; exact hk
  refine ⟨hk', ?_⟩
  have g : ∀ j u, j < 6 → (fcell fr[k] p.xs[k])[j]? = some u → gV p.cur2 (k * 6 + j) = u ∧ k * 6 + j < p.cur2.length := fun j u hj hu => row_get h.d4 (by rw [fcells_get k hk hk' j hj]; exact hu)
  exact ⟨(g 5 _ (by omega) rfl).2, (g 0 _ (by omega) rfl).1, (g 1 _ (by omega) rfl).1, (g 2 _ (by omega) rfl).1, (g 3 _ (by omega) rfl).1, (g 4 _ (by omega) rfl).1, (g 5 _ (by omega) rfl).1⟩
theorem MachF.nl1 {st : List Vl} {fr : List Frm} {p : MachP} (h : MachF st fr p) (hk : 0 < st.length) : p.nl1 = false := by
  cases hn : p.nl1 with
  | false => rfl
  | true => have := h.c5 hn; have := h.c1; omega
theorem MachF.nl2 {st : List Vl} {fr : List Frm} {p : MachP} (h : MachF st fr p) (hk : 0 < fr.length) : p.nl2 = false := by
  cases hn : p.nl2 with
  | false => rfl
  | true => have := h.d5 hn; have := h.d1; omega

section
variable {Q : Pst} {G : Nat → Prop} {W : World}

/-- The machine's own entry: where its rows are. -/
def mE0 (t n1 n2 i : Nat) (p : MachP) : Ent := .cells 58 [.v (.pointer (some ⟨t, 0, none⟩)), .s i p.nl1 0 n1 p.cap1, .s (i + 1) p.nl2 0 n2 p.cap2]
def mEs (fr : List Frm) (p : MachP) : List Ent := [.row p.nl1 41 p.cur1, .row p.nl2 69 p.cur2, .asn (FrA fr p.xs)]

theorem Res.mopen {pp : Option MachP} {t : Nat} {st : List Vl} {fr : List Frm} {σ : St} {k : List It} (i n : Nat) (hi : getE σ.L i = some (.asn (MachA t st fr pp))) (hn : σ.L.length = n)
    (h : ∀ p : MachP, MachF st fr p → Res Try.prog Q G W { σ with L := setE σ.L i (mE0 t st.length fr.length n p) ++ mEs fr p } k) : Res Try.prog Q G W σ k := by
  subst hn
  refine Res.openA i (MachA t st fr pp) hi (MachF st fr) (mE0 t st.length fr.length σ.L.length) (mEs fr) ?_ ?_ h
  · intro p
    refine ⟨?_, ?_⟩
    · intro c hc
      simp only [List.mem_cons, List.not_mem_nil, or_false] at hc
      rcases hc with rfl | rfl | rfl <;> simp [SV.lt, mEs]
    · intro e he
      simp only [mEs, List.mem_cons, List.not_mem_nil, or_false] at he
      rcases he with rfl | rfl | rfl <;> trivial
  · rintro ids O w hlen ⟨p, hp, _⟩ hO
    have g1 : (ids ++ [p.b1, p.b2, 0]).getD σ.L.length 0 = p.b1 := by rw [List.getD_eq_getElem?_getD, List.getElem?_append_right (by omega), hlen]; simp
    have g2 : (ids ++ [p.b1, p.b2, 0]).getD (σ.L.length + 1) 0 = p.b2 := by rw [List.getD_eq_getElem?_getD, List.getElem?_append_right (by omega), hlen]; simp
    refine ⟨p, [p.b1, p.b2, 0], p.own (ids.getD i 0), hp.toF, rfl, ⟨.inl ⟨rfl, rfl⟩, ?_⟩, ?_, hp.ap, hp.own⟩
    · rw [hp.hm]
      simp only [List.map_cons, List.map_nil, SV.den, g1, g2]
    · intro j e he
      match j with
      | 0 =>
        injection he with he; subst he
        exact fun hn => ⟨.inr (.inl ⟨rfl, hn, rfl⟩), hp.s.row hn⟩
      | 1 =>
        injection he with he; subst he
        exact fun hn => ⟨.inr (.inr (.inl ⟨rfl, hn, rfl⟩)), hp.f.row hn⟩
      | 2 =>
        injection he with he; subst he
        exact FrA_mono hp.r fun b hb => .inr (.inr (.inr ⟨rfl, hb⟩))
      | j + 3 => simp [mEs] at he

/-- What is tracked is a machine. -/
theorem machR_of {pp : Option MachP} {w : World} {t : Nat} {st : List Vl} {fr : List Frm} {σ : St} {new : List Nat} {own : Nat → Nat → Prop} {nl1 nl2 : Bool} {cap1 cap2 : Nat} {cur1 cur2 : List Value} {xs : List FA} (i0 i j : Nat) (C : List Nat) (S : Nat → Prop) (ho : HSo G W σ new w own)
    (h0 : σ.L[i0]? = some (.cells 58 [.v (.pointer (some ⟨t, 0, none⟩)), .s i nl1 0 st.length cap1, .s j nl2 0 fr.length cap2])) (hi : σ.L[i]? = some (.row nl1 41 cur1)) (hj : σ.L[j]? = some (.row nl2 69 cur2)) (hij : i ≠ i0 ∧ j ≠ i0 ∧ i ≠ j)
    (hSS : ∀ r, S r → r < σ.L.length ∧ r ≠ i0 ∧ r ≠ i ∧ r ≠ j) (hC : i0 ∈ C ∧ i ∈ C ∧ j ∈ C ∧ ∀ r, S r → r ∈ C)
    (f : MachF st fr ⟨nl1, (σ.X ++ new).getD i 0, cap1, cur1, nl2, (σ.X ++ new).getD j 0, cap2, cur2, xs, fun b => ∃ r, S r ∧ own r b⟩)
    (hr : (FrA fr xs).R (fun b => ∃ r, S r ∧ own r b) 0 w)
    (hpp : ∀ q, pp = some q → MachP.same ⟨nl1, (σ.X ++ new).getD i 0, cap1, cur1, nl2, (σ.X ++ new).getD j 0, cap2, cur2, xs, fun _ => False⟩ q := by intro _ h; cases h) : (MachA t st fr pp).R (fun b => ∃ r, r ∈ C ∧ r < σ.L.length ∧ own r b) ((σ.X ++ new).getD i0 0) w := by
  obtain ⟨k1, k2⟩ := ho.ok i0 _ h0
  have k3 := ho.ok i _ hi
  have k4 := ho.ok j _ hj
  have l0 := (List.getElem?_eq_some_iff.1 h0).1
  have li := (List.getElem?_eq_some_iff.1 hi).1
  have lj := (List.getElem?_eq_some_iff.1 hj).1
  let p : MachP := ⟨nl1, (σ.X ++ new).getD i 0, cap1, cur1, nl2, (σ.X ++ new).getD j 0, cap2, cur2, xs, fun b => ∃ r, S r ∧ own r b⟩
  have hown : ∀ a b, p.own ((σ.X ++ new).getD i0 0) a b → ∃ r, own r b ∧ r < σ.L.length ∧ r ∈ C ∧ ((a = 0 ∧ r = i0) ∨ (a = 1 ∧ r = i) ∨ (a = 2 ∧ r = j) ∨ (a = 3 ∧ S r)) := by
    rintro a b (⟨rfl, rfl⟩ | ⟨rfl, hn, rfl⟩ | ⟨rfl, hn, rfl⟩ | ⟨rfl, r, hS, hb⟩)
    · exact ⟨i0, k1, l0, hC.1, .inl ⟨rfl, rfl⟩⟩
    · exact ⟨i, (k3 hn).1, li, hC.2.1, .inr (.inl ⟨rfl, rfl⟩)⟩
    · exact ⟨j, (k4 hn).1, lj, hC.2.2.1, .inr (.inr (.inl ⟨rfl, rfl⟩))⟩
    · exact ⟨r, hb, (hSS r hS).1, hC.2.2.2 r hS, .inr (.inr (.inr ⟨rfl, hS⟩))⟩
  refine ⟨p, ⟨k2, ⟨f.c1, f.c2, f.c3, f.c4, f.c5, fun hn => (k3 hn).2⟩, ⟨f.d1, f.d2, f.d3, f.d4, f.d5, fun hn => (k4 hn).2⟩, hr, ?_, ?_⟩, fun q hq => hpp q hq⟩
  · intro a a' b haa h1 h2
    obtain ⟨r, hr1, hr2, _, hr3⟩ := hown a b h1
    obtain ⟨r', hr1', hr2', _, hr3'⟩ := hown a' b h2
    have hne : r ≠ r' := by
      rcases hr3 with ⟨rfl, rfl⟩ | ⟨rfl, rfl⟩ | ⟨rfl, rfl⟩ | ⟨rfl, hS⟩ <;> rcases hr3' with ⟨rfl, rfl⟩ | ⟨rfl, rfl⟩ | ⟨rfl, rfl⟩ | ⟨rfl, hS'⟩
      all_goals first | exact absurd rfl haa | (intro he; subst he; first | exact hij.1 rfl | exact hij.2.1 rfl | exact hij.2.2 rfl | exact (hSS _ hS').2.1 rfl | exact (hSS _ hS').2.2.1 rfl | exact (hSS _ hS').2.2.2 rfl | exact (hSS _ hS).2.1 rfl | exact (hSS _ hS).2.2.1 rfl | exact (hSS _ hS).2.2.2 rfl) | (intro he; first | exact hij.1 he.symm | exact hij.1 he | exact hij.2.1 he | exact hij.2.1 he.symm | exact hij.2.2 he | exact hij.2.2 he.symm)
    exact ho.apart r r' b hr2 hr2' hne hr1 hr1'
  · intro a b h
    obtain ⟨r, hr1, hr2, hrC, _⟩ := hown a b h
    exact ⟨r, hrC, hr2, hr1⟩
end

/-- A method begins. -/
theorem Mc.asn {w : World} {O : Nat → Prop} {m t : Nat} {st : List Vl} {fr : List Frm} {pp : Option MachP} (h : Mc w O m t st fr pp) (T : List (Option SV)) : HS (Gm w O) w { T := T, X := [m], L := [.asn (MachA t st fr pp)], D := [] } [] w := by
  refine ⟨fun i b => i = 0 ∧ O b, rfl, ?_, by simp [Ent.lt], ?_, ?_, fun b hb => hb.1, Keep.refl _ _⟩
  · intro i e hi
    match i with
    | 0 =>
      injection hi with hi; subst hi
      have : (fun b => (0 : Nat) = 0 ∧ O b) = O := by funext b; simp
      show (MachA t st fr pp).R (fun b => (0 : Nat) = 0 ∧ O b) m w
      rw [this]; exact h.R
    | i + 1 => simp at hi
  · rintro i j b _ _ hij ⟨rfl, _⟩ ⟨rfl, _⟩
    exact hij rfl
  · rintro i b _ ⟨_, hb⟩
    exact ⟨fun hg => hg.2 hb, h.lt b hb⟩

/-- A method ends. -/
theorem Mq.of_asn {W w : World} {O : Nat → Prop} {m t : Nat} {st : List Vl} {fr : List Frm} {pp pp' : Option MachP} {σ : St} {new : List Nat} (hs : HS (Gm W O) W σ new w) (hX : (σ.X ++ new).getD 0 0 = m) (h0 : σ.L[0]? = some (.asn (MachA t st fr pp'))) (hpp : ∀ q, pp = some q → ∃ p, pp' = some p ∧ p.same q := by first | exact fun q hq => ⟨q, hq, rfl⟩ | (intro _ h; cases h)) : Mq W w O m t st fr pp := by
  obtain ⟨own, ho⟩ := hs
  have l0 := (List.getElem?_eq_some_iff.1 h0).1
  have hR := ho.ok 0 _ h0
  obtain ⟨p, hp, hq⟩ := hR
  refine ⟨own 0, ⟨p, hX ▸ hp, fun q hqq => ?_⟩, ho.keep.os, ho.keep.tape, ho.keep.output, ho.keep.size, fun b hb hO => ho.keep.block b ⟨hb, hO⟩, fun b hb => ?_⟩
  · obtain ⟨p', h1, h2⟩ := hpp q hqq
    exact (hq p' h1).trans h2
  obtain ⟨h1, h2⟩ := ho.out 0 b l0 hb
  refine ⟨h2, ?_⟩
  by_cases hbs : b < W.heap.size
  · right
    by_cases hO : O b
    · exact hO
    · exact absurd ⟨hbs, hO⟩ h1
  · left; omega

/-- Within a walk: what a method must find. -/
theorem Mc.of {W w : World} {O : Nat → Prop} {t : Nat} {σ : St} {new : List Nat} {st : List Vl} {fr : List Frm} {pp : Option MachP} {m : Nat} {O' : Nat → Prop} (hs : HS (Gm W O) W σ new w) (hR : (MachA t st fr pp).R O' m w) (hO : ∀ b, O' b → ¬ Gm W O b ∧ b < w.heap.size) (ht : ETab W t) (hto : ¬ O t) : Mc w O' m t st fr pp := by
  refine ⟨hR, fun b hb => (hO b hb).2, ht.keepG hs.keep hto, fun h => (hO t h).1 ?_⟩
  obtain ⟨r, ht⟩ := ht
  exact ⟨(Array.getElem?_eq_some_iff.1 ht).1, hto⟩

section
variable {Q : Pst} {G : Nat → Prop} {W : World}

/-- The machine is closed: its parts are named. -/
theorem Res.mclose {t m q : Nat} {st : List Vl} {fr : List Frm} {p : MachP} {T : List (Option SV)} {X' : List Nat} {rest : List Ent} {D : List DSV} {k : List It} {n1 n2 : Nat} {x1 x2 x3 x4 : Bool} (hF : MachF st fr p)
    (h : Res Try.prog Q G W { T := T, X := m :: p.b1 :: p.b2 :: q :: X', L := .asn (MachA t st fr (some p)) :: .dead :: .dead :: .dead :: rest, D := D } k)
    (e1 : n1 = st.length := by rfl) (e2 : n2 = fr.length := by rfl) (y1 : x1 = p.nl1 := by rfl) (y2 : x2 = p.nl2 := by rfl) (y3 : x3 = p.nl1 := by rfl) (y4 : x4 = p.nl2 := by rfl) :
    Res Try.prog Q G W { T := T, X := m :: p.b1 :: p.b2 :: q :: X', L := .cells 58 [.v (.pointer (some ⟨t, 0, none⟩)), .s 1 x1 0 n1 p.cap1, .s 2 x2 0 n2 p.cap2] :: .row x3 41 p.cur1 :: .row x4 69 p.cur2 :: .asn (FrA fr p.xs) :: rest, D := D } k := by
  subst e1 e2 y1 y2 y3 y4
  refine Res.merge 0 [0, 1, 2, 3] (MachA t st fr (some p)) ⟨by simp, by simp⟩ (fun new w own ho => ?_) h
  exact machR_of (pp := some p) (cap1 := p.cap1) (cap2 := p.cap2) 0 1 2 [0, 1, 2, 3] (fun r => r = 3) ho rfl rfl rfl (by simp) (by rintro r rfl; simp) (by simp) ⟨hF.c1, hF.c2, hF.c3, hF.c4, hF.c5, hF.d1, hF.d2, hF.d3, hF.d4, hF.d5, hF.xl⟩
    (FrA_mono (ho.ok 3 _ rfl) fun b hb => ⟨3, rfl, hb⟩) (by rintro q h; cases h; rfl)

/-- ... and opened again, in its place. -/
theorem Res.mreopen {t m q : Nat} {st : List Vl} {fr : List Frm} {p : MachP} {T : List (Option SV)} {X' : List Nat} {rest : List Ent} {D : List DSV} {k : List It}
    (h : MachF st fr p → Res Try.prog Q G W { T := T, X := m :: p.b1 :: p.b2 :: q :: X', L := .cells 58 [.v (.pointer (some ⟨t, 0, none⟩)), .s 1 p.nl1 0 st.length p.cap1, .s 2 p.nl2 0 fr.length p.cap2] :: .row p.nl1 41 p.cur1 :: .row p.nl2 69 p.cur2 :: .asn (FrA fr p.xs) :: rest, D := D } k) :
    Res Try.prog Q G W { T := T, X := m :: p.b1 :: p.b2 :: q :: X', L := .asn (MachA t st fr (some p)) :: .dead :: .dead :: .dead :: rest, D := D } k := by
  intro new a w hs
  obtain ⟨own, ho⟩ := hs.hs
  obtain ⟨p', hp, hq⟩ := ho.ok 0 _ rfl
  have hq : { p' with Or := p.Or } = p := hq p rfl
  have a1 : p'.nl1 = p.nl1 := by have := congrArg MachP.nl1 hq; exact this
  have a2 : p'.b1 = p.b1 := by have := congrArg MachP.b1 hq; exact this
  have a3 : p'.cap1 = p.cap1 := by have := congrArg MachP.cap1 hq; exact this
  have a4 : p'.cur1 = p.cur1 := by have := congrArg MachP.cur1 hq; exact this
  have a5 : p'.nl2 = p.nl2 := by have := congrArg MachP.nl2 hq; exact this
  have a6 : p'.b2 = p.b2 := by have := congrArg MachP.b2 hq; exact this
  have a7 : p'.cap2 = p.cap2 := by have := congrArg MachP.cap2 hq; exact this
  have a8 : p'.cur2 = p.cur2 := by have := congrArg MachP.cur2 hq; exact this
  have a9 : p'.xs = p.xs := by have := congrArg MachP.xs hq; exact this
  have hF := hp.toF
  have hF' : MachF st fr p := by
    constructor
    · rw [← a3]; exact hF.c1
    · rw [← a3]; exact hF.c2
    · rw [← a3, ← a4]; exact hF.c3
    · rw [← a4]; exact hF.c4
    · rw [← a1, ← a3]; exact hF.c5
    · rw [← a7]; exact hF.d1
    · rw [← a7]; exact hF.d2
    · rw [← a7, ← a8]; exact hF.d3
    · rw [← a8, ← a9]; exact hF.d4
    · rw [← a5, ← a7]; exact hF.d5
    · rw [← a9]; exact hF.xl
  have hm := hp.hm
  have hs1 := hp.s.row
  have hs2 := hp.f.row
  have hs3 := hp.r
  rw [a1, a2, a3, a5, a6, a7] at hm
  rw [a1, a2, a4] at hs1
  rw [a5, a6, a8] at hs2
  rw [a9] at hs3
  refine h hF' new a w ⟨hs.tsz, hs.tmp, hs.tlt, hs.dfr, hs.dlt, fun i b => if i < 4 then p'.own m i b else own i b, ho.len, ?_, ?_, ?_, ?_, ho.inW, ho.keep⟩
  · intro i e hi
    match i with
    | 0 =>
      injection hi with hi; subst hi
      exact ⟨.inl ⟨rfl, rfl⟩, hm⟩
    | 1 =>
      injection hi with hi; subst hi
      exact fun hn => ⟨.inr (.inl ⟨rfl, by rw [a1]; exact hn, a2.symm⟩), hs1 hn⟩
    | 2 =>
      injection hi with hi; subst hi
      exact fun hn => ⟨.inr (.inr (.inl ⟨rfl, by rw [a5]; exact hn, a6.symm⟩)), hs2 hn⟩
    | 3 =>
      injection hi with hi; subst hi
      exact FrA_mono hs3 fun b hb => .inr (.inr (.inr ⟨rfl, hb⟩))
    | i + 4 =>
      have : (if i + 4 < 4 then p'.own m (i + 4) else own (i + 4)) = own (i + 4) := if_neg (by omega)
      have h2 : (fun b => if i + 4 < 4 then p'.own m (i + 4) b else own (i + 4) b) = own (i + 4) := by funext b; exact if_neg (by omega)
      show e.ok _ _ (fun b => if i + 4 < 4 then p'.own m (i + 4) b else own (i + 4) b) w
      rw [h2]
      exact ho.ok (i + 4) e hi
  · intro e he
    simp only [List.mem_cons] at he
    rcases he with rfl | rfl | rfl | rfl | he
    · intro c hc
      simp only [List.mem_cons, List.not_mem_nil, or_false] at hc
      rcases hc with rfl | rfl | rfl <;> simp [SV.lt]
    · trivial
    · trivial
    · trivial
    · exact ho.entlt e (by simp [he])
  · intro i j b hi hj hij h1 h2
    by_cases ci : i < 4 <;> by_cases cj : j < 4
    · rw [if_pos ci] at h1; rw [if_pos cj] at h2; exact hp.ap i j b hij h1 h2
    · rw [if_pos ci] at h1; rw [if_neg cj] at h2
      exact ho.apart 0 j b (by simp) hj (by omega) (hp.own i b h1) h2
    · rw [if_neg ci] at h1; rw [if_pos cj] at h2
      exact ho.apart i 0 b hi (by simp) (by omega) h1 (hp.own j b h2)
    · rw [if_neg ci] at h1; rw [if_neg cj] at h2; exact ho.apart i j b hi hj hij h1 h2
  · intro i b hi h1
    by_cases ci : i < 4
    · rw [if_pos ci] at h1; exact ho.out 0 b (by simp) (hp.own i b h1)
    · rw [if_neg ci] at h1; exact ho.out i b hi h1
end

/-- A value of a type is taken. -/
def takeF (st : List Vl) (fr : List Frm) (v : Vl) : Int × List Vl :=
  let r := popF st fr
  (if r.2.1 = 0 ∧ valF r.1 v = false then 141 else r.2.1, r.2.2)

theorem m_take {pp : Option MachP} {w : World} {O : Nat → Prop} {m t : Nat} {st : List Vl} {fr : List Frm} (h : Mc w O m t st fr pp) (v : Vl) (hsz : st.length ≤ 1000000) (hfz : fr.length ≤ 1000000) :
    Calls Try.prog 31 #[.pointer (some ⟨m, 0, none⟩), v.v] w fun e w' => e = .returned (.int .i64 (takeF st fr v).1) ∧ Mq w w' O m t (takeF st fr v).2 fr pp := by
  obtain ⟨vk, vn, vhk, vhn⟩ := v
  obtain ⟨p, hp, hq, hS⟩ := h.hsq
  have hF := hp.toF
  refine Go.Eng.start (X := [m, p.b1, p.b2, 0]) (L := mL t _ _ p _) (args := [.p 0 0, .v (.agg #[.int .i64 vk, .bool vn, .int .i64 vhk, .int .i64 vhn])]) (G := Gm w O) Try.func31 rfl Try.ntmps31 (by simp [SV.lt, mL]) (hS _) ?_
  refine Res.mclose hF ?_
  refine Res.run 1000 ?_
  simp only [↓reduceIte, Nat.reduceEqDiff, Nat.reduceAdd, Nat.reduceSub, Nat.reduceMul, Nat.reduceLT, Int.reduceToNat, Int.reduceBEq, Int.reduceBNe, Int.reduceLT, Int.reduceLE, E, E', TY]
  refine ⟨fnok18, CallAt.asn 0 (MachA t st fr (some p)) rfl (fun v A' => v = .tuple #[(popF st fr).1.v, .int .i64 (popF st fr).2.1] ∧ A' = MachA t (popF st fr).2.2 fr (some p)) ?_ ?_⟩
  · intro new w' O' hs hR hO
    refine (m_pop (Mc.of hs hR hO h.tab h.out) hsz hfz).mono ?_
    rintro e w'' ⟨rfl, O'', hR', hC⟩
    exact ⟨_, _, O'', rfl, ⟨rfl, rfl⟩, hR', hC⟩
  rintro _ _ ⟨rfl, rfl⟩
  have htf : takeF st fr ⟨vk, vn, vhk, vhn⟩ = (if (popF st fr).2.1 = 0 ∧ valF (popF st fr).1 ⟨vk, vn, vhk, vhn⟩ = false then 141 else (popF st fr).2.1, (popF st fr).2.2) := rfl
  rw [htf]
  obtain ⟨⟨xk, xn, xhk, xhn⟩, e, st'⟩ := popF st fr
  simp only
  refine Res.run 900 ?_
  simp only [↓reduceIte, Nat.reduceEqDiff, Nat.reduceAdd, Nat.reduceSub, Nat.reduceMul, Nat.reduceLT, Int.reduceToNat, Int.reduceBEq, Int.reduceBNe, Int.reduceLT, Int.reduceLE, E, E', TY, Vl.v]
  by_cases he : e = 0
  · subst he
    refine Res.mreopen fun hF => ?_
    refine Res.quiet [.bool (valF ⟨xk, xn, xhk, xhn⟩ ⟨vk, vn, vhk, vhn⟩)] (by kernel_rfl) (by kernel_rfl) ?_
    simp only [↓reduceIte, Nat.reduceEqDiff, Nat.reduceAdd, Nat.reduceSub, Nat.reduceMul, Nat.reduceLT, Int.reduceToNat, Int.reduceBEq, Int.reduceBNe, Int.reduceLT, Int.reduceLE, E, E', TY, fnok41]
    refine ⟨fun new w' hs => m_Val (h.tab.keepG hs.keep h.out) ⟨xk, xn, xhk, xhn⟩ ⟨vk, vn, vhk, vhn⟩, ?_⟩
    refine Res.run 900 ?_
    cases hv : valF ⟨xk, xn, xhk, xhn⟩ ⟨vk, vn, vhk, vhn⟩ with
    | false =>
      simp only [↓reduceIte, Nat.reduceEqDiff, Nat.reduceAdd, Nat.reduceSub, Nat.reduceMul, Nat.reduceLT, Int.reduceToNat, Int.reduceBEq, Int.reduceBNe, Int.reduceLT, Int.reduceLE, E, E', TY]
      refine Ret.body [.v (.int .i64 141)] rfl (by kernel_rfl) fun new w' hs => ⟨by simp [resOf, SV.den], ?_⟩
      exact mach_pack (nl1 := p.nl1) (cap1 := p.cap1) (cur1 := p.cur1) (nl2 := p.nl2) (cap2 := p.cap2) (cur2 := p.cur2) (xs := p.xs) 1 2 (fun q => q = 3) hs rfl rfl rfl rfl (by decide) (by rintro _ rfl; simp) hF.c1 hF.c2 hF.c3 hF.c4 hF.c5 hF.d1 hF.d2 hF.d3 hF.d4 hF.d5 (fun own ho => FrA_mono (ho.ok 3 _ rfl) fun b hb => ⟨3, rfl, hb⟩) hq
    | true =>
      simp only [↓reduceIte, Nat.reduceEqDiff, Nat.reduceAdd, Nat.reduceSub, Nat.reduceMul, Nat.reduceLT, Int.reduceToNat, Int.reduceBEq, Int.reduceBNe, Int.reduceLT, Int.reduceLE, E, E', TY]
      refine Ret.body [.v (.int .i64 0)] rfl (by kernel_rfl) fun new w' hs => ⟨by simp [resOf, SV.den], ?_⟩
      exact mach_pack (nl1 := p.nl1) (cap1 := p.cap1) (cur1 := p.cur1) (nl2 := p.nl2) (cap2 := p.cap2) (cur2 := p.cur2) (xs := p.xs) 1 2 (fun q => q = 3) hs rfl rfl rfl rfl (by decide) (by rintro _ rfl; simp) hF.c1 hF.c2 hF.c3 hF.c4 hF.c5 hF.d1 hF.d2 hF.d3 hF.d4 hF.d5 (fun own ho => FrA_mono (ho.ok 3 _ rfl) fun b hb => ⟨3, rfl, hb⟩) hq
  · have e0 : (e == 0) = false := by simp [he]
    refine Res.quiet [] (by kernel_rfl) (by kernel_rfl) ?_
    simp only [↓reduceIte, Nat.reduceEqDiff, Nat.reduceAdd, Nat.reduceSub, Nat.reduceMul, Nat.reduceLT, Int.reduceToNat, Int.reduceBEq, Int.reduceBNe, Int.reduceLT, Int.reduceLE, E, E', TY, e0]
    refine Res.run 900 ?_
    simp only [↓reduceIte, Nat.reduceEqDiff, Nat.reduceAdd, Nat.reduceSub, Nat.reduceMul, Nat.reduceLT, Int.reduceToNat, Int.reduceBEq, Int.reduceBNe, Int.reduceLT, Int.reduceLE, E, E', TY]
    refine Ret.body [.v (.int .i64 e)] rfl (by kernel_rfl) fun new w' hs => ⟨by simp [resOf, SV.den, he], ?_⟩
    exact Mq.of_asn hs rfl rfl (fun q hqq => ⟨p, rfl, hq q hqq⟩)
end Go.Proofs.Yteendcbmoagdfaa
