/-
  The machine: how it lies in memory; there, inner, and the calls that only read.
-/
import Derived.Test.YteendcbmoagdfaaN1
set_option linter.unusedVariables false
set_option linter.unusedSimpArgs false
set_option maxRecDepth 20000
set_option maxHeartbeats 4000000
namespace Go.Proofs.Yteendcbmoagdfaa
open Go Go.Eng

theorem m_there {w : World} {m t : Nat} {s1 s2 : Value} (hm : w.heap[m]? = some (.cells #[.pointer (some ⟨t, 0, none⟩), s1, s2] 58 (0, 0))) (h : ETab w t) :
    Calls Try.prog 27 #[.pointer (some ⟨m, 0, none⟩)] w fun e w' => e = .returned (.bool true) ∧ Ext w w' := by
  have h0 : rd w (some ⟨m, 0, none⟩) 0 = .pointer (some ⟨t, 0, none⟩) := rd0 (l := [_, _, _]) hm 0
  have o0 := okRd0 (l := [_, _, _]) hm 0 1 (by simp)
  refine start0 (args := [.v (.pointer (some ⟨m, 0, none⟩))]) (G := (· < w.heap.size)) Try.func27 rfl Try.ntmps27 (by simp [SV.lt]) (fun _ h => h) ?_
  refine Res.run 1000 ?_
  simp only [↓reduceIte, Nat.reduceEqDiff, Nat.reduceAdd, Nat.reduceSub, Nat.reduceMul, Nat.reduceLT, Int.reduceToNat, Int.reduceBEq, Int.reduceBNe, Int.reduceLT, Int.reduceLE, E, E', TY, h0]
  refine ⟨o0, fnok40, CallAt.pure #[.pointer (some ⟨t, 0, none⟩), .int .i64 (-1)] (.tuple #[subZ, .int .i64 4]) (fun _ => rfl) (fun w' hw => roll_get (h.keep hw) (-1)) (Res.run 900 ?_)⟩
  simp only [↓reduceIte, Nat.reduceEqDiff, Nat.reduceAdd, Nat.reduceSub, Nat.reduceMul, Nat.reduceLT, Int.reduceToNat, Int.reduceBEq, Int.reduceBNe, Int.reduceLT, Int.reduceLE, E, E', TY, subZ]
  exact Ret.one rfl (by kernel_rfl)

theorem m_inner0 {w : World} {m : Nat} {t s1 : Value} {A : Option Addr} {c : Nat} (hm : w.heap[m]? = some (.cells #[t, s1, .slice A 0 c] 58 (0, 0))) :
    Calls Try.prog 29 #[.pointer (some ⟨m, 0, none⟩)] w fun e w' => e = .returned (.pointer none) ∧ Ext w w' := by
  have h0 : rd w (some ⟨m, 0, none⟩) 2 = .slice A 0 c := rd0 (l := [_, _, _]) hm 2
  have o0 := okRd0 (l := [_, _, _]) hm 2 1 (by simp)
  refine start0 (args := [.v (.pointer (some ⟨m, 0, none⟩))]) (G := (· < w.heap.size)) Try.func29 rfl Try.ntmps29 (by simp [SV.lt]) (fun _ h => h) ?_
  refine Res.run 1000 ?_
  simp only [↓reduceIte, Nat.reduceEqDiff, Nat.reduceAdd, Nat.reduceSub, Nat.reduceMul, Nat.reduceLT, Int.reduceToNat, Int.reduceBEq, Int.reduceBNe, Int.reduceLT, Int.reduceLE, E, E', TY, h0]
  refine ⟨o0, ?_⟩
  simp only [Int.natCast_zero, beq_self_eq_true]
  simp only [↓reduceIte, Nat.reduceEqDiff, Nat.reduceAdd, Nat.reduceSub, Nat.reduceMul, Nat.reduceLT, Int.reduceToNat, Int.reduceBEq, Int.reduceBNe, Int.reduceLT, Int.reduceLE, E, E', TY]
  exact Ret.one rfl (by kernel_rfl)

theorem m_inner {w : World} {m : Nat} {t s1 : Value} {A : Option Addr} {n c : Nat} (hm : w.heap[m]? = some (.cells #[t, s1, .slice A (n + 1) c] 58 (0, 0))) (hA : A.isSome = true) (hn : n ≤ 1000000) :
    Calls Try.prog 29 #[.pointer (some ⟨m, 0, none⟩)] w fun e w' => e = .returned (.pointer (pAdd A (n * 6))) ∧ Ext w w' := by
  have h0 : rd w (some ⟨m, 0, none⟩) 2 = .slice A (n + 1) c := rd0 (l := [_, _, _]) hm 2
  have o0 := okRd0 (l := [_, _, _]) hm 2 1 (by simp)
  have e0 : ((((n + 1 : Nat) : Int)) == 0) = false := by simp; omega
  have e1 : (((n + 1 : Nat) : Int) - 1) = (n : Int) := by omega
  refine start0 (args := [.v (.pointer (some ⟨m, 0, none⟩))]) (G := (· < w.heap.size)) Try.func29 rfl Try.ntmps29 (by simp [SV.lt]) (fun _ h => h) ?_
  refine Res.run 1000 ?_
  simp only [↓reduceIte, Nat.reduceEqDiff, Nat.reduceAdd, Nat.reduceSub, Nat.reduceMul, Nat.reduceLT, Int.reduceToNat, Int.reduceBEq, Int.reduceBNe, Int.reduceLT, Int.reduceLE, E, E', TY, h0, e0]
  refine ⟨o0, ?_⟩
  refine Res.quiet [] (by kernel_rfl) (by kernel_rfl) ?_
  simp only [↓reduceIte, Nat.reduceEqDiff, Nat.reduceAdd, Nat.reduceSub, Nat.reduceMul, Nat.reduceLT, Int.reduceToNat, Int.reduceBEq, Int.reduceBNe, Int.reduceLT, Int.reduceLE, E, E', TY, h0, e1, Int.toNat_natCast]
  refine ⟨o0, o0, i64ok_of (by omega) (by omega), ⟨by omega, by omega, hA⟩, Res.run 900 ?_⟩
  simp only [↓reduceIte, Nat.reduceEqDiff, Nat.reduceAdd, Nat.reduceSub, Nat.reduceMul, Nat.reduceLT, Int.reduceToNat, Int.reduceBEq, Int.reduceBNe, Int.reduceLT, Int.reduceLE, E, E', TY]
  refine Ret.det [.ex (pAdd A (n * 6)) 0] rfl (by kernel_rfl) (fun _ => ?_)
  simp [resOf, SV.den, pAdd_zero]

/-! ### how the machine lies in memory -/
structure Frm where
  op : Int
  ps : List Vl
  rs : List Vl
  ht : Int
  dead : Bool
  gv : List Int

/-- Where a frame's three lists lie. -/
structure FA where
  a1 : Option Addr
  c1 : Nat
  a2 : Option Addr
  c2 : Nat
  a3 : Option Addr
  c3 : Nat

def fcell (f : Frm) (x : FA) : List Value := [.int .i64 f.op, .slice x.a1 f.ps.length x.c1, .slice x.a2 f.rs.length x.c2, .int .i64 f.ht, .bool f.dead, .slice x.a3 f.gv.length x.c3]
def fcells : List Frm → List FA → List Value
  | f :: fr, x :: xs => fcell f x ++ fcells fr xs
  | _, _ => []
def icells (l : List Int) : List Value := l.map (.int .i64)

theorem fcells_length : ∀ {fr : List Frm} {xs : List FA}, fr.length = xs.length → (fcells fr xs).length = fr.length * 6
  | [], [], _ => rfl
  | f :: fr, x :: xs, h => by simp only [fcells, List.length_append, List.length_cons]; rw [fcells_length (by simpa using h)]; simp [fcell]; omega
  | [], _ :: _, h => by simp at h
  | _ :: _, [], h => by simp at h
theorem fcells_append : ∀ {fr : List Frm} {xs : List FA} {fr' : List Frm} {xs' : List FA}, fr.length = xs.length → fcells (fr ++ fr') (xs ++ xs') = fcells fr xs ++ fcells fr' xs'
  | [], [], _, _, _ => rfl
  | f :: fr, x :: xs, _, _, h => by simp only [List.cons_append, fcells, List.append_assoc]; rw [fcells_append (by simpa using h)]
  | [], _ :: _, _, _, h => by simp at h
  | _ :: _, [], _, _, h => by simp at h
theorem fcells_get : ∀ {fr : List Frm} {xs : List FA} (k : Nat) (h : k < fr.length) (h' : k < xs.length) (j : Nat), j < 6 → (fcells fr xs)[k * 6 + j]? = (fcell fr[k] xs[k])[j]?
  | f :: fr, x :: xs, 0, _, _, j, hj => by
    simp only [fcells, Nat.zero_mul, Nat.zero_add, List.getElem_cons_zero]
    rw [List.getElem?_append_left (by simp [fcell]; omega)]
  | f :: fr, x :: xs, k + 1, h, h', j, hj => by
    simp only [fcells, List.getElem_cons_succ]
    rw [List.getElem?_append_right (by simp [fcell]; omega)]
    rw [← fcells_get k (by simpa using h) (by simpa using h') j hj]
    congr 1
    simp [fcell]
    omega
  | [], _, _, h, _, _, _ => by simp at h
  | _ :: _, [], _, _, h, _, _ => by simp at h

theorem Cs.loc {O : Nat → Prop} {w w' : World} {A : Option Addr} {cs : List Value} (h : Cs O w A cs) (hw : ∀ b, O b → w'.heap[b]? = w.heap[b]?) : Cs O w' A cs := by
  rcases h with h | ⟨⟨ad, rfl, hg, hc⟩, h2⟩
  · exact .inl h
  · have e : ∀ n, w'.cell? (ad.add n) = w.cell? (ad.add n) := fun n => World.cell?_of_block (by rw [add_block]; exact hw _ hg)
    refine .inr ⟨⟨ad, rfl, hg, fun j hj => by rw [e]; exact hc j hj⟩, fun i u hu => ?_⟩
    rw [← h2 i u hu]
    simp only [rd, e]

/-- A frame's lists lie in O. -/
structure FOk (O : Nat → Prop) (w : World) (f : Frm) (x : FA) : Prop where
  p : Cs O w x.a1 (flat f.ps)
  pn : x.a1 = none → f.ps = []
  r : Cs O w x.a2 (flat f.rs)
  rn : x.a2 = none → f.rs = []
  g : Cs O w x.a3 (icells f.gv)
  gn : x.a3 = none → f.gv = []
  gc : f.gv.length ≤ x.c3

theorem FOk.loc {O : Nat → Prop} {w w' : World} {f : Frm} {x : FA} (h : FOk O w f x) (hw : ∀ b, O b → w'.heap[b]? = w.heap[b]?) : FOk O w' f x := ⟨h.p.loc hw, h.pn, h.r.loc hw, h.rn, h.g.loc hw, h.gn, h.gc⟩
theorem FOk.mono {O O' : Nat → Prop} {w : World} {f : Frm} {x : FA} (h : FOk O w f x) (hw : ∀ b, O b → O' b) : FOk O' w f x := ⟨h.p.mono hw, h.pn, h.r.mono hw, h.rn, h.g.mono hw, h.gn, h.gc⟩

/-- All frames' lists. -/
def FrA (fr : List Frm) (xs : List FA) : Asn where
  R O _ w := fr.length = xs.length ∧ ∀ i (h : i < fr.length) (h' : i < xs.length), FOk O w fr[i] xs[i]
  loc h hw := ⟨h.1, fun i hi hi' => (h.2 i hi hi').loc hw⟩

/-- A row as a slice's own. -/
structure RowOK (w : World) (nl : Bool) (b : Nat) (ty size n cap : Nat) (cur cs : List Value) : Prop where
  capk : n ≤ cap
  capm : cap ≤ maxLen
  len : cur.length = cap * size
  take : cur.take (n * size) = cs
  nil : nl = true → cap = 0
  row : nl = false → w.heap[b]? = some (.cells cur.toArray ty (0, 0))

/-- The machine's parts. -/
structure MachP where
  nl1 : Bool
  b1 : Nat
  cap1 : Nat
  cur1 : List Value
  nl2 : Bool
  b2 : Nat
  cap2 : Nat
  cur2 : List Value
  xs : List FA
  Or : Nat → Prop

def MachP.own (p : MachP) (m i b : Nat) : Prop :=
  (i = 0 ∧ b = m) ∨ (i = 1 ∧ p.nl1 = false ∧ b = p.b1) ∨ (i = 2 ∧ p.nl2 = false ∧ b = p.b2) ∨ (i = 3 ∧ p.Or b)

structure MachOK (t : Nat) (st : List Vl) (fr : List Frm) (O : Nat → Prop) (m : Nat) (w : World) (p : MachP) : Prop where
  hm : w.heap[m]? = some (.cells #[.pointer (some ⟨t, 0, none⟩), .slice (sA p.nl1 p.b1 0) st.length p.cap1, .slice (sA p.nl2 p.b2 0) fr.length p.cap2] 58 (0, 0))
  s : RowOK w p.nl1 p.b1 41 4 st.length p.cap1 p.cur1 (flat st)
  f : RowOK w p.nl2 p.b2 69 6 fr.length p.cap2 p.cur2 (fcells fr p.xs)
  r : (FrA fr p.xs).R p.Or 0 w
  ap : ∀ i j b, i ≠ j → p.own m i b → p.own m j b → False
  own : ∀ i b, p.own m i b → O b

/-- The same parts, but for where the frames' lists lie. -/
def MachP.same (p q : MachP) : Prop := { p with Or := q.Or } = q
theorem MachP.same_refl (p : MachP) : p.same p := rfl
theorem MachP.same.trans {p q r : MachP} (h : p.same q) (k : q.same r) : p.same r := by
  unfold MachP.same at *
  rw [← h] at k
  exact k

/-- A machine; pp: its parts, if they are named. -/
def MachA (t : Nat) (st : List Vl) (fr : List Frm) (pp : Option MachP := none) : Asn where
  R O m w := ∃ p, MachOK t st fr O m w p ∧ ∀ q, pp = some q → p.same q
  loc := by
    rintro O m w w' ⟨p, h, hq⟩ hw
    have hm : O m := h.own 0 m (.inl ⟨rfl, rfl⟩)
    refine ⟨p, ⟨by rw [hw _ hm]; exact h.hm, ⟨h.s.capk, h.s.capm, h.s.len, h.s.take, h.s.nil, fun hn => ?_⟩, ⟨h.f.capk, h.f.capm, h.f.len, h.f.take, h.f.nil, fun hn => ?_⟩, ?_, h.ap, h.own⟩, hq⟩
    · rw [hw _ (h.own 1 _ (.inr (.inl ⟨rfl, hn, rfl⟩)))]; exact h.s.row hn
    · rw [hw _ (h.own 2 _ (.inr (.inr (.inl ⟨rfl, hn, rfl⟩))))]; exact h.f.row hn
    · exact (FrA fr p.xs).loc h.r fun b hb => hw b (h.own 3 b (.inr (.inr (.inr ⟨rfl, hb⟩))))

/-- What stands when a method begins: the machine, its table, and that they are apart. -/
structure Mc (w : World) (O : Nat → Prop) (m t : Nat) (st : List Vl) (fr : List Frm) (pp : Option MachP := none) : Prop where
  R : (MachA t st fr pp).R O m w
  lt : ∀ b, O b → b < w.heap.size
  tab : ETab w t
  out : ¬ O t

/-- All but the machine's blocks. -/
def Gm (w : World) (O : Nat → Prop) (b : Nat) : Prop := b < w.heap.size ∧ ¬ O b

def mL (t : Nat) (n k : Nat) (p : MachP) (fr : List Frm) : List Ent :=
  [.cells 58 [.v (.pointer (some ⟨t, 0, none⟩)), .s 1 p.nl1 0 n p.cap1, .s 2 p.nl2 0 k p.cap2], .row p.nl1 41 p.cur1, .row p.nl2 69 p.cur2, .asn (FrA fr p.xs)]

theorem Mc.hsq {w : World} {O : Nat → Prop} {m t : Nat} {st : List Vl} {fr : List Frm} {pp : Option MachP} (h : Mc w O m t st fr pp) : ∃ p, MachOK t st fr O m w p ∧ (∀ q, pp = some q → p.same q) ∧
    ∀ T, HS (Gm w O) w { T := T, X := [m, p.b1, p.b2, 0], L := mL t st.length fr.length p fr, D := [] } [] w := by
  obtain ⟨p, hp, hq⟩ := h.R
  refine ⟨p, hp, hq, fun T => ⟨p.own m, rfl, ?_, ?_, ?_, ?_, ?_, Keep.refl _ _⟩⟩
  · intro i e hi
    match i with
    | 0 =>
      injection hi with hi; subst hi
      exact ⟨.inl ⟨rfl, rfl⟩, hp.hm⟩
    | 1 =>
      injection hi with hi; subst hi
      exact fun hn => ⟨.inr (.inl ⟨rfl, hn, rfl⟩), hp.s.row hn⟩
    | 2 =>
      injection hi with hi; subst hi
      exact fun hn => ⟨.inr (.inr (.inl ⟨rfl, hn, rfl⟩)), hp.f.row hn⟩
    | 3 =>
      injection hi with hi; subst hi
      exact ⟨hp.r.1, fun i hi hi' => (hp.r.2 i hi hi').mono fun b hb => .inr (.inr (.inr ⟨rfl, hb⟩))⟩
    | i + 4 => simp [mL] at hi
  · intro e he
    simp only [mL, List.mem_cons, List.not_mem_nil, or_false] at he
    rcases he with rfl | rfl | rfl | rfl
    · intro c hc
      simp only [List.mem_cons, List.not_mem_nil, or_false] at hc
      rcases hc with rfl | rfl | rfl <;> simp [SV.lt, mL]
    all_goals trivial
  · exact fun i j b _ _ hij h1 h2 => hp.ap i j b hij h1 h2
  · intro i b _ hb
    have := hp.own i b hb
    exact ⟨fun hg => hg.2 this, h.lt b this⟩
  · exact fun b hb => hb.1

theorem Mc.hs {w : World} {O : Nat → Prop} {m t : Nat} {st : List Vl} {fr : List Frm} {pp : Option MachP} (h : Mc w O m t st fr pp) : ∃ p, MachOK t st fr O m w p ∧
    ∀ T, HS (Gm w O) w { T := T, X := [m, p.b1, p.b2, 0], L := mL t st.length fr.length p fr, D := [] } [] w := by
  obtain ⟨p, hp, _, hS⟩ := h.hsq
  exact ⟨p, hp, hS⟩

theorem ETab.keepG {w w' : World} {O : Nat → Prop} {t : Nat} (h : ETab w t) (hk : Keep (Gm w O) w w') (ho : ¬ O t) : ETab w' t := by
  obtain ⟨r, h⟩ := h
  exact ⟨r, by rw [hk.block t ⟨(Array.getElem?_eq_some_iff.1 h).1, ho⟩]; exact h⟩
theorem FrA_mono {fr : List Frm} {xs : List FA} {O O' : Nat → Prop} {p q : Nat} {w : World} (h : (FrA fr xs).R O p w) (hO : ∀ b, O b → O' b) : (FrA fr xs).R O' q w := ⟨h.1, fun i hi hi' => (h.2 i hi hi').mono hO⟩

/-- What a method leaves. -/
def Mq (w w' : World) (O : Nat → Prop) (m t : Nat) (st : List Vl) (fr : List Frm) (pp : Option MachP := none) : Prop := ∃ O', (MachA t st fr pp).R O' m w' ∧ Chg w w' O O'

theorem Mq.mc {w w' : World} {O : Nat → Prop} {m t : Nat} {st : List Vl} {fr : List Frm} {st' : List Vl} {fr' : List Frm} {pp pp' : Option MachP} (h : Mc w O m t st fr pp) (hq : Mq w w' O m t st' fr' pp') : ∃ O', Mc w' O' m t st' fr' pp' ∧ Chg w w' O O' := by
  obtain ⟨O', hR, hC⟩ := hq
  obtain ⟨r, ht⟩ := h.tab
  have htl := (Array.getElem?_eq_some_iff.1 ht).1
  refine ⟨O', ⟨hR, fun b hb => (hC.own b hb).1, ⟨r, by rw [hC.block t htl h.out]; exact ht⟩, fun ho => ?_⟩, hC⟩
  rcases (hC.own t ho).2 with h1 | h1
  · omega
  · exact h.out h1

/-- The end of a method: what it tracks is a machine again. i, j: where the stack's and the frames' rows are; S: where the frames' lists are. -/
theorem mach_pack {pp : Option MachP} {W w : World} {O : Nat → Prop} {m t : Nat} {st : List Vl} {fr : List Frm} {σ : St} {new : List Nat} {nl1 nl2 : Bool} {cap1 cap2 : Nat} {cur1 cur2 : List Value} {xs : List FA} (i j : Nat) (S : Nat → Prop) (hs : HS (Gm W O) W σ new w)
    (hX : (σ.X ++ new).getD 0 0 = m) (h0 : σ.L[0]? = some (.cells 58 [.v (.pointer (some ⟨t, 0, none⟩)), .s i nl1 0 st.length cap1, .s j nl2 0 fr.length cap2])) (hi : σ.L[i]? = some (.row nl1 41 cur1)) (hj : σ.L[j]? = some (.row nl2 69 cur2)) (hij : i ≠ 0 ∧ j ≠ 0 ∧ i ≠ j)
    (hSS : ∀ r, S r → r < σ.L.length ∧ r ≠ 0 ∧ r ≠ i ∧ r ≠ j)
    (c1 : st.length ≤ cap1) (c2 : cap1 ≤ maxLen) (c3 : cur1.length = cap1 * 4) (c4 : cur1.take (st.length * 4) = flat st) (c5 : nl1 = true → cap1 = 0)
    (d1 : fr.length ≤ cap2) (d2 : cap2 ≤ maxLen) (d3 : cur2.length = cap2 * 6) (d4 : cur2.take (fr.length * 6) = fcells fr xs) (d5 : nl2 = true → cap2 = 0)
    (hr : ∀ own, HSo (Gm W O) W σ new w own → (FrA fr xs).R (fun b => ∃ r, S r ∧ own r b) 0 w)
    (hpp : ∀ q, pp = some q → MachP.same ⟨nl1, (σ.X ++ new).getD i 0, cap1, cur1, nl2, (σ.X ++ new).getD j 0, cap2, cur2, xs, fun _ => False⟩ q := by intro _ h; cases h) : Mq W w O m t st fr pp := by
  obtain ⟨own, ho⟩ := hs
  obtain ⟨k1, k2⟩ := ho.ok 0 _ h0
  have k3 := ho.ok i _ hi
  have k4 := ho.ok j _ hj
  have hr := hr own ho
  have l0 := (List.getElem?_eq_some_iff.1 h0).1
  have li := (List.getElem?_eq_some_iff.1 hi).1
  have lj := (List.getElem?_eq_some_iff.1 hj).1
  rw [hX] at k1 k2
  let p : MachP := ⟨nl1, (σ.X ++ new).getD i 0, cap1, cur1, nl2, (σ.X ++ new).getD j 0, cap2, cur2, xs, fun b => ∃ r, S r ∧ own r b⟩
  have hown : ∀ a b, p.own m a b → ∃ r, own r b ∧ r < σ.L.length ∧ ((a = 0 ∧ r = 0) ∨ (a = 1 ∧ r = i) ∨ (a = 2 ∧ r = j) ∨ (a = 3 ∧ S r)) := by
    rintro a b (⟨rfl, rfl⟩ | ⟨rfl, hn, rfl⟩ | ⟨rfl, hn, rfl⟩ | ⟨rfl, r, hS, hb⟩)
    · exact ⟨0, k1, l0, .inl ⟨rfl, rfl⟩⟩
    · exact ⟨i, (k3 hn).1, li, .inr (.inl ⟨rfl, rfl⟩)⟩
    · exact ⟨j, (k4 hn).1, lj, .inr (.inr (.inl ⟨rfl, rfl⟩))⟩
    · exact ⟨r, hb, (hSS r hS).1, .inr (.inr (.inr ⟨rfl, hS⟩))⟩
  refine ⟨fun b => ∃ a, p.own m a b, ⟨p, ⟨k2, ⟨c1, c2, c3, c4, c5, fun hn => (k3 hn).2⟩, ⟨d1, d2, d3, d4, d5, fun hn => (k4 hn).2⟩, hr, ?_, fun a b h => ⟨a, h⟩⟩, fun q hq => hpp q hq⟩, ?_⟩
  · intro a a' b haa h1 h2
    obtain ⟨r, hr1, hr2, hr3⟩ := hown a b h1
    obtain ⟨r', hr1', hr2', hr3'⟩ := hown a' b h2
    have hne : r ≠ r' := by
      rcases hr3 with ⟨rfl, rfl⟩ | ⟨rfl, rfl⟩ | ⟨rfl, rfl⟩ | ⟨rfl, hS⟩ <;> rcases hr3' with ⟨rfl, rfl⟩ | ⟨rfl, rfl⟩ | ⟨rfl, rfl⟩ | ⟨rfl, hS'⟩
      all_goals first | exact absurd rfl haa | (intro he; subst he; first | exact hij.1 rfl | exact hij.2.1 rfl | exact hij.2.2 rfl | exact (hSS _ hS').2.1 rfl | exact (hSS _ hS').2.2.1 rfl | exact (hSS _ hS').2.2.2 rfl | exact (hSS _ hS).2.1 rfl | exact (hSS _ hS).2.2.1 rfl | exact (hSS _ hS).2.2.2 rfl) | (intro he; first | exact hij.1 he.symm | exact hij.1 he | exact hij.2.1 he | exact hij.2.1 he.symm | exact hij.2.2 he | exact hij.2.2 he.symm)
    exact ho.apart r r' b hr2 hr2' hne hr1 hr1'
  · refine ⟨ho.keep.os, ho.keep.tape, ho.keep.output, ho.keep.size, fun b hb hO => ho.keep.block b ⟨hb, hO⟩, ?_⟩
    rintro b ⟨a, h⟩
    obtain ⟨r, hr1, hr2, _⟩ := hown a b h
    obtain ⟨h1, h2⟩ := ho.out r b hr2 hr1
    refine ⟨h2, ?_⟩
    by_cases hb : b < W.heap.size
    · right
      by_cases hO : O b
      · exact hO
      · exact absurd ⟨hb, hO⟩ h1
    · left; omega
end Go.Proofs.Yteendcbmoagdfaa
