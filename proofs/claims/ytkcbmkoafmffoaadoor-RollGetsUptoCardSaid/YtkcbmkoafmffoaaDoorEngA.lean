/-
  The engine: a small verified generator of conditions over the model's wp rules: symbolic values, states and the worlds that meet them. (Own work of this seat's prover; over any program P.)
-/
import Derived.WalkKit
import Derived.Deep.Quiet
import Derived.OrdersHeld
import Derived.Laws.StructEq
import Derived.RangeFuncIn
import Derived.ControlIn
import Derived.TacticsIn
import Derived.RangeFuncLeaves
import Derived.RangeFuncSeq
namespace Go.Eng
open Go

/-! ### symbolic values -/
inductive At where
  | v (x : Value)
  | p (i off : Nat)
  | s (i : Nat) (nl : Bool) (off len cap : Nat)

inductive SV where
  | v (x : Value)
  | p (i off : Nat)
  | s (i : Nat) (nl : Bool) (off len cap : Nat)
  | ex (A : Option Addr) (off : Nat)
  | fn (f : Fn) (fs cs : List At)
  | agg (cs : List At)

def pAdd (A : Option Addr) (n : Nat) : Option Addr := A.map (·.add n)

/-- The array of a slice of a row that may be nil. -/
def sA (nl : Bool) (b off : Nat) : Option Addr := if nl = true then none else some ⟨b, off, none⟩

def At.den (ids : List Nat) : At → Value
  | .v x => x
  | .p i o => .pointer (some ⟨ids.getD i 0, o, none⟩)
  | .s i nl o l c => .slice (sA nl (ids.getD i 0) o) l c

def SV.den (ids : List Nat) : SV → Value
  | .v x => x
  | .p i o => .pointer (some ⟨ids.getD i 0, o, none⟩)
  | .ex A off => .pointer (pAdd A off)
  | .s i nl o l c => .slice (sA nl (ids.getD i 0) o) l c
  | .fn f fs cs => .func f (fs.map (At.den ids)).toArray (cs.map (At.den ids)).toArray
  | .agg cs => .agg (cs.map (At.den ids)).toArray

def At.sv : At → SV
  | .v x => .v x
  | .p i o => .p i o
  | .s i nl o l c => .s i nl o l c

theorem At.sv_den (ids : List Nat) (c : At) : c.sv.den ids = c.den ids := by cases c <;> rfl

/-- A symbolic value as one cell of a struct. -/
def SV.at? : SV → Option At
  | .v x => some (.v x)
  | .p i o => some (.p i o)
  | .s i nl o l c => some (.s i nl o l c)
  | .ex A off => some (.v (.pointer (pAdd A off)))
  | _ => none

theorem SV.at?_den {s : SV} {c : At} (h : s.at? = some c) (ids : List Nat) : c.den ids = s.den ids := by
  cases s <;> simp [SV.at?] at h <;> subst h <;> rfl

/-- All indexes of local blocks are below n. -/
def At.lt (n : Nat) : At → Prop
  | .v _ => True
  | .p i _ => i < n
  | .s i _ _ _ _ => i < n
def SV.lt (n : Nat) : SV → Prop
  | .v _ => True
  | .p i _ => i < n
  | .ex _ _ => True
  | .s i _ _ _ _ => i < n
  | .fn _ fs cs => (∀ c ∈ fs, c.lt n) ∧ (∀ c ∈ cs, c.lt n)
  | .agg cs => ∀ c ∈ cs, c.lt n

theorem getD_append_lt {l m : List Nat} {i : Nat} (h : i < l.length) : (l ++ m).getD i 0 = l.getD i 0 := by
  simp [List.getD_eq_getElem?_getD, List.getElem?_append_left h]

theorem At.den_append {ids m : List Nat} {c : At} (h : c.lt ids.length) : c.den (ids ++ m) = c.den ids := by
  cases c with
  | v x => rfl
  | p i o => simp only [At.den, getD_append_lt h]
  | s i nl o l c => simp only [At.den, getD_append_lt h]

theorem SV.den_append {ids m : List Nat} {s : SV} (h : s.lt ids.length) : s.den (ids ++ m) = s.den ids := by
  cases s with
  | v x => rfl
  | p i o => simp only [SV.den, getD_append_lt h]
  | ex A off => rfl
  | s i nl o l c => simp only [SV.den, getD_append_lt h]
  | fn f fs cs =>
    simp only [SV.den]
    rw [List.map_congr_left fun c hc => At.den_append (h.1 c hc), List.map_congr_left fun c hc => At.den_append (h.2 c hc)]
  | agg cs =>
    simp only [SV.den]
    rw [List.map_congr_left fun c hc => At.den_append (h c hc)]

theorem At.lt_mono {n m : Nat} (h : n ≤ m) {c : At} (hc : c.lt n) : c.lt m := by
  cases c with
  | v x => trivial
  | p i o => exact Nat.lt_of_lt_of_le hc h
  | s i nl o l c => exact Nat.lt_of_lt_of_le hc h

theorem SV.lt_mono {n m : Nat} (h : n ≤ m) {s : SV} (hs : s.lt n) : s.lt m := by
  cases s with
  | v x => trivial
  | p i o => exact Nat.lt_of_lt_of_le hs h
  | ex A off => trivial
  | s i nl o l c => exact Nat.lt_of_lt_of_le hs h
  | fn f fs cs => exact ⟨fun c hc => At.lt_mono h (hs.1 c hc), fun c hc => At.lt_mono h (hs.2 c hc)⟩
  | agg cs => exact fun c hc => At.lt_mono h (hs c hc)

/-! ### entries, states -/

/-- What holds of the blocks O (p is the first one's number), and of nothing else. -/
structure Asn where
  R : (Nat → Prop) → Nat → World → Prop
  loc : ∀ {O : Nat → Prop} {p : Nat} {w w' : World}, R O p w → (∀ b, O b → w'.heap[b]? = w.heap[b]?) → R O p w'

inductive Ent where
  | cells (ty : TypeId) (cs : List SV)
  | row (nl : Bool) (ty : TypeId) (cur : List Value)
  | obj (o : Obj)
  | dead
  | asn (A : Asn)

def Ent.ok (ids : List Nat) (p : Nat) (O : Nat → Prop) (w : World) : Ent → Prop
  | .cells ty cs => O p ∧ w.heap[p]? = some (.cells (cs.map (SV.den ids)).toArray ty (0, 0))
  | .row nl ty cur => nl = false → O p ∧ w.heap[p]? = some (.cells cur.toArray ty (0, 0))
  | .obj o => O p ∧ w.heap[p]? = some o
  | .dead => True
  | .asn A => A.R O p w

def Ent.lt (n : Nat) : Ent → Prop
  | .cells _ cs => ∀ c ∈ cs, c.lt n
  | _ => True

theorem Ent.ok_append {ids m : List Nat} {p : Nat} {O : Nat → Prop} {w : World} {e : Ent} (h : e.lt ids.length) : e.ok (ids ++ m) p O w ↔ e.ok ids p O w := by
  cases e with
  | cells ty cs =>
    simp only [Ent.ok]
    rw [List.map_congr_left fun c hc => SV.den_append (h c hc)]
  | _ => exact Iff.rfl

theorem Ent.lt_mono {n m : Nat} (h : n ≤ m) {e : Ent} (he : e.lt n) : e.lt m := by
  cases e with
  | cells ty cs => exact fun c hc => SV.lt_mono h (he c hc)
  | _ => trivial

/-- An entry holds as long as its blocks are as they were. -/
theorem Ent.ok_loc {ids : List Nat} {p : Nat} {O : Nat → Prop} {w w' : World} {e : Ent} (h : e.ok ids p O w) (hw : ∀ b, O b → w'.heap[b]? = w.heap[b]?) : e.ok ids p O w' := by
  cases e with
  | cells ty cs => exact ⟨h.1, by rw [hw _ h.1]; exact h.2⟩
  | row nl ty cur => exact fun hn => ⟨(h hn).1, by rw [hw _ (h hn).1]; exact (h hn).2⟩
  | obj o => exact ⟨h.1, by rw [hw _ h.1]; exact h.2⟩
  | dead => trivial
  | asn A => exact A.loc h hw

/-- A deferred call: of a function, or the mark of a range over a function (the entry where its rounds' deferred calls lie). -/
inductive DSV where
  | fn (f : Fn) (cap args : List At)
  | mark (i : Nat)

def DSV.den (ids : List Nat) : DSV → Deferred
  | .fn f cap args => { target := .fn f (cap.map (At.den ids)).toArray, args := (args.map (At.den ids)).toArray }
  | .mark i => { target := .collected (ids.getD i 0), args := #[] }
def DSV.lt (n : Nat) : DSV → Prop
  | .fn _ cap args => (∀ c ∈ cap, c.lt n) ∧ (∀ c ∈ args, c.lt n)
  | .mark i => i < n
theorem DSV.den_append {ids m : List Nat} {d : DSV} (h : d.lt ids.length) : d.den (ids ++ m) = d.den ids := by
  cases d with
  | fn f cap args =>
    simp only [DSV.den]
    rw [List.map_congr_left fun c hc => At.den_append (h.1 c hc), List.map_congr_left fun c hc => At.den_append (h.2 c hc)]
  | mark i =>
    have hi : i < ids.length := h
    simp only [DSV.den, List.getD_eq_getElem?_getD]
    rw [List.getElem?_append_left hi]
theorem DSV.lt_mono {n m : Nat} (h : n ≤ m) {d : DSV} (hs : d.lt n) : d.lt m := by
  cases d with
  | fn f cap args => exact ⟨fun c hc => At.lt_mono h (hs.1 c hc), fun c hc => At.lt_mono h (hs.2 c hc)⟩
  | mark i => exact Nat.lt_of_lt_of_le hs h

structure St where
  T : List (Option SV)
  X : List Nat
  L : List Ent
  D : List DSV

def getT : List (Option SV) → Nat → Option SV
  | [], _ => none
  | s :: _, 0 => s
  | _ :: l, n + 1 => getT l n

def setT : List (Option SV) → Nat → Option SV → List (Option SV)
  | [], _, _ => []
  | _ :: l, 0, x => x :: l
  | s :: l, n + 1, x => s :: setT l n x

theorem setT_length (l : List (Option SV)) (n : Nat) (x : Option SV) : (setT l n x).length = l.length := by
  induction l generalizing n with
  | nil => rfl
  | cons s l ih => cases n <;> simp [setT, ih]

theorem getT_setT (l : List (Option SV)) (n m : Nat) (x : Option SV) : getT (setT l n x) m = if n = m then (if n < l.length then x else none) else getT l m := by
  induction l generalizing n m with
  | nil => cases m <;> simp [setT, getT]
  | cons s l ih =>
    cases n with
    | zero => cases m <;> simp [setT, getT]
    | succ n =>
      cases m with
      | zero => simp [setT, getT]
      | succ m => simp [setT, getT, ih]

theorem getT_lt {l : List (Option SV)} {n : Nat} {s : SV} (h : getT l n = some s) : n < l.length := by
  induction l generalizing n with
  | nil => simp [getT] at h
  | cons x l ih =>
    cases n with
    | zero => simp
    | succ n => simp only [getT] at h; simp; exact ih h

/-! ### worlds -/
structure Keep (G : Nat → Prop) (w w' : World) : Prop where
  os : w'.os = w.os
  tape : w'.tape = w.tape
  output : w'.output = w.output
  size : w.heap.size ≤ w'.heap.size
  block : ∀ k, G k → w'.heap[k]? = w.heap[k]?

theorem Keep.refl (G : Nat → Prop) (w : World) : Keep G w w := ⟨rfl, rfl, rfl, Nat.le_refl _, fun _ _ => rfl⟩
theorem Keep.trans {G : Nat → Prop} {a b c : World} (h : Keep G a b) (k : Keep G b c) : Keep G a c :=
  ⟨k.os.trans h.os, k.tape.trans h.tape, k.output.trans h.output, Nat.le_trans h.size k.size, fun i hi => (k.block i hi).trans (h.block i hi)⟩
theorem Keep.mono {G G' : Nat → Prop} {a b : World} (h : Keep G a b) (hg : ∀ k, G' k → G k) : Keep G' a b :=
  ⟨h.os, h.tape, h.output, h.size, fun k hk => h.block k (hg k hk)⟩
theorem Keep.drew {G : Nat → Prop} {a b : World} (h : Keep G a b) : Keep G a b.drew := ⟨h.os, h.tape, h.output, h.size, h.block⟩
theorem Keep.alloc {G : Nat → Prop} {a b : World} (h : Keep G a b) (hG : ∀ k, G k → k < b.heap.size) (o : Obj) : Keep G a (b.alloc o) :=
  ⟨h.os, h.tape, h.output, by have := h.size; simp; omega, fun k hk => (Go.RowKit.Below.heap_alloc b o k (hG k hk)).trans (h.block k hk)⟩
theorem Keep.setCell {G : Nat → Prop} {a b : World} (h : Keep G a b) {p : Addr} (hp : ¬ G p.block) (u : Value) : Keep G a (b.setCell p u) :=
  ⟨h.os, h.tape, h.output, by simpa [World.setCell] using h.size, fun k hk => (Go.RowKit.Below.heap_setCell b p u k (fun e => hp (e ▸ hk))).trans (h.block k hk)⟩
theorem Keep.cell {G : Nat → Prop} {w w' : World} (h : Keep G w w') {p : Addr} (hp : G p.block) : w'.cell? p = w.cell? p := World.cell?_of_block (w := w) (h.block p.block hp)

/-- All that was there is as it was. -/
def Ext (w w' : World) : Prop := Keep (· < w.heap.size) w w'
theorem Ext.refl (w : World) : Ext w w := Keep.refl _ w
theorem Ext.trans {a b c : World} (h : Ext a b) (k : Ext b c) : Ext a c :=
  Keep.trans h (Keep.mono k fun _ hk => Nat.lt_of_lt_of_le hk h.size)

/-- What the tracked blocks are, and whose they are. -/
structure HSo (G : Nat → Prop) (W : World) (σ : St) (new : List Nat) (w : World) (own : Nat → Nat → Prop) : Prop where
  len : σ.X.length + new.length = σ.L.length
  ok : ∀ (i : Nat) (e : Ent), σ.L[i]? = some e → e.ok (σ.X ++ new) ((σ.X ++ new).getD i 0) (own i) w
  entlt : ∀ e ∈ σ.L, e.lt σ.L.length
  apart : ∀ i j b, i < σ.L.length → j < σ.L.length → i ≠ j → own i b → own j b → False
  out : ∀ i b, i < σ.L.length → own i b → ¬ G b ∧ b < w.heap.size
  inW : ∀ b, G b → b < W.heap.size
  keep : Keep G W w

def HS (G : Nat → Prop) (W : World) (σ : St) (new : List Nat) (w : World) : Prop := ∃ own, HSo G W σ new w own

theorem HS.len {G : Nat → Prop} {W : World} {σ : St} {new : List Nat} {w : World} (h : HS G W σ new w) : σ.X.length + new.length = σ.L.length := h.elim fun _ h => h.len
theorem HS.entlt {G : Nat → Prop} {W : World} {σ : St} {new : List Nat} {w : World} (h : HS G W σ new w) : ∀ e ∈ σ.L, e.lt σ.L.length := h.elim fun _ h => h.entlt
theorem HS.inW {G : Nat → Prop} {W : World} {σ : St} {new : List Nat} {w : World} (h : HS G W σ new w) : ∀ b, G b → b < W.heap.size := h.elim fun _ h => h.inW
theorem HS.keep {G : Nat → Prop} {W : World} {σ : St} {new : List Nat} {w : World} (h : HS G W σ new w) : Keep G W w := h.elim fun _ h => h.keep
theorem HS.same {G : Nat → Prop} {W : World} {σ τ : St} {new : List Nat} {w : World} (h : HS G W σ new w) (hX : τ.X = σ.X) (hL : τ.L = σ.L) : HS G W τ new w := by
  obtain ⟨own, h⟩ := h
  exact ⟨own, by rw [hX, hL]; exact h.len, by rw [hX, hL]; exact h.ok, by rw [hL]; exact h.entlt, by rw [hL]; exact h.apart, by rw [hL]; exact h.out, h.inW, h.keep⟩

/-- What changes: the entries of C, and new ones; all the others' blocks are as they were. -/
theorem HSo.change {G : Nat → Prop} {W : World} {σ : St} {new : List Nat} {w w' : World} {own own' : Nat → Nat → Prop} {L' : List Ent} {new' : List Nat} (h : HSo G W σ new w own) (C : Nat → Prop)
    (hL : L'.length = σ.L.length + new'.length) (hos : w'.os = w.os) (htp : w'.tape = w.tape) (hou : w'.output = w.output) (hsz : w.heap.size ≤ w'.heap.size)
    (hkeep : ∀ b, b < w.heap.size → (∀ i, C i → i < σ.L.length → ¬ own i b) → w'.heap[b]? = w.heap[b]?)
    (hun : ∀ (i : Nat) (e : Ent), ¬ C i → σ.L[i]? = some e → L'[i]? = some e ∧ own' i = own i)
    (hch : ∀ (i : Nat) (e : Ent), L'[i]? = some e → (C i ∨ σ.L.length ≤ i) → e.ok (σ.X ++ (new ++ new')) ((σ.X ++ (new ++ new')).getD i 0) (own' i) w' ∧ e.lt L'.length ∧
      ∀ b, own' i b → b < w'.heap.size ∧ (w.heap.size ≤ b ∨ ∃ j, C j ∧ j < σ.L.length ∧ own j b))
    (hap : ∀ i j b, i < L'.length → j < L'.length → (C i ∨ σ.L.length ≤ i) → (C j ∨ σ.L.length ≤ j) → i ≠ j → own' i b → own' j b → False) :
    HSo G W { σ with L := L' } (new ++ new') w' own' := by
  have hlen : (σ.X ++ new).length = σ.L.length := by simpa using h.len
  have old : ∀ i, i < L'.length → ¬ (C i ∨ σ.L.length ≤ i) → ∃ e, σ.L[i]? = some e ∧ L'[i]? = some e ∧ own' i = own i := by
    intro i hi hn
    have hil : i < σ.L.length := by
      rcases Nat.lt_or_ge i σ.L.length with h' | h'
      · exact h'
      · exact absurd (.inr h') hn
    exact ⟨_, List.getElem?_eq_getElem hil, hun i _ (fun hc => hn (.inl hc)) (List.getElem?_eq_getElem hil)⟩
  have hcross : ∀ i j b, i < L'.length → j < L'.length → ¬ (C i ∨ σ.L.length ≤ i) → (C j ∨ σ.L.length ≤ j) → own' i b → own' j b → False := by
    intro i j b hi hj hni hcj hbi hbj
    obtain ⟨e, he, _, ho⟩ := old i hi hni
    rw [ho] at hbi
    have hil : i < σ.L.length := by
      rcases Nat.lt_or_ge i σ.L.length with h' | h'
      · exact h'
      · exact absurd (.inr h') hni
    obtain ⟨_, _, hb⟩ := hch j _ (List.getElem?_eq_getElem hj) hcj
    rcases (hb b hbj).2 with h1 | ⟨k, hk, hkl, hbk⟩
    · have := (h.out i b hil hbi).2; omega
    · exact h.apart i k b hil hkl (fun e => hni (.inl (e ▸ hk))) hbi hbk
  refine ⟨?_, ?_, ?_, ?_, ?_, h.inW, ?_⟩
  · simp only [List.length_append]; have := h.len; omega
  · intro i e hi
    simp only at hi
    have hil : i < L'.length := (List.getElem?_eq_some_iff.1 hi).1
    by_cases hc : C i ∨ σ.L.length ≤ i
    · exact (hch i e hi hc).1
    · obtain ⟨e', he', he2, ho⟩ := old i hil hc
      rw [he2] at hi
      injection hi with hi; subst hi
      have hil' : i < σ.L.length := (List.getElem?_eq_some_iff.1 he').1
      have hlt := h.entlt e' (List.mem_of_getElem? he')
      show Ent.ok (σ.X ++ (new ++ new')) ((σ.X ++ (new ++ new')).getD i 0) (own' i) w' _
      rw [ho, ← List.append_assoc, getD_append_lt (l := σ.X ++ new) (by omega), Ent.ok_append (by rw [hlen]; exact hlt)]
      refine Ent.ok_loc (h.ok i e' he') fun b hb => hkeep b (h.out i b hil' hb).2 fun k hk hkl hbk => ?_
      exact h.apart i k b hil' hkl (fun e => hc (.inl (e ▸ hk))) hb hbk
  · intro e he
    simp only at he ⊢
    obtain ⟨i, hi⟩ := List.mem_iff_getElem?.1 he
    have hil : i < L'.length := (List.getElem?_eq_some_iff.1 hi).1
    by_cases hc : C i ∨ σ.L.length ≤ i
    · exact (hch i e hi hc).2.1
    · obtain ⟨e', he', he2, ho⟩ := old i hil hc
      rw [he2] at hi
      injection hi with hi; subst hi
      exact Ent.lt_mono (by omega) (h.entlt e' (List.mem_of_getElem? he'))
  · intro i j b hi hj hij hbi hbj
    simp only at hi hj
    by_cases hci : C i ∨ σ.L.length ≤ i
    · by_cases hcj : C j ∨ σ.L.length ≤ j
      · exact hap i j b hi hj hci hcj hij hbi hbj
      · exact hcross j i b hj hi hcj hci hbj hbi
    · by_cases hcj : C j ∨ σ.L.length ≤ j
      · exact hcross i j b hi hj hci hcj hbi hbj
      · obtain ⟨e, he, _, ho⟩ := old i hi hci
        obtain ⟨e', he', _, ho'⟩ := old j hj hcj
        rw [ho] at hbi
        rw [ho'] at hbj
        exact h.apart i j b (List.getElem?_eq_some_iff.1 he).1 (List.getElem?_eq_some_iff.1 he').1 hij hbi hbj
  · intro i b hi hb
    simp only at hi
    by_cases hc : C i ∨ σ.L.length ≤ i
    · obtain ⟨_, _, h3⟩ := hch i _ (List.getElem?_eq_getElem hi) hc
      obtain ⟨h4, h5⟩ := h3 b hb
      refine ⟨?_, h4⟩
      rcases h5 with h5 | ⟨j, hj, hjl, hbj⟩
      · intro hg; have := h.inW b hg; have := h.keep.size; omega
      · exact (h.out j b hjl hbj).1
    · obtain ⟨e, he, _, ho⟩ := old i hi hc
      rw [ho] at hb
      obtain ⟨h1, h2⟩ := h.out i b (List.getElem?_eq_some_iff.1 he).1 hb
      exact ⟨h1, by omega⟩
  · refine h.keep.trans ⟨hos, htp, hou, hsz, fun b hg => hkeep b ?_ ?_⟩
    · have := h.inW b hg; have := h.keep.size; omega
    · intro i _ hil hb
      exact (h.out i b hil hb).1 hg

structure Sat (G : Nat → Prop) (W : World) (σ : St) (new : List Nat) (a : Act) (w : World) : Prop where
  tsz : a.tmps.size = σ.T.length
  tmp : ∀ t sv, getT σ.T t = some sv → a.tmps.getD t undef = sv.den (σ.X ++ new)
  tlt : ∀ t sv, getT σ.T t = some sv → sv.lt σ.L.length
  dfr : a.defers = σ.D.map (DSV.den (σ.X ++ new))
  dlt : ∀ d ∈ σ.D, d.lt σ.L.length
  hs : HS G W σ new w

def St.put (σ : St) (d : Option Tmp) (s : SV) : St :=
  match d with
  | some d => { σ with T := setT σ.T d (some s) }
  | none => σ

theorem Sat.put {G : Nat → Prop} {W : World} {σ : St} {new : List Nat} {a : Act} {w : World} (h : Sat G W σ new a w) (d : Option Tmp) (s : SV) (hl : s.lt σ.L.length) :
    Sat G W (σ.put d s) new (a.put d (s.den (σ.X ++ new))) w := by
  cases d with
  | none => exact h
  | some d =>
    refine ⟨?_, ?_, ?_, h.dfr, h.dlt, h.hs.same rfl rfl⟩
    · simp [St.put, Act.put, setT_length, h.tsz]
    · intro t sv ht
      simp only [St.put, getT_setT] at ht
      simp only [Act.put, St.put]
      by_cases e : d = t
      · subst e
        rw [if_pos rfl] at ht
        by_cases hlt : d < σ.T.length
        · rw [if_pos hlt] at ht
          injection ht with ht
          subst ht
          have : d < a.tmps.size := by rw [h.tsz]; exact hlt
          simp [Array.getD_eq_getD_getElem?, this]
        · rw [if_neg hlt] at ht; cases ht
      · rw [if_neg e] at ht
        have := h.tmp t sv ht
        simp only [Array.getD_eq_getD_getElem?] at this ⊢
        rw [Array.getElem?_setIfInBounds_ne e]
        exact this
    · intro t sv ht
      simp only [St.put, getT_setT] at ht
      by_cases e : d = t
      · subst e
        rw [if_pos rfl] at ht
        by_cases hlt : d < σ.T.length
        · rw [if_pos hlt] at ht; injection ht with ht; subst ht; exact hl
        · rw [if_neg hlt] at ht; cases ht
      · rw [if_neg e] at ht; exact h.tlt t sv ht


/-! ### regions that draw their order, with effects -/
section anyz0
variable {P : Program} {a : Act} {w : World}
/-- The fence of a whole walk: everything may be called. -/
def wf (ro : Option Nat) : Fence := { fn := fun _ => True, depth := none, alive := false, round := ro }

/-- An operation's run that goes on: with a value, or without one. -/
def GoRun (P : Program) (o : Oper) (a : Act) (w : World) (next : Act → World → Prop) : Prop :=
  (∃ v w', (execOp a.eval o).run P w = .ok (.value v) w' ∧ next (a.put o.dst v) w') ∨
  (∃ w', (execOp a.eval o).run P w = .ok .skip w' ∧ next (a.put o.dst undef) w')

theorem wp_value {o : Oper} {v : Value} {w' : World} {next : Act → World → Prop} (h : (execOp a.eval o).run P w = .ok (.value v) w') (hn : next (a.put o.dst v) w') : GoRun P o a w next := .inl ⟨v, w', h, hn⟩
theorem wp_skip' {o : Oper} {w' : World} {next : Act → World → Prop} (h : (execOp a.eval o).run P w = .ok .skip w') (hn : next (a.put o.dst undef) w') : GoRun P o a w next := .inr ⟨w', h, hn⟩

theorem GoRun.wp {o : Oper} {next : Act → World → Prop} {Q : Exit → Act → World → Prop} (h : GoRun P o a w next) : o.wp P a w next Q := by
  unfold Oper.wp
  rcases h with ⟨v, w', h, hn⟩ | ⟨w', h, hn⟩
  · rw [h]; exact hn
  · rw [h]; exact hn

theorem GoRun.wpIn {o : Oper} {next : Act → World → Prop} {Q : Exit → Act → World → Prop} {ro : Option Nat} (h : GoRun P o a w next) (hd : ∀ c, o.op ≠ .defer c) : o.wpIn (wf ro) 0 P a w next Q := by
  refine ⟨fun _ _ => trivial, ?_⟩
  rw [Oper.semAt_eq _ _ _ hd]
  rcases h with ⟨v, w', h, hn⟩ | ⟨w', h, hn⟩
  · rw [h]; exact hn
  · rw [h]; exact hn

theorem calls_in {ro : Option Nat} {m : Nat} {f : FuncId} {args : Array Value} {R : Ending → World → Prop} (h : Calls P f args w R) : CallsIn (wf ro) m P f args w R :=
  (callsIn_wide (n := m)).2 h

end anyz0

section anyz
variable {P : Program}

/-- An operation that goes on: with a value, without one, or with a call that returns. -/
def OpK (P : Program) (o : Oper) (a : Act) (w : World) (K : Act → World → Prop) : Prop :=
  match (execOp a.eval o).run P w with
  | .ok (.value v) w' => K (a.put o.dst v) w'
  | .ok .skip w' => K (a.put o.dst undef) w'
  | .ok (.enter f args) w' => Calls P f args w' fun
    | .returned v, w'' => K (a.put o.dst v) w''
    | _, _ => False
  | _ => False

theorem OpK.mono {o : Oper} {a : Act} {w : World} {K K' : Act → World → Prop} (h : OpK P o a w K) (hk : ∀ a w, K a w → K' a w) : OpK P o a w K' := by
  unfold OpK at *
  split at h
  · exact hk _ _ h
  · exact hk _ _ h
  · refine h.mono fun e w'' he => ?_
    cases e with
    | returned v => exact hk _ _ he
    | panicked c => exact he
    | outgrown => exact he
  · exact h.elim

theorem OpK.wp {o : Oper} {a : Act} {w : World} {K : Act → World → Prop} {Q : Exit → Act → World → Prop} (h : OpK P o a w K) : o.wp P a w K Q := by
  unfold OpK at h
  unfold Oper.wp
  split at h
  · rename_i v w' hr; rw [hr]; exact h
  · rename_i w' hr; rw [hr]; exact h
  · rename_i f args w' hr
    rw [hr, Oper.upon_enter]
    refine h.mono fun e w'' he => ?_
    cases e with
    | returned v => exact he
    | panicked c => exact he.elim
    | outgrown => exact he.elim
  · exact h.elim

theorem OpK.wpIn {o : Oper} {a : Act} {w : World} {K : Act → World → Prop} {Q : Exit → Act → World → Prop} {ro : Option Nat} (h : OpK P o a w K) (hd : ∀ c, o.op ≠ .defer c) : o.wpIn (wf ro) 0 P a w K Q := by
  refine ⟨fun _ _ => trivial, ?_⟩
  rw [Oper.semAt_eq _ _ _ hd]
  unfold OpK at h
  split at h
  · rename_i v w' hr; rw [hr]; exact h
  · rename_i w' hr; rw [hr]; exact h
  · rename_i f args w' hr
    rw [hr, Oper.uponIn_enter]
    refine ⟨by simp [wf], calls_in (h.mono fun e w'' he => ?_)⟩
    cases e with
    | returned v => exact he
    | panicked c => exact he.elim
    | outgrown => exact he.elim
  · exact h.elim

theorem GoRun.opK {o : Oper} {a : Act} {w : World} {K : Act → World → Prop} (h : GoRun P o a w K) : OpK P o a w K := by
  unfold OpK
  rcases h with ⟨v, w', h, hn⟩ | ⟨w', h, hn⟩
  · rw [h]; exact hn
  · rw [h]; exact hn

def wantK (P : Program) (ops : Array Oper) (o : Oper) (a : Act) (w : World) (K : Act → World → Prop) : Prop :=
  if Region.wanted o (yielded ops a.tmps) then OpK P o a w K else K (a.put o.dst undef) w

theorem wantK.mono {ops : Array Oper} {o : Oper} {a : Act} {w : World} {K K' : Act → World → Prop} (h : wantK P ops o a w K) (hk : ∀ a w, K a w → K' a w) : wantK P ops o a w K' := by
  unfold wantK at *
  split
  · rename_i hw; rw [if_pos hw] at h; exact h.mono hk
  · rename_i hw; rw [if_neg hw] at h; exact hk _ _ h

theorem wantK.wpOp {ops : Array Oper} {i : Nat} {o : Oper} {a : Act} {w : World} {K : Act → World → Prop} {Q : Exit → Act → World → Prop} (hi : ops[i]? = some o) (h : wantK P ops o a w K) : wpOp P ops Q i K a w := by
  unfold Go.wpOp
  simp only [hi]
  unfold wantK at h
  split
  · rename_i hw; rw [if_pos hw] at h; exact .inl h.wp
  · rename_i hw; rw [if_neg hw] at h; exact h

theorem wantK_yield {ops : Array Oper} {S : World → Prop} {o : Oper} {v : Value} {a : Act} {w : World} {K : Act → World → Prop} (hy : YieldsIf P ops S o v a) (hS : S w) (h : K (a.put o.dst v) w) : wantK P ops o a w K := by
  unfold wantK
  rcases hy with ⟨hw, hv⟩ | ⟨hw, rfl⟩
  · rw [if_pos hw]; unfold OpK; rw [hv w hS]; exact h
  · rw [if_neg (by rw [hw]; simp)]; exact h

theorem wantK_put {ops : Array Oper} {S : World → Prop} {oi oj : Oper} {v : Value} (hap : oi.apart ops oj = true)
    (hsi : ∀ cs b, oi.op ≠ .select cs b) (hsj : ∀ cs b, oj.op ≠ .select cs b) {K : Act → World → Prop} {a : Act} {w : World}
    (hy : YieldsIf P ops S oi v a) (h : wantK P ops oj (a.put oi.dst v) w K) : wantK P ops oj a w (fun a' w' => YieldsIf P ops S oi v a' ∧ K (a'.put oi.dst v) w') := by
  obtain ⟨h1, h2, h3⟩ := Oper.apart_spec hap
  have keep : ∀ (a : Act), YieldsIf P ops S oi v a → ∀ u, YieldsIf P ops S oi v (a.put oj.dst u) := fun a hy u =>
    hy.of_same (execOp_put oi hsi a oj.dst u h3) (wanted_put oi a oj.dst u h3)
  unfold wantK at *
  rw [wanted_put oj a oi.dst v h1] at h
  split
  · rename_i hw
    rw [if_pos hw] at h
    unfold OpK at *
    rw [execOp_put oj hsj a oi.dst v h1] at h
    split at h
    · rename_i u w' hr; exact ⟨keep a hy u, by rw [← Act.put_comm a v u h2]; exact h⟩
    · rename_i w' hr; exact ⟨keep a hy _, by rw [← Act.put_comm a v undef h2]; exact h⟩
    · rename_i f args w' hr
      refine h.mono fun e w'' he => ?_
      cases e with
      | returned u => exact ⟨keep a hy u, by rw [← Act.put_comm a v u h2]; exact he⟩
      | panicked c => exact he
      | outgrown => exact he
    · exact h.elim
  · rename_i hw
    rw [if_neg hw] at h
    exact ⟨keep a hy _, by rw [← Act.put_comm a v undef h2]; exact h⟩

/-- Whatever order is picked, of all operations but number z, which is the last one; S holds behind each. -/
def anyZ (P : Program) (ops : Array Oper) (S : World → Prop) (z : Nat) (fin : Act → World → Prop) : Nat → Array Bool → Act → World → Prop
  | 0, listed, a, w => (∀ j, j < ops.size → j ≠ z → listed.getD j false = true) ∧ fin a w
  | n + 1, listed, a, w => ((∀ i ∈ Region.ready .any ops listed, i = z) → (∀ j, j < ops.size → j ≠ z → listed.getD j false = true) ∧ fin a w) ∧
    ∀ i o, i ∈ Region.ready .any ops listed → i ≠ z → ops[i]? = some o → wantK P ops o a w (fun a' w' => S w' ∧ anyZ P ops S z fin n (listed.setIfInBounds i true) a' w')

theorem anyZ_first {ops : Array Oper} {S : World → Prop} {z : Nat} {fin : Act → World → Prop} {i : Nat} {oi : Oper} {v : Value} (hi : ops[i]? = some oi) (hiz : i ≠ z) (hsel : ∀ (j : Nat) (o : Oper) cs b, ops[j]? = some o → o.op ≠ .select cs b) :
    ∀ (fuel : Nat) (listed : Array Bool) (a : Act) (w : World),
      (∀ j oj, ops[j]? = some oj → j ≠ i → listed.getD j true = false → (∀ e ∈ oj.after, Region.binds .any e = true → e.on ≠ i) → oi.apart ops oj = true) →
      i ∈ Region.ready .any ops listed → YieldsIf P ops S oi v a → S w →
      anyZ P ops S z fin fuel (listed.setIfInBounds i true) (a.put oi.dst v) w → anyZ P ops S z fin (fuel + 1) listed a w := by
  intro fuel
  induction fuel with
  | zero =>
    intro listed a w _ hr hy hS H
    refine ⟨fun h => absurd (h i hr) hiz, fun j oj hj hjz hoj => ?_⟩
    by_cases hji : j = i
    · subst hji
      rw [hi] at hoj; injection hoj with hoj; subst hoj
      exact wantK_yield hy hS ⟨hS, H⟩
    · exfalso
      have hjlt : j < ops.size := (Array.getElem?_eq_some_iff.1 hoj).1
      have h1 := H.1 j hjlt hjz
      have h0 := (mem_ready.1 hj).1
      have h2 : (listed.setIfInBounds i true).getD j true = false := by rw [getD_set_ne true (Ne.symm hji)]; exact h0
      have hsz : j < (listed.setIfInBounds i true).size := by
        rcases Nat.lt_or_ge j (listed.setIfInBounds i true).size with h' | h'
        · exact h'
        · simp only [Array.getD_eq_getD_getElem?, Array.getElem?_eq_none h'] at h2; cases h2
      simp only [Array.getD_eq_getD_getElem?, Array.getElem?_eq_getElem hsz, Option.getD_some] at h1 h2
      rw [h1] at h2; cases h2
  | succ fuel ih =>
    intro listed a w hfree hr hy hS H
    refine ⟨fun h => absurd (h i hr) hiz, fun j oj hj hjz hoj => ?_⟩
    by_cases hji : j = i
    · subst hji
      rw [hi] at hoj; injection hoj with hoj; subst hoj
      exact wantK_yield hy hS ⟨hS, H⟩
    · have h1 := H.2 j oj (ready_mono hj hji) hjz hoj
      obtain ⟨hjun, oj', hoj', hall⟩ := mem_ready.1 hj
      rw [hoj] at hoj'; injection hoj' with hoj'; subst hoj'
      have hnot : ∀ e ∈ oj.after, Region.binds .any e = true → e.on ≠ i := fun e he hb heq => by
        have h1 := hall e he hb
        have h0 := (mem_ready.1 hr).1
        rw [heq] at h1
        rcases Nat.lt_or_ge i listed.size with h' | h'
        · simp only [Array.getD_eq_getD_getElem?, Array.getElem?_eq_getElem h', Option.getD_some] at h0 h1; rw [h0] at h1; cases h1
        · simp only [Array.getD_eq_getD_getElem?, Array.getElem?_eq_none h'] at h1; cases h1
      have h2 := wantK_put (hfree j oj hoj hji hjun hnot) (fun cs b => hsel i oi cs b hi) (fun cs b => hsel j oj cs b hoj) hy h1
      have hfree' : ∀ k ok, ops[k]? = some ok → k ≠ i → (listed.setIfInBounds j true).getD k true = false →
          (∀ e ∈ ok.after, Region.binds .any e = true → e.on ≠ i) → oi.apart ops ok = true := fun k ok hk hki hun hno => by
        refine hfree k ok hk hki ?_ hno
        by_cases hjk : j = k
        · subst hjk; exact hjun
        · rw [getD_set_ne true hjk] at hun; exact hun
      refine h2.mono fun a' w' h3 => ⟨h3.2.1, ih (listed.setIfInBounds j true) a' w' hfree' (ready_mono hr (Ne.symm hji)) h3.1 h3.2.1 ?_⟩
      rw [Array.setIfInBounds_comm _ _ hji]
      exact h3.2.2

/-- Without a last one. -/
theorem wpAny_of_anyZ {ops : Array Oper} {S : World → Prop} {Q : Exit → Act → World → Prop} : ∀ (fuel : Nat) (listed : Array Bool) (a : Act) (w : World), anyZ P ops S ops.size (Q .normal) fuel listed a w → wpAny P .any ops Q fuel listed a w
  | 0, listed, a, w, h => by
    refine ⟨?_, h.2⟩
    rcases hr : Region.ready .any ops listed with _ | ⟨x, xs⟩
    · rfl
    · exfalso
      have hx : x ∈ Region.ready .any ops listed := by rw [hr]; simp
      obtain ⟨h0, o, ho, _⟩ := mem_ready.1 hx
      have hlt := (Array.getElem?_eq_some_iff.1 ho).1
      have h1 := h.1 x hlt (by omega)
      have hsz : x < listed.size := by
        rcases Nat.lt_or_ge x listed.size with h' | h'
        · exact h'
        · simp only [Array.getD_eq_getD_getElem?, Array.getElem?_eq_none h'] at h0; cases h0
      simp only [Array.getD_eq_getD_getElem?, Array.getElem?_eq_getElem hsz, Option.getD_some] at h0 h1
      rw [h1] at h0; cases h0
  | n + 1, listed, a, w, h => by
    refine ⟨fun hr => (h.1 (by rw [hr]; simp)).2, fun i hi => ?_⟩
    obtain ⟨_, o, ho, _⟩ := mem_ready.1 hi
    have hlt := (Array.getElem?_eq_some_iff.1 ho).1
    exact ((h.2 i o hi (by omega) ho).mono fun a' w' h' => wpAny_of_anyZ n _ a' w' h'.2).wpOp ho

/-- What is reached from z by the edges that bind, k times. -/
def ancs (ops : Array Oper) : Nat → List Nat → List Nat
  | 0, l => l
  | k + 1, l => ancs ops k ((l ++ l.flatMap fun i => match ops[i]? with
    | some o => (o.after.toList.filter (Region.binds .any)).map (·.on)
    | none => []).eraseDups)

/-- z comes last in every order. -/
def lastB (ops : Array Oper) (z : Nat) : Bool :=
  let l := ancs ops ops.size [z]
  ((List.range ops.size).all fun j => l.contains j) && match ops[z]? with
    | some o => o.after.toList.all fun e => e.on != z && decide (e.on < ops.size)
    | none => false

def Down (ops : Array Oper) (listed : Array Bool) : Prop := ∀ j o, ops[j]? = some o → listed.getD j false = true → ∀ e ∈ o.after, Region.binds .any e = true → listed.getD e.on false = true

theorem mem_eraseDups' {l : List Nat} {a : Nat} : a ∈ l.eraseDups ↔ a ∈ l := List.mem_eraseDups

theorem ancs_spec {ops : Array Oper} {listed : Array Bool} (hd : Down ops listed) {z : Nat} {oz : Oper} (hz : ops[z]? = some oz) (hall : ∀ e ∈ oz.after, Region.binds .any e = true → listed.getD e.on false = true) :
    ∀ k l, (∀ j ∈ l, j = z ∨ listed.getD j false = true) → ∀ j ∈ ancs ops k l, j = z ∨ listed.getD j false = true := by
  intro k
  induction k with
  | zero => intro l h; exact h
  | succ k ih =>
    intro l h
    refine ih _ ?_
    intro j hj
    rw [mem_eraseDups', List.mem_append] at hj
    rcases hj with hj | hj
    · exact h j hj
    · obtain ⟨i, hi, hji⟩ := List.mem_flatMap.1 hj
      right
      split at hji
      · rename_i o ho
        obtain ⟨e, he, rfl⟩ := List.mem_map.1 hji
        obtain ⟨he1, he2⟩ := List.mem_filter.1 he
        rcases h i hi with rfl | hl
        · rw [hz] at ho; injection ho with ho; subst ho
          exact hall e (by simpa using he1) he2
        · exact hd i o ho hl e (by simpa using he1) he2
      · cases hji

/-- With a last one. -/
theorem wpAny_of_anyZ_last {ops : Array Oper} {S : World → Prop} {Q : Exit → Act → World → Prop} {z : Nat} {oz : Oper} (hz : ops[z]? = some oz) (hl : lastB ops z = true) : ∀ (fuel : Nat) (listed : Array Bool) (a : Act) (w : World),
    Down ops listed → listed.getD z true = false → anyZ P ops S z (fun a w => wantK P ops oz a w (Q .normal)) fuel listed a w → wpAny P .any ops Q (fuel + 1) listed a w := by
  have hanc : ∀ listed, Down ops listed → z ∈ Region.ready .any ops listed → ∀ j, j < ops.size → j ≠ z → listed.getD j false = true := by
    intro listed hd hr j hj hjz
    obtain ⟨_, o, ho, hall⟩ := mem_ready.1 hr
    rw [hz] at ho; injection ho with ho; subst ho
    have h1 : j ∈ ancs ops ops.size [z] := by
      unfold lastB at hl
      simp only [Bool.and_eq_true] at hl
      have := List.all_eq_true.1 hl.1 j (by simpa using hj)
      simpa using this
    rcases ancs_spec hd hz hall ops.size [z] (by simp) j h1 with h | h
    · exact absurd h hjz
    · exact h
  have none_ready : ∀ listed : Array Bool, (∀ j, j < ops.size → listed.getD j false = true) → Region.ready .any ops listed = [] := by
    intro listed h
    rcases hr : Region.ready .any ops listed with _ | ⟨x, xs⟩
    · rfl
    · exfalso
      have hx : x ∈ Region.ready .any ops listed := by rw [hr]; simp
      obtain ⟨h0, o, ho, _⟩ := mem_ready.1 hx
      have h1 := h x (Array.getElem?_eq_some_iff.1 ho).1
      have hsz : x < listed.size := by
        rcases Nat.lt_or_ge x listed.size with h' | h'
        · exact h'
        · simp only [Array.getD_eq_getD_getElem?, Array.getElem?_eq_none h'] at h0; cases h0
      simp only [Array.getD_eq_getD_getElem?, Array.getElem?_eq_getElem hsz, Option.getD_some] at h0 h1
      rw [h1] at h0; cases h0
  have hzlt : z < ops.size := (Array.getElem?_eq_some_iff.1 hz).1
  have step : ∀ (fuel : Nat) (listed : Array Bool) (a : Act) (w : World), Down ops listed → listed.getD z true = false →
      ((∀ i ∈ Region.ready .any ops listed, i = z) → (∀ j, j < ops.size → j ≠ z → listed.getD j false = true) ∧ wantK P ops oz a w (Q .normal)) →
      (∀ i o, i ∈ Region.ready .any ops listed → i ≠ z → ops[i]? = some o → wantK P ops o a w (wpAny P .any ops Q fuel (listed.setIfInBounds i true))) → wpAny P .any ops Q (fuel + 1) listed a w := by
    intro fuel listed a w hd hzl hA hB
    have hzr : (∀ j, j < ops.size → j ≠ z → listed.getD j false = true) → z ∈ Region.ready .any ops listed := by
      intro h
      refine mem_ready.2 ⟨hzl, oz, hz, fun e he hb => ?_⟩
      unfold lastB at hl
      simp only [Bool.and_eq_true, hz] at hl
      have h3 := List.all_eq_true.1 hl.2 e (by simpa using he)
      simp only [Bool.and_eq_true, bne_iff_ne, decide_eq_true_eq] at h3
      exact h e.on h3.2 h3.1
    refine ⟨fun hr => ?_, fun i hi => ?_⟩
    · have := hA (by rw [hr]; simp)
      have := hzr this.1
      rw [hr] at this
      cases this
    · by_cases hiz : i = z
      · subst hiz
        have hall := hanc listed hd hi
        have hf := (hA (fun j hj => by
          by_cases hji : j = i
          · exact hji
          · exfalso
            obtain ⟨h0, o, ho, _⟩ := mem_ready.1 hj
            have h1 := hall j (Array.getElem?_eq_some_iff.1 ho).1 hji
            have hsz : j < listed.size := by
              rcases Nat.lt_or_ge j listed.size with h' | h'
              · exact h'
              · simp only [Array.getD_eq_getD_getElem?, Array.getElem?_eq_none h'] at h0; cases h0
            simp only [Array.getD_eq_getD_getElem?, Array.getElem?_eq_getElem hsz, Option.getD_some] at h0 h1
            rw [h1] at h0; cases h0)).2
        refine (hf.mono fun a' w' hq => ?_).wpOp hz
        have hr := none_ready (listed.setIfInBounds i true) (by
          intro j hj
          by_cases hji : i = j
          · subst hji
            have hsz : i < listed.size := by
              rcases Nat.lt_or_ge i listed.size with h' | h'
              · exact h'
              · simp only [Array.getD_eq_getD_getElem?, Array.getElem?_eq_none h'] at hzl; cases hzl
            simp [hsz]
          · rw [getD_set_ne false hji]; exact hall j hj (Ne.symm hji))
        cases fuel with
        | zero => exact ⟨hr, hq⟩
        | succ n => exact ⟨fun _ => hq, by rw [hr]; simp⟩
      · obtain ⟨_, o, ho, _⟩ := mem_ready.1 hi
        exact (hB i o hi hiz ho).wpOp ho
  intro fuel
  induction fuel with
  | zero =>
    intro listed a w hd hzl h
    refine step 0 listed a w hd hzl (fun _ => h) ?_
    intro i o hi hiz ho
    exfalso
    have h1 := h.1 i (Array.getElem?_eq_some_iff.1 ho).1 hiz
    have h0 := (mem_ready.1 hi).1
    have hsz : i < listed.size := by
      rcases Nat.lt_or_ge i listed.size with h' | h'
      · exact h'
      · simp only [Array.getD_eq_getD_getElem?, Array.getElem?_eq_none h'] at h0; cases h0
    simp only [Array.getD_eq_getD_getElem?, Array.getElem?_eq_getElem hsz, Option.getD_some] at h0 h1
    rw [h1] at h0; cases h0
  | succ fuel ih =>
    intro listed a w hd hzl h
    refine step (fuel + 1) listed a w hd hzl h.1 ?_
    intro i o hi hiz ho
    refine (h.2 i o hi hiz ho).mono fun a' w' h' => ih _ a' w' ?_ ?_ h'.2
    · intro j oj hoj hj e he hb
      obtain ⟨_, o', ho', hall⟩ := mem_ready.1 hi
      rw [ho] at ho'; injection ho' with ho'; subst ho'
      by_cases hij : i = j
      · subst hij
        rw [ho] at hoj; injection hoj with hoj; subst hoj
        exact getD_set_true (hall e he hb)
      · rw [getD_set_ne false hij] at hj
        exact getD_set_true (hd j oj hoj hj e he hb)
    · rw [getD_set_ne true hiz]; exact hzl

end anyz
/-! ### the types' table -/
inductive TK where
  | struct (fs : List (Nat × Nat))
  | slice (esz : Nat)
  | arr (n esz : Nat)
  | other

structure TyI where
  agg : Bool
  size : Nat
  zero : List Value
  kind : TK

def fsz (P : Program) (t : TypeId) : Option Nat := (P.info? t).map (·.size)

def kindOf (P : Program) : TypeDesc → Option TK
  | .struct fs => (fs.toList.mapM fun f => (fsz P f.type).map fun s => (f.offset, s)).map TK.struct
  | .slice e => (fsz P e).map TK.slice
  | .array n e => (fsz P e).map (TK.arr n)
  | _ => some .other

def aggD : TypeDesc → Bool
  | .struct _ | .array _ _ => true
  | _ => false

def tyI (P : Program) (t : TypeId) : Option TyI :=
  match P.info? t with
  | none => none
  | some i =>
    match P.underlying t with
    | none => none
    | some d =>
      match i.zero with
      | none => none
      | some z =>
        match kindOf P d with
        | none => none
        | some k => some { agg := aggD d, size := i.size, zero := z.cells.toList, kind := k }

/-! ### reading what lies outside -/
def rd (W : World) (A : Option Addr) (off : Nat) : Value :=
  match A with
  | some ad => (W.cell? (ad.add off)).getD undef
  | none => undef

/-- n cells at A + off can be read, in a block of G. -/
def okRd (G : Nat → Prop) (W : World) (A : Option Addr) (off n : Nat) : Prop :=
  ∃ ad, A = some ad ∧ G ad.block ∧ ∀ j, j < n → (W.cell? (ad.add (off + j))).isSome = true

def rdL (W : World) (A : Option Addr) (off : Nat) : Nat → List At
  | 0 => []
  | n + 1 => .v (rd W A off) :: rdL W A (off + 1) n

/-- The number fits a machine's int. -/
def i64ok (n : Int) : Prop := -9223372036854775808 ≤ n ∧ n ≤ 9223372036854775807
theorem i64ok_of {n : Int} (h : -9223372036854775808 ≤ n) (h' : n ≤ 9223372036854775807) : i64ok n := ⟨h, h'⟩

/-- Two structs' cells, one by one (numbers, bools, strings). -/
def eqV : Value → Value → Option Bool
  | .int .i64 a, .int .i64 b => some (a == b)
  | .bool a, .bool b => some (a == b)
  | .string a, .string b => some (a == b)
  | _, _ => none
def eqVs : List Value → List Value → Option Bool
  | [a], [b] => eqV a b
  | a :: l, b :: m => match eqV a b with
    | some x => match eqVs l m with
      | some y => some (x && y)
      | none => none
    | none => none
  | _, _ => none

/-- What the model's comparison of two structs of type t comes to. -/
def EqS (P : Program) (t : TypeId) (xs ys : List Value) (b : Bool) : Prop :=
  ∀ op x y w, (eqGuard op t x y (.agg xs.toArray) (.agg ys.toArray)).run P w = .ok () w ∧ (Op.equal t (.agg xs.toArray) (.agg ys.toArray)).run P w = .ok b w

/-- Whatever our own comparison of the leaves comes to, the model's comes to, too. -/
def EqT (P : Program) (t : TypeId) (xs ys : List Value) : Prop := ∀ b, eqVs xs ys = some b → EqS P t xs ys b

/-! ### evaluation -/
def ev (σ : St) : Operand → Option SV
  | .tmp t => getT σ.T t
  | .const x => some (.v x)
  | .global g => some (.v (.pointer (some ⟨g, 0, none⟩)))
  | .func f => some (.v (.func (.func f) #[] #[]))

def getE : List Ent → Nat → Option Ent
  | [], _ => none
  | e :: _, 0 => some e
  | _ :: l, n + 1 => getE l n
def setE : List Ent → Nat → Ent → List Ent
  | [], _, _ => []
  | _ :: l, 0, x => x :: l
  | e :: l, n + 1, x => e :: setE l n x
def getC : List SV → Nat → Option SV
  | [], _ => none
  | e :: _, 0 => some e
  | _ :: l, n + 1 => getC l n
/-- n cells from off on, as a struct's. -/
def sub : List SV → Nat → Nat → Option (List At)
  | _, 0, 0 => some []
  | s :: l, 0, n + 1 => match s.at? with
    | some c => match sub l 0 n with
      | some r => some (c :: r)
      | none => none
    | none => none
  | _ :: l, k + 1, n => sub l k n
  | [], _, _ => none
/-- The cells from off on replaced. -/
def spl : List SV → Nat → List SV → Option (List SV)
  | l, 0, [] => some l
  | _ :: l, 0, v :: vs => match spl l 0 vs with
    | some r => some (v :: r)
    | none => none
  | s :: l, k + 1, vs => match spl l k vs with
    | some r => some (s :: r)
    | none => none
  | [], _, _ => none

def getF : List (Nat × Nat) → Nat → Option (Nat × Nat)
  | [], _ => none
  | x :: _, 0 => some x
  | _ :: l, n + 1 => getF l n
def getV : List Value → Nat → Option Value
  | [], _ => none
  | x :: _, 0 => some x
  | _ :: l, n + 1 => getV l n

/-- The cells of a row. -/
def gV (l : List Value) (i : Nat) : Value := l.getD i undef
def gVs (l : List Value) (off : Nat) : Nat → Nat → List At
  | _, 0 => []
  | j, n + 1 => .v (gV l (off + j)) :: gVs l off (j + 1) n
/-- Cells of a row replaced. -/
def putV (l : List Value) : Nat → List Value → List Value
  | _, [] => l
  | off, v :: vs => putV (l.set off v) (off + 1) vs

/-- A symbolic value that goes into memory as n cells (agg: a struct). -/
def cellsOf (agg : Bool) : SV → Option (List SV)
  | .agg cs => if agg then some (cs.map At.sv) else none
  | .v (.agg cs) => if agg then some (cs.toList.map SV.v) else none
  | s => if agg then none else some [s]

def one : SV → Prop
  | .v x => x.oneCell' = true
  | .agg _ => False
  | _ => True
def ones : List SV → Prop
  | [] => True
  | s :: l => one s ∧ ones l

def atsOf : SV → Option (List At)
  | .agg cs => some cs
  | .v (.agg cs) => some (cs.toList.map At.v)
  | _ => none

def evs (σ : St) : List Operand → Option (List SV)
  | [] => some []
  | x :: l => match ev σ x with
    | some s => match evs σ l with
      | some r => some (s :: r)
      | none => none
    | none => none
def ats : List SV → Option (List At)
  | [] => some []
  | s :: l => match s.at? with
    | some c => match ats l with
      | some r => some (c :: r)
      | none => none
    | none => none

/-- The parts of a struct that is built. -/
def fillC (P : Program) (σ : St) (fs : List (Nat × Nat)) : List (Nat × Operand) → List SV → Option (List SV)
  | [], cs => some cs
  | (i, x) :: rest, cs => match getF fs i with
    | some (off, size) => match ev σ x with
      | some s => match (match atsOf s with | some l => some (l.map At.sv) | none => some [s]) with
        | some l => if l.length = size then (match spl cs off l with
            | some cs' => fillC P σ fs rest cs'
            | none => none) else none
        | none => none
      | none => none
    | none => none

def St.new (σ : St) (e : Ent) : St := { σ with L := σ.L ++ [e] }
def St.ent (σ : St) (i : Nat) (e : Ent) : St := { σ with L := setE σ.L i e }

/-- An external pointer and a literal offset. -/
def exOf : SV → Option (Option Addr × Nat)
  | .ex A off => some (A, off)
  | .v (.pointer A) => some (A, 0)
  | _ => none

def intOf : SV → Option Int
  | .v (.int .i64 n) => some n
  | _ => none

def cmpI (op : BinOp) (a b : Int) : Option Bool :=
  match op with
  | .eql => some (a == b)
  | .neq => some (a != b)
  | .lss => some (decide (a < b))
  | .leq => some (decide (a ≤ b))
  | .gtr => some (decide (a > b))
  | .geq => some (decide (a ≥ b))
  | _ => none

def brB (b : Bool) (A B : Prop) : Prop := (b = true → A) ∧ (b = false → B)
theorem brB_true (A B : Prop) : brB true A B = A := by simp [brB]
theorem brB_false (A B : Prop) : brB false A B = B := by simp [brB]

def valsOf : List At → Option (List Value)
  | [] => some []
  | .v x :: l => match valsOf l with
    | some r => some (x :: r)
    | none => none
  | _ :: _ => none

/-- A pointer, a slice, a function against nil. -/
def nilOf : SV → Option Bool
  | .v (.pointer none) => some true
  | .v (.pointer (some _)) => some false
  | .p _ _ => some false
  | .v (.slice none _ _) => some true
  | .v (.slice (some _) _ _) => some false
  | .s _ nl _ _ _ => some nl
  | .v .nilFunc => some true
  | .v (.func _ _ _) => some false
  | .fn _ _ _ => some false
  | .v (.map none) => some true
  | .v (.map (some _)) => some false
  | _ => none
/-- The literal nil of a pointer, slice, map or function type. -/
def isNil : SV → Bool
  | .v (.pointer none) => true
  | .v (.slice none _ _) => true
  | .v .nilFunc => true
  | .v (.map none) => true
  | _ => false

/-- Of which kind a nil-able type is: the operands' shape must fit it. -/
def nilKind : SV → Nat
  | .v (.pointer _) => 1
  | .p _ _ => 1
  | .v (.slice _ _ _) => 2
  | .s _ _ _ _ _ => 2
  | .v .nilFunc => 3
  | .v (.func _ _ _) => 3
  | .fn _ _ _ => 3
  | .v (.map _) => 4
  | _ => 0
def nilTy (P : Program) (t : TypeId) : Nat :=
  match P.underlying t with
  | some (.pointer _) => 1
  | some (.slice _) => 2
  | some (.func _ _ _) => 3
  | some (.map _ _) => 4
  | _ => 0

/-- == and != -/
def eqB (op : BinOp) (b : Bool) : Option Bool :=
  match op with
  | .eql => some b
  | .neq => some (!b)
  | _ => none

def nilR (op : BinOp) (b : Bool) : Bool :=
  match op with
  | .eql => b
  | _ => !b

def exBin (P : Program) (op : BinOp) (t : TypeId) (x y : SV) : Option (Prop × SV) :=
  match x, y with
  | .v (.int .i64 a), .v (.int .i64 b) =>
    match op with
    | .add => some (i64ok (a + b), .v (.int .i64 (a + b)))
    | .sub => some (i64ok (a - b), .v (.int .i64 (a - b)))
    | .mul => some (i64ok (a * b), .v (.int .i64 (a * b)))
    | .quo => some (b ≠ 0 ∧ i64ok (a.tdiv b), .v (.int .i64 (a.tdiv b)))
    | .rem => some (b ≠ 0, .v (.int .i64 (a.tmod b)))
    | op => match cmpI op a b with
      | some r => some (True, .v (.bool r))
      | none => none
  | .v (.string a), .v (.string b) =>
    match op with
    | .add => some (i64ok ((a.size + b.size : Nat) : Int), .v (.string (a ++ b)))
    | .eql => some (True, .v (.bool (a.toList == b.toList)))
    | .neq => some (True, .v (.bool (!(a.toList == b.toList))))
    | _ => none
  | .v (.bool a), .v (.bool b) =>
    match nilTy P t, eqB op (a == b) with
    | 0, some r => some (P.underlying t = some .bool, .v (.bool r))
    | _, _ => none
  | x, y =>
    if isNil y then
      match nilOf x, eqB op true with
      | some b, some _ => if nilKind x = nilTy P t then (if nilKind x = nilKind y then some (True, .v (.bool (nilR op b))) else none) else none
      | _, _ => none
    else
    match atsOf x, atsOf y with
    | some l, some m => match valsOf l, valsOf m with
      | some xs, some ys => match eqVs xs ys with
        | some b => match eqB op b with
          | some r => some (EqT P t xs ys, .v (.bool r))
          | none => none
        | none => none
      | _, _ => none
    | _, _ => none

def exSub (G : Nat → Prop) (W : World) (A : Option Addr) (off : Nat) (ti : TyI) : Option (Prop × SV) :=
  some (okRd G W A off ti.size, if ti.agg then .agg (rdL W A off ti.size) else .v (rd W A off))

def exLoad (P : Program) (G : Nat → Prop) (W : World) (σ : St) (t : TypeId) (x : SV) : Option (Prop × SV) :=
  match tyI P t with
  | none => none
  | some ti =>
    match x with
    | .p i off => match getE σ.L i with
      | some (.cells _ cs) =>
        if ti.agg then (match sub cs off ti.size with
          | some l => some (True, .agg l)
          | none => none)
        else (match getC cs off with
          | some s => some (True, s)
          | none => none)
      | some (.row nl _ cur) => if ti.agg then some (nl = false ∧ off + ti.size ≤ cur.length, .agg (gVs cur off 0 ti.size))
        else (if ti.size = 1 then some (nl = false ∧ off < cur.length, .v (gV cur off)) else none)
      | _ => none
    | x => match exOf x with
      | some (A, off) => if ti.agg then exSub G W A off ti else (if ti.size = 1 then exSub G W A off ti else none)
      | none => none

def svVals : List SV → Option (List Value)
  | [] => some []
  | .v x :: l => match svVals l with
    | some r => some (x :: r)
    | none => none
  | _ :: _ => none

def exStore (P : Program) (σ : St) (t : TypeId) (x v : SV) : Option (Prop × St) :=
  match tyI P t with
  | none => none
  | some ti =>
    match x with
    | .p i off => match getE σ.L i with
      | some (.cells ty cs) => match cellsOf ti.agg v with
        | some vs => if vs.length = ti.size then (match spl cs off vs with
          | some cs' => some (ones vs, σ.ent i (.cells ty cs'))
          | none => none) else none
        | none => none
      | some (.row nl ty cur) => match cellsOf ti.agg v with
        | some vs => if vs.length = ti.size then (match svVals vs with
          | some us => some (nl = false ∧ ones vs ∧ off + vs.length ≤ cur.length, σ.ent i (.row nl ty (putV cur off us)))
          | none => none) else none
        | none => none
      | _ => none
    | _ => none

def exField (P : Program) (t : TypeId) (x : SV) (f : Nat) : Option (Prop × SV) :=
  match tyI P t with
  | some { kind := .struct fs, .. } => match getF fs f with
    | some (off, sz) => if sz = 0 then none else
      match x with
      | .p i o => some (True, .p i (o + off))
      | x => match exOf x with
        | some (A, o) => some (A.isSome = true, .ex A (o + off))
        | none => none
    | none => none
  | _ => none

def exIx (x : SV) : Option TyI → SV → Option (Prop × SV)
  | some { kind := .slice esz, .. }, .v (.int .i64 i) =>
    match x with
    | .v (.slice A len _) => some (0 ≤ i ∧ i < len ∧ A.isSome = true, .ex (pAdd A (i.toNat * esz)) 0)
    | .s e nl off len _ => some (0 ≤ i ∧ i < len ∧ nl = false, .p e (off + i.toNat * esz))
    | _ => none
  | some { kind := .arr n esz, .. }, .v (.int .i64 i) =>
    match x with
    | .p e off => some (0 ≤ i ∧ i < n, .p e (off + i.toNat * esz))
    | x => match exOf x with
      | some (A, off) => some (0 ≤ i ∧ i < n ∧ A.isSome = true, .ex (pAdd A (off + i.toNat * esz)) 0)
      | none => none
  | _, _ => none

def exIndex (P : Program) (t : TypeId) (x ix : SV) : Option (Prop × SV) := exIx x (tyI P t) ix

def exLn : Option TypeDesc → SV → Option (Prop × SV)
  | some (.slice _), .v (.slice _ n _) => some (True, .v (.int .i64 n))
  | some (.slice _), .s _ _ _ n _ => some (True, .v (.int .i64 n))
  | some .string, .v (.string s) => some (True, .v (.int .i64 s.size))
  | _, _ => none

def exLen (P : Program) (t : TypeId) (x : SV) : Option (Prop × SV) := exLn (P.underlying t) x

/-- The two ints' extreme, as the model has it. -/
def minI (x y : Int) : Int := if y < x then y else x
def maxI (x y : Int) : Int := if y > x then y else x

def exSl (lo hi : Option SV) : Option TyI → SV → Option (Prop × SV)
  | some { kind := .slice esz, .. }, .v (.slice A len cap) =>
    match lo, hi with
    | none, none => some (True, .v (.slice A len cap))
    | none, some (.v (.int .i64 h)) => some (0 ≤ h ∧ h ≤ cap, .v (.slice A h.toNat cap))
    | some (.v (.int .i64 l)), none => some (0 ≤ l ∧ l ≤ len, .v (.slice (if cap = l.toNat then A else pAdd A (l.toNat * esz)) (len - l.toNat) (cap - l.toNat)))
    | some (.v (.int .i64 l)), some (.v (.int .i64 h)) => some (0 ≤ h ∧ h ≤ cap ∧ 0 ≤ l ∧ l ≤ h.toNat, .v (.slice (if cap = l.toNat then A else pAdd A (l.toNat * esz)) (h.toNat - l.toNat) (cap - l.toNat)))
    | _, _ => none
  | some { kind := .slice esz, .. }, .s e nl off len cap =>
    match lo, hi with
    | none, none => some (True, .s e nl off len cap)
    | none, some (.v (.int .i64 h)) => some (0 ≤ h ∧ h ≤ cap, .s e nl off h.toNat cap)
    | some (.v (.int .i64 l)), none => some (0 ≤ l ∧ l ≤ len, .s e nl (if cap = l.toNat then off else off + l.toNat * esz) (len - l.toNat) (cap - l.toNat))
    | some (.v (.int .i64 l)), some (.v (.int .i64 h)) => some (0 ≤ h ∧ h ≤ cap ∧ 0 ≤ l ∧ l ≤ h.toNat, .s e nl (if cap = l.toNat then off else off + l.toNat * esz) (h.toNat - l.toNat) (cap - l.toNat))
    | _, _ => none
  | _, _ => none

def exSlice (P : Program) (t : TypeId) (x : SV) (lo hi : Option SV) : Option (Prop × SV) := exSl lo hi (tyI P t) x

/-- A slice with all three bounds, the first one 0. -/
def exSl3 (hi mx : SV) : Option TyI → SV → Option (Prop × SV)
  | some { kind := .slice _, .. }, .v (.slice A _ cap) =>
    match hi, mx with
    | .v (.int .i64 h), .v (.int .i64 m) => some (0 ≤ m ∧ m ≤ cap ∧ 0 ≤ h ∧ h ≤ m.toNat, .v (.slice A h.toNat m.toNat))
    | _, _ => none
  | some { kind := .slice _, .. }, .s e nl off _ cap =>
    match hi, mx with
    | .v (.int .i64 h), .v (.int .i64 m) => some (0 ≤ m ∧ m ≤ cap ∧ 0 ≤ h ∧ h ≤ m.toNat, .s e nl off h.toNat m.toNat)
    | _, _ => none
  | _, _ => none
def exSlice3 (P : Program) (t : TypeId) (x hi mx : SV) : Option (Prop × SV) := exSl3 hi mx (tyI P t) x

/-- A field's offset, and its size if it is a struct or an array itself. -/
def fldI (P : Program) (t f : Nat) : Option (Nat × Option Nat) :=
  match P.underlying t with
  | some (.struct fs) => match fs[f]? with
    | some fd => match P.info? fd.type with
      | some i => match P.underlying fd.type with
        | some d => some (fd.offset, if aggD d then some i.size else none)
        | none => none
      | none => none
    | none => none
  | _ => none

def getA : List At → Nat → Option At
  | [], _ => none
  | c :: _, 0 => some c
  | _ :: l, n + 1 => getA l n
def subA : List At → Nat → Nat → Option (List At)
  | _, 0, 0 => some []
  | c :: l, 0, n + 1 => match subA l 0 n with
    | some r => some (c :: r)
    | none => none
  | _ :: l, k + 1, n => subA l k n
  | [], _, _ => none

def exFl : Option (List At) → Option (Nat × Option Nat) → Option (Prop × SV)
  | some l, some (off, none) => match getA l off with
    | some c => some (True, c.sv)
    | none => none
  | some l, some (off, some n) => match subA l off n with
    | some r => some (True, .agg r)
    | none => none
  | _, _ => none
def exFld (P : Program) (t : TypeId) (x : SV) (f : Nat) : Option (Prop × SV) := exFl (atsOf x) (fldI P t f)

def exBuild (P : Program) (σ : St) (t : TypeId) (parts : List (Nat × Operand)) : Option (Prop × SV) :=
  match tyI P t with
  | some { agg := true, zero, kind := .struct fs, .. } =>
    match fillC P σ fs parts (zero.map SV.v) with
    | some cs => match ats cs with
      | some l => some (True, .agg l)
      | none => none
    | none => none
  | _ => none

def bsF (size : Nat) : Nat → Nat → List (Nat × Nat)
  | _, 0 => []
  | k, n + 1 => (k * size, size) :: bsF size (k + 1) n
def repV : Nat → List Value → List Value
  | 0, _ => []
  | n + 1, z => z ++ repV n z

/-- A slice that is built: its cells, and its elements' type. -/
def exBSl (P : Program) (σ : St) (len : Nat) (parts : List (Nat × Operand)) (e : TypeId) : Option (List SV) :=
  match tyI P e with
  | some { size, zero, .. } => if 16777216 < len * size then none else if zero.length = size then
    fillC P σ (bsF size 0 len) parts ((repV len zero).map SV.v) else none
  | none => none

/-- The element type of a slice type. -/
def elemOf (P : Program) (t : TypeId) : Option TypeId :=
  match P.underlying t with
  | some (.slice e) => some e
  | _ => none

inductive Stp where
  | go (ob : Prop) (σ : St)
  | call (f : FuncId) (args : List SV)
  | no

def vOf (σ : St) (d : Option Tmp) : Option (Prop × SV) → Stp
  | some (ob, s) => .go ob (σ.put d s)
  | none => .no

def exec (P : Program) (G : Nat → Prop) (W : World) (σ : St) (o : Oper) : Stp :=
  match o.op with
  | .move x => match ev σ x with
    | some s => .go True (σ.put o.dst s)
    | none => .no
  | .assign x => match ev σ x with
    | some s => .go True (σ.put o.dst s)
    | none => .no
  | .pick c a b => match ev σ c with
    | some (.v (.bool true)) => (match ev σ a with | some s => .go True (σ.put o.dst s) | none => .no)
    | some (.v (.bool false)) => (match ev σ b with | some s => .go True (σ.put o.dst s) | none => .no)
    | _ => .no
  | .load t x => match ev σ x with
    | some s => vOf σ o.dst (exLoad P G W σ t s)
    | none => .no
  | .store t x v => match ev σ x with
    | some s => match ev σ v with
      | some u => (match exStore P σ t s u with | some (ob, σ') => .go ob (σ'.put o.dst (.v undef)) | none => .no)
      | none => .no
    | none => .no
  | .fieldAddr t x f => match ev σ x with
    | some s => vOf σ o.dst (exField P t s f)
    | none => .no
  | .indexAddr t x ix => match ev σ x with
    | some s => match ev σ ix with
      | some i => vOf σ o.dst (exIndex P t s i)
      | none => .no
    | none => .no
  | .nilCheck x => match ev σ x with
    | some (.p i off) => .go True (σ.put o.dst (.p i off))
    | some (.ex A off) => .go (A.isSome = true) (σ.put o.dst (.ex A off))
    | some (.v (.pointer A)) => .go (A.isSome = true) (σ.put o.dst (.v (.pointer A)))
    | _ => .no
  | .alloc t => match tyI P t with
    | some ti => .go True ((σ.new (.cells t (ti.zero.map SV.v))).put o.dst (.p σ.L.length 0))
    | none => .no
  | .box t x => match ev σ x with
    | some s => match tyI P t with
      | some ti => match cellsOf ti.agg s with
        | some cs => .go (ones cs) ((σ.new (.cells t cs)).put o.dst (.p σ.L.length 0))
        | none => .no
      | none => .no
    | none => .no
  | .field t x f => match ev σ x with
    | some s => vOf σ o.dst (exFld P t s f)
    | none => .no
  | .build t parts => vOf σ o.dst (exBuild P σ t parts.toList)
  | .buildSlice t len parts => match elemOf P t with
    | some e => match exBSl P σ len parts.toList e with
      | some cs => .go (ones cs) ((σ.new (.cells e cs)).put o.dst (.s σ.L.length false 0 len len))
      | none => .no
    | none => .no
  | .binOp op t x y _ => match ev σ x with
    | some s => match ev σ y with
      | some u => vOf σ o.dst (exBin P op t s u)
      | none => .no
    | none => .no
  | .unOp .not _ x => match ev σ x with
    | some (.v (.bool b)) => .go True (σ.put o.dst (.v (.bool (!b))))
    | _ => .no
  | .makeFunc f fs cs => match evs σ fs.toList with
    | some l => match evs σ cs.toList with
      | some m => match ats l with
        | some l' => match ats m with
          | some m' => .go True (σ.put o.dst (.fn f l' m'))
          | none => .no
        | none => .no
      | none => .no
    | none => .no
  | .slice t x lo hi mx => match mx with
    | some m => match lo, hi with
      | none, some h => (match ev σ x with
        | some s => (match ev σ h with
          | some h' => (match ev σ m with
            | some m' => vOf σ o.dst (exSlice3 P t s h' m')
            | none => .no)
          | none => .no)
        | none => .no)
      | _, _ => .no
    | none => match ev σ x with
      | none => .no
      | some s => match lo, hi with
        | none, none => vOf σ o.dst (exSlice P t s none none)
        | some l, none => (match ev σ l with | some l' => vOf σ o.dst (exSlice P t s (some l') none) | none => .no)
        | none, some h => (match ev σ h with | some h' => vOf σ o.dst (exSlice P t s none (some h')) | none => .no)
        | some l, some h => (match ev σ l with | some l' => (match ev σ h with | some h' => vOf σ o.dst (exSlice P t s (some l') (some h')) | none => .no) | none => .no)
  | .extract x i => match ev σ x with
    | some (.v (.tuple vs)) => (match getV vs.toList i with | some y => .go True (σ.put o.dst (.v y)) | none => .no)
    | _ => .no
  | .call c => match c.callee with
    | .builtin .len => (match c.args.toList, c.argTypes.toList with
      | [x], [t] => (match ev σ x with | some s => vOf σ o.dst (exLen P t s) | none => .no)
      | _, _ => .no)
    | .builtin .min => (match c.args.toList with
      | [x, y] => (match ev σ x with
        | some (.v (.int .i64 a)) => (match ev σ y with
          | some (.v (.int .i64 b)) => .go True (σ.put o.dst (.v (.int .i64 (minI a b))))
          | _ => .no)
        | _ => .no)
      | _ => .no)
    | .builtin .max => (match c.args.toList with
      | [x, y] => (match ev σ x with
        | some (.v (.int .i64 a)) => (match ev σ y with
          | some (.v (.int .i64 b)) => .go True (σ.put o.dst (.v (.int .i64 (maxI a b))))
          | _ => .no)
        | _ => .no)
      | _ => .no)
    | .value f => (match evs σ c.args.toList with
      | some args => match ev σ f with
        | some (.v (.func (.func f) fs cs)) => .call f (fs.toList.map SV.v ++ args ++ cs.toList.map SV.v)
        | some (.fn (.func f) fs cs) => .call f (fs.map At.sv ++ args ++ cs.map At.sv)
        | _ => .no
      | none => .no)
    | _ => .no
  | _ => .no

/-! ### what is left to do, and the conditions -/
/-- What is asked at the end, and in which frame one walks (ro: in a round of which range over a function). -/
structure Pst where
  ro : Option Nat
  q : Exit → Act → World → Prop

/-- In which order one goes through a region that draws its order: take: an operation that only reckons and reads; run: whichever of these comes up. -/
inductive Plan where
  | fin
  | take (i : Nat) (p : Plan)
  | run (i : Nat) (p more : Plan)

def Plan.size : Plan → Nat
  | .fin => 0
  | .take _ p => p.size + 1
  | .run _ p _ => p.size + 1
def Plan.alts : Plan → List Nat
  | .run i _ more => i :: more.alts
  | _ => []
def Plan.isFin : Plan → Bool
  | .fin => true
  | _ => false
/-- Does the plan stand for all orders? -/
def Plan.ok (ops : Array Oper) (z : Nat) : Bool → List Bool → Plan → Bool
  | _, l, .fin => (List.range ops.size).all fun j => j == z || l.getD j false
  | _, l, .take i p => i != z && (decide (i < ops.size) && (Region.free .any ops l.toArray i && ((Region.ready .any ops l.toArray).contains i && p.ok ops z true (l.set i true))))
  | top, l, .run i p more => (!top || (Region.ready .any ops l.toArray).filter (· != z) == i :: more.alts) && (p.ok ops z true (l.set i true) && (more.isFin || (more.size == p.size + 1 && more.ok ops z false l)))
def Plan.okAll (all : List Oper) (z : Nat) (p : Plan) : Bool :=
  p.ok all.toArray z true (List.replicate all.length false) && (Region.noSelect all.toArray && (if z < all.length then p.size + 1 == all.length && lastB all.toArray z else z == all.length && p.size == all.length))

inductive It where
  | code (c : Code)
  | ops (all rest : List Oper)
  | blk (id : Nat)
  | rnd (R : Act → World → Prop)
  | any (chk : Bool) (all : List Oper) (z : Nat) (GI : Nat → Prop) (WI : World) (X : List Nat) (LS : List Ent) (l : List Bool) (plan : Plan)

/-- What is held behind each operation of such a region. -/
def SI (GI : Nat → Prop) (WI : World) (X : List Nat) (LS : List Ent) (w : World) : Prop := HS GI WI { T := [], X := X, L := LS, D := [] } [] w

/-- Such a region's last operation, and what is behind it. -/
def finK (P : Program) (all : List Oper) (z : Nat) (K : Act → World → Prop) (a : Act) (w : World) : Prop :=
  match all[z]? with
  | some o => wantK P all.toArray o a w K
  | none => K a w

def Wt (P : Program) (Q : Pst) : List It → Exit → Act → World → Prop
  | [] => Q.q
  | .code c :: k => fun e a w => match e with
    | .normal => c.wpIn (wf Q.ro) 0 P (Wt P Q k) a w
    | e => Wt P Q k e a w
  | .ops all rest :: k => fun e a w => match e with
    | .normal => wpListIn (wf Q.ro) 0 P all.toArray (Wt P Q k) rest a w
    | e => Wt P Q k e a w
  | .blk id :: k => Exit.inBlock id (Wt P Q k)
  | .rnd R :: k => fun e a w => match e with
    | .normal => R a w
    | e => Wt P Q k e a w
  | .any chk all z GI WI X LS l plan :: k => fun e a w => match e with
    | .normal => Region.noSelect all.toArray = true → plan.ok all.toArray z true l = true → (chk = true → SI GI WI X LS w) ∧ (SI GI WI X LS w → anyZ P all.toArray (SI GI WI X LS) z (finK P all z (Wt P Q k .normal)) plan.size l.toArray a w)
    | e => Wt P Q k e a w

def Res (P : Program) (Q : Pst) (G : Nat → Prop) (W : World) (σ : St) (k : List It) : Prop :=
  ∀ new a w, Sat G W σ new a w → Wt P Q k .normal a w

def Ret (Q : Pst) (G : Nat → Prop) (W : World) (σ : St) : Prop :=
  ∀ new a w, Sat G W σ new a w → Q.q .ret a w

/-- A call of f stands next. -/
def CallAt (P : Program) (Q : Pst) (G : Nat → Prop) (W : World) (σ : St) (f : FuncId) (args : List SV) (dst : Option Tmp) (k : List It) : Prop :=
  ∀ new a w, Sat G W σ new a w → Calls P f (args.map (SV.den (σ.X ++ new))).toArray w fun
    | .returned v, w' => Wt P Q k .normal (a.put dst v) w'
    | _, _ => False

def fnOK (P : Program) (f : FuncId) : Bool :=
  match P.funcs[f]? with
  | some fn => fn.name != "runtime.NumGoroutine" && fn.body.isSome
  | none => false

def ltAs (n : Nat) : List At → Prop
  | [] => True
  | .v _ :: l => ltAs n l
  | .p i _ :: l => i < n ∧ ltAs n l
  | .s i _ _ _ _ :: l => i < n ∧ ltAs n l
def ltS (n : Nat) : SV → Prop
  | .v _ => True
  | .p i _ => i < n
  | .ex _ _ => True
  | .s i _ _ _ _ => i < n
  | .fn _ fs cs => ltAs n fs ∧ ltAs n cs
  | .agg cs => ltAs n cs
def ltCs (n : Nat) : List SV → Prop
  | [] => True
  | s :: l => ltS n s ∧ ltCs n l
def ltEs (n : Nat) : List Ent → Prop
  | [] => True
  | .cells _ cs :: l => ltCs n cs ∧ ltEs n l
  | _ :: l => ltEs n l

def popTo (id : Nat) : List It → Option (List It)
  | [] => none
  | .blk id' :: k => if id = id' then some k else popTo id k
  | _ :: k => popTo id k

def gdT : List Oper → Nat → Option Tmp
  | [], _ => none
  | o :: _, 0 => o.dst
  | _ :: l, n + 1 => gdT l n

inductive Gd where
  | yes
  | not
  | no

def gd (σ : St) (all : List Oper) : Option (Nat × Bool) → Gd
  | none => .yes
  | some (j, want) => match gdT all j with
    | none => .no
    | some d => match getT σ.T d with
      | some (.v (.bool true)) => if want then .yes else .not
      | some (.v (.bool false)) => if want then .not else .yes
      | some (.v (.tuple _)) => .not
      | _ => .no

/-- Is the slot d one that a guard in the region's rest looks at? -/
def gUsed (all : List Oper) (d : Tmp) : List Oper → Bool
  | [] => false
  | o :: rest => match o.guard with
    | none => gUsed all d rest
    | some (j, _) => match gdT all j with
      | none => gUsed all d rest
      | some e => if e = d then true else gUsed all d rest

def gSplit (all rest : List Oper) (σ : St) : Option Tmp → Option (Tmp × Bool)
  | none => none
  | some d => match getT σ.T d with
    | some (.v (.bool b)) => if gUsed all d rest then some (d, b) else none
    | _ => none

def getO : List Oper → Nat → Option Oper
  | [], _ => none
  | o :: _, 0 => some o
  | _ :: l, n + 1 => getO l n

/-- The operations that only reckon or read. -/
def isQ : Op → Bool
  | .store .. | .alloc _ | .box .. | .buildSlice .. | .defer _ => false
  | _ => true

/-- An operation that is no rule's: what it must come to. -/
def OpAt (P : Program) (Q : Pst) (G : Nat → Prop) (W : World) (σ : St) (o : Oper) (k : List It) : Prop :=
  ∀ new a w, Sat G W σ new a w → OpK P o a w (Wt P Q k .normal)

def LSpad (LS : List Ent) (n : Nat) : List Ent := LS ++ List.replicate n .dead

def LeL : List Ent → List Ent → Prop
  | [], _ => True
  | .dead :: l, _ :: m => LeL l m
  | e :: l, e' :: m => e = e' ∧ LeL l m
  | _, _ => False

def isPre (X Y : List Nat) : Prop := ∃ m, Y = X ++ m
theorem isPre_self (X : List Nat) : isPre X X = True := eq_true ⟨[], by simp⟩
theorem isPre_app (X m : List Nat) : isPre X (X ++ m) = True := eq_true ⟨m, rfl⟩
theorem isPre_app2 (X m n : List Nat) : isPre X (X ++ m ++ n) = True := eq_true ⟨m ++ n, by simp⟩

/-- What is held, is so now. -/
def SChk (G : Nat → Prop) (W : World) (σ : St) (GI : Nat → Prop) (WI : World) (X : List Nat) (LS : List Ent) : Prop := GI = G ∧ WI = W ∧ isPre X σ.X ∧ LeL LS σ.L

/-- Behind a test that a guard looks at. -/
def aSp (K : St → Prop) (σ' : St) : Option (Tmp × Bool) → Prop
  | none => K σ'
  | some (d, b) => (b = true → K (σ'.put (some d) (.v (.bool true)))) ∧ (b = false → K (σ'.put (some d) (.v (.bool false))))
/-- An operation that is taken: in the world as it is held. -/
def aTk (all : List Oper) (σ : St) (o : Oper) (K : St → Prop) : Stp → Prop
  | .go ob σ' => ob ∧ aSp K { σ with T := σ'.T } (gSplit all all { σ with T := σ'.T } o.dst)
  | _ => False
def aIs (P : Program) (GI : Nat → Prop) (WI : World) (LS : List Ent) (all : List Oper) (σ : St) (o : Oper) (K : St → Prop) : Bool → Prop
  | true => aTk all σ o K (exec P GI WI { σ with L := LSpad LS (σ.L.length - LS.length) } o)
  | false => False
def aGd (P : Program) (GI : Nat → Prop) (WI : World) (LS : List Ent) (all : List Oper) (σ : St) (o : Oper) (K : St → Prop) : Gd → Prop
  | .yes => aIs P GI WI LS all σ o K (isQ o.op)
  | .not => K (σ.put o.dst (.v undef))
  | .no => False
def aTake (P : Program) (GI : Nat → Prop) (WI : World) (LS : List Ent) (all : List Oper) (σ : St) (K : St → Prop) : Option Oper → Prop
  | some o => aGd P GI WI LS all σ o K (gd σ all o.guard)
  | none => False
/-- An operation that is carried out. -/
def aEx (P : Program) (Q : Pst) (G : Nat → Prop) (W : World) (all : List Oper) (σ : St) (o : Oper) (K : St → Prop) (k : List It) : Stp → Prop
  | .go ob σ' => ob ∧ aSp K σ' (gSplit all all σ' o.dst)
  | .call f args => fnOK P f = true ∧ CallAt P Q G W σ f args o.dst k
  | .no => OpAt P Q G W σ o k
def aRg (P : Program) (Q : Pst) (G : Nat → Prop) (W : World) (all : List Oper) (σ : St) (o : Oper) (K : St → Prop) (k : List It) : Gd → Prop
  | .yes => aEx P Q G W all σ o K k (exec P G W σ o)
  | .not => K (σ.put o.dst (.v undef))
  | .no => False
def aRun (P : Program) (Q : Pst) (G : Nat → Prop) (W : World) (all : List Oper) (σ : St) (K : St → Prop) (k : List It) : Option Oper → Prop
  | some o => aRg P Q G W all σ o K k (gd σ all o.guard)
  | none => False
def aAlt (P : Program) (Q : Pst) (G : Nat → Prop) (W : World) (V : St → List It → Prop) (σ : St) (all : List Oper) (z : Nat) (GI : Nat → Prop) (WI : World) (X : List Nat) (LS : List Ent) (l : List Bool) (k : List It) : Plan → Prop
  | .run i p more => aRun P Q G W all σ (fun σ' => V σ' (.any true all z GI WI X LS (l.set i true) p :: k)) (.any true all z GI WI X LS (l.set i true) p :: k) (getO all i) ∧ aAlt P Q G W V σ all z GI WI X LS l k more
  | _ => True
def aFin (P : Program) (Q : Pst) (G : Nat → Prop) (W : World) (V : St → List It → Prop) (σ : St) (all : List Oper) (k : List It) : Option Oper → Prop
  | some o => aRun P Q G W all σ (fun σ' => V σ' k) k (some o)
  | none => V σ k
def aPlan (P : Program) (Q : Pst) (G : Nat → Prop) (W : World) (V : St → List It → Prop) (σ : St) (all : List Oper) (z : Nat) (GI : Nat → Prop) (WI : World) (X : List Nat) (LS : List Ent) (l : List Bool) (k : List It) : Plan → Prop
  | .take i p => isPre X σ.X ∧ LS.length = X.length ∧ aTake P GI WI LS all σ (fun σ' => V σ' (.any false all z GI WI X LS (l.set i true) p :: k)) (getO all i)
  | .run i p more => aAlt P Q G W V σ all z GI WI X LS l k (.run i p more)
  | .fin => aFin P Q G W V σ all k (getO all z)
def aChk (G : Nat → Prop) (W : World) (σ : St) (GI : Nat → Prop) (WI : World) (X : List Nat) (LS : List Ent) : Bool → Prop
  | true => SChk G W σ GI WI X LS ∧ ltEs LS.length LS ∧ LS.length = X.length
  | false => True

def vc (P : Program) (Q : Pst) (G : Nat → Prop) (W : World) : Nat → St → List It → Prop
  | 0, σ, k => Res P Q G W σ k
  | _ + 1, σ, [] => Res P Q G W σ []
  | n + 1, σ, .blk _ :: k => vc P Q G W n σ k
  | _ + 1, σ, .rnd R :: k => Res P Q G W σ (.rnd R :: k)
  | n + 1, σ, .any chk all z GI WI X LS l plan :: k => aChk G W σ GI WI X LS chk ∧ aPlan P Q G W (vc P Q G W n) σ all z GI WI X LS l k plan
  | n + 1, σ, .ops _ [] :: k => vc P Q G W n σ k
  | n + 1, σ, .ops all (o :: rest) :: k =>
    match gd σ all o.guard with
    | .yes => match exec P G W σ o with
      | .go ob σ' => ob ∧ (match gSplit all rest σ' o.dst with
        | none => vc P Q G W n σ' (.ops all rest :: k)
        | some (d, b) => (b = true → vc P Q G W n (σ'.put (some d) (.v (.bool true))) (.ops all rest :: k)) ∧ (b = false → vc P Q G W n (σ'.put (some d) (.v (.bool false))) (.ops all rest :: k)))
      | .call f args => fnOK P f = true ∧ CallAt P Q G W σ f args o.dst (.ops all rest :: k)
      | .no => Res P Q G W σ (.ops all (o :: rest) :: k)
    | .not => vc P Q G W n (σ.put o.dst (.v undef)) (.ops all rest :: k)
    | .no => Res P Q G W σ (.ops all (o :: rest) :: k)
  | n + 1, σ, .code c :: k =>
    match c with
    | .skip => vc P Q G W n σ k
    | .seq x y => vc P Q G W n σ (.code x :: .code y :: k)
    | .block id c => vc P Q G W n σ (.code c :: .blk id :: k)
    | .region _ ops false => vc P Q G W n σ (.ops ops.toList ops.toList :: k)
    | .cond c x y => match ev σ c with
      | some (.v (.bool b)) => (b = true → vc P Q G W n σ (.code x :: k)) ∧ (b = false → vc P Q G W n σ (.code y :: k))
      | _ => Res P Q G W σ (.code (.cond c x y) :: k)
    | .exit id => match popTo id k with
      | some k' => vc P Q G W n σ k'
      | none => Res P Q G W σ (.code (.exit id) :: k)
    | .ret => Ret Q G W σ
    | c => Res P Q G W σ (.code c :: k)

/-- A way that parts: behind a test that is not decided (Br stands for the two ways, which are gone into one by one). -/
def Br (P : Program) (Q : Pst) (G : Nat → Prop) (W : World) (n : Nat) (b : Bool) (σ1 : St) (k1 : List It) (σ2 : St) (k2 : List It) : Prop :=
  (b = true → vc P Q G W n σ1 k1) ∧ (b = false → vc P Q G W n σ2 k2)
section
variable (P : Program) (Q : Pst) (G : Nat → Prop) (W : World) (n : Nat) (σ1 σ2 : St) (k1 k2 : List It)
theorem Br_true : Br P Q G W n true σ1 k1 σ2 k2 = vc P Q G W n σ1 k1 := by simp [Br]
theorem Br_false : Br P Q G W n false σ1 k1 σ2 k2 = vc P Q G W n σ2 k2 := by simp [Br]
end
theorem Br.mk {P : Program} {Q : Pst} {G : Nat → Prop} {W : World} {n : Nat} {b : Bool} {σ1 : St} {k1 : List It} {σ2 : St} {k2 : List It}
    (h1 : b = true → vc P Q G W n σ1 k1) (h2 : b = false → vc P Q G W n σ2 k2) : Br P Q G W n b σ1 k1 σ2 k2 := ⟨h1, h2⟩

/-! The equations by which the conditions are reckoned. -/
section
variable (P : Program) (Q : Pst) (G : Nat → Prop) (W : World) (n : Nat) (σ : St) (k : List It)
theorem vc_nil : vc P Q G W (n + 1) σ [] = Res P Q G W σ [] := rfl
theorem vc_rnd (R : Act → World → Prop) : vc P Q G W (n + 1) σ (.rnd R :: k) = Res P Q G W σ (.rnd R :: k) := rfl
theorem vc_any (chk : Bool) (all : List Oper) (z : Nat) (GI : Nat → Prop) (WI : World) (X : List Nat) (LS : List Ent) (l : List Bool) (plan : Plan) : vc P Q G W (n + 1) σ (.any chk all z GI WI X LS l plan :: k) = (aChk G W σ GI WI X LS chk ∧ aPlan P Q G W (vc P Q G W n) σ all z GI WI X LS l k plan) := rfl
theorem vc_blk (id : Nat) : vc P Q G W (n + 1) σ (.blk id :: k) = vc P Q G W n σ k := rfl
theorem vc_done (all : List Oper) : vc P Q G W (n + 1) σ (.ops all [] :: k) = vc P Q G W n σ k := rfl
def vSp (all rest : List Oper) (σ' : St) : Option (Tmp × Bool) → Prop
  | none => vc P Q G W n σ' (.ops all rest :: k)
  | some (d, b) => Br P Q G W n b (σ'.put (some d) (.v (.bool true))) (.ops all rest :: k) (σ'.put (some d) (.v (.bool false))) (.ops all rest :: k)
/-- The step behind an operation's outcome. -/
def vgo (all rest : List Oper) (o : Oper) : Stp → Prop
  | .go ob σ' => ob ∧ vSp P Q G W n k all rest σ' (gSplit all rest σ' o.dst)
  | .call f args => fnOK P f = true ∧ CallAt P Q G W σ f args o.dst (.ops all rest :: k)
  | .no => Res P Q G W σ (.ops all (o :: rest) :: k)
def vop (all rest : List Oper) (o : Oper) : Gd → Prop
  | .yes => vgo P Q G W n σ k all rest o (exec P G W σ o)
  | .not => vc P Q G W n (σ.put o.dst (.v undef)) (.ops all rest :: k)
  | .no => Res P Q G W σ (.ops all (o :: rest) :: k)
theorem vc_op (all rest : List Oper) (o : Oper) : vc P Q G W (n + 1) σ (.ops all (o :: rest) :: k) = vop P Q G W n σ k all rest o (gd σ all o.guard) := by
  simp only [vc]
  cases gd σ all o.guard with
  | yes =>
    simp only [vop]
    cases exec P G W σ o with
    | go ob σ' =>
      simp only [vgo]
      cases gSplit all rest σ' o.dst <;> rfl
    | call f args => rfl
    | no => rfl
  | not => rfl
  | no => rfl
theorem vc_skip : vc P Q G W (n + 1) σ (.code .skip :: k) = vc P Q G W n σ k := rfl
theorem vc_seq (x y : Code) : vc P Q G W (n + 1) σ (.code (.seq x y) :: k) = vc P Q G W n σ (.code x :: .code y :: k) := rfl
theorem vc_block (id : Nat) (c : Code) : vc P Q G W (n + 1) σ (.code (.block id c) :: k) = vc P Q G W n σ (.code c :: .blk id :: k) := rfl
theorem vc_region (id : Nat) (l : List Oper) : vc P Q G W (n + 1) σ (.code (.region id l.toArray false) :: k) = vc P Q G W n σ (.ops l l :: k) := rfl
theorem vc_draw (id : Nat) (l : List Oper) : vc P Q G W (n + 1) σ (.code (.region id l.toArray true) :: k) = Res P Q G W σ (.code (.region id l.toArray true) :: k) := rfl
def vif (c : Operand) (x y : Code) : Option SV → Prop
  | some (.v (.bool b)) => Br P Q G W n b σ (.code x :: k) σ (.code y :: k)
  | _ => Res P Q G W σ (.code (.cond c x y) :: k)
theorem vc_cond (c : Operand) (x y : Code) : vc P Q G W (n + 1) σ (.code (.cond c x y) :: k) = vif P Q G W n σ k c x y (ev σ c) := by
  simp only [vc]
  generalize ev σ c = r
  cases r with
  | none => rfl
  | some s =>
    cases s with
    | v x => cases x <;> rfl
    | _ => rfl
def vex (id : Nat) : Option (List It) → Prop
  | some k' => vc P Q G W n σ k'
  | none => Res P Q G W σ (.code (.exit id) :: k)
theorem vc_exit (id : Nat) : vc P Q G W (n + 1) σ (.code (.exit id) :: k) = vex P Q G W n σ k id (popTo id k) := by
  simp only [vc]
  cases popTo id k <;> rfl
theorem vc_ret : vc P Q G W (n + 1) σ (.code .ret :: k) = Ret Q G W σ := rfl
theorem vc_loop (c : Code) : vc P Q G W (n + 1) σ (.code (.loop c) :: k) = Res P Q G W σ (.code (.loop c) :: k) := rfl
theorem vc_rf (f : Operand) (ps : Array Tmp) (x y : Code) : vc P Q G W (n + 1) σ (.code (.rangeFunc f ps x y) :: k) = Res P Q G W σ (.code (.rangeFunc f ps x y) :: k) := rfl
theorem vc_scope (c : Code) : vc P Q G W (n + 1) σ (.code (.scope c) :: k) = Res P Q G W σ (.code (.scope c) :: k) := rfl
end

/-! ### the model's small runs, by the table -/
section runs
variable {P : Program}

theorem tyI_spec {t : TypeId} {ti : TyI} (h : tyI P t = some ti) :
    ∃ i d z, P.info? t = some i ∧ P.underlying t = some d ∧ i.zero = some z ∧ kindOf P d = some ti.kind ∧ ti.agg = aggD d ∧ ti.size = i.size ∧ ti.zero = z.cells.toList := by
  unfold tyI at h
  split at h
  · cases h
  · rename_i i hi
    split at h
    · cases h
    · rename_i d hd
      split at h
      · cases h
      · rename_i z hz
        split at h
        · cases h
        · rename_i k hk
          injection h with h
          subst h
          exact ⟨i, d, z, hi, hd, hz, hk, rfl, rfl, rfl⟩

theorem run_isAgg {t : TypeId} {ti : TyI} (h : tyI P t = some ti) (w : World) : (isAgg t).run P w = .ok ti.agg w := by
  obtain ⟨i, d, z, hi, hd, hz, hk, ha, hs, h0⟩ := tyI_spec h
  rw [ha]
  unfold isAgg
  simp only [Sem.run_bind, run_underlying hd, Result.andThen_ok]
  cases d <;> rfl

theorem run_sizeOf {t : TypeId} {ti : TyI} (h : tyI P t = some ti) (w : World) : (sizeOf t).run P w = .ok ti.size w := by
  obtain ⟨i, d, z, hi, hd, hz, hk, ha, hs, h0⟩ := tyI_spec h
  rw [hs]
  unfold sizeOf typeInfo
  simp [hi]

theorem run_zero {t : TypeId} {ti : TyI} (h : tyI P t = some ti) (w : World) : ∃ z, (zeroValue t).run P w = .ok z w ∧ z.cells.toList = ti.zero := by
  obtain ⟨i, d, z, hi, hd, hz, hk, ha, hs, h0⟩ := tyI_spec h
  refine ⟨z, ?_, h0.symm⟩
  unfold zeroValue typeInfo
  simp [hi, hz]

theorem run_und {t : TypeId} {ti : TyI} (h : tyI P t = some ti) (w : World) : ∃ d, (underlying t).run P w = .ok d w ∧ P.underlying t = some d ∧ kindOf P d = some ti.kind := by
  obtain ⟨i, d, z, hi, hd, hz, hk, ha, hs, h0⟩ := tyI_spec h
  exact ⟨d, run_underlying hd w, hd, hk⟩

theorem run_fsz {t : TypeId} {n : Nat} (h : fsz P t = some n) (w : World) : (sizeOf t).run P w = .ok n w := by
  unfold fsz at h
  cases hi : P.info? t with
  | none => simp [hi] at h
  | some i => simp [hi] at h; subst h; unfold sizeOf typeInfo; simp [hi]

theorem mapM_getF {fs : List Field} {l : List (Nat × Nat)} (h : (fs.mapM fun f => (fsz P f.type).map fun s => (f.offset, s)) = some l) :
    ∀ i off sz, getF l i = some (off, sz) → ∃ f, fs[i]? = some f ∧ f.offset = off ∧ fsz P f.type = some sz := by
  induction fs generalizing l with
  | nil => simp at h; subst h; intro i off sz hg; simp [getF] at hg
  | cons f fs ih =>
    rw [List.mapM_cons] at h
    cases hf : fsz P f.type with
    | none => simp [hf] at h
    | some s =>
      cases hr : (fs.mapM fun f => (fsz P f.type).map fun s => (f.offset, s)) with
      | none => simp [hf, hr] at h
      | some r =>
        simp [hf, hr] at h
        subst h
        intro i off sz hg
        cases i with
        | zero => simp [getF] at hg; exact ⟨f, rfl, hg.1, by rw [hf, hg.2]⟩
        | succ i =>
          simp only [getF] at hg
          obtain ⟨g, h1, h2, h3⟩ := ih hr i off sz hg
          exact ⟨g, by simpa using h1, h2, h3⟩

theorem kindOf_struct {d : TypeDesc} {l : List (Nat × Nat)} (h : kindOf P d = some (.struct l)) :
    ∃ fs, d = .struct fs ∧ (fs.toList.mapM fun f => (fsz P f.type).map fun s => (f.offset, s)) = some l := by
  cases d with
  | struct fs =>
    refine ⟨fs, rfl, ?_⟩
    simp only [kindOf] at h
    cases hm : (fs.toList.mapM fun f => (fsz P f.type).map fun s => (f.offset, s)) with
    | none => simp [hm] at h
    | some r => simp [hm] at h; rw [h]
  | slice e => simp only [kindOf] at h; cases hq : fsz P e <;> simp [hq] at h
  | array n e => simp only [kindOf] at h; cases hq : fsz P e <;> simp [hq] at h
  | _ => simp [kindOf] at h

theorem kindOf_slice {d : TypeDesc} {n : Nat} (h : kindOf P d = some (.slice n)) : ∃ e, d = .slice e ∧ fsz P e = some n := by
  cases d with
  | struct fs =>
    simp only [kindOf] at h
    cases hm : (fs.toList.mapM fun f => (fsz P f.type).map fun s => (f.offset, s)) <;> simp [hm] at h
  | slice e => refine ⟨e, rfl, ?_⟩; simp only [kindOf] at h; cases hq : fsz P e <;> simp [hq] at h; rw [h]
  | array n e => simp only [kindOf] at h; cases hq : fsz P e <;> simp [hq] at h
  | _ => simp [kindOf] at h

theorem kindOf_arr {d : TypeDesc} {m n : Nat} (h : kindOf P d = some (.arr m n)) : ∃ e, d = .array m e ∧ fsz P e = some n := by
  cases d with
  | struct fs =>
    simp only [kindOf] at h
    cases hm : (fs.toList.mapM fun f => (fsz P f.type).map fun s => (f.offset, s)) <;> simp [hm] at h
  | slice e => simp only [kindOf] at h; cases hq : fsz P e <;> simp [hq] at h
  | array k e => simp only [kindOf] at h; cases hq : fsz P e <;> simp [hq] at h; exact ⟨e, by rw [h.1], by rw [hq, h.2]⟩
  | _ => simp [kindOf] at h

end runs

/-! ### lists of ours and of Lean's -/
theorem getE_eq (l : List Ent) (i : Nat) : getE l i = l[i]? := by
  induction l generalizing i with
  | nil => simp [getE]
  | cons e l ih => cases i <;> simp [getE, ih]
theorem setE_eq (l : List Ent) (i : Nat) (e : Ent) : setE l i e = l.set i e := by
  induction l generalizing i with
  | nil => simp [setE]
  | cons x l ih => cases i <;> simp [setE, ih]
theorem getC_eq (l : List SV) (i : Nat) : getC l i = l[i]? := by
  induction l generalizing i with
  | nil => simp [getC]
  | cons e l ih => cases i <;> simp [getC, ih]
theorem getV_eq (l : List Value) (i : Nat) : getV l i = l[i]? := by
  induction l generalizing i with
  | nil => simp [getV]
  | cons e l ih => cases i <;> simp [getV, ih]

theorem sub_spec (ids : List Nat) : ∀ (cs : List SV) (off n : Nat) (l : List At), sub cs off n = some l →
    l.length = n ∧ (∀ j c, l[j]? = some c → ∃ s, cs[off + j]? = some s ∧ c.den ids = s.den ids ∧ ∀ m, s.lt m → c.lt m)
  | cs, 0, 0, l, h => by
    unfold sub at h
    injection h with h; subst h
    exact ⟨rfl, by intro j c hj; simp at hj⟩
  | [], 0, n + 1, l, h => by simp [sub] at h
  | s :: cs, 0, n + 1, l, h => by
    simp only [sub] at h
    split at h
    · rename_i c hc
      split at h
      · rename_i r hr
        injection h with h; subst h
        obtain ⟨h1, h2⟩ := sub_spec ids cs 0 n r hr
        refine ⟨by simp [h1], ?_⟩
        intro j d hj
        cases j with
        | zero =>
          simp at hj; subst hj
          refine ⟨s, by simp, SV.at?_den hc ids, ?_⟩
          intro m hm
          cases s <;> simp [SV.at?] at hc <;> subst hc <;> first | trivial | exact hm
        | succ j =>
          simp at hj
          obtain ⟨t, h3, h4⟩ := h2 j d hj
          exact ⟨t, by simpa using h3, h4⟩
      · cases h
    · cases h
  | [], k + 1, n, l, h => by simp [sub] at h
  | s :: cs, k + 1, n, l, h => by
    simp only [sub] at h
    obtain ⟨h1, h2⟩ := sub_spec ids cs k n l h
    refine ⟨h1, ?_⟩
    intro j c hj
    obtain ⟨t, h3, h4⟩ := h2 j c hj
    exact ⟨t, by rw [show k + 1 + j = (k + j) + 1 by omega]; simpa using h3, h4⟩

theorem spl_spec : ∀ (cs : List SV) (off : Nat) (vs r : List SV), spl cs off vs = some r → r = cs.take off ++ vs ++ cs.drop (off + vs.length) ∧ off + vs.length ≤ cs.length
  | cs, 0, [], r, h => by
    cases cs <;> · simp only [spl] at h; injection h with h; subst h; simp
  | [], 0, v :: vs, r, h => by simp [spl] at h
  | s :: cs, 0, v :: vs, r, h => by
    simp only [spl] at h
    split at h
    · rename_i r' hr
      injection h with h; subst h
      obtain ⟨h1, h2⟩ := spl_spec cs 0 vs r' hr
      subst h1
      refine ⟨by simp, ?_⟩
      simp at h2 ⊢; omega
    · cases h
  | [], k + 1, vs, r, h => by simp [spl] at h
  | s :: cs, k + 1, vs, r, h => by
    simp only [spl] at h
    split at h
    · rename_i r' hr
      injection h with h; subst h
      obtain ⟨h1, h2⟩ := spl_spec cs k vs r' hr
      subst h1
      refine ⟨?_, ?_⟩
      · rw [show k + 1 + vs.length = (k + vs.length) + 1 by omega]; simp
      · simp at h2 ⊢; omega
    · cases h

/-! ### the heap under an allocation and a store -/
theorem getD_lt {l : List Nat} {i : Nat} (h : i < l.length) : l.getD i 0 = l[i] := by simp [List.getD, h]

/-- A new entry: its blocks are new, and all that was there is as it was. -/
theorem HSo.add {G : Nat → Prop} {W : World} {σ : St} {new : List Nat} {w w' : World} {own : Nat → Nat → Prop} (h : HSo G W σ new w own) {e : Ent} {p : Nat} {O : Nat → Prop} (he : e.lt (σ.L.length + 1))
    (hos : w'.os = w.os) (htp : w'.tape = w.tape) (hou : w'.output = w.output) (hsz : w.heap.size ≤ w'.heap.size) (hkeep : ∀ b, b < w.heap.size → w'.heap[b]? = w.heap[b]?)
    (hO : ∀ b, O b → w.heap.size ≤ b ∧ b < w'.heap.size) (hok : e.ok (σ.X ++ (new ++ [p])) p O w') : HSo G W (σ.new e) (new ++ [p]) w' (fun i => if i = σ.L.length then O else own i) := by
  have hlen : (σ.X ++ new).length = σ.L.length := by simpa using h.len
  refine h.change (L' := σ.L ++ [e]) (fun _ => False) (by simp) hos htp hou hsz (fun b hb _ => hkeep b hb) ?_ ?_ ?_
  · intro i e' _ hi
    have hil := (List.getElem?_eq_some_iff.1 hi).1
    exact ⟨by rw [List.getElem?_append_left hil]; exact hi, if_neg (by omega)⟩
  · intro i e' hi hc
    have hil : i < (σ.L ++ [e]).length := (List.getElem?_eq_some_iff.1 hi).1
    have hi' : i = σ.L.length := by rcases hc with hc | hc <;> simp at hil hc; omega
    subst hi'
    simp at hi
    subst hi
    have hgd : (σ.X ++ (new ++ [p])).getD σ.L.length 0 = p := by
      rw [← List.append_assoc, List.getD_eq_getElem?_getD, List.getElem?_append_right (by omega)]
      rw [show σ.L.length - (σ.X ++ new).length = 0 by omega]
      simp
    rw [hgd, if_pos rfl]
    refine ⟨hok, by simpa using he, fun b hb => ⟨(hO b hb).2, .inl (hO b hb).1⟩⟩
  · intro i j b hi hj hci hcj hij
    simp at hi hj hci hcj
    omega

/-- An entry changes: the blocks that it had before, and new ones. -/
theorem HSo.upd {G : Nat → Prop} {W : World} {σ : St} {new : List Nat} {w w' : World} {own : Nat → Nat → Prop} (h : HSo G W σ new w own) {i : Nat} {e : Ent} {O : Nat → Prop} (hi : i < σ.L.length) (he : e.lt σ.L.length)
    (hos : w'.os = w.os) (htp : w'.tape = w.tape) (hou : w'.output = w.output) (hsz : w.heap.size ≤ w'.heap.size) (hkeep : ∀ b, b < w.heap.size → ¬ own i b → w'.heap[b]? = w.heap[b]?)
    (hO : ∀ b, O b → b < w'.heap.size ∧ (w.heap.size ≤ b ∨ own i b)) (hok : e.ok (σ.X ++ new) ((σ.X ++ new).getD i 0) O w') : HSo G W (σ.ent i e) new w' (fun j => if j = i then O else own j) := by
  have := h.change (L' := σ.L.set i e) (new' := []) (w' := w') (own' := fun j => if j = i then O else own j) (fun j => j = i) (by simp) hos htp hou hsz (fun b hb hn => hkeep b hb (hn i rfl hi)) ?_ ?_ ?_
  · simpa [St.ent, setE_eq] using this
  · intro j e' hj hje
    exact ⟨by rw [List.getElem?_set_ne (fun h => hj h.symm)]; exact hje, if_neg hj⟩
  · intro j e' hje hc
    have hjl : j < (σ.L.set i e).length := (List.getElem?_eq_some_iff.1 hje).1
    have : j = i := by rcases hc with hc | hc <;> simp at hjl hc <;> omega
    subst this
    rw [List.getElem?_set_self (by simpa using hjl)] at hje
    injection hje with hje; subst hje
    refine ⟨by simpa using hok, by simpa using he, fun b hb => ?_⟩
    rw [if_pos rfl] at hb
    exact ⟨(hO b hb).1, (hO b hb).2.imp id fun h => ⟨j, rfl, hi, h⟩⟩
  · intro j k b hj hk hcj hck hjk
    simp at hj hk hcj hck
    omega

theorem HS.alloc {G : Nat → Prop} {W : World} {σ : St} {new : List Nat} {w : World} (h : HS G W σ new w) {e : Ent} {o : Obj} (he : e.lt σ.L.length)
    (hok : ∀ w', w'.heap[w.heap.size]? = some o → e.ok (σ.X ++ new) w.heap.size (fun b => b = w.heap.size) w') :
    HS G W (σ.new e) (new ++ [w.heap.size]) (w.alloc o) := by
  obtain ⟨own, h⟩ := h
  have hlen : (σ.X ++ new).length = σ.L.length := by simpa using h.len
  refine ⟨_, h.add (O := fun b => b = w.heap.size) (Ent.lt_mono (by omega) he) rfl rfl rfl (by simp) (fun b hb => Go.RowKit.Below.heap_alloc w o b hb) ?_ ?_⟩
  · rintro b rfl
    simp
  · rw [← List.append_assoc, Ent.ok_append (by rw [hlen]; exact he)]
    exact hok _ (heap_alloc_new w o)

theorem Sat.new {G : Nat → Prop} {W : World} {σ : St} {new : List Nat} {a : Act} {w w' : World} {e : Ent} {p : Nat} (h : Sat G W σ new a w) (hs : HS G W (σ.new e) (new ++ [p]) w') : Sat G W (σ.new e) (new ++ [p]) a w' := by
  have hlen : (σ.X ++ new).length = σ.L.length := by simpa using h.hs.len
  have hle : σ.L.length ≤ (σ.new e).L.length := by simp [St.new]
  have hX : (σ.new e).X = σ.X := rfl
  refine ⟨h.tsz, ?_, ?_, ?_, ?_, hs⟩
  · intro t sv ht
    have := h.tmp t sv ht
    rw [this, hX, ← List.append_assoc, SV.den_append (ids := σ.X ++ new) (m := [p])]
    rw [hlen]; exact h.tlt t sv ht
  · intro t sv ht
    exact SV.lt_mono hle (h.tlt t sv ht)
  · rw [hX, ← List.append_assoc]
    show a.defers = σ.D.map _
    rw [h.dfr]
    apply List.map_congr_left
    intro d hd
    rw [DSV.den_append (ids := σ.X ++ new) (m := [p])]
    rw [hlen]; exact h.dlt d hd
  · intro d hd
    exact DSV.lt_mono hle (h.dlt d hd)

theorem getD_new {σ : St} {new : List Nat} {p : Nat} {G : Nat → Prop} {W w : World} (h : HS G W σ new w) {e : Ent} : ((σ.new e).X ++ (new ++ [p])).getD σ.L.length 0 = p := by
  have hlen : (σ.X ++ new).length = σ.L.length := by simpa using h.len
  show (σ.X ++ (new ++ [p])).getD σ.L.length 0 = p
  rw [← List.append_assoc, List.getD_eq_getElem?_getD, List.getElem?_append_right (by omega), hlen]
  simp

theorem Sat.allocP {G : Nat → Prop} {W : World} {σ : St} {new : List Nat} {a : Act} {w : World} (h : Sat G W σ new a w) {ty : TypeId} {cs : List SV} (he : ∀ c ∈ cs, c.lt σ.L.length) (d : Option Tmp) :
    Sat G W ((σ.new (.cells ty cs)).put d (.p σ.L.length 0)) (new ++ [w.heap.size]) (a.put d (.pointer (some ⟨w.heap.size, 0, none⟩))) (w.alloc (.cells (cs.map (SV.den (σ.X ++ new))).toArray ty (0, 0))) := by
  have hs := h.new (h.hs.alloc (e := .cells ty cs) (o := .cells (cs.map (SV.den (σ.X ++ new))).toArray ty (0, 0)) he fun w' hw => ⟨rfl, hw⟩)
  have := hs.put d (.p σ.L.length 0) (by simp [SV.lt, St.new])
  simp only [SV.den, getD_new h.hs] at this
  exact this

theorem Sat.allocS {G : Nat → Prop} {W : World} {σ : St} {new : List Nat} {a : Act} {w : World} (h : Sat G W σ new a w) {ty : TypeId} {cs : List SV} (he : ∀ c ∈ cs, c.lt σ.L.length) (d : Option Tmp) (n m : Nat) :
    Sat G W ((σ.new (.cells ty cs)).put d (.s σ.L.length false 0 n m)) (new ++ [w.heap.size]) (a.put d (.slice (some ⟨w.heap.size, 0, none⟩) n m)) (w.alloc (.cells (cs.map (SV.den (σ.X ++ new))).toArray ty (0, 0))) := by
  have hs := h.new (h.hs.alloc (e := .cells ty cs) (o := .cells (cs.map (SV.den (σ.X ++ new))).toArray ty (0, 0)) he fun w' hw => ⟨rfl, hw⟩)
  have := hs.put d (.s σ.L.length false 0 n m) (by simp [SV.lt, St.new])
  simp only [SV.den, getD_new h.hs, sA, Bool.false_eq_true, if_false] at this
  exact this

theorem setRow_other (w : World) (g k : Nat) (c : Array Value) (h : k ≠ g) : (w.setRow g c).heap[k]? = w.heap[k]? := by
  simp only [World.setRow, Array.getElem?_modify]
  rw [if_neg (fun e => h e.symm)]

/-- An entry's block is written. -/
theorem Sat.setEnt {G : Nat → Prop} {W : World} {σ : St} {new : List Nat} {a : Act} {w : World} (h : Sat G W σ new a w) {i : Nat} {e e' : Ent} {c c' : Array Value} {ty : TypeId} (hi : σ.L[i]? = some e)
    (h0 : ∀ O, e.ok (σ.X ++ new) ((σ.X ++ new).getD i 0) O w → O ((σ.X ++ new).getD i 0) ∧ w.heap[(σ.X ++ new).getD i 0]? = some (.cells c ty (0, 0)))
    (h1 : ∀ O w', O ((σ.X ++ new).getD i 0) → w'.heap[(σ.X ++ new).getD i 0]? = some (.cells c' ty (0, 0)) → e'.ok (σ.X ++ new) ((σ.X ++ new).getD i 0) O w')
    (hl : e'.lt σ.L.length) : Sat G W (σ.ent i e') new a (w.setRow ((σ.X ++ new).getD i 0) c') := by
  obtain ⟨own, hs⟩ := h.hs
  have hil : i < σ.L.length := (List.getElem?_eq_some_iff.1 hi).1
  have hLl : (σ.ent i e').L.length = σ.L.length := by simp [St.ent, setE_eq]
  obtain ⟨hown, hrow⟩ := h0 _ (hs.ok i e hi)
  refine ⟨h.tsz, h.tmp, fun t sv ht => by rw [hLl]; exact h.tlt t sv ht, h.dfr, fun d hd => by rw [hLl]; exact h.dlt d hd, ?_⟩
  refine ⟨_, hs.upd (O := own i) hil hl rfl rfl rfl (by simp [World.setRow]) ?_ ?_ ?_⟩
  · intro b _ hb
    exact setRow_other _ _ _ _ (fun e => hb (e ▸ hown))
  · intro b hb
    exact ⟨by have := (hs.out i b hil hb).2; simpa [World.setRow] using this, .inr hb⟩
  · exact h1 _ _ hown (setRow_heap w _ c c' ty (0, 0) hrow)
end Go.Eng
