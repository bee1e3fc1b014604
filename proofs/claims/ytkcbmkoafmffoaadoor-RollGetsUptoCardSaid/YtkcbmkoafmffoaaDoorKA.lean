/-
  The kind layer: rows that are read and grown; how heap types, value types, fields and declared types lie in memory.
-/
import Derived.Test.YtkcbmkoafmffoaaDoorTy
set_option linter.unusedVariables false
set_option linter.unusedSimpArgs false
set_option maxRecDepth 20000
set_option maxHeartbeats 4000000
namespace Go.Proofs.YtkcbmkoafmffoaaDoor
open Go Go.Eng

theorem rd0 {w : World} {b : Nat} {l : List Value} {ty : TypeId} {fz : Nat × Nat} (h : w.heap[b]? = some (.cells l.toArray ty fz)) (off : Nat) : rd w (some ⟨b, 0, none⟩) off = (l[off]?).getD undef := by
  simp only [rd, addr_add]
  simp [World.cell?, h]
theorem okRd0 {w : World} {b : Nat} {l : List Value} {ty : TypeId} {fz : Nat × Nat} (h : w.heap[b]? = some (.cells l.toArray ty fz)) (off n : Nat) (hn : off + n ≤ l.length) : okRd (· < w.heap.size) w (some ⟨b, 0, none⟩) off n := by
  refine ⟨_, rfl, (Array.getElem?_eq_some_iff.1 h).1, fun j hj => ?_⟩
  rw [addr_add]
  simp [World.cell?, h]
  omega
theorem beq_ff {a b : Int} (h : a ≠ b) : (a == b) = false := by simp [h]
theorem keepH {w w' : World} (h : Ext w w') {m : Nat} {o : Obj} (hm : w.heap[m]? = some o) : w'.heap[m]? = some o := by
  rw [h.block m (Array.getElem?_eq_some_iff.1 hm).1]; exact hm

/-- The cells cs can be read at A, in blocks of G. -/
def Cs (G : Nat → Prop) (W : World) (A : Option Addr) (cs : List Value) : Prop :=
  cs = [] ∨ (okRd G W A 0 cs.length ∧ ∀ i u, cs[i]? = some u → rd W A i = u)

theorem Cs.keep {G : Nat → Prop} {W w : World} {A : Option Addr} {cs : List Value} (h : Cs G W A cs) (hk : Keep G W w) : Cs G w A cs := by
  rcases h with h | ⟨h1, h2⟩
  · exact .inl h
  · refine .inr ⟨okRd_keep h1 hk, fun i u hu => ?_⟩
    have := okRd_rd h1 hk i (List.getElem?_eq_some_iff.1 hu).1
    simp only [Nat.zero_add] at this
    rw [this, h2 i u hu]
theorem Cs.mono {G G' : Nat → Prop} {W : World} {A : Option Addr} {cs : List Value} (h : Cs G W A cs) (hg : ∀ b, G b → G' b) : Cs G' W A cs :=
  h.imp id fun h => ⟨okRd_mono h.1 hg, h.2⟩
theorem Cs.ext {w w' : World} {A : Option Addr} {cs : List Value} (h : Cs (· < w.heap.size) w A cs) (hE : Ext w w') : Cs (· < w'.heap.size) w' A cs := (h.keep hE).mono fun _ hb => Nat.lt_of_lt_of_le hb hE.size
theorem Cs.at {G : Nat → Prop} {W : World} {A : Option Addr} {cs : List Value} (h : Cs G W A cs) {i n : Nat} (hn : 0 < n) (hi : i + n ≤ cs.length) : okRd G W (pAdd A i) 0 n ∧ ∀ j u, cs[i + j]? = some u → rd W (pAdd A i) j = u := by
  rcases h with h | ⟨⟨ad, rfl, hg, hc⟩, h2⟩
  · subst h; simp at hi; omega
  · refine ⟨⟨ad.add i, rfl, by rw [add_block]; exact hg, fun j hj => ?_⟩, fun j u hu => ?_⟩
    · have := hc (i + j) (by omega)
      rw [add_add, Nat.zero_add]
      rw [Nat.zero_add] at this
      exact this
    · rw [← h2 (i + j) u hu]
      simp only [rd, pAdd, Option.map_some, add_add]

theorem Cs.loc {O : Nat → Prop} {w w' : World} {A : Option Addr} {cs : List Value} (h : Cs O w A cs) (hw : ∀ b, O b → w'.heap[b]? = w.heap[b]?) : Cs O w' A cs := by
  rcases h with h | ⟨⟨ad, h1, h2, h3⟩, h4⟩
  · exact .inl h
  · have hc : ∀ j, w'.cell? (ad.add j) = w.cell? (ad.add j) := fun j => World.cell?_of_block (by rw [add_block]; exact hw _ h2)
    refine .inr ⟨⟨ad, h1, h2, fun j hj => by rw [hc]; exact h3 j hj⟩, fun i u hu => ?_⟩
    have := h4 i u hu
    subst h1
    simp only [rd] at this ⊢
    rw [hc]; exact this

/-- A row that holds n elements of a size, of which the cells are cs. -/
structure FS0 (size n : Nat) (cs : List Value) (nl : Bool) (cap : Nat) (cur : List Value) : Prop where
  capk : n ≤ cap
  capm : cap ≤ maxLen
  len : cur.length = cap * size
  take : cur.take (n * size) = cs
  nil : nl = true → cap = 0
theorem FS0.empty {size : Nat} : FS0 size 0 [] true 0 [] := ⟨Nat.le_refl _, by simp [maxLen], by simp, by simp, fun _ => rfl⟩
theorem row_get {cur cs : List Value} {n : Nat} (h : cur.take n = cs) {i : Nat} {u : Value} (hu : cs[i]? = some u) : gV cur i = u ∧ i < cur.length := by
  subst h
  rw [List.getElem?_take] at hu
  split at hu
  · have := (List.getElem?_eq_some_iff.1 hu).1
    exact ⟨by simp [gV, hu], this⟩
  · cases hu
theorem FS0.nl_false {size n : Nat} {cs : List Value} {nl : Bool} {cap : Nat} {cur : List Value} (h : FS0 size n cs nl cap cur) (hn : 0 < n) : nl = false := by
  cases nl with
  | false => rfl
  | true => have := h.nil rfl; have := h.capk; omega
theorem FS0.none {b size n : Nat} {cs : List Value} {nl : Bool} {cap : Nat} {cur : List Value} (hF : FS0 size n cs nl cap cur) (h : sA nl b 0 = none) : n = 0 := by
  cases nl with
  | true => have := hF.nil rfl; have := hF.capk; omega
  | false => cases h
theorem cs_rowA {O : Nat → Prop} {q : Nat} {w : World} {b size n ty : Nat} {cs cur : List Value} {nl : Bool} {cap : Nat} (h : (RowA b nl ty cur).R O q w) (hF : FS0 size n cs nl cap cur) : Cs O w (sA nl b 0) cs := by
  cases nl with
  | true =>
    have := hF.nil rfl
    have hn : n = 0 := by have := hF.capk; omega
    left
    have := hF.take
    rw [hn] at this
    simpa using this.symm
  | false =>
    right
    obtain ⟨ho, hr⟩ := h rfl
    have hl : cs.length ≤ cur.length := by rw [← hF.take, List.length_take]; omega
    have hok := okRd0 hr 0 cs.length (by omega)
    refine ⟨?_, fun i u hu => ?_⟩
    · obtain ⟨ad, h1, _, h3⟩ := hok
      have h1' : (⟨b, 0, none⟩ : Addr) = ad := Option.some.inj h1
      subst h1'
      exact ⟨_, rfl, ho, h3⟩
    · rw [show sA false b 0 = some ⟨b, 0, none⟩ from rfl, rd0 hr i]
      have := row_get hF.take hu
      rw [← this.1]
      simp [gV]

section leaves
variable {P : Program} {Q : Pst} {G : Nat → Prop} {W : World}
/-- A call that leaves all as it is, and hands back a value of which something is known. -/
theorem CallAt.sm {σ : St} {f : FuncId} {args : List SV} {dst : Option Tmp} {k : List It} (Post : Value → Prop)
    (hc : ∀ new w, HS G W σ new w → Calls P f (args.map (SV.den (σ.X ++ new))).toArray w fun e w' => ∃ v, e = .returned v ∧ Ext w w' ∧ Post v)
    (hk : ∀ v, Post v → Res P Q G W (σ.put dst (.v v)) k) : CallAt P Q G W σ f args dst k := by
  intro new a w hs
  refine (hc new w hs.hs).mono ?_
  rintro e w' ⟨v, rfl, hE, hp⟩
  exact hk v hp new _ w' ((hs.put dst (.v v) trivial).world ((hs.put dst (.v v) trivial).hs.ext' hE))

/-- A thing that needs no block. -/
theorem Res.ghost {σ : St} {k : List It} (A : Asn) (hA : ∀ w, A.R (fun _ => False) 0 w) (h : Res P Q G W (σ.new (.asn A)) k) : Res P Q G W σ k := by
  intro new a w hs
  obtain ⟨own, ho⟩ := hs.hs
  have hs2 := ho.add (e := .asn A) (p := 0) (O := fun _ => False) (w' := w) trivial rfl rfl rfl (Nat.le_refl _) (fun _ _ => rfl) (fun _ h => h.elim) (hA w)
  exact h _ _ _ (hs.new ⟨_, hs2⟩)

/-- A row of ours is let go: from now on it lies in the world as it is. -/
theorem Res.free {σ : St} {k : List It} {b : Nat} {nl : Bool} {ty : TypeId} {cur : List Value} (i : Nat) (hi : getE σ.L i = some (.asn (RowA b nl ty cur)))
    (h : ∀ new w1, σ.X.length + new.length = σ.L.length → Keep G W w1 → (nl = false → w1.heap[b]? = some (.cells cur.toArray ty (0, 0)) ∧ ¬ G b) → Res P Q (fun x => G x ∨ (nl = false ∧ x = b)) w1 { σ with X := σ.X ++ new, L := setE σ.L i .dead } k) : Res P Q G W σ k := by
  intro new a w hs
  obtain ⟨own, ho⟩ := hs.hs
  rw [getE_eq] at hi
  have hil := (List.getElem?_eq_some_iff.1 hi).1
  have hR : (RowA b nl ty cur).R (own i) _ w := ho.ok i _ hi
  have hLl : (setE σ.L i .dead).length = σ.L.length := by simp [setE_eq]
  refine h new w ho.len ho.keep (fun hn => ⟨(hR hn).2, (ho.out i b hil (hR hn).1).1⟩) [] a w ⟨hs.tsz, by simpa using hs.tmp, fun t sv ht => by rw [hLl]; exact hs.tlt t sv ht, by simpa using hs.dfr, fun d hd => by rw [hLl]; exact hs.dlt d hd, fun j x => if j = i then False else own j x, ?_⟩
  refine ⟨by rw [hLl]; have := ho.len; simp; omega, ?_, ?_, ?_, ?_, ?_, Keep.refl _ _⟩
  · intro j e hj
    simp only [setE_eq] at hj
    simp only [List.append_nil]
    by_cases hji : j = i
    · subst hji
      rw [List.getElem?_set_self hil] at hj
      injection hj with hj; subst hj
      trivial
    · rw [List.getElem?_set_ne (fun h => hji h.symm)] at hj
      have h2 : (fun x => if j = i then False else own j x) = own j := by funext x; exact if_neg hji
      rw [h2]
      exact ho.ok j e hj
  · intro e he
    rw [hLl]
    rw [setE_eq] at he
    rcases List.mem_or_eq_of_mem_set he with he | rfl
    · exact ho.entlt e he
    · trivial
  · intro j l x hj hl hjl h1 h2
    rw [hLl] at hj hl
    split at h1
    · exact h1
    · split at h2
      · exact h2
      · exact ho.apart j l x hj hl hjl h1 h2
  · intro j x hj h1
    rw [hLl] at hj
    split at h1
    · exact h1.elim
    · rename_i hji
      obtain ⟨h3, h4⟩ := ho.out j x hj h1
      refine ⟨?_, h4⟩
      rintro (hg | ⟨hn, rfl⟩)
      · exact h3 hg
      · exact ho.apart j i x hj hil hji h1 (hR hn).1
  · rintro x (hg | ⟨hn, rfl⟩)
    · have := ho.inW x hg; have := ho.keep.size; omega
    · exact (ho.out i x hil (hR hn).1).2
/-- The numbers of some blocks, forgotten. -/
theorem St.Le.unfix {σ : St} {X m : List Nat} (h : σ.X = X ++ m) : St.Le { σ with X := X } σ := by
  intro G W new a w hs
  have e : X ++ (m ++ new) = σ.X ++ new := by rw [h, List.append_assoc]
  refine ⟨m ++ new, hs.tsz, ?_, hs.tlt, ?_, hs.dlt, ?_⟩
  · show ∀ t sv, getT σ.T t = some sv → a.tmps.getD t undef = sv.den (X ++ (m ++ new))
    rw [e]; exact hs.tmp
  · show a.defers = σ.D.map (DSV.den (X ++ (m ++ new)))
    rw [e]; exact hs.dfr
  · obtain ⟨own, ho⟩ := hs.hs
    refine ⟨own, ?_, ?_, ho.entlt, ho.apart, ho.out, ho.inW, ho.keep⟩
    · have := ho.len
      rw [h] at this
      show X.length + (m ++ new).length = σ.L.length
      simp only [List.length_append] at this ⊢
      omega
    · show ∀ (i : Nat) (e : Ent), σ.L[i]? = some e → e.ok (X ++ (m ++ new)) ((X ++ (m ++ new)).getD i 0) (own i) w
      rw [e]; exact ho.ok
theorem St.Le.trans {a b c : St} (h1 : St.Le a b) (h2 : St.Le b c) : St.Le a c := by
  intro G W new act w hs
  obtain ⟨n1, h⟩ := h2 _ _ _ _ _ hs
  exact h1 _ _ _ _ _ h
/-- A weaker state, of whose blocks fewer have fixed numbers. -/
theorem St.Le.of2 {σ' σ : St} (n : Nat) (m : List Nat) (h : LeT σ'.T σ.T ∧ ltTs n σ'.T ∧ LeL σ'.L σ.L ∧ ltEs n σ'.L) (hn : σ'.L.length = n := by rfl) (hX : σ.X = σ'.X ++ m := by rfl) (hD : σ'.D = [] := by rfl) (hD' : σ.D = [] := by rfl) (hx : σ'.X.length ≤ n := by simp) : St.Le σ' σ :=
  St.Le.trans (St.Le.of (σ := { σ with X := σ'.X }) n h hn rfl hD hD' hx) (St.Le.unfix hX)

/-- append(x, y...), x a row whose place is named: the same entry holds what it becomes. -/
theorem OpAt.appendR {σ : St} {o : Oper} {k : List It} {c : Call} {x y : Operand} {t e : TypeId} {size bytes : Nat} {i b : Nat} {nl : Bool} {n cap m : Nat} {cs cur : List Value} (news : List Value) (ho : o.op = .call c) (hc : c.callee = .builtin .append) (hca : c.args = #[x, y]) (hct : c.argTypes = #[t, t])
    (hI : appI P t = some (e, size, bytes)) (hx : ev σ x = some (.v (.slice (sA nl b 0) n cap))) (hi : getE σ.L i = some (.asn (RowA b nl e cur))) (hF : FS0 size n cs nl cap cur)
    (hsrc : SrcOK G W σ y m news) (hl : news.length = m * size) (h1 : ∀ u ∈ news, u.oneCell' = true) (hfit : n + m ≤ maxLen ∧ (n + m) * bytes ≤ 140737488355328)
    (h : ∀ nl' b' cap' cur', FS0 size (n + m) (cs ++ news) nl' cap' cur' → (nl' = true ↔ nl = true ∧ m = 0) →
      Res P Q G W ((σ.ent i (.asn (RowA b' nl' e cur'))).put o.dst (.v (.slice (sA nl' b' 0) (n + m) cap'))) k) : OpAt P Q G W σ o k := by
  intro new a w hs
  obtain ⟨ti, z, ht, hti, hz, hzs, hpos, rfl, rfl⟩ := appI_spec hI
  obtain ⟨hxe, _⟩ := ev_sound hs hx
  obtain ⟨A, cc, hye, hA, hr⟩ := hsrc new a w hs
  obtain ⟨own, hso⟩ := hs.hs
  rw [getE_eq] at hi
  have hil := (List.getElem?_eq_some_iff.1 hi).1
  have hR : (RowA b nl e cur).R (own i) ((σ.X ++ new).getD i 0) w := hso.ok i _ hi
  obtain ⟨nl', g', cap', cur', w', hrun, hrow, hnl'⟩ := run_append_row (P := P) (w := w) t o.type e ti z ht hti hz hzs nl b n cap cur (fun h => (hR h).2) hF.len hF.capk hF.capm hF.nil A m cc news hl hA hr h1 hpos hfit.1 hfit.2
  have hrun' : (execOp a.eval o).run P w = .ok (.value (.slice (sA nl' g' 0) (n + m) cap')) w' := by
    simp only [SV.den] at hxe
    simp [execOp, ho, resolve, hc, hca, hct, hxe, hye, invoke, builtin]
    rw [hrun]
    simp
  refine GoRun.opK (wp_value hrun' ?_)
  have hs2 := hso.upd (e := .asn (RowA g' nl' e cur')) (O := fun x => nl' = false ∧ x = g') (i := i) hil trivial hrow.os hrow.tape hrow.output hrow.size ?_ ?_ ?_
  · have hLl : (σ.ent i (.asn (RowA g' nl' e cur'))).L.length = σ.L.length := by simp [St.ent, setE_eq]
    have hsat : Sat G W (σ.ent i (.asn (RowA g' nl' e cur'))) new a w' := ⟨hs.tsz, hs.tmp, fun t sv ht => by rw [hLl]; exact hs.tlt t sv ht, hs.dfr, fun d hd => by rw [hLl]; exact hs.dlt d hd, _, hs2⟩
    refine h nl' g' cap' cur' ⟨hrow.capk, hrow.capm, hrow.len, ?_, hrow.nil⟩ hnl' _ _ w' (hsat.put o.dst (.v (.slice (sA nl' g' 0) (n + m) cap')) trivial)
    rw [hrow.take, hF.take]
  · intro x hx hnx
    exact hrow.block x hx fun hn he => hnx (he ▸ (hR hn).1)
  · rintro x ⟨hn, rfl⟩
    obtain ⟨k1, k2⟩ := hrow.row hn
    rcases k2 with ⟨rfl, k2⟩ | ⟨k2, k3⟩
    · have := (hR k2).1
      have := (hso.out i _ hil this).2
      exact ⟨by have := hrow.size; omega, .inr (hR k2).1⟩
    · exact ⟨k3, .inl k2⟩
  · exact fun hn => ⟨⟨hn, rfl⟩, (hrow.row hn).1⟩
end leaves

/-! ### what types are -/
structure Hp where
  k : Int
  n : Int
deriving DecidableEq
structure Vl where
  k : Int
  nul : Bool
  h : Hp
deriving DecidableEq
structure Fd where
  pk : Int
  t : Vl
  m : Bool
deriving DecidableEq
structure Sb where
  fin : Bool
  su : List Hp
  k : Int
  ps : List Vl
  rs : List Vl
  fs : List Fd
deriving DecidableEq





def Hp.cs (h : Hp) : List Value := [.int .i64 h.k, .int .i64 h.n]
def Vl.cs (x : Vl) : List Value := [.int .i64 x.k, .bool x.nul, .int .i64 x.h.k, .int .i64 x.h.n]
def Fd.cs (x : Fd) : List Value := [.int .i64 x.pk, .int .i64 x.t.k, .bool x.t.nul, .int .i64 x.t.h.k, .int .i64 x.t.h.n, .bool x.m]
def Hp.v (h : Hp) : Value := .agg #[.int .i64 h.k, .int .i64 h.n]
def Vl.v (x : Vl) : Value := .agg #[.int .i64 x.k, .bool x.nul, .int .i64 x.h.k, .int .i64 x.h.n]
def Fd.v (x : Fd) : Value := .agg #[.int .i64 x.pk, .int .i64 x.t.k, .bool x.t.nul, .int .i64 x.t.h.k, .int .i64 x.t.h.n, .bool x.m]

section flat
variable {α : Type} {f : α → List Value} {s : Nat}
theorem flat_length (hs : ∀ x, (f x).length = s) (l : List α) : (l.flatMap f).length = l.length * s := by
  induction l with
  | nil => simp
  | cons x l ih => simp only [List.flatMap_cons, List.length_append, List.length_cons, ih, hs]; rw [Nat.add_mul]; omega
theorem flat_get (hs : ∀ x, (f x).length = s) (l : List α) (k : Nat) (h : k < l.length) (j : Nat) (hj : j < s) : (l.flatMap f)[k * s + j]? = (f l[k])[j]? := by
  induction l generalizing k with
  | nil => simp at h
  | cons x l ih =>
    cases k with
    | zero =>
      simp only [List.flatMap_cons, Nat.zero_mul, Nat.zero_add, List.getElem_cons_zero]
      rw [List.getElem?_append_left (by rw [hs]; exact hj)]
    | succ k =>
      simp only [List.flatMap_cons, List.getElem_cons_succ]
      rw [List.getElem?_append_right (by rw [hs, Nat.add_mul]; omega)]
      rw [← ih k (by simpa using h)]
      congr 1
      rw [hs, Nat.add_mul]; omega
theorem flat_take (hs : ∀ x, (f x).length = s) (l : List α) (k : Nat) : (l.flatMap f).take (k * s) = (l.take k).flatMap f := by
  induction l generalizing k with
  | nil => simp
  | cons x l ih =>
    cases k with
    | zero => simp
    | succ k =>
      simp only [List.flatMap_cons, List.take_succ_cons] at ih ⊢
      rw [show (k + 1) * s = (f x).length + k * s by rw [hs, Nat.add_mul]; omega, List.take_length_add_append, ih]
theorem flat_one (h1 : ∀ x, ∀ u ∈ f x, u.oneCell' = true) (l : List α) : ∀ u ∈ l.flatMap f, u.oneCell' = true := by
  intro u hu
  obtain ⟨x, _, hx⟩ := List.mem_flatMap.1 hu
  exact h1 x u hx
end flat
theorem Hp.len (x : Hp) : x.cs.length = 2 := rfl
theorem Vl.len (x : Vl) : x.cs.length = 4 := rfl
theorem Fd.len (x : Fd) : x.cs.length = 6 := rfl
theorem Hp.one (x : Hp) : ∀ u ∈ x.cs, u.oneCell' = true := by
  intro u hu
  simp only [Hp.cs, List.mem_cons, List.not_mem_nil, or_false] at hu
  rcases hu with rfl | rfl <;> rfl
theorem Vl.one (x : Vl) : ∀ u ∈ x.cs, u.oneCell' = true := by
  intro u hu
  simp only [Vl.cs, List.mem_cons, List.not_mem_nil, or_false] at hu
  rcases hu with rfl | rfl | rfl | rfl <;> rfl
theorem Fd.one (x : Fd) : ∀ u ∈ x.cs, u.oneCell' = true := by
  intro u hu
  simp only [Fd.cs, List.mem_cons, List.not_mem_nil, or_false] at hu
  rcases hu with rfl | rfl | rfl | rfl | rfl | rfl <;> rfl

def hcs (l : List Hp) : List Value := l.flatMap Hp.cs
def vcs (l : List Vl) : List Value := l.flatMap Vl.cs
def fcs (l : List Fd) : List Value := l.flatMap Fd.cs
theorem hcs_len (l : List Hp) : (hcs l).length = l.length * 2 := flat_length Hp.len l
theorem vcs_len (l : List Vl) : (vcs l).length = l.length * 4 := flat_length Vl.len l
theorem fcs_len (l : List Fd) : (fcs l).length = l.length * 6 := flat_length Fd.len l

/-- An element that is read. -/
theorem hcs_at {G : Nat → Prop} {W : World} {A : Option Addr} {l : List Hp} (h : Cs G W A (hcs l)) (k : Nat) (hk : k < l.length) :
    okRd G W (pAdd A (k * 2)) 0 2 ∧ rd W (pAdd A (k * 2)) 0 = .int .i64 l[k].k ∧ rd W (pAdd A (k * 2)) 1 = .int .i64 l[k].n := by
  obtain ⟨a, b⟩ := h.at (i := k * 2) (n := 2) (by omega) (by rw [hcs_len]; omega)
  have g := fun j hj => flat_get Hp.len l k hk j hj
  exact ⟨a, b 0 _ (g 0 (by omega)), b 1 _ (g 1 (by omega))⟩
theorem vcs_at {G : Nat → Prop} {W : World} {A : Option Addr} {l : List Vl} (h : Cs G W A (vcs l)) (k : Nat) (hk : k < l.length) :
    okRd G W (pAdd A (k * 4)) 0 4 ∧ rd W (pAdd A (k * 4)) 0 = .int .i64 l[k].k ∧ rd W (pAdd A (k * 4)) 1 = .bool l[k].nul ∧ rd W (pAdd A (k * 4)) 2 = .int .i64 l[k].h.k ∧ rd W (pAdd A (k * 4)) 3 = .int .i64 l[k].h.n := by
  obtain ⟨a, b⟩ := h.at (i := k * 4) (n := 4) (by omega) (by rw [vcs_len]; omega)
  have g := fun j hj => flat_get Vl.len l k hk j hj
  exact ⟨a, b 0 _ (g 0 (by omega)), b 1 _ (g 1 (by omega)), b 2 _ (g 2 (by omega)), b 3 _ (g 3 (by omega))⟩
theorem fcs_at {G : Nat → Prop} {W : World} {A : Option Addr} {l : List Fd} (h : Cs G W A (fcs l)) (k : Nat) (hk : k < l.length) :
    okRd G W (pAdd A (k * 6)) 0 6 ∧ rd W (pAdd A (k * 6)) 0 = .int .i64 l[k].pk ∧ rd W (pAdd A (k * 6)) 1 = .int .i64 l[k].t.k ∧ rd W (pAdd A (k * 6)) 2 = .bool l[k].t.nul ∧ rd W (pAdd A (k * 6)) 3 = .int .i64 l[k].t.h.k ∧ rd W (pAdd A (k * 6)) 4 = .int .i64 l[k].t.h.n ∧ rd W (pAdd A (k * 6)) 5 = .bool l[k].m := by
  obtain ⟨a, b⟩ := h.at (i := k * 6) (n := 6) (by omega) (by rw [fcs_len]; omega)
  have g := fun j hj => flat_get Fd.len l k hk j hj
  exact ⟨a, b 0 _ (g 0 (by omega)), b 1 _ (g 1 (by omega)), b 2 _ (g 2 (by omega)), b 3 _ (g 3 (by omega)), b 4 _ (g 4 (by omega)), b 5 _ (g 5 (by omega))⟩

/-- Where a declared type's four lists lie. -/
structure SL where
  a1 : Option Addr
  c1 : Nat
  a2 : Option Addr
  c2 : Nat
  a3 : Option Addr
  c3 : Nat
  a4 : Option Addr
  c4 : Nat
def Sb.cs (s : Sb) (x : SL) : List Value := [.bool s.fin, .slice x.a1 s.su.length x.c1, .int .i64 s.k, .slice x.a2 s.ps.length x.c2, .slice x.a3 s.rs.length x.c3, .slice x.a4 s.fs.length x.c4]
def Sb.v (s : Sb) (x : SL) : Value := .agg #[.bool s.fin, .slice x.a1 s.su.length x.c1, .int .i64 s.k, .slice x.a2 s.ps.length x.c2, .slice x.a3 s.rs.length x.c3, .slice x.a4 s.fs.length x.c4]
theorem Sb.v_cs (s : Sb) (x : SL) : s.v x = .agg (s.cs x).toArray := rfl

/-- The lists can be read there. -/
structure SbR (G : Nat → Prop) (W : World) (s : Sb) (x : SL) : Prop where
  su : Cs G W x.a1 (hcs s.su)
  ps : Cs G W x.a2 (vcs s.ps)
  rs : Cs G W x.a3 (vcs s.rs)
  fs : Cs G W x.a4 (fcs s.fs)
  n1 : x.a1 = none → s.su = []
  n2 : x.a2 = none → s.ps = []
  n3 : x.a3 = none → s.rs = []
  n4 : x.a4 = none → s.fs = []
theorem SbR.keep {G : Nat → Prop} {W w : World} {s : Sb} {x : SL} (h : SbR G W s x) (hk : Keep G W w) : SbR G w s x := ⟨h.su.keep hk, h.ps.keep hk, h.rs.keep hk, h.fs.keep hk, h.n1, h.n2, h.n3, h.n4⟩
theorem SbR.mono {G G' : Nat → Prop} {W : World} {s : Sb} {x : SL} (h : SbR G W s x) (hg : ∀ b, G b → G' b) : SbR G' W s x := ⟨h.su.mono hg, h.ps.mono hg, h.rs.mono hg, h.fs.mono hg, h.n1, h.n2, h.n3, h.n4⟩
theorem SbR.ext {w w' : World} {s : Sb} {x : SL} (h : SbR (· < w.heap.size) w s x) (hE : Ext w w') : SbR (· < w'.heap.size) w' s x := (h.keep hE).mono fun _ hb => Nat.lt_of_lt_of_le hb hE.size
theorem SbR.loc {O : Nat → Prop} {w w' : World} {s : Sb} {x : SL} (h : SbR O w s x) (hw : ∀ b, O b → w'.heap[b]? = w.heap[b]?) : SbR O w' s x := ⟨h.su.loc hw, h.ps.loc hw, h.rs.loc hw, h.fs.loc hw, h.n1, h.n2, h.n3, h.n4⟩
/-- The sizes are small enough for any machine. -/
structure Sb.small (s : Sb) (B : Nat) : Prop where
  su : s.su.length ≤ B
  ps : s.ps.length ≤ B
  rs : s.rs.length ≤ B
  fs : s.fs.length ≤ B
end Go.Proofs.YtkcbmkoafmffoaaDoor
