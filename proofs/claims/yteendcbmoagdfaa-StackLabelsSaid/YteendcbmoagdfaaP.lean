/-
  The machine's methods, first part: Height, Frames, Dead, Push, Pop.
-/
import Derived.Test.YteendcbmoagdfaaO
set_option linter.unusedVariables false
set_option linter.unusedSimpArgs false
set_option maxRecDepth 20000
set_option maxHeartbeats 4000000
namespace Go.Proofs.Yteendcbmoagdfaa
open Go Go.Eng

theorem keepH {w w' : World} (h : Ext w w') {m : Nat} {o : Obj} (hm : w.heap[m]? = some o) : w'.heap[m]? = some o := by
  rw [h.block m (Array.getElem?_eq_some_iff.1 hm).1]; exact hm

theorem m_height {w : World} {O : Nat → Prop} {m t : Nat} {st : List Vl} {fr : List Frm} (h : Mc w O m t st fr) :
    Calls Try.prog 14 #[.pointer (some ⟨m, 0, none⟩)] w fun e w' => e = .returned (.int .i64 st.length) ∧ Ext w w' := by
  obtain ⟨p, hp, _⟩ := h.R
  have h1 := rd0 (l := [_, _, _]) hp.hm 1
  have o1 := okRd0 (l := [_, _, _]) hp.hm 1 1 (by simp)
  simp only [List.getElem?_cons_succ, List.getElem?_cons_zero, Option.getD_some] at h1
  refine start0 (args := [.v (.pointer (some ⟨m, 0, none⟩))]) (G := (· < w.heap.size)) Try.func14 rfl Try.ntmps14 (by simp [SV.lt]) (fun _ h => h) ?_
  refine Res.run 1000 ?_
  simp only [↓reduceIte, Nat.reduceEqDiff, Nat.reduceAdd, Nat.reduceSub, Nat.reduceMul, Nat.reduceLT, Int.reduceToNat, Int.reduceBEq, Int.reduceBNe, Int.reduceLT, Int.reduceLE, E, E', TY]
  refine ⟨fnok27, CallAt.pure #[.pointer (some ⟨m, 0, none⟩)] (.bool true) (fun _ => rfl) (fun w' hw => m_there (keepH hw hp.hm) (h.tab.keep hw)) (Res.run 900 ?_)⟩
  simp only [↓reduceIte, Nat.reduceEqDiff, Nat.reduceAdd, Nat.reduceSub, Nat.reduceMul, Nat.reduceLT, Int.reduceToNat, Int.reduceBEq, Int.reduceBNe, Int.reduceLT, Int.reduceLE, E, E', TY, h1]
  exact ⟨o1, Ret.one rfl (by kernel_rfl)⟩

theorem m_frames {w : World} {O : Nat → Prop} {m t : Nat} {st : List Vl} {fr : List Frm} (h : Mc w O m t st fr) :
    Calls Try.prog 20 #[.pointer (some ⟨m, 0, none⟩)] w fun e w' => e = .returned (.int .i64 fr.length) ∧ Ext w w' := by
  obtain ⟨p, hp, _⟩ := h.R
  have h1 := rd0 (l := [_, _, _]) hp.hm 2
  have o1 := okRd0 (l := [_, _, _]) hp.hm 2 1 (by simp)
  simp only [List.getElem?_cons_succ, List.getElem?_cons_zero, Option.getD_some] at h1
  refine start0 (args := [.v (.pointer (some ⟨m, 0, none⟩))]) (G := (· < w.heap.size)) Try.func20 rfl Try.ntmps20 (by simp [SV.lt]) (fun _ h => h) ?_
  refine Res.run 1000 ?_
  simp only [↓reduceIte, Nat.reduceEqDiff, Nat.reduceAdd, Nat.reduceSub, Nat.reduceMul, Nat.reduceLT, Int.reduceToNat, Int.reduceBEq, Int.reduceBNe, Int.reduceLT, Int.reduceLE, E, E', TY]
  refine ⟨fnok27, CallAt.pure #[.pointer (some ⟨m, 0, none⟩)] (.bool true) (fun _ => rfl) (fun w' hw => m_there (keepH hw hp.hm) (h.tab.keep hw)) (Res.run 900 ?_)⟩
  simp only [↓reduceIte, Nat.reduceEqDiff, Nat.reduceAdd, Nat.reduceSub, Nat.reduceMul, Nat.reduceLT, Int.reduceToNat, Int.reduceBEq, Int.reduceBNe, Int.reduceLT, Int.reduceLE, E, E', TY, h1]
  exact ⟨o1, Ret.one rfl (by kernel_rfl)⟩

theorem m_push {w : World} {O : Nat → Prop} {m t : Nat} {st : List Vl} {fr : List Frm} (h : Mc w O m t st fr) (A : Option Addr) (c : Nat) (l : List Vl) (hl : Cs (Gm w O) w A (flat l)) (hA : A = none → l = []) (hsz : st.length + l.length ≤ 1000000) :
    Calls Try.prog 10 #[.pointer (some ⟨m, 0, none⟩), .slice A l.length c] w fun e w' => e = .returned (.int .i64 0) ∧ Mq w w' O m t (st ++ l) fr := by
  obtain ⟨p, hp, hS⟩ := h.hs
  refine Go.Eng.start (X := [m, p.b1, p.b2, 0]) (L := mL t _ _ p _) (args := [.p 0 0, .v (.slice A l.length c)]) (G := Gm w O) Try.func10 rfl Try.ntmps10 (by simp [SV.lt, mL]) (hS _) ?_
  refine Res.run 1000 ?_
  simp only [↓reduceIte, Nat.reduceEqDiff, Nat.reduceAdd, Nat.reduceSub, Nat.reduceMul, Nat.reduceLT, Int.reduceToNat, Int.reduceBEq, Int.reduceBNe, Int.reduceLT, Int.reduceLE, E, E', TY, mL]
  refine ⟨fnok27, CallAt.detS (.v (.bool true)) trivial (fun new w' hs => m_there (hs.ent_get (i := 0) rfl).1 (h.tab.keepG hs.keep h.out)) (Res.run 900 ?_)⟩
  simp only [↓reduceIte, Nat.reduceEqDiff, Nat.reduceAdd, Nat.reduceSub, Nat.reduceMul, Nat.reduceLT, Int.reduceToNat, Int.reduceBEq, Int.reduceBNe, Int.reduceLT, Int.reduceLE, E, E', TY]
  refine Res.op (OpAt.append (x := .tmp 12) (y := .tmp 13) (t := 22) (e := 41) (size := 4) (bytes := 32) (i := 1) (nl := p.nl1) (n := st.length) (cap := p.cap1) (m := l.length) (cur := p.cur1) (flat l) rfl rfl rfl rfl ap22 rfl rfl hp.s.len hp.s.capk hp.s.capm hp.s.nil
    (SrcOK.v (A := A) (c := c) rfl (fun h => by rw [hA h]; rfl) hl) (flat_length l) (flat_one l) ⟨by simp [maxLen]; omega, by omega⟩ fun nl cap cur c1 c2 c3 c4 c5 c6 => Res.run 900 ?_)
  simp only [↓reduceIte, Nat.reduceEqDiff, Nat.reduceAdd, Nat.reduceSub, Nat.reduceMul, Nat.reduceLT, Int.reduceToNat, Int.reduceBEq, Int.reduceBNe, Int.reduceLT, Int.reduceLE, E, E', TY]
  refine Ret.body [.v (.int .i64 0)] rfl (by kernel_rfl) fun new w' hs => ⟨by simp [resOf, SV.den], ?_⟩
  refine mach_pack (nl1 := nl) (cap1 := cap) (cur1 := cur) (nl2 := p.nl2) (cap2 := p.cap2) (cur2 := p.cur2) (xs := p.xs) 4 2 (fun r => r = 3) hs rfl (by simp) rfl rfl (by simp) (by rintro r rfl; simp) (by simpa using c1) c2 c3 ?_ c5 hp.f.capk hp.f.capm hp.f.len hp.f.take hp.f.nil ?_
  · rw [List.length_append, c4, hp.s.take, flat_append]
  · intro own ho
    exact FrA_mono (ho.ok 3 _ rfl) fun b hb => ⟨3, rfl, hb⟩

theorem row_get {cur cs : List Value} {n : Nat} (h : cur.take n = cs) {i : Nat} {u : Value} (hu : cs[i]? = some u) : gV cur i = u ∧ i < cur.length := by
  subst h
  rw [List.getElem?_take] at hu
  split at hu
  · refine ⟨by simp [gV, hu], (List.getElem?_eq_some_iff.1 hu).1⟩
  · cases hu

/-- What is read of the last frame. -/
structure FrG (cur2 : List Value) (k : Nat) (f : Frm) (x : FA) : Prop where
  l : k * 6 + 5 < cur2.length
  g0 : gV cur2 (k * 6) = .int .i64 f.op
  g1 : gV cur2 (k * 6 + 1) = .slice x.a1 f.ps.length x.c1
  g2 : gV cur2 (k * 6 + 2) = .slice x.a2 f.rs.length x.c2
  g3 : gV cur2 (k * 6 + 3) = .int .i64 f.ht
  g4 : gV cur2 (k * 6 + 4) = .bool f.dead
  g5 : gV cur2 (k * 6 + 5) = .slice x.a3 f.gv.length x.c3

theorem MachOK.frame {t : Nat} {st : List Vl} {fr : List Frm} {O : Nat → Prop} {m : Nat} {w : World} {p : MachP} (h : MachOK t st fr O m w p) {k : Nat} (hk : k < fr.length) : ∃ hk', FrG p.cur2 k fr[k] (p.xs[k]'hk') ∧ FOk p.Or w fr[k] (p.xs[k]'hk') := by
  have hk' : k < p.xs.length := by rw [← h.r.1]; exact hk
  refine ⟨hk', ?_, h.r.2 k hk hk'⟩
  have g : ∀ j u, j < 6 → (fcell fr[k] p.xs[k])[j]? = some u → gV p.cur2 (k * 6 + j) = u ∧ k * 6 + j < p.cur2.length := fun j u hj hu => row_get h.f.take (by rw [fcells_get k hk hk' j hj]; exact hu)
  exact ⟨(g 5 _ (by omega) rfl).2, (g 0 _ (by omega) rfl).1, (g 1 _ (by omega) rfl).1, (g 2 _ (by omega) rfl).1, (g 3 _ (by omega) rfl).1, (g 4 _ (by omega) rfl).1, (g 5 _ (by omega) rfl).1⟩

theorem MachOK.top {t : Nat} {st : List Vl} {fr : List Frm} {O : Nat → Prop} {m : Nat} {w : World} {p : MachP} (h : MachOK t st fr O m w p) {k : Nat} (hk : k < st.length) :
    k * 4 + 4 ≤ p.cur1.length ∧ gV p.cur1 (k * 4 + 0) = .int .i64 st[k].k ∧ gV p.cur1 (k * 4 + 1) = .bool st[k].nul ∧ gV p.cur1 (k * 4 + 2) = .int .i64 st[k].hk ∧ gV p.cur1 (k * 4 + 3) = .int .i64 st[k].hn := by
  have g : ∀ j u, j < 4 → (st[k].cs)[j]? = some u → gV p.cur1 (k * 4 + j) = u ∧ k * 4 + j < p.cur1.length := fun j u hj hu => row_get h.s.take (by rw [flat_get st k hk j hj]; exact hu)
  have := (g 3 _ (by omega) rfl).2
  exact ⟨by omega, (g 0 _ (by omega) rfl).1, (g 1 _ (by omega) rfl).1, (g 2 _ (by omega) rfl).1, (g 3 _ (by omega) rfl).1⟩

theorem MachOK.nl1 {t : Nat} {st : List Vl} {fr : List Frm} {O : Nat → Prop} {m : Nat} {w : World} {p : MachP} (h : MachOK t st fr O m w p) (hk : 0 < st.length) : p.nl1 = false := by
  cases hn : p.nl1 with
  | false => rfl
  | true => have := h.s.nil hn; have := h.s.capk; omega
theorem MachOK.nl2 {t : Nat} {st : List Vl} {fr : List Frm} {O : Nat → Prop} {m : Nat} {w : World} {p : MachP} (h : MachOK t st fr O m w p) (hk : 0 < fr.length) : p.nl2 = false := by
  cases hn : p.nl2 with
  | false => rfl
  | true => have := h.f.nil hn; have := h.f.capk; omega

def vZ : Vl := ⟨0, false, 0, 0⟩
def vBot : Vl := ⟨4, false, 0, 0⟩
/-- A value is taken: what it is, the error, what is left. -/
def popF (st : List Vl) (fr : List Frm) : Vl × Int × List Vl :=
  match st.getLast? with
  | some x => match fr.getLast? with
    | none => (x, 0, st.dropLast)
    | some f => if (st.length : Int) > f.ht then (x, 0, st.dropLast) else if f.dead then (vBot, 0, st) else (vZ, 140, st)
  | none => match fr.getLast? with
    | none => (vZ, 140, st)
    | some f => if f.dead then (vBot, 0, st) else (vZ, 140, st)

theorem pack_same {pp : Option MachP} {W w : World} {O : Nat → Prop} {m t : Nat} {st st' : List Vl} {fr : List Frm} {σ : St} {new : List Nat} {p : MachP} (hs : HS (Gm W O) W σ new w) (hp : MachOK t st fr O m W p)
    (hX : (σ.X ++ new).getD 0 0 = m) (h0 : σ.L[0]? = some (.cells 58 [.v (.pointer (some ⟨t, 0, none⟩)), .s 1 p.nl1 0 st'.length p.cap1, .s 2 p.nl2 0 fr.length p.cap2])) (hi : σ.L[1]? = some (.row p.nl1 41 p.cur1)) (hj : σ.L[2]? = some (.row p.nl2 69 p.cur2)) (hr : σ.L[3]? = some (.asn (FrA fr p.xs)))
    (hst : st' <+: st) (hq : ∀ q, pp = some q → p.same q) (hX1 : (σ.X ++ new).getD 1 0 = p.b1 := by rfl) (hX2 : (σ.X ++ new).getD 2 0 = p.b2 := by rfl) : Mq W w O m t st' fr pp := by
  obtain ⟨s2, hst⟩ := hst
  have hle : st'.length ≤ st.length := by rw [← hst]; simp
  have l3 := (List.getElem?_eq_some_iff.1 hr).1
  refine mach_pack (nl1 := p.nl1) (cap1 := p.cap1) (cur1 := p.cur1) (nl2 := p.nl2) (cap2 := p.cap2) (cur2 := p.cur2) (xs := p.xs) 1 2 (fun r => r = 3) hs hX h0 hi hj (by simp) (by rintro r rfl; exact ⟨l3, by simp⟩) (Nat.le_trans hle hp.s.capk) hp.s.capm hp.s.len ?_ hp.s.nil hp.f.capk hp.f.capm hp.f.len hp.f.take hp.f.nil ?_ ?_
  · have := congrArg (List.take (st'.length * 4)) hp.s.take
    rw [List.take_take, Nat.min_eq_left (Nat.mul_le_mul_right _ hle), flat_take] at this
    rw [this, ← hst]
    simp
  · intro own ho
    exact FrA_mono (ho.ok 3 _ hr) fun b hb => ⟨3, rfl, hb⟩
  · intro q hqq
    rw [hX1, hX2]
    exact hq q hqq

theorem m_pop {pp : Option MachP} {w : World} {O : Nat → Prop} {m t : Nat} {st : List Vl} {fr : List Frm} (h : Mc w O m t st fr pp) (hsz : st.length ≤ 1000000) (hfz : fr.length ≤ 1000000) :
    Calls Try.prog 18 #[.pointer (some ⟨m, 0, none⟩)] w fun e w' => e = .returned (.tuple #[(popF st fr).1.v, .int .i64 (popF st fr).2.1]) ∧ Mq w w' O m t (popF st fr).2.2 fr pp := by
  obtain ⟨p, hp, hq, hS⟩ := h.hsq
  rcases List.eq_nil_or_concat fr with rfl | ⟨fr', f, rfl⟩
  · rcases List.eq_nil_or_concat st with rfl | ⟨st', x, rfl⟩
    · refine Go.Eng.start (X := [m, p.b1, p.b2, 0]) (L := mL t _ _ p _) (args := [.p 0 0]) (G := Gm w O) Try.func18 rfl Try.ntmps18 (by simp [SV.lt, mL]) (hS _) ?_
      refine Res.run 1000 ?_
      simp only [↓reduceIte, Nat.reduceEqDiff, Nat.reduceAdd, Nat.reduceSub, Nat.reduceMul, Nat.reduceLT, Int.reduceToNat, Int.reduceBEq, Int.reduceBNe, Int.reduceLT, Int.reduceLE, E, E', TY, mL]
      refine ⟨fnok27, CallAt.detS (.v (.bool true)) trivial (fun new w' hs => m_there (hs.ent_get (i := 0) rfl).1 (h.tab.keepG hs.keep h.out)) (Res.run 900 ?_)⟩
      simp only [↓reduceIte, Nat.reduceEqDiff, Nat.reduceAdd, Nat.reduceSub, Nat.reduceMul, Nat.reduceLT, Int.reduceToNat, Int.reduceBEq, Int.reduceBNe, Int.reduceLT, Int.reduceLE, E, E', TY]
      refine ⟨fnok29, CallAt.detS (.v (.pointer none)) trivial (fun new w' hs => m_inner0 (hs.ent_get (i := 0) rfl).1) (Res.run 900 ?_)⟩
      simp only [↓reduceIte, Nat.reduceEqDiff, Nat.reduceAdd, Nat.reduceSub, Nat.reduceMul, Nat.reduceLT, Int.reduceToNat, Int.reduceBEq, Int.reduceBNe, Int.reduceLT, Int.reduceLE, E, E', TY, Int.natCast_zero, Int.lt_irrefl, gt_iff_lt]
      refine Ret.body [.agg [.v (.int .i64 0), .v (.bool false), .v (.int .i64 0), .v (.int .i64 0)], .v (.int .i64 140)] rfl (by kernel_rfl) fun new w' hs => ⟨by simp [resOf, SV.den, At.den, popF, Vl.v, vZ], ?_⟩
      exact pack_same hs hp rfl rfl rfl rfl rfl (by simp [popF]) hq
    · rw [List.concat_eq_append] at h hp hS hsz ⊢
      have hn1 := hp.nl1 (by simp)
      obtain ⟨q0, q1, q2, q3, q4⟩ := hp.top (k := st'.length) (by simp)
      simp only [List.getElem_append_right (Nat.le_refl _), Nat.sub_self, List.getElem_cons_zero] at q1 q2 q3 q4
      have hl : (st' ++ [x]).length = st'.length + 1 := by simp
      have hcap := hp.s.capk
      rw [hl] at hS hcap hsz
      have e1 : decide (((st'.length + 1 : Nat) : Int) > 0) = true := by simp
      have e2 : ((st'.length + 1 : Nat) : Int) - 1 = (st'.length : Int) := by omega
      refine Go.Eng.start (X := [m, p.b1, p.b2, 0]) (L := mL t _ _ p _) (args := [.p 0 0]) (G := Gm w O) Try.func18 rfl Try.ntmps18 (by simp [SV.lt, mL]) (hS _) ?_
      refine Res.run 1000 ?_
      simp only [↓reduceIte, Nat.reduceEqDiff, Nat.reduceAdd, Nat.reduceSub, Nat.reduceMul, Nat.reduceLT, Int.reduceToNat, Int.reduceBEq, Int.reduceBNe, Int.reduceLT, Int.reduceLE, E, E', TY, mL]
      refine ⟨fnok27, CallAt.detS (.v (.bool true)) trivial (fun new w' hs => m_there (hs.ent_get (i := 0) rfl).1 (h.tab.keepG hs.keep h.out)) (Res.run 900 ?_)⟩
      simp only [↓reduceIte, Nat.reduceEqDiff, Nat.reduceAdd, Nat.reduceSub, Nat.reduceMul, Nat.reduceLT, Int.reduceToNat, Int.reduceBEq, Int.reduceBNe, Int.reduceLT, Int.reduceLE, E, E', TY]
      refine ⟨fnok29, CallAt.detS (.v (.pointer none)) trivial (fun new w' hs => m_inner0 (hs.ent_get (i := 0) rfl).1) (Res.run 900 ?_)⟩
      simp only [↓reduceIte, Nat.reduceEqDiff, Nat.reduceAdd, Nat.reduceSub, Nat.reduceMul, Nat.reduceLT, Int.reduceToNat, Int.reduceBEq, Int.reduceBNe, Int.reduceLT, Int.reduceLE, E, E', TY, e1, e2, Int.toNat_natCast, hn1, q1, q2, q3, q4, Nat.zero_add]
      refine ⟨i64ok_of (by omega) (by omega), ⟨by omega, by omega⟩, q0, i64ok_of (by omega) (by omega), ⟨by omega, by omega⟩, ?_⟩
      refine Ret.body [.agg [.v (.int .i64 x.k), .v (.bool x.nul), .v (.int .i64 x.hk), .v (.int .i64 x.hn)], .v (.int .i64 0)] rfl (by kernel_rfl) fun new w' hs => ⟨by simp [resOf, SV.den, At.den, popF, Vl.v], ?_⟩
      have hpf : (popF (st' ++ [x]) []).2.2 = st' := by simp [popF]
      rw [hpf]
      exact pack_same hs hp rfl (by rw [hn1]; rfl) (by rw [hn1]; rfl) rfl rfl (by simp) hq
  · rw [List.concat_eq_append] at h hp hS hfz ⊢
    have hn2 := hp.nl2 (by simp)
    obtain ⟨hk', g, _⟩ := hp.frame (k := fr'.length) (by simp)
    simp only [List.getElem_append_right (Nat.le_refl _), Nat.sub_self, List.getElem_cons_zero] at g
    have hlf : (fr' ++ [f]).length = fr'.length + 1 := by simp
    rw [hlf] at hS hfz
    obtain ⟨gl, _, _, _, g3, g4, _⟩ := g
    have inn : ∀ {σ : St} {new : List Nat} {w' : World} {s1 s2 : SV}, HS (Gm w O) w σ new w' → getE σ.L 0 = some (.cells 58 [s1, s2, .s 2 p.nl2 0 (fr'.length + 1) p.cap2]) → σ.X = [m, p.b1, p.b2, 0] →
        Calls Try.prog 29 #[.pointer (some ⟨m, 0, none⟩)] w' fun e w'' => e = .returned (.pointer (some ⟨p.b2, fr'.length * 6, none⟩)) ∧ Ext w' w'' := by
      intro σ new w' s1 s2 hs he hX
      have hm := (hs.ent_get he).1
      rw [hX] at hm
      refine (m_inner (A := some ⟨p.b2, 0, none⟩) (n := fr'.length) (c := p.cap2) (by rw [hn2] at hm; exact hm) rfl (by omega)).mono ?_
      rintro e w'' ⟨rfl, hE⟩
      exact ⟨by simp [pAdd, addr_add], hE⟩
    rcases List.eq_nil_or_concat st with rfl | ⟨st', x, rfl⟩
    · refine Go.Eng.start (X := [m, p.b1, p.b2, 0]) (L := mL t _ _ p _) (args := [.p 0 0]) (G := Gm w O) Try.func18 rfl Try.ntmps18 (by simp [SV.lt, mL]) (hS _) ?_
      refine Res.run 1000 ?_
      simp only [↓reduceIte, Nat.reduceEqDiff, Nat.reduceAdd, Nat.reduceSub, Nat.reduceMul, Nat.reduceLT, Int.reduceToNat, Int.reduceBEq, Int.reduceBNe, Int.reduceLT, Int.reduceLE, E, E', TY, mL]
      refine ⟨fnok27, CallAt.detS (.v (.bool true)) trivial (fun new w' hs => m_there (hs.ent_get (i := 0) rfl).1 (h.tab.keepG hs.keep h.out)) (Res.run 900 ?_)⟩
      simp only [↓reduceIte, Nat.reduceEqDiff, Nat.reduceAdd, Nat.reduceSub, Nat.reduceMul, Nat.reduceLT, Int.reduceToNat, Int.reduceBEq, Int.reduceBNe, Int.reduceLT, Int.reduceLE, E, E', TY]
      refine ⟨fnok29, CallAt.detS (.p 2 (fr'.length * 6)) (by simp [SV.lt]) (fun new w' hs => inn hs rfl rfl) (Res.run 900 ?_)⟩
      have hpf : popF [] (fr' ++ [f]) = if f.dead then (vBot, 0, []) else (vZ, 140, []) := by simp [popF]
      rw [hpf]
      cases hd : f.dead with
      | true =>
        rw [hd] at g4
        simp only [↓reduceIte, Nat.reduceEqDiff, Nat.reduceAdd, Nat.reduceSub, Nat.reduceMul, Nat.reduceLT, Int.reduceToNat, Int.reduceBEq, Int.reduceBNe, Int.reduceLT, Int.reduceLE, E, E', TY, Int.natCast_zero, Int.lt_irrefl, gt_iff_lt, hn2, g4]
        refine ⟨by omega, ?_⟩
        refine Ret.body [.agg [.v (.int .i64 4), .v (.bool false), .v (.int .i64 0), .v (.int .i64 0)], .v (.int .i64 0)] rfl (by kernel_rfl) fun new w' hs => ⟨by simp [resOf, SV.den, At.den, Vl.v, vBot], ?_⟩
        exact pack_same hs hp rfl (by rw [hlf, hn2]; rfl) rfl (by rw [hn2]; rfl) rfl (by simp) hq
      | false =>
        rw [hd] at g4
        simp only [↓reduceIte, Nat.reduceEqDiff, Nat.reduceAdd, Nat.reduceSub, Nat.reduceMul, Nat.reduceLT, Int.reduceToNat, Int.reduceBEq, Int.reduceBNe, Int.reduceLT, Int.reduceLE, E, E', TY, Int.natCast_zero, Int.lt_irrefl, gt_iff_lt, hn2, g4]
        refine ⟨by omega, ?_⟩
        refine Ret.body [.agg [.v (.int .i64 0), .v (.bool false), .v (.int .i64 0), .v (.int .i64 0)], .v (.int .i64 140)] rfl (by kernel_rfl) fun new w' hs => ⟨by simp [resOf, SV.den, At.den, Vl.v, vZ], ?_⟩
        exact pack_same hs hp rfl (by rw [hlf, hn2]; rfl) rfl (by rw [hn2]; rfl) rfl (by simp) hq
    · rw [List.concat_eq_append] at h hp hS hsz ⊢
      have hn1 := hp.nl1 (by simp)
      obtain ⟨q0, q1, q2, q3, q4⟩ := hp.top (k := st'.length) (by simp)
      simp only [List.getElem_append_right (Nat.le_refl _), Nat.sub_self, List.getElem_cons_zero] at q1 q2 q3 q4
      have hl : (st' ++ [x]).length = st'.length + 1 := by simp
      have hcap := hp.s.capk
      rw [hl] at hS hcap hsz
      have e1 : decide (((st'.length + 1 : Nat) : Int) > 0) = true := by simp
      have e2 : ((st'.length + 1 : Nat) : Int) - 1 = (st'.length : Int) := by omega
      refine Go.Eng.start (X := [m, p.b1, p.b2, 0]) (L := mL t _ _ p _) (args := [.p 0 0]) (G := Gm w O) Try.func18 rfl Try.ntmps18 (by simp [SV.lt, mL]) (hS _) ?_
      refine Res.run 1000 ?_
      simp only [↓reduceIte, Nat.reduceEqDiff, Nat.reduceAdd, Nat.reduceSub, Nat.reduceMul, Nat.reduceLT, Int.reduceToNat, Int.reduceBEq, Int.reduceBNe, Int.reduceLT, Int.reduceLE, E, E', TY, mL]
      refine ⟨fnok27, CallAt.detS (.v (.bool true)) trivial (fun new w' hs => m_there (hs.ent_get (i := 0) rfl).1 (h.tab.keepG hs.keep h.out)) (Res.run 900 ?_)⟩
      simp only [↓reduceIte, Nat.reduceEqDiff, Nat.reduceAdd, Nat.reduceSub, Nat.reduceMul, Nat.reduceLT, Int.reduceToNat, Int.reduceBEq, Int.reduceBNe, Int.reduceLT, Int.reduceLE, E, E', TY]
      refine ⟨fnok29, CallAt.detS (.p 2 (fr'.length * 6)) (by simp [SV.lt]) (fun new w' hs => inn hs rfl rfl) (Res.run 900 ?_)⟩
      have hpf : popF (st' ++ [x]) (fr' ++ [f]) = if ((st'.length + 1 : Nat) : Int) > f.ht then (x, 0, st') else if f.dead then (vBot, 0, st' ++ [x]) else (vZ, 140, st' ++ [x]) := by simp [popF]
      rw [hpf]
      by_cases hht : ((st'.length + 1 : Nat) : Int) > f.ht
      · rw [if_pos hht]
        have e3 : decide (((st'.length + 1 : Nat) : Int) > f.ht) = true := by simp only [hht, decide_true]
        simp only [↓reduceIte, Nat.reduceEqDiff, Nat.reduceAdd, Nat.reduceSub, Nat.reduceMul, Nat.reduceLT, Int.reduceToNat, Int.reduceBEq, Int.reduceBNe, Int.reduceLT, Int.reduceLE, E, E', TY, e1, e2, e3, Int.toNat_natCast, hn1, hn2, g3, q1, q2, q3, q4, Nat.zero_add]
        refine ⟨by omega, i64ok_of (by omega) (by omega), ⟨by omega, by omega⟩, q0, i64ok_of (by omega) (by omega), ⟨by omega, by omega⟩, ?_⟩
        refine Ret.body [.agg [.v (.int .i64 x.k), .v (.bool x.nul), .v (.int .i64 x.hk), .v (.int .i64 x.hn)], .v (.int .i64 0)] rfl (by kernel_rfl) fun new w' hs => ⟨by simp [resOf, SV.den, At.den, Vl.v], ?_⟩
        exact pack_same hs hp rfl (by rw [hlf, hn1, hn2]; rfl) (by rw [hn1]; rfl) (by rw [hn2]; rfl) rfl (by simp) hq
      · rw [if_neg hht]
        have e3 : decide (((st'.length + 1 : Nat) : Int) > f.ht) = false := by simp only [hht, decide_false]
        cases hd : f.dead with
        | true =>
          rw [hd] at g4
          simp only [↓reduceIte, Nat.reduceEqDiff, Nat.reduceAdd, Nat.reduceSub, Nat.reduceMul, Nat.reduceLT, Int.reduceToNat, Int.reduceBEq, Int.reduceBNe, Int.reduceLT, Int.reduceLE, E, E', TY, e1, e2, e3, hn2, g3, g4]
          refine ⟨by omega, by omega, ?_⟩
          refine Ret.body [.agg [.v (.int .i64 4), .v (.bool false), .v (.int .i64 0), .v (.int .i64 0)], .v (.int .i64 0)] rfl (by kernel_rfl) fun new w' hs => ⟨by simp [resOf, SV.den, At.den, Vl.v, vBot], ?_⟩
          exact pack_same hs hp rfl (by rw [hlf, hn2]; simp) rfl (by rw [hn2]; rfl) rfl (by simp) hq
        | false =>
          rw [hd] at g4
          simp only [↓reduceIte, Nat.reduceEqDiff, Nat.reduceAdd, Nat.reduceSub, Nat.reduceMul, Nat.reduceLT, Int.reduceToNat, Int.reduceBEq, Int.reduceBNe, Int.reduceLT, Int.reduceLE, E, E', TY, e1, e2, e3, hn2, g3, g4]
          refine ⟨by omega, by omega, ?_⟩
          refine Ret.body [.agg [.v (.int .i64 0), .v (.bool false), .v (.int .i64 0), .v (.int .i64 0)], .v (.int .i64 140)] rfl (by kernel_rfl) fun new w' hs => ⟨by simp [resOf, SV.den, At.den, Vl.v, vZ], ?_⟩
          exact pack_same hs hp rfl (by rw [hlf, hn2]; simp) rfl (by rw [hn2]; rfl) rfl (by simp) hq
end Go.Proofs.Yteendcbmoagdfaa
