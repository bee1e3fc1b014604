/-
  The machine's methods: Close.
-/
import Derived.Test.YteendcbmoagdfaaW
set_option linter.unusedVariables false
set_option linter.unusedSimpArgs false
set_option maxRecDepth 20000
set_option maxHeartbeats 4000000
namespace Go.Proofs.Yteendcbmoagdfaa
open Go Go.Eng

/-- Two rows whose places are named. -/
def Row2A (b1 : Nat) (nl1 : Bool) (cur1 : List Value) (b2 : Nat) (nl2 : Bool) (cur2 : List Value) : Asn where
  R O q w := (RowA b1 nl1 41 cur1).R O q w ∧ (RowA b2 nl2 41 cur2).R O q w
  loc h hw := ⟨(RowA b1 nl1 41 cur1).loc h.1 hw, (RowA b2 nl2 41 cur2).loc h.2 hw⟩
theorem RowA_mono {b : Nat} {nl : Bool} {ty : TypeId} {cur : List Value} {O O' : Nat → Prop} {q q' : Nat} {w : World} (h : (RowA b nl ty cur).R O q w) (hO : ∀ x, O x → O' x) : (RowA b nl ty cur).R O' q' w := fun hn => ⟨hO _ (h hn).1, (h hn).2⟩

theorem same_of (p : MachP) (h : p.nl2 = false) (Or : Nat → Prop) : MachP.same ⟨p.nl1, p.b1, p.cap1, p.cur1, false, p.b2, p.cap2, p.cur2, p.xs, Or⟩ p := by
  unfold MachP.same
  simp only
  rw [← h]
theorem len1 {l : List Nat} (h : l.length = 1) : ∃ a, l = [a] := by
  match l, h with
  | [a], _ => exact ⟨a, rfl⟩

section
variable {Q : Pst} {G : Nat → Prop} {W : World}
/-- The machine is closed where a call stands next. -/
theorem CallAt.mclose {t m q : Nat} {st : List Vl} {fr : List Frm} {p : MachP} {T : List (Option SV)} {X' : List Nat} {rest : List Ent} {D : List DSV} {k : List It} {n1 n2 : Nat} {f : FuncId} {args : List SV} {dst : Option Tmp} (hF : MachF st fr p) (hn2 : p.nl2 = false) (e1 : n1 = st.length) (e2 : n2 = fr.length)
    (h : CallAt Try.prog Q G W { T := T, X := m :: p.b1 :: p.b2 :: q :: X', L := .asn (MachA t st fr (some p)) :: .dead :: .dead :: .dead :: rest, D := D } f args dst k) :
    CallAt Try.prog Q G W { T := T, X := m :: p.b1 :: p.b2 :: q :: X', L := .cells 58 [.v (.pointer (some ⟨t, 0, none⟩)), .s 1 p.nl1 0 n1 p.cap1, .s 2 false 0 n2 p.cap2] :: .row p.nl1 41 p.cur1 :: .row false 69 p.cur2 :: .asn (FrA fr p.xs) :: rest, D := D } f args dst k := by
  subst e1 e2
  refine CallAt.merge 0 [0, 1, 2, 3] (MachA t st fr (some p)) ⟨by simp, by simp⟩ (fun new w own ho => ?_) h
  exact machR_of (pp := some p) (nl2 := false) (cap1 := p.cap1) (cap2 := p.cap2) 0 1 2 [0, 1, 2, 3] (fun r => r = 3) ho rfl rfl rfl (by simp) (by rintro r rfl; simp) (by simp) ⟨hF.c1, hF.c2, hF.c3, hF.c4, hF.c5, hF.d1, hF.d2, hF.d3, hF.d4, by simp, hF.xl⟩
    (FrA_mono (ho.ok 3 _ rfl) fun b hb => ⟨3, rfl, hb⟩) (by rintro q h; cases h; exact same_of p hn2 _)
end

theorem fo_of {fr : List Frm} {xs : List FA} {O : Nat → Prop} {q : Nat} {w : World} (h : (FrA fr xs).R O q w) {k : Nat} {f : Frm} {x : FA} (hk : k < fr.length) (hf : fr[k] = f) (hk' : k < xs.length) (hx : xs[k] = x) : FOk O w f x := by
  have := h.2 k hk hk'
  rw [hf, hx] at this
  exact this

theorem own_cases {W w : World} {O : Nat → Prop} {σ : St} {new : List Nat} {own : Nat → Nat → Prop} (ho : HSo (Gm W O) W σ new w own) {i b : Nat} (hi : i < σ.L.length) (hb : own i b) : b < w.heap.size ∧ (W.heap.size ≤ b ∨ O b) := by
  obtain ⟨h1, h2⟩ := ho.out i b hi hb
  refine ⟨h2, ?_⟩
  by_cases hbs : b < W.heap.size
  · right
    by_cases hO : O b
    · exact hO
    · exact absurd ⟨hbs, hO⟩ h1
  · left; omega
theorem len2 {l : List Nat} (h : l.length = 2) : ∃ a b, l = [a, b] := by
  match l, h with
  | [a, b], _ => exact ⟨a, b, rfl⟩

/-- A machine without its last frame. -/
theorem MachF.pop {st : List Vl} {fr : List Frm} {f : Frm} {p : MachP} {xs : List FA} {x : FA} (h : MachF st (fr ++ [f]) p) (hxs : p.xs = xs ++ [x]) (hl : fr.length = xs.length) : fr.length ≤ p.cap2 ∧ p.cur2.take (fr.length * 6) = fcells fr xs := by
  have h1 := h.d1
  have h4 := h.d4
  rw [List.length_append] at h1 h4
  refine ⟨by simp at h1; omega, ?_⟩
  have := congrArg (List.take (fr.length * 6)) h4
  rw [List.take_take, hxs, fcells_append hl, List.take_append_of_le_length (by rw [fcells_length hl]; omega)] at this
  rw [show min (fr.length * 6) ((fr.length + [f].length) * 6) = fr.length * 6 from Nat.min_eq_left (Nat.mul_le_mul_right _ (by simp))] at this
  rw [this, List.take_of_length_le (by rw [fcells_length hl]; omega)]

theorem m_close0 {w : World} {O : Nat → Prop} {m t : Nat} {st : List Vl} (h : Mc w O m t st []) :
    Calls Try.prog 19 #[.pointer (some ⟨m, 0, none⟩)] w fun e w' => e = .returned (.tuple #[.int .i64 0, .slice none 0 0, .slice none 0 0, .int .i64 142]) ∧ Mq w w' O m t st [] := by
  obtain ⟨p, hp, hS⟩ := h.hs
  have hF := hp.toF
  refine startM (X := [m, p.b1, p.b2, 0]) (L := mL t _ _ p _) (args := [.p 0 0]) (G := Gm w O) Try.func19 rfl Try.ntmps19 (by simp [SV.lt, mL]) (hS _) ?_
  refine Res.run 1000 ?_
  simp only [↓reduceIte, Nat.reduceEqDiff, Nat.reduceAdd, Nat.reduceSub, Nat.reduceMul, Nat.reduceLT, Int.reduceToNat, Int.reduceBEq, Int.reduceBNe, Int.reduceLT, Int.reduceLE, E, E', TY, mL]
  refine ⟨fnok27, CallAt.detS (.v (.bool true)) trivial (fun new w' hs => m_there (hs.ent_get (i := 0) rfl).1 (h.tab.keepG hs.keep h.out)) (Res.run 900 ?_)⟩
  simp only [↓reduceIte, Nat.reduceEqDiff, Nat.reduceAdd, Nat.reduceSub, Nat.reduceMul, Nat.reduceLT, Int.reduceToNat, Int.reduceBEq, Int.reduceBNe, Int.reduceLT, Int.reduceLE, E, E', TY]
  refine ⟨fnok29, CallAt.detS (.v (.pointer none)) trivial (fun new w' hs => m_inner0 (hs.ent_get (i := 0) rfl).1) (Res.run 900 ?_)⟩
  simp only [↓reduceIte, Nat.reduceEqDiff, Nat.reduceAdd, Nat.reduceSub, Nat.reduceMul, Nat.reduceLT, Int.reduceToNat, Int.reduceBEq, Int.reduceBNe, Int.reduceLT, Int.reduceLE, E, E', TY]
  refine Ret.bodyM [.v (.int .i64 0), .v (.slice none 0 0), .v (.slice none 0 0), .v (.int .i64 142)] rfl (by kernel_rfl) fun new w' hs => ⟨by simp [resOf, SV.den], ?_⟩
  exact mach_pack (nl1 := p.nl1) (cap1 := p.cap1) (cur1 := p.cur1) (nl2 := p.nl2) (cap2 := p.cap2) (cur2 := p.cur2) (xs := p.xs) 1 2 (fun q => q = 3) hs rfl rfl rfl rfl (by decide) (by rintro _ rfl; simp) hF.c1 hF.c2 hF.c3 hF.c4 hF.c5 hF.d1 hF.d2 hF.d3 hF.d4 hF.d5 (fun own ho => FrA_mono (ho.ok 3 _ rfl) fun b hb => ⟨3, rfl, hb⟩)

/-- What is left where a frame cannot be closed. -/
def clsErr (st : List Vl) (fr : List Frm) (f : Frm) : Option Int :=
  let r := takesF st fr f.rs
  if r.1 ≠ 0 then some r.1 else if (r.2.length : Int) > f.ht then some 143 else none

theorem m_close {w : World} {O : Nat → Prop} {m t : Nat} {st : List Vl} {fr' : List Frm} {f : Frm} (h : Mc w O m t st (fr' ++ [f])) (hsz : st.length ≤ 500000) (hfz : fr'.length + 1 ≤ 500000) (z1 : f.ps.length ≤ 500000) (z2 : f.rs.length ≤ 500000) :
    Calls Try.prog 19 #[.pointer (some ⟨m, 0, none⟩)] w fun e w' => match clsErr st (fr' ++ [f]) f with
      | some er => e = .returned (.tuple #[.int .i64 0, .slice none 0 0, .slice none 0 0, .int .i64 er]) ∧ Mq w w' O m t (takesF st (fr' ++ [f]) f.rs).2 (fr' ++ [f])
      | none => ∃ nl1 b1 k1 cur1 nl2 b2 k2 cur2 O' O2, e = .returned (.tuple #[.int .i64 f.op, .slice (sA nl1 b1 0) f.ps.length k1, .slice (sA nl2 b2 0) f.rs.length k2, .int .i64 0]) ∧
          FS0 4 f.ps.length (flat f.ps) nl1 k1 cur1 ∧ FS0 4 f.rs.length (flat f.rs) nl2 k2 cur2 ∧ (MachA t (takesF st (fr' ++ [f]) f.rs).2 fr').R O' m w' ∧ (Row2A b1 nl1 cur1 b2 nl2 cur2).R O2 0 w' ∧ Chg w w' O O' ∧ (∀ b, O2 b → b < w'.heap.size ∧ (w.heap.size ≤ b ∨ O b)) ∧ (∀ b, O' b → O2 b → False) := by
  obtain ⟨p, hp, hS⟩ := h.hs
  have hF := hp.toF
  have hn2 := hp.nl2 (by simp)
  obtain ⟨hk', g, fo⟩ := hp.frame (k := fr'.length) (by simp)
  simp only [List.getElem_append_right (Nat.le_refl _), Nat.sub_self, List.getElem_cons_zero] at g
  obtain ⟨gl, g0, g1, g2, g3, g4, _⟩ := g
  obtain ⟨x, hx⟩ : ∃ x, p.xs[fr'.length] = x := ⟨_, rfl⟩
  rw [hx] at g1 g2
  have fo : FOk p.Or w f x := by
    have := fo
    simp only [hx] at this
    simpa using this
  have hlf : (fr' ++ [f]).length = fr'.length + 1 := by simp
  have hgf : (fr' ++ [f])[fr'.length]'(by simp) = f := by simp
  rw [hlf] at hS
  refine startM (X := [m, p.b1, p.b2, 0]) (L := mL t _ _ p _) (args := [.p 0 0]) (G := Gm w O) Try.func19 rfl Try.ntmps19 (by simp [SV.lt, mL]) (hS _) ?_
  refine Res.run 1000 ?_
  simp only [↓reduceIte, Nat.reduceEqDiff, Nat.reduceAdd, Nat.reduceSub, Nat.reduceMul, Nat.reduceLT, Int.reduceToNat, Int.reduceBEq, Int.reduceBNe, Int.reduceLT, Int.reduceLE, E, E', TY, mL]
  refine ⟨fnok27, CallAt.detS (.v (.bool true)) trivial (fun new w' hs => m_there (hs.ent_get (i := 0) rfl).1 (h.tab.keepG hs.keep h.out)) (Res.run 900 ?_)⟩
  simp only [↓reduceIte, Nat.reduceEqDiff, Nat.reduceAdd, Nat.reduceSub, Nat.reduceMul, Nat.reduceLT, Int.reduceToNat, Int.reduceBEq, Int.reduceBNe, Int.reduceLT, Int.reduceLE, E, E', TY]
  have hfz' : fr'.length + 1 ≤ 1000000 := by omega
  refine ⟨fnok29, CallAt.detS (.p 2 (fr'.length * 6)) (by simp [SV.lt]) (fun new w' hs => inner_hs hn2 hfz' hs rfl rfl) (Res.run 900 ?_)⟩
  simp only [↓reduceIte, Nat.reduceEqDiff, Nat.reduceAdd, Nat.reduceSub, Nat.reduceMul, Nat.reduceLT, Int.reduceToNat, Int.reduceBEq, Int.reduceBNe, Int.reduceLT, Int.reduceLE, E, E', TY]
  refine Res.draw 6 [.dead, .dead, .dead, .dead, .cells 24 [.p 0 0]] (.take 0 (.take 1 (.take 2 (.take 3 (.run 4 (.run 5 .fin .fin) .fin))))) (by kernel_rfl) (by kernel_rfl) fun new hnew => ?_
  obtain ⟨i1, rfl⟩ := len1 (l := new) (by have := hnew; simp only [List.length_cons, List.length_append, List.length_nil] at this; omega)
  refine Res.run 900 ?_
  simp only [↓reduceIte, Nat.reduceEqDiff, Nat.reduceAdd, Nat.reduceSub, Nat.reduceMul, Nat.reduceLT, Int.reduceToNat, Int.reduceBEq, Int.reduceBNe, Int.reduceLT, Int.reduceLE, E, E', TY, hn2, g2, List.cons_append, List.nil_append]
  refine ⟨by omega, fnok17, ?_⟩
  refine CallAt.mclose hF hn2 rfl hlf.symm ?_
  have hfl : ∀ (O' : Nat → Prop) (w' : World) (st' : List Vl), (MachA t st' (fr' ++ [f]) (some p)).R O' m w' → FOk O' w' f x := fun O' w' st' hR => frame_list (k := fr'.length) (by simp) hgf hk' hx hR
  refine CallAt.asn 0 (MachA t st (fr' ++ [f]) (some p)) rfl (fun v A' => v = .int .i64 (takesF st (fr' ++ [f]) f.rs).1 ∧ A' = MachA t (takesF st (fr' ++ [f]) f.rs).2 (fr' ++ [f]) (some p)) ?_ ?_
  · intro new w' O' hs hR hO
    refine (m_Take' (Mc.of hs hR hO h.tab h.out) x.a2 x.c2 f.rs (fun w'' O'' st' hR' hb _ => (hfl O'' w'' st' hR').r.mono hb) (by omega) (by rw [hlf]; omega) (by omega)).mono ?_
    rintro e w'' ⟨rfl, O'', hR', hC⟩
    exact ⟨_, _, O'', rfl, ⟨rfl, rfl⟩, hR', hC⟩
  rintro _ _ ⟨rfl, rfl⟩
  have hce : clsErr st (fr' ++ [f]) f = if (takesF st (fr' ++ [f]) f.rs).1 ≠ 0 then some (takesF st (fr' ++ [f]) f.rs).1 else if ((takesF st (fr' ++ [f]) f.rs).2.length : Int) > f.ht then some 143 else none := rfl
  rw [hce]
  have hle : (takesF st (fr' ++ [f]) f.rs).2.length ≤ st.length := takesR_len _ _ _
  generalize takesF st (fr' ++ [f]) f.rs = r at hle ⊢
  obtain ⟨e, st1⟩ := r
  simp only at hle ⊢
  refine Res.run 900 ?_
  by_cases he : e = 0
  case neg =>
    have e1 : (e != 0) = true := by simp [he]
    rw [if_pos he]
    simp only [↓reduceIte, Nat.reduceEqDiff, Nat.reduceAdd, Nat.reduceSub, Nat.reduceMul, Nat.reduceLT, Int.reduceToNat, Int.reduceBEq, Int.reduceBNe, Int.reduceLT, Int.reduceLE, E, E', TY, e1]
    refine Ret.bodyM [.v (.int .i64 0), .v (.slice none 0 0), .v (.slice none 0 0), .v (.int .i64 e)] rfl (by kernel_rfl) fun new w' hs => ⟨by simp [resOf, SV.den], ?_⟩
    exact Mq.of_asn hs rfl rfl
  subst he
  rw [if_neg (by simp)]
  simp only [↓reduceIte, Nat.reduceEqDiff, Nat.reduceAdd, Nat.reduceSub, Nat.reduceMul, Nat.reduceLT, Int.reduceToNat, Int.reduceBEq, Int.reduceBNe, Int.reduceLT, Int.reduceLE, E, E', TY]
  refine Res.mreopen fun hF => ?_
  refine Res.quiet [] (by kernel_rfl) (by kernel_rfl) ?_
  by_cases hht : (st1.length : Int) > f.ht
  case pos =>
    have e1 : decide ((st1.length : Int) > f.ht) = true := by simp only [hht, decide_true]
    rw [if_pos hht]
    simp only [↓reduceIte, Nat.reduceEqDiff, Nat.reduceAdd, Nat.reduceSub, Nat.reduceMul, Nat.reduceLT, Int.reduceToNat, Int.reduceBEq, Int.reduceBNe, Int.reduceLT, Int.reduceLE, E, E', TY, hn2, g3, e1]
    refine ⟨by omega, Res.run 900 ?_⟩
    simp only [↓reduceIte, Nat.reduceEqDiff, Nat.reduceAdd, Nat.reduceSub, Nat.reduceMul, Nat.reduceLT, Int.reduceToNat, Int.reduceBEq, Int.reduceBNe, Int.reduceLT, Int.reduceLE, E, E', TY]
    refine Ret.bodyM [.v (.int .i64 0), .v (.slice none 0 0), .v (.slice none 0 0), .v (.int .i64 143)] rfl (by kernel_rfl) fun new w' hs => ⟨by simp [resOf, SV.den], ?_⟩
    exact mach_pack (nl1 := p.nl1) (cap1 := p.cap1) (cur1 := p.cur1) (nl2 := false) (cap2 := p.cap2) (cur2 := p.cur2) (xs := p.xs) 1 2 (fun q => q = 3) hs rfl rfl rfl rfl (by decide) (by rintro _ rfl; simp) hF.c1 hF.c2 hF.c3 hF.c4 hF.c5 hF.d1 hF.d2 hF.d3 hF.d4 (by simp) (fun own ho => FrA_mono (ho.ok 3 _ rfl) fun b hb => ⟨3, rfl, hb⟩)
  have e1 : decide ((st1.length : Int) > f.ht) = false := by simp only [hht, decide_false]
  rw [if_neg hht]
  simp only [↓reduceIte, Nat.reduceEqDiff, Nat.reduceAdd, Nat.reduceSub, Nat.reduceMul, Nat.reduceLT, Int.reduceToNat, Int.reduceBEq, Int.reduceBNe, Int.reduceLT, Int.reduceLE, E, E', TY, hn2, g3, e1]
  refine ⟨by omega, Res.run 900 ?_⟩
  simp only [↓reduceIte, Nat.reduceEqDiff, Nat.reduceAdd, Nat.reduceSub, Nat.reduceMul, Nat.reduceLT, Int.reduceToNat, Int.reduceBEq, Int.reduceBNe, Int.reduceLT, Int.reduceLE, E, E', TY]
  refine Res.defer rfl rfl rfl rfl (Res.run 900 ?_)
  simp only [↓reduceIte, Nat.reduceEqDiff, Nat.reduceAdd, Nat.reduceSub, Nat.reduceMul, Nat.reduceLT, Int.reduceToNat, Int.reduceBEq, Int.reduceBNe, Int.reduceLT, Int.reduceLE, E, E', TY]
  refine Res.draw 18 [.cells 58 [.v (.pointer (some ⟨t, 0, none⟩)), .s 1 p.nl1 0 st1.length p.cap1, .s 2 false 0 (fr' ++ [f]).length p.cap2], .row p.nl1 41 p.cur1, .row false 69 p.cur2, .asn (FrA (fr' ++ [f]) p.xs), .cells 24 [.p 0 0]] (.take 0 (.take 1 (.take 2 (.take 3 (.take 4 (.take 5 (.take 6 (.take 7 (.take 9 (.take 10 (.take 11 (.take 12 (.run 8 (.run 13 (.take 14 (.take 15 (.take 16 (.take 17 .fin)))) .fin) .fin))))))))))))) (by kernel_rfl) (by kernel_rfl) fun new hnew => ?_
  obtain rfl : new = [] := List.eq_nil_of_length_eq_zero (by have := hnew; simp only [List.length_cons, List.length_append, List.length_nil] at this; omega)
  refine Res.run 900 ?_
  simp only [↓reduceIte, Nat.reduceEqDiff, Nat.reduceAdd, Nat.reduceSub, Nat.reduceMul, Nat.reduceLT, Int.reduceToNat, Int.reduceBEq, Int.reduceBNe, Int.reduceLT, Int.reduceLE, E, E', TY, g0, g1, g2, List.cons_append, List.nil_append, List.append_nil, Nat.add_zero]
  refine ⟨by omega, by omega, by omega, fnok28, ?_⟩
  refine CallAt.clone (fun new w' hs => ?_) fo.pn (by omega) fun nl1 b1 k1 cur1 hF1 => Res.run 900 ?_
  · obtain ⟨own, ho⟩ := hs
    exact (fo_of (ho.ok 3 _ rfl) (by simp) hgf hk' hx).p.mono fun b hb => (ho.out 3 b (by simp) hb).2
  simp only [↓reduceIte, Nat.reduceEqDiff, Nat.reduceAdd, Nat.reduceSub, Nat.reduceMul, Nat.reduceLT, Int.reduceToNat, Int.reduceBEq, Int.reduceBNe, Int.reduceLT, Int.reduceLE, E, E', TY]
  refine ⟨fnok28, ?_⟩
  refine CallAt.clone (fun new w' hs => ?_) fo.rn (by omega) fun nl2 b2 k2 cur2 hF2 => Res.run 900 ?_
  · obtain ⟨own, ho⟩ := hs
    exact (fo_of (ho.ok 3 _ rfl) (by simp) hgf hk' hx).r.mono fun b hb => (ho.out 3 b (by simp) hb).2
  simp only [↓reduceIte, Nat.reduceEqDiff, Nat.reduceAdd, Nat.reduceSub, Nat.reduceMul, Nat.reduceLT, Int.reduceToNat, Int.reduceBEq, Int.reduceBNe, Int.reduceLT, Int.reduceLE, E, E', TY]
  have htm : Try.f19.results.toList = [.tmp 2, .tmp 3, .tmp 4, .tmp 5] := by kernel_rfl
  refine Ret.deferred (n := 15) [.v (.int .i64 f.op), .v (.slice (sA nl1 b1 0) f.ps.length k1), .v (.slice (sA nl2 b2 0) f.rs.length k2), .v (.int .i64 0)] rfl Try.func33 rfl Try.ntmps33 fnok33 (by kernel_rfl) (by rw [htm]; intro r hr; simp only [List.mem_cons, List.not_mem_nil, or_false] at hr; rcases hr with rfl | rfl | rfl | rfl <;> exact ⟨_, rfl⟩) fun new hnew => ?_
  obtain ⟨i2, i3, rfl⟩ := len2 (l := new) (by have := hnew; simp only [List.length_cons, List.length_append, List.length_nil] at this; omega)
  refine Res.run 900 ?_
  simp only [↓reduceIte, Nat.reduceEqDiff, Nat.reduceAdd, Nat.reduceSub, Nat.reduceMul, Nat.reduceLT, Int.reduceToNat, Int.reduceBEq, Int.reduceBNe, Int.reduceLT, Int.reduceLE, E, E', TY, List.map_cons, List.map_nil]
  refine Res.draw 14 [.cells 58 [.v (.pointer (some ⟨t, 0, none⟩)), .s 1 p.nl1 0 st1.length p.cap1, .s 2 false 0 (fr' ++ [f]).length p.cap2], .dead, .dead, .dead, .cells 24 [.p 0 0], .dead, .dead] (.take 0 (.take 1 (.take 2 (.take 3 (.take 4 (.take 5 (.take 6 (.take 7 (.take 8 (.take 9 (.take 10 (.take 11 (.take 12 (.take 13 .fin)))))))))))))) (by kernel_rfl) (by kernel_rfl) fun new hnew => ?_
  obtain rfl : new = [] := List.eq_nil_of_length_eq_zero (by have := hnew; simp only [List.length_cons, List.length_append, List.length_nil] at this; omega)
  refine Res.run 900 ?_
  have e2 : ((fr' ++ [f]).length : Int) - 1 = (fr'.length : Int) := by rw [hlf]; omega
  simp only [↓reduceIte, Nat.reduceEqDiff, Nat.reduceAdd, Nat.reduceSub, Nat.reduceMul, Nat.reduceLT, Int.reduceToNat, Int.reduceBEq, Int.reduceBNe, Int.reduceLT, Int.reduceLE, E, E', TY, e2, Int.toNat_natCast, List.cons_append, List.nil_append, List.append_nil]
  have hd1 : fr'.length + 1 ≤ p.cap2 := by have := hF.d1; rw [hlf] at this; exact this
  refine ⟨i64ok_of (by omega) (by omega), ⟨by omega, by omega⟩, ?_⟩
  obtain ⟨xs, x', hxs, hxl⟩ := hF.concat
  obtain ⟨q1, q2⟩ := hF.pop hxs hxl
  refine Res.body [] rfl (by kernel_rfl) fun new w' hs => ⟨⟨_, rfl⟩, ?_⟩
  obtain ⟨own, ho⟩ := hs
  have r5 : (RowA b1 nl1 41 cur1).R (own 5) _ w' := ho.ok 5 _ rfl
  have r6 : (RowA b2 nl2 41 cur2).R (own 6) _ w' := ho.ok 6 _ rfl
  have r3 := FrA_mono (O' := fun b => ∃ r, r = 3 ∧ own r b) (q := 0) (ho.ok 3 _ rfl) fun b hb => ⟨3, rfl, hb⟩
  rw [hxs] at r3
  have hM := machR_of (pp := none) (nl2 := false) (cap1 := p.cap1) (cap2 := p.cap2) (xs := xs) 0 1 2 [0, 1, 2, 3] (fun r => r = 3) ho rfl rfl rfl (by simp) (by rintro r rfl; simp) (by simp) ⟨hF.c1, hF.c2, hF.c3, hF.c4, hF.c5, q1, hF.d2, hF.d3, q2, by simp, hxl⟩ (FrA_concat.1 r3).1
  refine ⟨nl1, b1, k1, cur1, nl2, b2, k2, cur2, _, fun b => own 5 b ∨ own 6 b, rfl, hF1, hF2, hM, ⟨RowA_mono r5 fun b hb => .inl hb, RowA_mono r6 fun b hb => .inr hb⟩, ⟨ho.keep.os, ho.keep.tape, ho.keep.output, ho.keep.size, fun b hb hO => ho.keep.block b ⟨hb, hO⟩, ?_⟩, ?_, ?_⟩
  · rintro b ⟨r, _, hr, hb⟩
    exact own_cases ho hr hb
  · rintro b (hb | hb)
    · exact own_cases ho (by simp) hb
    · exact own_cases ho (by simp) hb
  · rintro b ⟨r, hr1, hr2, hb⟩ hb2
    have hne : r ≠ 5 ∧ r ≠ 6 := by simp at hr1; omega
    rcases hb2 with hb2 | hb2
    · exact ho.apart r 5 b hr2 (by simp) hne.1 hb hb2
    · exact ho.apart r 6 b hr2 (by simp) hne.2 hb hb2
end Go.Proofs.Yteendcbmoagdfaa
