/-
  The machine's methods, third part: Die, Dead, Give, Label, Top.
-/
import Derived.Test.YteendcbmoagdfaaQ
set_option linter.unusedVariables false
set_option linter.unusedSimpArgs false
set_option maxRecDepth 20000
set_option maxHeartbeats 4000000
namespace Go.Proofs.Yteendcbmoagdfaa
open Go Go.Eng

theorem FrA_concat {fr : List Frm} {xs : List FA} {f : Frm} {x : FA} {O : Nat → Prop} {q : Nat} {w : World} : (FrA (fr ++ [f]) (xs ++ [x])).R O q w ↔ (FrA fr xs).R O q w ∧ FOk O w f x := by
  constructor
  · rintro ⟨h1, h2⟩
    have hl : fr.length = xs.length := by simpa using h1
    refine ⟨⟨hl, fun i hi hi' => ?_⟩, ?_⟩
    · have := h2 i (by simp; omega) (by simp; omega)
      simpa [List.getElem_append_left hi, List.getElem_append_left hi'] using this
    · have := h2 fr.length (by simp) (by simp; omega)
      simpa [hl] using this
  · rintro ⟨⟨hl, h2⟩, h3⟩
    refine ⟨by simpa using hl, fun i hi hi' => ?_⟩
    by_cases hc : i < fr.length
    · rw [List.getElem_append_left hc, List.getElem_append_left (by omega)]
      exact h2 i hc _
    · have : i = fr.length := by simp at hi; omega
      subst this
      simpa [hl] using h3

theorem MachF.concat {st : List Vl} {fr' : List Frm} {f : Frm} {p : MachP} (h : MachF st (fr' ++ [f]) p) : ∃ xs x, p.xs = xs ++ [x] ∧ fr'.length = xs.length := by
  have hl := h.xl
  rcases List.eq_nil_or_concat p.xs with hx | ⟨xs, x, hx⟩
  · rw [hx] at hl; simp at hl
  · rw [List.concat_eq_append] at hx
    exact ⟨xs, x, hx, by rw [hx] at hl; simpa using hl⟩

/-- A cell of the last frame is written. -/
theorem frame_set {fr : List Frm} {xs : List FA} {f f' : Frm} {x x' : FA} {cur : List Value} {n : Nat} (j : Nat) (v : Value) (hl : fr.length = xs.length) (hn : fr.length = n) (h : cur.take ((n + 1) * 6) = fcells (fr ++ [f]) (xs ++ [x])) (hf : (fcell f x).set j v = fcell f' x') :
    (putV cur (n * 6 + j) [v]).take ((fr ++ [f']).length * 6) = fcells (fr ++ [f']) (xs ++ [x']) := by
  subst hn
  have h1 : (fr ++ [f']).length = fr.length + 1 := by simp
  rw [h1]
  show (cur.set _ v).take _ = _
  rw [List.take_set, h, fcells_append hl, fcells_append hl, List.set_append_right _ _ (by rw [fcells_length hl]; omega), fcells_length hl]
  simp only [fcells, List.append_nil, Nat.add_sub_cancel_left]
  rw [hf]

theorem minI_nat {n : Nat} {h : Int} (h0 : 0 ≤ h) : minI n h = ((min n h.toNat : Nat) : Int) := by
  unfold minI
  split <;> omega

theorem inner_hs {w w' : World} {O : Nat → Prop} {m n : Nat} {p : MachP} {σ : St} {new : List Nat} {s1 s2 : SV} (hn2 : p.nl2 = false) (hfz : n + 1 ≤ 1000000) (hs : HS (Gm w O) w σ new w') (he : getE σ.L 0 = some (.cells 58 [s1, s2, .s 2 p.nl2 0 (n + 1) p.cap2])) (hX : σ.X = [m, p.b1, p.b2, 0]) :
    Calls Try.prog 29 #[.pointer (some ⟨m, 0, none⟩)] w' fun e w'' => e = .returned (.pointer (some ⟨p.b2, n * 6, none⟩)) ∧ Ext w' w'' := by
  have hm := (hs.ent_get he).1
  rw [hX] at hm
  refine (m_inner (A := some ⟨p.b2, 0, none⟩) (n := n) (c := p.cap2) (by rw [hn2] at hm; exact hm) rfl (by omega)).mono ?_
  rintro e w'' ⟨rfl, hE⟩
  exact ⟨by simp [pAdd, addr_add], hE⟩

theorem m_die0 {w : World} {O : Nat → Prop} {m t : Nat} {st : List Vl} (h : Mc w O m t st []) :
    Calls Try.prog 12 #[.pointer (some ⟨m, 0, none⟩)] w fun e w' => e = .returned (.int .i64 142) ∧ Mq w w' O m t st [] := by
  obtain ⟨p, hp, hS⟩ := h.hs
  have hF := hp.toF
  refine Go.Eng.start (X := [m, p.b1, p.b2, 0]) (L := mL t _ _ p _) (args := [.p 0 0]) (G := Gm w O) Try.func12 rfl Try.ntmps12 (by simp [SV.lt, mL]) (hS _) ?_
  refine Res.run 1000 ?_
  simp only [↓reduceIte, Nat.reduceEqDiff, Nat.reduceAdd, Nat.reduceSub, Nat.reduceMul, Nat.reduceLT, Int.reduceToNat, Int.reduceBEq, Int.reduceBNe, Int.reduceLT, Int.reduceLE, E, E', TY, mL]
  refine ⟨fnok27, CallAt.detS (.v (.bool true)) trivial (fun new w' hs => m_there (hs.ent_get (i := 0) rfl).1 (h.tab.keepG hs.keep h.out)) (Res.run 900 ?_)⟩
  simp only [↓reduceIte, Nat.reduceEqDiff, Nat.reduceAdd, Nat.reduceSub, Nat.reduceMul, Nat.reduceLT, Int.reduceToNat, Int.reduceBEq, Int.reduceBNe, Int.reduceLT, Int.reduceLE, E, E', TY]
  refine ⟨fnok29, CallAt.detS (.v (.pointer none)) trivial (fun new w' hs => m_inner0 (hs.ent_get (i := 0) rfl).1) (Res.run 900 ?_)⟩
  simp only [↓reduceIte, Nat.reduceEqDiff, Nat.reduceAdd, Nat.reduceSub, Nat.reduceMul, Nat.reduceLT, Int.reduceToNat, Int.reduceBEq, Int.reduceBNe, Int.reduceLT, Int.reduceLE, E, E', TY]
  refine Ret.body [.v (.int .i64 142)] rfl (by kernel_rfl) fun new w' hs => ⟨by simp [resOf, SV.den], ?_⟩
  exact mach_pack (nl1 := p.nl1) (cap1 := p.cap1) (cur1 := p.cur1) (nl2 := p.nl2) (cap2 := p.cap2) (cur2 := p.cur2) (xs := p.xs) 1 2 (fun q => q = 3) hs rfl rfl rfl rfl (by decide) (by rintro _ rfl; simp) hF.c1 hF.c2 hF.c3 hF.c4 hF.c5 hF.d1 hF.d2 hF.d3 hF.d4 hF.d5 (fun own ho => FrA_mono (ho.ok 3 _ rfl) fun b hb => ⟨3, rfl, hb⟩)

theorem m_die {w : World} {O : Nat → Prop} {m t : Nat} {st : List Vl} {fr' : List Frm} {f : Frm} (h : Mc w O m t st (fr' ++ [f])) (hht : 0 ≤ f.ht) (hfz : fr'.length + 1 ≤ 1000000) :
    Calls Try.prog 12 #[.pointer (some ⟨m, 0, none⟩)] w fun e w' => e = .returned (.int .i64 0) ∧ Mq w w' O m t (st.take f.ht.toNat) (fr' ++ [{ f with dead := true }]) := by
  obtain ⟨p, hp, hS⟩ := h.hs
  have hF := hp.toF
  have hn2 := hp.nl2 (by simp)
  obtain ⟨hk', g, _⟩ := hp.frame (k := fr'.length) (by simp)
  simp only [List.getElem_append_right (Nat.le_refl _), Nat.sub_self, List.getElem_cons_zero] at g
  have hlf : (fr' ++ [f]).length = fr'.length + 1 := by simp
  rw [hlf] at hS
  obtain ⟨gl, _, _, _, g3, g4, _⟩ := g
  refine Go.Eng.start (X := [m, p.b1, p.b2, 0]) (L := mL t _ _ p _) (args := [.p 0 0]) (G := Gm w O) Try.func12 rfl Try.ntmps12 (by simp [SV.lt, mL]) (hS _) ?_
  refine Res.run 1000 ?_
  simp only [↓reduceIte, Nat.reduceEqDiff, Nat.reduceAdd, Nat.reduceSub, Nat.reduceMul, Nat.reduceLT, Int.reduceToNat, Int.reduceBEq, Int.reduceBNe, Int.reduceLT, Int.reduceLE, E, E', TY, mL]
  refine ⟨fnok27, CallAt.detS (.v (.bool true)) trivial (fun new w' hs => m_there (hs.ent_get (i := 0) rfl).1 (h.tab.keepG hs.keep h.out)) (Res.run 900 ?_)⟩
  simp only [↓reduceIte, Nat.reduceEqDiff, Nat.reduceAdd, Nat.reduceSub, Nat.reduceMul, Nat.reduceLT, Int.reduceToNat, Int.reduceBEq, Int.reduceBNe, Int.reduceLT, Int.reduceLE, E, E', TY]
  refine ⟨fnok29, CallAt.detS (.p 2 (fr'.length * 6)) (by simp [SV.lt]) (fun new w' hs => inner_hs hn2 hfz hs rfl rfl) (Res.run 900 ?_)⟩
  simp only [↓reduceIte, Nat.reduceEqDiff, Nat.reduceAdd, Nat.reduceSub, Nat.reduceMul, Nat.reduceLT, Int.reduceToNat, Int.reduceBEq, Int.reduceBNe, Int.reduceLT, Int.reduceLE, E, E', TY]
  refine Res.draw 18 (mL t st.length (fr'.length + 1) p (fr' ++ [f])) (.take 0 (.take 1 (.take 2 (.take 3 (.take 4 (.take 5 (.take 6 (.take 7 (.take 8 (.take 9 (.take 10 (.take 11 (.take 12 (.take 13 (.take 14 (.take 15 (.take 16 (.take 17 .fin)))))))))))))))))) (by kernel_rfl) (by kernel_rfl) fun new hnew => ?_
  obtain rfl : new = [] := List.eq_nil_of_length_eq_zero (by simp only [mL, List.length_cons, List.length_nil, List.length_append] at hnew; omega)
  refine Res.run 900 ?_
  have hmn := minI_nat (n := st.length) hht
  have hcap := hF.c1
  simp only [↓reduceIte, Nat.reduceEqDiff, Nat.reduceAdd, Nat.reduceSub, Nat.reduceMul, Nat.reduceLT, Int.reduceToNat, Int.reduceBEq, Int.reduceBNe, Int.reduceLT, Int.reduceLE, E, E', TY, mL, hn2, g3, Nat.zero_add, hmn, Int.toNat_natCast]
  refine ⟨by omega, ⟨by omega, by omega⟩, by omega, ?_⟩
  obtain ⟨xs, x, hxs, hxl⟩ := hF.concat
  refine Ret.body [.v (.int .i64 0)] rfl (by kernel_rfl) fun new w' hs => ⟨by simp [resOf, SV.den], ?_⟩
  have hlt : (st.take f.ht.toNat).length = min st.length f.ht.toNat := by rw [List.length_take, Nat.min_comm]
  refine mach_pack (nl1 := p.nl1) (cap1 := p.cap1) (cur1 := p.cur1) (nl2 := false) (cap2 := p.cap2) (cur2 := putV p.cur2 (fr'.length * 6 + 4) [.bool true]) (xs := p.xs) 1 2 (fun q => q = 3) hs rfl (by rw [hlt, List.length_append]; rfl) rfl rfl (by decide) (by rintro _ rfl; simp) (by rw [hlt]; omega) hF.c2 hF.c3 ?_ hF.c5 (by have := hF.d1; simpa using this) hF.d2 (by show (p.cur2.set _ _).length = _; rw [List.length_set]; exact hF.d3) ?_ (by simp) ?_
  · have := hF.c4
    rw [hlt, ← flat_take, ← this, List.take_take]
    congr 1
    omega
  · rw [hxs]
    exact frame_set (f := f) (x := x) 4 (.bool true) hxl rfl (by rw [← hxs, ← hlf]; exact hF.d4) rfl
  · intro own ho
    have hr := FrA_mono (O' := fun b => ∃ r, r = 3 ∧ own r b) (q := 0) (ho.ok 3 _ rfl) fun b hb => ⟨3, rfl, hb⟩
    rw [hxs] at hr ⊢
    obtain ⟨r1, r2⟩ := FrA_concat.1 hr
    exact FrA_concat.2 ⟨r1, ⟨r2.p, r2.pn, r2.r, r2.rn, r2.g, r2.gn, r2.gc⟩⟩
end Go.Proofs.Yteendcbmoagdfaa
