/-
  The machine's method Give: an append to a slice that is full.
-/
import Derived.Test.YteendcbmoagdfaaG1
set_option linter.unusedVariables false
set_option linter.unusedSimpArgs false
set_option maxRecDepth 20000
set_option maxHeartbeats 4000000
namespace Go.Proofs.Yteendcbmoagdfaa
open Go Go.Eng

/-- What a grown slice is. -/
structure Grew (w w' : World) (e : TypeId) (size k : Nat) (xs : List Value) (b cap : Nat) (cur : List Value) : Prop where
  ext : Ext w w'
  ge : w.heap.size ≤ b
  lt : b < w'.heap.size
  row : w'.heap[b]? = some (.cells cur.toArray e (0, 0))
  fs : k ≤ cap ∧ cap ≤ maxLen ∧ cur.length = cap * size ∧ cur.take (k * size) = xs

theorem run_append_full {P : Program} {w : World} (t ty e : TypeId) (i : TypeInfo) (z : Value) (ht : P.underlying t = some (.slice e)) (hi : P.info? e = some i) (hz : i.zero = some z) (hzs : z.cells.size = i.size) (ad0 : Addr) (n : Nat) (olds : List Value) (hol : olds.length = n * i.size)
    (hold : ∀ j u, olds[j]? = some u → w.cell? (ad0.add j) = some u) (ad : Addr) (m c : Nat) (news : List Value) (hl : news.length = m * i.size) (hrd : ∀ j u, news[j]? = some u → w.cell? (ad.add j) = some u) (hm : 0 < m) (h63 : n + m ≤ maxLen) (hbytes : (n + m) * i.bytes ≤ 140737488355328) :
    ∃ b cap cur w', (Builtin.append_ #[t, t] ty #[.slice (some ad0) n n, .slice (some ad) m c]).run P w = .ok (.slice (some ⟨b, 0, none⟩) (n + m) cap) w' ∧ Grew w w' e i.size (n + m) (olds ++ news) b cap cur := by
  have hr := run_append_grow (P := P) w t ty e i z ht hi hz ad0 n n olds hol hold ad m c news hl hrd (by omega) (by have := h63; simp only [maxLen] at this; omega) (growslice_fits (by omega) hbytes)
  have hge := grownCap_ge w (n + m) n e
  have hcm' : grownCap w (n + m) n e ≤ maxLen := grownCap_le_maxLen w (n + m) n e h63
  refine ⟨w.heap.size, grownCap w (n + m) n e, (olds ++ news) ++ (Builtin.zeroCells z.cells (grownCap w (n + m) n e - (n + m))).toList, _, hr, ⟨rfl, rfl, rfl, by simp, fun b hb => Go.RowKit.Below.heap_alloc w.drew _ b hb⟩, Nat.le_refl _, by simp, ?_, hge, hcm', ?_, ?_⟩
  · have := heap_alloc_new w.drew (.cells (olds.toArray ++ news.toArray ++ Builtin.zeroCells z.cells (grownCap w (n + m) n e - (n + m))) e)
    refine this.trans ?_
    congr 2
    apply Array.ext'
    simp
  · simp only [List.length_append, hol, hl, Array.length_toList, size_zeroCells, hzs, ← Nat.add_mul]
    congr 1
    omega
  · have : ((n + m) * i.size) = (olds ++ news).length := by rw [List.length_append, hol, hl, Nat.add_mul]
    rw [this]
    exact List.take_left

section
variable {P : Program} {Q : Pst} {G : Nat → Prop} {W : World}
/-- append(x, y), x a list of ints that is full. -/
theorem OpAt.appendI {σ : St} {o : Oper} {k : List It} {c : Call} {x y : Operand} {t e : TypeId} {size bytes : Nat} {A : Option Addr} {n : Nat} (olds : List Value) (u : Value) (ho : o.op = .call c) (hc : c.callee = .builtin .append) (hca : c.args = #[x, y]) (hct : c.argTypes = #[t, t])
    (hI : appI P t = some (e, size, bytes)) (h1 : size = 1) (hx : ev σ x = some (.v (.slice A n n))) (hol : olds.length = n) (hA : A = none → n = 0) (hold : ∀ new w, HS G W σ new w → ∀ ad, A = some ad → ∀ j u, olds[j]? = some u → w.cell? (ad.add j) = some u)
    (hsrc : SrcOK G W σ y 1 [u]) (hu : u.oneCell' = true) (hfit : n + 1 ≤ maxLen ∧ (n + 1) * bytes ≤ 140737488355328)
    (h : ∀ b cap cur, n + 1 ≤ cap → cap ≤ maxLen → cur.length = cap → cur.take (n + 1) = olds ++ [u] → Res P Q G W ((σ.new (.asn (RowA b false e cur))).put o.dst (.v (.slice (some ⟨b, 0, none⟩) (n + 1) cap))) k) : OpAt P Q G W σ o k := by
  intro new a w hs
  obtain ⟨ti, z, ht, hti, hz, hzs, hpos, rfl, rfl⟩ := appI_spec hI
  obtain ⟨hxe, _⟩ := ev_sound hs hx
  obtain ⟨B, cc, hye, hB, hr⟩ := hsrc new a w hs
  obtain ⟨bd, rfl⟩ : ∃ ad, B = some ad := by
    cases B with
    | none => exact absurd (hB rfl) (by omega)
    | some ad => exact ⟨ad, rfl⟩
  have hrd : ∀ j v, [u][j]? = some v → w.cell? (bd.add j) = some v := by
    rcases hr with h | ⟨ad', h, hr⟩
    · cases h
    · injection h with h; subst h; exact hr
  have hrun : ∃ b cap cur w', (Builtin.append_ #[t, t] o.type #[.slice A n n, .slice (some bd) 1 cc]).run P w = .ok (.slice (some ⟨b, 0, none⟩) (n + 1) cap) w' ∧ Grew w w' e ti.size (n + 1) (olds ++ [u]) b cap cur := by
    cases A with
    | some ad0 =>
      exact run_append_full t o.type e ti z ht hti hz hzs ad0 n olds (by rw [h1, Nat.mul_one]; exact hol) (fun j v => hold new w hs.hs ad0 rfl j v) bd 1 cc [u] (by rw [h1]; rfl) hrd (by omega) hfit.1 hfit.2
    | none =>
      obtain rfl := hA rfl
      have ho0 : olds = [] := List.eq_nil_of_length_eq_zero hol
      subst ho0
      obtain ⟨nl', g', cap', cur', w', hrun, hrow, hnl'⟩ := run_append_row (P := P) (w := w) t o.type e ti z ht hti hz hzs true 0 0 0 [] (fun h => by cases h) (by simp) (Nat.le_refl _) (by simp [maxLen]) (fun _ => rfl) (some bd) 1 cc [u] (by rw [h1]; rfl) (fun h => by cases h) hr (by simpa using hu) hpos (by simp [maxLen]) (by simpa using hfit.2)
      have hf : nl' = false := by
        cases hq : nl' with
        | false => rfl
        | true => have := hnl'.1 hq; omega
      subst hf
      obtain ⟨k1, k2⟩ := hrow.row rfl
      rcases k2 with ⟨_, k2⟩ | ⟨k2, k3⟩
      · cases k2
      refine ⟨g', cap', cur', w', by simpa [sA] using hrun, ⟨⟨hrow.os, hrow.tape, hrow.output, hrow.size, fun b hb => hrow.block b hb (fun h => by cases h)⟩, k2, k3, k1, by simpa using hrow.capk, hrow.capm, hrow.len, by have := hrow.take; simpa using this⟩⟩
  obtain ⟨b, cap, cur, w', hrun, hE, hge, hlt, hrow, f1, f2, f3, f4⟩ := hrun
  have hrun' : (execOp a.eval o).run P w = .ok (.value (.slice (some ⟨b, 0, none⟩) (n + 1) cap)) w' := by
    simp only [SV.den] at hxe
    simp [execOp, ho, resolve, hc, hca, hct, hxe, hye, invoke, builtin]
    rw [hrun]
    simp
  refine GoRun.opK (wp_value hrun' ?_)
  obtain ⟨own, hso⟩ := hs.hs
  have hs2 := hso.add (e := .asn (RowA b false e cur)) (p := 0) (O := fun x => x = b) trivial hE.os hE.tape hE.output hE.size hE.block (by rintro _ rfl; exact ⟨hge, hlt⟩) (fun _ => ⟨rfl, hrow⟩)
  have hq := (hs.new ⟨_, hs2⟩).put o.dst (.v (.slice (some ⟨b, 0, none⟩) (n + 1) cap)) trivial
  rw [h1] at f3 f4
  exact h b cap cur f1 f2 (by rw [f3, Nat.mul_one]) (by rw [Nat.mul_one] at f4; exact f4) _ _ w' hq
end

theorem Cs.cell {G : Nat → Prop} {w : World} {ad : Addr} {cs : List Value} (h : Cs G w (some ad) cs) {j : Nat} {u : Value} (hu : cs[j]? = some u) : w.cell? (ad.add j) = some u := by
  rcases h with h | ⟨⟨ad', h1, _, h3⟩, h2⟩
  · subst h; cases hu
  · obtain rfl : ad = ad' := Option.some.inj h1
    have hj := h3 j (List.getElem?_eq_some_iff.1 hu).1
    have hr := h2 j u hu
    rw [Nat.zero_add] at hj
    simp only [rd] at hr
    cases hc : w.cell? (ad.add j) with
    | none => rw [hc] at hj; cases hj
    | some q => rw [hc] at hr; simp at hr; rw [hr]

theorem m_clip {w : World} (A : Option Addr) (n c : Nat) (hnc : n ≤ c) (hz : n ≤ 1000000) :
    Calls Try.prog 36 #[.slice A n c] w fun e w' => e = .returned (.slice A n n) ∧ Ext w w' := by
  refine start0 (args := [.v (.slice A n c)]) (G := (· < w.heap.size)) Try.func36 rfl Try.ntmps36 (by simp [SV.lt]) (fun _ h => h) ?_
  refine Res.run 1000 ?_
  simp only [↓reduceIte, Nat.reduceEqDiff, Nat.reduceAdd, Nat.reduceSub, Nat.reduceMul, Nat.reduceLT, Int.reduceToNat, Int.reduceBEq, Int.reduceBNe, Int.reduceLT, Int.reduceLE, E, E', TY, Int.toNat_natCast]
  exact ⟨⟨by omega, by omega, by omega, by omega⟩, Ret.det [.v (.slice A n n)] rfl (by kernel_rfl) (fun _ => rfl)⟩

theorem m_give {w : World} {O : Nat → Prop} {m t : Nat} {st : List Vl} {fr' : List Frm} {f : Frm} (h : Mc w O m t st (fr' ++ [f])) (v : Int) (hv : 0 ≤ v) (hfz : fr'.length + 1 ≤ 1000000) (hgz : f.gv.length ≤ 1000000) :
    Calls Try.prog 22 #[.pointer (some ⟨m, 0, none⟩), .int .i64 v] w fun e w' => e = .returned (.int .i64 0) ∧ Mq w w' O m t st (fr' ++ [{ f with gv := f.gv ++ [v] }]) := by
  obtain ⟨p, hp, hS⟩ := h.hs
  have hF := hp.toF
  have hn2 := hp.nl2 (by simp)
  obtain ⟨hk', g, fo⟩ := hp.frame (k := fr'.length) (by simp)
  simp only [List.getElem_append_right (Nat.le_refl _), Nat.sub_self, List.getElem_cons_zero] at g
  have hlf : (fr' ++ [f]).length = fr'.length + 1 := by simp
  have hgf : (fr' ++ [f])[fr'.length]'(by simp) = f := by simp
  rw [hlf] at hS
  obtain ⟨gl, _, _, _, _, _, g5⟩ := g
  obtain ⟨x, hx⟩ : ∃ x, p.xs[fr'.length] = x := ⟨_, rfl⟩
  rw [hx] at g5
  have fo : FOk p.Or w f x := by
    have := fo
    simp only [hx] at this
    simpa using this
  refine Go.Eng.start (X := [m, p.b1, p.b2, 0]) (L := mL t _ _ p _) (args := [.p 0 0, .v (.int .i64 v)]) (G := Gm w O) Try.func22 rfl Try.ntmps22 (by simp [SV.lt, mL]) (hS _) ?_
  refine Res.run 1000 ?_
  simp only [↓reduceIte, Nat.reduceEqDiff, Nat.reduceAdd, Nat.reduceSub, Nat.reduceMul, Nat.reduceLT, Int.reduceToNat, Int.reduceBEq, Int.reduceBNe, Int.reduceLT, Int.reduceLE, E, E', TY, mL]
  refine ⟨fnok27, CallAt.detS (.v (.bool true)) trivial (fun new w' hs => m_there (hs.ent_get (i := 0) rfl).1 (h.tab.keepG hs.keep h.out)) (Res.run 900 ?_)⟩
  simp only [↓reduceIte, Nat.reduceEqDiff, Nat.reduceAdd, Nat.reduceSub, Nat.reduceMul, Nat.reduceLT, Int.reduceToNat, Int.reduceBEq, Int.reduceBNe, Int.reduceLT, Int.reduceLE, E, E', TY]
  refine ⟨fnok29, CallAt.detS (.p 2 (fr'.length * 6)) (by simp [SV.lt]) (fun new w' hs => inner_hs hn2 hfz hs rfl rfl) (Res.run 900 ?_)⟩
  have e1 : decide (v < 0) = false := by simp; omega
  simp only [↓reduceIte, Nat.reduceEqDiff, Nat.reduceAdd, Nat.reduceSub, Nat.reduceMul, Nat.reduceLT, Int.reduceToNat, Int.reduceBEq, Int.reduceBNe, Int.reduceLT, Int.reduceLE, E, E', TY, e1, hn2, g5]
  refine ⟨by omega, fnok36, CallAt.det #[.slice x.a3 f.gv.length x.c3] (.slice x.a3 f.gv.length f.gv.length) (fun _ => rfl) (fun w' hw => m_clip x.a3 f.gv.length x.c3 fo.gc hgz) (Res.run 900 ?_)⟩
  simp only [↓reduceIte, Nat.reduceEqDiff, Nat.reduceAdd, Nat.reduceSub, Nat.reduceMul, Nat.reduceLT, Int.reduceToNat, Int.reduceBEq, Int.reduceBNe, Int.reduceLT, Int.reduceLE, E, E', TY]
  refine Res.op (OpAt.appendI (x := .tmp 22) (y := .tmp 24) (t := 49) (e := 3) (size := 1) (bytes := 8) (icells f.gv) (.int .i64 v) rfl rfl rfl rfl ap49 rfl rfl (icells_length _) (fun h => by rw [fo.gn h]; rfl) (fun new w' hs ad had j u hu => ?_)
    (SrcOK.s (j := 4) (off := 0) (c := 1) (nl := false) rfl rfl (by simp) (by intro i u hu; rw [Nat.zero_add]; exact hu)) rfl ⟨by simp [maxLen]; omega, by omega⟩ fun b cap cur f1 f2 f3 f4 => Res.run 900 ?_)
  · obtain ⟨own, ho⟩ := hs
    have hg := (fo_of (ho.ok 3 _ rfl) (by simp) hgf hk' hx).g
    rw [had] at hg
    exact hg.cell hu
  simp only [↓reduceIte, Nat.reduceEqDiff, Nat.reduceAdd, Nat.reduceSub, Nat.reduceMul, Nat.reduceLT, Int.reduceToNat, Int.reduceBEq, Int.reduceBNe, Int.reduceLT, Int.reduceLE, E, E', TY]
  refine ⟨by omega, ?_⟩
  obtain ⟨xs, x', hxs, hxl⟩ := hF.concat
  obtain rfl : x' = x := by
    have : ∀ (l : List FA) (hl : fr'.length < l.length), l = xs ++ [x'] → l[fr'.length] = x' := by rintro l hl rfl; simp [hxl]
    rw [← hx, this _ hk' hxs]
  refine Ret.body [.v (.int .i64 0)] rfl (by kernel_rfl) fun new w' hs => ⟨by simp [resOf, SV.den], ?_⟩
  refine mach_pack (nl1 := p.nl1) (cap1 := p.cap1) (cur1 := p.cur1) (nl2 := false) (cap2 := p.cap2) (cur2 := putV p.cur2 (fr'.length * 6 + 5) [.slice (some ⟨b, 0, none⟩) (f.gv.length + 1) cap]) (xs := xs ++ [{ x' with a3 := some ⟨b, 0, none⟩, c3 := cap }]) 1 2 (fun q => q = 3 ∨ q = 5) hs rfl (by rw [List.length_append]; rfl) rfl rfl (by decide) (by rintro _ (rfl | rfl) <;> simp) hF.c1 hF.c2 hF.c3 hF.c4 hF.c5 (by have := hF.d1; simpa using this) hF.d2 (by show (p.cur2.set _ _).length = _; rw [List.length_set]; exact hF.d3) ?_ (by simp) ?_
  · refine frame_set (f := f) (x := x') 5 _ hxl rfl (by rw [← hxs, ← hlf]; exact hF.d4) ?_
    simp [fcell]
  · intro own ho
    have hr := FrA_mono (O' := fun b => ∃ r, (r = 3 ∨ r = 5) ∧ own r b) (q := 0) (ho.ok 3 _ rfl) fun b hb => ⟨3, .inl rfl, hb⟩
    rw [hxs] at hr
    obtain ⟨r1, r2⟩ := FrA_concat.1 hr
    have r5 : (RowA b false 3 cur).R (own 5) _ w' := ho.ok 5 _ rfl
    refine FrA_concat.2 ⟨r1, ⟨r2.p, r2.pn, r2.r, r2.rn, ?_, (fun h => by cases h), (by simpa using f1)⟩⟩
    have hF0 : FS0 1 (f.gv.length + 1) (icells (f.gv ++ [v])) false cap cur := ⟨f1, f2, by rw [f3, Nat.mul_one], by rw [Nat.mul_one, f4]; simp [icells], fun h => by cases h⟩
    exact (cs_rowA r5 hF0).mono fun b hb => ⟨5, .inr rfl, hb⟩
end Go.Proofs.Yteendcbmoagdfaa
