/-
  The machine's methods that only read: Dead, Top, Label.
-/
import Derived.Test.YteendcbmoagdfaaU
set_option linter.unusedVariables false
set_option linter.unusedSimpArgs false
set_option maxRecDepth 20000
set_option maxHeartbeats 4000000
namespace Go.Proofs.Yteendcbmoagdfaa
open Go Go.Eng

theorem Cs.at {G : Nat → Prop} {W : World} {A : Option Addr} {cs : List Value} (h : Cs G W A cs) {i n : Nat} (hn : 0 < n) (hi : i + n ≤ cs.length) : okRd G W (pAdd A i) 0 n ∧ ∀ j u, cs[i + j]? = some u → rd W (pAdd A i) j = u := by
  rcases h with h | ⟨⟨ad, rfl, hg, hc⟩, h2⟩
  · subst h; simp at hi; omega
  · refine ⟨⟨ad.add i, rfl, by rw [add_block]; exact hg, fun j hj => ?_⟩, fun j u hu => ?_⟩
    · have := hc (i + j) (by omega)
      rw [add_add, Nat.zero_add]
      rw [Nat.zero_add] at this
      exact this
    · rw [← h2 (i + j) u hu]
      simp only [rd, pAdd, Option.map_some, add_add]

theorem Cs.drop {G : Nat → Prop} {W : World} {A : Option Addr} {cs : List Value} (h : Cs G W A cs) (i : Nat) : Cs G W (pAdd A i) (cs.drop i) := by
  by_cases hi : i < cs.length
  · obtain ⟨h1, h2⟩ := h.at (i := i) (n := cs.length - i) (by omega) (by omega)
    right
    refine ⟨by simpa using h1, fun j u hu => h2 j u ?_⟩
    rw [List.getElem?_drop] at hu
    exact hu
  · left
    exact List.drop_eq_nil_of_le (by omega)
theorem flat_drop (l : List Vl) (k : Nat) : (flat l).drop (k * 4) = flat (l.drop k) := by
  by_cases hk : k ≤ l.length
  · have h1 : flat l = flat (l.take k) ++ flat (l.drop k) := by rw [← flat_append, List.take_append_drop]
    rw [h1, List.drop_append_of_le_length (by rw [flat_length, List.length_take]; omega), List.drop_eq_nil_of_le (by rw [flat_length, List.length_take]; omega)]
    rfl
  · rw [List.drop_eq_nil_of_le (by rw [flat_length]; omega), List.drop_eq_nil_of_le (by omega)]
    rfl
theorem Cs.ext {w w' : World} {A : Option Addr} {cs : List Value} (h : Cs (· < w.heap.size) w A cs) (hE : Ext w w') : Cs (· < w'.heap.size) w' A cs := (h.keep hE).mono fun _ hb => Nat.lt_of_lt_of_le hb hE.size

theorem cs_of_row {w : World} {nl : Bool} {b ty n cap size : Nat} {cur cs : List Value} (h : RowOK w nl b ty size n cap cur cs) : Cs (· < w.heap.size) w (sA nl b 0) cs := by
  cases nl with
  | true =>
    have := h.nil rfl
    have hn : n = 0 := by have := h.capk; omega
    left
    have := h.take
    rw [hn] at this
    simpa using this.symm
  | false =>
    right
    have hr := h.row rfl
    have hl : cs.length ≤ cur.length := by rw [← h.take, List.length_take]; omega
    refine ⟨okRd0 hr 0 cs.length (by omega), fun i u hu => ?_⟩
    rw [show sA false b 0 = some ⟨b, 0, none⟩ from rfl, rd0 hr i]
    have := row_get h.take hu
    rw [← this.1]
    simp [gV]

theorem MachOK.csS {t : Nat} {st : List Vl} {fr : List Frm} {O : Nat → Prop} {m : Nat} {w : World} {p : MachP} (h : MachOK t st fr O m w p) : Cs (· < w.heap.size) w (sA p.nl1 p.b1 0) (flat st) := cs_of_row h.s
theorem MachOK.csF {t : Nat} {st : List Vl} {fr : List Frm} {O : Nat → Prop} {m : Nat} {w : World} {p : MachP} (h : MachOK t st fr O m w p) : Cs (· < w.heap.size) w (sA p.nl2 p.b2 0) (fcells fr p.xs) := cs_of_row h.f

theorem okRd_sub {G : Nat → Prop} {W : World} {A : Option Addr} {n i m : Nat} (h : okRd G W A 0 n) (hi : i + m ≤ n) : okRd G W A i m := by
  obtain ⟨ad, hA, hg, hc⟩ := h
  refine ⟨ad, hA, hg, fun j hj => ?_⟩
  have := hc (i + j) (by omega)
  rwa [Nat.zero_add] at this

/-- What can be read of the k-th frame from without. -/
structure FrX (w : World) (A : Option Addr) (k : Nat) (f : Frm) (x : FA) : Prop where
  ok : okRd (· < w.heap.size) w (pAdd A (k * 6)) 0 6
  g0 : rd w (pAdd A (k * 6)) 0 = .int .i64 f.op
  g1 : rd w (pAdd A (k * 6)) 1 = .slice x.a1 f.ps.length x.c1
  g2 : rd w (pAdd A (k * 6)) 2 = .slice x.a2 f.rs.length x.c2
  g3 : rd w (pAdd A (k * 6)) 3 = .int .i64 f.ht
  g4 : rd w (pAdd A (k * 6)) 4 = .bool f.dead
  g5 : rd w (pAdd A (k * 6)) 5 = .slice x.a3 f.gv.length x.c3

theorem MachOK.frX {t : Nat} {st : List Vl} {fr : List Frm} {O : Nat → Prop} {m : Nat} {w : World} {p : MachP} (h : MachOK t st fr O m w p) {k : Nat} (hk : k < fr.length) : ∃ hk', FrX w (sA p.nl2 p.b2 0) k fr[k] (p.xs[k]'hk') ∧ FOk p.Or w fr[k] (p.xs[k]'hk') := by
  have hk' : k < p.xs.length := by rw [← h.r.1]; exact hk
  refine ⟨hk', ?_, h.r.2 k hk hk'⟩
  obtain ⟨o, r⟩ := h.csF.at (i := k * 6) (n := 6) (by omega) (by rw [fcells_length h.r.1]; omega)
  have g : ∀ j u, j < 6 → (fcell fr[k] p.xs[k])[j]? = some u → rd w (pAdd (sA p.nl2 p.b2 0) (k * 6)) j = u := fun j u hj hu => r j u (by rw [fcells_get k hk hk' j hj]; exact hu)
  exact ⟨o, g 0 _ (by omega) rfl, g 1 _ (by omega) rfl, g 2 _ (by omega) rfl, g 3 _ (by omega) rfl, g 4 _ (by omega) rfl, g 5 _ (by omega) rfl⟩

/-- What is known of a slice that was made, in whatever world. -/
structure FS0 (size n : Nat) (cs : List Value) (nl : Bool) (cap : Nat) (cur : List Value) : Prop where
  capk : n ≤ cap
  capm : cap ≤ maxLen
  len : cur.length = cap * size
  take : cur.take (n * size) = cs
  nil : nl = true → cap = 0

theorem FSl.fs0 {w w' : World} {ty size n : Nat} {cs : List Value} {nl : Bool} {b cap : Nat} {cur : List Value} (h : FSl w w' ty size n cs nl b cap cur) : FS0 size n cs nl cap cur := ⟨h.capk, h.capm, h.len, h.take, h.nil⟩

/-- A slice that was made, at a walk's end. -/
theorem fsl_of {w w' : World} {σ : St} {new : List Nat} {ty size n : Nat} {cs : List Value} {nl : Bool} {b cap : Nat} {cur : List Value} (h : FS0 size n cs nl cap cur) (hs : HS (· < w.heap.size) w σ new w') (i : Nat) (hi : σ.L[i]? = some (.asn (RowA b nl ty cur))) : FSl w w' ty size n cs nl b cap cur := by
  refine ⟨h.capk, h.capm, h.len, h.take, h.nil, fun hn => ?_⟩
  obtain ⟨own, ho⟩ := hs
  have hR : (RowA b nl ty cur).R (own i) _ w' := ho.ok i _ hi
  obtain ⟨h1, h2⟩ := hR hn
  obtain ⟨h3, h4⟩ := ho.out i b (List.getElem?_eq_some_iff.1 hi).1 h1
  exact ⟨by omega, h4, h2⟩

section
variable {Q : Pst} {G : Nat → Prop} {W : World}
/-- slices.Clone of a list that lies anywhere. -/
theorem CallAt.clone {σ : St} {dst : Option Tmp} {k : List It} {A : Option Addr} {c : Nat} {l : List Vl} (hcs : ∀ new w, HS G W σ new w → Cs (· < w.heap.size) w A (flat l)) (hA : A = none → l = []) (hn : l.length ≤ 1000000)
    (hk : ∀ nl b cap cur, FS0 4 l.length (flat l) nl cap cur → Res Try.prog Q G W ((σ.new (.asn (RowA b nl 41 cur))).put dst (.v (.slice (sA nl b 0) l.length cap))) k) :
    CallAt Try.prog Q G W σ 28 [.v (.slice A l.length c)] dst k := by
  refine CallAt.mkA (fun v A' => ∃ nl b cap cur, v = .slice (sA nl b 0) l.length cap ∧ A' = RowA b nl 41 cur ∧ FS0 4 l.length (flat l) nl cap cur) ?_ ?_
  · intro new w hs
    refine (st_clone A l.length c (flat l) (hcs new w hs) (flat_length l) (fun h => by rw [hA h]; rfl) (flat_one l) hn).mono ?_
    rintro e w' ⟨nl, b, cap, cur, rfl, hE, hF⟩
    exact ⟨_, _, fun x => nl = false ∧ x = b, rfl, ⟨nl, b, cap, cur, rfl, rfl, hF.fs0⟩, fun h => ⟨⟨h, rfl⟩, (hF.row h).2.2⟩, hE, by rintro _ ⟨h, rfl⟩; exact ⟨(hF.row h).1, (hF.row h).2.1⟩⟩
  · rintro _ _ ⟨nl, b, cap, cur, rfl, rfl, hF⟩
    exact hk nl b cap cur hF
end

theorem m_dead0 {w : World} {O : Nat → Prop} {m t : Nat} {st : List Vl} {pp : Option MachP} (h : Mc w O m t st [] pp) :
    Calls Try.prog 13 #[.pointer (some ⟨m, 0, none⟩)] w fun e w' => e = .returned (.bool false) ∧ Ext w w' := by
  obtain ⟨p, hp, _⟩ := h.R
  refine start0 (args := [.v (.pointer (some ⟨m, 0, none⟩))]) (G := (· < w.heap.size)) Try.func13 rfl Try.ntmps13 (by simp [SV.lt]) (fun _ h => h) ?_
  refine Res.run 1000 ?_
  simp only [↓reduceIte, Nat.reduceEqDiff, Nat.reduceAdd, Nat.reduceSub, Nat.reduceMul, Nat.reduceLT, Int.reduceToNat, Int.reduceBEq, Int.reduceBNe, Int.reduceLT, Int.reduceLE, E, E', TY]
  refine ⟨fnok27, CallAt.pure #[.pointer (some ⟨m, 0, none⟩)] (.bool true) (fun _ => rfl) (fun w' hw => m_there (keepH hw hp.hm) (h.tab.keep hw)) (Res.run 900 ?_)⟩
  simp only [↓reduceIte, Nat.reduceEqDiff, Nat.reduceAdd, Nat.reduceSub, Nat.reduceMul, Nat.reduceLT, Int.reduceToNat, Int.reduceBEq, Int.reduceBNe, Int.reduceLT, Int.reduceLE, E, E', TY]
  refine ⟨fnok29, CallAt.pure #[.pointer (some ⟨m, 0, none⟩)] (.pointer none) (fun _ => rfl) (fun w' hw => m_inner0 (keepH hw hp.hm)) (Res.run 900 ?_)⟩
  simp only [↓reduceIte, Nat.reduceEqDiff, Nat.reduceAdd, Nat.reduceSub, Nat.reduceMul, Nat.reduceLT, Int.reduceToNat, Int.reduceBEq, Int.reduceBNe, Int.reduceLT, Int.reduceLE, E, E', TY]
  exact Ret.one rfl (by kernel_rfl)

theorem m_dead {w : World} {O : Nat → Prop} {m t : Nat} {st : List Vl} {fr' : List Frm} {f : Frm} {pp : Option MachP} (h : Mc w O m t st (fr' ++ [f]) pp) (hfz : fr'.length ≤ 1000000) :
    Calls Try.prog 13 #[.pointer (some ⟨m, 0, none⟩)] w fun e w' => e = .returned (.bool f.dead) ∧ Ext w w' := by
  obtain ⟨p, hp, _⟩ := h.R
  have hn2 := hp.nl2 (by simp)
  have hm := hp.hm
  rw [List.length_append] at hm
  obtain ⟨_, g, _⟩ := hp.frX (k := fr'.length) (by simp)
  simp only [List.getElem_append_right (Nat.le_refl _), Nat.sub_self, List.getElem_cons_zero] at g
  rw [hn2] at g hm
  have hpa : pAdd (sA false p.b2 0) (fr'.length * 6) = some ⟨p.b2, fr'.length * 6, none⟩ := by simp [pAdd, sA, addr_add]
  have g4 := g.g4
  have go := g.ok
  rw [hpa] at g4 go
  have inn : ∀ w', Ext w w' → Calls Try.prog 29 #[.pointer (some ⟨m, 0, none⟩)] w' fun e w'' => e = .returned (.pointer (some ⟨p.b2, fr'.length * 6, none⟩)) ∧ Ext w' w'' := fun w' hw => by
    rw [← hpa]; exact m_inner (keepH hw hm) rfl hfz
  refine start0 (args := [.v (.pointer (some ⟨m, 0, none⟩))]) (G := (· < w.heap.size)) Try.func13 rfl Try.ntmps13 (by simp [SV.lt]) (fun _ h => h) ?_
  refine Res.run 1000 ?_
  simp only [↓reduceIte, Nat.reduceEqDiff, Nat.reduceAdd, Nat.reduceSub, Nat.reduceMul, Nat.reduceLT, Int.reduceToNat, Int.reduceBEq, Int.reduceBNe, Int.reduceLT, Int.reduceLE, E, E', TY]
  refine ⟨fnok27, CallAt.pure #[.pointer (some ⟨m, 0, none⟩)] (.bool true) (fun _ => rfl) (fun w' hw => m_there (keepH hw hp.hm) (h.tab.keep hw)) (Res.run 900 ?_)⟩
  simp only [↓reduceIte, Nat.reduceEqDiff, Nat.reduceAdd, Nat.reduceSub, Nat.reduceMul, Nat.reduceLT, Int.reduceToNat, Int.reduceBEq, Int.reduceBNe, Int.reduceLT, Int.reduceLE, E, E', TY]
  refine ⟨fnok29, CallAt.pure #[.pointer (some ⟨m, 0, none⟩)] (.pointer (some ⟨p.b2, fr'.length * 6, none⟩)) (fun _ => rfl) inn (Res.run 900 ?_)⟩
  simp only [↓reduceIte, Nat.reduceEqDiff, Nat.reduceAdd, Nat.reduceSub, Nat.reduceMul, Nat.reduceLT, Int.reduceToNat, Int.reduceBEq, Int.reduceBNe, Int.reduceLT, Int.reduceLE, E, E', TY]
  refine ⟨fnok29, CallAt.pure #[.pointer (some ⟨m, 0, none⟩)] (.pointer (some ⟨p.b2, fr'.length * 6, none⟩)) (fun _ => rfl) inn (Res.run 900 ?_)⟩
  simp only [↓reduceIte, Nat.reduceEqDiff, Nat.reduceAdd, Nat.reduceSub, Nat.reduceMul, Nat.reduceLT, Int.reduceToNat, Int.reduceBEq, Int.reduceBNe, Int.reduceLT, Int.reduceLE, E, E', TY, g4]
  refine ⟨okRd_sub go (by omega), ?_⟩
  exact Ret.one rfl (by kernel_rfl)

/-- The uppermost n values. -/
def upF (st : List Vl) (n : Int) : List Vl := st.drop (st.length - min n.toNat st.length)

theorem m_top {w : World} {O : Nat → Prop} {m t : Nat} {st : List Vl} {fr : List Frm} {pp : Option MachP} (h : Mc w O m t st fr pp) (n : Int) (hsz : st.length ≤ 1000000) :
    Calls Try.prog 16 #[.pointer (some ⟨m, 0, none⟩), .int .i64 n] w fun e w' => ∃ nl b cap cur, e = .returned (.slice (sA nl b 0) (upF st n).length cap) ∧ Ext w w' ∧ FSl w w' 41 4 (upF st n).length (flat (upF st n)) nl b cap cur := by
  obtain ⟨p, hp, _⟩ := h.R
  have h1 := rd0 (l := [_, _, _]) hp.hm 1
  have o1 := okRd0 (l := [_, _, _]) hp.hm 1 1 (by simp)
  simp only [List.getElem?_cons_succ, List.getElem?_cons_zero, Option.getD_some] at h1
  refine start0 (args := [.v (.pointer (some ⟨m, 0, none⟩)), .v (.int .i64 n)]) (G := (· < w.heap.size)) Try.func16 rfl Try.ntmps16 (by simp [SV.lt]) (fun _ h => h) ?_
  refine Res.run 1000 ?_
  simp only [↓reduceIte, Nat.reduceEqDiff, Nat.reduceAdd, Nat.reduceSub, Nat.reduceMul, Nat.reduceLT, Int.reduceToNat, Int.reduceBEq, Int.reduceBNe, Int.reduceLT, Int.reduceLE, E, E', TY]
  refine ⟨fnok27, CallAt.pure #[.pointer (some ⟨m, 0, none⟩)] (.bool true) (fun _ => rfl) (fun w' hw => m_there (keepH hw hp.hm) (h.tab.keep hw)) (Res.run 900 ?_)⟩
  simp only [↓reduceIte, Nat.reduceEqDiff, Nat.reduceAdd, Nat.reduceSub, Nat.reduceMul, Nat.reduceLT, Int.reduceToNat, Int.reduceBEq, Int.reduceBNe, Int.reduceLT, Int.reduceLE, E, E', TY]
  refine Res.draw 20 [] (.take 0 (.take 1 (.take 2 (.take 3 (.take 4 (.take 5 (.take 6 (.take 7 (.take 8 (.take 9 (.take 10 (.take 11 (.take 12 (.take 13 (.take 14 (.take 15 (.take 16 (.take 17 (.take 18 (.run 19 .fin .fin)))))))))))))))))))) (by kernel_rfl) (by kernel_rfl) fun new hnew => ?_
  obtain rfl : new = [] := List.eq_nil_of_length_eq_zero (by simpa using hnew)
  refine Res.run 900 ?_
  obtain ⟨k, hk⟩ : ∃ k, min n.toNat st.length = k := ⟨_, rfl⟩
  have hk1 : k ≤ st.length := by omega
  have e1 : minI (maxI 0 n) (st.length : Int) = (k : Int) := by unfold minI maxI; split <;> split <;> omega
  have e2 : (st.length : Int) - (k : Int) = ((st.length - k : Nat) : Int) := by omega
  have hup : upF st n = st.drop (st.length - k) := by rw [upF, hk]
  have hlu : (upF st n).length = st.length - (st.length - k) := by rw [hup]; simp
  simp only [↓reduceIte, Nat.reduceEqDiff, Nat.reduceAdd, Nat.reduceSub, Nat.reduceMul, Nat.reduceLT, Int.reduceToNat, Int.reduceBEq, Int.reduceBNe, Int.reduceLT, Int.reduceLE, E, E', TY, h1, e1, e2, Int.toNat_natCast]
  refine ⟨o1, o1, o1, i64ok_of (by omega) (by omega), ⟨by omega, by omega⟩, fnok28, ?_⟩
  have hcs : Cs (· < w.heap.size) w (if p.cap1 = st.length - k then sA p.nl1 p.b1 0 else pAdd (sA p.nl1 p.b1 0) ((st.length - k) * 4)) (flat (upF st n)) := by
    rw [hup]
    split
    · rename_i hc
      have := hp.s.capk
      left
      have : k = 0 ∨ st.length = 0 := by omega
      rcases this with rfl | h0
      · rw [Nat.sub_zero, List.drop_length]; rfl
      · rw [List.length_eq_zero_iff.1 h0]; simp [flat]
    · rw [← flat_drop]
      exact hp.csS.drop _
  have hnn : (if p.cap1 = st.length - k then sA p.nl1 p.b1 0 else pAdd (sA p.nl1 p.b1 0) ((st.length - k) * 4)) = none → upF st n = [] := by
    intro h0
    have hnl : p.nl1 = true := by
      cases hn : p.nl1 with
      | true => rfl
      | false => rw [hn] at h0; split at h0 <;> simp [sA, pAdd] at h0
    have := hp.s.nil hnl
    have := hp.s.capk
    rw [hup, List.length_eq_zero_iff.1 (by omega : st.length = 0)]
    simp
  rw [← hlu]
  refine CallAt.clone (fun new w' hs => hcs.ext hs.keep) hnn (by omega) fun nl b cap cur hF => Res.run 900 ?_
  simp only [↓reduceIte, Nat.reduceEqDiff, Nat.reduceAdd, Nat.reduceSub, Nat.reduceMul, Nat.reduceLT, Int.reduceToNat, Int.reduceBEq, Int.reduceBNe, Int.reduceLT, Int.reduceLE, E, E', TY]
  refine Ret.body [.v (.slice (sA nl b 0) (upF st n).length cap)] rfl (by kernel_rfl) fun new w' hs => ⟨nl, b, cap, cur, rfl, hs.ext, fsl_of hF hs 0 rfl⟩

theorem m_label0 {w : World} {O : Nat → Prop} {m t : Nat} {st : List Vl} {fr : List Frm} {pp : Option MachP} (h : Mc w O m t st fr pp) (n : Int) (hn : n < 0 ∨ (fr.length : Int) ≤ n) :
    Calls Try.prog 23 #[.pointer (some ⟨m, 0, none⟩), .int .i64 n] w fun e w' => e = .returned (.tuple #[.slice none 0 0, .int .i64 142]) ∧ Ext w w' := by
  obtain ⟨p, hp, _⟩ := h.R
  have h1 := rd0 (l := [_, _, _]) hp.hm 2
  have o1 := okRd0 (l := [_, _, _]) hp.hm 2 1 (by simp)
  simp only [List.getElem?_cons_succ, List.getElem?_cons_zero, Option.getD_some] at h1
  refine start0 (args := [.v (.pointer (some ⟨m, 0, none⟩)), .v (.int .i64 n)]) (G := (· < w.heap.size)) Try.func23 rfl Try.ntmps23 (by simp [SV.lt]) (fun _ h => h) ?_
  refine Res.run 1000 ?_
  simp only [↓reduceIte, Nat.reduceEqDiff, Nat.reduceAdd, Nat.reduceSub, Nat.reduceMul, Nat.reduceLT, Int.reduceToNat, Int.reduceBEq, Int.reduceBNe, Int.reduceLT, Int.reduceLE, E, E', TY]
  refine ⟨fnok27, CallAt.pure #[.pointer (some ⟨m, 0, none⟩)] (.bool true) (fun _ => rfl) (fun w' hw => m_there (keepH hw hp.hm) (h.tab.keep hw)) (Res.run 900 ?_)⟩
  by_cases h0 : n < 0
  · have e0 : decide (n < 0) = true := by simp [h0]
    simp only [↓reduceIte, Nat.reduceEqDiff, Nat.reduceAdd, Nat.reduceSub, Nat.reduceMul, Nat.reduceLT, Int.reduceToNat, Int.reduceBEq, Int.reduceBNe, Int.reduceLT, Int.reduceLE, E, E', TY, e0]
    exact Ret.det [.v (.slice none 0 0), .v (.int .i64 142)] rfl (by kernel_rfl) (fun _ => rfl)
  · have e0 : decide (n < 0) = false := by simp [h0]
    have e1 : decide (n ≥ (fr.length : Int)) = true := by simp; omega
    simp only [↓reduceIte, Nat.reduceEqDiff, Nat.reduceAdd, Nat.reduceSub, Nat.reduceMul, Nat.reduceLT, Int.reduceToNat, Int.reduceBEq, Int.reduceBNe, Int.reduceLT, Int.reduceLE, E, E', TY, e0, h1, e1]
    exact ⟨o1, Ret.det [.v (.slice none 0 0), .v (.int .i64 142)] rfl (by kernel_rfl) (fun _ => rfl)⟩

/-- The types of a frame's label. -/
def Frm.lab (f : Frm) : List Vl := if f.op = 3 then f.ps else f.rs

theorem m_label {w : World} {O : Nat → Prop} {m t : Nat} {st : List Vl} {fr : List Frm} {pp : Option MachP} (h : Mc w O m t st fr pp) (n k : Nat) (hn : n + k + 1 = fr.length) (hfz : fr.length ≤ 1000000) (hpz : (fr[k]'(by omega)).ps.length ≤ 1000000) (hrz : (fr[k]'(by omega)).rs.length ≤ 1000000) :
    Calls Try.prog 23 #[.pointer (some ⟨m, 0, none⟩), .int .i64 n] w fun e w' => ∃ nl b cap cur, e = .returned (.tuple #[.slice (sA nl b 0) (fr[k]'(by omega)).lab.length cap, .int .i64 0]) ∧ Ext w w' ∧ FSl w w' 41 4 (fr[k]'(by omega)).lab.length (flat (fr[k]'(by omega)).lab) nl b cap cur := by
  obtain ⟨p, hp, _⟩ := h.R
  have h1 := rd0 (l := [_, _, _]) hp.hm 2
  have o1 := okRd0 (l := [_, _, _]) hp.hm 2 1 (by simp)
  simp only [List.getElem?_cons_succ, List.getElem?_cons_zero, Option.getD_some] at h1
  obtain ⟨hk', g, fo⟩ := hp.frX (k := k) (by omega)
  obtain ⟨f, hf⟩ : ∃ f, fr[k]'(by omega) = f := ⟨_, rfl⟩
  rw [hf] at g fo hpz hrz
  simp only [hf]
  obtain ⟨go, g0, g1, g2, g3, g4, g5⟩ := g
  obtain ⟨x, hx⟩ : ∃ x, p.xs[k] = x := ⟨_, rfl⟩
  rw [hx] at g1 g2 g5 fo
  have hnl : (sA p.nl2 p.b2 0).isSome = true := by rw [hp.nl2 (by omega)]; rfl
  have hlt : ∀ b, p.Or b → b < w.heap.size := fun b hb => h.lt b (hp.own 3 b (.inr (.inr (.inr ⟨rfl, hb⟩))))
  refine start0 (args := [.v (.pointer (some ⟨m, 0, none⟩)), .v (.int .i64 n)]) (G := (· < w.heap.size)) Try.func23 rfl Try.ntmps23 (by simp [SV.lt]) (fun _ h => h) ?_
  refine Res.run 1000 ?_
  simp only [↓reduceIte, Nat.reduceEqDiff, Nat.reduceAdd, Nat.reduceSub, Nat.reduceMul, Nat.reduceLT, Int.reduceToNat, Int.reduceBEq, Int.reduceBNe, Int.reduceLT, Int.reduceLE, E, E', TY]
  refine ⟨fnok27, CallAt.pure #[.pointer (some ⟨m, 0, none⟩)] (.bool true) (fun _ => rfl) (fun w' hw => m_there (keepH hw hp.hm) (h.tab.keep hw)) (Res.run 900 ?_)⟩
  have e0 : decide ((n : Int) < 0) = false := by simp
  have e1 : decide ((n : Int) ≥ (fr.length : Int)) = false := by simp; omega
  simp only [↓reduceIte, Nat.reduceEqDiff, Nat.reduceAdd, Nat.reduceSub, Nat.reduceMul, Nat.reduceLT, Int.reduceToNat, Int.reduceBEq, Int.reduceBNe, Int.reduceLT, Int.reduceLE, E, E', TY, e0, h1, e1]
  refine ⟨o1, ?_⟩
  refine Res.draw 15 [] (.take 0 (.take 1 (.take 2 (.take 3 (.take 4 (.take 5 (.take 6 (.take 7 (.take 8 (.take 9 (.take 10 (.take 11 (.take 12 (.take 13 (.run 14 .fin .fin))))))))))))))) (by kernel_rfl) (by kernel_rfl) fun new hnew => ?_
  obtain rfl : new = [] := List.eq_nil_of_length_eq_zero (by simpa using hnew)
  refine Res.run 900 ?_
  have e2 : (fr.length : Int) - 1 - (n : Int) = (k : Int) := by omega
  by_cases hop : f.op = 3
  · have e3 : (f.op == 3) = true := by simp [hop]
    have hlab : f.lab = f.ps := by simp [Frm.lab, hop]
    rw [hlab]
    simp only [↓reduceIte, Nat.reduceEqDiff, Nat.reduceAdd, Nat.reduceSub, Nat.reduceMul, Nat.reduceLT, Int.reduceToNat, Int.reduceBEq, Int.reduceBNe, Int.reduceLT, Int.reduceLE, E, E', TY, h1, e2, e3, Int.toNat_natCast, g0, g1, g2, g3, g4, g5]
    refine ⟨o1, o1, i64ok_of (by omega) (by omega), i64ok_of (by omega) (by omega), ⟨by omega, by omega, hnl⟩, go, fnok28, ?_⟩
    refine CallAt.clone (fun new w' hs => (fo.p.mono hlt).ext hs.keep) fo.pn hpz fun nl b cap cur hF => Res.run 900 ?_
    simp only [↓reduceIte, Nat.reduceEqDiff, Nat.reduceAdd, Nat.reduceSub, Nat.reduceMul, Nat.reduceLT, Int.reduceToNat, Int.reduceBEq, Int.reduceBNe, Int.reduceLT, Int.reduceLE, E, E', TY]
    exact Ret.body [.v (.slice (sA nl b 0) f.ps.length cap), .v (.int .i64 0)] rfl (by kernel_rfl) fun new w' hs => ⟨nl, b, cap, cur, rfl, hs.ext, fsl_of hF hs 1 rfl⟩
  · have e3 : (f.op == 3) = false := by simp [hop]
    have hlab : f.lab = f.rs := by simp [Frm.lab, hop]
    rw [hlab]
    simp only [↓reduceIte, Nat.reduceEqDiff, Nat.reduceAdd, Nat.reduceSub, Nat.reduceMul, Nat.reduceLT, Int.reduceToNat, Int.reduceBEq, Int.reduceBNe, Int.reduceLT, Int.reduceLE, E, E', TY, h1, e2, e3, Int.toNat_natCast, g0, g1, g2, g3, g4, g5]
    refine ⟨o1, o1, i64ok_of (by omega) (by omega), i64ok_of (by omega) (by omega), ⟨by omega, by omega, hnl⟩, go, fnok28, ?_⟩
    refine CallAt.clone (fun new w' hs => (fo.r.mono hlt).ext hs.keep) fo.rn hrz fun nl b cap cur hF => Res.run 900 ?_
    simp only [↓reduceIte, Nat.reduceEqDiff, Nat.reduceAdd, Nat.reduceSub, Nat.reduceMul, Nat.reduceLT, Int.reduceToNat, Int.reduceBEq, Int.reduceBNe, Int.reduceLT, Int.reduceLE, E, E', TY]
    exact Ret.body [.v (.slice (sA nl b 0) f.rs.length cap), .v (.int .i64 0)] rfl (by kernel_rfl) fun new w' hs => ⟨nl, b, cap, cur, rfl, hs.ext, fsl_of hF hs 1 rfl⟩
end Go.Proofs.Yteendcbmoagdfaa
