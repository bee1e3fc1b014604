/-
  The machine's methods as steps of a longer walk; a new machine over a new table.
-/
import Derived.Test.YteendcbmoagdfaaX
set_option linter.unusedVariables false
set_option linter.unusedSimpArgs false
set_option maxRecDepth 20000
set_option maxHeartbeats 4000000
namespace Go.Proofs.Yteendcbmoagdfaa
open Go Go.Eng

/-- A table without types, as a thing of ours. -/
def TabA : Asn where
  R O t w := O t ∧ ETab w t
  loc := by
    rintro O t w w' ⟨h1, r, h2⟩ hw
    exact ⟨h1, r, by rw [hw _ h1]; exact h2⟩

theorem m_rnew {w : World} : Calls Try.prog 9 #[] w fun e w' => ∃ t, e = .returned (.pointer (some ⟨t, 0, none⟩)) ∧ ETab w' t ∧ Ext w w' ∧ w.heap.size ≤ t ∧ t < w'.heap.size := by
  refine start0 (args := []) (G := (· < w.heap.size)) Try.func9 rfl Try.ntmps9 (by simp [SV.lt]) (fun _ h => h) ?_
  refine Res.run 1000 ?_
  simp only [↓reduceIte, Nat.reduceEqDiff, Nat.reduceAdd, Nat.reduceSub, Nat.reduceMul, Nat.reduceLT, Int.reduceToNat, Int.reduceBEq, Int.reduceBNe, Int.reduceLT, Int.reduceLE, E, E', TY]
  refine Res.makeMap fun r => Res.run 900 ?_
  simp only [↓reduceIte, Nat.reduceEqDiff, Nat.reduceAdd, Nat.reduceSub, Nat.reduceMul, Nat.reduceLT, Int.reduceToNat, Int.reduceBEq, Int.reduceBNe, Int.reduceLT, Int.reduceLE, E, E', TY]
  refine Ret.body [.p 0 0] rfl (by kernel_rfl) fun new w' hs => ?_
  obtain ⟨own, ho⟩ := hs
  obtain ⟨k1, k2⟩ := ho.ok 0 _ rfl
  obtain ⟨k3, k4⟩ := ho.out 0 _ (by simp) k1
  exact ⟨_, rfl, ⟨r, k2⟩, ho.keep, by omega, k4⟩

/-- The parts of a machine that is new. -/
def mp0 : MachP := ⟨true, 0, 0, [], true, 0, 0, [], [], fun _ => False⟩
theorem m_new {w : World} (t : Nat) : Calls Try.prog 8 #[.pointer (some ⟨t, 0, none⟩)] w fun e w' => ∃ m, e = .returned (.pointer (some ⟨m, 0, none⟩)) ∧ (MachA t [] []).R (fun b => b = m) m w' ∧ Ext w w' ∧ w.heap.size ≤ m ∧ m < w'.heap.size := by
  refine start0 (args := [.v (.pointer (some ⟨t, 0, none⟩))]) (G := (· < w.heap.size)) Try.func8 rfl Try.ntmps8 (by simp [SV.lt]) (fun _ h => h) ?_
  refine Res.run 1000 ?_
  simp only [↓reduceIte, Nat.reduceEqDiff, Nat.reduceAdd, Nat.reduceSub, Nat.reduceMul, Nat.reduceLT, Int.reduceToNat, Int.reduceBEq, Int.reduceBNe, Int.reduceLT, Int.reduceLE, E, E', TY]
  refine Ret.body [.p 0 0] rfl (by kernel_rfl) fun new w' hs => ?_
  obtain ⟨own, ho⟩ := hs
  obtain ⟨k1, k2⟩ := ho.ok 0 _ rfl
  obtain ⟨k3, k4⟩ := ho.out 0 _ (by simp) k1
  refine ⟨_, rfl, ⟨mp0, ⟨k2, ⟨by simp, by simp [mp0, maxLen], by simp [mp0], by simp [mp0, flat], fun _ => rfl, fun h => by cases h⟩, ⟨by simp, by simp [mp0, maxLen], by simp [mp0], by simp [mp0, fcells], fun _ => rfl, fun h => by cases h⟩, ⟨rfl, fun i h => by simp at h⟩, ?_, ?_⟩, fun _ h => by cases h⟩, ho.keep, by omega, k4⟩
  · rintro i j b hij (⟨rfl, rfl⟩ | ⟨rfl, h, _⟩ | ⟨rfl, h, _⟩ | ⟨rfl, h⟩) (⟨rfl, h2⟩ | ⟨rfl, h2, _⟩ | ⟨rfl, h2, _⟩ | ⟨rfl, h2⟩)
    all_goals first | exact hij rfl | cases h | cases h2
  · rintro i b (⟨rfl, rfl⟩ | ⟨rfl, h, _⟩ | ⟨rfl, h, _⟩ | ⟨rfl, h⟩)
    · rfl
    all_goals cases h

section
variable {Q : Pst} {G : Nat → Prop} {W : World}

/-- Where the machine (i) and its table (j) are. -/
structure MT (σ : St) (i j t : Nat) (st : List Vl) (fr : List Frm) : Prop where
  m : getE σ.L i = some (.asn (MachA t st fr))
  tab : getE σ.L j = some (.asn TabA)
  x : σ.X[j]? = some t
  ne : i ≠ j

theorem MT.mc {σ : St} {i j t : Nat} {st : List Vl} {fr : List Frm} (h : MT σ i j t st fr) {new : List Nat} {w : World} {own : Nat → Nat → Prop} (ho : HSo G W σ new w own) : Mc w (own i) ((σ.X ++ new).getD i 0) t st fr := by
  have hm := h.m
  have ht := h.tab
  rw [getE_eq] at hm ht
  have hX : (σ.X ++ new).getD j 0 = t := by
    have := h.x
    have hl := (List.getElem?_eq_some_iff.1 this).1
    rw [List.getD_eq_getElem?_getD, List.getElem?_append_left hl, this]; rfl
  have hT : TabA.R (own j) ((σ.X ++ new).getD j 0) w := ho.ok j _ ht
  rw [hX] at hT
  have il := (List.getElem?_eq_some_iff.1 hm).1
  have jl := (List.getElem?_eq_some_iff.1 ht).1
  exact ⟨ho.ok i _ hm, fun b hb => (ho.out i b il hb).2, hT.2, fun hb => ho.apart i j t il jl h.ne hb hT.1⟩

/-- A list that lies apart from the entry i. -/
def SrcV (G : Nat → Prop) (W : World) (σ : St) (i : Nat) (s : SV) (l : List Vl) : Prop :=
  ∀ new w own, HSo G W σ new w own → ∃ A c, s.den (σ.X ++ new) = .slice A l.length c ∧ Cs (Gm w (own i)) w A (flat l) ∧ (A = none → l = [])

theorem SrcV.ext {σ : St} {i : Nat} {A : Option Addr} {c : Nat} {l : List Vl} (hi : i < σ.L.length) (h : Cs G W A (flat l)) (hA : A = none → l = []) : SrcV G W σ i (.v (.slice A l.length c)) l := by
  intro new w own ho
  refine ⟨A, c, rfl, (h.keep ho.keep).mono fun b hb => ⟨?_, fun hi' => (ho.out i b hi hi').1 hb⟩, hA⟩
  have := ho.inW b hb; have := ho.keep.size; omega
theorem SrcV.nil {σ : St} {i : Nat} : SrcV G W σ i (.v (.slice none 0 0)) [] := fun new w own ho => ⟨none, 0, rfl, .inl rfl, fun _ => rfl⟩
theorem SrcV.cells {σ : St} {i j : Nat} {cs : List SV} {c : Nat} {l : List Vl} (hi : i < σ.L.length) (hj : getE σ.L j = some (.cells 41 cs)) (hij : j ≠ i) (hcs : cs = (flat l).map SV.v) : SrcV G W σ i (.s j false 0 l.length c) l := by
  intro new w own ho
  rw [getE_eq] at hj
  have jl := (List.getElem?_eq_some_iff.1 hj).1
  obtain ⟨k1, k2⟩ := ho.ok j _ hj
  refine ⟨_, c, rfl, ?_, fun h => by cases h⟩
  have hden : cs.map (SV.den (σ.X ++ new)) = flat l := by rw [hcs, List.map_map]; simp [Function.comp_def, SV.den]
  rw [hden] at k2
  right
  refine ⟨?_, fun i u hu => ?_⟩
  · obtain ⟨ad, h1, _, h3⟩ := okRd0 k2 0 (flat l).length (by omega)
    have h1' : (⟨(σ.X ++ new).getD j 0, 0, none⟩ : Addr) = ad := Option.some.inj h1
    subst h1'
    exact ⟨_, rfl, ⟨(ho.out j _ jl k1).2, fun hb => ho.apart j i _ jl hi hij k1 hb⟩, h3⟩
  · rw [show sA false ((σ.X ++ new).getD j 0) 0 = some ⟨(σ.X ++ new).getD j 0, 0, none⟩ from rfl, rd0 k2 i, hu]
    rfl
theorem SrcV.row {σ : St} {i j b : Nat} {nl : Bool} {cap : Nat} {cur : List Value} {l : List Vl} (hi : i < σ.L.length) (hj : getE σ.L j = some (.asn (RowA b nl 41 cur))) (hij : j ≠ i) (hF : FS0 4 l.length (flat l) nl cap cur) : SrcV G W σ i (.v (.slice (sA nl b 0) l.length cap)) l := by
  intro new w own ho
  rw [getE_eq] at hj
  have jl := (List.getElem?_eq_some_iff.1 hj).1
  have hR : (RowA b nl 41 cur).R (own j) _ w := ho.ok j _ hj
  exact ⟨_, cap, rfl, (cs_rowA hR hF).mono fun b hb => ⟨(ho.out j b jl hb).2, fun hb' => ho.apart j i b jl hi hij hb hb'⟩, fun h => fs0_nil hF h⟩

theorem CallAt.push {σ : St} {dst : Option Tmp} {k : List It} {i j t : Nat} {st : List Vl} {fr : List Frm} {s : SV} (l : List Vl) (h : MT σ i j t st fr) (hs : SrcV G W σ i s l) (hsz : st.length + l.length ≤ 1000000)
    (hk : Res Try.prog Q G W ((σ.ent i (.asn (MachA t (st ++ l) fr))).put dst (.v (.int .i64 0))) k) : CallAt Try.prog Q G W σ 10 [.p i 0, s] dst k := by
  refine CallAt.asnO i (MachA t st fr) h.m (fun v A' => v = .int .i64 0 ∧ A' = MachA t (st ++ l) fr) ?_ (by rintro _ _ ⟨rfl, rfl⟩; exact hk)
  intro new w own ho
  obtain ⟨A, c, he, hc, hA⟩ := hs new w own ho
  simp only [List.map_cons, List.map_nil, he]
  refine (m_push (h.mc ho) A c l hc hA hsz).mono ?_
  rintro e w' ⟨rfl, O', hR, hC⟩
  exact ⟨_, _, O', rfl, ⟨rfl, rfl⟩, hR, hC⟩

theorem CallAt.pop {σ : St} {dst : Option Tmp} {k : List It} {i j t : Nat} {st : List Vl} {fr : List Frm} (h : MT σ i j t st fr) (hsz : st.length ≤ 1000000) (hfz : fr.length ≤ 1000000)
    (hk : Res Try.prog Q G W ((σ.ent i (.asn (MachA t (popF st fr).2.2 fr))).put dst (.v (.tuple #[(popF st fr).1.v, .int .i64 (popF st fr).2.1]))) k) : CallAt Try.prog Q G W σ 18 [.p i 0] dst k := by
  refine CallAt.asnO i (MachA t st fr) h.m (fun v A' => v = .tuple #[(popF st fr).1.v, .int .i64 (popF st fr).2.1] ∧ A' = MachA t (popF st fr).2.2 fr) ?_ (by rintro _ _ ⟨rfl, rfl⟩; exact hk)
  intro new w own ho
  refine (m_pop (h.mc ho) hsz hfz).mono ?_
  rintro e w' ⟨rfl, O', hR, hC⟩
  exact ⟨_, _, O', rfl, ⟨rfl, rfl⟩, hR, hC⟩

theorem CallAt.take {σ : St} {dst : Option Tmp} {k : List It} {i j t : Nat} {st : List Vl} {fr : List Frm} {s : SV} (l : List Vl) (h : MT σ i j t st fr) (hs : SrcV G W σ i s l) (hsz : st.length ≤ 1000000) (hfz : fr.length ≤ 1000000) (hlz : l.length ≤ 1000000)
    (hk : Res Try.prog Q G W ((σ.ent i (.asn (MachA t (takesF st fr l).2 fr))).put dst (.v (.int .i64 (takesF st fr l).1))) k) : CallAt Try.prog Q G W σ 17 [.p i 0, s] dst k := by
  refine CallAt.asnO i (MachA t st fr) h.m (fun v A' => v = .int .i64 (takesF st fr l).1 ∧ A' = MachA t (takesF st fr l).2 fr) ?_ (by rintro _ _ ⟨rfl, rfl⟩; exact hk)
  intro new w own ho
  obtain ⟨A, c, he, hc, hA⟩ := hs new w own ho
  simp only [List.map_cons, List.map_nil, he]
  refine (m_Take (h.mc ho) A c l hc hsz hfz hlz).mono ?_
  rintro e w' ⟨rfl, O', hR, hC⟩
  exact ⟨_, _, O', rfl, ⟨rfl, rfl⟩, hR, hC⟩

theorem CallAt.open {σ : St} {dst : Option Tmp} {k : List It} {i j t : Nat} {st : List Vl} {fr : List Frm} {s1 s2 : SV} {op : Int} (ps rs : List Vl) (h : MT σ i j t st fr) (h1 : SrcV G W σ i s1 ps) (h2 : SrcV G W σ i s2 rs) (hsz : st.length ≤ 500000) (hfz : fr.length ≤ 500000) (z1 : ps.length ≤ 500000) (z2 : rs.length ≤ 500000)
    (hk : Res Try.prog Q G W ((σ.ent i (.asn (MachA t (openF st fr op ps rs).2.1 (openF st fr op ps rs).2.2))).put dst (.v (.int .i64 (openF st fr op ps rs).1))) k) : CallAt Try.prog Q G W σ 11 [.p i 0, .v (.int .i64 op), s1, s2] dst k := by
  refine CallAt.asnO i (MachA t st fr) h.m (fun v A' => v = .int .i64 (openF st fr op ps rs).1 ∧ A' = MachA t (openF st fr op ps rs).2.1 (openF st fr op ps rs).2.2) ?_ (by rintro _ _ ⟨rfl, rfl⟩; exact hk)
  intro new w own ho
  obtain ⟨A1, c1, he1, hc1, hA1⟩ := h1 new w own ho
  obtain ⟨A2, c2, he2, hc2, hA2⟩ := h2 new w own ho
  simp only [List.map_cons, List.map_nil, he1, he2]
  refine (m_Open (h.mc ho) op A1 c1 ps hc1 hA1 A2 c2 rs hc2 hA2 hsz hfz z1 z2).mono ?_
  rintro e w' ⟨rfl, O', hR, hC⟩
  exact ⟨_, _, O', rfl, ⟨rfl, rfl⟩, hR, hC⟩

theorem CallAt.die0 {σ : St} {dst : Option Tmp} {k : List It} {i j t : Nat} {st : List Vl} (h : MT σ i j t st [])
    (hk : Res Try.prog Q G W ((σ.ent i (.asn (MachA t st []))).put dst (.v (.int .i64 142))) k) : CallAt Try.prog Q G W σ 12 [.p i 0] dst k := by
  refine CallAt.asnO i (MachA t st []) h.m (fun v A' => v = .int .i64 142 ∧ A' = MachA t st []) ?_ (by rintro _ _ ⟨rfl, rfl⟩; exact hk)
  intro new w own ho
  refine (m_die0 (h.mc ho)).mono ?_
  rintro e w' ⟨rfl, O', hR, hC⟩
  exact ⟨_, _, O', rfl, ⟨rfl, rfl⟩, hR, hC⟩
theorem CallAt.die {σ : St} {dst : Option Tmp} {k : List It} {i j t : Nat} {st : List Vl} {fr : List Frm} {f : Frm} (h : MT σ i j t st (fr ++ [f])) (hht : 0 ≤ f.ht) (hfz : fr.length + 1 ≤ 1000000)
    (hk : Res Try.prog Q G W ((σ.ent i (.asn (MachA t (st.take f.ht.toNat) (fr ++ [{ f with dead := true }])))).put dst (.v (.int .i64 0))) k) : CallAt Try.prog Q G W σ 12 [.p i 0] dst k := by
  refine CallAt.asnO i (MachA t st (fr ++ [f])) h.m (fun v A' => v = .int .i64 0 ∧ A' = MachA t (st.take f.ht.toNat) (fr ++ [{ f with dead := true }])) ?_ (by rintro _ _ ⟨rfl, rfl⟩; exact hk)
  intro new w own ho
  refine (m_die (h.mc ho) hht hfz).mono ?_
  rintro e w' ⟨rfl, O', hR, hC⟩
  exact ⟨_, _, O', rfl, ⟨rfl, rfl⟩, hR, hC⟩

theorem CallAt.closeE {σ : St} {dst : Option Tmp} {k : List It} {i j t : Nat} {st : List Vl} {fr : List Frm} {f : Frm} {er : Int} (h : MT σ i j t st (fr ++ [f])) (her : clsErr st (fr ++ [f]) f = some er) (hsz : st.length ≤ 500000) (hfz : fr.length + 1 ≤ 500000) (z1 : f.ps.length ≤ 500000) (z2 : f.rs.length ≤ 500000)
    (hk : Res Try.prog Q G W ((σ.ent i (.asn (MachA t (takesF st (fr ++ [f]) f.rs).2 (fr ++ [f])))).put dst (.v (.tuple #[.int .i64 0, .slice none 0 0, .slice none 0 0, .int .i64 er]))) k) : CallAt Try.prog Q G W σ 19 [.p i 0] dst k := by
  refine CallAt.asnO i (MachA t st (fr ++ [f])) h.m (fun v A' => v = .tuple #[.int .i64 0, .slice none 0 0, .slice none 0 0, .int .i64 er] ∧ A' = MachA t (takesF st (fr ++ [f]) f.rs).2 (fr ++ [f])) ?_ (by rintro _ _ ⟨rfl, rfl⟩; exact hk)
  intro new w own ho
  refine (m_close (h.mc ho) hsz hfz z1 z2).mono ?_
  intro e w' hp
  rw [her] at hp
  obtain ⟨rfl, O', hR, hC⟩ := hp
  exact ⟨_, _, O', rfl, ⟨rfl, rfl⟩, hR, hC⟩

theorem CallAt.close {σ : St} {dst : Option Tmp} {k : List It} {i j t : Nat} {st : List Vl} {fr : List Frm} {f : Frm} (h : MT σ i j t st (fr ++ [f])) (her : clsErr st (fr ++ [f]) f = none) (hsz : st.length ≤ 500000) (hfz : fr.length + 1 ≤ 500000) (z1 : f.ps.length ≤ 500000) (z2 : f.rs.length ≤ 500000)
    (hk : ∀ nl1 b1 k1 cur1 nl2 b2 k2 cur2, FS0 4 f.ps.length (flat f.ps) nl1 k1 cur1 → FS0 4 f.rs.length (flat f.rs) nl2 k2 cur2 →
      Res Try.prog Q G W (((σ.ent i (.asn (MachA t (takesF st (fr ++ [f]) f.rs).2 fr))).new (.asn (Row2A b1 nl1 cur1 b2 nl2 cur2))).put dst (.v (.tuple #[.int .i64 f.op, .slice (sA nl1 b1 0) f.ps.length k1, .slice (sA nl2 b2 0) f.rs.length k2, .int .i64 0]))) k) : CallAt Try.prog Q G W σ 19 [.p i 0] dst k := by
  refine CallAt.asnA i (MachA t st (fr ++ [f])) h.m (fun v A' A2 => ∃ nl1 b1 k1 cur1 nl2 b2 k2 cur2, FS0 4 f.ps.length (flat f.ps) nl1 k1 cur1 ∧ FS0 4 f.rs.length (flat f.rs) nl2 k2 cur2 ∧ v = .tuple #[.int .i64 f.op, .slice (sA nl1 b1 0) f.ps.length k1, .slice (sA nl2 b2 0) f.rs.length k2, .int .i64 0] ∧ A' = MachA t (takesF st (fr ++ [f]) f.rs).2 fr ∧ A2 = Row2A b1 nl1 cur1 b2 nl2 cur2) ?_ ?_
  · intro new w own ho
    refine (m_close (h.mc ho) hsz hfz z1 z2).mono ?_
    intro e w' hp
    rw [her] at hp
    obtain ⟨nl1, b1, k1, cur1, nl2, b2, k2, cur2, O', O2, rfl, hF1, hF2, hM, hR2, hC, hO2, hap⟩ := hp
    exact ⟨_, _, _, O', O2, rfl, ⟨nl1, b1, k1, cur1, nl2, b2, k2, cur2, hF1, hF2, rfl, rfl, rfl⟩, hM, hR2, hC, hO2, hap⟩
  · rintro _ _ _ ⟨nl1, b1, k1, cur1, nl2, b2, k2, cur2, hF1, hF2, rfl, rfl, rfl⟩
    exact hk nl1 b1 k1 cur1 nl2 b2 k2 cur2 hF1 hF2

theorem CallAt.height {σ : St} {dst : Option Tmp} {k : List It} {i j t : Nat} {st : List Vl} {fr : List Frm} (h : MT σ i j t st fr) (hk : Res Try.prog Q G W (σ.put dst (.v (.int .i64 st.length))) k) : CallAt Try.prog Q G W σ 14 [.p i 0] dst k :=
  CallAt.detS (.v (.int .i64 st.length)) trivial (fun new w hs => by obtain ⟨own, ho⟩ := hs; exact m_height (h.mc ho)) hk
theorem CallAt.frames {σ : St} {dst : Option Tmp} {k : List It} {i j t : Nat} {st : List Vl} {fr : List Frm} (h : MT σ i j t st fr) (hk : Res Try.prog Q G W (σ.put dst (.v (.int .i64 fr.length))) k) : CallAt Try.prog Q G W σ 20 [.p i 0] dst k :=
  CallAt.detS (.v (.int .i64 fr.length)) trivial (fun new w hs => by obtain ⟨own, ho⟩ := hs; exact m_frames (h.mc ho)) hk
theorem CallAt.dead {σ : St} {dst : Option Tmp} {k : List It} {i j t : Nat} {st : List Vl} {fr : List Frm} {f : Frm} (h : MT σ i j t st (fr ++ [f])) (hfz : fr.length ≤ 1000000) (hk : Res Try.prog Q G W (σ.put dst (.v (.bool f.dead))) k) : CallAt Try.prog Q G W σ 13 [.p i 0] dst k :=
  CallAt.detS (.v (.bool f.dead)) trivial (fun new w hs => by obtain ⟨own, ho⟩ := hs; exact m_dead (h.mc ho) hfz) hk

theorem CallAt.top {σ : St} {dst : Option Tmp} {k : List It} {i j t : Nat} {st : List Vl} {fr : List Frm} {n : Int} (h : MT σ i j t st fr) (hsz : st.length ≤ 1000000)
    (hk : ∀ nl b cap cur, FS0 4 (upF st n).length (flat (upF st n)) nl cap cur → Res Try.prog Q G W ((σ.new (.asn (RowA b nl 41 cur))).put dst (.v (.slice (sA nl b 0) (upF st n).length cap))) k) : CallAt Try.prog Q G W σ 16 [.p i 0, .v (.int .i64 n)] dst k := by
  refine CallAt.mkA (fun v A' => ∃ nl b cap cur, v = .slice (sA nl b 0) (upF st n).length cap ∧ A' = RowA b nl 41 cur ∧ FS0 4 (upF st n).length (flat (upF st n)) nl cap cur) ?_ ?_
  · intro new w hs
    obtain ⟨own, ho⟩ := hs
    refine (m_top (h.mc ho) n hsz).mono ?_
    rintro e w' ⟨nl, b, cap, cur, rfl, hE, hF⟩
    exact ⟨_, _, fun x => nl = false ∧ x = b, rfl, ⟨nl, b, cap, cur, rfl, rfl, hF.fs0⟩, fun h => ⟨⟨h, rfl⟩, (hF.row h).2.2⟩, hE, by rintro _ ⟨h, rfl⟩; exact ⟨(hF.row h).1, (hF.row h).2.1⟩⟩
  · rintro _ _ ⟨nl, b, cap, cur, rfl, rfl, hF⟩
    exact hk nl b cap cur hF

theorem CallAt.label0 {σ : St} {dst : Option Tmp} {k : List It} {i j t : Nat} {st : List Vl} {fr : List Frm} {n : Int} (h : MT σ i j t st fr) (hn : n < 0 ∨ (fr.length : Int) ≤ n) (hk : Res Try.prog Q G W (σ.put dst (.v (.tuple #[.slice none 0 0, .int .i64 142]))) k) : CallAt Try.prog Q G W σ 23 [.p i 0, .v (.int .i64 n)] dst k :=
  CallAt.detS (.v (.tuple #[.slice none 0 0, .int .i64 142])) trivial (fun new w hs => by obtain ⟨own, ho⟩ := hs; exact m_label0 (h.mc ho) n hn) hk
theorem CallAt.label {σ : St} {dst : Option Tmp} {k : List It} {i j t : Nat} {st : List Vl} {fr : List Frm} (n q : Nat) (f : Frm) (h : MT σ i j t st fr) (hn : n + q + 1 = fr.length) (hf : fr[q]? = some f) (hfz : fr.length ≤ 1000000) (hpz : f.ps.length ≤ 1000000) (hrz : f.rs.length ≤ 1000000)
    (hk : ∀ nl b cap cur, FS0 4 f.lab.length (flat f.lab) nl cap cur → Res Try.prog Q G W ((σ.new (.asn (RowA b nl 41 cur))).put dst (.v (.tuple #[.slice (sA nl b 0) f.lab.length cap, .int .i64 0]))) k) : CallAt Try.prog Q G W σ 23 [.p i 0, .v (.int .i64 n)] dst k := by
  obtain ⟨hq, hf⟩ := List.getElem?_eq_some_iff.1 hf
  subst hf
  refine CallAt.mkA (fun v A' => ∃ nl b cap cur, v = .tuple #[.slice (sA nl b 0) (fr[q]).lab.length cap, .int .i64 0] ∧ A' = RowA b nl 41 cur ∧ FS0 4 (fr[q]).lab.length (flat (fr[q]).lab) nl cap cur) ?_ ?_
  · intro new w hs
    obtain ⟨own, ho⟩ := hs
    refine (m_label (h.mc ho) n q hn hfz hpz hrz).mono ?_
    rintro e w' ⟨nl, b, cap, cur, rfl, hE, hF⟩
    exact ⟨_, _, fun x => nl = false ∧ x = b, rfl, ⟨nl, b, cap, cur, rfl, rfl, hF.fs0⟩, fun h => ⟨⟨h, rfl⟩, (hF.row h).2.2⟩, hE, by rintro _ ⟨h, rfl⟩; exact ⟨(hF.row h).1, (hF.row h).2.1⟩⟩
  · rintro _ _ ⟨nl, b, cap, cur, rfl, rfl, hF⟩
    exact hk nl b cap cur hF

theorem CallAt.rnew {σ : St} {dst : Option Tmp} {k : List It} (hk : Res Try.prog Q G W ((σ.new (.asn TabA)).put dst (.p σ.L.length 0)) k) : CallAt Try.prog Q G W σ 9 [] dst k := by
  refine CallAt.mk (fun A' => A' = TabA) ?_ (by rintro _ rfl; exact hk)
  intro new w hs
  refine m_rnew.mono ?_
  rintro e w' ⟨t, rfl, hT, hE, h1, h2⟩
  exact ⟨t, _, fun b => b = t, rfl, rfl, ⟨rfl, hT⟩, hE, by rintro _ rfl; exact ⟨h1, h2⟩⟩
theorem CallAt.snew {σ : St} {dst : Option Tmp} {k : List It} {j t : Nat} (hx : σ.X[j]? = some t) (hk : Res Try.prog Q G W ((σ.new (.asn (MachA t [] []))).put dst (.p σ.L.length 0)) k) : CallAt Try.prog Q G W σ 8 [.p j 0] dst k := by
  refine CallAt.mk (fun A' => A' = MachA t [] []) ?_ (by rintro _ rfl; exact hk)
  intro new w hs
  have hX : (σ.X ++ new).getD j 0 = t := by
    have hl := (List.getElem?_eq_some_iff.1 hx).1
    rw [List.getD_eq_getElem?_getD, List.getElem?_append_left hl, hx]; rfl
  simp only [List.map_cons, List.map_nil, SV.den, hX]
  refine (m_new t).mono ?_
  rintro e w' ⟨m, rfl, hR, hE, h1, h2⟩
  exact ⟨m, _, fun b => b = m, rfl, rfl, hR, hE, by rintro _ rfl; exact ⟨h1, h2⟩⟩
end

def v32 : Vl := ⟨1, false, 0, 0⟩
def v64 : Vl := ⟨2, false, 0, 0⟩
theorem m_i32 {w : World} : Calls Try.prog 25 #[] w fun e w' => e = .returned v32.v ∧ Ext w w' := by
  refine start0 (args := []) (G := (· < w.heap.size)) Try.func25 rfl Try.ntmps25 (by simp [SV.lt]) (fun _ h => h) ?_
  refine Res.run 1000 ?_
  simp only [↓reduceIte, Nat.reduceEqDiff, Nat.reduceAdd, Nat.reduceSub, Nat.reduceMul, Nat.reduceLT, Int.reduceToNat, Int.reduceBEq, Int.reduceBNe, Int.reduceLT, Int.reduceLE, E, E', TY]
  exact Ret.det [.agg [.v (.int .i64 1), .v (.bool false), .v (.int .i64 0), .v (.int .i64 0)]] rfl (by kernel_rfl) (fun _ => by simp [resOf, SV.den, At.den, v32, Vl.v])
theorem m_i64 {w : World} : Calls Try.prog 26 #[] w fun e w' => e = .returned v64.v ∧ Ext w w' := by
  refine start0 (args := []) (G := (· < w.heap.size)) Try.func26 rfl Try.ntmps26 (by simp [SV.lt]) (fun _ h => h) ?_
  refine Res.run 1000 ?_
  simp only [↓reduceIte, Nat.reduceEqDiff, Nat.reduceAdd, Nat.reduceSub, Nat.reduceMul, Nat.reduceLT, Int.reduceToNat, Int.reduceBEq, Int.reduceBNe, Int.reduceLT, Int.reduceLE, E, E', TY]
  exact Ret.det [.agg [.v (.int .i64 2), .v (.bool false), .v (.int .i64 0), .v (.int .i64 0)]] rfl (by kernel_rfl) (fun _ => by simp [resOf, SV.den, At.den, v64, Vl.v])
end Go.Proofs.Yteendcbmoagdfaa
