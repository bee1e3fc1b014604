/-
  The roll layer: the body of RollGets.
-/
import Derived.Test.YtkcbmkoafmffoaaDoorRI
set_option linter.unusedVariables false
set_option linter.unusedSimpArgs false
set_option maxRecDepth 20000
set_option maxHeartbeats 8000000
namespace Go.Proofs.YtkcbmkoafmffoaaDoor
open Go Go.Eng

/-! ### the numbers of what a table holds -/
theorem rv_h {v : Vl} (h : rvF v = true) (h3 : v.k = 3) : rhF v.h = true := by
  unfold rvF at h
  rw [if_neg (by omega), if_pos h3] at h
  exact h
theorem heapsV_mem {l : List Vl} {x : Hp} (h : x ∈ heapsV l) : ∃ v ∈ l, v.k = 3 ∧ v.h = x := by
  induction l with
  | nil => cases h
  | cons v l ih =>
    unfold heapsV at h
    split at h
    · rename_i h3
      rcases List.mem_cons.1 h with rfl | h
      · exact ⟨v, List.mem_cons_self, h3, rfl⟩
      · obtain ⟨u, h1, h2⟩ := ih h
        exact ⟨u, List.mem_cons_of_mem _ h1, h2⟩
    · obtain ⟨u, h1, h2⟩ := ih h
      exact ⟨u, List.mem_cons_of_mem _ h1, h2⟩
theorem Rld.heaps {s : Sb} (h : Rld s) : ∀ x ∈ sHeaps s, rhF x = true := by
  intro x hx
  unfold sHeaps at hx
  simp only [List.mem_append] at hx
  rcases hx with ((hx | hx) | hx) | hx
  · exact List.all_eq_true.1 h.su x hx
  · obtain ⟨v, h1, h2, rfl⟩ := heapsV_mem hx
    exact rv_h (List.all_eq_true.1 h.ps v h1) h2
  · obtain ⟨v, h1, h2, rfl⟩ := heapsV_mem hx
    exact rv_h (List.all_eq_true.1 h.rs v h1) h2
  · obtain ⟨v, h1, h2, rfl⟩ := heapsV_mem hx
    obtain ⟨d, hd, rfl⟩ := List.mem_map.1 h1
    have := List.all_eq_true.1 h.fs d hd
    unfold rfF at this
    split at this
    · exact rv_h this h2
    · split at this
      · have := of_decide_eq_true this
        rw [this] at h2
        exact absurd h2 (by decide)
      · cases this
theorem esG_mem {gs : List (List Sb)} : ∀ {f : Int} {e : Int × Int}, e ∈ esG f gs → f ≤ e.1 ∧ e.1 ≤ f + (gs.flatten.length : Int) := by
  induction gs with
  | nil => intro f e h; cases h
  | cons g gs ih =>
    intro f e h
    rw [List.flatten_cons, List.length_append]
    rcases List.mem_append.1 (show e ∈ List.replicate g.length (f, (g.length : Int)) ++ esG (f + g.length) gs from h) with h | h
    · have := (List.mem_replicate.1 h).2
      subst this
      simp only; omega
    · have := ih h
      omega
theorem Gps.nums {s : TS} {gs : List (List Sb)} (h : Gps s gs) (hz : s.ts.length ≤ 10000) (he : s.es.length = s.ts.length) : ∀ i (hi : i < s.ts.length), ∀ x ∈ sHeaps s.ts[i], x.k = 14 → i64ok ((s.es.getD i (0, 0)).1 + x.n) := by
  intro i hi x hx h14
  have h1 : s.ts[i] ∈ gs.flatten := by rw [← h.ts]; exact List.getElem_mem _
  obtain ⟨g, hg, ht⟩ := List.mem_flatten.1 h1
  have h2 := (h.pl g hg _ ht).heaps x hx
  unfold rhF at h2
  rw [if_pos (by rw [rk_iff]; omega)] at h2
  have h2 := of_decide_eq_true h2
  rw [List.getD_eq_getElem?_getD, List.getElem?_eq_getElem (by omega)]
  have h3 : s.es[i]'(by omega) ∈ esG 0 gs := by rw [← h.es]; exact List.getElem_mem _
  have h4 := esG_mem h3
  rw [← h.ts] at h4
  exact i64ok_of (by simp only [Option.getD_some]; omega) (by simp only [Option.getD_some]; omega)
/-- What is told of a number of a group. -/
theorem Gps.told {s : TS} {gs a b : List (List Sb)} {g : List Sb} (h : Gps s gs) (e : gs = a ++ g :: b) (k : Nat) (hk : k < g.length) :
    hasF s ((a.flatten.length : Int) + (k : Int)) = true ∧ s.es.getD ((a.flatten.length : Int) + (k : Int)).toNat (0, 0) = ((a.flatten.length : Int), (g.length : Int)) ∧ s.ts.getD ((a.flatten.length : Int) + (k : Int)).toNat nilS = g[k] := by
  have ei : ((a.flatten.length : Int) + (k : Int)).toNat = a.flatten.length + k := by omega
  have h1 : s.ts[a.flatten.length + k]? = some g[k] := by rw [h.ts, e]; exact flat_at k hk
  have h2 : s.es[a.flatten.length + k]? = some ((a.flatten.length : Int), (g.length : Int)) := by rw [h.es, esG_get e k hk, Int.zero_add]
  have h3 := (List.getElem?_eq_some_iff.1 h1).1
  refine ⟨hasF_iff.2 (by omega), ?_, ?_⟩
  · rw [ei, List.getD_eq_getElem?_getD, h2]; rfl
  · rw [ei, List.getD_eq_getElem?_getD, h1]; rfl

section get
variable {Q : Pst} {G : Nat → Prop} {W : World}
theorem CallAt.get {σ : St} {dst : Option Tmp} {k : List It} (s : TS) (i0 : Nat) (hi : σ.L[i0]? = some (.asn (TabA s))) (id : Int) (u : Sb) (e : Int) (hu : getF s id = (u, e)) (he : s.es.length = s.ts.length) (hz : ∀ t ∈ s.ts, t.small 1100000)
    (hn : ∀ i (h : i < s.ts.length), ∀ x ∈ sHeaps s.ts[i], x.k = 14 → i64ok ((s.es.getD i (0, 0)).1 + x.n))
    (hk : ∀ y, Res Tryd.prog Q G W ((σ.new (.asn (NstA [(u, y)]))).put dst (.v (.tuple #[u.v y, .int .i64 e]))) k) : CallAt Tryd.prog Q G W σ 25 [.p i0 0, .v (.int .i64 id)] dst k := by
  refine CallAt.mkA (fun v A' => ∃ y, v = .tuple #[u.v y, .int .i64 e] ∧ A' = NstA [(u, y)]) ?_ (by rintro _ _ ⟨y, rfl, rfl⟩; exact hk y)
  intro new w hs
  obtain ⟨own, ho⟩ := hs
  have := m_Get (tabW_of ho hi) id he hz hn
  rw [hu] at this
  refine this.mono ?_
  rintro e w' ⟨y, rfl, hE, hR⟩
  refine ⟨_, _, _, rfl, ⟨y, rfl, rfl⟩, fun p hp => ?_, hE, fun b hb => hb⟩
  simp only [List.mem_cons, List.not_mem_nil, or_false] at hp
  subst hp; exact hR
end get

/-- Where the loop stands. -/
structure GZ where
  k : Nat
  s : TS
  gp : List (List Sb)
  ids : List Int
  B : Option Addr
  cb : Nat
  G : Nat → Prop
  W : World
structure GZ.ok (w : World) (n : Nat) (z : GZ) : Prop where
  k : z.k ≤ n
  s : z.s.inv z.k
  p : Gps z.s z.gp
  h : ∀ i ∈ z.ids, hasF z.s i = true
  l : z.ids.length ≤ 10000 * z.k
  b : Cs z.G z.W z.B (ics z.ids)
  nb : z.B = none → z.ids = []
  K : Keep (· < w.heap.size) w z.W
  g : ∀ b, b < w.heap.size → z.G b

theorem m_RG {w : World} (gs : List GL) (A : Option Addr) (c : Nat) (hA : Cs (· < w.heap.size) w A (gs.flatMap glcs)) (hg : ∀ g ∈ gs, GLR (· < w.heap.size) w g) (hT : TabIn (· < w.heap.size) w) :
    Calls Tryd.prog 6 #[.slice A gs.length c] w fun e w' => e = .returned (.bool true) ∧ Ext w w' := by
  refine start0 (args := [.v (.slice A gs.length c)]) (G := (· < w.heap.size)) Tryd.func6 rfl Tryd.ntmps6 (by simp [SV.lt]) (fun _ h => h) ?_
  refine Res.run 1000 ?_
  simp only [↓reduceIte, Nat.reduceEqDiff, Nat.reduceAdd, Nat.reduceSub, Nat.reduceMul, Nat.reduceLT, Int.reduceToNat, Int.reduceBEq, Int.reduceBNe, Int.reduceLT, Int.reduceLE, E, E', TY]
  refine ⟨fnok16, CallAt.det #[] (.bool true) (fun _ => rfl) (fun w' hK => m_known ((hT.keep hK).mono fun b hb => Nat.lt_of_lt_of_le hb hK.size)) (Res.run 900 ?_)⟩
  by_cases h12 : (gs.length : Int) > 12
  · have e1 : decide ((gs.length : Int) > 12) = true := decide_eq_true h12
    simp only [↓reduceIte, Nat.reduceEqDiff, Nat.reduceAdd, Nat.reduceSub, Nat.reduceMul, Nat.reduceLT, Int.reduceToNat, Int.reduceBEq, Int.reduceBNe, Int.reduceLT, Int.reduceLE, E, E', TY, e1]
    exact Ret.one rfl (by kernel_rfl)
  have e1 : decide ((gs.length : Int) > 12) = false := decide_eq_false h12
  simp only [↓reduceIte, Nat.reduceEqDiff, Nat.reduceAdd, Nat.reduceSub, Nat.reduceMul, Nat.reduceLT, Int.reduceToNat, Int.reduceBEq, Int.reduceBNe, Int.reduceLT, Int.reduceLE, E, E', TY, e1]
  refine ⟨fnok17, CallAt.mk (fun A' => A' = TabA TS0) (fun new w' hs => ?_) ?_⟩
  · refine m_New.mono ?_
    rintro e w2 ⟨p, O', rfl, h1, h2, h3⟩
    exact ⟨p, _, O', rfl, rfl, h1, h2, h3⟩
  rintro _ rfl
  refine Res.run 900 ?_
  simp only [↓reduceIte, Nat.reduceEqDiff, Nat.reduceAdd, Nat.reduceSub, Nat.reduceMul, Nat.reduceLT, Int.reduceToNat, Int.reduceBEq, Int.reduceBNe, Int.reduceLT, Int.reduceLE, E, E', TY]
  refine Res.loopW (X := {z : GZ // z.ok w gs.length})
    (fun z => { T := mkT 132 [(0, .v (.slice A gs.length c)), (3, .p 0 0), (4, .v (.slice z.1.B z.1.ids.length z.1.cb)), (5, .v (.int .i64 (z.1.k : Int)))], X := [], L := [.asn (TabA z.1.s)], D := [] })
    (fun z => z.1.G) (fun z => z.1.W) (fun z => gs.length - z.1.k) ⟨⟨0, TS0, [], [], none, 0, (· < w.heap.size), w⟩, ⟨by simp, inv0, Gps.nil, by simp, by simp, .inl rfl, fun _ => rfl, Keep.refl _ _, fun _ h => h⟩⟩ rfl rfl (St.Le.of 1 (by simp only [↓reduceIte, Nat.reduceEqDiff, Nat.reduceAdd, Nat.reduceSub, Nat.reduceMul, Nat.reduceLT, Int.reduceToNat, Int.reduceBEq, Int.reduceBNe, Int.reduceLT, Int.reduceLE, E, E', TY]; rfl)) ?_
  rintro ⟨⟨k, s, gp, ids, B, cb, G, W⟩, hkl, hs, hp, hh, hl, hB, nB, hKW, hGw⟩
  simp only at hkl hs hp hh hl hB nB hKW hGw ⊢
  have hg12 : gs.length ≤ 12 := by omega
  have h64 : ∀ i, hasF s i = true → i64ok i := fun i hi => by
    have h1 := hasF_iff.1 hi
    have h2 := hs.ts
    exact i64ok_of (by omega) (by omega)
  have hTG : TabIn G W := (hT.keep hKW).mono hGw
  by_cases hlt : k < gs.length
  case neg =>
    refine Res.run 900 ?_
    obtain rfl : k = gs.length := by omega
    have e2 : decide ((gs.length : Int) < (gs.length : Int)) = false := by simp
    simp only [↓reduceIte, Nat.reduceEqDiff, Nat.reduceAdd, Nat.reduceSub, Nat.reduceMul, Nat.reduceLT, Int.reduceToNat, Int.reduceBEq, Int.reduceBNe, Int.reduceLT, Int.reduceLE, E, E', TY, e2]
    exact Ret.body [.v (.bool true)] rfl (by kernel_rfl) fun new w' hs' => ⟨rfl, hKW.trans (hs'.keep.mono hGw)⟩
  refine Res.run 900 ?_
  have e2 : decide ((k : Int) < (gs.length : Int)) = true := by simp; omega
  obtain ⟨a0, a1⟩ := gls_at ((hA.keep hKW).mono hGw) k hlt
  have hAs : A.isSome = true := okRd_some a0
  obtain ⟨g, hgk⟩ : ∃ g, gs[k] = g := ⟨_, rfl⟩
  rw [hgk] at a1
  have hgl := hg g (hgk ▸ List.getElem_mem hlt)
  by_cases h10 : (g.l.length : Int) > 10
  · have e3 : decide ((g.l.length : Int) > 10) = true := decide_eq_true h10
    simp only [↓reduceIte, Nat.reduceEqDiff, Nat.reduceAdd, Nat.reduceSub, Nat.reduceMul, Nat.reduceLT, Int.reduceToNat, Int.reduceBEq, Int.reduceBNe, Int.reduceLT, Int.reduceLE, E, E', TY, e2, a1, e3, Int.toNat_natCast]
    refine ⟨⟨by omega, by omega, hAs⟩, a0, ?_⟩
    exact Ret.body [.v (.bool true)] rfl (by kernel_rfl) fun new w' hs' => ⟨rfl, hKW.trans (hs'.keep.mono hGw)⟩
  have e3 : decide ((g.l.length : Int) > 10) = false := decide_eq_false h10
  simp only [↓reduceIte, Nat.reduceEqDiff, Nat.reduceAdd, Nat.reduceSub, Nat.reduceMul, Nat.reduceLT, Int.reduceToNat, Int.reduceBEq, Int.reduceBNe, Int.reduceLT, Int.reduceLE, E, E', TY, e2, a1, e3, Int.toNat_natCast]
  refine ⟨⟨by omega, by omega, hAs⟩, a0, ⟨by omega, by omega, hAs⟩, a0, ?_⟩
  obtain ⟨R, hR⟩ : ∃ R, addF s ids (g.l.map (·.1)) = R := ⟨_, rfl⟩
  obtain ⟨v1, v2, v3⟩ := addF_inv hs ids hh (g.l.map (·.1))
  rw [hR] at v1 v2 v3
  have hgA : Cs G W g.A (gcs g.l) := (hgl.a.keep hKW).mono hGw
  have hgN : GrR G W g.l := (hgl.n.keep hKW).mono hGw
  have hgz : ∀ t ∈ g.l.map (·.1), t.small 1100000 := fun t ht => by
    obtain ⟨q, hq, rfl⟩ := List.mem_map.1 ht
    exact (hgl.z q hq).1
  refine ⟨fnok18, CallAt.add s (hs.fit (by omega)) 0 rfl ids cb g.l g.c R hR (fun i hi => h64 i (hh i hi)) (by omega) hgl.z (by omega) hTG (fun new w' own ho => ?_) fun nl b cap cur hF' => Res.run 900 ?_⟩
  · exact ⟨_, _, rfl, (hB.keep ho.keep).mono (gm_base (i := 0) ho (by simp)), nB, (hgA.keep ho.keep).mono (gm_base (i := 0) ho (by simp)), (hgN.keep ho.keep).mono (gm_base (i := 0) ho (by simp))⟩
  by_cases h0 : R.2.2 = 0
  case neg =>
    have e4 : (R.2.2 != 0) = true := by simp [h0]
    have hRs : R.1 = s := by rw [← hR]; exact addF_bad (by rw [hR]; exact h0)
    simp only [↓reduceIte, Nat.reduceEqDiff, Nat.reduceAdd, Nat.reduceSub, Nat.reduceMul, Nat.reduceLT, Int.reduceToNat, Int.reduceBEq, Int.reduceBNe, Int.reduceLT, Int.reduceLE, E, E', TY, e4]
    refine ⟨i64ok_of (by omega) (by omega), ?_⟩
    rw [hRs] at v1 ⊢
    refine Res.againW (⟨⟨k + 1, s, gp, ids, B, cb, G, W⟩, ⟨by simp only; omega, v1, hp, hh, by simp only; omega, hB, nB, hKW, hGw⟩⟩ : {z : GZ // z.ok w gs.length}) (by simp only; omega) rfl rfl (St.Le.of 1 (by simp only [↓reduceIte, Nat.reduceEqDiff, Nat.reduceAdd, Nat.reduceSub, Nat.reduceMul, Nat.reduceLT, Int.reduceToNat, Int.reduceBEq, Int.reduceBNe, Int.reduceLT, Int.reduceLE, E, E', TY, Int.natCast_add, Int.cast_ofNat_Int]))
  have e4 : (R.2.2 != 0) = false := by simp [h0]
  obtain ⟨gp', a, b', hp', hgp', hout, hall, hhas, _⟩ := addF_gps hp (ids := ids) (g := g.l.map (·.1)) hs.ts hgz (by rw [hR]; exact h0)
  rw [hR] at hp' hout
  have v4 := v3 h0
  obtain ⟨S, hS⟩ : ∃ S, R.1 = S := ⟨_, rfl⟩
  obtain ⟨nx, hnx⟩ : ∃ nx, R.2.1 = nx := ⟨_, rfl⟩
  rw [hS] at v1 v2 v4 hp'
  rw [hnx] at v4 hout hF'
  have hm : (g.l.map (·.1)).length = g.l.length := by simp
  rw [hm] at hout
  have hnl : nx.length = ids.length + g.l.length := by rw [hout, outI_len]; simp
  obtain ⟨f0, hf0⟩ : ∃ f0 : Int, (a.flatten.length : Int) = f0 := ⟨_, rfl⟩
  rw [hS, hnx, h0]
  simp only [↓reduceIte, Nat.reduceEqDiff, Nat.reduceAdd, Nat.reduceSub, Nat.reduceMul, Nat.reduceLT, Int.reduceToNat, Int.reduceBEq, Int.reduceBNe, Int.reduceLT, Int.reduceLE, E, E', TY, e4]
  refine Res.free (b := b) (nl := nl) (ty := 3) (cur := cur) 1 rfl fun nw w1 hnw hK1 hrow => ?_
  refine Res.le (St.Le.unfix (X := []) (m := nw) rfl) ?_
  obtain ⟨G1, hG1⟩ : ∃ G1 : Nat → Prop, (fun x => G x ∨ (nl = false ∧ x = b)) = G1 := ⟨_, rfl⟩
  have hN : Cs G1 w1 (sA nl b 0) (ics nx) := by
    rw [← hG1]
    exact cs_rowA (O := fun x => G x ∨ (nl = false ∧ x = b)) (q := 0) (w := w1) (b := b) (nl := nl) (ty := 3) (cur := cur) (fun hn => ⟨.inr ⟨hn, rfl⟩, (hrow hn).1⟩) hF'
  have hGG : ∀ x, G x → G1 x := fun x hx => by rw [← hG1]; exact .inl hx
  rw [hG1]
  refine Res.run 900 ?_
  simp only [↓reduceIte, Nat.reduceEqDiff, Nat.reduceAdd, Nat.reduceSub, Nat.reduceMul, Nat.reduceLT, Int.reduceToNat, Int.reduceBEq, Int.reduceBNe, Int.reduceLT, Int.reduceLE, E, E', TY]
  have hnl' : ((nx.length : Nat) : Int) = (ids.length : Int) + (g.l.length : Int) := by rw [hnl]; simp
  obtain ⟨b0, b1⟩ := gls_at (((hA.keep hKW).mono hGw).keep hK1 |>.mono hGG) k hlt
  rw [hgk] at b1
  have e5 : (((nx.length : Nat) : Int) != (ids.length : Int) + (g.l.length : Int)) = false := by simp [hnl']
  refine Res.quiet [] (by kernel_rfl) (by kernel_rfl) ?_
  simp only [↓reduceIte, Nat.reduceEqDiff, Nat.reduceAdd, Nat.reduceSub, Nat.reduceMul, Nat.reduceLT, Int.reduceToNat, Int.reduceBEq, Int.reduceBNe, Int.reduceLT, Int.reduceLE, E, E', TY, b1, e5, Int.toNat_natCast]
  refine ⟨⟨by omega, by omega, hAs⟩, b0, i64ok_of (by omega) (by omega), Res.run 900 ?_⟩
  simp only [↓reduceIte, Nat.reduceEqDiff, Nat.reduceAdd, Nat.reduceSub, Nat.reduceMul, Nat.reduceLT, Int.reduceToNat, Int.reduceBEq, Int.reduceBNe, Int.reduceLT, Int.reduceLE, E, E', TY]
  have hgA1 : Cs G1 w1 g.A (gcs g.l) := (hgA.keep hK1).mono hGG
  have hgN1 : GrR G1 w1 g.l := (hgN.keep hK1).mono hGG
  have hes : S.es.length = S.ts.length := v1.es
  have hnum := hp'.nums v1.ts hes
  refine Res.loop (X := {j : Nat // j ≤ g.l.length})
    (fun z => { T := mkT 132 [(0, .v (.slice A gs.length c)), (3, .p 0 0), (4, .v (.slice B ids.length cb)), (5, .v (.int .i64 (k : Int))), (6, .p 2 0), (8, .v (.int .i64 (z.1 : Int)))], X := [], L := [.asn (TabA S), .dead, .cells 44 [.v (.slice (sA nl b 0) nx.length cap)]], D := [] })
    (fun z => g.l.length - z.1) ⟨0, by omega⟩ (St.Le.of 3 (by simp only [↓reduceIte, Nat.reduceEqDiff, Nat.reduceAdd, Nat.reduceSub, Nat.reduceMul, Nat.reduceLT, Int.reduceToNat, Int.reduceBEq, Int.reduceBNe, Int.reduceLT, Int.reduceLE, E, E', TY]; rfl)) ?_
  rintro ⟨j, hj⟩
  simp only at hj ⊢
  refine Res.run 900 ?_
  by_cases hjl : j < g.l.length
  case neg =>
    obtain rfl : j = g.l.length := by omega
    have e6 : decide ((g.l.length : Int) < (g.l.length : Int)) = false := by simp
    simp only [↓reduceIte, Nat.reduceEqDiff, Nat.reduceAdd, Nat.reduceSub, Nat.reduceMul, Nat.reduceLT, Int.reduceToNat, Int.reduceBEq, Int.reduceBNe, Int.reduceLT, Int.reduceLE, E, E', TY, b1, e6, Int.toNat_natCast]
    refine ⟨⟨by omega, by omega, hAs⟩, b0, i64ok_of (by omega) (by omega), ?_⟩
    exact Res.againW (⟨⟨k + 1, S, gp', nx, sA nl b 0, cap, G1, w1⟩, ⟨by simp only; omega, v1, hp', v4.1, by simp only; omega, hN, fun h => List.eq_nil_of_length_eq_zero (hF'.none h), hKW.trans (hK1.mono hGw), fun b hb => hGG b (hGw b hb)⟩⟩ : {z : GZ // z.ok w gs.length}) (by simp only; omega) rfl rfl (St.Le.of 1 (by simp only [↓reduceIte, Nat.reduceEqDiff, Nat.reduceAdd, Nat.reduceSub, Nat.reduceMul, Nat.reduceLT, Int.reduceToNat, Int.reduceBEq, Int.reduceBNe, Int.reduceLT, Int.reduceLE, E, E', TY, Int.natCast_add, Int.cast_ofNat_Int]))
  have e6 : decide ((j : Int) < (g.l.length : Int)) = true := by simp; omega
  obtain ⟨n0, n1⟩ := ics_at hN (ids.length + j) (by omega)
  have hNs : (sA nl b 0).isSome = true := okRd_some n0
  have hjm : j < (rollG ids (g.l.map (·.1))).length := by simp [rollG]; omega
  obtain ⟨t1, t2, t3⟩ := hp'.told hgp' j hjm
  have hrl : (rollG ids (g.l.map (·.1))).length = g.l.length := by simp [rollG]
  rw [hf0, hrl] at t2
  rw [hf0] at t1 t3 hout
  have hid : nx[ids.length + j]'(by omega) = f0 + (j : Int) := by
    have : nx.getD (ids.length + j) 0 = f0 + (j : Int) := by
      rw [hout, outI_get (by rw [← hout]; omega), if_neg (by omega), Nat.add_sub_cancel_left]
    rw [← this, List.getD_eq_getElem?_getD, List.getElem?_eq_getElem (by omega)]; rfl
  rw [hid] at n1
  obtain ⟨c0, c1, c2, c3, c4, c5, c6⟩ := gcs_at hgA1 j hjl
  have hgs : g.A.isSome = true := okRd_some c0
  obtain ⟨q, hq⟩ : ∃ q, g.l[j] = q := ⟨_, rfl⟩
  rw [hq] at c1 c2 c3 c4 c5 c6
  have hqm : q ∈ g.l := hq ▸ List.getElem_mem hjl
  have hqz : q.1.small 1100000 := (hgl.z q hqm).1
  obtain ⟨u, hu⟩ : ∃ u, smap (wantH nx) q.1 = u := ⟨_, rfl⟩
  have huz : u.small 1100000 := by rw [← hu]; exact smap_small _ hqz
  have hget : getF S (f0 + (j : Int)) = (u, 0) := by
    unfold getF
    rw [if_pos t1, t2, t3, ← hu]
    congr 1
    have hq1 : (g.l.map (·.1))[j]'(by simp; omega) = q.1 := by rw [List.getElem_map, hq]
    have hr := List.all_eq_true.1 hall q.1 (List.mem_map.2 ⟨q, hqm, rfl⟩)
    have := unroll (a := f0) hr
    rw [hm, ← hout] at this
    rw [← this]
    simp only [rollG, List.getElem_map, hm, hq]
  have huv : ∀ y, u.v y = .agg #[.bool u.fin, .slice y.a1 u.su.length y.c1, .int .i64 u.k, .slice y.a2 u.ps.length y.c2, .slice y.a3 u.rs.length y.c3, .slice y.a4 u.fs.length y.c4] := fun _ => rfl
  have e7 : (((ids.length : Nat) : Int) + (j : Int)).toNat = ids.length + j := by omega
  simp only [↓reduceIte, Nat.reduceEqDiff, Nat.reduceAdd, Nat.reduceSub, Nat.reduceMul, Nat.reduceLT, Int.reduceToNat, Int.reduceBEq, Int.reduceBNe, Int.reduceLT, Int.reduceLE, E, E', TY, b1, e6, n1, e7, c1, c2, c3, c4, c5, c6, Int.toNat_natCast]
  refine ⟨⟨by omega, by omega, hAs⟩, b0, i64ok_of (by omega) (by omega), ⟨by omega, by omega, hNs⟩, n0, ⟨by omega, by omega, hAs⟩, b0, ⟨by omega, by omega, hgs⟩, c0, fnok20, ?_⟩
  refine CallAt.mapR q 24 (wantH nx) fnok24 hqz (fun new w' own ho => ?_) fun y => Res.run 900 ?_
  · obtain ⟨p1, p2⟩ := ho.ok 2 _ rfl
    refine ⟨[.pointer (some ⟨_, 0, none⟩)], rfl, ((hgN1 q hqm).keep ho.keep).mono fun b hb => Nat.lt_of_lt_of_le (ho.inW b hb) ho.keep.size, fun h hh w2 hE => ?_⟩
    exact m_want (by rw [hE.block _ (ho.out 2 _ (by simp) p1).2]; exact p2) (((hN.keep ho.keep).mono fun b hb => Nat.lt_of_lt_of_le (ho.inW b hb) ho.keep.size).ext hE) h
  rw [hu]
  simp only [↓reduceIte, Nat.reduceEqDiff, Nat.reduceAdd, Nat.reduceSub, Nat.reduceMul, Nat.reduceLT, Int.reduceToNat, Int.reduceBEq, Int.reduceBNe, Int.reduceLT, Int.reduceLE, E, E', TY, huv]
  refine ⟨fnok25, CallAt.get S 0 rfl (f0 + (j : Int)) u 0 hget hes hp'.z hnum fun y2 => Res.run 900 ?_⟩
  simp only [↓reduceIte, Nat.reduceEqDiff, Nat.reduceAdd, Nat.reduceSub, Nat.reduceMul, Nat.reduceLT, Int.reduceToNat, Int.reduceBEq, Int.reduceBNe, Int.reduceLT, Int.reduceLE, E, E', TY, huv]
  refine ⟨fnok26, CallAt.detS (.v (.tuple #[.int .i64 f0, .int .i64 (g.l.length : Int), .int .i64 0])) trivial (fun new w' hs => ?_) (Res.run 900 ?_)⟩
  · obtain ⟨own, ho⟩ := hs
    have := m_Group (tabW_of (i := 0) ho rfl) (f0 + (j : Int)) hes
    rw [if_pos t1, t2] at this
    exact this
  simp only [↓reduceIte, Nat.reduceEqDiff, Nat.reduceAdd, Nat.reduceSub, Nat.reduceMul, Nat.reduceLT, Int.reduceToNat, Int.reduceBEq, Int.reduceBNe, Int.reduceLT, Int.reduceLE, E, E', TY]
  refine ⟨fnok13, CallAt.detS (.v (.bool true)) trivial (fun new w' hs => ?_) (Res.run 900 ?_)⟩
  · obtain ⟨own, ho⟩ := hs
    have s1 : GrR (own 3) w' [(u, y)] := ho.ok 3 _ rfl
    have s2 : GrR (own 5) w' [(u, y2)] := ho.ok 5 _ rfl
    have := m_Same (w := w') u u y2 y ((s2 _ List.mem_cons_self).mono fun b hb => (ho.out 5 b (by simp [St.new, St.put]) hb).2) ((s1 _ List.mem_cons_self).mono fun b hb => (ho.out 3 b (by simp [St.new, St.put]) hb).2) huz
    rw [decide_eq_true rfl] at this
    exact this
  have e8 : (f0 != f0 + (j : Int) - (j : Int)) = false := by simp
  have e9 : (((g.l.length : Nat) : Int) != ((g.l.length : Nat) : Int)) = false := by simp
  simp only [↓reduceIte, Nat.reduceEqDiff, Nat.reduceAdd, Nat.reduceSub, Nat.reduceMul, Nat.reduceLT, Int.reduceToNat, Int.reduceBEq, Int.reduceBNe, Int.reduceLT, Int.reduceLE, E, E', TY, b1, e8, e9, Int.toNat_natCast]
  have hft := hasF_iff.1 t1
  have hts := v1.ts
  refine ⟨⟨by omega, by omega, hAs⟩, b0, i64ok_of (by omega) (by omega), i64ok_of (by omega) (by omega), ?_⟩
  exact Res.again (⟨j + 1, by omega⟩ : {j : Nat // j ≤ g.l.length}) (by simp only; omega) (St.Le.of 3 (by simp only [↓reduceIte, Nat.reduceEqDiff, Nat.reduceAdd, Nat.reduceSub, Nat.reduceMul, Nat.reduceLT, Int.reduceToNat, Int.reduceBEq, Int.reduceBNe, Int.reduceLT, Int.reduceLE, E, E', TY, Int.natCast_add, Int.cast_ofNat_Int]))
#print axioms m_RG
end Go.Proofs.YtkcbmkoafmffoaaDoor
