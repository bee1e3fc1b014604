/-
  The roll layer: the body of RollClose.
-/
import Derived.Test.YtkcbmkoafmffoaaDoorRG
set_option linter.unusedVariables false
set_option linter.unusedSimpArgs false
set_option maxRecDepth 20000
set_option maxHeartbeats 8000000
namespace Go.Proofs.YtkcbmkoafmffoaaDoor
open Go Go.Eng

/-- What every table is that Add has made. -/
structure TS.inv (s : TS) (k : Nat) : Prop where
  ts : s.ts.length ≤ 10000
  es : s.es.length = s.ts.length
  mn : s.mn ≤ k
  mp : ∀ l e, s.mp l = some e → 0 ≤ e.1 ∧ 0 ≤ e.2 ∧ e.1 + e.2 ≤ s.ts.length
theorem TS.inv.fit {s : TS} {k : Nat} (h : s.inv k) (hk : k ≤ 10000000) : s.fit := by
  have h1 := h.ts
  have h2 := h.es
  have h3 := h.mn
  exact ⟨h1, by omega, by omega, fun l e he => by have := h.mp l e he; omega⟩
theorem hasF_iff {s : TS} {i : Int} : hasF s i = true ↔ 0 ≤ i ∧ i < s.ts.length := decide_eq_true_iff
theorem outI_has {s : TS} {ids : List Int} {e : Int × Int} (h : ∀ i ∈ ids, hasF s i = true) (he : 0 ≤ e.1 ∧ 0 ≤ e.2 ∧ e.1 + e.2 ≤ s.ts.length) : ∀ i ∈ outI ids e, hasF s i = true := by
  intro i hi
  unfold outI at hi
  rcases List.mem_append.1 hi with hi | hi
  · exact h i hi
  · obtain ⟨j, hj, rfl⟩ := List.mem_map.1 hi
    have hj := List.mem_range.1 hj
    rw [hasF_iff]; omega
theorem outI_len (ids : List Int) (e : Int × Int) : (outI ids e).length = ids.length + e.2.toNat := by simp [outI]
theorem addF_inv {s : TS} {k : Nat} (h : s.inv k) (ids : List Int) (hids : ∀ i ∈ ids, hasF s i = true) (g : List Sb) :
    (addF s ids g).1.inv (k + 1) ∧ s.ts.length ≤ (addF s ids g).1.ts.length ∧ ((addF s ids g).2.2 = 0 → (∀ i ∈ (addF s ids g).2.1, hasF (addF s ids g).1 i = true) ∧ (addF s ids g).2.1.length ≤ ids.length + 10000) := by
  have hself : s.inv (k + 1) := ⟨h.ts, h.es, by have := h.mn; omega, h.mp⟩
  unfold addF
  split
  · exact ⟨hself, Nat.le_refl _, fun h => by cases h⟩
  · split
    · exact ⟨hself, Nat.le_refl _, fun h => by cases h⟩
    · split
      · rename_i e he
        have hb := h.mp _ e he
        have := h.ts
        exact ⟨hself, Nat.le_refl _, fun _ => ⟨outI_has hids hb, by rw [outI_len]; omega⟩⟩
      · split
        · exact ⟨hself, Nat.le_refl _, fun h => by cases h⟩
        · rename_i hn hbig
          have hrl : (rollG ids g).length = g.length := by simp [rollG]
          have hl : (s.put (rollG ids g)).ts.length = s.ts.length + g.length := by simp [TS.put, hrl]
          have hm := h.mn
          have hes := h.es
          refine ⟨⟨by show (s.put (rollG ids g)).ts.length ≤ 10000; omega, ?_, by show s.mn + 1 ≤ k + 1; omega, fun l e he => ?_⟩, by show s.ts.length ≤ (s.put (rollG ids g)).ts.length; omega, fun _ => ⟨outI_has (fun i hi => ?_) ?_, ?_⟩⟩
          · rw [hl]; simp [TS.put, hrl, hes]
          · have he : (if l = keyG (rollG ids g) then some ((s.ts.length : Int), ((rollG ids g).length : Int)) else s.mp l) = some e := he
            rw [hl]
            split at he
            · injection he with he; subst he; simp only; omega
            · have := h.mp l e he; omega
          · have := hasF_iff.1 (hids i hi)
            rw [hasF_iff, hl]; omega
          · rw [hl]; simp only; omega
          · rw [outI_len]; simp only; omega

/-- A group, and where it lies. -/
structure GL where
  A : Option Addr
  c : Nat
  l : List (Sb × SL)
def glcs (g : GL) : List Value := [.slice g.A g.l.length g.c]
theorem gl_len (g : GL) : (glcs g).length = 1 := rfl
structure GLR (G : Nat → Prop) (W : World) (g : GL) : Prop where
  a : Cs G W g.A (gcs g.l)
  n : GrR G W g.l
  z : ∀ q ∈ g.l, q.1.small 1100000 ∧ q.1.ok
theorem gls_at {G : Nat → Prop} {W : World} {A : Option Addr} {l : List GL} (h : Cs G W A (l.flatMap glcs)) (k : Nat) (hk : k < l.length) :
    okRd G W (pAdd A (k * 1)) 0 1 ∧ rd W (pAdd A (k * 1)) 0 = .slice l[k].A l[k].l.length l[k].c := by
  obtain ⟨a, b⟩ := h.at (i := k * 1) (n := 1) (by omega) (by rw [flat_length gl_len]; omega)
  have g := fun j hj => flat_get gl_len l k hk j hj
  exact ⟨a, b 0 _ (g 0 (by omega))⟩

/-- Where the loop stands. -/
structure CZ where
  k : Nat
  s : TS
  ids : List Int
  r : RowX
structure CZ.ok (n : Nat) (z : CZ) : Prop where
  k : z.k ≤ n
  s : z.s.inv z.k
  h : ∀ i ∈ z.ids, hasF z.s i = true
  l : z.ids.length ≤ 10000 * z.k
  f : FS0 1 z.ids.length (ics z.ids) z.r.nl z.r.cap z.r.cur
theorem inv0 : TS0.inv 0 := ⟨by decide, by decide, by decide, fun l e h => by cases h⟩

theorem m_RC {w : World} (gs : List GL) (A : Option Addr) (c : Nat) (hA : Cs (· < w.heap.size) w A (gs.flatMap glcs)) (hg : ∀ g ∈ gs, GLR (· < w.heap.size) w g) (v : Vl) (hT : TabIn (· < w.heap.size) w) :
    Calls Tryd.prog 5 #[.slice A gs.length c, v.v] w fun e w' => e = .returned (.bool true) ∧ Ext w w' := by
  obtain ⟨vk, vn, hk, hn⟩ := v
  have hv : (⟨vk, vn, ⟨hk, hn⟩⟩ : Vl).v = .agg #[.int .i64 vk, .bool vn, .int .i64 hk, .int .i64 hn] := rfl
  refine start0 (args := [.v (.slice A gs.length c), .v (⟨vk, vn, ⟨hk, hn⟩⟩ : Vl).v]) (G := (· < w.heap.size)) Tryd.func5 rfl Tryd.ntmps5 (by simp [SV.lt]) (fun _ h => h) ?_
  refine Res.run 1000 ?_
  simp only [↓reduceIte, Nat.reduceEqDiff, Nat.reduceAdd, Nat.reduceSub, Nat.reduceMul, Nat.reduceLT, Int.reduceToNat, Int.reduceBEq, Int.reduceBNe, Int.reduceLT, Int.reduceLE, E, E', TY, hv]
  refine ⟨fnok16, CallAt.det #[] (.bool true) (fun _ => rfl) (fun w' hK => m_known ((hT.keep hK).mono fun b hb => Nat.lt_of_lt_of_le hb hK.size)) (Res.run 900 ?_)⟩
  by_cases h12 : (gs.length : Int) > 12
  · have e1 : decide ((gs.length : Int) > 12) = true := decide_eq_true h12
    simp only [↓reduceIte, Nat.reduceEqDiff, Nat.reduceAdd, Nat.reduceSub, Nat.reduceMul, Nat.reduceLT, Int.reduceToNat, Int.reduceBEq, Int.reduceBNe, Int.reduceLT, Int.reduceLE, E, E', TY, e1]
    exact Ret.one rfl (by kernel_rfl)
  have e1 : decide ((gs.length : Int) > 12) = false := decide_eq_false h12
  simp only [↓reduceIte, Nat.reduceEqDiff, Nat.reduceAdd, Nat.reduceSub, Nat.reduceMul, Nat.reduceLT, Int.reduceToNat, Int.reduceBEq, Int.reduceBNe, Int.reduceLT, Int.reduceLE, E, E', TY, e1]
  refine ⟨fnok17, CallAt.mk (fun A' => A' = TabA TS0) (fun new w' hs => ?_) ?_⟩
  · refine m_New.mono ?_
    rintro e w2 ⟨p, O', rfl, h1, h2, h3⟩
    exact ⟨p, _, O', rfl, rfl, h1, h2, h3⟩
  rintro _ rfl
  refine Res.ghost (RowA 0 true 3 []) (fun w h => by cases h) (Res.run 900 ?_)
  simp only [↓reduceIte, Nat.reduceEqDiff, Nat.reduceAdd, Nat.reduceSub, Nat.reduceMul, Nat.reduceLT, Int.reduceToNat, Int.reduceBEq, Int.reduceBNe, Int.reduceLT, Int.reduceLE, E, E', TY]
  refine Res.loop (X := {z : CZ // z.ok gs.length})
    (fun z => { T := mkT 107 [(0, .v (.slice A gs.length c)), (3, .p 0 0), (5, .p 1 0), (6, .v (.slice (sA z.1.r.nl z.1.r.b 0) z.1.ids.length z.1.r.cap)), (7, .v (.int .i64 (z.1.k : Int)))], X := [], L := [.cells 35 [.v (.int .i64 vk), .v (.bool vn), .v (.int .i64 hk), .v (.int .i64 hn)], .asn (TabA z.1.s), .asn (RowA z.1.r.b z.1.r.nl 3 z.1.r.cur)], D := [] })
    (fun z => gs.length - z.1.k) ⟨⟨0, TS0, [], RowX.e⟩, ⟨by simp, inv0, by simp, by simp, FS0.empty⟩⟩ (St.Le.of 3 (by simp only [↓reduceIte, Nat.reduceEqDiff, Nat.reduceAdd, Nat.reduceSub, Nat.reduceMul, Nat.reduceLT, Int.reduceToNat, Int.reduceBEq, Int.reduceBNe, Int.reduceLT, Int.reduceLE, E, E', TY, sA_true, RowX.e]; rfl)) ?_
  rintro ⟨⟨k, s, ids, r⟩, hkl, hs, hh, hl, hF⟩
  simp only at hkl hs hh hl hF ⊢
  have hg12 : gs.length ≤ 12 := by omega
  have h64 : ∀ i, hasF s i = true → i64ok i := fun i hi => by
    have h1 := hasF_iff.1 hi
    have h2 := hs.ts
    exact i64ok_of (by omega) (by omega)
  by_cases hlt : k < gs.length
  case pos =>
    refine Res.run 900 ?_
    have e2 : decide ((k : Int) < (gs.length : Int)) = true := by simp; omega
    obtain ⟨a0, a1⟩ := gls_at hA k hlt
    have hAs : A.isSome = true := okRd_some a0
    obtain ⟨g, hgk⟩ : ∃ g, gs[k] = g := ⟨_, rfl⟩
    rw [hgk] at a1
    have hgl := hg g (hgk ▸ List.getElem_mem hlt)
    by_cases h10 : (g.l.length : Int) > 10
    · have e3 : decide ((g.l.length : Int) > 10) = true := decide_eq_true h10
      simp only [↓reduceIte, Nat.reduceEqDiff, Nat.reduceAdd, Nat.reduceSub, Nat.reduceMul, Nat.reduceLT, Int.reduceToNat, Int.reduceBEq, Int.reduceBNe, Int.reduceLT, Int.reduceLE, E, E', TY, e2, a1, e3, Int.toNat_natCast]
      exact ⟨⟨by omega, by omega, hAs⟩, a0, Ret.one rfl (by kernel_rfl)⟩
    have e3 : decide ((g.l.length : Int) > 10) = false := decide_eq_false h10
    simp only [↓reduceIte, Nat.reduceEqDiff, Nat.reduceAdd, Nat.reduceSub, Nat.reduceMul, Nat.reduceLT, Int.reduceToNat, Int.reduceBEq, Int.reduceBNe, Int.reduceLT, Int.reduceLE, E, E', TY, e2, a1, e3, Int.toNat_natCast]
    refine ⟨⟨by omega, by omega, hAs⟩, a0, ⟨by omega, by omega, hAs⟩, a0, ?_⟩
    obtain ⟨R, hR⟩ : ∃ R, addF s ids (g.l.map (·.1)) = R := ⟨_, rfl⟩
    obtain ⟨v1, v2, v3⟩ := addF_inv hs ids hh (g.l.map (·.1))
    rw [hR] at v1 v2 v3
    refine ⟨fnok18, CallAt.add s (hs.fit (by omega)) 1 rfl ids r.cap g.l g.c R hR (fun i hi => h64 i (hh i hi)) (by omega) hgl.z (by omega) hT (fun new w' own ho => ?_) fun nl b cap cur hF' => Res.run 900 ?_⟩
    · have hR2 : (RowA r.b r.nl 3 r.cur).R (own 2) _ w' := ho.ok 2 _ rfl
      exact ⟨_, _, rfl, (cs_rowA hR2 hF).mono (gm_of (i := 1) (j := 2) ho (by simp) (by simp) (by decide)), fun h => List.eq_nil_of_length_eq_zero (hF.none h), (hgl.a.keep ho.keep).mono (gm_base (i := 1) ho (by simp)), (hgl.n.keep ho.keep).mono (gm_base (i := 1) ho (by simp))⟩
    by_cases h0 : R.2.2 = 0
    · have e4 : (R.2.2 == 0) = true := by simp [h0]
      simp only [↓reduceIte, Nat.reduceEqDiff, Nat.reduceAdd, Nat.reduceSub, Nat.reduceMul, Nat.reduceLT, Int.reduceToNat, Int.reduceBEq, Int.reduceBNe, Int.reduceLT, Int.reduceLE, E, E', TY, e4]
      refine ⟨i64ok_of (by omega) (by omega), ?_⟩
      refine Res.merge 2 [2, 3] (RowA b nl 3 cur) ⟨by simp, by simp⟩ (fun new w' own ho => ?_) ?_
      · have h3 : (RowA b nl 3 cur).R (own 3) _ w' := ho.ok 3 _ rfl
        exact fun hn => ⟨⟨3, by simp, by simp, (h3 hn).1⟩, (h3 hn).2⟩
      have v4 := v3 h0
      exact Res.again (⟨⟨k + 1, R.1, R.2.1, ⟨nl, b, cap, cur⟩⟩, ⟨by simp only; omega, v1, v4.1, by simp only; omega, hF'⟩⟩ : {z : CZ // z.ok gs.length}) (by simp only; omega) (St.Le.of 3 (by simp only [↓reduceIte, Nat.reduceEqDiff, Nat.reduceAdd, Nat.reduceSub, Nat.reduceMul, Nat.reduceLT, Int.reduceToNat, Int.reduceBEq, Int.reduceBNe, Int.reduceLT, Int.reduceLE, E, E', TY, St.merge, killE, Int.natCast_add, Int.cast_ofNat_Int]) (hx := by show 0 ≤ 3; decide))
    · have e4 : (R.2.2 == 0) = false := beq_ff h0
      simp only [↓reduceIte, Nat.reduceEqDiff, Nat.reduceAdd, Nat.reduceSub, Nat.reduceMul, Nat.reduceLT, Int.reduceToNat, Int.reduceBEq, Int.reduceBNe, Int.reduceLT, Int.reduceLE, E, E', TY, e4]
      refine ⟨i64ok_of (by omega) (by omega), ?_⟩
      refine Res.merge 2 [2, 3] (RowA r.b r.nl 3 r.cur) ⟨by simp, by simp⟩ (fun new w' own ho => ?_) ?_
      · have h3 : (RowA r.b r.nl 3 r.cur).R (own 2) _ w' := ho.ok 2 _ rfl
        exact fun hn => ⟨⟨2, by simp, by simp, (h3 hn).1⟩, (h3 hn).2⟩
      exact Res.again (⟨⟨k + 1, R.1, ids, r⟩, ⟨by simp only; omega, v1, fun i hi => hasF_iff.2 ⟨(hasF_iff.1 (hh i hi)).1, by have := (hasF_iff.1 (hh i hi)).2; show i < (R.1.ts.length : Int); omega⟩, by simp only; omega, hF⟩⟩ : {z : CZ // z.ok gs.length}) (by simp only; omega) (St.Le.of 3 (by simp only [↓reduceIte, Nat.reduceEqDiff, Nat.reduceAdd, Nat.reduceSub, Nat.reduceMul, Nat.reduceLT, Int.reduceToNat, Int.reduceBEq, Int.reduceBNe, Int.reduceLT, Int.reduceLE, E, E', TY, St.merge, killE, Int.natCast_add, Int.cast_ofNat_Int]) (hx := by show 0 ≤ 3; decide))
  obtain rfl : k = gs.length := by omega
  have e2 : decide ((gs.length : Int) < (gs.length : Int)) = false := by simp
  refine Res.free (b := r.b) (nl := r.nl) (ty := 3) (cur := r.cur) 2 rfl fun nx w1 hnx hKw hrow => ?_
  refine Res.le (St.Le.unfix (X := []) (m := nx) rfl) ?_
  have hI : Cs (fun x => x < w.heap.size ∨ (r.nl = false ∧ x = r.b)) w1 (sA r.nl r.b 0) (ics ids) :=
    cs_rowA (O := fun x => x < w.heap.size ∨ (r.nl = false ∧ x = r.b)) (q := 0) (w := w1) (b := r.b) (nl := r.nl) (ty := 3) (cur := r.cur) (fun hn => ⟨.inr ⟨hn, rfl⟩, (hrow hn).1⟩) hF
  have fin : ∀ {w' : World}, Keep (fun x => x < w.heap.size ∨ (r.nl = false ∧ x = r.b)) w1 w' → Ext w w' := fun hk => hKw.trans (hk.mono fun b hb => .inl hb)
  generalize hG1 : (fun x => x < w.heap.size ∨ (r.nl = false ∧ x = r.b)) = G1 at hI fin
  refine Res.run 900 ?_
  simp only [↓reduceIte, Nat.reduceEqDiff, Nat.reduceAdd, Nat.reduceSub, Nat.reduceMul, Nat.reduceLT, Int.reduceToNat, Int.reduceBEq, Int.reduceBNe, Int.reduceLT, Int.reduceLE, E, E', TY, e2]
  obtain ⟨u, e, hue⟩ : ∃ u e, clF s ids ⟨vk, vn, ⟨hk, hn⟩⟩ = (u, e) := ⟨_, _, rfl⟩
  refine ⟨fnok23, CallAt.detS (.v (.tuple #[u.v, .int .i64 e])) trivial (fun new w' hs' => ?_) (Res.run 900 ?_)⟩
  · obtain ⟨own, ho⟩ := hs'
    have := m_Close (tabW_of (i := 1) ho rfl) ids (sA r.nl r.b 0) r.cap ((hI.keep ho.keep).mono fun b hb => Nat.lt_of_lt_of_le (ho.inW b hb) ho.keep.size) ⟨vk, vn, ⟨hk, hn⟩⟩
    rw [hue] at this
    exact this
  have huv : u.v = .agg #[.int .i64 u.k, .bool u.nul, .int .i64 u.h.k, .int .i64 u.h.n] := rfl
  by_cases hcase : vk = 3 ∧ hk = 13
  case neg =>
    have hid : mvV (clH s ids) ⟨vk, vn, ⟨hk, hn⟩⟩ = ⟨vk, vn, ⟨hk, hn⟩⟩ := by
      unfold mvV
      split
      · rename_i h3
        have : hk ≠ 13 := fun h => hcase ⟨h3, h⟩
        unfold clH
        rw [if_pos this]
      · rfl
    have hok : (decide (vk ≠ 3) || clOk s ids ⟨hk, hn⟩) = true := by
      by_cases h3 : vk = 3
      · have : hk ≠ 13 := fun h => hcase ⟨h3, h⟩
        simp [clOk, this]
      · simp [h3]
    have hcf : clF s ids ⟨vk, vn, ⟨hk, hn⟩⟩ = if pvF ⟨vk, vn, ⟨hk, hn⟩⟩ = true then (⟨vk, vn, ⟨hk, hn⟩⟩, 0) else (⟨0, false, ⟨0, 0⟩⟩, 2) := by
      unfold clF
      simp only [hok, Bool.and_true, hid]
    rw [hcf] at hue
    obtain ⟨b, hb⟩ : ∃ b, pvF ⟨vk, vn, ⟨hk, hn⟩⟩ = b := ⟨_, rfl⟩
    rw [hb] at hue
    have call : ∀ w', Keep G1 w1 w' → Calls Tryd.prog 14 #[(⟨vk, vn, ⟨hk, hn⟩⟩ : Vl).v] w' fun e w'' => e = .returned (.bool b) ∧ Ext w' w'' := fun w' _ => by rw [← hb]; exact m_PlainVal _
    by_cases h3 : vk = 3
    case' neg =>
      have e5 : (vk != 3) = true := by simp [h3]
      simp only [↓reduceIte, Nat.reduceEqDiff, Nat.reduceAdd, Nat.reduceSub, Nat.reduceMul, Nat.reduceLT, Int.reduceToNat, Int.reduceBEq, Int.reduceBNe, Int.reduceLT, Int.reduceLE, E, E', TY, huv, e5]
    case' pos =>
      have e5 : (vk != 3) = false := by simp [h3]
      have e6 : (hk != 13) = true := by
        have : hk ≠ 13 := fun h => hcase ⟨h3, h⟩
        simp [this]
      simp only [↓reduceIte, Nat.reduceEqDiff, Nat.reduceAdd, Nat.reduceSub, Nat.reduceMul, Nat.reduceLT, Int.reduceToNat, Int.reduceBEq, Int.reduceBNe, Int.reduceLT, Int.reduceLE, E, E', TY, huv, e5, e6]
    all_goals
      refine ⟨fnok14, CallAt.det #[(⟨vk, vn, ⟨hk, hn⟩⟩ : Vl).v] (.bool b) (fun _ => rfl) call (Res.run 900 ?_)⟩
      cases b with
      | true =>
        rw [if_pos rfl] at hue
        simp only [Prod.mk.injEq] at hue
        obtain ⟨rfl, rfl⟩ := hue
        simp only [↓reduceIte, Nat.reduceEqDiff, Nat.reduceAdd, Nat.reduceSub, Nat.reduceMul, Nat.reduceLT, Int.reduceToNat, Int.reduceBEq, Int.reduceBNe, Int.reduceLT, Int.reduceLE, E, E', TY, beq_self_eq_true]
        exact Ret.body [.v (.bool true)] rfl (by kernel_rfl) fun new w' hs' => ⟨rfl, fin hs'.keep⟩
      | false =>
        rw [if_neg (by simp)] at hue
        simp only [Prod.mk.injEq] at hue
        obtain ⟨rfl, rfl⟩ := hue
        simp only [↓reduceIte, Nat.reduceEqDiff, Nat.reduceAdd, Nat.reduceSub, Nat.reduceMul, Nat.reduceLT, Int.reduceToNat, Int.reduceBEq, Int.reduceBNe, Int.reduceLT, Int.reduceLE, E, E', TY, beq_self_eq_true]
        exact Ret.body [.v (.bool true)] rfl (by kernel_rfl) fun new w' hs' => ⟨rfl, fin hs'.keep⟩
  obtain ⟨rfl, rfl⟩ := hcase
  have e5 : ((3 : Int) != 3) = false := rfl
  have e6 : ((13 : Int) != 13) = false := rfl
  by_cases hin : 0 ≤ hn ∧ hn < ids.length
  case neg =>
    have hcf : clF s ids ⟨3, vn, ⟨13, hn⟩⟩ = (⟨0, false, ⟨0, 0⟩⟩, 2) := by
      unfold clF
      have : (decide ((3 : Int) ≠ 3) || clOk s ids ⟨13, hn⟩) = false := by simp [clOk]; omega
      simp only [this, Bool.and_false]
      rfl
    rw [hcf] at hue
    simp only [Prod.mk.injEq] at hue
    obtain ⟨rfl, rfl⟩ := hue
    by_cases h0 : hn < 0
    · have e7 : decide (hn < 0) = true := decide_eq_true h0
      simp only [↓reduceIte, Nat.reduceEqDiff, Nat.reduceAdd, Nat.reduceSub, Nat.reduceMul, Nat.reduceLT, Int.reduceToNat, Int.reduceBEq, Int.reduceBNe, Int.reduceLT, Int.reduceLE, E, E', TY, huv, e5, e6, e7, beq_self_eq_true]
      exact Ret.body [.v (.bool true)] rfl (by kernel_rfl) fun new w' hs' => ⟨rfl, fin hs'.keep⟩
    · have e7 : decide (hn < 0) = false := decide_eq_false h0
      have e8 : decide (hn ≥ ((ids.length : Nat) : Int)) = true := decide_eq_true (by omega)
      simp only [↓reduceIte, Nat.reduceEqDiff, Nat.reduceAdd, Nat.reduceSub, Nat.reduceMul, Nat.reduceLT, Int.reduceToNat, Int.reduceBEq, Int.reduceBNe, Int.reduceLT, Int.reduceLE, E, E', TY, huv, e5, e6, e7, e8, beq_self_eq_true]
      exact Ret.body [.v (.bool true)] rfl (by kernel_rfl) fun new w' hs' => ⟨rfl, fin hs'.keep⟩
  have hgd : ids.getD hn.toNat 0 = ids[hn.toNat]'(by omega) := by rw [List.getD_eq_getElem?_getD, List.getElem?_eq_getElem (by omega)]; rfl
  have hcf : clF s ids ⟨3, vn, ⟨13, hn⟩⟩ = (⟨3, vn, ⟨15, ids[hn.toNat]'(by omega)⟩⟩, 0) := by
    have h1 : pvF ⟨3, vn, ⟨13, hn⟩⟩ = true := by
      show decide (0 ≤ hn ∧ hn ≤ 4294967295) = true
      exact decide_eq_true ⟨hin.1, by omega⟩
    have h2 : clOk s ids ⟨13, hn⟩ = true := by
      unfold clOk
      simp only [hgd, hh _ (List.getElem_mem (show hn.toNat < ids.length by omega)), Bool.and_true]
      simp [hin]
    unfold clF
    rw [h1, h2]
    simp only [Bool.or_true, Bool.and_true, if_true, mvV, clH, h2, hgd]
    rfl
  rw [hcf] at hue
  simp only [Prod.mk.injEq] at hue
  obtain ⟨rfl, rfl⟩ := hue
  have e7 : decide (hn < 0) = false := decide_eq_false (by omega)
  have e8 : decide (hn ≥ ((ids.length : Nat) : Int)) = false := decide_eq_false (by omega)
  obtain ⟨q1, q2⟩ := ics_at hI hn.toNat (by omega)
  have hAs2 : (sA r.nl r.b 0).isSome = true := okRd_some q1
  simp only [↓reduceIte, Nat.reduceEqDiff, Nat.reduceAdd, Nat.reduceSub, Nat.reduceMul, Nat.reduceLT, Int.reduceToNat, Int.reduceBEq, Int.reduceBNe, Int.reduceLT, Int.reduceLE, E, E', TY, huv, e5, e6, e7, e8, q2, beq_self_eq_true]
  refine ⟨⟨by omega, by omega, hAs2⟩, q1, ?_⟩
  exact Ret.body [.v (.bool true)] rfl (by kernel_rfl) fun new w' hs' => ⟨rfl, fin hs'.keep⟩
end Go.Proofs.YtkcbmkoafmffoaaDoor
