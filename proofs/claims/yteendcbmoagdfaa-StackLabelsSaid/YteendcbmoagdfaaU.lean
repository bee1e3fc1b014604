/-
  The machine's methods: Take.
-/
import Derived.Test.YteendcbmoagdfaaT
set_option linter.unusedVariables false
set_option linter.unusedSimpArgs false
set_option maxRecDepth 20000
set_option maxHeartbeats 4000000
namespace Go.Proofs.Yteendcbmoagdfaa
open Go Go.Eng

/-- The stack behind i values taken (l: what is taken, the first one first). -/
def stAt (fr : List Frm) (l : List Vl) (st : List Vl) : Nat → List Vl
  | 0 => st
  | i + 1 => (takeF (stAt fr l st i) fr (l.getD i vZ)).2
/-- What the i-th one tells. -/
def erAt (fr : List Frm) (l : List Vl) (st : List Vl) (i : Nat) : Int := (takeF (stAt fr l st i) fr (l.getD i vZ)).1

/-- Types are taken, the last one first. -/
def takesR (fr : List Frm) : List Vl → List Vl → Int × List Vl
  | [], st => (0, st)
  | v :: l, st => let r := takeF st fr v; if r.1 = 0 then takesR fr l r.2 else r
def takesF (st : List Vl) (fr : List Frm) (vs : List Vl) : Int × List Vl := takesR fr vs.reverse st

theorem stAt_succ' (fr : List Frm) (v : Vl) (l : List Vl) (st : List Vl) : ∀ i, stAt fr (v :: l) st (i + 1) = stAt fr l (takeF st fr v).2 i
  | 0 => rfl
  | i + 1 => by
    rw [stAt, stAt_succ' fr v l st i]
    rfl
theorem takesR_done (fr : List Frm) : ∀ (l : List Vl) (st : List Vl), (∀ i, i < l.length → erAt fr l st i = 0) → takesR fr l st = (0, stAt fr l st l.length)
  | [], st, _ => rfl
  | v :: l, st, h => by
    have h0 : (takeF st fr v).1 = 0 := h 0 (by simp)
    simp only [takesR, h0, if_true]
    rw [takesR_done fr l _ (fun i hi => by
      have := h (i + 1) (by simp; omega)
      unfold erAt at this ⊢
      rw [stAt_succ'] at this
      exact this)]
    rw [List.length_cons, stAt_succ']
theorem takesR_stop (fr : List Frm) : ∀ (l : List Vl) (st : List Vl) (i : Nat), i < l.length → (∀ j, j < i → erAt fr l st j = 0) → erAt fr l st i ≠ 0 → takesR fr l st = (erAt fr l st i, stAt fr l st (i + 1))
  | [], st, i, hi, _, _ => by simp at hi
  | v :: l, st, 0, hi, _, h => by
    have h0 : (takeF st fr v).1 ≠ 0 := h
    simp only [takesR, h0, if_false]
    rfl
  | v :: l, st, i + 1, hi, hj, h => by
    have h0 : (takeF st fr v).1 = 0 := hj 0 (by omega)
    simp only [takesR, h0, if_true]
    have hs : ∀ j, erAt fr (v :: l) st (j + 1) = erAt fr l (takeF st fr v).2 j := by
      intro j
      unfold erAt
      rw [stAt_succ']
      rfl
    rw [takesR_stop fr l _ i (by simpa using hi) (fun j hj' => by rw [← hs]; exact hj (j + 1) (by omega)) (by rw [← hs]; exact h), hs, stAt_succ']

theorem popF_len (st : List Vl) (fr : List Frm) : (popF st fr).2.2.length ≤ st.length := by
  unfold popF
  split
  · split
    · simp
    · split
      · simp
      · split <;> simp
  · split
    · simp
    · split <;> simp
theorem stAt_len (fr : List Frm) (l : List Vl) (st : List Vl) : ∀ i, (stAt fr l st i).length ≤ st.length
  | 0 => Nat.le_refl _
  | i + 1 => Nat.le_trans (popF_len _ _) (stAt_len fr l st i)

/-- there, where the machine is one thing. -/
theorem there_asn {w w' : World} {O : Nat → Prop} {m t : Nat} {st st' : List Vl} {fr fr' : List Frm} {pp pp' : Option MachP} {σ : St} {new : List Nat} (h : Mc w O m t st fr pp) (hs : HS (Gm w O) w σ new w') (he : σ.L[0]? = some (.asn (MachA t st' fr' pp'))) (hX : (σ.X ++ new).getD 0 0 = m) :
    Calls Try.prog 27 #[.pointer (some ⟨m, 0, none⟩)] w' fun e w'' => e = .returned (.bool true) ∧ Ext w' w'' := by
  obtain ⟨own, ho⟩ := hs
  obtain ⟨p, hp, _⟩ := ho.ok 0 _ he
  have hm := hp.hm
  rw [hX] at hm
  exact m_there hm (h.tab.keepG ho.keep h.out)

theorem m_Take' {pp : Option MachP} {w : World} {O : Nat → Prop} {m t : Nat} {st : List Vl} {fr : List Frm} (h : Mc w O m t st fr pp) (A : Option Addr) (c : Nat) (vs : List Vl)
    (hvs : ∀ w' O' st', (MachA t st' fr pp).R O' m w' → (∀ b, O' b → b < w'.heap.size) → Keep (Gm w O) w w' → Cs (· < w'.heap.size) w' A (flat vs)) (hsz : st.length ≤ 1000000) (hfz : fr.length ≤ 1000000) (hvz : vs.length ≤ 1000000) :
    Calls Try.prog 17 #[.pointer (some ⟨m, 0, none⟩), .slice A vs.length c] w fun e w' => e = .returned (.int .i64 (takesF st fr vs).1) ∧ Mq w w' O m t (takesF st fr vs).2 fr pp := by
  refine startM (X := [m]) (L := [.asn (MachA t st fr pp)]) (args := [.p 0 0, .v (.slice A vs.length c)]) (G := Gm w O) Try.func17 rfl Try.ntmps17 (by simp [SV.lt]) (h.asn _) ?_
  refine Res.run 1000 ?_
  simp only [↓reduceIte, Nat.reduceEqDiff, Nat.reduceAdd, Nat.reduceSub, Nat.reduceMul, Nat.reduceLT, Int.reduceToNat, Int.reduceBEq, Int.reduceBNe, Int.reduceLT, Int.reduceLE, E, E', TY]
  refine ⟨fnok27, CallAt.detS (.v (.bool true)) trivial (fun new w' hs => there_asn h hs rfl rfl) (Res.run 900 ?_)⟩
  simp only [↓reduceIte, Nat.reduceEqDiff, Nat.reduceAdd, Nat.reduceSub, Nat.reduceMul, Nat.reduceLT, Int.reduceToNat, Int.reduceBEq, Int.reduceBNe, Int.reduceLT, Int.reduceLE, E, E', TY]
  refine ⟨fnok32, CallAt.mkA (fun v A' => ∃ b, v = .func (.func 42) #[] #[.pointer (some ⟨b, 0, none⟩)] ∧ A' = RowA b false 22 [.slice A vs.length c]) ?_ ?_⟩
  · intro new w' hs
    refine (m_backward A vs.length c).mono ?_
    rintro e w'' ⟨b, rfl, hE, h1, h2, h3⟩
    exact ⟨_, _, fun x => x = b, rfl, ⟨b, rfl, rfl⟩, fun _ => ⟨rfl, h3⟩, hE, by rintro _ rfl; exact ⟨h1, h2⟩⟩
  rintro _ _ ⟨b, rfl, rfl⟩
  refine Res.run 900 ?_
  simp only [↓reduceIte, Nat.reduceEqDiff, Nat.reduceAdd, Nat.reduceSub, Nat.reduceMul, Nat.reduceLT, Int.reduceToNat, Int.reduceBEq, Int.reduceBNe, Int.reduceLT, Int.reduceLE, E, E', TY]
  refine Res.rangeF (gf := 42) (lb := #[.pointer (some ⟨b, 0, none⟩)]) rfl fnok42 vs.length (bwE vs) (fun _ => rfl) (fun i => ∀ j, j < i → erAt fr vs.reverse st j = 0) (fun i => (∀ j, j < i → erAt fr vs.reverse st j = 0) ∧ erAt fr vs.reverse st i ≠ 0) (fun j hj => by omega)
    (fun i => [.asn (MachA t (stAt fr vs.reverse st i) fr pp), .cells 28 [.v (.int .i64 0)], .cells 72 [.fn (.func 31) [.p 0 0] []], .asn (RowA b false 22 [.slice A vs.length c])])
    (fun i => [.asn (MachA t (stAt fr vs.reverse st (i + 1)) fr pp), .cells 28 [.v (.int .i64 (erAt fr vs.reverse st i))], .cells 72 [.fn (.func 31) [.p 0 0] []], .asn (RowA b false 22 [.slice A vs.length c])])
    rfl (fun _ => rfl) (fun _ => rfl) ?_ ?_ (BwR b A c vs) ?_ (bw_iter b A c vs hvz) ?_ ?_ ?_
  · intro i e he
    simp only [List.mem_cons, List.not_mem_nil, or_false] at he
    rcases he with rfl | rfl | rfl | rfl <;> simp [Ent.lt, SV.lt, At.lt]
  · intro i e he
    simp only [List.mem_cons, List.not_mem_nil, or_false] at he
    rcases he with rfl | rfl | rfl | rfl <;> simp [Ent.lt, SV.lt, At.lt]
  · rintro i X r w' hX ⟨own, ho⟩
    have h3 : (RowA b false 22 [.slice A vs.length c]).R (own 3) _ w' := ho.ok 3 _ rfl
    have h0 : (MachA t (stAt fr vs.reverse st i) fr pp).R (own 0) (X.getD 0 0) w' := by have := ho.ok 0 _ rfl; simp only [List.append_nil] at this; exact this
    obtain ⟨_, rfl⟩ := hX
    exact ⟨(h3 rfl).2, hvs w' (own 0) _ h0 (fun b hb => (ho.out 0 b (by rw [rfL_len]; simp) hb).2) ho.keep⟩
  · intro X l r i hi hΦ hX hl hpre hr hp
    obtain ⟨vv, hv⟩ : ∃ v, vs.reverse.getD i vZ = v := ⟨_, rfl⟩
    obtain ⟨vk, vn, vhk, vhn⟩ := vv
    refine Res.run 900 ?_
    simp only [↓reduceIte, Nat.reduceEqDiff, Nat.reduceAdd, Nat.reduceSub, Nat.reduceMul, Nat.reduceLT, Int.reduceToNat, Int.reduceBEq, Int.reduceBNe, Int.reduceLT, Int.reduceLE, E, E', TY, tSet, bwE, hv, Vl.v, rfL, List.cons_append, List.nil_append]
    refine Res.begin (r := r) 5 rfl (by rw [hX]; simp) hl hr (Res.run 900 ?_)
    simp only [↓reduceIte, Nat.reduceEqDiff, Nat.reduceAdd, Nat.reduceSub, Nat.reduceMul, Nat.reduceLT, Int.reduceToNat, Int.reduceBEq, Int.reduceBNe, Int.reduceLT, Int.reduceLE, E, E', TY]
    refine ⟨fnok31, CallAt.asn 0 (MachA t (stAt fr vs.reverse st i) fr pp) rfl (fun v A' => v = .int .i64 (erAt fr vs.reverse st i) ∧ A' = MachA t (stAt fr vs.reverse st (i + 1)) fr pp) ?_ ?_⟩
    · intro new w' O' hs hR hO
      have hX0 : (X ++ new).getD 0 0 = m := by obtain ⟨_, rfl⟩ := hpre; rfl
      have := (m_take (Mc.of hs hR hO h.tab h.out) ⟨vk, vn, vhk, vhn⟩ (Nat.le_trans (stAt_len _ _ _ _) hsz) hfz).mono (R' := fun e w'' => ∃ v A' O'', e = .returned v ∧ (v = .int .i64 (erAt fr vs.reverse st i) ∧ A' = MachA t (stAt fr vs.reverse st (i + 1)) fr pp) ∧ A'.R O'' ((X ++ new).getD 0 0) w'' ∧ Chg w' w'' O' O'') ?_
      · exact this
      rintro e w'' ⟨rfl, O'', hR', hC⟩
      refine ⟨_, _, O'', rfl, ⟨?_, rfl⟩, ?_, hC⟩
      · unfold erAt; rw [hv]
      · show (MachA t (takeF _ fr (vs.reverse.getD i vZ)).2 fr pp).R _ _ _
        rw [hv]; exact hR'
    rintro _ _ ⟨rfl, rfl⟩
    refine Res.run 900 ?_
    simp only [↓reduceIte, Nat.reduceEqDiff, Nat.reduceAdd, Nat.reduceSub, Nat.reduceMul, Nat.reduceLT, Int.reduceToNat, Int.reduceBEq, Int.reduceBNe, Int.reduceLT, Int.reduceLE, E, E', TY]
    by_cases he : erAt fr vs.reverse st i = 0
    · have e0 : (erAt fr vs.reverse st i != 0) = false := by simp [he]
      simp only [↓reduceIte, Nat.reduceEqDiff, Nat.reduceAdd, Nat.reduceSub, Nat.reduceMul, Nat.reduceLT, Int.reduceToNat, Int.reduceBEq, Int.reduceBNe, Int.reduceLT, Int.reduceLE, E, E', TY, e0]
      intro new a w' hs
      refine ⟨fun j hj => ?_, [.cells 41 [.v (.int .i64 vk), .v (.bool vn), .v (.int .i64 vhk), .v (.int .i64 vhn)]], new, hs.hs.same rfl rfl⟩
      rcases Nat.lt_or_ge j i with h1 | h1
      · exact hΦ j h1
      · obtain rfl : j = i := by omega
        exact he
    · have e0 : (erAt fr vs.reverse st i != 0) = true := by simp [he]
      simp only [↓reduceIte, Nat.reduceEqDiff, Nat.reduceAdd, Nat.reduceSub, Nat.reduceMul, Nat.reduceLT, Int.reduceToNat, Int.reduceBEq, Int.reduceBNe, Int.reduceLT, Int.reduceLE, E, E', TY, e0]
      intro new a w' hs
      exact ⟨⟨hΦ, he⟩, [.cells 41 [.v (.int .i64 vk), .v (.bool vn), .v (.int .i64 vhk), .v (.int .i64 vhn)]], new, hs.hs.same rfl rfl⟩
  · intro X r hX hΦ
    refine Res.run 900 ?_
    simp only [↓reduceIte, Nat.reduceEqDiff, Nat.reduceAdd, Nat.reduceSub, Nat.reduceMul, Nat.reduceLT, Int.reduceToNat, Int.reduceBEq, Int.reduceBNe, Int.reduceLT, Int.reduceLE, E, E', TY, rfL, List.cons_append, List.nil_append]
    have htf : takesF st fr vs = (0, stAt fr vs.reverse st vs.length) := by
      have := takesR_done fr vs.reverse st (fun i hi => hΦ i (by simpa using hi))
      simpa [takesF] using this
    rw [htf]
    refine Ret.mark 4 [.v (.int .i64 0)] rfl rfl (by kernel_rfl) fun new w' hs => ⟨rfl, ?_⟩
    exact Mq.of_asn hs (by obtain ⟨_, rfl⟩ := hX; rfl) rfl
  · rintro X r i hX hi ⟨hΦ, he⟩
    have htf : takesF st fr vs = (erAt fr vs.reverse st i, stAt fr vs.reverse st (i + 1)) := takesR_stop fr vs.reverse st i (by simpa using hi) hΦ he
    rw [htf]
    refine Ret.mark 4 [.v (.int .i64 (erAt fr vs.reverse st i))] rfl rfl (by kernel_rfl) fun new w' hs => ⟨rfl, ?_⟩
    exact Mq.of_asn hs (by obtain ⟨_, rfl⟩ := hX; rfl) rfl

theorem m_Take {pp : Option MachP} {w : World} {O : Nat → Prop} {m t : Nat} {st : List Vl} {fr : List Frm} (h : Mc w O m t st fr pp) (A : Option Addr) (c : Nat) (vs : List Vl) (hvs : Cs (Gm w O) w A (flat vs)) (hsz : st.length ≤ 1000000) (hfz : fr.length ≤ 1000000) (hvz : vs.length ≤ 1000000) :
    Calls Try.prog 17 #[.pointer (some ⟨m, 0, none⟩), .slice A vs.length c] w fun e w' => e = .returned (.int .i64 (takesF st fr vs).1) ∧ Mq w w' O m t (takesF st fr vs).2 fr pp :=
  m_Take' h A c vs (fun w' O' st' _ _ hk => (hvs.keep hk).mono fun b hb => Nat.lt_of_lt_of_le hb.1 hk.size) hsz hfz hvz

/-- A list of the last frame is where it was, whatever is taken. -/
theorem frame_list {w : World} {O : Nat → Prop} {m t : Nat} {st : List Vl} {fr : List Frm} {p : MachP} {k : Nat} {f : Frm} {x : FA} (hk : k < fr.length) (hf : fr[k] = f) (hk' : k < p.xs.length) (hx : p.xs[k] = x) (h : (MachA t st fr (some p)).R O m w) : FOk O w f x := by
  obtain ⟨p', hp, hq⟩ := h
  have hq : { p' with Or := p.Or } = p := hq p rfl
  have hxs : p'.xs = p.xs := by have := congrArg MachP.xs hq; exact this
  have := hp.r.2 k hk (by rw [hxs]; exact hk')
  have hx' : p'.xs[k]'(by rw [hxs]; exact hk') = x := by
    have : ∀ (l : List FA) (hl : k < l.length), l = p.xs → l[k] = x := by rintro l hl rfl; exact hx
    exact this _ _ hxs
  rw [hf, hx'] at this
  exact this.mono fun b hb => hp.own 3 b (.inr (.inr (.inr ⟨rfl, hb⟩)))
end Go.Proofs.Yteendcbmoagdfaa
