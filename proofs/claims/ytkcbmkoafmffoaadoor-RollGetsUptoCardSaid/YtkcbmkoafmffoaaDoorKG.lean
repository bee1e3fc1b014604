/-
  The kind layer: PlainSub.
-/
import Derived.Test.YtkcbmkoafmffoaaDoorKF
set_option linter.unusedVariables false
set_option linter.unusedSimpArgs false
set_option maxRecDepth 20000
set_option maxHeartbeats 8000000
namespace Go.Proofs.YtkcbmkoafmffoaaDoor
open Go Go.Eng

theorem m_Heaps {w : World} (s : Sb) (x : SL) : Calls Tryd.prog 36 #[s.v x] w fun e w' => ∃ b, e = .returned (.func (.func 69) #[] #[.pointer (some ⟨b, 0, none⟩)]) ∧ Ext w w' ∧ w.heap.size ≤ b ∧ b < w'.heap.size ∧ w'.heap[b]? = some (.cells (s.cs x).toArray 29 (0, 0)) := by
  refine start0 (args := [.v (s.v x)]) (G := (· < w.heap.size)) Tryd.func36 rfl Tryd.ntmps36 (by simp [SV.lt]) (fun _ h => h) ?_
  refine Res.run 1000 ?_
  simp only [↓reduceIte, Nat.reduceEqDiff, Nat.reduceAdd, Nat.reduceSub, Nat.reduceMul, Nat.reduceLT, Int.reduceToNat, Int.reduceBEq, Int.reduceBNe, Int.reduceLT, Int.reduceLE, E, E', TY, Sb.v]
  refine Ret.body [.fn (.func 69) [] [.p 0 0]] rfl (by kernel_rfl) fun new w' hs => ?_
  obtain ⟨own, ho⟩ := hs
  obtain ⟨k1, k2⟩ := ho.ok 0 _ rfl
  obtain ⟨k3, k4⟩ := ho.out 0 _ (by simp) k1
  exact ⟨_, rfl, ho.keep, by omega, k4, k2⟩

/-- What a declared type's kind asks of its lists. -/
def shF (s : Sb) : Bool := if s.k = 1 then decide (s.fs.length = 0) else if s.k = 2 then decide (s.ps.length + s.rs.length = 0) else if s.k = 3 then decide (s.ps.length + s.rs.length = 0 ∧ s.fs.length = 1) else false
def psF (s : Sb) : Bool := s.su.all (fun h => h.k == 13) && ((sHeaps s).all phF && (s.ps.all pvF && (s.rs.all pvF && (s.fs.all pfF && shF s))))

theorem any_not {α : Type} (l : List α) (p : α → Bool) : (l.any fun v => !p v) = !l.all p := by
  induction l with
  | nil => rfl
  | cons v l ih => simp [List.any_cons, List.all_cons, ih, Bool.not_and]

theorem m_PlainSub {w : World} (s : Sb) (x : SL) (hs : SbR (· < w.heap.size) w s x) (hz : s.small 1100000) :
    Calls Tryd.prog 11 #[s.v x] w fun e w' => e = .returned (.bool (psF s)) ∧ Ext w w' := by
  obtain ⟨r, hr⟩ : ∃ r, psF s = r := ⟨_, rfl⟩
  rw [hr]
  have hN := sHeaps_le hz
  refine startM (X := []) (L := []) (args := [.v (s.v x)]) (G := (· < w.heap.size)) Tryd.func11 rfl Tryd.ntmps11 (by simp [SV.lt]) (HS.nil fun _ h => h) ?_
  refine Res.run 1000 ?_
  simp only [↓reduceIte, Nat.reduceEqDiff, Nat.reduceAdd, Nat.reduceSub, Nat.reduceMul, Nat.reduceLT, Int.reduceToNat, Int.reduceBEq, Int.reduceBNe, Int.reduceLT, Int.reduceLE, E, E', TY, Sb.v]
  refine Res.loop (X := {k : Nat // k ≤ s.su.length ∧ ∀ j (h : j < s.su.length), j < k → s.su[j].k = 13})
    (fun z => { T := mkT 76 [(1, .p 0 0), (2, .p 1 0), (9, .v (.slice x.a1 s.su.length x.c1)), (10, .v (.int .i64 s.su.length)), (11, .v (.int .i64 (z.1 : Int)))], X := [], L := [.cells 29 [.v (.bool s.fin), .v (.slice x.a1 s.su.length x.c1), .v (.int .i64 s.k), .v (.slice x.a2 s.ps.length x.c2), .v (.slice x.a3 s.rs.length x.c3), .v (.slice x.a4 s.fs.length x.c4)], .cells 4 [.v (.bool false)]], D := [] })
    (fun z => s.su.length - z.1) ⟨0, by omega, fun _ _ h => absurd h (by omega)⟩ (St.Le.of 2 (by simp only [↓reduceIte, Nat.reduceEqDiff, Nat.reduceAdd, Nat.reduceSub, Nat.reduceMul, Nat.reduceLT, Int.reduceToNat, Int.reduceBEq, Int.reduceBNe, Int.reduceLT, Int.reduceLE, E, E', TY]; simp)) ?_
  rintro ⟨k, hk, hinv⟩
  simp only at hk hinv ⊢
  refine Res.run 900 ?_
  by_cases hlt : k < s.su.length
  case pos =>
    have e2 : decide ((k : Int) < (s.su.length : Int)) = true := by simp; omega
    obtain ⟨a0, a1, a2⟩ := hcs_at hs.su k hlt
    have hAs : x.a1.isSome = true := okRd_some a0
    by_cases h13 : s.su[k].k = 13
    · have e3 : (s.su[k].k != 13) = false := by simp [h13]
      simp only [↓reduceIte, Nat.reduceEqDiff, Nat.reduceAdd, Nat.reduceSub, Nat.reduceMul, Nat.reduceLT, Int.reduceToNat, Int.reduceBEq, Int.reduceBNe, Int.reduceLT, Int.reduceLE, E, E', TY, e2, a1, a2, e3, Int.toNat_natCast]
      refine ⟨⟨by omega, by omega, hAs⟩, a0, i64ok_of (by have := hz.su; omega) (by have := hz.su; omega), ?_⟩
      refine Res.again (⟨k + 1, by omega, fun j h1 hj => ?_⟩ : {k : Nat // k ≤ s.su.length ∧ ∀ j (h : j < s.su.length), j < k → s.su[j].k = 13}) (by simp only; omega) (St.Le.of 2 (by simp only [↓reduceIte, Nat.reduceEqDiff, Nat.reduceAdd, Nat.reduceSub, Nat.reduceMul, Nat.reduceLT, Int.reduceToNat, Int.reduceBEq, Int.reduceBNe, Int.reduceLT, Int.reduceLE, E, E', TY, Int.natCast_add, Int.cast_ofNat_Int]))
      by_cases hjk : j = k
      · subst hjk; exact h13
      · exact hinv j h1 (by omega)
    · have e3 : (s.su[k].k != 13) = true := by simp [h13]
      obtain rfl : r = false := by
        rw [← hr]
        have : s.su.all (fun h => h.k == 13) = false := by
          rw [List.all_eq_false]
          exact ⟨s.su[k], List.getElem_mem hlt, by simp [h13]⟩
        unfold psF; rw [this]; rfl
      simp only [↓reduceIte, Nat.reduceEqDiff, Nat.reduceAdd, Nat.reduceSub, Nat.reduceMul, Nat.reduceLT, Int.reduceToNat, Int.reduceBEq, Int.reduceBNe, Int.reduceLT, Int.reduceLE, E, E', TY, e2, a1, a2, e3, Int.toNat_natCast]
      exact ⟨⟨by omega, by omega, hAs⟩, a0, Ret.bodyM [.v (.bool false)] rfl (by kernel_rfl) fun new w' hs' => ⟨rfl, hs'.keep⟩⟩
  obtain rfl : k = s.su.length := by omega
  have e2 : decide ((s.su.length : Int) < (s.su.length : Int)) = false := by simp
  have b1 : s.su.all (fun h => h.k == 13) = true := by
    rw [List.all_eq_true]
    intro h hh
    obtain ⟨j, hj, rfl⟩ := List.mem_iff_getElem.1 hh
    simp [hinv j hj hj]
  simp only [↓reduceIte, Nat.reduceEqDiff, Nat.reduceAdd, Nat.reduceSub, Nat.reduceMul, Nat.reduceLT, Int.reduceToNat, Int.reduceBEq, Int.reduceBNe, Int.reduceLT, Int.reduceLE, E, E', TY, e2]
  refine ⟨fnok36, ?_⟩
  refine CallAt.fresh (fun w1 v w2 => ∃ b, v = .func (.func 69) #[] #[.pointer (some ⟨b, 0, none⟩)] ∧ w1.heap.size ≤ b ∧ b < w2.heap.size ∧ w2.heap[b]? = some (.cells (s.cs x).toArray 29 (0, 0))) #[s.v x] (fun _ => rfl) (fun w1 _ => ?_) ?_
  · refine (m_Heaps s x).mono ?_
    rintro e w2 ⟨b, rfl, h1, h2, h3, h4⟩
    exact ⟨_, rfl, h1, b, rfl, h2, h3, h4⟩
  rintro X w1 v w2 hX hK hE ⟨b, rfl, hb1, hb2, hb⟩
  simp only [List.length_cons, List.length_nil] at hX
  have hS2 : SbR (fun c => c < w.heap.size ∨ (w1.heap.size ≤ c ∧ c < w2.heap.size)) w2 s x := ((hs.keep hK).keep (hE.mono fun c hc => by have := hK.size; omega)).mono fun c hc => .inl hc
  have fin : ∀ {w' : World}, Keep (fun c => c < w.heap.size ∨ (w1.heap.size ≤ c ∧ c < w2.heap.size)) w2 w' → Ext w w' := fun hk => hK.trans ((hE.mono fun c hc => by have := hK.size; omega).trans (hk.mono fun c hc => .inl hc))
  refine Res.run 900 ?_
  simp only [↓reduceIte, Nat.reduceEqDiff, Nat.reduceAdd, Nat.reduceSub, Nat.reduceMul, Nat.reduceLT, Int.reduceToNat, Int.reduceBEq, Int.reduceBNe, Int.reduceLT, Int.reduceLE, E, E', TY]
  refine Res.rangeFW (gf := 69) (lb := #[.pointer (some ⟨b, 0, none⟩)]) rfl fnok69 (sHeaps s).length (hpE s) (fun _ => rfl) (fun i => ∀ j (h : j < (sHeaps s).length), j < i → phF (sHeaps s)[j] = true) (fun i => ∃ h : i < (sHeaps s).length, phF (sHeaps s)[i] = false) (fun j _ hj => by omega)
    (fun _ => [.cells 29 [.v (.bool s.fin), .v (.slice x.a1 s.su.length x.c1), .v (.int .i64 s.k), .v (.slice x.a2 s.ps.length x.c2), .v (.slice x.a3 s.rs.length x.c3), .v (.slice x.a4 s.fs.length x.c4)], .cells 4 [.v (.bool false)]])
    (fun _ => [.cells 29 [.v (.bool s.fin), .v (.slice x.a1 s.su.length x.c1), .v (.int .i64 s.k), .v (.slice x.a2 s.ps.length x.c2), .v (.slice x.a3 s.rs.length x.c3), .v (.slice x.a4 s.fs.length x.c4)], .cells 4 [.v (.bool false)]])
    rfl (fun _ => rfl) (fun _ => rfl) ?_ ?_ (HpR (fun c => c < w.heap.size ∨ (w1.heap.size ≤ c ∧ c < w2.heap.size)) b s x) ?_ (heaps_iter _ b s x hz) ?_ ?_ ?_
  · intro i e he
    simp only [List.mem_cons, List.not_mem_nil, or_false] at he
    rcases he with rfl | rfl <;> simp [Ent.lt, SV.lt, At.lt]
  · intro i e he
    simp only [List.mem_cons, List.not_mem_nil, or_false] at he
    rcases he with rfl | rfl <;> simp [Ent.lt, SV.lt, At.lt]
  · rintro i X r w' hX hh
    have hk := hh.keep
    exact ⟨.inr ⟨hb1, hb2⟩, by rw [hk.block b (.inr ⟨hb1, hb2⟩)]; exact hb, hS2.keep hk⟩
  · intro G' W' hKW hGG hGl X l r i hi hΦ hX hl hpre hr' hp
    have hE' : hpE s i = [.agg #[.int .i64 (sHeaps s)[i].k, .int .i64 (sHeaps s)[i].n]] := by
      unfold hpE
      rw [List.getD_eq_getElem?_getD, List.getElem?_eq_getElem hi]; rfl
    refine Res.run 900 ?_
    simp only [↓reduceIte, Nat.reduceEqDiff, Nat.reduceAdd, Nat.reduceSub, Nat.reduceMul, Nat.reduceLT, Int.reduceToNat, Int.reduceBEq, Int.reduceBNe, Int.reduceLT, Int.reduceLE, E, E', TY, tSet, hE', rfL, List.cons_append, List.nil_append]
    refine Res.begin (r := r) 3 rfl (by rw [hX]; simp) hl hr' (Res.run 900 ?_)
    simp only [↓reduceIte, Nat.reduceEqDiff, Nat.reduceAdd, Nat.reduceSub, Nat.reduceMul, Nat.reduceLT, Int.reduceToNat, Int.reduceBEq, Int.reduceBNe, Int.reduceLT, Int.reduceLE, E, E', TY]
    refine ⟨fnok37, CallAt.det #[(sHeaps s)[i].v] (.bool (phF (sHeaps s)[i])) (fun _ => rfl) (fun w' _ => m_plainHeap _) (Res.run 900 ?_)⟩
    cases hph : phF (sHeaps s)[i] with
    | true =>
      simp only [↓reduceIte, Nat.reduceEqDiff, Nat.reduceAdd, Nat.reduceSub, Nat.reduceMul, Nat.reduceLT, Int.reduceToNat, Int.reduceBEq, Int.reduceBNe, Int.reduceLT, Int.reduceLE, E, E', TY]
      intro new a w' hs'
      refine ⟨fun j h hj => ?_, [.cells 33 [.v (.int .i64 (sHeaps s)[i].k), .v (.int .i64 (sHeaps s)[i].n)]], new, hs'.hs.same rfl rfl⟩
      rcases Nat.lt_or_ge j i with h1 | h1
      · exact hΦ j h h1
      · obtain rfl : j = i := by omega
        exact hph
    | false =>
      simp only [↓reduceIte, Nat.reduceEqDiff, Nat.reduceAdd, Nat.reduceSub, Nat.reduceMul, Nat.reduceLT, Int.reduceToNat, Int.reduceBEq, Int.reduceBNe, Int.reduceLT, Int.reduceLE, E, E', TY]
      intro new a w' hs'
      exact ⟨⟨hi, hph⟩, [.cells 33 [.v (.int .i64 (sHeaps s)[i].k), .v (.int .i64 (sHeaps s)[i].n)]], new, hs'.hs.same rfl rfl⟩
  · intro Y lr hY hΦ
    have b2 : (sHeaps s).all phF = true := by
      rw [List.all_eq_true]
      intro h hh
      obtain ⟨j, hj, rfl⟩ := List.mem_iff_getElem.1 hh
      exact hΦ j hj hj
    refine Res.run 900 ?_
    simp only [↓reduceIte, Nat.reduceEqDiff, Nat.reduceAdd, Nat.reduceSub, Nat.reduceMul, Nat.reduceLT, Int.reduceToNat, Int.reduceBEq, Int.reduceBNe, Int.reduceLT, Int.reduceLE, E, E', TY, rfL, List.cons_append, List.nil_append]
    refine ⟨fnok39, CallAt.det #[.slice x.a2 s.ps.length x.c2, .func (.func 38) #[] #[]] (.bool (!s.ps.all pvF)) (fun _ => rfl) (fun w' hw => ?_) (Res.run 900 ?_)⟩
    · have := m_ctV (w := w') x.a2 x.c2 s.ps 38 (fun v => !pvF v) fnok38 (fun v w => m_ps1 v) ((hS2.ps.keep hw).mono fun c hc => by have := hw.size; have := hE.size; have := hK.size; omega) hz.ps
      rw [any_not] at this; exact this
    cases b3 : s.ps.all pvF with
    | false =>
      obtain rfl : r = false := by rw [← hr]; unfold psF; rw [b1, b2, b3]; rfl
      simp only [↓reduceIte, Nat.reduceEqDiff, Nat.reduceAdd, Nat.reduceSub, Nat.reduceMul, Nat.reduceLT, Int.reduceToNat, Int.reduceBEq, Int.reduceBNe, Int.reduceLT, Int.reduceLE, E, E', TY]
      refine Ret.mark 2 [.v (.bool false)] rfl rfl (by kernel_rfl) fun new w' hs' => ⟨rfl, fin hs'.keep⟩
    | true =>
    simp only [↓reduceIte, Nat.reduceEqDiff, Nat.reduceAdd, Nat.reduceSub, Nat.reduceMul, Nat.reduceLT, Int.reduceToNat, Int.reduceBEq, Int.reduceBNe, Int.reduceLT, Int.reduceLE, E, E', TY]
    refine ⟨fnok39, CallAt.det #[.slice x.a3 s.rs.length x.c3, .func (.func 38) #[] #[]] (.bool (!s.rs.all pvF)) (fun _ => rfl) (fun w' hw => ?_) (Res.run 900 ?_)⟩
    · have := m_ctV (w := w') x.a3 x.c3 s.rs 38 (fun v => !pvF v) fnok38 (fun v w => m_ps1 v) ((hS2.rs.keep hw).mono fun c hc => by have := hw.size; have := hE.size; have := hK.size; omega) hz.rs
      rw [any_not] at this; exact this
    cases b4 : s.rs.all pvF with
    | false =>
      obtain rfl : r = false := by rw [← hr]; unfold psF; rw [b1, b2, b3, b4]; rfl
      simp only [↓reduceIte, Nat.reduceEqDiff, Nat.reduceAdd, Nat.reduceSub, Nat.reduceMul, Nat.reduceLT, Int.reduceToNat, Int.reduceBEq, Int.reduceBNe, Int.reduceLT, Int.reduceLE, E, E', TY]
      refine Ret.mark 2 [.v (.bool false)] rfl rfl (by kernel_rfl) fun new w' hs' => ⟨rfl, fin hs'.keep⟩
    | true =>
    simp only [↓reduceIte, Nat.reduceEqDiff, Nat.reduceAdd, Nat.reduceSub, Nat.reduceMul, Nat.reduceLT, Int.reduceToNat, Int.reduceBEq, Int.reduceBNe, Int.reduceLT, Int.reduceLE, E, E', TY]
    refine ⟨fnok40, CallAt.det #[.slice x.a4 s.fs.length x.c4, .func (.func 41) #[] #[]] (.bool (!s.fs.all pfF)) (fun _ => rfl) (fun w' hw => ?_) (Res.run 900 ?_)⟩
    · have := m_ctF (w := w') x.a4 x.c4 s.fs 41 (fun v => !pfF v) fnok41 (fun v w => m_ps2 v) ((hS2.fs.keep hw).mono fun c hc => by have := hw.size; have := hE.size; have := hK.size; omega) hz.fs
      rw [any_not] at this; exact this
    cases b5 : s.fs.all pfF with
    | false =>
      obtain rfl : r = false := by rw [← hr]; unfold psF; rw [b1, b2, b3, b4, b5]; rfl
      simp only [↓reduceIte, Nat.reduceEqDiff, Nat.reduceAdd, Nat.reduceSub, Nat.reduceMul, Nat.reduceLT, Int.reduceToNat, Int.reduceBEq, Int.reduceBNe, Int.reduceLT, Int.reduceLE, E, E', TY]
      refine Ret.mark 2 [.v (.bool false)] rfl rfl (by kernel_rfl) fun new w' hs' => ⟨rfl, fin hs'.keep⟩
    | true =>
    have b6 : shF s = r := by rw [← hr]; unfold psF; rw [b1, b2, b3, b4, b5]; simp
    unfold shF at b6
    have hzp := hz.ps
    have hzr := hz.rs
    by_cases h1 : s.k = 1
    · have e1 : (s.k == 1) = true := by simp [h1]
      rw [if_pos h1] at b6
      have e3 : ((s.fs.length : Int) == 0) = r := by rw [← b6, Bool.eq_iff_iff]; simp
      simp only [↓reduceIte, Nat.reduceEqDiff, Nat.reduceAdd, Nat.reduceSub, Nat.reduceMul, Nat.reduceLT, Int.reduceToNat, Int.reduceBEq, Int.reduceBNe, Int.reduceLT, Int.reduceLE, E, E', TY, e1, e3]
      refine Ret.mark 2 [.v (.bool r)] rfl rfl (by kernel_rfl) fun new w' hs' => ⟨rfl, fin hs'.keep⟩
    have e1 : (s.k == 1) = false := beq_ff h1
    rw [if_neg h1] at b6
    by_cases h2 : s.k = 2
    · have e2 : (s.k == 2) = true := by simp [h2]
      rw [if_pos h2] at b6
      have e3 : ((s.ps.length : Int) + (s.rs.length : Int) == 0) = r := by rw [← b6, Bool.eq_iff_iff, beq_iff_eq, decide_eq_true_iff]; omega
      simp only [↓reduceIte, Nat.reduceEqDiff, Nat.reduceAdd, Nat.reduceSub, Nat.reduceMul, Nat.reduceLT, Int.reduceToNat, Int.reduceBEq, Int.reduceBNe, Int.reduceLT, Int.reduceLE, E, E', TY, e1, e2, e3]
      refine ⟨i64ok_of (by omega) (by omega), Ret.mark 2 [.v (.bool r)] rfl rfl (by kernel_rfl) fun new w' hs' => ⟨rfl, fin hs'.keep⟩⟩
    have e2 : (s.k == 2) = false := beq_ff h2
    rw [if_neg h2] at b6
    by_cases h3 : s.k = 3
    · have e3 : (s.k == 3) = true := by simp [h3]
      rw [if_pos h3] at b6
      by_cases h4 : s.ps.length + s.rs.length = 0
      · have e4 : ((s.ps.length : Int) + (s.rs.length : Int) == 0) = true := by rw [beq_iff_eq]; omega
        have e5 : ((s.fs.length : Int) == 1) = r := by rw [← b6, Bool.eq_iff_iff, beq_iff_eq, decide_eq_true_iff]; omega
        simp only [↓reduceIte, Nat.reduceEqDiff, Nat.reduceAdd, Nat.reduceSub, Nat.reduceMul, Nat.reduceLT, Int.reduceToNat, Int.reduceBEq, Int.reduceBNe, Int.reduceLT, Int.reduceLE, E, E', TY, e1, e2, e3, e4, e5]
        refine ⟨i64ok_of (by omega) (by omega), Ret.mark 2 [.v (.bool r)] rfl rfl (by kernel_rfl) fun new w' hs' => ⟨rfl, fin hs'.keep⟩⟩
      · have e4 : ((s.ps.length : Int) + (s.rs.length : Int) == 0) = false := beq_ff (by omega)
        obtain rfl : r = false := by rw [← b6]; exact decide_eq_false (by omega)
        simp only [↓reduceIte, Nat.reduceEqDiff, Nat.reduceAdd, Nat.reduceSub, Nat.reduceMul, Nat.reduceLT, Int.reduceToNat, Int.reduceBEq, Int.reduceBNe, Int.reduceLT, Int.reduceLE, E, E', TY, e1, e2, e3, e4]
        refine ⟨i64ok_of (by omega) (by omega), Ret.mark 2 [.v (.bool false)] rfl rfl (by kernel_rfl) fun new w' hs' => ⟨rfl, fin hs'.keep⟩⟩
    · have e3 : (s.k == 3) = false := beq_ff h3
      rw [if_neg h3] at b6
      subst b6
      simp only [↓reduceIte, Nat.reduceEqDiff, Nat.reduceAdd, Nat.reduceSub, Nat.reduceMul, Nat.reduceLT, Int.reduceToNat, Int.reduceBEq, Int.reduceBNe, Int.reduceLT, Int.reduceLE, E, E', TY, e1, e2, e3]
      refine Ret.mark 2 [.v (.bool false)] rfl rfl (by kernel_rfl) fun new w' hs' => ⟨rfl, fin hs'.keep⟩
  · rintro Y lr i hY hi ⟨h, hph⟩
    obtain rfl : r = false := by
      rw [← hr]
      have : (sHeaps s).all phF = false := by
        rw [List.all_eq_false]
        exact ⟨(sHeaps s)[i], List.getElem_mem h, by simp [hph]⟩
      unfold psF; rw [b1, this]; rfl
    refine Ret.mark 2 [.v (.bool false)] rfl rfl (by kernel_rfl) fun new w' hs' => ⟨rfl, fin hs'.keep⟩
end Go.Proofs.YtkcbmkoafmffoaaDoor
