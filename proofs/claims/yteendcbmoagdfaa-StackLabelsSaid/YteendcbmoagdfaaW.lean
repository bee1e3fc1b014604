/-
  The machine's methods: Open.
-/
import Derived.Test.YteendcbmoagdfaaV
set_option linter.unusedVariables false
set_option linter.unusedSimpArgs false
set_option maxRecDepth 20000
set_option maxHeartbeats 4000000
namespace Go.Proofs.Yteendcbmoagdfaa
open Go Go.Eng

theorem cs_rowA {O : Nat → Prop} {q : Nat} {w : World} {b size n ty : Nat} {cs cur : List Value} {nl : Bool} {cap : Nat} (h : (RowA b nl ty cur).R O q w) (hF : FS0 size n cs nl cap cur) : Cs O w (sA nl b 0) cs := by
  cases nl with
  | true =>
    have := hF.nil rfl
    have hn : n = 0 := by have := hF.capk; omega
    left
    have := hF.take
    rw [hn] at this
    simpa using this.symm
  | false =>
    right
    obtain ⟨ho, hr⟩ := h rfl
    have hl : cs.length ≤ cur.length := by rw [← hF.take, List.length_take]; omega
    have hok := okRd0 hr 0 cs.length (by omega)
    refine ⟨?_, fun i u hu => ?_⟩
    · obtain ⟨ad, h1, _, h3⟩ := hok
      have h1' : (⟨b, 0, none⟩ : Addr) = ad := Option.some.inj h1
      subst h1'
      exact ⟨_, rfl, ho, h3⟩
    · rw [show sA false b 0 = some ⟨b, 0, none⟩ from rfl, rd0 hr i]
      have := row_get hF.take hu
      rw [← this.1]
      simp [gV]
theorem fs0_nil {b : Nat} {l : List Vl} {cur : List Value} {nl : Bool} {cap : Nat} (hF : FS0 4 l.length (flat l) nl cap cur) (h : sA nl b 0 = none) : l = [] := by
  cases nl with
  | true =>
    have := hF.nil rfl
    have := hF.capk
    exact List.length_eq_zero_iff.1 (by omega)
  | false => cases h

theorem takesR_len (fr : List Frm) : ∀ (l st : List Vl), (takesR fr l st).2.length ≤ st.length
  | [], st => Nat.le_refl _
  | v :: l, st => by
    have h1 : (takeF st fr v).2.length ≤ st.length := popF_len st fr
    simp only [takesR]
    split
    · exact Nat.le_trans (takesR_len fr l _) h1
    · exact h1
theorem len3 {l : List Nat} (h : l.length = 3) : ∃ a b c, l = [a, b, c] := by
  match l, h with
  | [a, b, c], _ => exact ⟨a, b, c, rfl⟩

/-- A frame is opened. -/
def openF (st : List Vl) (fr : List Frm) (op : Int) (ps rs : List Vl) : Int × List Vl × List Frm :=
  let r := takesF st fr ps
  if r.1 = 0 then (0, r.2 ++ ps, fr ++ [⟨op, ps, rs, r.2.length, false, []⟩]) else (r.1, r.2, fr)

theorem m_Open {w : World} {O : Nat → Prop} {m t : Nat} {st : List Vl} {fr : List Frm} (h : Mc w O m t st fr) (op : Int) (A1 : Option Addr) (c1 : Nat) (ps : List Vl) (h1 : Cs (Gm w O) w A1 (flat ps)) (n1 : A1 = none → ps = []) (A2 : Option Addr) (c2 : Nat) (rs : List Vl) (h2 : Cs (Gm w O) w A2 (flat rs)) (n2 : A2 = none → rs = [])
    (hsz : st.length ≤ 500000) (hfz : fr.length ≤ 500000) (z1 : ps.length ≤ 500000) (z2 : rs.length ≤ 500000) :
    Calls Try.prog 11 #[.pointer (some ⟨m, 0, none⟩), .int .i64 op, .slice A1 ps.length c1, .slice A2 rs.length c2] w fun e w' => e = .returned (.int .i64 (openF st fr op ps rs).1) ∧ Mq w w' O m t (openF st fr op ps rs).2.1 (openF st fr op ps rs).2.2 := by
  refine Go.Eng.start (X := [m]) (L := [.asn (MachA t _ _)]) (args := [.p 0 0, .v (.int .i64 op), .v (.slice A1 ps.length c1), .v (.slice A2 rs.length c2)]) (G := Gm w O) Try.func11 rfl Try.ntmps11 (by simp [SV.lt]) (h.asn _) ?_
  refine Res.run 1000 ?_
  simp only [↓reduceIte, Nat.reduceEqDiff, Nat.reduceAdd, Nat.reduceSub, Nat.reduceMul, Nat.reduceLT, Int.reduceToNat, Int.reduceBEq, Int.reduceBNe, Int.reduceLT, Int.reduceLE, E, E', TY]
  refine ⟨fnok17, CallAt.asn 0 (MachA t st fr) rfl (fun v A' => v = .int .i64 (takesF st fr ps).1 ∧ A' = MachA t (takesF st fr ps).2 fr) ?_ ?_⟩
  · intro new w' O' hs hR hO
    refine (m_Take (Mc.of hs hR hO h.tab h.out) A1 c1 ps ((h1.keep hs.keep).mono fun b hb => ⟨Nat.lt_of_lt_of_le hb.1 hs.keep.size, fun ho => (hO b ho).1 hb⟩) (by omega) (by omega) (by omega)).mono ?_
    rintro e w'' ⟨rfl, O'', hR', hC⟩
    exact ⟨_, _, O'', rfl, ⟨rfl, rfl⟩, hR', hC⟩
  rintro _ _ ⟨rfl, rfl⟩
  refine Res.run 900 ?_
  have hof : openF st fr op ps rs = if (takesF st fr ps).1 = 0 then (0, (takesF st fr ps).2 ++ ps, fr ++ [⟨op, ps, rs, (takesF st fr ps).2.length, false, []⟩]) else ((takesF st fr ps).1, (takesF st fr ps).2, fr) := rfl
  rw [hof]
  have hle : (takesF st fr ps).2.length ≤ st.length := takesR_len _ _ _
  generalize takesF st fr ps = r at hle ⊢
  obtain ⟨e, st1⟩ := r
  simp only at hle ⊢
  by_cases he : e = 0
  case neg =>
    have e1 : (e != 0) = true := by simp [he]
    rw [if_neg he]
    simp only [↓reduceIte, Nat.reduceEqDiff, Nat.reduceAdd, Nat.reduceSub, Nat.reduceMul, Nat.reduceLT, Int.reduceToNat, Int.reduceBEq, Int.reduceBNe, Int.reduceLT, Int.reduceLE, E, E', TY, e1]
    refine Ret.body [.v (.int .i64 e)] rfl (by kernel_rfl) fun new w' hs => ⟨by simp [resOf, SV.den], ?_⟩
    exact Mq.of_asn hs rfl rfl
  subst he
  rw [if_pos rfl]
  simp only [↓reduceIte, Nat.reduceEqDiff, Nat.reduceAdd, Nat.reduceSub, Nat.reduceMul, Nat.reduceLT, Int.reduceToNat, Int.reduceBEq, Int.reduceBNe, Int.reduceLT, Int.reduceLE, E, E', TY]
  refine Res.mopen 0 1 rfl rfl fun p hF => ?_
  refine Res.draw 20 [mE0 t st1.length fr.length 1 p, .dead, .dead, .dead] (.take 0 (.take 1 (.take 2 (.take 3 (.take 4 (.take 5 (.take 6 (.take 8 (.take 10 (.take 11 (.take 12 (.take 13 (.take 14 (.run 7 (.run 9 (.take 15 (.run 16 (.run 17 (.take 18 (.take 19 .fin)) .fin) .fin)) .fin) .fin)))))))))))))) (by kernel_rfl) (by kernel_rfl) fun new hnew => ?_
  obtain ⟨i1, i2, i3, rfl⟩ := len3 (l := new) (by have := hnew; simp only [mE0, mEs, setE, List.length_cons, List.length_append, List.length_nil] at this; omega)
  refine Res.run 900 ?_
  simp only [↓reduceIte, Nat.reduceEqDiff, Nat.reduceAdd, Nat.reduceSub, Nat.reduceMul, Nat.reduceLT, Int.reduceToNat, Int.reduceBEq, Int.reduceBNe, Int.reduceLT, Int.reduceLE, E, E', TY, mE0, mEs, List.cons_append, List.nil_append, setE]
  refine ⟨fnok28, ?_⟩
  refine CallAt.clone (fun new w' hs => (h1.keep hs.keep).mono fun b hb => Nat.lt_of_lt_of_le hb.1 hs.keep.size) n1 (by omega) fun nl1 b1 k1 cur1 hF1 => Res.run 900 ?_
  simp only [↓reduceIte, Nat.reduceEqDiff, Nat.reduceAdd, Nat.reduceSub, Nat.reduceMul, Nat.reduceLT, Int.reduceToNat, Int.reduceBEq, Int.reduceBNe, Int.reduceLT, Int.reduceLE, E, E', TY, mE0]
  refine ⟨fnok28, ?_⟩
  refine CallAt.clone (fun new w' hs => (h2.keep hs.keep).mono fun b hb => Nat.lt_of_lt_of_le hb.1 hs.keep.size) n2 (by omega) fun nl2 b2 k2 cur2 hF2 => Res.run 900 ?_
  simp only [↓reduceIte, Nat.reduceEqDiff, Nat.reduceAdd, Nat.reduceSub, Nat.reduceMul, Nat.reduceLT, Int.reduceToNat, Int.reduceBEq, Int.reduceBNe, Int.reduceLT, Int.reduceLE, E, E', TY, mE0]
  refine OpAt.append (x := .tmp 20) (y := .tmp 32) (t := 56) (e := 69) (size := 6) (bytes := 96) (i := 2) (nl := p.nl2) (n := fr.length) (cap := p.cap2) (m := 1) (cur := p.cur2) [.int .i64 op, .slice (sA nl1 b1 0) ps.length k1, .slice (sA nl2 b2 0) rs.length k2, .int .i64 (st1.length : Int), .bool false, .slice none 0 0] rfl rfl rfl rfl ap56 rfl rfl hF.d3 hF.d1 hF.d2 hF.d5
    (SrcOK.s (j := 6) (off := 0) (c := 1) (nl := false) rfl rfl (by simp) (by intro i u hu; rw [Nat.zero_add]; exact hu)) rfl (by intro u hu; simp only [List.mem_cons, List.not_mem_nil, or_false] at hu; rcases hu with rfl | rfl | rfl | rfl | rfl | rfl <;> rfl) ⟨by simp [maxLen]; omega, by omega⟩ fun nl' cap' cur' e1 e2 e3 e4 e5 e6 => Res.run 900 ?_
  simp only [↓reduceIte, Nat.reduceEqDiff, Nat.reduceAdd, Nat.reduceSub, Nat.reduceMul, Nat.reduceLT, Int.reduceToNat, Int.reduceBEq, Int.reduceBNe, Int.reduceLT, Int.reduceLE, E, E', TY, mE0]
  obtain ⟨x, hx⟩ : ∃ x : FA, x = ⟨sA nl1 b1 0, k1, sA nl2 b2 0, k2, none, 0⟩ := ⟨_, rfl⟩
  obtain ⟨f, hf⟩ : ∃ f : Frm, f = ⟨op, ps, rs, (st1.length : Int), false, []⟩ := ⟨_, rfl⟩
  rw [← hf]
  have hcell : fcell f x = [.int .i64 op, .slice (sA nl1 b1 0) ps.length k1, .slice (sA nl2 b2 0) rs.length k2, .int .i64 (st1.length : Int), .bool false, .slice none 0 0] := by rw [hf, hx]; rfl
  refine ⟨fnok10, ?_⟩
  refine CallAt.merge 0 [0, 1, 7, 3, 4, 5] (MachA t st1 (fr ++ [f])) ⟨by simp, by simp⟩ (fun new w' own ho => ?_) ?_
  · refine machR_of (cap1 := p.cap1) (cap2 := cap') (xs := p.xs ++ [x]) 0 1 7 [0, 1, 7, 3, 4, 5] (fun r => r = 3 ∨ r = 4 ∨ r = 5) ho ?_ rfl rfl (by simp) (by rintro r (rfl | rfl | rfl) <;> simp) (by simp) ⟨hF.c1, hF.c2, hF.c3, hF.c4, hF.c5, by simpa using e1, e2, e3, ?_, e5, by simp [hF.xl]⟩ ?_
    · rw [List.length_append]; rfl
    · show cur'.take ((fr ++ [f]).length * 6) = _
      rw [List.length_append, fcells_append hF.xl, ← hF.d4]
      rw [show fcells [f] [x] = fcell f x by simp [fcells], hcell]
      exact e4
    · refine FrA_concat.2 ⟨FrA_mono (ho.ok 3 _ rfl) fun b hb => ⟨3, .inl rfl, hb⟩, ?_⟩
      have r4 : (RowA b1 nl1 41 cur1).R (own 4) _ w' := ho.ok 4 _ rfl
      have r5 : (RowA b2 nl2 41 cur2).R (own 5) _ w' := ho.ok 5 _ rfl
      rw [hf, hx]
      exact ⟨(cs_rowA r4 hF1).mono fun b hb => ⟨4, .inr (.inl rfl), hb⟩, fun h => fs0_nil hF1 h, (cs_rowA r5 hF2).mono fun b hb => ⟨5, .inr (.inr rfl), hb⟩, fun h => fs0_nil hF2 h, .inl rfl, fun _ => rfl, Nat.zero_le _⟩
  refine CallAt.asn 0 (MachA t st1 (fr ++ [f])) rfl (fun v A' => v = .int .i64 0 ∧ A' = MachA t (st1 ++ ps) (fr ++ [f])) ?_ ?_
  · intro new w' O' hs hR hO
    refine (m_push (Mc.of hs hR hO h.tab h.out) A1 c1 ps ((h1.keep hs.keep).mono fun b hb => ⟨Nat.lt_of_lt_of_le hb.1 hs.keep.size, fun ho => (hO b ho).1 hb⟩) n1 (by omega)).mono ?_
    rintro e w'' ⟨rfl, O'', hR', hC⟩
    exact ⟨_, _, O'', rfl, ⟨rfl, rfl⟩, hR', hC⟩
  rintro _ _ ⟨rfl, rfl⟩
  refine Res.run 900 ?_
  simp only [↓reduceIte, Nat.reduceEqDiff, Nat.reduceAdd, Nat.reduceSub, Nat.reduceMul, Nat.reduceLT, Int.reduceToNat, Int.reduceBEq, Int.reduceBNe, Int.reduceLT, Int.reduceLE, E, E', TY, St.merge, killE, setE]
  refine Ret.body [.v (.int .i64 0)] rfl (by kernel_rfl) fun new w' hs => ⟨by simp [resOf, SV.den], ?_⟩
  exact Mq.of_asn hs rfl rfl
end Go.Proofs.Yteendcbmoagdfaa
