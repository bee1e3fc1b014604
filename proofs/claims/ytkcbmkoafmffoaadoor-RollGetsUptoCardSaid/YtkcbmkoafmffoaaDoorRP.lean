/-
  The roll layer, the plain law: groups that are rolled up have the same key just if they are the same; what a table of types holds.
-/
import Derived.Test.YtkcbmkoafmffoaaDoorKP
import Derived.Test.YtkcbmkoafmffoaaDoorRH
set_option linter.unusedVariables false
set_option linter.unusedSimpArgs false
set_option maxRecDepth 20000
namespace Go.Proofs.YtkcbmkoafmffoaaDoor
open Go Go.Eng

/-! ### heap types -/
def rk (k : Int) : Bool := decide (13 ≤ k ∧ k ≤ 15)
/-- What a heap type is that is written: a given one, or a number of any of three sorts. -/
def rhF (h : Hp) : Bool := if rk h.k = true then decide (0 ≤ h.n ∧ h.n ≤ 4294967295) else decide (1 ≤ h.k ∧ h.k ≤ 12 ∧ h.n = 0)
def rvF (v : Vl) : Bool := if v.k = 1 ∨ v.k = 2 then decide (v.nul = false ∧ v.h.k = 0 ∧ v.h.n = 0) else if v.k = 3 then rhF v.h else false
def rfF (f : Fd) : Bool := if f.pk = 0 then rvF f.t else if f.pk = 8 ∨ f.pk = 16 then decide (f.t = ⟨1, false, ⟨0, 0⟩⟩) else false
theorem rk_iff {k : Int} : rk k = true ↔ 13 ≤ k ∧ k ≤ 15 := decide_eq_true_iff
def preR (k : Int) : List UInt8 := if k = 14 then [114, 101, 99, 46] else if k = 15 then [100, 101, 102, 46] else []
theorem rph_idx {h : Hp} (hp : rhF h = true) (h13 : rk h.k = true) : 0 ≤ h.n ∧ Lb (heapT h) = preR h.k ++ Lib.decDigits h.n.toNat := by
  unfold rhF at hp
  rw [if_pos h13] at hp
  have h0 := (of_decide_eq_true hp).1
  refine ⟨h0, ?_⟩
  have hk := rk_iff.1 h13
  unfold heapT preR
  by_cases h1 : h.k = 13
  · rw [if_pos h1, if_neg (by omega), if_neg (by omega)]
    exact itoa_dec h0
  rw [if_neg h1]
  by_cases h2 : h.k = 14
  · rw [if_pos h2, if_pos h2, Lb_app, itoa_dec h0, Lb_mk]
  rw [if_neg h2, if_pos (by omega), if_neg h2, if_pos (by omega), Lb_app, itoa_dec h0, Lb_mk]
theorem rph_nm {h : Hp} (hp : rhF h = true) (h13 : ¬ rk h.k = true) : (1 ≤ h.k ∧ h.k ≤ 12) ∧ h.n = 0 ∧ Lb (heapT h) = Lb (nmB.getD h.k.toNat ⟨#[]⟩) := by
  unfold rhF at hp
  rw [if_neg h13] at hp
  have := of_decide_eq_true hp
  refine ⟨⟨this.1, this.2.1⟩, this.2.2, ?_⟩
  unfold heapT; rw [if_neg (by omega), if_neg (by omega), if_neg (by omega), if_neg (by omega)]; rfl
theorem preR_wd (k : Int) : (preR k).all wd = true := by
  unfold preR
  split
  · decide
  · split <;> decide
theorem rph_wd {h : Hp} (hp : rhF h = true) : (Lb (heapT h)).all wd = true := by
  by_cases h13 : rk h.k = true
  · rw [(rph_idx hp h13).2, List.all_append, preR_wd, Bool.true_and, List.all_eq_true]
    exact fun c hc => dgt_wd (dec_dgt _ c hc)
  · rw [(rph_nm hp h13).2.2]; exact nm_wd _
theorem rnm_head : ∀ k : Fin 13, 1 ≤ k.1 → ∃ c r, Lb (nmB.getD k.1 ⟨#[]⟩) = c :: r ∧ dgt c = false ∧ c ≠ 114 ∧ c ≠ 100 := by
  intro k hk
  have : ∀ k : Fin 13, 1 ≤ k.1 → (match Lb (nmB.getD k.1 ⟨#[]⟩) with | [] => false | c :: _ => !dgt c && (c != 114 && c != 100)) = true := by decide
  have := this k hk
  generalize Lb (nmB.getD k.1 ⟨#[]⟩) = l at this
  cases l with
  | nil => cases this
  | cons c r =>
    simp only [Bool.and_eq_true, bne_iff_ne, ne_eq] at this
    exact ⟨c, r, rfl, by simpa using this.1, this.2.1, this.2.2⟩
/-- Which sort it is, by the first letter. -/
def srt (c : UInt8) : Int := if dgt c = true then 13 else if c = 114 then 14 else if c = 100 then 15 else 0
theorem rph_cons {h : Hp} (hp : rhF h = true) : ∃ c r, Lb (heapT h) = c :: r ∧ wd c = true ∧ srt c = if rk h.k = true then h.k else 0 := by
  have hw := rph_wd hp
  by_cases h13 : rk h.k = true
  · obtain ⟨h0, e⟩ := rph_idx hp h13
    have hk := rk_iff.1 h13
    rw [if_pos h13]
    obtain ⟨d, r, ed⟩ : ∃ d r, Lib.decDigits h.n.toNat = d :: r := by
      have := dec_ne h.n.toNat
      cases hl : Lib.decDigits h.n.toNat with
      | nil => exact absurd hl this
      | cons d r => exact ⟨d, r, rfl⟩
    have hd : dgt d = true := dec_dgt h.n.toNat d (by rw [ed]; simp)
    rw [e] at hw ⊢
    rw [ed] at hw ⊢
    unfold preR at hw ⊢
    by_cases h1 : h.k = 14
    · rw [if_pos h1] at hw ⊢
      exact ⟨114, _, rfl, by decide, by rw [h1]; decide⟩
    by_cases h2 : h.k = 15
    · rw [if_neg h1, if_pos h2] at hw ⊢
      exact ⟨100, _, rfl, by decide, by rw [h2]; decide⟩
    rw [if_neg h1, if_neg h2] at hw ⊢
    refine ⟨d, r, rfl, dgt_wd hd, ?_⟩
    unfold srt
    rw [if_pos hd]; omega
  · obtain ⟨h1, h2, e⟩ := rph_nm hp h13
    obtain ⟨c, r, ec, e1, e2, e3⟩ := rnm_head ⟨h.k.toNat, by omega⟩ (by show 1 ≤ h.k.toNat; omega)
    simp only at ec
    rw [e, ec] at hw ⊢
    simp only [List.all_cons, Bool.and_eq_true] at hw
    refine ⟨c, r, rfl, hw.1, ?_⟩
    unfold srt
    rw [if_neg h13, e1, if_neg (by simp), if_neg e2, if_neg e3]
theorem rph_inj {h g : Hp} (hp : rhF h = true) (gp : rhF g = true) (e : Lb (heapT h) = Lb (heapT g)) : h = g := by
  obtain ⟨c, r, e1, _, s1⟩ := rph_cons hp
  obtain ⟨d, q, e2, _, s2⟩ := rph_cons gp
  have hcd : c = d := by rw [e1, e2] at e; injection e
  rw [hcd, s2] at s1
  by_cases h13 : rk h.k = true <;> by_cases g13 : rk g.k = true
  · rw [if_pos h13, if_pos g13] at s1
    obtain ⟨a1, a2⟩ := rph_idx hp h13
    obtain ⟨b1, b2⟩ := rph_idx gp g13
    rw [a2, b2, s1] at e
    have := dec_inj (List.append_cancel_left e)
    obtain ⟨k, n⟩ := h
    obtain ⟨l, m⟩ := g
    simp only at *
    obtain rfl : n = m := by omega
    rw [s1]
  · rw [if_pos h13, if_neg g13] at s1
    have := rk_iff.1 h13
    omega
  · rw [if_neg h13, if_pos g13] at s1
    have := rk_iff.1 g13
    omega
  · obtain ⟨a1, a2, a3⟩ := rph_nm hp h13
    obtain ⟨b1, b2, b3⟩ := rph_nm gp g13
    rw [a3, b3] at e
    have := nm_inj ⟨h.k.toNat, by omega⟩ ⟨g.k.toNat, by omega⟩ e
    have this : h.k.toNat = g.k.toNat := by simpa using this
    obtain ⟨k, n⟩ := h
    obtain ⟨l, m⟩ := g
    have a1' : 1 ≤ k ∧ k ≤ 12 := a1
    have b1' : 1 ≤ l ∧ l ≤ 12 := b1
    have this' : k.toNat = l.toNat := this
    obtain rfl : k = l := by omega
    have a2' : n = 0 := a2
    have b2' : m = 0 := b2
    rw [a2', b2']
theorem rph_span {h g : Hp} {x y : List UInt8} (hp : rhF h = true) (gp : rhF g = true) (hx : Stop x) (hy : Stop y) (e : Lb (heapT h) ++ x = Lb (heapT g) ++ y) : h = g ∧ x = y := by
  obtain ⟨e1, e2⟩ := span_eq (rph_wd hp) (rph_wd gp) hx hy e
  exact ⟨rph_inj hp gp e1, e2⟩

theorem rpv_k {v : Vl} (hp : rvF v = true) : (v = ⟨1, false, ⟨0, 0⟩⟩ ∧ Lb (valT v) = [105, 51, 50]) ∨ (v = ⟨2, false, ⟨0, 0⟩⟩ ∧ Lb (valT v) = [105, 54, 52]) ∨
    (v.k = 3 ∧ rhF v.h = true ∧ v.nul = true ∧ Lb (valT v) = [40, 114, 101, 102, 32, 110, 117, 108, 108, 32] ++ Lb (heapT v.h) ++ [41]) ∨ (v.k = 3 ∧ rhF v.h = true ∧ v.nul = false ∧ Lb (valT v) = [40, 114, 101, 102, 32] ++ Lb (heapT v.h) ++ [41]) := by
  obtain ⟨k, nul, ⟨hk, hn⟩⟩ := v
  unfold rvF at hp
  simp only at hp ⊢
  by_cases h1 : k = 1
  · rw [if_pos (.inl h1)] at hp
    obtain ⟨rfl, rfl, rfl⟩ := of_decide_eq_true hp
    subst h1
    exact .inl ⟨rfl, rfl⟩
  by_cases h2 : k = 2
  · rw [if_pos (.inr h2)] at hp
    obtain ⟨rfl, rfl, rfl⟩ := of_decide_eq_true hp
    subst h2
    exact .inr (.inl ⟨rfl, rfl⟩)
  rw [if_neg (by omega)] at hp
  by_cases h3 : k = 3
  · rw [if_pos h3] at hp
    subst h3
    cases nul with
    | true => exact .inr (.inr (.inl ⟨rfl, hp, rfl, by unfold valT; simp only [Lb_app, Lb_mk]; rfl⟩))
    | false => exact .inr (.inr (.inr ⟨rfl, hp, rfl, by unfold valT; simp only [Lb_app, Lb_mk]; rfl⟩))
  · rw [if_neg h3] at hp; cases hp
theorem rnull_no {h : Hp} (hp : rhF h = true) (x y : List UInt8) (e : [110, 117, 108, 108, 32] ++ x = Lb (heapT h) ++ 41 :: y) : False := by
  have := span_eq (p := [110, 117, 108, 108]) (x := 32 :: x) (by decide) (rph_wd hp) (stop32 _) (stop41 _) e
  have := this.2
  simp at this
theorem rpv_span {v u : Vl} {x y : List UInt8} (hp : rvF v = true) (up : rvF u = true) (e : Lb (valT v) ++ x = Lb (valT u) ++ y) : v = u ∧ x = y := by
  rcases rpv_k hp with ⟨rfl, h1⟩ | ⟨rfl, h1⟩ | ⟨h3, h4, h5, h1⟩ | ⟨h3, h4, h5, h1⟩ <;> rcases rpv_k up with ⟨rfl, g1⟩ | ⟨rfl, g1⟩ | ⟨g3, g4, g5, g1⟩ | ⟨g3, g4, g5, g1⟩ <;> (try rw [h1] at e) <;> (try rw [g1] at e) <;> simp only [List.cons_append, List.nil_append, List.cons.injEq, List.append_assoc, true_and] at e
  all_goals first
    | exact ⟨rfl, e⟩
    | exact absurd e.1 (by decide)
    | exact absurd e.2.1 (by decide)
    | exact (rnull_no g4 _ _ e).elim
    | exact (rnull_no h4 _ _ e.symm).elim
    | (obtain ⟨a, b⟩ := rph_span h4 g4 (stop41 _) (stop41 _) e
       simp only [List.cons.injEq, true_and] at b
       refine ⟨?_, b⟩
       obtain ⟨k, nul, h⟩ := v
       obtain ⟨l, mul, g⟩ := u
       simp only at *
       subst h3; subst g3; subst h5; subst g5; subst a; rfl)

theorem rpf_k {f : Fd} (hp : rfF f = true) : (f.pk = 0 ∧ rvF f.t = true ∧ Lb (inT f) = Lb (valT f.t)) ∨ (f.pk = 8 ∧ f.t = ⟨1, false, ⟨0, 0⟩⟩ ∧ Lb (inT f) = [105, 56]) ∨ (f.pk = 16 ∧ f.t = ⟨1, false, ⟨0, 0⟩⟩ ∧ Lb (inT f) = [105, 49, 54]) := by
  obtain ⟨pk, t, m⟩ := f
  unfold rfF at hp
  simp only at hp ⊢
  by_cases h0 : pk = 0
  · rw [if_pos h0] at hp
    refine .inl ⟨h0, hp, ?_⟩
    unfold inT; rw [if_pos h0]
  rw [if_neg h0] at hp
  by_cases h8 : pk = 8
  · rw [if_pos (.inl h8)] at hp
    refine .inr (.inl ⟨h8, of_decide_eq_true hp, ?_⟩)
    subst h8
    unfold inT; rw [if_neg (by simp), Lb_app, itoa_dec (by show (0 : Int) ≤ 8; decide)]
    simp only [Lb_mk]
    rw [show (8 : Int).toNat = 8 from rfl, Lib.decDigits_one (by decide)]; rfl
  by_cases h16 : pk = 16
  · rw [if_pos (.inr h16)] at hp
    refine .inr (.inr ⟨h16, of_decide_eq_true hp, ?_⟩)
    subst h16
    unfold inT; rw [if_neg (by simp), Lb_app, itoa_dec (by show (0 : Int) ≤ 16; decide)]
    simp only [Lb_mk]
    rw [show (16 : Int).toNat = 16 from rfl, Lib.decDigits_two (by decide) (by decide)]; rfl
  · rw [if_neg (by omega)] at hp; cases hp
theorem rpv_word {v : Vl} (hp : rvF v = true) {p x y : List UInt8} (hw : p.all wd = true) (hne : p ≠ []) (hx : Stop x) (hy : Stop y) (h1 : p ≠ [105, 51, 50]) (h2 : p ≠ [105, 54, 52]) : p ++ x ≠ Lb (valT v) ++ y := by
  rcases rpv_k hp with ⟨rfl, g1⟩ | ⟨rfl, g1⟩ | ⟨g3, g4, g5, g1⟩ | ⟨g3, g4, g5, g1⟩ <;> rw [g1]
  · exact word_no hw (by decide) hx hy h1
  · exact word_no hw (by decide) hx hy h2
  · simp only [List.cons_append]; exact word_ref hw hne
  · simp only [List.cons_append]; exact word_ref hw hne
theorem rin_span {f g : Fd} {x y : List UInt8} (hp : rfF f = true) (gp : rfF g = true) (hx : Stop x) (hy : Stop y) (e : Lb (inT f) ++ x = Lb (inT g) ++ y) : f.pk = g.pk ∧ f.t = g.t ∧ x = y := by
  rcases rpf_k hp with ⟨h1, h2, h3⟩ | ⟨h1, h2, h3⟩ | ⟨h1, h2, h3⟩ <;> rcases rpf_k gp with ⟨g1, g2, g3⟩ | ⟨g1, g2, g3⟩ | ⟨g1, g2, g3⟩ <;> rw [h3, g3] at e
  · obtain ⟨a, b⟩ := rpv_span h2 g2 e
    exact ⟨by rw [h1, g1], a, b⟩
  · exact (rpv_word h2 (p := [105, 56]) (by decide) (by decide) hy hx (by decide) (by decide) e.symm).elim
  · exact (rpv_word h2 (p := [105, 49, 54]) (by decide) (by decide) hy hx (by decide) (by decide) e.symm).elim
  · exact (rpv_word g2 (p := [105, 56]) (by decide) (by decide) hx hy (by decide) (by decide) e).elim
  · exact ⟨by rw [h1, g1], by rw [h2, g2], (span_eq (by decide) (by decide) hx hy e).2⟩
  · exact absurd (span_eq (by decide) (by decide) hx hy e).1 (by decide)
  · exact (rpv_word g2 (p := [105, 49, 54]) (by decide) (by decide) hx hy (by decide) (by decide) e).elim
  · exact absurd (span_eq (by decide) (by decide) hx hy e).1 (by decide)
  · exact ⟨by rw [h1, g1], by rw [h2, g2], (span_eq (by decide) (by decide) hx hy e).2⟩
theorem rin_mut {f : Fd} (hp : rfF f = true) {x y : List UInt8} (hx : Stop x) : Lb (inT f) ++ x ≠ 40 :: 109 :: y := by
  rcases rpf_k hp with ⟨h1, h2, h3⟩ | ⟨h1, h2, h3⟩ | ⟨h1, h2, h3⟩ <;> rw [h3]
  · rcases rpv_k h2 with ⟨_, g1⟩ | ⟨_, g1⟩ | ⟨g3, g4, g5, g1⟩ | ⟨g3, g4, g5, g1⟩ <;> rw [g1] <;> simp
  · simp
  · simp
theorem rpf_span {f g : Fd} {x y : List UInt8} (hp : rfF f = true) (gp : rfF g = true) (hx : Stop x) (hy : Stop y) (e : Lb (fldT f) ++ x = Lb (fldT g) ++ y) : f = g ∧ x = y := by
  rw [fldT_in', fldT_in'] at e
  have hfg : ∀ {f g : Fd}, f.pk = g.pk → f.t = g.t → f.m = g.m → f = g := by
    rintro ⟨_, _, _⟩ ⟨_, _, _⟩ h1 h2 h3
    simp only at h1 h2 h3
    rw [h1, h2, h3]
  cases hm : f.m <;> cases gm : g.m <;> rw [hm, gm] at e <;> simp only [if_true, if_false, Bool.false_eq_true, List.cons_append, List.nil_append, List.append_assoc, List.cons.injEq, true_and] at e
  · obtain ⟨a, b, c⟩ := rin_span hp gp hx hy e
    exact ⟨hfg a b (by rw [hm, gm]), c⟩
  · exact (rin_mut hp hx e).elim
  · exact (rin_mut gp hy e.symm).elim
  · obtain ⟨a, b, c⟩ := rin_span hp gp (stop41 _) (stop41 _) e
    simp only [List.cons.injEq, true_and] at c
    exact ⟨hfg a b (by rw [hm, gm]), c⟩

theorem rvals_span {l m : List Vl} {x y : List UInt8} (hl : l.all rvF = true) (hm : m.all rvF = true) (hx : E41 x) (hy : E41 y) (e : Lb (catG valT l) ++ x = Lb (catG valT m) ++ y) : l = m ∧ x = y :=
  cat_span valT rvF E41 (fun _ h => h.stop) (fun a b x y ha hb _ _ h => rpv_span ha hb h) (fun x a r hx _ => by obtain ⟨q, rfl⟩ := hx; simp) l m x y hl hm hx hy e
theorem rflds_span {l m : List Fd} {x y : List UInt8} (hl : l.all rfF = true) (hm : m.all rfF = true) (hx : E41 x) (hy : E41 y) (e : Lb (catG fldT l) ++ x = Lb (catG fldT m) ++ y) : l = m ∧ x = y :=
  cat_span fldT rfF E41 (fun _ h => h.stop) (fun a b x y ha hb h1 h2 h => rpf_span ha hb h1 h2 h) (fun x a r hx _ => by obtain ⟨q, rfl⟩ := hx; simp) l m x y hl hm hx hy e
theorem rsups_span {l m : List Hp} {x y : List UInt8} (hl : l.all rhF = true) (hm : m.all rhF = true) (hx : E40 x) (hy : E40 y) (e : Lb (catG heapT l) ++ x = Lb (catG heapT m) ++ y) : l = m ∧ x = y :=
  cat_span heapT rhF E40 (fun _ h => h.stop) (fun a b x y ha hb h1 h2 h => rph_span ha hb h1 h2 h) (fun x a r hx ha => by
    obtain ⟨q, rfl⟩ := hx
    obtain ⟨c, s, h1, h2, _⟩ := rph_cons ha
    rw [h1]
    intro e
    simp only [List.cons_append, List.cons.injEq, true_and] at e
    rw [← e.1] at h2
    exact absurd h2 (by decide)) l m x y hl hm hx hy e

theorem rlst_span {l m : List Vl} {x y : List UInt8} (wrd : ByteArray) (c : UInt8) (wt : List UInt8) (hw : Lb wrd = c :: wt) (hl : l.all rvF = true) (hm : m.all rvF = true) (hx : ∀ r, x ≠ 32 :: 40 :: c :: r) (hy : ∀ r, y ≠ 32 :: 40 :: c :: r) (e : Lb (lstT wrd l) ++ x = Lb (lstT wrd m) ++ y) : l = m ∧ x = y := by
  rw [lst_L, lst_L, hw] at e
  by_cases h1 : l = [] <;> by_cases h2 : m = []
  · subst h1; subst h2; simpa using e
  · rw [if_pos h1, if_neg h2] at e
    simp only [List.cons_append, List.nil_append] at e
    exact (hx _ e).elim
  · rw [if_neg h1, if_pos h2] at e
    simp only [List.cons_append, List.nil_append] at e
    exact (hy _ e.symm).elim
  · rw [if_neg h1, if_neg h2] at e
    simp only [List.cons_append, List.nil_append, List.append_assoc, List.cons.injEq, true_and, List.append_cancel_left_eq] at e
    obtain ⟨a, b⟩ := rvals_span hl hm ⟨_, rfl⟩ ⟨_, rfl⟩ e
    simp only [List.cons.injEq, true_and] at b
    exact ⟨a, b⟩

theorem rhead_no {l : List Hp} {x r : List UInt8} (hl : l.all rhF = true) (hs : l.all (fun h => rk h.k) = true) (hx : E40 x) : Lb (catG heapT l) ++ x ≠ 32 :: 102 :: r := by
  cases l with
  | nil => obtain ⟨q, rfl⟩ := hx; simp [catG, Lb]
  | cons h l =>
    rw [cat_cons]
    simp only [List.all_cons, Bool.and_eq_true] at hl hs
    intro e
    simp only [List.cons_append, List.cons.injEq, true_and] at e
    obtain ⟨c, q, h1, _, h2⟩ := rph_cons hl.1
    rw [h1] at e
    simp only [List.cons_append, List.cons.injEq] at e
    rw [e.1, if_pos hs.1] at h2
    have := rk_iff.1 hs.1
    rw [← h2] at this
    exact absurd this (by decide)
/-- What a declared type is that is written. -/
structure Rld (s : Sb) : Prop where
  s13 : s.su.all (fun h => rk h.k) = true
  su : s.su.all rhF = true
  ps : s.ps.all rvF = true
  rs : s.rs.all rvF = true
  fs : s.fs.all rfF = true
  sh : shF s = true
theorem Rld.shape {s : Sb} (h : Rld s) : (s.k = 1 ∧ s.fs = []) ∨ (s.k = 2 ∧ s.ps = [] ∧ s.rs = []) ∨ (s.k = 3 ∧ s.ps = [] ∧ s.rs = []) := by
  have := h.sh
  unfold shF at this
  by_cases h1 : s.k = 1
  · rw [if_pos h1] at this
    exact .inl ⟨h1, List.length_eq_zero_iff.1 (of_decide_eq_true this)⟩
  · rw [if_neg h1] at this
    by_cases h2 : s.k = 2
    · rw [if_pos h2] at this
      have := of_decide_eq_true this
      exact .inr (.inl ⟨h2, List.length_eq_zero_iff.1 (by omega), List.length_eq_zero_iff.1 (by omega)⟩)
    · rw [if_neg h2] at this
      by_cases h3 : s.k = 3
      · rw [if_pos h3] at this
        have := of_decide_eq_true this
        exact .inr (.inr ⟨h3, List.length_eq_zero_iff.1 (by omega), List.length_eq_zero_iff.1 (by omega)⟩)
      · rw [if_neg h3] at this; cases this
theorem rtail_span {s t : Sb} (hs : Rld s) (ht : Rld t) {x y : List UInt8} (e : tailL s ++ x = tailL t ++ y) : s.k = t.k ∧ s.ps = t.ps ∧ s.rs = t.rs ∧ s.fs = t.fs ∧ x = y := by
  unfold tailL at e
  rcases hs.shape with ⟨h1, h2⟩ | ⟨h1, h2, h3⟩ | ⟨h1, h2, h3⟩ <;> rcases ht.shape with ⟨g1, g2⟩ | ⟨g1, g2, g3⟩ | ⟨g1, g2, g3⟩ <;> simp only [h1, g1, if_true, if_false, List.cons_append, List.nil_append, List.append_assoc, List.cons.injEq, true_and, reduceIte, Int.reduceEq] at e
  · have e2 : ∀ (l : List Vl) x r, Lb (lstT ⟨#[114, 101, 115, 117, 108, 116]⟩ l) ++ (41 :: 41 :: x) ≠ 32 :: 40 :: 112 :: r := by
      intro l x r
      rw [lst_L]
      split <;> simp [Lb_mk]
    obtain ⟨a, b⟩ := rlst_span ⟨#[112, 97, 114, 97, 109]⟩ 112 [97, 114, 97, 109] rfl hs.ps ht.ps (fun r => e2 _ _ r) (fun r => e2 _ _ r) e
    obtain ⟨c, d⟩ := rlst_span ⟨#[114, 101, 115, 117, 108, 116]⟩ 114 [101, 115, 117, 108, 116] rfl hs.rs ht.rs (fun r => by simp) (fun r => by simp) b
    simp only [List.cons.injEq, true_and] at d
    exact ⟨by rw [h1, g1], a, c, by rw [h2, g2], d⟩
  · exact absurd e.1 (by decide)
  · exact absurd e.1 (by decide)
  · exact absurd e.1 (by decide)
  · obtain ⟨a, d⟩ := rflds_span hs.fs ht.fs ⟨_, rfl⟩ ⟨_, rfl⟩ e
    simp only [List.cons.injEq, true_and] at d
    exact ⟨by rw [h1, g1], by rw [h2, g2], by rw [h3, g3], a, d⟩
  · exact absurd e.1 (by decide)
  · exact absurd e.1 (by decide)
  · exact absurd e.1 (by decide)
  · obtain ⟨a, d⟩ := rflds_span hs.fs ht.fs ⟨_, rfl⟩ ⟨_, rfl⟩ e
    simp only [List.cons.injEq, true_and] at d
    exact ⟨by rw [h1, g1], by rw [h2, g2], by rw [h3, g3], a, d⟩
theorem rtxt_span {s t : Sb} (hs : Rld s) (ht : Rld t) {x y : List UInt8} (e : Lb (txtT s) ++ x = Lb (txtT t) ++ y) : s = t ∧ x = y := by
  rw [txt_L, txt_L] at e
  simp only [List.append_assoc, List.append_cancel_left_eq] at e
  have tE : ∀ (s : Sb) (x : List UInt8), E40 (tailL s ++ x) := fun s x => by obtain ⟨r, h⟩ := tail_E s; exact ⟨r ++ x, by rw [h]; rfl⟩
  have fin : s.fin = t.fin ∧ Lb (catG heapT s.su) ++ (tailL s ++ x) = Lb (catG heapT t.su) ++ (tailL t ++ y) := by
    cases hf : s.fin <;> cases gf : t.fin <;> rw [hf, gf] at e <;> simp only [if_true, if_false, Bool.false_eq_true, List.nil_append, List.append_assoc] at e
    · exact ⟨rfl, e⟩
    · exact (rhead_no hs.su hs.s13 (tE s x) e).elim
    · exact (rhead_no ht.su ht.s13 (tE t y) e.symm).elim
    · exact ⟨rfl, by simpa using e⟩
  obtain ⟨a, b⟩ := rsups_span hs.su ht.su (tE s x) (tE t y) fin.2
  obtain ⟨c, d, f, g, h⟩ := rtail_span hs ht b
  obtain ⟨x1, x2, x3, x4, x5, x6⟩ := s
  obtain ⟨y1, y2, y3, y4, y5, y6⟩ := t
  simp only at *
  obtain ⟨rfl, _⟩ := fin
  subst a; subst c; subst d; subst f; subst g
  exact ⟨rfl, h⟩
/-- Groups have the same key just if they are the same. -/
theorem key_inj : ∀ {g h : List Sb}, (∀ s ∈ g, Rld s) → (∀ s ∈ h, Rld s) → keyG g = keyG h → g = h
  | [], [], _, _, _ => rfl
  | [], t :: h, _, _, e => by
    have := congrArg ByteArray.size e
    simp only [keyG, List.map_cons, List.map_nil, catB, ByteArray.size_append] at this
    have h2 := txt_pos t
    have h3 : (⟨#[]⟩ : ByteArray).size = 0 := rfl
    omega
  | s :: g, [], _, _, e => by
    have := congrArg ByteArray.size e
    simp only [keyG, List.map_cons, List.map_nil, catB, ByteArray.size_append] at this
    have h2 := txt_pos s
    have h3 : (⟨#[]⟩ : ByteArray).size = 0 := rfl
    omega
  | s :: g, t :: h, hs, ht, e => by
    have e := congrArg Lb e
    simp only [keyG, List.map_cons, catB, Lb_app] at e
    obtain ⟨a, b⟩ := rtxt_span (hs s List.mem_cons_self) (ht t List.mem_cons_self) e
    have := key_inj (g := g) (h := h) (fun s h => hs s (List.mem_cons_of_mem _ h)) (fun s h => ht s (List.mem_cons_of_mem _ h)) (Lb_inj b)
    rw [a, this]

/-! ### what is rolled up is written -/
theorem pv_ref {v : Vl} (hp : pvF v = true) : (v = ⟨1, false, ⟨0, 0⟩⟩ ∨ v = ⟨2, false, ⟨0, 0⟩⟩) ∨ (v.k = 3 ∧ phF v.h = true) := by
  rcases pv_k hp with ⟨h, _⟩ | ⟨h, _⟩ | ⟨h, g, _⟩ | ⟨h, g, _⟩
  · exact .inl (.inl h)
  · exact .inl (.inr h)
  · exact .inr ⟨h, g⟩
  · exact .inr ⟨h, g⟩
theorem mem_heapsV {l : List Vl} {v : Vl} (h : v ∈ l) (h3 : v.k = 3) : v.h ∈ heapsV l := by
  induction l with
  | nil => cases h
  | cons u l ih =>
    unfold heapsV
    rcases List.mem_cons.1 h with rfl | h
    · rw [if_pos h3]; exact List.mem_cons_self
    · split
      · exact List.mem_cons_of_mem _ (ih h)
      · exact ih h
theorem mvV_rv {f : Hp → Hp} {v : Vl} (hv : pvF v = true) (hf : v.k = 3 → rhF (f v.h) = true) : rvF (mvV f v) = true := by
  rcases pv_ref hv with (rfl | rfl) | ⟨h3, hp⟩
  · rfl
  · rfl
  · unfold mvV rvF
    rw [if_pos h3]
    simp only
    rw [if_neg (by omega), if_pos h3]
    exact hf h3
theorem smap_rld {f : Hp → Hp} {s : Sb} (hs : psF s = true) (hf : ∀ h ∈ sHeaps s, rhF (f h) = true) (h13 : ∀ h ∈ s.su, rk (f h).k = true) : Rld (smap f s) := by
  have hp := psF_plain hs
  have m1 : ∀ h ∈ s.su, h ∈ sHeaps s := fun h hh => by unfold sHeaps; simp [hh]
  have m2 : ∀ v ∈ s.ps, v.k = 3 → v.h ∈ sHeaps s := fun v hv h3 => by unfold sHeaps; simp [mem_heapsV hv h3]
  have m3 : ∀ v ∈ s.rs, v.k = 3 → v.h ∈ sHeaps s := fun v hv h3 => by unfold sHeaps; simp [mem_heapsV hv h3]
  have m4 : ∀ x ∈ s.fs, x.t.k = 3 → x.t.h ∈ sHeaps s := fun x hx h3 => by
    have h : x.t.h ∈ heapsV (tys s.fs) := mem_heapsV (List.mem_map.2 ⟨x, hx, rfl⟩) h3
    unfold sHeaps; simp [h]
  refine ⟨?_, ?_, ?_, ?_, ?_, ?_⟩
  · rw [List.all_eq_true]
    intro x hx
    obtain ⟨h, hh, rfl⟩ := List.mem_map.1 hx
    exact h13 h hh
  · rw [List.all_eq_true]
    intro x hx
    obtain ⟨h, hh, rfl⟩ := List.mem_map.1 hx
    exact hf h (m1 h hh)
  · rw [List.all_eq_true]
    intro x hx
    obtain ⟨v, hv, rfl⟩ := List.mem_map.1 hx
    exact mvV_rv (List.all_eq_true.1 hp.ps v hv) fun h3 => hf _ (m2 v hv h3)
  · rw [List.all_eq_true]
    intro x hx
    obtain ⟨v, hv, rfl⟩ := List.mem_map.1 hx
    exact mvV_rv (List.all_eq_true.1 hp.rs v hv) fun h3 => hf _ (m3 v hv h3)
  · rw [List.all_eq_true]
    intro x hx
    obtain ⟨d, hd, rfl⟩ := List.mem_map.1 hx
    have hpf := List.all_eq_true.1 hp.fs d hd
    unfold rfF
    unfold pfF at hpf
    simp only
    split at hpf
    · rename_i h0
      rw [if_pos h0]
      exact mvV_rv hpf fun h3 => hf _ (m4 d hd h3)
    · rename_i h0
      split at hpf
      · rename_i h8
        rw [if_neg h0, if_pos h8]
        have e := of_decide_eq_true hpf
        rw [e]; rfl
      · cases hpf
  · have := hp.sh
    unfold shF at this ⊢
    unfold smap
    simpa using this
theorem rollH_rh {ids : List Int} {m : Nat} {h : Hp} (hp : phF h = true) (ho : rollOk ids m h = true) (hi : ∀ i ∈ ids, 0 ≤ i ∧ i ≤ 4294967295) : rhF (rollH ids m h) = true ∧ (h.k = 13 → (rollH ids m h).k = 14 ∨ (rollH ids m h).k = 15) := by
  unfold rollH
  by_cases h13 : h.k = 13
  · have := of_decide_eq_true ho
    rw [if_neg (by simp [h13])]
    have h0 : 0 ≤ h.n ∧ h.n < ids.length + m := by omega
    split
    · rename_i h1
      refine ⟨?_, fun _ => .inr rfl⟩
      show decide (0 ≤ ids.getD h.n.toNat 0 ∧ ids.getD h.n.toNat 0 ≤ 4294967295) = true
      rw [List.getD_eq_getElem?_getD, List.getElem?_eq_getElem (show h.n.toNat < ids.length by omega)]
      exact decide_eq_true (hi _ (List.getElem_mem _))
    · rw [if_pos (by omega)]
      refine ⟨?_, fun _ => .inl rfl⟩
      unfold phF at hp
      rw [if_pos h13] at hp
      have hp := of_decide_eq_true hp
      show decide (0 ≤ h.n - (ids.length : Int) ∧ h.n - (ids.length : Int) ≤ 4294967295) = true
      exact decide_eq_true (by omega)
  · rw [if_pos h13]
    refine ⟨?_, fun h => absurd h h13⟩
    unfold phF at hp
    rw [if_neg h13] at hp
    have := of_decide_eq_true hp
    unfold rhF
    rw [if_neg (by rw [rk_iff]; omega)]
    exact hp
theorem ps_heaps {s : Sb} (h : psF s = true) : (sHeaps s).all phF = true ∧ s.su.all (fun h => h.k == 13) = true := by
  unfold psF at h
  simp only [Bool.and_eq_true] at h
  exact ⟨h.2.1, h.1⟩
theorem rollS_rld {ids : List Int} {m : Nat} {s : Sb} (h : rollSok ids m s = true) (hi : ∀ i ∈ ids, 0 ≤ i ∧ i ≤ 4294967295) : Rld (rollS ids m s) := by
  unfold rollSok at h
  simp only [Bool.and_eq_true] at h
  obtain ⟨h1, h2⟩ := h
  obtain ⟨h3, h4⟩ := ps_heaps h1
  refine smap_rld h1 (fun x hx => (rollH_rh (List.all_eq_true.1 h3 x hx) (List.all_eq_true.1 h2 x hx) hi).1) fun x hx => ?_
  have m1 : x ∈ sHeaps s := by unfold sHeaps; simp [hx]
  have := (rollH_rh (List.all_eq_true.1 h3 x m1) (List.all_eq_true.1 h2 x m1) hi).2 (by simpa using List.all_eq_true.1 h4 x hx)
  rw [rk_iff]; omega
theorem rollG_rld {ids : List Int} {g : List Sb} (h : g.all (rollSok ids g.length) = true) (hi : ∀ i ∈ ids, 0 ≤ i ∧ i ≤ 4294967295) : ∀ s ∈ rollG ids g, Rld s := by
  intro s hs
  obtain ⟨t, ht, rfl⟩ := List.mem_map.1 hs
  exact rollS_rld (List.all_eq_true.1 h t ht) hi

/-! ### what a table holds -/
def mpG : Int → List (List Sb) → ByteArray → Option (Int × Int)
  | _, [], _ => none
  | f, g :: r, l => if l = keyG g then some (f, (g.length : Int)) else mpG (f + g.length) r l
def esG : Int → List (List Sb) → List (Int × Int)
  | _, [] => []
  | f, g :: r => List.replicate g.length (f, (g.length : Int)) ++ esG (f + g.length) r
/-- The table holds these groups, one behind the other. -/
structure Gps (s : TS) (gs : List (List Sb)) : Prop where
  ts : s.ts = gs.flatten
  es : s.es = esG 0 gs
  mp : ∀ l, s.mp l = mpG 0 gs l
  pl : ∀ g ∈ gs, ∀ t ∈ g, Rld t
  z : ∀ t ∈ s.ts, t.small 1100000
theorem Gps.nil : Gps TS0 [] := ⟨rfl, rfl, fun _ => rfl, (fun _ h => by cases h), fun _ h => by cases h⟩
theorem mpG_some {gs : List (List Sb)} {l : ByteArray} {e : Int × Int} : ∀ {f : Int}, mpG f gs l = some e → ∃ a g b, gs = a ++ g :: b ∧ l = keyG g ∧ e = (f + (a.flatten.length : Int), (g.length : Int)) := by
  induction gs with
  | nil => intro f h; cases h
  | cons g gs ih =>
    intro f h
    unfold mpG at h
    split at h
    · rename_i hl
      injection h with h
      exact ⟨[], g, gs, rfl, hl, by rw [← h]; simp⟩
    · obtain ⟨a, g', b, h1, h2, h3⟩ := ih h
      refine ⟨g :: a, g', b, by rw [h1]; rfl, h2, ?_⟩
      rw [h3]
      simp only [List.flatten_cons, List.length_append]
      congr 1
      omega
theorem mpG_none {gs : List (List Sb)} {l : ByteArray} : ∀ {f : Int}, mpG f gs l = none → ∀ g ∈ gs, l ≠ keyG g := by
  induction gs with
  | nil => intro f _ g hg; cases hg
  | cons g gs ih =>
    intro f h t ht
    unfold mpG at h
    split at h
    · cases h
    · rename_i hl
      rcases List.mem_cons.1 ht with rfl | ht
      · exact hl
      · exact ih h t ht
theorem mpG_snoc {gs : List (List Sb)} {r : List Sb} {l : ByteArray} : ∀ {f : Int}, mpG f (gs ++ [r]) l = match mpG f gs l with
    | some e => some e
    | none => if l = keyG r then some (f + (gs.flatten.length : Int), (r.length : Int)) else none := by
  induction gs with
  | nil => intro f; simp [mpG]
  | cons g gs ih =>
    intro f
    rw [List.cons_append, mpG, mpG]
    split
    · rfl
    · rw [ih]
      cases mpG (f + g.length) gs l with
      | some e => rfl
      | none =>
        simp only [List.flatten_cons, List.length_append]
        split
        · congr 2; omega
        · rfl
theorem esG_snoc {gs : List (List Sb)} {r : List Sb} : ∀ {f : Int}, esG f (gs ++ [r]) = esG f gs ++ List.replicate r.length (f + (gs.flatten.length : Int), (r.length : Int)) := by
  induction gs with
  | nil => intro f; simp [esG]
  | cons g gs ih =>
    intro f
    rw [List.cons_append, esG, esG, ih, List.append_assoc]
    rw [List.flatten_cons, List.length_append, show f + (g.length : Int) + (gs.flatten.length : Int) = f + ((g.length + gs.flatten.length : Nat) : Int) by omega]
theorem Gps.put {s : TS} {gs : List (List Sb)} (h : Gps s gs) {r : List Sb} (hr : ∀ t ∈ r, Rld t) (hz : ∀ t ∈ r, t.small 1100000) (hn : s.mp (keyG r) = none) : Gps (s.put r) (gs ++ [r]) := by
  refine ⟨?_, ?_, fun l => ?_, ?_, fun t ht => (List.mem_append.1 (show t ∈ s.ts ++ r from ht)).elim (h.z t) (hz t)⟩
  · show s.ts ++ r = _
    rw [h.ts]; simp
  · show s.es ++ _ = _
    rw [esG_snoc, h.es, h.ts, Int.zero_add]
  · show (if l = keyG r then _ else s.mp l) = _
    rw [mpG_snoc, ← h.mp l]
    split
    · rename_i hl
      rw [hl, hn]
      simp only [if_true, h.ts, Int.zero_add]
    · rename_i hl
      cases hm : s.mp l with
      | some e => rfl
      | none => simp only [if_neg hl]
  · intro g hg
    rcases List.mem_append.1 hg with hg | hg
    · exact h.pl g hg
    · simp only [List.mem_cons, List.not_mem_nil, or_false] at hg
      rw [hg]; exact hr
/-- What stands at the numbers of a group. -/
theorem esG_get {gs : List (List Sb)} {a b : List (List Sb)} {g : List Sb} (e : gs = a ++ g :: b) (k : Nat) (hk : k < g.length) : ∀ f : Int, (esG f gs)[a.flatten.length + k]? = some (f + (a.flatten.length : Int), (g.length : Int)) := by
  subst e
  induction a with
  | nil =>
    intro f
    rw [List.nil_append, esG, List.getElem?_append_left (by simp; omega)]
    simp [List.getElem?_replicate, hk]
  | cons c a ih =>
    intro f
    rw [List.cons_append, esG, List.getElem?_append_right (by simp; omega)]
    simp only [List.length_replicate, List.flatten_cons, List.length_append]
    rw [show c.length + a.flatten.length + k - c.length = a.flatten.length + k by omega, ih]
    congr 2
    omega
theorem flat_at {a b : List (List Sb)} {g : List Sb} (k : Nat) (hk : k < g.length) : (a ++ g :: b).flatten[a.flatten.length + k]? = some g[k] := by
  rw [List.flatten_append, List.getElem?_append_right (by omega), List.flatten_cons, Nat.add_sub_cancel_left, List.getElem?_append_left hk, List.getElem?_eq_getElem hk]

/-- WHAT Add DOES: the table holds the group that was rolled up, and the numbers are its ones. -/
theorem addF_gps {s : TS} {gs : List (List Sb)} (h : Gps s gs) {ids : List Int} {g : List Sb} (hts : s.ts.length ≤ 10000) (hg : ∀ t ∈ g, t.small 1100000) (h0 : (addF s ids g).2.2 = 0) :
    ∃ gs' a b, Gps (addF s ids g).1 gs' ∧ gs' = a ++ rollG ids g :: b ∧ (addF s ids g).2.1 = outI ids ((a.flatten.length : Int), (g.length : Int)) ∧ g.all (rollSok ids g.length) = true ∧ (∀ i ∈ ids, hasF s i = true) ∧ (gs' = gs ∨ gs' = gs ++ [rollG ids g]) := by
  unfold addF at h0 ⊢
  split at h0
  · cases h0
  rename_i h1
  rw [if_neg h1]
  have hh : ∀ i ∈ ids, hasF s i = true := by
    intro i hi
    simp only [List.any_eq_true, not_exists, not_and] at h1
    have := h1 i hi
    simpa using this
  split at h0
  · cases h0
  rename_i h2
  rw [if_neg h2]
  have h2 : g.all (rollSok ids g.length) = true := by simpa using h2
  have hr := rollG_rld h2 fun i hi => ⟨(hasF_iff.1 (hh i hi)).1, by have := (hasF_iff.1 (hh i hi)).2; omega⟩
  have hrz : ∀ t ∈ rollG ids g, t.small 1100000 := fun t ht => by
    obtain ⟨u, hu, rfl⟩ := List.mem_map.1 ht
    exact smap_small _ (hg u hu)
  have hrl : (rollG ids g).length = g.length := by simp [rollG]
  cases hm : s.mp (keyG (rollG ids g)) with
  | some e =>
    simp only [hm] at h0 ⊢
    have hm2 := hm
    rw [h.mp] at hm2
    obtain ⟨a, g', b, e1, e2, e3⟩ := mpG_some hm2
    have : rollG ids g = g' := key_inj hr (h.pl g' (by rw [e1]; simp)) e2
    subst this
    refine ⟨gs, a, b, h, e1, ?_, h2, hh, .inl rfl⟩
    rw [e3, hrl, Int.zero_add]
  | none =>
    simp only [hm] at h0 ⊢
    split at h0
    · cases h0
    rename_i h3
    rw [if_neg h3]
    refine ⟨gs ++ [rollG ids g], gs, [], h.put hr hrz hm, rfl, ?_, h2, hh, .inr rfl⟩
    rw [h.ts]
theorem addF_bad {s : TS} {ids : List Int} {g : List Sb} (h0 : (addF s ids g).2.2 ≠ 0) : (addF s ids g).1 = s := by
  unfold addF at h0 ⊢
  split
  · rfl
  · split
    · rfl
    · split
      · rfl
      · split
        · rfl
        · rename_i h1 h2 _ h3 h4
          rw [if_neg h1, if_neg h2] at h0
          simp only [h3] at h0
          rw [if_neg h4] at h0
          exact absurd rfl h0
end Go.Proofs.YtkcbmkoafmffoaaDoor
