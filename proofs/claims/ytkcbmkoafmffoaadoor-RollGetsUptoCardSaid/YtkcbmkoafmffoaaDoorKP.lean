/-
  The kind layer, the plain law: plain types have the same writing just if they are the same.
-/
import Derived.Test.YtkcbmkoafmffoaaDoorKG
import Derived.Test.YtkcbmkoafmffoaaDoorKI
set_option linter.unusedVariables false
set_option linter.unusedSimpArgs false
set_option maxRecDepth 20000
namespace Go.Proofs.YtkcbmkoafmffoaaDoor
open Go Go.Eng

def Lb (b : ByteArray) : List UInt8 := b.data.toList
theorem Lb_app (a b : ByteArray) : Lb (a ++ b) = Lb a ++ Lb b := by simp [Lb, ByteArray.data_append]
theorem Lb_mk (a : Array UInt8) : Lb ⟨a⟩ = a.toList := rfl
theorem Lb_inj {a b : ByteArray} (h : Lb a = Lb b) : a = b := by
  obtain ⟨⟨a⟩⟩ := a
  obtain ⟨⟨b⟩⟩ := b
  have : a = b := h
  rw [this]

/-- A character of a word. -/
def wd (c : UInt8) : Bool := c != 32 && c != 40 && c != 41
/-- What begins with no character of a word. -/
def Stop (l : List UInt8) : Prop := ∀ c r, l = c :: r → wd c = false
theorem Stop.nil : Stop [] := fun _ _ h => by cases h
theorem Stop.cons {c : UInt8} {r : List UInt8} (h : wd c = false) : Stop (c :: r) := fun _ _ e => by injection e with e1 e2; subst e1; exact h

/-- Words end where no character of a word stands. -/
theorem span_eq : ∀ {p q x y : List UInt8}, p.all wd = true → q.all wd = true → Stop x → Stop y → p ++ x = q ++ y → p = q ∧ x = y
  | [], [], _, _, _, _, _, _, h => ⟨rfl, h⟩
  | [], c :: q, x, y, _, hq, hx, _, h => by
    have := hx c (q ++ y) h
    simp only [List.all_cons, Bool.and_eq_true] at hq
    rw [hq.1] at this; cases this
  | c :: p, [], x, y, hp, _, _, hy, h => by
    have := hy c (p ++ x) h.symm
    simp only [List.all_cons, Bool.and_eq_true] at hp
    rw [hp.1] at this; cases this
  | c :: p, d :: q, x, y, hp, hq, hx, hy, h => by
    simp only [List.all_cons, Bool.and_eq_true, List.cons_append, List.cons.injEq] at hp hq h
    obtain ⟨h1, h2⟩ := span_eq hp.2 hq.2 hx hy h.2
    exact ⟨by rw [h.1, h1], h2⟩

/-! ### numerals -/
def dgt (c : UInt8) : Bool := decide (48 ≤ c.toNat ∧ c.toNat ≤ 57)
theorem dgt_mk {n : Nat} (h : n < 10) : (UInt8.ofNat (48 + n)).toNat = 48 + n := by
  rw [UInt8.toNat_ofNat']; omega
theorem dec_dgt (u : Nat) : ∀ c ∈ Lib.decDigits u, dgt c = true := by
  induction u using Nat.strongRecOn with
  | _ u ih =>
    intro c hc
    rw [Lib.decDigits] at hc
    split at hc
    · simp only [List.mem_cons, List.not_mem_nil, or_false] at hc
      subst hc
      unfold dgt; rw [dgt_mk (by omega)]; simp; omega
    · rename_i hu
      rcases List.mem_append.1 hc with hc | hc
      · exact ih (u / 10) (by omega) c hc
      · simp only [List.mem_cons, List.not_mem_nil, or_false] at hc
        subst hc
        unfold dgt; rw [dgt_mk (by omega)]; simp; omega
theorem dec_ne (u : Nat) : Lib.decDigits u ≠ [] := by
  rw [Lib.decDigits]; split <;> simp
def dval (l : List UInt8) : Nat := l.foldl (fun a c => a * 10 + (c.toNat - 48)) 0
theorem dec_val (u : Nat) : dval (Lib.decDigits u) = u := by
  induction u using Nat.strongRecOn with
  | _ u ih =>
    rw [Lib.decDigits]
    split
    · simp only [dval, List.foldl_cons, List.foldl_nil]
      rw [dgt_mk (by omega)]; omega
    · have := ih (u / 10) (by omega)
      unfold dval at this ⊢
      rw [List.foldl_append, this]
      simp only [List.foldl_cons, List.foldl_nil]
      rw [dgt_mk (by omega)]; omega
theorem dec_inj {u v : Nat} (h : Lib.decDigits u = Lib.decDigits v) : u = v := by rw [← dec_val u, h, dec_val]
theorem dgt_wd {c : UInt8} (h : dgt c = true) : wd c = true := by
  unfold dgt at h
  have h := of_decide_eq_true h
  unfold wd
  simp only [Bool.and_eq_true, bne_iff_ne, ne_eq]
  refine ⟨⟨?_, ?_⟩, ?_⟩ <;> (rintro rfl; simp at h)
theorem itoa_dec {n : Int} (h : 0 ≤ n) : Lb (itoaB n) = Lib.decDigits n.toNat := by
  show (Lib.itoa n) = _
  unfold Lib.itoa; rw [if_neg (by omega)]

/-! ### heap types -/
theorem nm_wd (k : Nat) : (Lb (nmB.getD k ⟨#[]⟩)).all wd = true := by
  rw [List.getD_eq_getElem?_getD]
  by_cases h : k < nmB.length
  · rw [List.getElem?_eq_getElem h]
    have : ∀ b ∈ nmB, (Lb b).all wd = true := by decide
    exact this _ (List.getElem_mem h)
  · rw [List.getElem?_eq_none (by omega)]; rfl
theorem nm_inj : ∀ k l : Fin 13, Lb (nmB.getD k.1 ⟨#[]⟩) = Lb (nmB.getD l.1 ⟨#[]⟩) → k = l := by decide
theorem nm_head : ∀ k : Fin 13, 1 ≤ k.1 → ∃ c r, Lb (nmB.getD k.1 ⟨#[]⟩) = c :: r ∧ dgt c = false := by
  intro k hk
  have : ∀ k : Fin 13, 1 ≤ k.1 → (match Lb (nmB.getD k.1 ⟨#[]⟩) with | [] => false | c :: _ => !dgt c) = true := by decide
  have := this k hk
  generalize Lb (nmB.getD k.1 ⟨#[]⟩) = l at this
  cases l with
  | nil => cases this
  | cons c r => exact ⟨c, r, rfl, by simpa using this⟩

theorem ph_idx {h : Hp} (hp : phF h = true) (h13 : h.k = 13) : 0 ≤ h.n ∧ Lb (heapT h) = Lib.decDigits h.n.toNat := by
  unfold phF at hp
  rw [if_pos h13] at hp
  have := of_decide_eq_true hp
  refine ⟨this.1, ?_⟩
  unfold heapT; rw [if_pos h13]
  exact itoa_dec this.1
theorem ph_nm {h : Hp} (hp : phF h = true) (h13 : h.k ≠ 13) : (1 ≤ h.k ∧ h.k ≤ 12) ∧ h.n = 0 ∧ Lb (heapT h) = Lb (nmB.getD h.k.toNat ⟨#[]⟩) := by
  unfold phF at hp
  rw [if_neg h13] at hp
  have := of_decide_eq_true hp
  refine ⟨⟨this.1, this.2.1⟩, this.2.2, ?_⟩
  unfold heapT; rw [if_neg h13, if_neg (by omega), if_neg (by omega), if_neg (by omega)]; rfl
theorem ph_wd {h : Hp} (hp : phF h = true) : (Lb (heapT h)).all wd = true := by
  by_cases h13 : h.k = 13
  · rw [(ph_idx hp h13).2, List.all_eq_true]
    exact fun c hc => dgt_wd (dec_dgt _ c hc)
  · rw [(ph_nm hp h13).2.2]; exact nm_wd _
theorem ph_cons {h : Hp} (hp : phF h = true) : ∃ c r, Lb (heapT h) = c :: r ∧ wd c = true := by
  have hw := ph_wd hp
  have hne : Lb (heapT h) ≠ [] := by
    by_cases h13 : h.k = 13
    · rw [(ph_idx hp h13).2]; exact dec_ne _
    · obtain ⟨a, b, c⟩ := ph_nm hp h13
      obtain ⟨d, r, e, _⟩ := nm_head ⟨h.k.toNat, by omega⟩ (by show 1 ≤ h.k.toNat; omega)
      rw [c]; simp only at e; rw [e]; simp
  generalize Lb (heapT h) = l at hw hne
  cases l with
  | nil => exact absurd rfl hne
  | cons c r =>
    simp only [List.all_cons, Bool.and_eq_true] at hw
    exact ⟨c, r, rfl, hw.1⟩
theorem ph_inj {h g : Hp} (hp : phF h = true) (gp : phF g = true) (e : Lb (heapT h) = Lb (heapT g)) : h = g := by
  obtain ⟨k, n⟩ := h
  obtain ⟨l, m⟩ := g
  by_cases h13 : k = 13
  · obtain ⟨h0, h1⟩ := ph_idx hp h13
    by_cases g13 : l = 13
    · obtain ⟨g0, g1⟩ := ph_idx gp g13
      rw [h1, g1] at e
      have := dec_inj e
      simp only at *
      obtain rfl : n = m := by omega
      subst h13; subst g13; rfl
    · obtain ⟨g0, g2, g1⟩ := ph_nm gp g13
      obtain ⟨c, r, e1, e2⟩ := nm_head ⟨l.toNat, by simp only at g0; omega⟩ (by show 1 ≤ l.toNat; simp only at g0; omega)
      simp only at *
      rw [h1, g1, e1] at e
      have := dec_dgt n.toNat c (by rw [e]; simp)
      rw [e2] at this; cases this
  · obtain ⟨h0, h2, h1⟩ := ph_nm hp h13
    by_cases g13 : l = 13
    · obtain ⟨g0, g1⟩ := ph_idx gp g13
      obtain ⟨c, r, e1, e2⟩ := nm_head ⟨k.toNat, by simp only at h0; omega⟩ (by show 1 ≤ k.toNat; simp only at h0; omega)
      simp only at *
      rw [h1, g1, e1] at e
      have := dec_dgt m.toNat c (by rw [← e]; simp)
      rw [e2] at this; cases this
    · obtain ⟨g0, g2, g1⟩ := ph_nm gp g13
      rw [h1, g1] at e
      have := nm_inj ⟨k.toNat, by simp only at h0; omega⟩ ⟨l.toNat, by simp only at g0; omega⟩ e
      have h0' : 1 ≤ k ∧ k ≤ 12 := h0
      have g0' : 1 ≤ l ∧ l ≤ 12 := g0
      have h2' : n = 0 := h2
      have g2' : m = 0 := g2
      have this : k.toNat = l.toNat := by simpa using this
      obtain rfl : k = l := by omega
      rw [h2', g2']
theorem ph_span {h g : Hp} {x y : List UInt8} (hp : phF h = true) (gp : phF g = true) (hx : Stop x) (hy : Stop y) (e : Lb (heapT h) ++ x = Lb (heapT g) ++ y) : h = g ∧ x = y := by
  obtain ⟨e1, e2⟩ := span_eq (ph_wd hp) (ph_wd gp) hx hy e
  exact ⟨ph_inj hp gp e1, e2⟩

/-! ### value types -/
theorem pv_k {v : Vl} (hp : pvF v = true) : (v = ⟨1, false, ⟨0, 0⟩⟩ ∧ Lb (valT v) = [105, 51, 50]) ∨ (v = ⟨2, false, ⟨0, 0⟩⟩ ∧ Lb (valT v) = [105, 54, 52]) ∨
    (v.k = 3 ∧ phF v.h = true ∧ v.nul = true ∧ Lb (valT v) = [40, 114, 101, 102, 32, 110, 117, 108, 108, 32] ++ Lb (heapT v.h) ++ [41]) ∨ (v.k = 3 ∧ phF v.h = true ∧ v.nul = false ∧ Lb (valT v) = [40, 114, 101, 102, 32] ++ Lb (heapT v.h) ++ [41]) := by
  obtain ⟨k, nul, ⟨hk, hn⟩⟩ := v
  unfold pvF at hp
  simp only at hp ⊢
  by_cases h1 : k = 1
  · rw [if_pos (.inl h1)] at hp
    obtain ⟨rfl, rfl, rfl⟩ := of_decide_eq_true hp
    subst h1
    exact .inl ⟨rfl, rfl⟩
  by_cases h2 : k = 2
  · rw [if_pos (.inr h2)] at hp
    obtain ⟨rfl, rfl, rfl⟩ := of_decide_eq_true hp
    subst h2
    exact .inr (.inl ⟨rfl, rfl⟩)
  rw [if_neg (by omega)] at hp
  by_cases h3 : k = 3
  · rw [if_pos h3] at hp
    subst h3
    cases nul with
    | true => exact .inr (.inr (.inl ⟨rfl, hp, rfl, by unfold valT; simp only [Lb_app, Lb_mk]; rfl⟩))
    | false => exact .inr (.inr (.inr ⟨rfl, hp, rfl, by unfold valT; simp only [Lb_app, Lb_mk]; rfl⟩))
  · rw [if_neg h3] at hp; cases hp
theorem stop41 (x : List UInt8) : Stop (41 :: x) := Stop.cons rfl
theorem stop32 (x : List UInt8) : Stop (32 :: x) := Stop.cons rfl
theorem null_no {h : Hp} (hp : phF h = true) (x y : List UInt8) (e : [110, 117, 108, 108, 32] ++ x = Lb (heapT h) ++ 41 :: y) : False := by
  have := span_eq (p := [110, 117, 108, 108]) (x := 32 :: x) (by decide) (ph_wd hp) (stop32 _) (stop41 _) e
  have := this.2
  simp at this
theorem pv_span {v u : Vl} {x y : List UInt8} (hp : pvF v = true) (up : pvF u = true) (e : Lb (valT v) ++ x = Lb (valT u) ++ y) : v = u ∧ x = y := by
  rcases pv_k hp with ⟨rfl, h1⟩ | ⟨rfl, h1⟩ | ⟨h3, h4, h5, h1⟩ | ⟨h3, h4, h5, h1⟩ <;> rcases pv_k up with ⟨rfl, g1⟩ | ⟨rfl, g1⟩ | ⟨g3, g4, g5, g1⟩ | ⟨g3, g4, g5, g1⟩ <;> (try rw [h1] at e) <;> (try rw [g1] at e) <;> simp only [List.cons_append, List.nil_append, List.cons.injEq, List.append_assoc, true_and] at e
  all_goals first
    | exact ⟨rfl, e⟩
    | exact absurd e.1 (by decide)
    | exact absurd e.2.1 (by decide)
    | exact (null_no g4 _ _ e).elim
    | exact (null_no h4 _ _ e.symm).elim
    | (obtain ⟨a, b⟩ := ph_span h4 g4 (stop41 _) (stop41 _) e
       simp only [List.cons.injEq, true_and] at b
       refine ⟨?_, b⟩
       obtain ⟨k, nul, h⟩ := v
       obtain ⟨l, mul, g⟩ := u
       simp only at *
       subst h3; subst g3; subst h5; subst g5; subst a; rfl)

/-! ### fields -/
def inT (f : Fd) : ByteArray := if f.pk = 0 then valT f.t else ⟨#[105]⟩ ++ itoaB f.pk
theorem pf_k {f : Fd} (hp : pfF f = true) : (f.pk = 0 ∧ pvF f.t = true ∧ Lb (inT f) = Lb (valT f.t)) ∨ (f.pk = 8 ∧ f.t = ⟨1, false, ⟨0, 0⟩⟩ ∧ Lb (inT f) = [105, 56]) ∨ (f.pk = 16 ∧ f.t = ⟨1, false, ⟨0, 0⟩⟩ ∧ Lb (inT f) = [105, 49, 54]) := by
  obtain ⟨pk, t, m⟩ := f
  unfold pfF at hp
  simp only at hp ⊢
  by_cases h0 : pk = 0
  · rw [if_pos h0] at hp
    refine .inl ⟨h0, hp, ?_⟩
    unfold inT; rw [if_pos h0]
  rw [if_neg h0] at hp
  by_cases h8 : pk = 8
  · rw [if_pos (.inl h8)] at hp
    refine .inr (.inl ⟨h8, of_decide_eq_true hp, ?_⟩)
    subst h8
    unfold inT; rw [if_neg (by simp), Lb_app, itoa_dec (by show (0 : Int) ≤ 8; decide)]
    simp only [Lb_mk]
    rw [show (8 : Int).toNat = 8 from rfl, Lib.decDigits_one (by decide)]; rfl
  by_cases h16 : pk = 16
  · rw [if_pos (.inr h16)] at hp
    refine .inr (.inr ⟨h16, of_decide_eq_true hp, ?_⟩)
    subst h16
    unfold inT; rw [if_neg (by simp), Lb_app, itoa_dec (by show (0 : Int) ≤ 16; decide)]
    simp only [Lb_mk]
    rw [show (16 : Int).toNat = 16 from rfl, Lib.decDigits_two (by decide) (by decide)]; rfl
  · rw [if_neg (by omega)] at hp; cases hp
theorem word_no {p q x y : List UInt8} (hp : p.all wd = true) (hq : q.all wd = true) (hx : Stop x) (hy : Stop y) (hpq : p ≠ q) : p ++ x ≠ q ++ y := fun e => hpq (span_eq hp hq hx hy e).1
theorem word_ref {p x y : List UInt8} (hp : p.all wd = true) (hne : p ≠ []) : p ++ x ≠ 40 :: y := by
  cases p with
  | nil => exact absurd rfl hne
  | cons c r =>
    intro e
    simp only [List.cons_append, List.cons.injEq] at e
    simp only [List.all_cons, Bool.and_eq_true] at hp
    rw [e.1] at hp
    exact absurd hp.1 (by decide)
theorem pv_word {v : Vl} (hp : pvF v = true) {p x y : List UInt8} (hw : p.all wd = true) (hne : p ≠ []) (hx : Stop x) (hy : Stop y) (h1 : p ≠ [105, 51, 50]) (h2 : p ≠ [105, 54, 52]) : p ++ x ≠ Lb (valT v) ++ y := by
  rcases pv_k hp with ⟨rfl, g1⟩ | ⟨rfl, g1⟩ | ⟨g3, g4, g5, g1⟩ | ⟨g3, g4, g5, g1⟩ <;> rw [g1]
  · exact word_no hw (by decide) hx hy h1
  · exact word_no hw (by decide) hx hy h2
  · simp only [List.cons_append]; exact word_ref hw hne
  · simp only [List.cons_append]; exact word_ref hw hne
theorem in_span {f g : Fd} {x y : List UInt8} (hp : pfF f = true) (gp : pfF g = true) (hx : Stop x) (hy : Stop y) (e : Lb (inT f) ++ x = Lb (inT g) ++ y) : f.pk = g.pk ∧ f.t = g.t ∧ x = y := by
  rcases pf_k hp with ⟨h1, h2, h3⟩ | ⟨h1, h2, h3⟩ | ⟨h1, h2, h3⟩ <;> rcases pf_k gp with ⟨g1, g2, g3⟩ | ⟨g1, g2, g3⟩ | ⟨g1, g2, g3⟩ <;> rw [h3, g3] at e
  · obtain ⟨a, b⟩ := pv_span h2 g2 e
    exact ⟨by rw [h1, g1], a, b⟩
  · exact (pv_word h2 (p := [105, 56]) (by decide) (by decide) hy hx (by decide) (by decide) e.symm).elim
  · exact (pv_word h2 (p := [105, 49, 54]) (by decide) (by decide) hy hx (by decide) (by decide) e.symm).elim
  · exact (pv_word g2 (p := [105, 56]) (by decide) (by decide) hx hy (by decide) (by decide) e).elim
  · exact ⟨by rw [h1, g1], by rw [h2, g2], (span_eq (by decide) (by decide) hx hy e).2⟩
  · exact absurd (span_eq (by decide) (by decide) hx hy e).1 (by decide)
  · exact (pv_word g2 (p := [105, 49, 54]) (by decide) (by decide) hx hy (by decide) (by decide) e).elim
  · exact absurd (span_eq (by decide) (by decide) hx hy e).1 (by decide)
  · exact ⟨by rw [h1, g1], by rw [h2, g2], (span_eq (by decide) (by decide) hx hy e).2⟩
theorem fldT_in' (f : Fd) : Lb (fldT f) = if f.m = true then [40, 109, 117, 116, 32] ++ Lb (inT f) ++ [41] else Lb (inT f) := by
  unfold fldT inT
  split
  · simp only [Lb_app, Lb_mk]
  · rfl
theorem in_mut {f : Fd} (hp : pfF f = true) {x y : List UInt8} (hx : Stop x) : Lb (inT f) ++ x ≠ 40 :: 109 :: y := by
  rcases pf_k hp with ⟨h1, h2, h3⟩ | ⟨h1, h2, h3⟩ | ⟨h1, h2, h3⟩ <;> rw [h3]
  · rcases pv_k h2 with ⟨_, g1⟩ | ⟨_, g1⟩ | ⟨g3, g4, g5, g1⟩ | ⟨g3, g4, g5, g1⟩ <;> rw [g1] <;> simp
  · simp
  · simp
theorem pf_span {f g : Fd} {x y : List UInt8} (hp : pfF f = true) (gp : pfF g = true) (hx : Stop x) (hy : Stop y) (e : Lb (fldT f) ++ x = Lb (fldT g) ++ y) : f = g ∧ x = y := by
  rw [fldT_in', fldT_in'] at e
  have hfg : ∀ {f g : Fd}, f.pk = g.pk → f.t = g.t → f.m = g.m → f = g := by
    rintro ⟨_, _, _⟩ ⟨_, _, _⟩ h1 h2 h3
    simp only at h1 h2 h3
    rw [h1, h2, h3]
  cases hm : f.m <;> cases gm : g.m <;> rw [hm, gm] at e <;> simp only [if_true, if_false, Bool.false_eq_true, List.cons_append, List.nil_append, List.append_assoc, List.cons.injEq, true_and] at e
  · obtain ⟨a, b, c⟩ := in_span hp gp hx hy e
    exact ⟨hfg a b (by rw [hm, gm]), c⟩
  · exact (in_mut hp hx e).elim
  · exact (in_mut gp hy e.symm).elim
  · obtain ⟨a, b, c⟩ := in_span hp gp (stop41 _) (stop41 _) e
    simp only [List.cons.injEq, true_and] at c
    exact ⟨hfg a b (by rw [hm, gm]), c⟩

/-! ### lists -/
theorem cat_cons {α : Type} (f : α → ByteArray) (a : α) (l : List α) : Lb (catG f (a :: l)) = 32 :: (Lb (f a) ++ Lb (catG f l)) := by
  simp only [catG, Lb_app, Lb_mk, List.cons_append, List.nil_append]
theorem cat_span {α : Type} (f : α → ByteArray) (p : α → Bool) (e : List UInt8 → Prop) (he : ∀ x, e x → Stop x) (hs : ∀ a b x y, p a = true → p b = true → Stop x → Stop y → Lb (f a) ++ x = Lb (f b) ++ y → a = b ∧ x = y)
    (hne : ∀ x a r, e x → p a = true → x ≠ 32 :: (Lb (f a) ++ r)) : ∀ (l m : List α) (x y : List UInt8), l.all p = true → m.all p = true → e x → e y → Lb (catG f l) ++ x = Lb (catG f m) ++ y → l = m ∧ x = y
  | [], [], _, _, _, _, _, _, h => ⟨rfl, h⟩
  | [], b :: m, x, y, _, hm, hx, _, h => by
    rw [cat_cons] at h
    simp only [List.all_cons, Bool.and_eq_true] at hm
    exact (hne x b _ hx hm.1 (h.trans (by rw [List.cons_append, List.append_assoc]))).elim
  | a :: l, [], x, y, hl, _, _, hy, h => by
    rw [cat_cons] at h
    simp only [List.all_cons, Bool.and_eq_true] at hl
    exact (hne y a _ hy hl.1 (h.symm.trans (by rw [List.cons_append, List.append_assoc]))).elim
  | a :: l, b :: m, x, y, hl, hm, hx, hy, h => by
    rw [cat_cons, cat_cons] at h
    simp only [List.all_cons, Bool.and_eq_true] at hl hm
    simp only [List.cons_append, List.append_assoc, List.cons.injEq, true_and] at h
    have st : ∀ (l : List α) (x : List UInt8), e x → Stop (Lb (catG f l) ++ x) := by
      intro l x hx
      cases l with
      | nil => exact he x hx
      | cons c l => rw [cat_cons]; exact stop32 _
    obtain ⟨h1, h2⟩ := hs a b _ _ hl.1 hm.1 (st l x hx) (st m y hy) h
    obtain ⟨h3, h4⟩ := cat_span f p e he hs hne l m x y hl.2 hm.2 hx hy h2
    exact ⟨by rw [h1, h3], h4⟩
/-- What ends a list in brackets. -/
def E41 (x : List UInt8) : Prop := ∃ r, x = 41 :: r
theorem E41.stop {x : List UInt8} (h : E41 x) : Stop x := by obtain ⟨r, rfl⟩ := h; exact stop41 _
/-- What ends the supers. -/
def E40 (x : List UInt8) : Prop := ∃ r, x = 32 :: 40 :: r
theorem E40.stop {x : List UInt8} (h : E40 x) : Stop x := by obtain ⟨r, rfl⟩ := h; exact stop32 _
theorem vals_span {l m : List Vl} {x y : List UInt8} (hl : l.all pvF = true) (hm : m.all pvF = true) (hx : E41 x) (hy : E41 y) (e : Lb (catG valT l) ++ x = Lb (catG valT m) ++ y) : l = m ∧ x = y :=
  cat_span valT pvF E41 (fun _ h => h.stop) (fun a b x y ha hb _ _ h => pv_span ha hb h) (fun x a r hx _ => by obtain ⟨q, rfl⟩ := hx; simp) l m x y hl hm hx hy e
theorem flds_span {l m : List Fd} {x y : List UInt8} (hl : l.all pfF = true) (hm : m.all pfF = true) (hx : E41 x) (hy : E41 y) (e : Lb (catG fldT l) ++ x = Lb (catG fldT m) ++ y) : l = m ∧ x = y :=
  cat_span fldT pfF E41 (fun _ h => h.stop) (fun a b x y ha hb h1 h2 h => pf_span ha hb h1 h2 h) (fun x a r hx _ => by obtain ⟨q, rfl⟩ := hx; simp) l m x y hl hm hx hy e
theorem sups_span {l m : List Hp} {x y : List UInt8} (hl : l.all phF = true) (hm : m.all phF = true) (hx : E40 x) (hy : E40 y) (e : Lb (catG heapT l) ++ x = Lb (catG heapT m) ++ y) : l = m ∧ x = y :=
  cat_span heapT phF E40 (fun _ h => h.stop) (fun a b x y ha hb h1 h2 h => ph_span ha hb h1 h2 h) (fun x a r hx ha => by
    obtain ⟨q, rfl⟩ := hx
    obtain ⟨c, s, h1, h2⟩ := ph_cons ha
    rw [h1]
    intro e
    simp only [List.cons_append, List.cons.injEq, true_and] at e
    rw [← e.1] at h2
    exact absurd h2 (by decide)) l m x y hl hm hx hy e

theorem lst_L (wrd : ByteArray) (l : List Vl) : Lb (lstT wrd l) = if l = [] then [] else [32, 40] ++ (Lb wrd ++ (Lb (catG valT l) ++ [41])) := by
  unfold lstT
  split
  · rfl
  · simp only [Lb_app, Lb_mk, List.append_assoc]
/-- Two lists with words of their own, behind each other. -/
theorem lst_span {l m : List Vl} {x y : List UInt8} (wrd : ByteArray) (c : UInt8) (wt : List UInt8) (hw : Lb wrd = c :: wt) (hl : l.all pvF = true) (hm : m.all pvF = true) (hx : ∀ r, x ≠ 32 :: 40 :: c :: r) (hy : ∀ r, y ≠ 32 :: 40 :: c :: r) (e : Lb (lstT wrd l) ++ x = Lb (lstT wrd m) ++ y) : l = m ∧ x = y := by
  rw [lst_L, lst_L, hw] at e
  by_cases h1 : l = [] <;> by_cases h2 : m = []
  · subst h1; subst h2; simpa using e
  · rw [if_pos h1, if_neg h2] at e
    simp only [List.cons_append, List.nil_append] at e
    exact (hx _ e).elim
  · rw [if_neg h1, if_pos h2] at e
    simp only [List.cons_append, List.nil_append] at e
    exact (hy _ e.symm).elim
  · rw [if_neg h1, if_neg h2] at e
    simp only [List.cons_append, List.nil_append, List.append_assoc, List.cons.injEq, true_and, List.append_cancel_left_eq] at e
    obtain ⟨a, b⟩ := vals_span hl hm ⟨_, rfl⟩ ⟨_, rfl⟩ e
    simp only [List.cons.injEq, true_and] at b
    exact ⟨a, b⟩

/-! ### declared types -/
def tailL (s : Sb) : List UInt8 := if s.k = 1 then [32, 40, 102, 117, 110, 99] ++ (Lb (lstT ⟨#[112, 97, 114, 97, 109]⟩ s.ps) ++ (Lb (lstT ⟨#[114, 101, 115, 117, 108, 116]⟩ s.rs) ++ [41, 41]))
  else (if s.k = 2 then [32, 40, 115, 116, 114, 117, 99, 116] else [32, 40, 97, 114, 114, 97, 121]) ++ (Lb (catG fldT s.fs) ++ [41, 41])
theorem txt_L (s : Sb) : Lb (txtT s) = [40, 115, 117, 98] ++ ((if s.fin = true then [32, 102, 105, 110, 97, 108] else []) ++ (Lb (catG heapT s.su) ++ tailL s)) := by
  unfold txtT midT headT tailL
  cases s.fin <;> by_cases h1 : s.k = 1 <;> by_cases h2 : s.k = 2 <;> simp only [h1, h2, if_true, if_false, Bool.false_eq_true, Lb_app, Lb_mk, List.append_assoc, List.nil_append, List.cons_append, reduceIte, Int.reduceEq]
theorem tail_E (s : Sb) : E40 (tailL s) := by
  unfold tailL
  split
  · exact ⟨_, rfl⟩
  · split <;> exact ⟨_, rfl⟩
theorem head_no {l : List Hp} {x r : List UInt8} (hl : l.all phF = true) (hs : l.all (fun h => h.k == 13) = true) (hx : E40 x) : Lb (catG heapT l) ++ x ≠ 32 :: 102 :: r := by
  cases l with
  | nil => obtain ⟨q, rfl⟩ := hx; simp [catG, Lb]
  | cons h l =>
    rw [cat_cons]
    simp only [List.all_cons, Bool.and_eq_true, beq_iff_eq] at hl hs
    have := (ph_idx hl.1 hs.1).2
    intro e
    simp only [List.cons_append, List.cons.injEq, true_and] at e
    have hd := dec_dgt h.n.toNat
    rw [← this] at hd
    obtain ⟨c, q, h1, _⟩ := ph_cons hl.1
    rw [h1] at e hd
    simp only [List.cons_append, List.cons.injEq] at e
    have := hd c (by simp)
    rw [e.1] at this
    exact absurd this (by decide)
structure Plain (s : Sb) : Prop where
  s13 : s.su.all (fun h => h.k == 13) = true
  su : s.su.all phF = true
  ps : s.ps.all pvF = true
  rs : s.rs.all pvF = true
  fs : s.fs.all pfF = true
  sh : shF s = true
theorem psF_plain {s : Sb} (h : psF s = true) : Plain s := by
  unfold psF at h
  simp only [Bool.and_eq_true] at h
  obtain ⟨h1, h2, h3, h4, h5, h6⟩ := h
  refine ⟨h1, ?_, h3, h4, h5, h6⟩
  unfold sHeaps at h2
  simp only [List.all_append, Bool.and_eq_true] at h2
  exact h2.1.1.1
theorem Plain.shape {s : Sb} (h : Plain s) : (s.k = 1 ∧ s.fs = []) ∨ (s.k = 2 ∧ s.ps = [] ∧ s.rs = []) ∨ (s.k = 3 ∧ s.ps = [] ∧ s.rs = []) := by
  have := h.sh
  unfold shF at this
  by_cases h1 : s.k = 1
  · rw [if_pos h1] at this
    exact .inl ⟨h1, List.length_eq_zero_iff.1 (of_decide_eq_true this)⟩
  · rw [if_neg h1] at this
    by_cases h2 : s.k = 2
    · rw [if_pos h2] at this
      have := of_decide_eq_true this
      exact .inr (.inl ⟨h2, List.length_eq_zero_iff.1 (by omega), List.length_eq_zero_iff.1 (by omega)⟩)
    · rw [if_neg h2] at this
      by_cases h3 : s.k = 3
      · rw [if_pos h3] at this
        have := of_decide_eq_true this
        exact .inr (.inr ⟨h3, List.length_eq_zero_iff.1 (by omega), List.length_eq_zero_iff.1 (by omega)⟩)
      · rw [if_neg h3] at this; cases this
theorem tail_inj {s t : Sb} (hs : Plain s) (ht : Plain t) (e : tailL s = tailL t) : s.k = t.k ∧ s.ps = t.ps ∧ s.rs = t.rs ∧ s.fs = t.fs := by
  unfold tailL at e
  rcases hs.shape with ⟨h1, h2⟩ | ⟨h1, h2, h3⟩ | ⟨h1, h2, h3⟩ <;> rcases ht.shape with ⟨g1, g2⟩ | ⟨g1, g2, g3⟩ | ⟨g1, g2, g3⟩ <;> simp only [h1, g1, if_true, if_false, List.cons_append, List.nil_append, List.cons.injEq, true_and, reduceIte, Int.reduceEq] at e
  · have e2 : ∀ (l : List Vl) r, Lb (lstT ⟨#[114, 101, 115, 117, 108, 116]⟩ l) ++ [41, 41] ≠ 32 :: 40 :: 112 :: r := by
      intro l r
      rw [lst_L]
      split <;> simp [Lb_mk]
    obtain ⟨a, b⟩ := lst_span _ 112 [97, 114, 97, 109] rfl hs.ps ht.ps (fun r => e2 _ r) (fun r => e2 _ r) e
    obtain ⟨c, _⟩ := lst_span _ 114 [101, 115, 117, 108, 116] rfl hs.rs ht.rs (fun r => by simp) (fun r => by simp) b
    exact ⟨by rw [h1, g1], a, c, by rw [h2, g2]⟩
  · exact absurd e.1 (by decide)
  · exact absurd e.1 (by decide)
  · exact absurd e.1 (by decide)
  · obtain ⟨a, _⟩ := flds_span hs.fs ht.fs ⟨_, rfl⟩ ⟨_, rfl⟩ e
    exact ⟨by rw [h1, g1], by rw [h2, g2], by rw [h3, g3], a⟩
  · exact absurd e.1 (by decide)
  · exact absurd e.1 (by decide)
  · exact absurd e.1 (by decide)
  · obtain ⟨a, _⟩ := flds_span hs.fs ht.fs ⟨_, rfl⟩ ⟨_, rfl⟩ e
    exact ⟨by rw [h1, g1], by rw [h2, g2], by rw [h3, g3], a⟩
theorem txt_inj {s t : Sb} (hs : psF s = true) (ht : psF t = true) (e : txtT s = txtT t) : s = t := by
  have hs := psF_plain hs
  have ht := psF_plain ht
  have e : Lb (txtT s) = Lb (txtT t) := by rw [e]
  rw [txt_L, txt_L, List.append_cancel_left_eq] at e
  have fin : s.fin = t.fin ∧ Lb (catG heapT s.su) ++ tailL s = Lb (catG heapT t.su) ++ tailL t := by
    cases hf : s.fin <;> cases gf : t.fin <;> rw [hf, gf] at e <;> simp only [if_true, if_false, Bool.false_eq_true, List.nil_append] at e
    · exact ⟨rfl, e⟩
    · exact (head_no hs.su hs.s13 (tail_E s) e).elim
    · exact (head_no ht.su ht.s13 (tail_E t) e.symm).elim
    · exact ⟨rfl, by simpa using e⟩
  obtain ⟨a, b⟩ := sups_span hs.su ht.su (tail_E s) (tail_E t) fin.2
  obtain ⟨c, d, f, g⟩ := tail_inj hs ht b
  obtain ⟨x1, x2, x3, x4, x5, x6⟩ := s
  obtain ⟨y1, y2, y3, y4, y5, y6⟩ := t
  simp only at *
  obtain ⟨rfl, _⟩ := fin
  subst a; subst c; subst d; subst f; subst g; rfl
theorem val_inj {v u : Vl} (hv : pvF v = true) (hu : pvF u = true) (e : valT v = valT u) : v = u :=
  (pv_span (x := []) (y := []) hv hu (by rw [e])).1
end Go.Proofs.YtkcbmkoafmffoaaDoor
