/-
  The engine, third part: the conditions are right; the leaves.
-/
import Derived.Test.YtkcbmkoafmffoaaDoorEngB
set_option linter.unusedSimpArgs false
set_option linter.unusedVariables false
set_option linter.defProp false
namespace Go.Eng
open Go

section pre8
variable {P : Program} {Q : Pst} {G : Nat → Prop} {W : World}
/-- Over a later world that leaves all that was there. -/
theorem HS.ext' {σ : St} {new : List Nat} {w w' : World} (h : HS G W σ new w) (hE : Ext w w') : HS G W σ new w' := by
  obtain ⟨own, h⟩ := h
  refine ⟨own, h.len, ?_, h.entlt, h.apart, ?_, h.inW, ?_⟩
  · intro i e he
    exact Ent.ok_loc (h.ok i e he) fun b hb => hE.block b (h.out i b (List.getElem?_eq_some_iff.1 he).1 hb).2
  · intro i b hi hb
    obtain ⟨h1, h2⟩ := h.out i b hi hb
    exact ⟨h1, Nat.lt_of_lt_of_le h2 hE.size⟩
  · exact h.keep.trans (hE.mono fun b hb => Nat.lt_of_lt_of_le (h.inW b hb) h.keep.size)
theorem HS.drew {σ : St} {new : List Nat} {w : World} (h : HS G W σ new w) : HS G W σ new { w with drawn := w.drawn + 1 } := by
  obtain ⟨own, h⟩ := h
  exact ⟨own, h.len, fun i e he => Ent.ok_loc (h.ok i e he) fun _ _ => rfl, h.entlt, h.apart, h.out, h.inW, h.keep.drew⟩

theorem Sat.retmp {σ : St} {new : List Nat} {a : Act} {w : World} (h : Sat G W σ new a w) {d : Nat} {s s' : SV} (hd : getT σ.T d = some s) (he : s'.den (σ.X ++ new) = s.den (σ.X ++ new)) (hl : s'.lt σ.L.length) :
    Sat G W (σ.put (some d) s') new a w := by
  refine ⟨?_, ?_, ?_, h.dfr, h.dlt, h.hs.same rfl rfl⟩
  · simp [St.put, setT_length, h.tsz]
  · intro t sv ht
    simp only [St.put, getT_setT] at ht
    by_cases e : d = t
    · subst e
      rw [if_pos rfl, if_pos (getT_lt hd)] at ht
      injection ht with ht; subst ht
      simp only [St.put]
      rw [h.tmp d s hd, he]
    · rw [if_neg e] at ht
      exact h.tmp t sv ht
  · intro t sv ht
    simp only [St.put, getT_setT] at ht
    by_cases e : d = t
    · subst e
      rw [if_pos rfl, if_pos (getT_lt hd)] at ht
      injection ht with ht; subst ht
      exact hl
    · rw [if_neg e] at ht
      exact h.tlt t sv ht

theorem gdT_eq (l : List Oper) (j : Nat) : gdT l j = (l[j]?).bind (·.dst) := by
  induction l generalizing j with
  | nil => simp [gdT]
  | cons o l ih => cases j <;> simp [gdT, ih]

theorem Sat.tmps_get {σ : St} {new : List Nat} {a : Act} {w : World} (h : Sat G W σ new a w) {d : Nat} {s : SV} (hd : getT σ.T d = some s) : a.tmps[d]? = some (s.den (σ.X ++ new)) := by
  have h1 := h.tmp d s hd
  have h2 : d < a.tmps.size := by rw [h.tsz]; exact getT_lt hd
  simp only [Array.getD_eq_getD_getElem?, Array.getElem?_eq_getElem h2, Option.getD_some] at h1
  rw [Array.getElem?_eq_getElem h2, h1]

def Ent.isDead : Ent → Bool
  | .dead => true
  | _ => false

theorem ltAs_spec {n : Nat} : ∀ {l : List At}, ltAs n l → ∀ c ∈ l, c.lt n
  | [], _, c, h => by cases h
  | .v x :: l, h, c, hc => by
    simp only [List.mem_cons] at hc
    rcases hc with rfl | hc
    · trivial
    · exact ltAs_spec (l := l) h c hc
  | .p i o :: l, h, c, hc => by
    simp only [List.mem_cons] at hc
    rcases hc with rfl | hc
    · exact h.1
    · exact ltAs_spec (l := l) h.2 c hc
  | .s i nl o l' c' :: l, h, c, hc => by
    simp only [List.mem_cons] at hc
    rcases hc with rfl | hc
    · exact h.1
    · exact ltAs_spec (l := l) h.2 c hc
theorem ltS_spec {n : Nat} {s : SV} (h : ltS n s) : s.lt n := by
  cases s with
  | fn f fs cs => exact ⟨ltAs_spec h.1, ltAs_spec h.2⟩
  | agg cs => exact ltAs_spec h
  | _ => exact h
theorem ltCs_spec {n : Nat} : ∀ {l : List SV}, ltCs n l → ∀ c ∈ l, c.lt n
  | [], _, c, h => by cases h
  | s :: l, h, c, hc => by
    simp only [List.mem_cons] at hc
    rcases hc with rfl | hc
    · exact ltS_spec h.1
    · exact ltCs_spec (l := l) h.2 c hc
theorem ltEs_spec {n : Nat} : ∀ {l : List Ent}, ltEs n l → ∀ e ∈ l, e.lt n
  | [], _, c, h => by cases h
  | .cells t cs :: l, h, c, hc => by
    simp only [List.mem_cons] at hc
    rcases hc with rfl | hc
    · exact ltCs_spec h.1
    · exact ltEs_spec (l := l) h.2 c hc
  | .obj o :: l, h, c, hc => by
    simp only [List.mem_cons] at hc
    rcases hc with rfl | hc
    · trivial
    · exact ltEs_spec (l := l) h c hc
  | .row nl ty cur :: l, h, c, hc => by
    simp only [List.mem_cons] at hc
    rcases hc with rfl | hc
    · trivial
    · exact ltEs_spec (l := l) h c hc
  | .dead :: l, h, c, hc => by
    simp only [List.mem_cons] at hc
    rcases hc with rfl | hc
    · trivial
    · exact ltEs_spec (l := l) h c hc
  | .asn A :: l, h, c, hc => by
    simp only [List.mem_cons] at hc
    rcases hc with rfl | hc
    · trivial
    · exact ltEs_spec (l := l) h c hc
theorem leL_aux {e : Ent} {l m : List Ent} (he : e ≠ .dead) (h : LeL (e :: l) m) (ih : ∀ m, LeL l m → l.length ≤ m.length ∧ ∀ (i : Nat) (e : Ent), l[i]? = some e → e.isDead = false → m[i]? = some e) :
    (e :: l).length ≤ m.length ∧ ∀ (i : Nat) (e' : Ent), (e :: l)[i]? = some e' → e'.isDead = false → m[i]? = some e' := by
  cases m with
  | nil => cases e <;> simp [LeL] at h
  | cons e' m =>
    have h' : e = e' ∧ LeL l m := by cases e <;> first | exact absurd rfl he | exact h
    obtain ⟨rfl, h2⟩ := h'
    have r := ih m h2
    refine ⟨by simpa using r.1, fun i x hx hd => ?_⟩
    cases i with
    | zero => simpa using hx
    | succ i => simpa using r.2 i x (by simpa using hx) hd
theorem LeL_spec : ∀ {l m : List Ent}, LeL l m → l.length ≤ m.length ∧ ∀ (i : Nat) (e : Ent), l[i]? = some e → e.isDead = false → m[i]? = some e
  | [], m, _ => ⟨by simp, by simp⟩
  | .dead :: l, [], h => by simp [LeL] at h
  | .dead :: l, e' :: m, h => by
    have r := LeL_spec (l := l) (m := m) h
    refine ⟨by simpa using r.1, fun i e he hd => ?_⟩
    cases i with
    | zero => simp at he; subst he; simp [Ent.isDead] at hd
    | succ i => simpa using r.2 i e (by simpa using he) hd
  | .cells a b :: l, m, h => leL_aux (by simp) h (by intro m h; exact LeL_spec (l := l) (m := m) h)
  | .row a b c :: l, m, h => leL_aux (by simp) h (by intro m h; exact LeL_spec (l := l) (m := m) h)
  | .obj a :: l, m, h => leL_aux (by simp) h (by intro m h; exact LeL_spec (l := l) (m := m) h)
  | .asn a :: l, m, h => leL_aux (by simp) h (by intro m h; exact LeL_spec (l := l) (m := m) h)

theorem St.put_X (σ : St) (d : Option Tmp) (s : SV) : (σ.put d s).X = σ.X := by cases d <;> rfl
theorem St.put_L (σ : St) (d : Option Tmp) (s : SV) : (σ.put d s).L = σ.L := by cases d <;> rfl
theorem wanted_of {σ : St} {new : List Nat} {a : Act} {w : World} (hs : Sat G W σ new a w) {all : List Oper} {o : Oper} :
    (gd σ all o.guard = .yes → Region.wanted o (yielded all.toArray a.tmps) = true) ∧ (gd σ all o.guard = .not → Region.wanted o (yielded all.toArray a.tmps) = false) := by
  have hwant : ∀ j want, o.guard = some (j, want) → ∀ d, gdT all j = some d → ∀ v, getT σ.T d = some (.v v) →
      Region.wanted o (yielded all.toArray a.tmps) = (match v with | .bool b => b == want | _ => false) := by
    intro j want hg d hd v hv
    rw [gdT_eq] at hd
    have hd' : ((all.toArray[j]?).bind (·.dst)) = some d := by simpa using hd
    simp only [Region.wanted, hg, yielded, hd', Option.bind_some, hs.tmps_get hv, SV.den]
    cases v <;> try rfl
  constructor
  · intro hgd
    unfold gd at hgd
    split at hgd
    · rename_i hg
      simp [Region.wanted, hg]
    · rename_i j want hg
      split at hgd
      · cases hgd
      · rename_i d hd
        split at hgd
        · rename_i hb
          rw [hwant j want hg d hd _ hb]
          cases want with
          | true => rfl
          | false => simp at hgd
        · rename_i hb
          rw [hwant j want hg d hd _ hb]
          cases want with
          | true => simp at hgd
          | false => rfl
        · cases hgd
        · cases hgd
  · intro hgd
    unfold gd at hgd
    split at hgd
    · cases hgd
    · rename_i j want hg
      split at hgd
      · cases hgd
      · rename_i d hd
        split at hgd
        · rename_i hb
          rw [hwant j want hg d hd _ hb]
          cases want with
          | true => simp at hgd
          | false => rfl
        · rename_i hb
          rw [hwant j want hg d hd _ hb]
          cases want with
          | true => rfl
          | false => simp at hgd
        · rename_i vs hb
          rw [hwant j want hg d hd _ hb]
        · cases hgd

theorem gSplit_spec {all rest : List Oper} {σ : St} {dst : Option Tmp} {d : Tmp} {b : Bool} (hsp : gSplit all rest σ dst = some (d, b)) : getT σ.T d = some (.v (.bool b)) := by
  unfold gSplit at hsp
  split at hsp
  · cases hsp
  · split at hsp
    · rename_i b' hb'
      split at hsp
      · injection hsp with hsp; injection hsp with h1 h2; subst h1 h2; exact hb'
      · cases hsp
    · cases hsp

end pre8

section quiet
variable {P : Program} {G : Nat → Prop} {W : World} {σ : St} {new : List Nat} {a : Act} {w : World}
theorem Sat.world {σ : St} {new : List Nat} {a : Act} {w w' : World} (h : Sat G W σ new a w) (h' : HS G W σ new w') : Sat G W σ new a w' :=
  ⟨h.tsz, h.tmp, h.tlt, h.dfr, h.dlt, h'⟩
theorem exec_val (hs : Sat G W σ new a w) {o : Oper} {ob : Prop} {τ : St}
    (h : exec P G W σ o = .go ob τ) (hob : ob) (hq0 : isQ o.op = true) : ∃ s, Stp.go ob (σ.put o.dst s) = Stp.go ob τ ∧ s.lt σ.L.length ∧ ∀ w, HS G W σ new w → (execOp a.eval o).run P w = .ok (.value (s.den (σ.X ++ new))) w := by
  have val : ∀ (s : SV) {ob' : Prop}, s.lt σ.L.length → (∀ w, HS G W σ new w → (execOp a.eval o).run P w = .ok (.value (s.den (σ.X ++ new))) w) → Stp.go ob' (σ.put o.dst s) = Stp.go ob τ →
      ∃ s, Stp.go ob (σ.put o.dst s) = Stp.go ob τ ∧ s.lt σ.L.length ∧ ∀ w, HS G W σ new w → (execOp a.eval o).run P w = .ok (.value (s.den (σ.X ++ new))) w := by
    intro s ob' hl hr hk
    injection hk with _ hk
    exact ⟨s, by rw [hk], hl, hr⟩
  have vv : ∀ (r : Option (Prop × SV)), vOf σ o.dst r = .go ob τ → ∃ s, r = some (ob, s) ∧ Stp.go ob (σ.put o.dst s) = Stp.go ob τ := by
    intro r hr
    cases r with
    | none => cases hr
    | some p =>
      obtain ⟨ob', s⟩ := p
      injection hr with h1 h2
      exact ⟨s, by rw [h1], by rw [h2]⟩
  unfold exec at h
  split at h
  -- move
  · rename_i x hop
    split at h
    · rename_i s hx
      obtain ⟨he, hl⟩ := ev_sound hs hx
      exact val s hl (fun w _ => by simp [execOp, hop, he]) h
    · cases h
  -- assign
  · rename_i x hop
    split at h
    · rename_i s hx
      obtain ⟨he, hl⟩ := ev_sound hs hx
      exact val s hl (fun w _ => by simp [execOp, hop, he]) h
    · cases h
  -- pick
  · rename_i c x y hop
    split at h
    · rename_i hc
      obtain ⟨hce, _⟩ := ev_sound hs hc
      split at h
      · rename_i s hx
        obtain ⟨he, hl⟩ := ev_sound hs hx
        exact val s hl (fun w _ => by simp [execOp, hop, hce, SV.den, asBool, he]) h
      · cases h
    · rename_i hc
      obtain ⟨hce, _⟩ := ev_sound hs hc
      split at h
      · rename_i s hx
        obtain ⟨he, hl⟩ := ev_sound hs hx
        exact val s hl (fun w _ => by simp [execOp, hop, hce, SV.den, asBool, he]) h
      · cases h
    · cases h
  -- load
  · rename_i t x hop
    split at h
    · rename_i s hx
      obtain ⟨he, hl⟩ := ev_sound hs hx
      obtain ⟨s', hq, hk⟩ := vv _ h
      have hl' := (exLoad_sound hs hq hob).1
      have hr := fun (w : World) (hw : HS G W σ new w) => (exLoad_sound (hs.world hw) hq hob).2
      exact val s' hl' (fun w hw => by have hr := hr w hw; simp [execOp, hop, he, hr]) hk
    · cases h
  -- store
  · rename_i t x v hop
    rw [hop] at hq0
    cases hq0
  -- fieldAddr
  · rename_i t x f hop
    split at h
    · rename_i s hx
      obtain ⟨he, hl⟩ := ev_sound hs hx
      obtain ⟨s', hq, hk⟩ := vv _ h
      have hl' := (exField_sound (P := P) (w := w) (σ.X ++ new) hl hq hob).1
      have hr := fun (w : World) (_ : HS G W σ new w) => (exField_sound (P := P) (w := w) (σ.X ++ new) hl hq hob).2
      exact val s' hl' (fun w hw => by have hr := hr w hw; simp [execOp, hop, he, hr]) hk
    · cases h
  -- indexAddr
  · rename_i t x ix hop
    split at h
    · rename_i s hx
      obtain ⟨he, hl⟩ := ev_sound hs hx
      split at h
      · rename_i i hi
        obtain ⟨hie, hil⟩ := ev_sound hs hi
        obtain ⟨s', hq, hk⟩ := vv _ h
        have hl' := (exIndex_sound (P := P) (w := w) (σ.X ++ new) hl hq hob).1
        have hr := fun (w : World) (_ : HS G W σ new w) => (exIndex_sound (P := P) (w := w) (σ.X ++ new) hl hq hob).2
        exact val s' hl' (fun w hw => by have hr := hr w hw; simp [execOp, hop, he, hie, hr]) hk
      · cases h
    · cases h
  -- nilCheck
  · rename_i x hop
    split at h
    · rename_i i off hx
      obtain ⟨he, hl⟩ := ev_sound hs hx
      exact val _ hl (fun w _ => by simp [execOp, hop, he, SV.den]) h
    · rename_i A off hx
      obtain ⟨he, hl⟩ := ev_sound hs hx
      have hk := h
      injection h with h1' h2'
      rw [← h1'] at hob
      obtain ⟨ad, rfl⟩ := Option.isSome_iff_exists.1 hob
      exact val _ hl (fun w _ => by simp [execOp, hop, he, SV.den, pAdd]) hk
    · rename_i A hx
      obtain ⟨he, hl⟩ := ev_sound hs hx
      have hk := h
      injection h with h1' h2'
      rw [← h1'] at hob
      obtain ⟨ad, rfl⟩ := Option.isSome_iff_exists.1 hob
      exact val _ hl (fun w _ => by simp [execOp, hop, he, SV.den]) hk
    · cases h
  -- alloc
  · rename_i t hop
    rw [hop] at hq0
    cases hq0
  -- box
  · rename_i t x hop
    rw [hop] at hq0
    cases hq0
  -- field
  · rename_i t x f hop
    split at h
    · rename_i s hx
      obtain ⟨he, hl⟩ := ev_sound hs hx
      obtain ⟨s', hq, hk⟩ := vv _ h
      have hl' := (exFld_sound (P := P) (w := w) (σ.X ++ new) hl hq).1
      have hr := fun (w : World) (_ : HS G W σ new w) => (exFld_sound (P := P) (w := w) (σ.X ++ new) hl hq).2
      exact val s' hl' (fun w hw => by have hr := hr w hw; simp [execOp, hop, he, hr]) hk
    · cases h
  -- build
  · rename_i t parts hop
    obtain ⟨s', hq, hk⟩ := vv _ h
    have hl' := (exBuild_sound hs hq).1
    have hr := fun (w : World) (hw : HS G W σ new w) => (exBuild_sound (hs.world hw) hq).2
    exact val s' hl' (fun w hw => by have hr := hr w hw; simp [execOp, hop, hr]) hk
  -- buildSlice
  · rename_i t len parts hop
    rw [hop] at hq0
    cases hq0
  -- binOp
  · rename_i op t x y ty hop
    split at h
    · rename_i s hx
      obtain ⟨he, hl⟩ := ev_sound hs hx
      split at h
      · rename_i u hu
        obtain ⟨hue, hul⟩ := ev_sound hs hu
        obtain ⟨s', hq, hk⟩ := vv _ h
        have hl' := (exBin_sound (P := P) (w := w) (m := σ.L.length) (σ.X ++ new) hq hob x y).1
        have hr := fun (w : World) (_ : HS G W σ new w) => (exBin_sound (P := P) (w := w) (m := σ.L.length) (σ.X ++ new) hq hob x y).2
        refine val s' hl' (fun w hw => ?_) hk
        have hr := hr w hw
        simp only [execOp, hop, he, hue, Sem.run_bind] at hr ⊢
        rw [hr]
        rfl
      · cases h
    · cases h
  -- not
  · rename_i t x hop
    split at h
    · rename_i b hx
      obtain ⟨he, hl⟩ := ev_sound hs hx
      exact val (.v (.bool (!b))) trivial (fun w _ => by simp [execOp, hop, he, SV.den, Op.unary]) h
    · cases h
  -- makeFunc
  · rename_i f fs cs hop
    split at h
    · rename_i l hl
      split at h
      · rename_i m hm
        obtain ⟨h1, h2⟩ := evs_sound hs hl
        obtain ⟨h3, h4⟩ := evs_sound hs hm
        split at h
        · rename_i l' hl'
          split at h
          · rename_i m' hm'
            refine val (.fn f l' m') ⟨ats_lt hl' h2, ats_lt hm' h4⟩ (fun w _ => ?_) h
            simp only [execOp, hop, Instr.makeFunc, Sem.run_bind, Sem.run_pure, Result.andThen_ok, SV.den]
            rw [ats_den hl', ats_den hm', ← h1, ← h3]
            simp only [Result.ok.injEq, Next.value.injEq, Value.func.injEq, and_true, true_and]
            exact ⟨by apply Array.ext'; simp, by apply Array.ext'; simp⟩
          · cases h
        · cases h
      · cases h
    · cases h
  -- slice
  · rename_i t x lo hi mx hop
    split at h
    · rename_i m
      split at h
      · rename_i hh
        split at h
        · rename_i s hx
          obtain ⟨he, hl⟩ := ev_sound hs hx
          split at h
          · rename_i h' hh0
            obtain ⟨hhe, _⟩ := ev_sound hs hh0
            split at h
            · rename_i m' hm0
              obtain ⟨hme, _⟩ := ev_sound hs hm0
              obtain ⟨s', hq, hk⟩ := vv _ h
              have hl' := (exSlice3_sound (P := P) (w := w) (m := σ.L.length) hl hq hob (σ.X ++ new)).1
              have hr := fun (w : World) (_ : HS G W σ new w) => (exSlice3_sound (P := P) (w := w) (m := σ.L.length) hl hq hob (σ.X ++ new)).2
              exact val s' hl' (fun w hw => by have hr := hr w hw; simp [execOp, hop, he, hhe, hme, hr]) hk
            · cases h
          · cases h
        · cases h
      · cases h
    · split at h
      · cases h
      · rename_i s hx
        obtain ⟨he, hl⟩ := ev_sound hs hx
        split at h
        · obtain ⟨s', hq, hk⟩ := vv _ h
          have hl' := (exSlice_sound (P := P) (w := w) (m := σ.L.length) hl hq hob (σ.X ++ new)).1
          have hr := fun (w : World) (_ : HS G W σ new w) => (exSlice_sound (P := P) (w := w) (m := σ.L.length) hl hq hob (σ.X ++ new)).2
          exact val s' hl' (fun w hw => by have hr := hr w hw; simp at hr; simp [execOp, hop, he, hr]) hk
        · split at h
          · rename_i l' hl0
            obtain ⟨hle, _⟩ := ev_sound hs hl0
            obtain ⟨s', hq, hk⟩ := vv _ h
            have hl' := (exSlice_sound (P := P) (w := w) (m := σ.L.length) hl hq hob (σ.X ++ new)).1
            have hr := fun (w : World) (_ : HS G W σ new w) => (exSlice_sound (P := P) (w := w) (m := σ.L.length) hl hq hob (σ.X ++ new)).2
            exact val s' hl' (fun w hw => by have hr := hr w hw; simp at hr; simp [execOp, hop, he, hle, hr]) hk
          · cases h
        · split at h
          · rename_i l' hl0
            obtain ⟨hle, _⟩ := ev_sound hs hl0
            obtain ⟨s', hq, hk⟩ := vv _ h
            have hl' := (exSlice_sound (P := P) (w := w) (m := σ.L.length) hl hq hob (σ.X ++ new)).1
            have hr := fun (w : World) (_ : HS G W σ new w) => (exSlice_sound (P := P) (w := w) (m := σ.L.length) hl hq hob (σ.X ++ new)).2
            exact val s' hl' (fun w hw => by have hr := hr w hw; simp at hr; simp [execOp, hop, he, hle, hr]) hk
          · cases h
        · split at h
          · rename_i l' hl0
            obtain ⟨hle, _⟩ := ev_sound hs hl0
            split at h
            · rename_i h' hh0
              obtain ⟨hhe, _⟩ := ev_sound hs hh0
              obtain ⟨s', hq, hk⟩ := vv _ h
              have hl' := (exSlice_sound (P := P) (w := w) (m := σ.L.length) hl hq hob (σ.X ++ new)).1
              have hr := fun (w : World) (_ : HS G W σ new w) => (exSlice_sound (P := P) (w := w) (m := σ.L.length) hl hq hob (σ.X ++ new)).2
              exact val s' hl' (fun w hw => by have hr := hr w hw; simp at hr; simp [execOp, hop, he, hle, hhe, hr]) hk
            · cases h
          · cases h
  -- extract
  · rename_i x i hop
    split at h
    · rename_i vs hx
      obtain ⟨he, hl⟩ := ev_sound hs hx
      split at h
      · rename_i y hy
        rw [getV_eq] at hy
        have hy' : vs[i]? = some y := by simpa using hy
        exact val (.v y) trivial (fun w _ => by simp [execOp, hop, he, SV.den, Instr.extract, hy']) h
      · cases h
    · cases h
  -- call
  · rename_i c hop
    split at h
    · rename_i hc
      split at h
      · rename_i x t hx ht
        split at h
        · rename_i s hxs
          obtain ⟨he, hl⟩ := ev_sound hs hxs
          have hx' : c.args = #[x] := by apply Array.ext'; simpa using hx
          have ht' : c.argTypes = #[t] := by apply Array.ext'; simpa using ht
          obtain ⟨s', hq, hk⟩ := vv _ h
          have hl' := (exLen_sound (P := P) (w := w) (m := σ.L.length) hq o.type (σ.X ++ new)).1
          have hr := fun (w : World) (_ : HS G W σ new w) => (exLen_sound (P := P) (w := w) (m := σ.L.length) hq o.type (σ.X ++ new)).2
          exact val s' hl' (fun w hw => by have hr := hr w hw; simp [execOp, hop, resolve, hc, hx', ht', he, invoke, builtin, hr]) hk
        · cases h
      · cases h
    · rename_i hc
      split at h
      · rename_i x y hxy
        split at h
        · rename_i m hx
          split at h
          · rename_i n hy
            obtain ⟨hxe, _⟩ := ev_sound hs hx
            obtain ⟨hye, _⟩ := ev_sound hs hy
            have hxy' : c.args = #[x, y] := by apply Array.ext'; simpa using hxy
            exact val (.v (.int .i64 (minI m n))) trivial (fun w _ => by simp [execOp, hop, resolve, hc, hxy', hxe, hye, invoke, builtin, SV.den, Builtin.min_, Builtin.min2, minI]) h
          · cases h
        · cases h
      · cases h
    · rename_i hc
      split at h
      · rename_i x y hxy
        split at h
        · rename_i m hx
          split at h
          · rename_i n hy
            obtain ⟨hxe, _⟩ := ev_sound hs hx
            obtain ⟨hye, _⟩ := ev_sound hs hy
            have hxy' : c.args = #[x, y] := by apply Array.ext'; simpa using hxy
            exact val (.v (.int .i64 (maxI m n))) trivial (fun w _ => by simp [execOp, hop, resolve, hc, hxy', hxe, hye, invoke, builtin, SV.den, Builtin.max_, Builtin.max2, maxI]) h
          · cases h
        · cases h
      · cases h
    · rename_i g hc
      split at h
      · rename_i args hargs
        obtain ⟨h1, h2⟩ := evs_sound hs hargs
        split at h
        · rename_i f fs cs hf
          obtain ⟨hfe, _⟩ := ev_sound hs hf
          cases h
        · rename_i f fs cs hf
          obtain ⟨hfe, _⟩ := ev_sound hs hf
          cases h
        · cases h
      · cases h
    · cases h
  · cases h
end quiet

section anys
variable {P : Program} {Q : Pst} {G : Nat → Prop} {W : World}

theorem getO_eq (l : List Oper) (i : Nat) : getO l i = l[i]? := by
  induction l generalizing i with
  | nil => simp [getO]
  | cons e l ih => cases i <;> simp [getO, ih]

theorem LeL_len : ∀ {l m : List Ent}, LeL l m → l.length ≤ m.length := fun h => (LeL_spec h).1

/-- Less is known. -/
theorem SI_of {σ : St} {new : List Nat} {w : World} {LS : List Ent} (h : HS G W σ new w) {X : List Nat} (hX : isPre X σ.X) (hL : LeL LS σ.L) (hlt : ltEs LS.length LS) (hlen : LS.length = X.length) : SI G W X LS w := by
  obtain ⟨m, hX⟩ := hX
  obtain ⟨own, h⟩ := h
  have hl := h.len
  have hXl : σ.X.length = X.length + m.length := by rw [hX]; simp
  refine ⟨fun i b => own i b ∧ ∃ e, LS[i]? = some e ∧ e.isDead = false, by simp [hlen], ?_, ltEs_spec hlt, ?_, ?_, h.inW, h.keep⟩
  · intro i e he
    simp only [List.append_nil]
    have hil : i < LS.length := (List.getElem?_eq_some_iff.1 he).1
    by_cases hd : e.isDead = true
    · cases e <;> simp [Ent.isDead] at hd
      trivial
    · have hd' : e.isDead = false := by simpa using hd
      have h1 := h.ok i e ((LeL_spec hL).2 i e he hd')
      have hO : (fun b => own i b ∧ ∃ e, LS[i]? = some e ∧ e.isDead = false) = own i := by
        funext b
        exact propext ⟨fun h => h.1, fun h => ⟨h, e, he, hd'⟩⟩
      rw [hX, List.append_assoc, getD_append_lt (by omega), Ent.ok_append (by rw [← hlen]; exact ltEs_spec hlt e (List.mem_of_getElem? he))] at h1
      rw [hO]
      exact h1
  · rintro i j b hi hj hij ⟨h1, _⟩ ⟨h2, _⟩
    simp only at hi hj
    exact h.apart i j b (by omega) (by omega) hij h1 h2
  · rintro i b hi ⟨h1, _⟩
    simp only at hi
    exact h.out i b (by omega) h1

/-- The world as it is held, with the newer blocks unknown. -/
theorem SI_pad {X new : List Nat} {LS : List Ent} {w : World} {T : List (Option SV)} {D : List DSV} (h : SI G W X LS w) : HS G W { T := T, X := X, L := LSpad LS new.length, D := D } new w := by
  obtain ⟨own, h⟩ := h
  have hlen : X.length = LS.length := by simpa using h.len
  have hget : ∀ i, i < LS.length → (LSpad LS new.length)[i]? = LS[i]? := fun i hi => by simp only [LSpad]; exact List.getElem?_append_left hi
  have hdead : ∀ i e, LS.length ≤ i → (LSpad LS new.length)[i]? = some e → e = .dead := by
    intro i e hi he
    simp only [LSpad] at he
    rw [List.getElem?_append_right hi] at he
    exact (List.mem_replicate.1 (List.mem_of_getElem? he)).2
  refine ⟨fun i b => own i b ∧ i < LS.length, by simp [LSpad]; omega, ?_, ?_, ?_, ?_, h.inW, h.keep⟩
  · intro i e he
    rcases Nat.lt_or_ge i LS.length with hi | hi
    · rw [hget i hi] at he
      have h1 := h.ok i e he
      simp only [List.append_nil] at h1
      have hO : (fun b => own i b ∧ i < LS.length) = own i := by
        funext b
        exact propext ⟨fun h => h.1, fun h => ⟨h, hi⟩⟩
      show Ent.ok (X ++ new) ((X ++ new).getD i 0) _ w _
      rw [hO, getD_append_lt (l := X) (by omega), Ent.ok_append (by rw [hlen]; exact h.entlt _ (List.mem_of_getElem? he))]
      exact h1
    · rw [hdead i e hi he]; trivial
  · intro e he
    simp only [LSpad, List.mem_append] at he
    rcases he with he | he
    · exact Ent.lt_mono (by simp [LSpad]) (h.entlt e he)
    · rw [(List.mem_replicate.1 he).2]; trivial
  · rintro i j b _ _ hij ⟨h1, hi⟩ ⟨h2, hj⟩
    exact h.apart i j b hi hj hij h1 h2
  · rintro i b _ ⟨h1, hi⟩
    exact h.out i b hi h1

theorem Sat.split {K : St → Prop} {all rest : List Oper} {σ : St} {dst : Option Tmp} (h : aSp K σ (gSplit all rest σ dst)) {new : List Nat} {a : Act} {w : World} (hs : Sat G W σ new a w) {R : Prop}
    (hK : ∀ τ, K τ → τ.X = σ.X → τ.L = σ.L → Sat G W τ new a w → R) : R := by
  cases hsp : gSplit all rest σ dst with
  | none => rw [hsp] at h; exact hK σ h rfl rfl hs
  | some db =>
    obtain ⟨d, b⟩ := db
    rw [hsp] at h
    have hb := gSplit_spec hsp
    cases b with
    | true => exact hK _ (h.1 rfl) (St.put_X _ _ _) (St.put_L _ _ _) (hs.retmp hb (s' := .v (.bool true)) rfl trivial)
    | false => exact hK _ (h.2 rfl) (St.put_X _ _ _) (St.put_L _ _ _) (hs.retmp hb (s' := .v (.bool false)) rfl trivial)

/-- An operation that is carried out. -/
theorem aRun_sound {all : List Oper} {σ : St} {K : St → Prop} {k : List It} {o : Oper} (h : aRun P Q G W all σ K k (some o)) (hK : ∀ τ, K τ → Res P Q G W τ k) {new : List Nat} {a : Act} {w : World} (hs : Sat G W σ new a w) :
    wantK P all.toArray o a w (Wt P Q k .normal) := by
  have hw := wanted_of hs (all := all) (o := o)
  simp only [aRun] at h
  unfold wantK
  generalize hgd : gd σ all o.guard = g at h
  cases g with
  | no => exact h.elim
  | not =>
    rw [if_neg (by rw [hw.2 hgd]; simp)]
    exact hK _ h new _ w (hs.put o.dst (.v undef) trivial)
  | yes =>
    rw [if_pos (hw.1 hgd)]
    simp only [aRg] at h
    generalize hex : exec P G W σ o = r at h
    cases r with
    | no => exact h new a w hs
    | call f args =>
      obtain ⟨hok, hc⟩ := h
      unfold OpK
      rw [exec_enter hs hex hok]
      refine (hc new a w hs).mono fun e w' he => ?_
      cases e with
      | returned v => exact he
      | panicked c => exact he
      | outgrown => exact he
    | go ob σ' =>
      obtain ⟨hob, h⟩ := h
      refine (exec_go hs hex hob ?_).opK
      intro new' a' w' _ hs'
      exact Sat.split h hs' fun τ hτ _ _ hsτ => hK τ hτ new' a' w' hsτ

theorem setIf_toArray (l : List Bool) (i : Nat) : l.toArray.setIfInBounds i true = (l.set i true).toArray := by simp

theorem alt_of {V : St → List It → Prop} {σ : St} {all : List Oper} {z : Nat} {GI : Nat → Prop} {WI : World} {X : List Nat} {LS : List Ent} {l : List Bool} {k : List It} : ∀ (p : Plan) (top : Bool),
    aAlt P Q G W V σ all z GI WI X LS l k p → p.ok all.toArray z top l = true → ∀ i, i ∈ p.alts → ∃ q, q.size + 1 = p.size ∧ q.ok all.toArray z true (l.set i true) = true ∧
      aRun P Q G W all σ (fun σ' => V σ' (.any true all z GI WI X LS (l.set i true) q :: k)) (.any true all z GI WI X LS (l.set i true) q :: k) (getO all i)
  | .fin, _, _, _, i, hi => by simp [Plan.alts] at hi
  | .take _ _, _, _, _, i, hi => by simp [Plan.alts] at hi
  | .run j p more, top, h, hok, i, hi => by
    simp only [Plan.ok, Bool.and_eq_true, Bool.or_eq_true] at hok
    simp only [Plan.alts, List.mem_cons] at hi
    obtain ⟨_, h2, h3⟩ := hok
    rcases hi with rfl | hi
    · exact ⟨p, rfl, h2, h.1⟩
    · cases more with
      | fin => simp [Plan.alts] at hi
      | take a b => simp [Plan.alts] at hi
      | run a b c =>
        rcases h3 with h3 | h3
        · simp [Plan.isFin] at h3
        · obtain ⟨q, hq1, hq2, hq3⟩ := alt_of (.run a b c) false h.2 h3.2 i hi
          refine ⟨q, ?_, hq2, hq3⟩
          have := beq_iff_eq.1 h3.1
          rw [hq1, this]
          rfl

theorem any_sound0 {V : St → List It → Prop} (hV : ∀ τ k, V τ k → Res P Q G W τ k) {σ : St} {all : List Oper} {z : Nat} {GI : Nat → Prop} {WI : World} {X : List Nat} {LS : List Ent} {l : List Bool} {k : List It} (plan : Plan)
    (h : aPlan P Q G W V σ all z GI WI X LS l k plan) {new : List Nat} {a : Act} {w : World} (hs : Sat G W σ new a w) (hns : Region.noSelect all.toArray = true) (hok : plan.ok all.toArray z true l = true) (hSI : SI GI WI X LS w) :
    anyZ P all.toArray (SI GI WI X LS) z (finK P all z (Wt P Q k .normal)) plan.size l.toArray a w := by
  cases plan with
  | take i p =>
    obtain ⟨hX, hLX, h⟩ := h
    simp only [Plan.ok, Bool.and_eq_true, decide_eq_true_eq, bne_iff_ne] at hok
    obtain ⟨hiz, hil, hfree, hready, hokp⟩ := hok
    rw [getO_eq] at h
    have hil' : i < all.length := by simpa using hil
    obtain ⟨o, ho⟩ : ∃ o, all[i]? = some o := ⟨_, List.getElem?_eq_getElem hil'⟩
    have ho' : all.toArray[i]? = some o := by simpa using ho
    rw [ho] at h
    simp only [aTake] at h
    have hw := wanted_of hs (all := all) (o := o)
    have hlen := hs.hs.len
    have key : ∀ v, YieldsIf P all.toArray (SI GI WI X LS) o v a →
        anyZ P all.toArray (SI GI WI X LS) z (finK P all z (Wt P Q k .normal)) p.size (l.set i true).toArray (a.put o.dst v) w →
        anyZ P all.toArray (SI GI WI X LS) z (finK P all z (Wt P Q k .normal)) (Plan.take i p).size l.toArray a w := by
      intro v hy h2
      refine anyZ_first ho' hiz (Region.noSelect_spec hns) p.size l.toArray a w (Region.free_spec ho' hfree) (by simpa using hready) hy hSI ?_
      rw [setIf_toArray]
      exact h2
    generalize hgd : gd σ all o.guard = g at h
    cases g with
    | no => exact h.elim
    | not =>
      exact key undef (.inr ⟨hw.2 hgd, rfl⟩) ((hV _ _ h new _ w (hs.put o.dst (.v undef) trivial) hns hokp).2 hSI)
    | yes =>
      simp only [aGd] at h
      generalize hq : isQ o.op = q at h
      cases q with
      | false => exact h.elim
      | true =>
        simp only [aIs] at h
        obtain ⟨mX, hX⟩ := hX
        have hXl : σ.X.length = X.length + mX.length := by rw [hX]; simp
        have hnl : σ.L.length - LS.length = (mX ++ new).length := by simp; omega
        rw [hnl] at h
        generalize hex : exec P GI WI { σ with L := LSpad LS (mX ++ new).length } o = r at h
        cases r with
        | no => exact h.elim
        | call f args => exact h.elim
        | go ob σ' =>
          obtain ⟨hob, h⟩ := h
          have hpad : ∀ w', SI GI WI X LS w' → HS GI WI { σ with L := LSpad LS (mX ++ new).length } new w' := fun w' hw' => by
            obtain ⟨own, this⟩ := SI_pad (new := mX ++ new) (T := σ.T) (D := σ.D) hw'
            have e1 : X ++ (mX ++ new) = σ.X ++ new := by rw [hX, List.append_assoc]
            refine ⟨own, by have := this.len; simp at this ⊢; omega, ?_, this.entlt, this.apart, this.out, this.inW, this.keep⟩
            have hk := this.ok
            simp only [e1] at hk
            exact hk
          have hLl : (LSpad LS (mX ++ new).length).length = σ.L.length := by simp [LSpad]; omega
          have hsq : Sat GI WI { σ with L := LSpad LS (mX ++ new).length } new a w := ⟨hs.tsz, hs.tmp, fun t sv ht => by show sv.lt (LSpad LS (mX ++ new).length).length; rw [hLl]; exact hs.tlt t sv ht, hs.dfr, fun d hd => by show d.lt (LSpad LS (mX ++ new).length).length; rw [hLl]; exact hs.dlt d hd, hpad w hSI⟩
          obtain ⟨s, hst, hl, hrun⟩ := exec_val hsq hex hob hq
          injection hst with _ hst
          subst hst
          have hl' : s.lt σ.L.length := by rw [← hLl]; exact hl
          have hTT : ({ σ with T := (({ σ with L := LSpad LS (mX ++ new).length } : St).put o.dst s).T } : St) = σ.put o.dst s := by cases o.dst <;> rfl
          rw [hTT] at h
          refine key (s.den (σ.X ++ new)) (.inl ⟨hw.1 hgd, fun w' hw' => hrun w' (hpad w' hw')⟩) ?_
          exact Sat.split h (hs.put o.dst s hl') fun τ hτ _ _ hsτ => (hV _ _ hτ new _ w hsτ hns hokp).2 hSI
  | run i p more =>
    have hrd : (Region.ready .any all.toArray l.toArray).filter (· != z) = i :: more.alts := by
      simp only [Plan.ok, Bool.not_true, Bool.false_or, Bool.and_eq_true, beq_iff_eq] at hok
      exact hok.1
    refine ⟨fun hz => ?_, fun j o hj hjz hjo => ?_⟩
    · exfalso
      have hmem : i ∈ (Region.ready .any all.toArray l.toArray).filter (· != z) := by rw [hrd]; simp
      obtain ⟨h1, h2⟩ := List.mem_filter.1 hmem
      have := hz i h1
      simp [this] at h2
    · have hmem : j ∈ (Plan.run i p more).alts := by
        show j ∈ i :: more.alts
        rw [← hrd]
        exact List.mem_filter.2 ⟨hj, by simpa using hjz⟩
      obtain ⟨q, hq1, hq2, hq3⟩ := alt_of _ true h hok j hmem
      have ho : getO all j = some o := by rw [getO_eq]; simpa using hjo
      rw [ho] at hq3
      have := aRun_sound hq3 (fun τ hτ => hV _ _ hτ) hs
      refine this.mono fun a' w' h' => ?_
      obtain ⟨h1, h2⟩ := h' hns hq2
      have h1 := h1 rfl
      rw [setIf_toArray]
      have hsz : q.size = p.size := Nat.succ.inj hq1
      rw [← hsz]
      exact ⟨h1, h2 h1⟩
  | fin =>
    simp only [Plan.ok, List.all_eq_true, List.mem_range, Bool.or_eq_true, beq_iff_eq] at hok
    refine ⟨fun j hj hjz => ?_, ?_⟩
    · rcases hok j hj with h1 | h1
      · exact absurd h1 hjz
      · simpa using h1
    · unfold finK
      simp only [aPlan] at h
      rw [getO_eq] at h
      cases hz : all[z]? with
      | none => rw [hz] at h; exact hV _ _ h new a w hs
      | some o => rw [hz] at h; exact aRun_sound h (fun τ hτ => hV _ _ hτ) hs

theorem any_sound {V : St → List It → Prop} (hV : ∀ τ k, V τ k → Res P Q G W τ k) {chk : Bool} {σ : St} {all : List Oper} {z : Nat} {GI : Nat → Prop} {WI : World} {X : List Nat} {LS : List Ent} {l : List Bool} {k : List It} (plan : Plan)
    (hc : aChk G W σ GI WI X LS chk) (h : aPlan P Q G W V σ all z GI WI X LS l k plan) : Res P Q G W σ (.any chk all z GI WI X LS l plan :: k) := by
  intro new a w hs hns hok
  refine ⟨fun hch => ?_, any_sound0 hV plan h hs hns hok⟩
  subst hch
  obtain ⟨⟨rfl, rfl, hX, hLe⟩, hlt, hLX⟩ := hc
  exact SI_of hs.hs hX hLe hlt hLX
end anys

section vcs
variable {P : Program} {Q : Pst} {G : Nat → Prop} {W : World}

theorem Wt_ret (k : List It) (a : Act) (w : World) (h : Q.q .ret a w) : Wt P Q k .ret a w := by
  induction k with
  | nil => exact h
  | cons i k ih => cases i <;> exact ih

theorem Wt_exit {id : Nat} : ∀ (k k' : List It) (a : Act) (w : World), popTo id k = some k' → Wt P Q k' .normal a w → Wt P Q k (.exit id) a w
  | [], k', a, w, h, _ => by simp [popTo] at h
  | .code c :: k, k', a, w, h, hq => by
    simp only [popTo] at h
    exact Wt_exit k k' a w h hq
  | .ops l m :: k, k', a, w, h, hq => by
    simp only [popTo] at h
    exact Wt_exit k k' a w h hq
  | .rnd R :: k, k', a, w, h, hq => by
    simp only [popTo] at h
    exact Wt_exit k k' a w h hq
  | .any _ _ _ _ _ _ _ _ _ :: k, k', a, w, h, hq => by
    simp only [popTo] at h
    exact Wt_exit k k' a w h hq
  | .blk id' :: k, k', a, w, h, hq => by
    simp only [popTo] at h
    simp only [Wt, Exit.inBlock]
    by_cases e : id = id'
    · rw [if_pos e] at h ⊢
      injection h with h; subst h
      exact hq
    · rw [if_neg e] at h ⊢
      exact Wt_exit k k' a w h hq

theorem Wt_code (c : Code) (k : List It) : Wt P Q (.code c :: k) = Exit.then (c.wpIn (wf Q.ro) 0 P (Wt P Q k)) (Wt P Q k) := by
  funext e a w
  cases e <;> rfl

theorem vc_sound : ∀ (n : Nat) (σ : St) (k : List It), vc P Q G W n σ k → Res P Q G W σ k := by
  intro n
  induction n with
  | zero => intro σ k h; cases k <;> exact h
  | succ n ih =>
    intro σ k h
    cases k with
    | nil => exact h
    | cons i k =>
      cases i with
      | rnd R => exact h
      | any chk all z GI WI X LS l plan => exact any_sound ih plan h.1 h.2
      | blk id =>
        intro new a w hs
        exact ih σ k h new a w hs
      | ops all rest =>
        cases rest with
        | nil =>
          intro new a w hs
          exact ih σ k h new a w hs
        | cons o rest =>
          rw [vc_op] at h
          intro new a w hs
          have hwant : ∀ j want, o.guard = some (j, want) → ∀ d, gdT all j = some d → ∀ v, getT σ.T d = some (.v v) →
              Region.wanted o (yielded all.toArray a.tmps) = (match v with | .bool b => b == want | _ => false) := by
            intro j want hg d hd v hv
            rw [gdT_eq] at hd
            have hd' : ((all.toArray[j]?).bind (·.dst)) = some d := by simpa using hd
            simp only [Region.wanted, hg, yielded, hd', Option.bind_some, hs.tmps_get hv, SV.den]
            cases v <;> try rfl
          generalize hgd : gd σ all o.guard = g at h
          cases g with
          | no => exact h new a w hs
          | not =>
            have hw : Region.wanted o (yielded all.toArray a.tmps) = false := by
              unfold gd at hgd
              split at hgd
              · cases hgd
              · rename_i j want hg
                split at hgd
                · cases hgd
                · rename_i d hd
                  split at hgd
                  · rename_i hb
                    rw [hwant j want hg d hd _ hb]
                    cases want with
                    | true => simp at hgd
                    | false => rfl
                  · rename_i hb
                    rw [hwant j want hg d hd _ hb]
                    cases want with
                    | true => rfl
                    | false => simp at hgd
                  · rename_i vs hb
                    rw [hwant j want hg d hd _ hb]
                  · cases hgd
            show wpListIn (wf Q.ro) 0 P all.toArray (Wt P Q k) (o :: rest) a w
            unfold wpListIn
            rw [if_neg (by rw [hw]; simp)]
            exact ⟨fun _ _ => trivial, ih _ _ h new _ w (hs.put o.dst (.v undef) trivial)⟩
          | yes =>
            have hw : Region.wanted o (yielded all.toArray a.tmps) = true := by
              unfold gd at hgd
              split at hgd
              · rename_i hg
                simp [Region.wanted, hg]
              · rename_i j want hg
                split at hgd
                · cases hgd
                · rename_i d hd
                  split at hgd
                  · rename_i hb
                    rw [hwant j want hg d hd _ hb]
                    cases want with
                    | true => rfl
                    | false => simp at hgd
                  · rename_i hb
                    rw [hwant j want hg d hd _ hb]
                    cases want with
                    | true => simp at hgd
                    | false => rfl
                  · cases hgd
                  · cases hgd
            simp only [vop] at h
            generalize hex : exec P G W σ o = r at h
            cases r with
            | no => exact h new a w hs
            | call f args =>
              obtain ⟨hok, hc⟩ := h
              show wpListIn (wf Q.ro) 0 P all.toArray (Wt P Q k) (o :: rest) a w
              unfold wpListIn
              rw [if_pos hw]
              exact exec_callIn hs hex hok (hc new a w hs)
            | go ob σ' =>
              obtain ⟨hob, h⟩ := h
              show wpListIn (wf Q.ro) 0 P all.toArray (Wt P Q k) (o :: rest) a w
              unfold wpListIn
              rw [if_pos hw]
              refine (exec_go hs hex hob ?_).wpIn (exec_go_op hex)
              intro new' a' w' _ hs'
              cases hsp : gSplit all rest σ' o.dst with
              | none =>
                rw [hsp] at h
                exact ih _ _ h new' a' w' hs'
              | some db =>
                obtain ⟨d, b⟩ := db
                rw [hsp] at h
                have hb : getT σ'.T d = some (.v (.bool b)) := by
                  unfold gSplit at hsp
                  split at hsp
                  · cases hsp
                  · split at hsp
                    · rename_i b' hb'
                      split at hsp
                      · injection hsp with hsp; injection hsp with h1 h2; subst h1 h2; exact hb'
                      · cases hsp
                    · cases hsp
                cases b with
                | true => exact ih _ _ (h.1 rfl) new' a' w' (hs'.retmp hb (s' := .v (.bool true)) rfl trivial)
                | false => exact ih _ _ (h.2 rfl) new' a' w' (hs'.retmp hb (s' := .v (.bool false)) rfl trivial)
      | code c =>
        intro new a w hs
        show c.wpIn (wf Q.ro) 0 P (Wt P Q k) a w
        cases c with
        | skip => exact wpIn_skip (ih σ k h new a w hs)
        | seq x y =>
          refine wpIn_seq ?_
          rw [← Wt_code]
          exact ih σ _ h new a w hs
        | block id c => exact wpIn_block (ih σ _ h new a w hs)
        | region id ops draw =>
          cases draw with
          | true => exact h new a w hs
          | false => exact wpIn_region_list (by have := ih σ _ h new a w hs; simpa [Wt] using this)
        | cond c x y =>
          simp only [vc] at h
          split at h
          · rename_i b hb
            obtain ⟨he, _⟩ := ev_sound hs hb
            refine wpIn_cond (t := b) (by simpa [SV.den] using he) ?_
            cases b with
            | true => exact ih σ _ (h.1 rfl) new a w hs
            | false => exact ih σ _ (h.2 rfl) new a w hs
          · exact h new a w hs
        | exit id =>
          simp only [vc] at h
          split at h
          · rename_i k' hk
            exact wpIn_exit (Wt_exit k k' a w hk (ih σ k' h new a w hs))
          · exact h new a w hs
        | ret => exact wpIn_ret (Wt_ret k a w (h new a w hs))
        | _ => exact h new a w hs

/-! ### the leaves -/

/-- Ids at the beginning of a function that knows no block. -/
theorem Res.run {σ : St} {k : List It} (n : Nat) (h : vc P Q G W n σ k) : Res P Q G W σ k := vc_sound n σ k h

/-- A call whose result is determined, and that leaves all that is there as it is. -/
theorem CallAt.det {σ : St} {f : FuncId} {args : List SV} {dst : Option Tmp} {k : List It} (args' : Array Value) (v : Value)
    (ha : ∀ new, (args.map (SV.den (σ.X ++ new))).toArray = args')
    (hc : ∀ w, Keep G W w → Calls P f args' w fun e w' => e = .returned v ∧ Ext w w')
    (hk : Res P Q G W (σ.put dst (.v v)) k) : CallAt P Q G W σ f args dst k := by
  intro new a w hs
  rw [ha]
  refine (hc w hs.hs.keep).mono ?_
  rintro e w' ⟨rfl, hE⟩
  refine hk new _ w' ?_
  have h2 := hs.put dst (.v v) trivial
  exact ⟨h2.tsz, h2.tmp, h2.tlt, h2.dfr, h2.dlt, h2.hs.ext' hE⟩

/-- What is asked at a body's end. -/
def bP (P : Program) (fn : Func) (R : Ending → World → Prop) : Pst := ⟨none, bodyPost P fn R⟩

/-- The values of the result variables. -/
def resV (P : Program) (σ : St) : List ResultVar → Option (List SV)
  | [] => some []
  | .tmp t :: l => match getT σ.T t with
    | some s => match resV P σ l with
      | some r => some (s :: r)
      | none => none
    | none => none
  | .cell x t :: l => match getT σ.T x with
    | some (.p i off) => match tyI P t with
      | some ti => match getE σ.L i with
        | some (.cells _ cs) => match (if ti.agg then (match sub cs off ti.size with | some l => some (SV.agg l) | none => none) else getC cs off) with
          | some s => match resV P σ l with
            | some r => some (s :: r)
            | none => none
          | none => none
        | _ => none
      | none => none
    | _ => none

def resOf (ids : List Nat) : List SV → Value
  | [s] => s.den ids
  | l => .tuple (l.map (SV.den ids)).toArray

def rvF (tmps : Array Value) : ResultVar → Sem Value
  | .tmp t => pure (tmps.getD t undef)
  | .cell b t => do loadVar t (← asAddr (tmps.getD b undef))
theorem results_eq (fn : Func) (tmps : Array Value) : results fn tmps = (do let vs ← fn.results.mapM (rvF tmps); pure (if h : vs.size = 1 then vs[0] else .tuple vs)) := by
  unfold results
  congr 2

theorem resV_sound {σ : St} {new : List Nat} {a : Act} {w : World} (hs : Sat G W σ new a w) : ∀ (rs : List ResultVar) (l : List SV), resV P σ rs = some l →
    (rs.mapM (rvF a.tmps)).run P w = .ok (l.map (SV.den (σ.X ++ new))) w
  | [], l, h => by simp [resV] at h; subst h; rfl
  | .tmp t :: rs, l, h => by
    simp only [resV] at h
    split at h
    · rename_i s hg
      split at h
      · rename_i r hr
        injection h with h; subst h
        rw [List.mapM_cons]
        simp only [rvF, Sem.run_bind, Sem.run_pure, Result.andThen_ok, resV_sound hs rs r hr, hs.tmp t s hg]
        rfl
      · cases h
    · cases h
  | .cell x t :: rs, l, h => by
    simp only [resV] at h
    split at h
    · rename_i i off hg
      split at h
      · rename_i ti ht
        split at h
        · rename_i ty cs he
          split at h
          · rename_i s hsv
            split at h
            · rename_i r hr
              injection h with h; subst h
              have hex : exLoad P G W σ t (.p i off) = some (True, s) := by
                unfold exLoad
                simp only [ht, he]
                split at hsv
                · rename_i hag
                  rw [if_pos hag]
                  split at hsv
                  · rename_i l hl; injection hsv with hsv; subst hsv; first | rfl | simp only [hl]
                  · cases hsv
                · rename_i hag
                  rw [if_neg hag, hsv]
              obtain ⟨hl', hrun⟩ := exLoad_sound hs hex trivial
              have hrun' : (loadVar t ⟨(σ.X ++ new).getD i 0, off, none⟩).run P w = .ok (s.den (σ.X ++ new)) w := by
                simpa only [Instr.loadAt, SV.den, Instr.sureAddr, Sem.run_bind, Sem.run_pure, Result.andThen_ok] using hrun
              have ih := resV_sound hs rs r hr
              have h1 : (rvF a.tmps (.cell x t)).run P w = .ok (s.den (σ.X ++ new)) w := by
                have : rvF a.tmps (.cell x t) = (do loadVar t (← asAddr ((SV.p i off).den (σ.X ++ new)))) := by rw [← hs.tmp x _ hg]; rfl
                rw [this]
                exact hrun'
              rw [List.mapM_cons, Sem.run_bind]
              rw [h1, Result.andThen_ok, Sem.run_bind, ih]
              rfl
            · cases h
          · cases h
        · cases h
      · cases h
    · cases h

/-- The end of a body without deferred calls. -/
theorem Ret.body {fn : Func} {R : Ending → World → Prop} {σ : St} (l : List SV) (hD : σ.D = []) (hr : resV P σ fn.results.toList = some l)
    (h : ∀ new w, HS G W σ new w → R (.returned (resOf (σ.X ++ new) l)) w) : Ret (bP P fn R) G W σ := by
  intro new a w hs
  have h1 := resV_sound hs fn.results.toList l hr
  refine ⟨by rw [hs.dfr, hD]; rfl, _, ?_, h new w hs.hs⟩
  rw [results_eq, Array.mapM_eq_mapM_toList]
  simp only [Sem.run_bind, Sem.run_map, h1, Result.andThen_ok, Sem.run_pure]
  congr 1
  rcases l with _ | ⟨s, _ | ⟨t, l⟩⟩
  · simp [resOf]
  · simp [resOf]
  · simp [resOf]

theorem Res.body {fn : Func} {R : Ending → World → Prop} {σ : St} (l : List SV) (hD : σ.D = []) (hr : resV P σ fn.results.toList = some l)
    (h : ∀ new w, HS G W σ new w → R (.returned (resOf (σ.X ++ new) l)) w) : Res P (bP P fn R) G W σ [] :=
  fun new a w hs => Ret.body l hD hr h new a w hs

theorem HS.ext {σ : St} {new : List Nat} {w : World} (h : HS (· < W.heap.size) W σ new w) : Ext W w := h.keep
end vcs

/-! ### a function's beginning, calls of every kind, rounds -/
section starts
variable {P : Program} {Q : Pst} {G : Nat → Prop} {W : World}

def T0 (args : List SV) (n : Nat) : List (Option SV) := args.map some ++ List.replicate (n - args.length) (some (.v undef))

theorem getT_T0 {args : List SV} {n t : Nat} {sv : SV} (h : getT (T0 args n) t = some sv) : args[t]? = some sv ∨ (args.length ≤ t ∧ sv = .v undef) := by
  have gen : ∀ (l : List SV) (m t : Nat), getT (l.map some ++ List.replicate m (some (SV.v undef))) t = some sv → l[t]? = some sv ∨ (l.length ≤ t ∧ sv = .v undef) := by
    intro l m
    induction l with
    | nil =>
      induction m with
      | zero => intro t h; simp [getT] at h
      | succ m ih =>
        intro t h
        cases t with
        | zero => simp [getT, List.replicate_succ] at h; exact .inr ⟨by simp, h.symm⟩
        | succ t =>
          simp only [List.map_nil, List.nil_append, List.replicate_succ, getT] at h
          rcases ih t h with h | ⟨_, h⟩
          · simp at h
          · exact .inr ⟨by simp, h⟩
    | cons x l ih =>
      intro t h
      cases t with
      | zero => simp [getT] at h; left; simp [h]
      | succ t =>
        simp only [List.map_cons, List.cons_append, getT] at h
        rcases ih t h with h | ⟨h1, h2⟩
        · exact .inl (by simpa using h)
        · exact .inr ⟨by simp; omega, h2⟩
  exact gen args _ t h

/-- The beginning: arguments, the blocks that are known, where they lie. -/
theorem start {f : FuncId} {fn : Func} {c : Code} {args : List SV} {X : List Nat} {L : List Ent} {R : Ending → World → Prop} {n : Nat} (hf : P.funcs[f]? = some fn) (hb : fn.body = some c)
    (hn : fn.ntmps = n) (hlt : ∀ s ∈ args, s.lt L.length) (hs : HS G W { T := T0 args n, X := X, L := L, D := [] } [] W)
    (h : Res P (bP P fn R) G W { T := T0 args n, X := X, L := L, D := [] } [.code c]) :
    Calls P f (args.map (SV.den X)).toArray W R := by
  refine calls_of_wp hf hb (wpIn_wide (n := 0).1 ?_)
  refine h [] _ W ⟨?_, ?_, ?_, rfl, by simp, hs⟩
  · simp [hn, T0]
  · intro t sv ht
    simp only [List.append_nil]
    rcases getT_T0 ht with h | ⟨h1, rfl⟩
    · have hl : t < args.length := by
        rcases Nat.lt_or_ge t args.length with h' | h'
        · exact h'
        · rw [List.getElem?_eq_none h'] at h; cases h
      simp only [Array.getD_eq_getD_getElem?]
      rw [Array.getElem?_append_left (by simpa using hl)]
      simp [h]
    · simp only [Array.getD_eq_getD_getElem?, SV.den]
      rw [Array.getElem?_append_right (by simpa using h1)]
      rw [Array.getElem?_replicate]
      split <;> rfl
  · intro t sv ht
    rcases getT_T0 ht with h | ⟨_, rfl⟩
    · exact hlt sv (List.mem_of_getElem? h)
    · trivial

/-- Nothing known of memory but what lies in G. -/
theorem HS.nil {T : List (Option SV)} (hG : ∀ b, G b → b < W.heap.size) : HS G W { T := T, X := [], L := [], D := [] } [] W :=
  ⟨fun _ _ => False, rfl, by simp, by simp, by simp, by simp, hG, Keep.refl _ _⟩

theorem start0 {f : FuncId} {fn : Func} {c : Code} {args : List SV} {R : Ending → World → Prop} {n : Nat} (hf : P.funcs[f]? = some fn) (hb : fn.body = some c)
    (hn : fn.ntmps = n) (hlt : ∀ s ∈ args, s.lt 0) (hG : ∀ b, G b → b < W.heap.size)
    (h : Res P (bP P fn R) G W { T := T0 args n, X := [], L := [], D := [] } [.code c]) :
    Calls P f (args.map (SV.den [])).toArray W R := start (X := []) (L := []) hf hb hn hlt (HS.nil hG) h

/-- A call, whatever it does: what is known behind it is said anew, over the world that it leaves. -/
theorem CallAt.eff {σ : St} {f : FuncId} {args : List SV} {dst : Option Tmp} {k : List It} (Post : List Nat → World → Value → World → Prop)
    (hc : ∀ new w, HS G W σ new w → Calls P f (args.map (SV.den (σ.X ++ new))).toArray w fun e w' => ∃ v, e = .returned v ∧ Post new w v w')
    (hk : ∀ new w v w', HS G W σ new w → Post new w v w' → ∃ G' L', L'.length = σ.L.length ∧ HS G' w' { σ with X := σ.X ++ new, L := L' } [] w' ∧
      Res P Q G' w' ({ σ with X := σ.X ++ new, L := L' }.put dst (.v v)) k) : CallAt P Q G W σ f args dst k := by
  intro new a w hs
  refine (hc new w hs.hs).mono ?_
  rintro e w' ⟨v, rfl, hp⟩
  obtain ⟨G', L', hL, hS, hR⟩ := hk new w v w' hs.hs hp
  refine hR [] _ w' ?_
  have base : Sat G' w' { σ with X := σ.X ++ new, L := L' } [] a w' := by
    refine ⟨hs.tsz, ?_, ?_, ?_, ?_, hS⟩
    · intro t sv ht
      have := hs.tmp t sv ht
      simpa using this
    · intro t sv ht
      rw [hL]; exact hs.tlt t sv ht
    · have := hs.dfr
      simpa using this
    · intro d hd
      rw [hL]; exact hs.dlt d hd
  have := base.put dst (.v v) trivial
  simpa [SV.den] using this

/-- What the locals are behind a call that leaves all that was there as it was, over the new world: G may grow by what the call made. -/
theorem HS.rebase {σ : St} {new : List Nat} {w w' : World} (h : HS G W σ new w) (hE : Ext w w') (G' : Nat → Prop) (hG : ∀ b, G' b → G b ∨ (w.heap.size ≤ b ∧ b < w'.heap.size)) :
    HS G' w' { σ with X := σ.X ++ new } [] w' := by
  obtain ⟨own, h⟩ := h
  refine ⟨own, by have := h.len; simp; omega, ?_, h.entlt, h.apart, ?_, ?_, Keep.refl _ _⟩
  · intro i e hi
    simp only [List.append_nil]
    exact Ent.ok_loc (h.ok i e hi) fun b hb => hE.block b (h.out i b (List.getElem?_eq_some_iff.1 hi).1 hb).2
  · intro i b hi hb
    obtain ⟨h1, h2⟩ := h.out i b hi hb
    refine ⟨fun hg => ?_, Nat.lt_of_lt_of_le h2 hE.size⟩
    rcases hG b hg with hg | ⟨h3, _⟩
    · exact h1 hg
    · omega
  · intro b hg
    rcases hG b hg with hg | ⟨_, h2⟩
    · have := h.inW b hg; have := h.keep.size; have := hE.size; omega
    · exact h2

/-- A call that leaves all that was there as it was, and hands back something that it made or had. -/
theorem CallAt.fresh {σ : St} {f : FuncId} {args : List SV} {dst : Option Tmp} {k : List It} (Post : World → Value → World → Prop) (args' : Array Value)
    (ha : ∀ new, (args.map (SV.den (σ.X ++ new))).toArray = args')
    (hc : ∀ w, Keep G W w → Calls P f args' w fun e w' => ∃ v, e = .returned v ∧ Ext w w' ∧ Post w v w')
    (hk : ∀ X w v w', X.length = σ.L.length → Keep G W w → Ext w w' → Post w v w' → Res P Q (fun b => G b ∨ (w.heap.size ≤ b ∧ b < w'.heap.size)) w' ({ σ with X := X }.put dst (.v v)) k) :
    CallAt P Q G W σ f args dst k := by
  refine CallAt.eff (fun _ w v w' => Keep G W w ∧ Ext w w' ∧ Post w v w') ?_ ?_
  · intro new w hs
    rw [ha]
    refine (hc w hs.keep).mono ?_
    rintro e w' ⟨v, rfl, hE, hp⟩
    exact ⟨v, rfl, hs.keep, hE, hp⟩
  · intro new w v w' hs ⟨hK, hE, hp⟩
    refine ⟨_, σ.L, rfl, hs.rebase hE _ (fun b h => h), ?_⟩
    exact hk _ w v w' (by simpa using hs.len) hK hE hp

/-- Slots that are forgotten. -/
def forget (keep : List Nat) : Nat → List (Option SV) → List (Option SV)
  | _, [] => []
  | i, s :: l => (if keep.contains i then s else none) :: forget keep (i + 1) l

theorem getT_forget {keep : List Nat} : ∀ (l : List (Option SV)) (i t : Nat) (s : SV), getT (forget keep i l) t = some s → getT l t = some s
  | [], i, t, s, h => by simp [forget, getT] at h
  | x :: l, i, t, s, h => by
    cases t with
    | zero => simp only [forget, getT] at h ⊢; split at h <;> first | exact h | cases h
    | succ t => simp only [forget, getT] at h ⊢; exact getT_forget l (i + 1) t s h
theorem forget_length {keep : List Nat} : ∀ (l : List (Option SV)) (i : Nat), (forget keep i l).length = l.length
  | [], _ => rfl
  | x :: l, i => by simp [forget, forget_length l]

/-- A state that knows less. -/
theorem Res.forget {σ : St} {k : List It} (T' : List (Option SV)) (hl : T'.length = σ.T.length) (hT : ∀ t s, getT T' t = some s → getT σ.T t = some s) (h : Res P Q G W { σ with T := T' } k) : Res P Q G W σ k := by
  intro new a w hs
  refine h new a w ⟨by rw [hs.tsz]; exact hl.symm, fun t s ht => hs.tmp t s (hT t s ht), fun t s ht => hs.tlt t s (hT t s ht), hs.dfr, hs.dlt, hs.hs.same rfl rfl⟩

/-- σ' knows no more than σ. -/
def St.Le (σ' σ : St) : Prop := ∀ (G : Nat → Prop) (W : World) (new : List Nat) (a : Act) (w : World), Sat G W σ new a w → ∃ new', Sat G W σ' new' a w

theorem Sat.le {σ σ' : St} {new : List Nat} {a : Act} {w : World} (hs : Sat G W σ new a w) (h : St.Le σ' σ) : ∃ new', Sat G W σ' new' a w := h _ _ _ _ _ hs

/-- The same blocks under other indexes: r says which of σ's each of σ''s is. -/
theorem Sat.ren {σ σ' : St} {new new' : List Nat} {a : Act} {w : World} (hs : Sat G W σ new a w) (r : Nat → Nat) (hX : σ'.X = σ.X) (hlen : σ'.X.length + new'.length = σ'.L.length)
    (hid : ∀ i e, σ'.L[i]? = some e → e.isDead = false → (σ.X ++ new').getD i 0 = (σ.X ++ new).getD (r i) 0 ∧ r i < σ.L.length)
    (hinj : ∀ i j e e', σ'.L[i]? = some e → e.isDead = false → σ'.L[j]? = some e' → e'.isDead = false → i ≠ j → r i ≠ r j)
    (hE : ∀ i e', σ'.L[i]? = some e' → e'.isDead = false → ∃ e, σ.L[r i]? = some e ∧ ∀ p O, e.ok (σ.X ++ new) p O w → e'.ok (σ.X ++ new') p O w)
    (hT : ∀ t s', getT σ'.T t = some s' → ∃ s, getT σ.T t = some s ∧ s.den (σ.X ++ new) = s'.den (σ.X ++ new')) (hTl : σ'.T.length = σ.T.length)
    (tlt : ∀ t s, getT σ'.T t = some s → s.lt σ'.L.length) (elt : ∀ e ∈ σ'.L, e.lt σ'.L.length)
    (hD : σ.D.map (DSV.den (σ.X ++ new)) = σ'.D.map (DSV.den (σ.X ++ new'))) (dlt : ∀ d ∈ σ'.D, d.lt σ'.L.length) : Sat G W σ' new' a w := by
  refine ⟨by rw [hs.tsz, hTl], ?_, tlt, by rw [hs.dfr, hD, hX], dlt, ?_⟩
  · intro t s ht
    obtain ⟨s0, h1, h2⟩ := hT t s ht
    rw [hs.tmp t s0 h1, h2, hX]
  · obtain ⟨own, h⟩ := hs.hs
    refine ⟨fun i b => own (r i) b ∧ ∃ e, σ'.L[i]? = some e ∧ e.isDead = false, hlen, ?_, elt, ?_, ?_, h.inW, h.keep⟩
    · intro i e' he'
      by_cases hd : e'.isDead = true
      · cases e' <;> simp [Ent.isDead] at hd
        trivial
      · have hd' : e'.isDead = false := by simpa using hd
        obtain ⟨e, he, hok⟩ := hE i e' he' hd'
        rw [hX, (hid i e' he' hd').1]
        have hx := hok _ _ (h.ok (r i) e he)
        have hO : (fun b => own (r i) b ∧ ∃ e, σ'.L[i]? = some e ∧ e.isDead = false) = own (r i) := by
          funext b
          exact propext ⟨fun h => h.1, fun h => ⟨h, e', he', hd'⟩⟩
        rw [hO]
        exact hx
    · rintro i j b _ _ hij ⟨h1, e, he, hd⟩ ⟨h2, e', he', hd'⟩
      exact h.apart (r i) (r j) b (hid i e he hd).2 (hid j e' he' hd').2 (hinj i j e e' he hd he' hd' hij) h1 h2
    · rintro i b _ ⟨h1, e, he, hd⟩
      exact h.out (r i) b (hid i e he hd).2 h1

/-- Fewer slots, and of the blocks those that stood at the beginning, or fewer. -/
structure St.LeS (σ' σ : St) : Prop where
  len : σ'.T.length = σ.T.length
  tmp : ∀ t s, getT σ'.T t = some s → getT σ.T t = some s
  tlt : ∀ t s, getT σ'.T t = some s → s.lt σ'.L.length
  X : σ'.X = σ.X
  D : σ'.D = σ.D
  dlt : ∀ d ∈ σ'.D, d.lt σ'.L.length
  L : ∀ (i : Nat) (e : Ent), σ'.L[i]? = some e → e.isDead = false → σ.L[i]? = some e
  le : σ'.L.length ≤ σ.L.length
  elt : ∀ e ∈ σ'.L, e.lt σ'.L.length
  xl : σ.X.length ≤ σ'.L.length

theorem St.LeS.toLe {σ' σ : St} (h : St.LeS σ' σ) : St.Le σ' σ := by
  intro G W new a w hs
  have hlen := hs.hs.len
  have hxl := h.xl
  have hle := h.le
  let m := σ'.L.length - σ.X.length
  have hids : (σ.X ++ new.take m).length = σ'.L.length := by simp [m]; omega
  have happ : σ.X ++ new = (σ.X ++ new.take m) ++ new.drop m := by rw [List.append_assoc, List.take_append_drop]
  refine ⟨new.take m, hs.ren id h.X (by rw [h.X]; simpa using hids) ?_ (fun i j _ _ _ _ _ _ hij => hij) ?_ ?_ h.len h.tlt h.elt ?_ h.dlt⟩
  · intro i e he _
    have hi : i < σ'.L.length := (List.getElem?_eq_some_iff.1 he).1
    refine ⟨?_, by simp; omega⟩
    rw [happ, id, getD_append_lt (l := σ.X ++ new.take m) (by omega)]
  · intro i e he hd
    refine ⟨e, h.L i e he hd, fun p O hok => ?_⟩
    rw [happ, Ent.ok_append (by rw [hids]; exact h.elt e (List.mem_of_getElem? he))] at hok
    exact hok
  · intro t s ht
    exact ⟨s, h.tmp t s ht, by rw [happ, SV.den_append (by rw [hids]; exact h.tlt t s ht)]⟩
  · rw [h.D]
    apply List.map_congr_left
    intro d hd
    rw [happ, DSV.den_append (by rw [hids]; exact h.dlt d (by rw [h.D]; exact hd))]

theorem Res.le {σ σ' : St} {k : List It} (h : St.Le σ' σ) (hr : Res P Q G W σ' k) : Res P Q G W σ k := by
  intro new a w hs
  obtain ⟨new', hs'⟩ := hs.le h
  exact hr new' a w hs'

/-- What a round must come to at its end: some state of the family again, nearer to the end. -/
def Again (G : Nat → Prop) (W : World) {X : Type} (S : X → St) (μ : X → Nat) (x : X) (a : Act) (w : World) : Prop :=
  ∃ x' new, μ x' < μ x ∧ Sat G W (S x') new a w

/-- The end of a round. -/
theorem Res.again {σ : St} {k : List It} {X : Type} {S : X → St} {μ : X → Nat} {x : X} (x' : X) (hμ : μ x' < μ x) (h : St.Le (S x') σ) : Res P Q G W σ (.rnd (Again G W S μ x) :: k) := by
  intro new a w hs
  obtain ⟨new', hs'⟩ := hs.le h
  exact ⟨x', new', hμ, hs'⟩

/-- A loop: over the one base W, by a family of states. -/
theorem Res.loop {c : Code} {k : List It} {σ : St} {X : Type} (S : X → St) (μ : X → Nat) (x0 : X) (h0 : St.Le (S x0) σ)
    (round : ∀ x, Res P Q G W (S x) (.code c :: .rnd (Again G W S μ x) :: k)) : Res P Q G W σ (.code (.loop c) :: k) := by
  intro new a w hs
  obtain ⟨new0, hs0⟩ := hs.le h0
  show (Code.loop c).wpIn (wf Q.ro) 0 P (Wt P Q k) a w
  intro b kk cs hro hb hrm
  have key : ∀ n x new a w, μ x = n → Sat G W (S x) new a w →
      ∃ e a' w', Wt P Q k e a' w' ∧ ArrivesIn (Machine.fenced P (wf Q.ro)) P (lone (b.atR a (.code c :: .inLoop c :: kk)) cs w) b kk cs e a' w' := by
    intro n
    induction n using Nat.strongRecOn with
    | _ n ih =>
      intro x new a w hn hsx
      have hr : c.wpIn (wf Q.ro) 0 P (Wt P Q (.rnd (Again G W S μ x) :: k)) a w := round x new a w hsx
      obtain ⟨e, a₁, w₁, hq, harr⟩ := hr b (.inLoop c :: kk) cs hro hb hrm
      cases e with
      | normal =>
        obtain ⟨x', new', hlt, hs'⟩ := hq
        obtain ⟨e₂, a₂, w₂, hq₂, harr₂⟩ := ih (μ x') (hn ▸ hlt) x' new' a₁ w₁ rfl hs'
        exact ⟨e₂, a₂, w₂, hq₂, .of_steps (StepsIn.trans harr (.one (fenced_calm hb hrm rfl) stepR_inLoop)) harr₂⟩
      | exit id => exact ⟨_, a₁, w₁, hq, .pass (x := .inLoop c) rfl (fun _ _ => .inl (by simp)) harr⟩
      | goto l => exact ⟨_, a₁, w₁, hq, .pass (x := .inLoop c) rfl (fun _ _ => .inl (by simp)) harr⟩
      | ret => exact ⟨_, a₁, w₁, hq, .pass (x := .inLoop c) rfl (fun _ _ => .inl (by simp)) harr⟩
      | panic ch => exact ⟨_, a₁, w₁, hq, .pass (x := .inLoop c) rfl (fun _ _ => .inl (by simp)) harr⟩
      | outgrown => exact ⟨_, a₁, w₁, hq, .pass (x := .inLoop c) rfl (fun _ _ => .inl (by simp)) harr⟩
  obtain ⟨e, a', w', hq, harr⟩ := key _ x0 new0 a w rfl hs0
  exact ⟨e, a', w', hq, .of_steps (.one (fenced_calm hb hrm rfl) stepR_loop) harr⟩

/-- A round's end, where the base may change. -/
def AgainW {X : Type} (S : X → St) (Gx : X → Nat → Prop) (Wx : X → World) (μ : X → Nat) (x : X) (a : Act) (w : World) : Prop :=
  ∃ x' new, μ x' < μ x ∧ Sat (Gx x') (Wx x') (S x') new a w

/-- A loop in whose round the base may change: the family says the base, too. -/
theorem Res.loopW {c : Code} {k : List It} {σ : St} {X : Type} (S : X → St) (Gx : X → Nat → Prop) (Wx : X → World) (μ : X → Nat) (x0 : X) (hG : Gx x0 = G) (hW : Wx x0 = W) (h0 : St.Le (S x0) σ)
    (round : ∀ x, Res P Q (Gx x) (Wx x) (S x) (.code c :: .rnd (AgainW S Gx Wx μ x) :: k)) : Res P Q G W σ (.code (.loop c) :: k) := by
  intro new a w hs
  obtain ⟨new0, hs0⟩ := hs.le h0
  show (Code.loop c).wpIn (wf Q.ro) 0 P (Wt P Q k) a w
  intro b kk cs hro hb hrm
  have key : ∀ n x new a w, μ x = n → Sat (Gx x) (Wx x) (S x) new a w →
      ∃ e a' w', Wt P Q k e a' w' ∧ ArrivesIn (Machine.fenced P (wf Q.ro)) P (lone (b.atR a (.code c :: .inLoop c :: kk)) cs w) b kk cs e a' w' := by
    intro n
    induction n using Nat.strongRecOn with
    | _ n ih =>
      intro x new a w hn hsx
      have hr : c.wpIn (wf Q.ro) 0 P (Wt P Q (.rnd (AgainW S Gx Wx μ x) :: k)) a w := round x new a w hsx
      obtain ⟨e, a₁, w₁, hq, harr⟩ := hr b (.inLoop c :: kk) cs hro hb hrm
      cases e with
      | normal =>
        obtain ⟨x', new', hlt, hs'⟩ := hq
        obtain ⟨e₂, a₂, w₂, hq₂, harr₂⟩ := ih (μ x') (hn ▸ hlt) x' new' a₁ w₁ rfl hs'
        exact ⟨e₂, a₂, w₂, hq₂, .of_steps (StepsIn.trans harr (.one (fenced_calm hb hrm rfl) stepR_inLoop)) harr₂⟩
      | exit id => exact ⟨_, a₁, w₁, hq, .pass (x := .inLoop c) rfl (fun _ _ => .inl (by simp)) harr⟩
      | goto l => exact ⟨_, a₁, w₁, hq, .pass (x := .inLoop c) rfl (fun _ _ => .inl (by simp)) harr⟩
      | ret => exact ⟨_, a₁, w₁, hq, .pass (x := .inLoop c) rfl (fun _ _ => .inl (by simp)) harr⟩
      | panic ch => exact ⟨_, a₁, w₁, hq, .pass (x := .inLoop c) rfl (fun _ _ => .inl (by simp)) harr⟩
      | outgrown => exact ⟨_, a₁, w₁, hq, .pass (x := .inLoop c) rfl (fun _ _ => .inl (by simp)) harr⟩
  subst hG hW
  obtain ⟨e, a', w', hq, harr⟩ := key _ x0 new0 a w rfl hs0
  exact ⟨e, a', w', hq, .of_steps (.one (fenced_calm hb hrm rfl) stepR_loop) harr⟩

theorem Res.againW {σ : St} {k : List It} {X : Type} {S : X → St} {Gx : X → Nat → Prop} {Wx : X → World} {μ : X → Nat} {x : X} (x' : X) (hμ : μ x' < μ x) (hG : Gx x' = G) (hW : Wx x' = W) (h : St.Le (S x') σ) :
    Res P Q G W σ (.rnd (AgainW S Gx Wx μ x) :: k) := by
  intro new a w hs
  obtain ⟨new', hs'⟩ := hs.le h
  subst hG hW
  exact ⟨x', new', hμ, hs'⟩
end starts

section rets
variable {P : Program} {G : Nat → Prop} {W : World}
/-- The end, where the result is determined and all that was there is as it was. -/
theorem Ret.det {fn : Func} {σ : St} {v : Value} (l : List SV) (hD : σ.D = []) (hr : resV P σ fn.results.toList = some l) (hv : ∀ ids, resOf ids l = v) :
    Ret (bP P fn fun e w' => e = .returned v ∧ Ext W w') (· < W.heap.size) W σ :=
  Ret.body l hD hr fun _ _ hs => ⟨by rw [hv], hs.ext⟩
theorem Ret.one {fn : Func} {σ : St} {v : Value} (hD : σ.D = []) (hr : resV P σ fn.results.toList = some [.v v]) :
    Ret (bP P fn fun e w' => e = .returned v ∧ Ext W w') (· < W.heap.size) W σ := Ret.det [.v v] hD hr fun _ => rfl
theorem Res.det {fn : Func} {σ : St} {v : Value} (l : List SV) (hD : σ.D = []) (hr : resV P σ fn.results.toList = some l) (hv : ∀ ids, resOf ids l = v) :
    Res P (bP P fn fun e w' => e = .returned v ∧ Ext W w') (· < W.heap.size) W σ [] :=
  Res.body l hD hr fun _ _ hs => ⟨by rw [hv], hs.ext⟩

/-- A call of what is determined, at arguments without pointers to locals. -/
theorem CallAt.pure {Q : Pst} {σ : St} {f : FuncId} {args : List SV} {dst : Option Tmp} {k : List It} (args' : Array Value) (v : Value)
    (ha : ∀ ids, (args.map (SV.den ids)).toArray = args')
    (hc : ∀ w, Keep (· < W.heap.size) W w → Calls P f args' w fun e w' => e = .returned v ∧ Ext w w')
    (hk : Res P Q (· < W.heap.size) W (σ.put dst (.v v)) k) : CallAt P Q (· < W.heap.size) W σ f args dst k :=
  CallAt.det args' v (fun _ => ha _) hc hk
end rets

/-! ### families of states, written out -/
/-- n slots, of which some are known. -/
def mkT (n : Nat) : List (Nat × SV) → List (Option SV)
  | [] => List.replicate n none
  | (i, s) :: l => setT (mkT n l) i (some s)

def LeT : List (Option SV) → List (Option SV) → Prop
  | [], [] => True
  | none :: l, _ :: m => LeT l m
  | some s :: l, some s' :: m => s = s' ∧ LeT l m
  | _, _ => False
def ltTs (n : Nat) : List (Option SV) → Prop
  | [] => True
  | none :: l => ltTs n l
  | some s :: l => ltS n s ∧ ltTs n l
theorem ltTs_spec {n : Nat} : ∀ {l : List (Option SV)}, ltTs n l → ∀ t s, getT l t = some s → s.lt n
  | [], _, t, s, h => by simp [getT] at h
  | none :: l, hl, 0, s, h => by simp [getT] at h
  | none :: l, hl, t + 1, s, h => ltTs_spec (l := l) hl t s h
  | some x :: l, hl, 0, s, h => by simp [getT] at h; subst h; exact ltS_spec hl.1
  | some x :: l, hl, t + 1, s, h => ltTs_spec (l := l) hl.2 t s h
theorem LeT_spec : ∀ {l m : List (Option SV)}, LeT l m → l.length = m.length ∧ ∀ t s, getT l t = some s → getT m t = some s
  | [], [], _ => ⟨rfl, fun t s h => h⟩
  | [], _ :: _, h => by simp [LeT] at h
  | none :: l, [], h => by simp [LeT] at h
  | some _ :: l, [], h => by simp [LeT] at h
  | none :: l, x :: m, h => by
    have r := LeT_spec (l := l) (m := m) h
    refine ⟨by simp [r.1], fun t s ht => ?_⟩
    cases t with
    | zero => simp [getT] at ht
    | succ t => exact r.2 t s ht
  | some x :: l, none :: m, h => by simp [LeT] at h
  | some x :: l, some y :: m, h => by
    have h' : x = y ∧ LeT l m := h
    have r := LeT_spec (l := l) (m := m) h'.2
    refine ⟨by simp [r.1], fun t s ht => ?_⟩
    cases t with
    | zero => rw [← h'.1]; exact ht
    | succ t => exact r.2 t s ht
/-- A weaker state, told by what can be reckoned. -/
theorem St.Le.of {σ' σ : St} (n : Nat) (h : LeT σ'.T σ.T ∧ ltTs n σ'.T ∧ LeL σ'.L σ.L ∧ ltEs n σ'.L) (hn : σ'.L.length = n := by rfl) (hX : σ'.X = σ.X := by rfl) (hD : σ'.D = [] := by rfl) (hD' : σ.D = [] := by rfl) (hx : σ.X.length ≤ n := by simp) : St.Le σ' σ := by
  obtain ⟨h1, h2, h3, h4⟩ := h
  subst hn
  exact St.LeS.toLe ⟨(LeT_spec h1).1, (LeT_spec h1).2, ltTs_spec h2, hX, by rw [hD, hD'], by simp [hD], (LeL_spec h3).2, (LeL_spec h3).1, ltEs_spec h4, hx⟩

section mapnew
variable {P : Program} {Q : Pst} {G : Nat → Prop} {W : World}
theorem HS.extw {σ : St} {new : List Nat} {w w' : World} (h : HS G W σ new w) (hE : Ext w w') : HS G W σ new w' := h.ext' hE
/-- A map that is made and that nothing is to be known of. -/
theorem Res.makeMap {σ : St} {k : List It} {all rest : List Oper} {dst : Option Tmp} {t ty : TypeId} {pos : String} {after : Array Edge}
    (h : ∀ b, Res P Q G W (σ.put dst (.v (.map (some b)))) (.ops all rest :: k)) : Res P Q G W σ (.ops all ({ dst := dst, op := .makeMap t none, type := ty, pos := pos, after := after, guard := none } :: rest) :: k) := by
  intro new a w hs
  show wpListIn (wf Q.ro) 0 P all.toArray (Wt P Q k) (_ :: rest) a w
  unfold wpListIn
  rw [if_pos (by rfl)]
  refine (wp_value (v := .map (some w.heap.size)) (w' := w.alloc (.map #[] 0)) ?_ ?_).wpIn (by simp)
  · simp [execOp, Instr.makeMap]
  · have hE : Ext w (w.alloc (.map #[] 0)) := (Keep.refl _ w).alloc (fun k hk => hk) _
    have h2 := hs.put dst (.v (.map (some w.heap.size))) trivial
    exact h w.heap.size new _ _ ⟨h2.tsz, h2.tmp, h2.tlt, h2.dfr, h2.dlt, h2.hs.extw hE⟩
end mapnew




/-- A call in a region that draws its order: its result is determined. -/
def QCall (P : Program) (G : Nat → Prop) (W : World) (σ : St) (f : FuncId) (args : List SV) (v : Value) : Prop :=
  ∀ new w, HS G W σ new w → Calls P f (args.map (SV.den (σ.X ++ new))).toArray w fun e w' => e = .returned v ∧ Ext w w'

def qBr (K : St → List Value → Prop) (σ : St) (vs : List Value) (d : Tmp) (b : Bool) : Prop :=
  (b = true → K (σ.put (some d) (.v (.bool true))) vs) ∧ (b = false → K (σ.put (some d) (.v (.bool false))) vs)
theorem qBr_true (K : St → List Value → Prop) (σ : St) (vs : List Value) (d : Tmp) : qBr K σ vs d true = K (σ.put (some d) (.v (.bool true))) vs := by simp [qBr]
theorem qBr_false (K : St → List Value → Prop) (σ : St) (vs : List Value) (d : Tmp) : qBr K σ vs d false = K (σ.put (some d) (.v (.bool false))) vs := by simp [qBr]
theorem qBr.mk {K : St → List Value → Prop} {σ : St} {vs : List Value} {d : Tmp} {b : Bool} (h1 : b = true → K (σ.put (some d) (.v (.bool true))) vs) (h2 : b = false → K (σ.put (some d) (.v (.bool false))) vs) : qBr K σ vs d b := ⟨h1, h2⟩
def qSp (K : St → List Value → Prop) (σ : St) (vs : List Value) : Option (Tmp × Bool) → Prop
  | none => K σ vs
  | some (d, b) => qBr K σ vs d b
def qGo (P : Program) (G : Nat → Prop) (W : World) (K : St → List Value → Prop) (all rest : List Oper) (o : Oper) (σ : St) : List Value → Stp → Prop
  | vs, .go ob σ' => ob ∧ qSp K σ' vs (gSplit all rest σ' o.dst)
  | v :: vs, .call f args => fnOK P f = true ∧ QCall P G W σ f args v ∧ qSp K (σ.put o.dst (.v v)) vs (gSplit all rest (σ.put o.dst (.v v)) o.dst)
  | _, _ => False
def qIs (P : Program) (G : Nat → Prop) (W : World) (K : St → List Value → Prop) (all rest : List Oper) (o : Oper) (σ : St) (vs : List Value) : Bool → Prop
  | true => qGo P G W K all rest o σ vs (exec P G W σ o)
  | false => False
def qGd (P : Program) (G : Nat → Prop) (W : World) (K : St → List Value → Prop) (all rest : List Oper) (o : Oper) (σ : St) (vs : List Value) : Gd → Prop
  | .yes => qIs P G W K all rest o σ vs (isQ o.op)
  | .not => K (σ.put o.dst (.v undef)) vs
  | .no => False

/-- The conditions of a region whose operations only reckon, read, and call what is determined, in whatever order. -/
def vq (P : Program) (Q : Pst) (G : Nat → Prop) (W : World) (k : List It) (all : List Oper) : List Oper → St → List Value → Prop
  | [], σ, _ => Res P Q G W σ k
  | o :: rest, σ, vs => qGd P G W (vq P Q G W k all rest) all rest o σ vs (gd σ all o.guard)

section vqs
variable {P : Program} {Q : Pst} {G : Nat → Prop} {W : World}

theorem vq_sound {k : List It} {all : List Oper} {σ0 : St} {new : List Nat} : ∀ (rest : List Oper) (σ : St) (vs : List Value) (a : Act) (w : World),
    vq P Q G W k all rest σ vs → Sat G W σ new a w → σ.X = σ0.X → σ.L = σ0.L →
    wpQuiet P all.toArray (HS G W σ0 new) (fun a' => ∀ w', HS G W σ0 new w' → Wt P Q k .normal a' w') rest a := by
  intro rest
  induction rest with
  | nil =>
    intro σ vs a w h hs hX hL w' hw'
    exact h new a w' (hs.world (hw'.same hX hL))
  | cons o rest ih =>
    intro σ vs a w h hs hX hL
    simp only [vq] at h
    show (if Region.wanted o (yielded all.toArray a.tmps) then o.quiet P a (HS G W σ0 new) _ else _)
    have hw := wanted_of hs (all := all) (o := o)
    have split2 : ∀ (σ' : St) (v : Value) (vs : List Value), Sat G W σ' new (a.put o.dst v) w → σ'.X = σ0.X → σ'.L = σ0.L →
        qSp (vq P Q G W k all rest) σ' vs (gSplit all rest σ' o.dst) →
        wpQuiet P all.toArray (HS G W σ0 new) (fun a' => ∀ w', HS G W σ0 new w' → Wt P Q k .normal a' w') rest (a.put o.dst v) := by
      intro σ' v vs hs' hX' hL' hm
      cases hsp : gSplit all rest σ' o.dst with
      | none => rw [hsp] at hm; exact ih σ' vs _ w hm hs' hX' hL'
      | some db =>
        obtain ⟨d, b⟩ := db
        rw [hsp] at hm
        have hb := gSplit_spec hsp
        cases b with
        | true => exact ih _ vs _ w (hm.1 rfl) (hs'.retmp hb (s' := .v (.bool true)) rfl trivial) (by rw [St.put_X, hX']) (by rw [St.put_L, hL'])
        | false => exact ih _ vs _ w (hm.2 rfl) (hs'.retmp hb (s' := .v (.bool false)) rfl trivial) (by rw [St.put_X, hX']) (by rw [St.put_L, hL'])
    generalize hgd : gd σ all o.guard = g at h
    cases g with
    | no => exact h.elim
    | not =>
      rw [if_neg (by rw [hw.2 hgd]; simp)]
      exact ih _ vs _ w h (hs.put o.dst (.v undef) trivial) (by rw [St.put_X, hX]) (by rw [St.put_L, hL])
    | yes =>
      rw [if_pos (hw.1 hgd)]
      simp only [qGd] at h
      generalize hq : isQ o.op = q at h
      cases q with
      | false => exact h.elim
      | true =>
        simp only [qIs] at h
        generalize hex : exec P G W σ o = r at h
        cases r with
        | no => cases vs <;> exact h.elim
        | go ob σ' =>
          simp only [qGo] at h
          obtain ⟨hob, h⟩ := h
          obtain ⟨s, hst, hl, hrun⟩ := exec_val hs hex hob hq
          injection hst with _ hst
          subst hst
          refine ⟨s.den (σ.X ++ new), ?_, split2 _ _ vs (hs.put o.dst s hl) (by rw [St.put_X, hX]) (by rw [St.put_L, hL]) h⟩
          intro w' hw'
          unfold Oper.quietAt
          rw [hrun w' (hw'.same hX hL)]
          exact ⟨rfl, rfl⟩
        | call f args =>
          cases vs with
          | nil => exact h.elim
          | cons v vs =>
            obtain ⟨hok, hc, h⟩ := h
            refine ⟨v, ?_, split2 _ _ vs (hs.put o.dst (.v v) trivial) (by rw [St.put_X, hX]) (by rw [St.put_L, hL]) h⟩
            intro w' hw'
            have hw2 := hw'.same hX hL
            unfold Oper.quietAt
            rw [exec_enter (hs.world hw2) hex hok]
            refine ⟨rfl, (hc new w' hw2).mono ?_⟩
            rintro e w'' ⟨rfl, hE⟩
            exact ⟨rfl, hw'.ext' hE⟩

/-- A region that draws its order, of such operations. -/
theorem Res.quiet {σ : St} {k : List It} {id : Nat} {l : List Oper} (vs : List Value) (hm : P.follows .mixedOrders = true) (hB : Region.lexB .any l.toArray = true) (h : vq P Q G W k l l σ vs) (hro : Q.ro = none := by rfl) :
    Res P Q G W σ (.code (.region id l.toArray true) :: k) := by
  intro new a w hs
  show (Code.region id l.toArray true).wpIn (wf Q.ro) 0 P (Wt P Q k) a w
  rw [hro]
  refine (wpIn_wide (n := 0)).2 ?_
  refine wp_region_quiet (C := HS G W σ new) hm hB hs.hs.drew ?_
  simpa using vq_sound (σ0 := σ) l σ vs a w h hs rfl rfl

end vqs

/-! ### structs compared -/
section eqs
variable {P : Program}
theorem eqS_of {t : TypeId} {xs ys : List Value} {b : Bool} (hg : P.eqGuardType P.depth t = false) (h : ∀ d w, (Op.equalIn (d + 8) t (.agg xs.toArray) (.agg ys.toArray)).run P w = .ok b w) : EqS P t xs ys b := by
  intro op x y w
  refine ⟨?_, h 9992 w⟩
  unfold eqGuard
  cases op <;> simp [hg]
theorem eqL_int {t : TypeId} {k : IntKind} (hu : P.underlying t = some (.int k)) (d : Nat) (w : World) (a b : Int) : (Op.equalIn (d + 1) t (.int .i64 a) (.int .i64 b)).run P w = .ok (a == b) w := by
  simp [Op.equalIn, run_underlying hu]
theorem eqL_bool {t : TypeId} (hu : P.underlying t = some .bool) (d : Nat) (w : World) (a b : Bool) : (Op.equalIn (d + 1) t (.bool a) (.bool b)).run P w = .ok (a == b) w := by
  simp [Op.equalIn, run_underlying hu]
theorem eqL_string {t : TypeId} (hu : P.underlying t = some .string) (d : Nat) (w : World) (a b : ByteArray) : (Op.equalIn (d + 1) t (.string a) (.string b)).run P w = .ok (a == b) w := by
  simp [Op.equalIn, run_underlying hu]
theorem part_one {t : TypeId} {d : TypeDesc} (hu : P.underlying t = some d) (hd : aggD d = false) (w : World) (cs : Array Value) (off : Nat) {v : Value} (hv : cs[off]? = some v) : (part t cs off).run P w = .ok v w := by
  unfold part isAgg
  simp only [Sem.run_bind, run_underlying hu, Result.andThen_ok]
  cases d <;> simp [aggD] at hd <;> simp [hv]
theorem part_agg {t : TypeId} {d : TypeDesc} {n : Nat} (hu : P.underlying t = some d) (hd : aggD d = true) (hn : fsz P t = some n) (w : World) (cs : Array Value) (off : Nat) (v : Array Value) (hv : cs.extract off (off + n) = v) : (part t cs off).run P w = .ok (.agg v) w := by
  subst hv
  unfold part isAgg
  simp only [Sem.run_bind, run_underlying hu, Result.andThen_ok]
  have := run_fsz hn w
  cases d <;> simp [aggD] at hd <;> simp [this]
theorem eqF_nil {d : Nat} {xs ys : Array Value} (w : World) : (Op.eqFields d xs ys []).run P w = .ok true w := by simp [Op.eqFields]
theorem eqF_cons {d : Nat} {xs ys : Array Value} {f : Field} {fs : List Field} {a b : Value} {r s : Bool} {w : World} (hn : f.name ≠ "_") (ha : (part f.type xs f.offset).run P w = .ok a w) (hb : (part f.type ys f.offset).run P w = .ok b w)
    (he : (Op.equalIn d f.type a b).run P w = .ok r w) (hr : (Op.eqFields d xs ys fs).run P w = .ok s w) : (Op.eqFields d xs ys (f :: fs)).run P w = .ok (r && s) w := by
  rw [Op.eqFields]
  simp only [if_pos hn, Sem.run_bind, ha, hb, he, Result.andThen_ok]
  cases r
  · simp
  · simpa using hr
theorem eqA_struct {t : TypeId} {fs : Array Field} {d : Nat} {xs ys : Array Value} {w : World} {r : Bool} (hu : P.underlying t = some (.struct fs)) (hp : P.stoodInHeld t = false) (h : (Op.eqFields d xs ys fs.toList).run P w = .ok r w) : (Op.equalIn (d + 1) t (.agg xs) (.agg ys)).run P w = .ok r w := by
  have hf : P.fieldsOf t = fs := by simp [Program.fieldsOf, hu]
  rw [run_equalIn_struct (P := P) w d t xs ys (by rw [hf]; exact hu) hp, hf]
  exact h
end eqs

/-! ### reading what lies outside, over another world -/
theorem okRd_keep {G : Nat → Prop} {W w : World} {A : Option Addr} {off n : Nat} (h : okRd G W A off n) (hk : Keep G W w) : okRd G w A off n := by
  obtain ⟨ad, rfl, hg, hc⟩ := h
  refine ⟨ad, rfl, hg, fun j hj => ?_⟩
  rw [hk.cell (by rw [add_block]; exact hg)]
  exact hc j hj
theorem okRd_rd {G : Nat → Prop} {W w : World} {A : Option Addr} {off n : Nat} (h : okRd G W A off n) (hk : Keep G W w) (j : Nat) (hj : j < n) : rd w A (off + j) = rd W A (off + j) := by
  obtain ⟨ad, rfl, hg, hc⟩ := h
  simp only [rd]
  rw [hk.cell (by rw [add_block]; exact hg)]
theorem okRd_mono {G G' : Nat → Prop} {W : World} {A : Option Addr} {off n : Nat} (h : okRd G W A off n) (hg : ∀ b, G b → G' b) : okRd G' W A off n := by
  obtain ⟨ad, rfl, h1, hc⟩ := h
  exact ⟨ad, rfl, hg _ h1, hc⟩
theorem okRd_some {G : Nat → Prop} {W : World} {A : Option Addr} {n m off : Nat} (h : okRd G W (pAdd A n) off m) : A.isSome = true := by
  obtain ⟨ad, h, _⟩ := h
  cases A <;> first | rfl | cases h

/-! ### appending -/
section append
variable {P : Program}

/-- What can be read at a slice of m elements of the size: the values xs. -/
def Reads (w : World) (A : Option Addr) (xs : List Value) : Prop := xs = [] ∨ ∃ ad, A = some ad ∧ ∀ j u, xs[j]? = some u → w.cell? (ad.add j) = some u

/-- What an append leaves: a row, the one that was there, or a new one. -/
structure Row (w w' : World) (g : Nat) (nl : Bool) (e : TypeId) (size k : Nat) (xs : List Value) (nl' : Bool) (g' cap' : Nat) (cur' : List Value) : Prop where
  row : nl' = false → w'.heap[g']? = some (.cells cur'.toArray e (0, 0)) ∧ ((g' = g ∧ nl = false) ∨ (w.heap.size ≤ g' ∧ g' < w'.heap.size))
  capk : k ≤ cap'
  capm : cap' ≤ maxLen
  len : cur'.length = cap' * size
  take : cur'.take (k * size) = xs
  nil : nl' = true → cap' = 0
  os : w'.os = w.os
  tape : w'.tape = w.tape
  output : w'.output = w.output
  size : w.heap.size ≤ w'.heap.size
  block : ∀ b, b < w.heap.size → (nl = false → b ≠ g) → w'.heap[b]? = w.heap[b]?

theorem run_append_row {w : World} (t ty e : TypeId) (i : TypeInfo) (z : Value) (ht : P.underlying t = some (.slice e)) (hi : P.info? e = some i) (hz : i.zero = some z) (hzs : z.cells.size = i.size)
    (nl : Bool) (g n cap : Nat) (cur : List Value) (hg : nl = false → w.heap[g]? = some (.cells cur.toArray e (0, 0))) (hlen : cur.length = cap * i.size) (hn : n ≤ cap) (hcm : cap ≤ maxLen) (hnil : nl = true → cap = 0)
    (A : Option Addr) (m c : Nat) (news : List Value) (hl : news.length = m * i.size) (hA : A = none → m = 0) (hr : Reads w A news) (h1 : ∀ u ∈ news, u.oneCell' = true) (hsz : 0 < i.size)
    (h63 : n + m ≤ maxLen) (hbytes : (n + m) * i.bytes ≤ 140737488355328) :
    ∃ nl' g' cap' cur' w', (Builtin.append_ #[t, t] ty #[.slice (sA nl g 0) n cap, .slice A m c]).run P w = .ok (.slice (sA nl' g' 0) (n + m) cap') w' ∧
      Row w w' g nl e i.size (n + m) (cur.take (n * i.size) ++ news) nl' g' cap' cur' ∧ (nl' = true ↔ nl = true ∧ m = 0) := by
  have hsmall : n + m ≤ 9223372036854775807 := by simp only [maxLen] at h63; omega
  have hn0 : nl = true → n = 0 := fun h => by have := hnil h; omega
  have hcur0 : nl = true → cur = [] := fun h => List.eq_nil_of_length_eq_zero (by rw [hlen, hnil h]; simp)
  have htl : (cur.take (n * i.size)).length = n * i.size := by
    rw [List.length_take, hlen]
    exact Nat.min_eq_left (Nat.mul_le_mul_right _ hn)
  by_cases hm : m = 0
  · -- nothing is appended
    subst hm
    have hnews : news = [] := List.eq_nil_of_length_eq_zero (by simpa using hl)
    subst hnews
    have hfc : (Builtin.firstCells i.size 0 (.slice A 0 c)).run P w = .ok #[] w := by
      cases A with
      | none => exact run_firstCells_none w i.size 0 0 c
      | some ad => exact run_firstCells_some w i.size 0 ad 0 c [] (by simp) (by simp)
    refine ⟨nl, g, cap, cur, w, ?_, ⟨fun h => ⟨hg h, .inl ⟨rfl, h⟩⟩, hn, hcm, hlen, by simp, hnil, rfl, rfl, rfl, Nat.le_refl _, fun _ _ _ => rfl⟩, by simp⟩
    cases nl <;> simp [Builtin.append_, run_underlying ht, sizeOf, typeInfo, hi, Builtin.lenOf, hn, hfc, sA, storeCells]
  obtain ⟨ad, rfl⟩ : ∃ ad, A = some ad := by
    cases A with
    | none => exact absurd (hA rfl) hm
    | some ad => exact ⟨ad, rfl⟩
  have hrd : ∀ j u, news[j]? = some u → w.cell? (ad.add j) = some u := by
    rcases hr with rfl | ⟨ad', h, hr⟩
    · simp
    · injection h with h; subst h; exact hr
  -- what a new row holds
  have grown : ∀ (old : Nat), old < n + m →
      Row w (w.drew.alloc (.cells ((cur.take (n * i.size)).toArray ++ news.toArray ++ Builtin.zeroCells z.cells (grownCap w (n + m) old e - (n + m))) e)) g nl e i.size (n + m) (cur.take (n * i.size) ++ news)
        false w.heap.size (grownCap w (n + m) old e) ((cur.take (n * i.size) ++ news) ++ (Builtin.zeroCells z.cells (grownCap w (n + m) old e - (n + m))).toList) := by
    intro old ho
    have hge := grownCap_ge w (n + m) old e
    have hcm' : grownCap w (n + m) old e ≤ maxLen := grownCap_le_maxLen w (n + m) old e h63
    refine ⟨fun _ => ⟨?_, .inr ⟨Nat.le_refl _, by simp⟩⟩, hge, hcm', ?_, ?_, by simp, rfl, rfl, rfl, by simp, fun b hb _ => Go.RowKit.Below.heap_alloc w.drew _ b hb⟩
    · have := heap_alloc_new w.drew (.cells ((cur.take (n * i.size)).toArray ++ news.toArray ++ Builtin.zeroCells z.cells (grownCap w (n + m) old e - (n + m))) e)
      refine this.trans ?_
      congr 2
      apply Array.ext'
      simp
    · simp only [List.length_append, htl, hl, Array.length_toList, size_zeroCells, hzs, ← Nat.add_mul]
      congr 1
      omega
    · have : ((n + m) * i.size) = (cur.take (n * i.size) ++ news).length := by rw [List.length_append, htl, hl, Nat.add_mul]
      rw [this]
      exact List.take_left
  cases hnl : nl with
  | true =>
    subst hnl
    have := hn0 rfl
    subst this
    have hcap := hnil rfl
    subst hcap
    have hr := run_append_nil (P := P) w t ty e i z ht hi hz ad m c news hl hrd (by omega) (by omega) (by simp only [Nat.zero_add] at hbytes; omega)
    have hgr := grown 0 (by omega)
    refine ⟨false, w.heap.size, _, _, _, ?_, hgr, by simp [hm]⟩
    simp only [Nat.zero_add, sA, if_true, Bool.false_eq_true, if_false, Nat.zero_mul, List.take_zero] at hr ⊢
    simpa using hr
  | false =>
    subst hnl
    have hrow := hg rfl
    by_cases hroom : n + m ≤ cap
    · have hfit : n * i.size + news.length ≤ cur.toArray.size := by simp only [List.size_toArray]; rw [hl, hlen, ← Nat.add_mul]; exact Nat.mul_le_mul_right _ hroom
      have hr := run_append_room (P := P) w t ty e i ht hi g n cap cur.toArray hrow ad m c news hl hrd h1 hroom hfit
      refine ⟨false, g, cap, _, _, hr, ⟨fun _ => ⟨setRow_heap w g cur.toArray _ e _ hrow, .inl ⟨rfl, rfl⟩⟩, hroom, hcm, ?_, ?_, by simp, rfl, rfl, rfl, by simp [World.setRow], fun b _ hb => setRow_other w g b _ (hb rfl)⟩, by simp [hm]⟩
      · simp only [List.length_append, List.length_take, List.length_drop]
        simp only [List.size_toArray] at hfit
        omega
      · have : ((n + m) * i.size) = (cur.take (n * i.size) ++ news).length := by rw [List.length_append, htl, hl, Nat.add_mul]
        rw [this]
        exact List.take_left
    · have holds : ∀ j u, (cur.take (n * i.size))[j]? = some u → w.cell? ((⟨g, 0, none⟩ : Addr).add j) = some u := by
        intro j u hu
        rw [addr_add, cell_of_row hrow, Nat.zero_add]
        rw [List.getElem?_take] at hu
        split at hu
        · exact hu
        · cases hu
      have hr := run_append_grow (P := P) w t ty e i z ht hi hz ⟨g, 0, none⟩ n cap (cur.take (n * i.size)) htl holds ad m c news hl hrd (by omega) (by omega) (growslice_fits (by omega) hbytes)
      exact ⟨false, w.heap.size, _, _, _, hr, grown cap (by omega), by simp [hm]⟩
end append

/-! ### leaves of the new kinds -/
section leaves2
variable {P : Program} {Q : Pst} {G : Nat → Prop} {W : World}

/-- The numbers of the blocks, fixed. -/
theorem Res.fixX {σ : St} {k : List It} (h : ∀ new, σ.X.length + new.length = σ.L.length → Res P Q G W { σ with X := σ.X ++ new } k) : Res P Q G W σ k := by
  intro new a w hs
  refine h new hs.hs.len [] a w ?_
  obtain ⟨own, ho⟩ := hs.hs
  refine ⟨hs.tsz, ?_, hs.tlt, ?_, hs.dlt, own, ?_⟩
  · simpa using hs.tmp
  · simpa using hs.dfr
  · refine ⟨by have := ho.len; simp; omega, ?_, ho.entlt, ho.apart, ho.out, ho.inW, ho.keep⟩
    simpa using ho.ok

/-- A region that draws its order, by a plan. z: the number of the operation that comes last (or of none). LS: what is held behind each operation. -/
theorem Res.draw {σ : St} {k : List It} {id : Nat} {l : List Oper} (z : Nat) (LS : List Ent) (plan : Plan) (hm : P.follows .mixedOrders = true) (hok : plan.okAll l z = true)
    (h : ∀ new, σ.X.length + new.length = σ.L.length → Res P Q G W { σ with X := σ.X ++ new } (.any true l z G W (σ.X ++ new) LS (List.replicate l.length false) plan :: k)) (hro : Q.ro = none := by rfl) :
    Res P Q G W σ (.code (.region id l.toArray true) :: k) := by
  refine Res.fixX fun new hn => ?_
  intro new' a w hs
  show (Code.region id l.toArray true).wpIn (wf Q.ro) 0 P (Wt P Q k) a w
  rw [hro]
  refine (wpIn_wide (n := 0)).2 ?_
  refine wp_region_any hm ?_
  simp only [Plan.okAll, Bool.and_eq_true] at hok
  obtain ⟨hok, hns, hz⟩ := hok
  have hs' : Sat G W { σ with X := σ.X ++ new } new' a { w with drawn := w.drawn + 1 } := hs.world hs.hs.drew
  obtain ⟨h1, h2⟩ := h new hn new' a _ hs' hns hok
  have hany := h2 (h1 rfl)
  have hrep : (List.replicate l.length false).toArray = Array.replicate l.toArray.size false := by simp
  rw [hrep] at hany
  by_cases hzl : z < l.length
  · rw [if_pos hzl] at hz
    simp only [Bool.and_eq_true, beq_iff_eq] at hz
    obtain ⟨oz, hoz⟩ : ∃ o, l[z]? = some o := ⟨_, List.getElem?_eq_getElem hzl⟩
    have hfin : finK P l z (Wt P Q k .normal) = fun a w => wantK P l.toArray oz a w (Wt P Q k .normal) := by
      funext a w
      unfold finK
      rw [hoz]
    rw [hfin] at hany
    have hsz : l.toArray.size = plan.size + 1 := by rw [hz.1]; simp
    rw [hsz]
    rw [hsz] at hany
    refine wpAny_of_anyZ_last (by simpa using hoz) hz.2 plan.size _ a _ ?_ ?_ hany
    · intro j o _ hj
      simp only [Array.getD_eq_getD_getElem?, Array.getElem?_replicate] at hj
      split at hj <;> cases hj
    · simp only [Array.getD_eq_getD_getElem?, Array.getElem?_replicate]
      rw [if_pos (by have : l.toArray.size = l.length := by simp
                     omega)]
      rfl
  · rw [if_neg hzl] at hz
    simp only [Bool.and_eq_true, beq_iff_eq] at hz
    have hfin : finK P l z (Wt P Q k .normal) = Wt P Q k .normal := by
      funext a w
      unfold finK
      rw [hz.1]
      simp
    rw [hfin] at hany
    have hzs : z = l.toArray.size := by rw [hz.1]; simp
    rw [hzs] at hany
    have hsz : plan.size = l.toArray.size := by rw [hz.2]; simp
    rw [hsz] at hany
    exact wpAny_of_anyZ _ _ a _ hany

/-- An operation that no rule of the reckoning carries out. -/
theorem Res.op {σ : St} {k : List It} {all rest : List Oper} {o : Oper} (h : OpAt P Q G W σ o (.ops all rest :: k)) (hg : o.guard = none := by rfl) (hd : ∀ c, o.op ≠ .defer c := by simp) : Res P Q G W σ (.ops all (o :: rest) :: k) := by
  intro new a w hs
  show wpListIn (wf Q.ro) 0 P all.toArray (Wt P Q k) (o :: rest) a w
  unfold wpListIn
  rw [if_pos (by simp [Region.wanted, hg])]
  exact (h new a w hs).wpIn hd

/-- A call whose result is determined, as a value of ours (a place in a known block, say). -/
theorem CallAt.detS {σ : St} {f : FuncId} {args : List SV} {dst : Option Tmp} {k : List It} (s : SV) (hl : s.lt σ.L.length)
    (hc : ∀ new w, HS G W σ new w → Calls P f (args.map (SV.den (σ.X ++ new))).toArray w fun e w' => e = .returned (s.den (σ.X ++ new)) ∧ Ext w w')
    (hk : Res P Q G W (σ.put dst s) k) : CallAt P Q G W σ f args dst k := by
  intro new a w hs
  refine (hc new w hs.hs).mono ?_
  rintro e w' ⟨rfl, hE⟩
  exact hk new _ w' ((hs.put dst s hl).world ((hs.put dst s hl).hs.ext' hE))

/-- What a call does to the blocks O, that become O'. -/
structure Chg (w w' : World) (O O' : Nat → Prop) : Prop where
  os : w'.os = w.os
  tape : w'.tape = w.tape
  output : w'.output = w.output
  size : w.heap.size ≤ w'.heap.size
  block : ∀ b, b < w.heap.size → ¬ O b → w'.heap[b]? = w.heap[b]?
  own : ∀ b, O' b → b < w'.heap.size ∧ (w.heap.size ≤ b ∨ O b)

/-- A call that changes a thing of ours. -/
theorem CallAt.asn {σ : St} {f : FuncId} {args : List SV} {dst : Option Tmp} {k : List It} (i : Nat) (A : Asn) (hi : getE σ.L i = some (.asn A)) (Post : Value → Asn → Prop)
    (hc : ∀ new w O, HS G W σ new w → A.R O ((σ.X ++ new).getD i 0) w → (∀ b, O b → ¬ G b ∧ b < w.heap.size) → Calls P f (args.map (SV.den (σ.X ++ new))).toArray w fun e w' =>
      ∃ v A' O', e = .returned v ∧ Post v A' ∧ A'.R O' ((σ.X ++ new).getD i 0) w' ∧ Chg w w' O O')
    (hk : ∀ v A', Post v A' → Res P Q G W ((σ.ent i (.asn A')).put dst (.v v)) k) : CallAt P Q G W σ f args dst k := by
  intro new a w hs
  rw [getE_eq] at hi
  obtain ⟨own, ho⟩ := hs.hs
  have hil := (List.getElem?_eq_some_iff.1 hi).1
  refine (hc new w (own i) hs.hs (ho.ok i _ hi) (fun b hb => ho.out i b hil hb)).mono ?_
  rintro e w' ⟨v, A', O', rfl, hp, hR, hch⟩
  have hs2 := ho.upd (e := .asn A') (O := O') hil trivial hch.os hch.tape hch.output hch.size hch.block hch.own hR
  have hLl : (σ.ent i (.asn A')).L.length = σ.L.length := by simp [St.ent, setE_eq]
  have : Sat G W (σ.ent i (.asn A')) new a w' := ⟨hs.tsz, hs.tmp, fun t sv ht => by rw [hLl]; exact hs.tlt t sv ht, hs.dfr, fun d hd => by rw [hLl]; exact hs.dlt d hd, _, hs2⟩
  exact hk v A' hp new _ w' (this.put dst (.v v) trivial)

/-- A call that makes a thing of ours, and hands back where it lies. -/
theorem CallAt.mk {σ : St} {f : FuncId} {args : List SV} {dst : Option Tmp} {k : List It} (Post : Asn → Prop)
    (hc : ∀ new w, HS G W σ new w → Calls P f (args.map (SV.den (σ.X ++ new))).toArray w fun e w' => ∃ b A' O', e = .returned (.pointer (some ⟨b, 0, none⟩)) ∧ Post A' ∧ A'.R O' b w' ∧ Ext w w' ∧ ∀ b', O' b' → w.heap.size ≤ b' ∧ b' < w'.heap.size)
    (hk : ∀ A', Post A' → Res P Q G W ((σ.new (.asn A')).put dst (.p σ.L.length 0)) k) : CallAt P Q G W σ f args dst k := by
  intro new a w hs
  refine (hc new w hs.hs).mono ?_
  rintro e w' ⟨b, A', O', rfl, hp, hR, hE, hO⟩
  obtain ⟨own, ho⟩ := hs.hs
  have hs2 := ho.add (e := .asn A') (p := b) (O := O') trivial hE.os hE.tape hE.output hE.size hE.block hO hR
  have := (hs.new ⟨_, hs2⟩).put dst (.p σ.L.length 0) (by simp [SV.lt, St.new])
  simp only [SV.den, getD_new hs.hs] at this
  exact hk A' hp _ _ w' this

/-- A call that makes something, and hands back a value. -/
theorem CallAt.mkA {σ : St} {f : FuncId} {args : List SV} {dst : Option Tmp} {k : List It} (Post : Value → Asn → Prop)
    (hc : ∀ new w, HS G W σ new w → Calls P f (args.map (SV.den (σ.X ++ new))).toArray w fun e w' => ∃ v A' O', e = .returned v ∧ Post v A' ∧ A'.R O' 0 w' ∧ Ext w w' ∧ ∀ b', O' b' → w.heap.size ≤ b' ∧ b' < w'.heap.size)
    (hk : ∀ v A', Post v A' → Res P Q G W ((σ.new (.asn A')).put dst (.v v)) k) : CallAt P Q G W σ f args dst k := by
  intro new a w hs
  refine (hc new w hs.hs).mono ?_
  rintro e w' ⟨v, A', O', rfl, hp, hR, hE, hO⟩
  obtain ⟨own, ho⟩ := hs.hs
  have hs2 := ho.add (e := .asn A') (p := 0) (O := O') trivial hE.os hE.tape hE.output hE.size hE.block hO hR
  have := (hs.new ⟨_, hs2⟩).put dst (.v v) trivial
  exact hk v A' hp _ _ w' this

/-- A row whose place is named. -/
def RowA (b : Nat) (nl : Bool) (ty : TypeId) (cur : List Value) : Asn where
  R O _ w := nl = false → O b ∧ w.heap[b]? = some (.cells cur.toArray ty (0, 0))
  loc h hw := fun hn => ⟨(h hn).1, by rw [hw _ (h hn).1]; exact (h hn).2⟩

/-- A call that makes a row, and hands back a slice of it. -/
theorem CallAt.row {σ : St} {f : FuncId} {args : List SV} {dst : Option Tmp} {k : List It} (ty : TypeId) (Post : Bool → Nat → Nat → List Value → Prop)
    (hc : ∀ new w, HS G W σ new w → Calls P f (args.map (SV.den (σ.X ++ new))).toArray w fun e w' => ∃ nl b n cap cur, e = .returned (.slice (sA nl b 0) n cap) ∧ Post nl n cap cur ∧ Ext w w' ∧
      (nl = false → w.heap.size ≤ b ∧ b < w'.heap.size ∧ w'.heap[b]? = some (.cells cur.toArray ty (0, 0))))
    (hk : ∀ nl n cap cur, Post nl n cap cur → Res P Q G W ((σ.new (.row nl ty cur)).put dst (.s σ.L.length nl 0 n cap)) k) : CallAt P Q G W σ f args dst k := by
  intro new a w hs
  refine (hc new w hs.hs).mono ?_
  rintro e w' ⟨nl, b, n, cap, cur, rfl, hp, hE, hb⟩
  obtain ⟨own, ho⟩ := hs.hs
  have hs2 := ho.add (e := .row nl ty cur) (p := b) (O := fun x => nl = false ∧ x = b) trivial hE.os hE.tape hE.output hE.size hE.block
    (by rintro x ⟨hn, rfl⟩; exact ⟨(hb hn).1, (hb hn).2.1⟩) (fun hn => ⟨⟨hn, rfl⟩, (hb hn).2.2⟩)
  have := (hs.new ⟨_, hs2⟩).put dst (.s σ.L.length nl 0 n cap) (by simp [SV.lt, St.new])
  simp only [SV.den, getD_new hs.hs] at this
  exact hk nl n cap cur hp _ _ w' this

end leaves2

section append2
variable {P : Program} {Q : Pst} {G : Nat → Prop} {W : World}

/-- What an append must know of a slice type: the elements' type, their size, their bytes. -/
def appI (P : Program) (t : TypeId) : Option (TypeId × Nat × Nat) :=
  match P.underlying t with
  | some (.slice e) => match P.info? e with
    | some i => match i.zero with
      | some z => if z.cells.size = i.size ∧ 0 < i.size then some (e, i.size, i.bytes) else none
      | none => none
    | none => none
  | _ => none

theorem appI_spec {t e : TypeId} {size bytes : Nat} (h : appI P t = some (e, size, bytes)) : ∃ i z, P.underlying t = some (.slice e) ∧ P.info? e = some i ∧ i.zero = some z ∧ z.cells.size = i.size ∧ 0 < i.size ∧ i.size = size ∧ i.bytes = bytes := by
  unfold appI at h
  split at h
  · rename_i e' hu
    split at h
    · rename_i i hi
      split at h
      · rename_i z hz
        split at h
        · rename_i hc
          injection h with h; injection h with h1 h2; injection h2 with h2 h3
          subst h1
          exact ⟨i, z, hu, hi, hz, hc.1, hc.2, h2, h3⟩
        · cases h
      · cases h
    · cases h
  · cases h

/-- An entry as a row. -/
def rowOf : Option Ent → Option (Bool × TypeId × List Value)
  | some (.row nl e cur) => some (nl, e, cur)
  | some (.cells e cs) => match svVals cs with
    | some us => some (false, e, us)
    | none => none
  | _ => none

theorem HSo.rowOf {σ : St} {new : List Nat} {w : World} {own : Nat → Nat → Prop} (h : HSo G W σ new w own) {i : Nat} {nl : Bool} {e : TypeId} {cur : List Value} (hi : rowOf (getE σ.L i) = some (nl, e, cur)) (hn : nl = false) :
    i < σ.L.length ∧ own i ((σ.X ++ new).getD i 0) ∧ w.heap[(σ.X ++ new).getD i 0]? = some (.cells cur.toArray e (0, 0)) := by
  rw [getE_eq] at hi
  cases hL : σ.L[i]? with
  | none => rw [hL] at hi; cases hi
  | some en =>
    rw [hL] at hi
    have hil := (List.getElem?_eq_some_iff.1 hL).1
    cases en with
    | row nl' e' cur' =>
      simp only [Eng.rowOf] at hi
      injection hi with hi; injection hi with h1 h2; injection h2 with h2 h3
      subst h1 h2 h3
      exact ⟨hil, h.ok i _ hL hn⟩
    | cells e' cs =>
      simp only [Eng.rowOf] at hi
      split at hi
      · rename_i us hus
        injection hi with hi; injection hi with h1 h2; injection h2 with h2 h3
        subst h1 h2 h3
        have := h.ok i _ hL
        simp only [Ent.ok] at this
        rw [svVals_den hus] at this
        exact ⟨hil, this⟩
      · cases hi
    | _ => cases hi

/-- What is appended can be read. -/
def SrcOK (G : Nat → Prop) (W : World) (σ : St) (y : Operand) (m : Nat) (news : List Value) : Prop :=
  ∀ new a w, Sat G W σ new a w → ∃ A c, a.eval y = .slice A m c ∧ (A = none → m = 0) ∧ Reads w A news

theorem SrcOK.s {σ : St} {y : Operand} {j : Nat} {nl : Bool} {off m c : Nat} {e : TypeId} {cur news : List Value} (hy : ev σ y = some (.s j nl off m c)) (hj : rowOf (getE σ.L j) = some (nl, e, cur)) (hnl : nl = true → m = 0 ∧ news = [])
    (hn : ∀ i u, news[i]? = some u → cur[off + i]? = some u) : SrcOK G W σ y m news := by
  intro new a w hs
  obtain ⟨he, _⟩ := ev_sound hs hy
  obtain ⟨own, ho⟩ := hs.hs
  refine ⟨_, c, he, ?_, ?_⟩
  · intro h
    cases nl with
    | true => exact (hnl rfl).1
    | false => cases h
  · cases nl with
    | true => exact .inl (hnl rfl).2
    | false =>
      obtain ⟨_, _, hrow⟩ := ho.rowOf hj rfl
      refine .inr ⟨_, rfl, fun i u hu => ?_⟩
      rw [addr_add, cell_of_row hrow]
      exact hn i u hu

theorem SrcOK.v {σ : St} {y : Operand} {A : Option Addr} {m c : Nat} {news : List Value} (hy : ev σ y = some (.v (.slice A m c))) (hA : A = none → m = 0) (hn : news = [] ∨ (okRd G W A 0 news.length ∧ ∀ i u, news[i]? = some u → rd W A i = u)) : SrcOK G W σ y m news := by
  intro new a w hs
  obtain ⟨he, _⟩ := ev_sound hs hy
  refine ⟨A, c, he, hA, ?_⟩
  rcases hn with h | ⟨⟨ad, rfl, hg, hc⟩, hr⟩
  · exact .inl h
  · refine .inr ⟨ad, rfl, fun i u hu => ?_⟩
    have hi : i < news.length := (List.getElem?_eq_some_iff.1 hu).1
    have h1 := hc i hi
    simp only [Nat.zero_add] at h1
    rw [hs.hs.keep.cell (p := ad.add i) (by rw [add_block]; exact hg)]
    have h2 := hr i u hu
    simp only [rd] at h2
    cases hcc : W.cell? (ad.add i) with
    | none => simp [hcc] at h1
    | some v => rw [hcc] at h2; simp at h2; rw [h2]

theorem Sat.move {σ : St} {new : List Nat} {a : Act} {w w' : World} {own : Nat → Nat → Prop} (hs : Sat G W σ new a w) (ho : HSo G W σ new w own) (C : Nat → Prop) {i : Nat} {nl nl' : Bool} {g' : Nat} {e : TypeId} {cur' : List Value} {size k cap' : Nat} {xs : List Value} {g : Nat}
    (hC : ∀ j, C j ↔ j = i ∧ i < σ.L.length) (hg : nl = false → i < σ.L.length ∧ own i g)
    (hrow : Row w w' g nl e size k xs nl' g' cap' cur') (d : Option Tmp) (n : Nat) :
    Sat G W (((σ.ent i .dead).new (.row nl' e cur')).put d (.s σ.L.length nl' 0 n cap')) (new ++ [g']) (a.put d (.slice (sA nl' g' 0) n cap')) w' := by
  have hlen : (σ.X ++ new).length = σ.L.length := by simpa using hs.hs.len
  have hb : ∀ b, b < w.heap.size → (∀ j, C j → j < σ.L.length → ¬ own j b) → w'.heap[b]? = w.heap[b]? := by
    intro b hb h
    refine hrow.block b hb fun hn heq => ?_
    obtain ⟨h1, h2⟩ := hg hn
    exact h i ((hC i).2 ⟨rfl, h1⟩) h1 (heq ▸ h2)
  have hLl : (σ.L.set i .dead).length = σ.L.length := by simp
  have hch := ho.change (L' := σ.L.set i .dead ++ [.row nl' e cur']) (new' := [g']) (w' := w') (own' := fun j b => if j = σ.L.length then nl' = false ∧ b = g' else (j ≠ i ∧ own j b)) C (by simp) hrow.os hrow.tape hrow.output hrow.size hb ?_ ?_ ?_
  · have hst : (({ σ with L := σ.L.set i .dead ++ [.row nl' e cur'] } : St)) = (σ.ent i .dead).new (.row nl' e cur') := by simp [St.ent, St.new, setE_eq]
    rw [hst] at hch
    have hgd : ((σ.ent i .dead).X ++ (new ++ [g'])).getD σ.L.length 0 = g' := by
      show (σ.X ++ (new ++ [g'])).getD σ.L.length 0 = g'
      rw [← List.append_assoc, List.getD_eq_getElem?_getD, List.getElem?_append_right (by omega), hlen]
      simp
    have hL2 : ((σ.ent i .dead).new (.row nl' e cur')).L.length = σ.L.length + 1 := by simp [St.ent, St.new, setE_eq]
    have base : Sat G W ((σ.ent i .dead).new (.row nl' e cur')) (new ++ [g']) a w' := by
      refine ⟨hs.tsz, ?_, ?_, ?_, ?_, _, hch⟩
      · intro t sv ht
        have := hs.tmp t sv ht
        show a.tmps.getD t undef = sv.den (σ.X ++ (new ++ [g']))
        rw [this, ← List.append_assoc, SV.den_append (ids := σ.X ++ new) (m := [g'])]
        rw [hlen]; exact hs.tlt t sv ht
      · intro t sv ht
        rw [hL2]
        exact SV.lt_mono (by omega) (hs.tlt t sv ht)
      · show a.defers = σ.D.map (DSV.den (σ.X ++ (new ++ [g'])))
        rw [hs.dfr, ← List.append_assoc]
        apply List.map_congr_left
        intro d hd
        rw [DSV.den_append (ids := σ.X ++ new) (m := [g'])]
        rw [hlen]; exact hs.dlt d hd
      · intro d hd
        rw [hL2]
        exact DSV.lt_mono (by omega) (hs.dlt d hd)
    have := base.put d (.s σ.L.length nl' 0 n cap') (by simp [SV.lt, hL2])
    have he : (SV.s σ.L.length nl' 0 n cap').den (((σ.ent i .dead).new (.row nl' e cur')).X ++ (new ++ [g'])) = .slice (sA nl' g' 0) n cap' := by
      show Value.slice (sA nl' (((σ.ent i .dead).X ++ (new ++ [g'])).getD σ.L.length 0) 0) n cap' = _
      rw [hgd]
    rw [he] at this
    exact this
  · intro j e' hj hje
    have hjl := (List.getElem?_eq_some_iff.1 hje).1
    have hji : j ≠ i := fun h => hj ((hC j).2 ⟨h, h ▸ hjl⟩)
    refine ⟨by rw [List.getElem?_append_left (by simpa using hjl), List.getElem?_set_ne (Ne.symm hji)]; exact hje, ?_⟩
    funext b
    simp only [if_neg (show ¬ j = σ.L.length by omega)]
    exact propext ⟨fun h => h.2, fun h => ⟨hji, h⟩⟩
  · intro j e' hje hc
    have hjl := (List.getElem?_eq_some_iff.1 hje).1
    simp only [List.length_append, List.length_set, List.length_singleton] at hjl
    rcases Nat.lt_or_ge j σ.L.length with hlt | hge
    · have hji : j = i := by
        rcases hc with hc | hc
        · exact ((hC j).1 hc).1
        · omega
      subst hji
      rw [List.getElem?_append_left (by simpa using hlt), List.getElem?_set_self (by simpa using hlt)] at hje
      injection hje with hje; subst hje
      refine ⟨trivial, trivial, fun b hb => ?_⟩
      simp only [if_neg (show ¬ j = σ.L.length by omega)] at hb
      exact absurd rfl hb.1
    · have hj : j = σ.L.length := by omega
      subst hj
      rw [List.getElem?_append_right (by simp)] at hje
      simp at hje
      subst hje
      have hgd : (σ.X ++ (new ++ [g'])).getD σ.L.length 0 = g' := by
        rw [← List.append_assoc, List.getD_eq_getElem?_getD, List.getElem?_append_right (by omega), hlen]
        simp
      refine ⟨?_, trivial, fun b hb => ?_⟩
      · rw [hgd]
        intro hn
        exact ⟨by simp [hn], (hrow.row hn).1⟩
      · simp only [if_true] at hb
        obtain ⟨hn, rfl⟩ := hb
        obtain ⟨h1, h2⟩ := hrow.row hn
        refine ⟨(Array.getElem?_eq_some_iff.1 h1).1, ?_⟩
        rcases h2 with ⟨rfl, h3⟩ | ⟨h3, _⟩
        · obtain ⟨h4, h5⟩ := hg h3
          exact .inr ⟨i, (hC i).2 ⟨rfl, h4⟩, h4, h5⟩
        · exact .inl h3
  · intro j j' b hj hj' hcj hcj' hjj hbj hbj'
    have aux : ∀ j, (C j ∨ σ.L.length ≤ j) → j < (σ.L.set i Ent.dead ++ [Ent.row nl' e cur']).length → j = i ∧ j < σ.L.length ∨ j = σ.L.length := by
      intro j hc hl
      simp only [List.length_append, List.length_set, List.length_singleton] at hl
      rcases hc with hc | hc
      · have := (hC j).1 hc
        exact .inl ⟨this.1, this.1 ▸ this.2⟩
      · exact .inr (by omega)
    rcases aux j hcj hj with ⟨h1, h2⟩ | h1
    · simp only [if_neg (show ¬ j = σ.L.length by omega)] at hbj
      exact absurd h1 hbj.1
    · rcases aux j' hcj' hj' with ⟨h3, h4⟩ | h3
      · simp only [if_neg (show ¬ j' = σ.L.length by omega)] at hbj'
        exact absurd h3 hbj'.1
      · omega

/-- append(x, y...), x a row of ours. -/
theorem OpAt.append {σ : St} {o : Oper} {k : List It} {c : Call} {x y : Operand} {t e : TypeId} {size bytes : Nat} {i : Nat} {nl : Bool} {n cap m : Nat} {cur : List Value} (news : List Value) (ho : o.op = .call c) (hc : c.callee = .builtin .append) (hca : c.args = #[x, y]) (hct : c.argTypes = #[t, t])
    (hI : appI P t = some (e, size, bytes)) (hx : ev σ x = some (.s i nl 0 n cap)) (hi : rowOf (getE σ.L i) = some (nl, e, cur)) (hlen : cur.length = cap * size) (hn : n ≤ cap) (hcm : cap ≤ maxLen) (hnil : nl = true → cap = 0)
    (hsrc : SrcOK G W σ y m news) (hl : news.length = m * size) (h1 : ∀ u ∈ news, u.oneCell' = true) (hfit : n + m ≤ maxLen ∧ (n + m) * bytes ≤ 140737488355328)
    (h : ∀ nl' cap' cur', n + m ≤ cap' → cap' ≤ maxLen → cur'.length = cap' * size → cur'.take ((n + m) * size) = cur.take (n * size) ++ news → (nl' = true → cap' = 0) → (nl' = true ↔ nl = true ∧ m = 0) →
      Res P Q G W (((σ.ent i .dead).new (.row nl' e cur')).put o.dst (.s σ.L.length nl' 0 (n + m) cap')) k) : OpAt P Q G W σ o k := by
  intro new a w hs
  obtain ⟨ti, z, ht, hti, hz, hzs, hpos, rfl, rfl⟩ := appI_spec hI
  obtain ⟨hxe, _⟩ := ev_sound hs hx
  obtain ⟨A, cc, hye, hA, hr⟩ := hsrc new a w hs
  obtain ⟨own, hso⟩ := hs.hs
  have hg : nl = false → i < σ.L.length ∧ own i ((σ.X ++ new).getD i 0) := fun hn => ⟨(hso.rowOf hi hn).1, (hso.rowOf hi hn).2.1⟩
  obtain ⟨nl', g', cap', cur', w', hrun, hrow, hnl'⟩ := run_append_row (P := P) (w := w) t o.type e ti z ht hti hz hzs nl ((σ.X ++ new).getD i 0) n cap cur (fun hn => (hso.rowOf hi hn).2.2) hlen hn hcm hnil A m cc news hl hA hr h1 hpos hfit.1 hfit.2
  have hrun' : (execOp a.eval o).run P w = .ok (.value (.slice (sA nl' g' 0) (n + m) cap')) w' := by
    simp only [SV.den] at hxe
    simp [execOp, ho, resolve, hc, hca, hct, hxe, hye, invoke, builtin]
    simp at hrun
    rw [hrun]
    simp
  refine GoRun.opK (wp_value hrun' ?_)
  exact h nl' cap' cur' hrow.capk hrow.capm hrow.len hrow.take hrow.nil hnl' _ _ w' (hs.move hso (fun j => j = i ∧ i < σ.L.length) (fun j => Iff.rfl) hg hrow o.dst (n + m))

/-- append(nil, y...). -/
theorem OpAt.appendN {σ : St} {o : Oper} {k : List It} {c : Call} {x y : Operand} {t e : TypeId} {size bytes : Nat} {m : Nat} (news : List Value) (ho : o.op = .call c) (hc : c.callee = .builtin .append) (hca : c.args = #[x, y]) (hct : c.argTypes = #[t, t])
    (hI : appI P t = some (e, size, bytes)) (hx : ev σ x = some (.v (.slice none 0 0)))
    (hsrc : SrcOK G W σ y m news) (hl : news.length = m * size) (h1 : ∀ u ∈ news, u.oneCell' = true) (hfit : m ≤ maxLen ∧ m * bytes ≤ 140737488355328)
    (h : ∀ nl' cap' cur', m ≤ cap' → cap' ≤ maxLen → cur'.length = cap' * size → cur'.take (m * size) = news → (nl' = true → cap' = 0) → (nl' = true ↔ m = 0) →
      Res P Q G W ((σ.new (.row nl' e cur')).put o.dst (.s σ.L.length nl' 0 m cap')) k) : OpAt P Q G W σ o k := by
  intro new a w hs
  obtain ⟨ti, z, ht, hti, hz, hzs, hpos, rfl, rfl⟩ := appI_spec hI
  obtain ⟨hxe, _⟩ := ev_sound hs hx
  obtain ⟨A, cc, hye, hA, hr⟩ := hsrc new a w hs
  obtain ⟨own, hso⟩ := hs.hs
  obtain ⟨nl', g', cap', cur', w', hrun, hrow, hnl'⟩ := run_append_row (P := P) (w := w) t o.type e ti z ht hti hz hzs true 0 0 0 [] (fun h => by cases h) (by simp) (Nat.le_refl _) (by simp [maxLen]) (fun _ => rfl) A m cc news hl hA hr h1 hpos (by simpa using hfit.1) (by simpa using hfit.2)
  have hrun' : (execOp a.eval o).run P w = .ok (.value (.slice (sA nl' g' 0) m cap')) w' := by
    simp only [SV.den] at hxe
    simp [execOp, ho, resolve, hc, hca, hct, hxe, hye, invoke, builtin]
    simp [sA] at hrun
    rw [hrun]
    simp [sA]
  refine GoRun.opK (wp_value hrun' ?_)
  have hmv := hs.move (i := σ.L.length) hso (fun _ => False) (fun j => ⟨fun h => h.elim, fun h => absurd h.2 (Nat.lt_irrefl _)⟩) (fun h => by cases h) hrow o.dst m
  have hst : σ.ent σ.L.length .dead = σ := by
    have : σ.L.set σ.L.length .dead = σ.L := by apply List.set_eq_of_length_le; exact Nat.le_refl _
    simp only [St.ent, setE_eq, this]
  rw [hst] at hmv
  have hrt := hrow.take
  simp at hrt
  exact h nl' cap' cur' (by simpa using hrow.capk) hrow.capm hrow.len hrt hrow.nil (by simpa using hnl') _ _ w' hmv
end append2

/-! ### things opened and closed -/
section openclose
variable {P : Program} {Q : Pst} {G : Nat → Prop} {W : World}

def killE : List Nat → List Ent → List Ent
  | [], L => L
  | r :: C, L => killE C (setE L r .dead)

theorem killE_length : ∀ (C : List Nat) (L : List Ent), (killE C L).length = L.length
  | [], _ => rfl
  | r :: C, L => by rw [killE, killE_length C, setE_eq]; simp
theorem killE_get : ∀ (C : List Nat) (L : List Ent) (i : Nat), (killE C L)[i]? = if i ∈ C ∧ i < L.length then some .dead else L[i]?
  | [], L, i => by simp [killE]
  | r :: C, L, i => by
    rw [killE, killE_get C, setE_eq]
    simp only [List.length_set, List.mem_cons]
    by_cases hi : i < L.length
    · by_cases hc : i ∈ C
      · simp [hc, hi]
      · by_cases hr : i = r
        · subst hr; simp [hc, hi]
        · simp only [hc, hr, false_and, if_false, false_or]
          rw [List.getElem?_set_ne (fun h => hr h.symm)]
    · have : L[i]? = none := List.getElem?_eq_none (by omega)
      simp [hi]

def St.merge (σ : St) (i0 : Nat) (C : List Nat) (A : Asn) : St := { σ with L := setE (killE C σ.L) i0 (.asn A) }

/-- Several entries become one thing. -/
theorem Sat.merge {σ : St} {new : List Nat} {a : Act} {w : World} (i0 : Nat) (C : List Nat) (A : Asn) (hi0 : i0 < σ.L.length ∧ i0 ∈ C) (hA : ∀ new w own, HSo G W σ new w own → A.R (fun b => ∃ r, r ∈ C ∧ r < σ.L.length ∧ own r b) ((σ.X ++ new).getD i0 0) w) (hs : Sat G W σ new a w) : Sat G W (σ.merge i0 C A) new a w := by
  obtain ⟨own, ho⟩ := hs.hs
  have hLl : (setE (killE C σ.L) i0 (.asn A)).length = σ.L.length := by rw [setE_eq]; simp [killE_length]
  have hget : ∀ i, (setE (killE C σ.L) i0 (.asn A))[i]? = if i = i0 then some (.asn A) else if i ∈ C ∧ i < σ.L.length then some .dead else σ.L[i]? := by
    intro i
    rw [setE_eq, List.getElem?_set]
    by_cases hi : i0 = i
    · subst hi; simp [killE_length, hi0.1]
    · rw [if_neg hi, if_neg (fun h => hi h.symm), killE_get]
  have hch := ho.change (w' := w) (L' := setE (killE C σ.L) i0 (.asn A)) (new' := []) (own' := fun i b => if i = i0 then (∃ r, r ∈ C ∧ r < σ.L.length ∧ own r b) else (i ∉ C ∧ own i b)) (fun i => i ∈ C) (by simp [hLl]) rfl rfl rfl (Nat.le_refl _) (fun _ _ _ => rfl) ?_ ?_ ?_
  · rw [List.append_nil] at hch
    refine ⟨hs.tsz, ?_, fun t s ht => ?_, ?_, fun d hd => ?_, _, hch⟩
    · exact hs.tmp
    · show s.lt (setE (killE C σ.L) i0 (.asn A)).length; rw [hLl]; exact hs.tlt t s ht
    · exact hs.dfr
    · show d.lt (setE (killE C σ.L) i0 (.asn A)).length; rw [hLl]; exact hs.dlt d hd
  · intro i e hi he
    have hne : i ≠ i0 := fun h => hi (h ▸ hi0.2)
    refine ⟨by rw [hget, if_neg hne, if_neg (fun h => hi h.1)]; exact he, ?_⟩
    funext b
    simp [hne, hi]
  · intro i e he hc
    rw [hget] at he
    have hil : i < σ.L.length := by
      by_cases hne : i = i0
      · rw [hne]; exact hi0.1
      · rw [if_neg hne] at he
        split at he
        · rename_i hh; exact hh.2
        · exact (List.getElem?_eq_some_iff.1 he).1
    have hiC : i ∈ C := by
      rcases hc with hc | hc
      · exact hc
      · omega
    by_cases hne : i = i0
    · subst hne
      rw [if_pos rfl] at he
      injection he with he; subst he
      refine ⟨?_, trivial, fun b hb => ?_⟩
      · show A.R _ _ w
        simp only [if_true, List.append_nil]
        exact hA new w own ho
      · simp only [if_true] at hb
        obtain ⟨r, hr1, hr2, hr3⟩ := hb
        exact ⟨(ho.out r b hr2 hr3).2, .inr ⟨r, hr1, hr2, hr3⟩⟩
    · rw [if_neg hne, if_pos ⟨hiC, hil⟩] at he
      injection he with he; subst he
      refine ⟨trivial, trivial, fun b hb => ?_⟩
      simp only [if_neg hne] at hb
      exact absurd hiC hb.1
  · intro i j b hi hj hci hcj hij hbi hbj
    have hmem : ∀ i, i < (setE (killE C σ.L) i0 (.asn A)).length → (i ∈ C ∨ σ.L.length ≤ i) → i ∈ C := by
      intro i hi hc
      rcases hc with hc | hc
      · exact hc
      · rw [hLl] at hi; omega
    have h1 := hmem i hi hci
    have h2 := hmem j hj hcj
    by_cases hi' : i = i0
    · have hj' : j ≠ i0 := fun h => hij (hi'.trans h.symm)
      simp only [if_neg hj'] at hbj
      exact absurd h2 hbj.1
    · simp only [if_neg hi'] at hbi
      exact absurd h1 hbi.1

theorem Res.merge {σ : St} {k : List It} (i0 : Nat) (C : List Nat) (A : Asn) (hi0 : i0 < σ.L.length ∧ i0 ∈ C) (hA : ∀ new w own, HSo G W σ new w own → A.R (fun b => ∃ r, r ∈ C ∧ r < σ.L.length ∧ own r b) ((σ.X ++ new).getD i0 0) w)
    (h : Res P Q G W (σ.merge i0 C A) k) : Res P Q G W σ k := fun new a w hs => h new a w (hs.merge i0 C A hi0 hA)
/-- ... where a call stands next. -/
theorem CallAt.merge {σ : St} {k : List It} {f : FuncId} {args : List SV} {dst : Option Tmp} (i0 : Nat) (C : List Nat) (A : Asn) (hi0 : i0 < σ.L.length ∧ i0 ∈ C) (hA : ∀ new w own, HSo G W σ new w own → A.R (fun b => ∃ r, r ∈ C ∧ r < σ.L.length ∧ own r b) ((σ.X ++ new).getD i0 0) w)
    (h : CallAt P Q G W (σ.merge i0 C A) f args dst k) : CallAt P Q G W σ f args dst k := fun new a w hs => h new a w (hs.merge i0 C A hi0 hA)

/-- A thing is opened: it becomes an entry of its own, and others. -/
theorem Res.openA {σ : St} {k : List It} {D : Type} (i : Nat) (A : Asn) (hi : getE σ.L i = some (.asn A)) (Φ : D → Prop) (e0 : D → Ent) (es : D → List Ent)
    (hlt : ∀ d, (e0 d).lt (σ.L.length + (es d).length) ∧ ∀ e ∈ es d, e.lt (σ.L.length + (es d).length))
    (hA : ∀ ids O w, ids.length = σ.L.length → A.R O (ids.getD i 0) w → (∀ b, O b → b < w.heap.size) → ∃ (d : D) (nids : List Nat) (own : Nat → Nat → Prop), Φ d ∧ nids.length = (es d).length ∧ (e0 d).ok (ids ++ nids) (ids.getD i 0) (own 0) w ∧
      (∀ (j : Nat) (e : Ent), (es d)[j]? = some e → e.ok (ids ++ nids) (nids.getD j 0) (own (j + 1)) w) ∧ (∀ i j b, i ≠ j → own i b → own j b → False) ∧ ∀ i b, own i b → O b)
    (h : ∀ d, Φ d → Res P Q G W { σ with L := setE σ.L i (e0 d) ++ es d } k) : Res P Q G W σ k := by
  intro new a w hs
  obtain ⟨own, ho⟩ := hs.hs
  rw [getE_eq] at hi
  have hil := (List.getElem?_eq_some_iff.1 hi).1
  have hlen : (σ.X ++ new).length = σ.L.length := by simpa using ho.len
  obtain ⟨d, nids, ow, hΦ, hnl, h0, hes, hap, hsub⟩ := hA (σ.X ++ new) (own i) w hlen (ho.ok i _ hi) (fun b hb => (ho.out i b hil hb).2)
  obtain ⟨hlt0, hlts⟩ := hlt d
  have hLl : (setE σ.L i (e0 d) ++ es d).length = σ.L.length + nids.length := by rw [setE_eq]; simp [hnl]
  have hsl : (setE σ.L i (e0 d)).length = σ.L.length := by rw [setE_eq]; simp
  have hch := ho.change (w' := w) (L' := setE σ.L i (e0 d) ++ es d) (new' := nids) (own' := fun j b => if j = i then ow 0 b else if j < σ.L.length then own j b else ow (j - σ.L.length + 1) b) (fun j => j = i) hLl rfl rfl rfl (Nat.le_refl _) (fun _ _ _ => rfl) ?_ ?_ ?_
  · have base : Sat G W { σ with L := setE σ.L i (e0 d) ++ es d } (new ++ nids) a w := by
      refine ⟨hs.tsz, ?_, ?_, ?_, ?_, _, hch⟩
      · intro t sv ht
        have := hs.tmp t sv ht
        show a.tmps.getD t undef = sv.den (σ.X ++ (new ++ nids))
        rw [this, ← List.append_assoc, SV.den_append (ids := σ.X ++ new) (m := nids)]
        rw [hlen]; exact hs.tlt t sv ht
      · intro t sv ht
        exact SV.lt_mono (by show σ.L.length ≤ (setE σ.L i (e0 d) ++ es d).length; omega) (hs.tlt t sv ht)
      · show a.defers = σ.D.map (DSV.den (σ.X ++ (new ++ nids)))
        rw [hs.dfr, ← List.append_assoc]
        apply List.map_congr_left
        intro x hx
        rw [DSV.den_append (ids := σ.X ++ new) (m := nids)]
        rw [hlen]; exact hs.dlt x hx
      · intro x hx
        exact DSV.lt_mono (by show σ.L.length ≤ (setE σ.L i (e0 d) ++ es d).length; omega) (hs.dlt x hx)
    exact h d hΦ _ a w base
  · intro j e hj he
    have hjl := (List.getElem?_eq_some_iff.1 he).1
    refine ⟨by rw [List.getElem?_append_left (by omega), setE_eq, List.getElem?_set_ne (fun h => hj h.symm)]; exact he, ?_⟩
    funext b
    simp [hj, hjl]
  · intro j e he hc
    have hjl : j < σ.L.length + nids.length := by rw [← hLl]; exact (List.getElem?_eq_some_iff.1 he).1
    rw [← List.append_assoc]
    by_cases hji : j = i
    · subst hji
      rw [List.getElem?_append_left (by omega), setE_eq, List.getElem?_set_self hil] at he
      injection he with he; subst he
      refine ⟨?_, by rw [hLl, hnl]; exact hlt0, fun b hb => ?_⟩
      · rw [getD_append_lt (l := σ.X ++ new) (by omega)]
        simp only [if_true]
        exact h0
      · simp only [if_true] at hb
        exact ⟨(ho.out j b hil (hsub _ _ hb)).2, .inr ⟨j, rfl, hil, hsub _ _ hb⟩⟩
    · have hge : σ.L.length ≤ j := by
        rcases hc with hc | hc
        · exact absurd hc hji
        · exact hc
      rw [List.getElem?_append_right (by omega), hsl] at he
      refine ⟨?_, by rw [hLl, hnl]; exact hlts e (List.mem_of_getElem? he), fun b hb => ?_⟩
      · have := hes (j - σ.L.length) e he
        have hgd : (σ.X ++ new ++ nids).getD j 0 = nids.getD (j - σ.L.length) 0 := by
          rw [List.getD_eq_getElem?_getD, List.getElem?_append_right (by omega), hlen, ← List.getD_eq_getElem?_getD]
        rw [hgd]
        simp only [if_neg hji, if_neg (show ¬ j < σ.L.length by omega)]
        exact this
      · simp only [if_neg hji, if_neg (show ¬ j < σ.L.length by omega)] at hb
        exact ⟨(ho.out i b hil (hsub _ _ hb)).2, .inr ⟨i, rfl, hil, hsub _ _ hb⟩⟩
  · intro j j' b hj hj' hcj hcj' hjj hbj hbj'
    have num : ∀ j, (j = i ∨ σ.L.length ≤ j) → (if j = i then ow 0 b else if j < σ.L.length then own j b else ow (j - σ.L.length + 1) b) → ow (if j = i then 0 else j - σ.L.length + 1) b := by
      intro j hc hb
      by_cases hji : j = i
      · simp only [if_pos hji] at hb ⊢; exact hb
      · have : σ.L.length ≤ j := by
          rcases hc with hc | hc
          · exact absurd hc hji
          · exact hc
        simp only [if_neg hji, if_neg (show ¬ j < σ.L.length by omega)] at hb ⊢
        exact hb
    refine hap _ _ b ?_ (num j hcj hbj) (num j' hcj' hbj')
    rcases hcj with rfl | hcj
    · rcases hcj' with rfl | hcj'
      · exact absurd rfl hjj
      · rw [if_pos rfl, if_neg (fun h => hjj h.symm)]; omega
    · rcases hcj' with rfl | hcj'
      · rw [if_pos rfl, if_neg hjj]; omega
      · rw [if_neg (by omega), if_neg (by omega)]; omega
end openclose

/-! ### rounds of a range over a function; deferred calls -/
section rounds
variable {P : Program} {Q : Pst} {G : Nat → Prop} {W : World}

/-- The numbers of the blocks, fixed. -/
theorem HS.fix {σ : St} {new : List Nat} {w : World} (h : HS G W σ new w) : HS G W { σ with X := σ.X ++ new } [] w := by
  obtain ⟨own, ho⟩ := h
  refine ⟨own, by have := ho.len; simp; omega, ?_, ho.entlt, ho.apart, ho.out, ho.inW, ho.keep⟩
  simpa using ho.ok

theorem HS.obj {σ : St} {new : List Nat} {w : World} {o : Obj} {i : Nat} (h : HS G W σ new w) (hi : σ.L[i]? = some (.obj o)) : w.heap[(σ.X ++ new).getD i 0]? = some o := by
  obtain ⟨own, ho⟩ := h
  exact (ho.ok i _ hi).2

theorem HS.putObj {σ : St} {new : List Nat} {w : World} {o : Obj} {i : Nat} (o' : Obj) (h : HS G W σ new w) (hi : σ.L[i]? = some (.obj o)) :
    HS G W { σ with L := setE σ.L i (.obj o') } new (w.putObj ((σ.X ++ new).getD i 0) o') := by
  obtain ⟨own, ho⟩ := h
  obtain ⟨k1, k2⟩ := ho.ok i _ hi
  have il := (List.getElem?_eq_some_iff.1 hi).1
  obtain ⟨o1, o2⟩ := ho.out i _ il k1
  refine ⟨_, ho.upd (e := .obj o') (O := own i) il trivial rfl rfl rfl (by simp) ?_ ?_ ?_⟩
  · intro b _ hb
    exact World.putObj_heap_other (fun e => hb (e ▸ k1))
  · intro b hb
    exact ⟨by have := (ho.out i b il hb).2; simpa using this, .inr hb⟩
  · exact ⟨k1, World.putObj_heap_same o2⟩

/-- A call of yield asks for a round. -/
theorem Res.yield {σ : St} {k : List It} {all rest : List Oper} {o : Oper} {c : Call} {g : Operand} {l : Nat} {args : List SV} (args' : Array Value)
    (Post : World → Value → World → Prop) (ho : o.op = .call c) (hc : c.callee = .value g)
    (hg : ev σ g = some (.v (.func (.yield l) #[] #[]))) (ha : evs σ c.args.toList = some args) (hav : ∀ ids, (args.map (SV.den ids)).toArray = args')
    (hy : ∀ new w, HS G W σ new w → YieldAt (wf Q.ro) 0 P l args' w fun e w' => ∃ v, e = .returned v ∧ Post w v w')
    (hk : ∀ new w v w', HS G W σ new w → Post w v w' → ∃ G' W' L', L'.length = σ.L.length ∧ HS G' W' { σ with X := σ.X ++ new, L := L' } [] w' ∧
      Res P Q G' W' ({ σ with X := σ.X ++ new, L := L' }.put o.dst (.v v)) (.ops all rest :: k))
    (hgd : o.guard = none := by rfl) : Res P Q G W σ (.ops all (o :: rest) :: k) := by
  intro new a w hs
  show wpListIn (wf Q.ro) 0 P all.toArray (Wt P Q k) (o :: rest) a w
  unfold wpListIn
  rw [if_pos (by simp [Region.wanted, hgd])]
  obtain ⟨hge, _⟩ := ev_sound hs hg
  obtain ⟨hae, _⟩ := evs_sound hs ha
  have hargs : c.args.map a.eval = args' := by
    rw [← hav (σ.X ++ new), ← hae]
    apply Array.ext'
    simp
  obtain ⟨fn, tmps, assign, body, hrun, hround⟩ := hy new w hs.hs
  have hex : (execOp a.eval o).run P w = .ok (.round l fn tmps assign body) w := by
    simp [execOp, ho, resolve, hc, hge, hargs, Deferred.ofValue, invoke, SV.den, hrun]
  refine ⟨fun _ _ => trivial, ?_⟩
  rw [Oper.semAt_eq _ _ _ (by rw [ho]; intro c h; cases h), hex, Oper.uponIn_round]
  refine ⟨by simp [wf], hround.mono ?_⟩
  rintro e w' ⟨v, rfl, hp⟩
  obtain ⟨G', W', L', hL, hS, hR⟩ := hk new w v w' hs.hs hp
  refine hR [] _ w' ?_
  have base : Sat G' W' { σ with X := σ.X ++ new, L := L' } [] a w' := by
    refine ⟨hs.tsz, ?_, ?_, ?_, ?_, hS⟩
    · intro t sv ht
      have := hs.tmp t sv ht
      simpa using this
    · intro t sv ht
      rw [hL]; exact hs.tlt t sv ht
    · have := hs.dfr
      simpa using this
    · intro d hd
      rw [hL]; exact hs.dlt d hd
  have := base.put o.dst (.v v) trivial
  simpa [SV.den] using this

/-- What is held within a range over a function: all that is held, the block for the rounds' deferred calls, the record. -/
def rfL (L : List Ent) (r : Loop) : List Ent := L ++ [.obj (.deferred (some [])), .obj (.loop r)]

/-- A round's arguments, in their slots. -/
def tSet : List (Option SV) → List Tmp → List Value → List (Option SV)
  | T, p :: ps, a :: as => tSet (setT T p (some (.v a))) ps as
  | T, _, _ => T

theorem tSet_length : ∀ (T : List (Option SV)) (ps : List Tmp) (as : List Value), (tSet T ps as).length = T.length
  | T, [], _ => rfl
  | T, _ :: _, [] => rfl
  | T, p :: ps, a :: as => by simp only [tSet]; rw [tSet_length, setT_length]

theorem rfL_set {L : List Ent} {r r' : Loop} {n : Nat} (hn : L.length = n) : setE (rfL L r) (n + 1) (.obj (.loop r')) = rfL L r' := by
  subst hn
  simp [rfL, setE_eq, List.set_append]
theorem rfL_get {L : List Ent} {r : Loop} {n : Nat} (hn : L.length = n) : (rfL L r)[n + 1]? = some (.obj (.loop r)) := by
  subst hn
  simp [rfL]
theorem rfL_len (L : List Ent) (r : Loop) : (rfL L r).length = L.length + 2 := by simp [rfL]

/-- What a round begins with, behind its assignments. -/
def Beg (P : Program) (l : Nat) (body : Code) (q : Exit → Act → World → Prop) (a : Act) (w : World) : Prop :=
  ∃ w₂, (Instr.beginRound l).run P w = .ok () w₂ ∧ body.wpIn (wf (some l)) 0 P q a w₂

theorem Res.begin {Q : Pst} {l : Nat} {q : Exit → Act → World → Prop} {body : Code} {σ : St} {r : Loop} (i : Nat) (hi : getE σ.L i = some (.obj (.loop r))) (hX : i < σ.X.length) (hl : σ.X.getD i 0 = l) (hr : r.state = .ready)
    (h : Res P ⟨some l, q⟩ G W { σ with L := setE σ.L i (.obj (.loop { r with state := .busy })) } [.code body]) :
    Res P Q G W σ [.rnd (Beg P l body q)] := by
  intro new a w hs
  rw [getE_eq] at hi
  have ho := hs.hs.obj hi
  have hp := hs.hs.putObj (.loop { r with state := .busy }) hi
  have hg : (σ.X ++ new).getD i 0 = l := by
    rw [← hl, List.getD_eq_getElem?_getD, List.getD_eq_getElem?_getD, List.getElem?_append_left hX]
  rw [hg] at ho hp
  have hLl : (setE σ.L i (.obj (.loop { r with state := .busy }))).length = σ.L.length := by simp [setE_eq]
  refine ⟨_, run_beginRound ho hr, ?_⟩
  exact h new a _ ⟨hs.tsz, hs.tmp, fun t sv ht => by rw [hLl]; exact hs.tlt t sv ht, hs.dfr, fun d hd => by rw [hLl]; exact hs.dlt d hd, hp.same rfl rfl⟩

theorem HS.trunc {X new : List Nat} {L L' : List Ent} {T : List (Option SV)} {D : List DSV} {w : World} (h : HS G W { T := T, X := X, L := L ++ L', D := D } new w) (hX : X.length = L.length) (hlt : ∀ e ∈ L, e.lt L.length) : HS G W { T := [], X := X, L := L, D := [] } [] w := by
  obtain ⟨own, ho⟩ := h
  have hl : ∀ i, i < L.length → i < (L ++ L').length := fun i hi => by simp; omega
  refine ⟨own, by simpa using hX, ?_, hlt, fun i j b hi hj => ho.apart i j b (hl i hi) (hl j hj), fun i b hi => ho.out i b (hl i hi), ho.inW, ho.keep⟩
  intro i e hi
  have hil : i < L.length := (List.getElem?_eq_some_iff.1 hi).1
  have hok := ho.ok i e (by show (L ++ L')[i]? = _; rw [List.getElem?_append_left hil]; exact hi)
  simp only [List.append_nil]
  simp only at hok
  rw [Ent.ok_append (by rw [hX]; exact hlt e (List.mem_of_getElem? hi)), getD_append_lt (by omega)] at hok
  exact hok

theorem tSet_sat {ids : List Nat} {n : Nat} : ∀ (ps : List Tmp) (as : List Value) (T : List (Option SV)) (tmps : Array Value), tmps.size = T.length → (∀ t sv, getT T t = some sv → tmps.getD t undef = sv.den ids) → (∀ t sv, getT T t = some sv → sv.lt n) →
    ((ps.zip as).foldl (fun tmps x => tmps.setIfInBounds x.1 x.2) tmps).size = (tSet T ps as).length ∧
    (∀ t sv, getT (tSet T ps as) t = some sv → ((ps.zip as).foldl (fun tmps x => tmps.setIfInBounds x.1 x.2) tmps).getD t undef = sv.den ids) ∧ (∀ t sv, getT (tSet T ps as) t = some sv → sv.lt n)
  | [], as, T, tmps, h1, h2, h3 => ⟨h1, h2, h3⟩
  | _ :: _, [], T, tmps, h1, h2, h3 => ⟨h1, h2, h3⟩
  | p :: ps, a :: as, T, tmps, h1, h2, h3 => by
    simp only [List.zip_cons_cons, List.foldl_cons, tSet]
    refine tSet_sat ps as (setT T p (some (.v a))) (tmps.setIfInBounds p a) (by rw [setT_length]; simpa using h1) ?_ ?_
    · intro t sv ht
      rw [getT_setT] at ht
      by_cases e : p = t
      · subst e
        rw [if_pos rfl] at ht
        by_cases hlt : p < T.length
        · rw [if_pos hlt] at ht
          injection ht with ht
          subst ht
          have : p < tmps.size := by rw [h1]; exact hlt
          simp [Array.getD_eq_getD_getElem?, this, SV.den]
        · rw [if_neg hlt] at ht; cases ht
      · rw [if_neg e] at ht
        have := h2 t sv ht
        simp only [Array.getD_eq_getD_getElem?] at this ⊢
        rw [Array.getElem?_setIfInBounds_ne e]
        exact this
    · intro t sv ht
      rw [getT_setT] at ht
      by_cases e : p = t
      · subst e
        rw [if_pos rfl] at ht
        by_cases hlt : p < T.length
        · rw [if_pos hlt] at ht; injection ht with ht; subst ht; trivial
        · rw [if_neg hlt] at ht; cases ht
      · rw [if_neg e] at ht; exact h3 t sv ht

/-- What a round comes to: on, or the function's return. -/
def rq (G : Nat → Prop) (W : World) (X : List Nat) (r : Loop) (φ φx : Prop) (L Lx : List Ent) : Exit → Act → World → Prop
  | .normal, _, w => φ ∧ ∃ L' new, HS G W { T := [], X := X, L := rfL L r ++ L', D := [] } new w
  | .ret, _, w => φx ∧ ∃ L' new, HS G W { T := [], X := X, L := rfL Lx r ++ L', D := [] } new w
  | _, _, _ => False

/-- What an iterator must keep to: N rounds at most, the i-th with the values encs i. -/
def Iter (P : Program) (gf : Nat) (lb : Array Value) (N : Nat) (encs : Nat → List Value) (Rd : World → Prop) : Prop :=
  ∀ (l : Nat) (J Jx : Nat → World → Prop) (w : World), (∀ i W1 W2, J i W1 → Ext W1 W2 → J i W2) → (∀ i W1 W2, Jx i W1 → Ext W1 W2 → Jx i W2) → (∀ i W1, J i W1 → Rd W1) →
    (∀ i W1, i < N → J i W1 → YieldAt (wf none) 0 P l (encs i).toArray W1 fun e W' => (e = .returned (.bool true) ∧ J (i + 1) W') ∨ (e = .returned (.bool false) ∧ Jx i W')) →
    J 0 w → Calls P gf (#[.func (.yield l) #[] #[]] ++ lb) w fun e W' => (∃ v, e = .returned v) ∧ (J N W' ∨ ∃ i, i < N ∧ Jx i W')

/-- A range over a function. -/
theorem Res.rangeF {σ : St} {k : List It} {g : Operand} {ps : Array Tmp} {assign body : Code} {gf : Nat} {lb : Array Value} (hg : ev σ g = some (.v (.func (.func gf) #[] lb))) (hfn : fnOK P gf = true)
    (N : Nat) (encs : Nat → List Value) (hps : ∀ i, (encs i).length = ps.size) (Φ Φx : Nat → Prop) (hΦ : Φ 0) (L Lx : Nat → List Ent) (hL0 : L 0 = σ.L) (hLl : ∀ i, (L i).length = σ.L.length) (hLx : ∀ i, (Lx i).length = σ.L.length)
    (hLlt : ∀ i, ∀ e ∈ L i, e.lt σ.L.length) (hLxlt : ∀ i, ∀ e ∈ Lx i, e.lt σ.L.length)
    (Rd : World → Prop) (hRd : ∀ i X r w, isPre σ.X X → HS G W { T := [], X := X, L := rfL (L i) r, D := [] } [] w → Rd w) (hit : Iter P gf lb N encs Rd)
    (hbody : ∀ X l r i, i < N → Φ i → X.length = σ.L.length + 2 → X.getD (σ.L.length + 1) 0 = l → isPre σ.X X → r.state = .ready → r.pending = none →
      Res P ⟨some l, fun _ _ _ => False⟩ G W { T := tSet σ.T ps.toList (encs i), X := X, L := rfL (L i) r, D := [] } [.code assign, .rnd (Beg P l body (rq G W X { r with state := .busy } (Φ (i + 1)) (Φx i) (L (i + 1)) (Lx i)))])
    (hdone : ∀ X r, isPre σ.X X → Φ N → Res P Q G W { σ with X := X, L := rfL (L N) r, D := .mark σ.L.length :: σ.D } k)
    (hstop : ∀ X r i, isPre σ.X X → i < N → Φx i → Ret Q G W { σ with X := X, L := rfL (Lx i) r, D := .mark σ.L.length :: σ.D }) (hro : Q.ro = none := by rfl) :
    Res P Q G W σ (.code (.rangeFunc g ps assign body) :: k) := by
  intro new a w hs
  show (Code.rangeFunc g ps assign body).wpIn (wf Q.ro) 0 P (Wt P Q k) a w
  rw [hro]
  refine wpIn_rangeFunc ?_
  intro fn _
  obtain ⟨hge, _⟩ := ev_sound hs hg
  obtain ⟨rec, hrec⟩ : ∃ rec : LoopState → Option Code → Loop, rec = fun st pe => { state := st, pending := pe, fn, tmps := a.tmps, params := ps, assign, body, defers := w.heap.size } := ⟨_, rfl⟩
  have hlen : (σ.X ++ new).length = σ.L.length := by simpa using hs.hs.len
  have h1 := hs.hs.alloc (e := .obj (.deferred (some []))) (o := .deferred (some [])) trivial (fun w' hw => ⟨rfl, hw⟩)
  have h2 := h1.alloc (e := .obj (.loop (rec .ready none))) (o := .loop (rec .ready none)) trivial (fun w' hw => ⟨rfl, hw⟩)
  have h3 := h2.fix
  have hsz1 : (w.alloc (.deferred (some []))).heap.size = w.heap.size + 1 := by simp
  rw [hsz1] at h3
  obtain ⟨X, hX⟩ : ∃ X, X = σ.X ++ (new ++ [w.heap.size] ++ [w.heap.size + 1]) := ⟨_, rfl⟩
  have hXl : X.length = σ.L.length + 2 := by rw [hX]; simp at hlen ⊢; omega
  have hXd : X.getD (σ.L.length + 1) 0 = w.heap.size + 1 := by
    rw [hX, List.getD_eq_getElem?_getD, ← List.append_assoc, ← List.append_assoc, List.getElem?_append_right (by simp at hlen ⊢; omega)]
    simp at hlen ⊢
    rw [show σ.L.length + 1 - (σ.X.length + (new.length + 1)) = 0 by omega]
    rfl
  have hXd0 : X.getD σ.L.length 0 = w.heap.size := by
    rw [hX, List.getD_eq_getElem?_getD, ← List.append_assoc, ← List.append_assoc, List.getElem?_append_left (by simp at hlen ⊢; omega), List.getElem?_append_right (by omega), hlen]
    simp
  have hpre : isPre σ.X X := ⟨_, hX⟩
  have hXn : X = (σ.X ++ new) ++ [w.heap.size, w.heap.size + 1] := by rw [hX]; simp
  have h0 : HS G W { T := [], X := X, L := rfL (L 0) (rec .ready none), D := [] } [] ((w.alloc (.deferred (some []))).alloc (.loop (rec .ready none))) := by
    refine h3.same ?_ ?_
    · rw [hX]; rfl
    · rw [hL0]; simp [rfL, St.new]
  -- what the activation holds, whatever the entries are
  have hsat : ∀ (L' : List Ent) (r : Loop) (w' : World), L'.length = σ.L.length → HS G W { T := [], X := X, L := rfL L' r, D := [] } [] w' →
      Sat G W { σ with X := X, L := rfL L' r, D := .mark σ.L.length :: σ.D } [] { a with defers := [({ target := .collected w.heap.size, args := #[] } : Deferred)] ++ a.defers } w' := by
    intro L' r w' hl hh
    refine ⟨hs.tsz, ?_, ?_, ?_, ?_, hh.same rfl rfl⟩
    · intro t sv ht
      have := hs.tmp t sv ht
      simp only [List.append_nil]
      rw [hXn, SV.den_append (ids := σ.X ++ new) (m := [w.heap.size, w.heap.size + 1]) (by rw [hlen]; exact hs.tlt t sv ht)]
      exact this
    · intro t sv ht
      exact SV.lt_mono (by show σ.L.length ≤ (rfL L' r).length; rw [rfL_len]; omega) (hs.tlt t sv ht)
    · simp only [List.append_nil, List.map_cons, List.singleton_append]
      congr 1
      · simp only [DSV.den, hXd0]
      · rw [hs.dfr]
        apply List.map_congr_left
        intro d hd
        rw [hXn, DSV.den_append (ids := σ.X ++ new) (m := [w.heap.size, w.heap.size + 1]) (by rw [hlen]; exact hs.dlt d hd)]
    · intro d hd
      have hl2 : σ.L.length ≤ (rfL L' r).length := by rw [rfL_len]; omega
      rcases List.mem_cons.1 hd with rfl | hd
      · show σ.L.length < (rfL L' r).length
        rw [rfL_len]; omega
      · exact DSV.lt_mono hl2 (hs.dlt d hd)
  have eg : ∀ args w, (callFunc gf args).run P w = .ok (.enter gf args) w := by
    intro args w
    unfold fnOK at hfn
    split at hfn
    · rename_i f hf
      simp only [Bool.and_eq_true, bne_iff_ne] at hfn
      have hb : ¬ f.body = none := by intro hq; simp [hq] at hfn
      simp [callFunc, hf, hfn.1, hb]
    · cases hfn
  refine ⟨w.heap.size + 1, [{ target := .collected w.heap.size, args := #[] }], ((w.alloc (.deferred (some []))).alloc (.loop { state := .ready, pending := none, fn, tmps := a.tmps, params := ps, assign, body, defers := w.heap.size })), { target := .fn (.func gf) lb, args := #[.func (.yield (w.heap.size + 1)) #[] #[]] }, ((w.alloc (.deferred (some []))).alloc (.loop { state := .ready, pending := none, fn, tmps := a.tmps, params := ps, assign, body, defers := w.heap.size })), gf,
    #[.func (.yield (w.heap.size + 1)) #[] #[]] ++ lb, ((w.alloc (.deferred (some []))).alloc (.loop { state := .ready, pending := none, fn, tmps := a.tmps, params := ps, assign, body, defers := w.heap.size })), run_enterLoop_outer fn a.tmps ps assign body, ?_, fun _ _ => trivial, ?_, by simp [wf], ?_⟩
  · simp only [resolve, hge, SV.den]
    simp [Deferred.ofValue, Act.eval]
  · simp [invoke, eg]
  refine calls_in ?_
  subst hrec
  let R : LoopState → Option Code → Loop := fun st pe => { state := st, pending := pe, fn, tmps := a.tmps, params := ps, assign, body, defers := w.heap.size }
  have hJ := hit (w.heap.size + 1) (fun i W1 => Φ i ∧ HS G W { T := [], X := X, L := rfL (L i) (R .ready none), D := [] } [] W1) (fun i W1 => Φx i ∧ HS G W { T := [], X := X, L := rfL (Lx i) (R .done (some .ret)), D := [] } [] W1)
    ((w.alloc (.deferred (some []))).alloc (.loop { state := .ready, pending := none, fn, tmps := a.tmps, params := ps, assign, body, defers := w.heap.size }))
    (fun i W1 W2 hj he => ⟨hj.1, hj.2.ext' he⟩) (fun i W1 W2 hj he => ⟨hj.1, hj.2.ext' he⟩) (fun i W1 hj => hRd i X _ _ hpre hj.2) ?_ ⟨hΦ, h0⟩
  · refine hJ.mono ?_
    rintro e W' ⟨⟨v, rfl⟩, ⟨hφ, hj⟩ | ⟨i, hi, hφ, hj⟩⟩
    · have ho := hj.obj (i := σ.L.length + 1) (rfL_get (hLl N))
      have hp := hj.putObj (i := σ.L.length + 1) (.loop (R .exhausted none)) (rfL_get (hLl N))
      simp only [List.append_nil] at ho hp
      rw [hXd] at ho hp
      rw [rfL_set (hLl N)] at hp
      have := run_endLoop (P := P) ho (by simp)
      refine ⟨none, _, this, ?_⟩
      have hd := hdone X (R .exhausted none) hpre hφ [] _ _ (hsat _ _ _ (hLl N) hp)
      exact hd
    · have ho := hj.obj (i := σ.L.length + 1) (rfL_get (hLx i))
      have hp := hj.putObj (i := σ.L.length + 1) (.loop (R .exhausted (some .ret))) (rfL_get (hLx i))
      simp only [List.append_nil] at ho hp
      rw [hXd] at ho hp
      rw [rfL_set (hLx i)] at hp
      have := run_endLoop (P := P) ho (by simp)
      refine ⟨some .ret, _, this, ?_⟩
      have hst : Res P Q G W { σ with X := X, L := rfL (Lx i) (R .exhausted (some .ret)), D := .mark σ.L.length :: σ.D } (.code .ret :: k) := Res.run 1 (hstop X (R .exhausted (some .ret)) i hpre hi hφ)
      have hd := hst [] _ _ (hsat _ _ _ (hLx i) hp)
      have hd' : (Code.ret).wpIn (wf Q.ro) 0 P (Wt P Q k) _ _ := hd
      rw [hro] at hd'
      exact hd'
  · rintro i W1 hi ⟨hφ, hj⟩
    have ho := hj.obj (i := σ.L.length + 1) (rfL_get (hLl i))
    simp only [List.append_nil] at ho
    rw [hXd] at ho
    have hy := run_yield (P := P) (args := (encs i).toArray) ho (by simp [hps i, R])
    refine ⟨fn, _, assign, body, hy, roundIn_of_wpIn trivial ?_⟩
    have hb := hbody X (w.heap.size + 1) (R .ready none) i hi hφ hXl hXd hpre rfl rfl
    have hts := tSet_sat (ids := X) (n := σ.L.length + 2) ps.toList (encs i) σ.T a.tmps hs.tsz (fun t sv ht => by rw [hXn, SV.den_append (ids := σ.X ++ new) (m := [w.heap.size, w.heap.size + 1]) (by rw [hlen]; exact hs.tlt t sv ht)]; exact hs.tmp t sv ht) (fun t sv ht => SV.lt_mono (by omega) (hs.tlt t sv ht))
    obtain ⟨t1, t2, t3⟩ := hts
    have hw := hb [] { tmps := (ps.toList.zip (encs i)).foldl (fun tmps x => tmps.setIfInBounds x.1 x.2) a.tmps, defers := [] } W1 ⟨t1, by simpa using t2, by simp only [rfL_len, hLl]; exact t3, rfl, by simp, hj.same rfl rfl⟩
    have hfold : (ps.zip (encs i).toArray).foldl (fun tmps (x : Tmp × Value) => tmps.setIfInBounds x.1 x.2) a.tmps = (ps.toList.zip (encs i)).foldl (fun tmps x => tmps.setIfInBounds x.1 x.2) a.tmps := by
      rw [← Array.foldl_toList]
      simp
    have hw' : assign.wpIn (wf (some (w.heap.size + 1))) 0 P (Wt P ⟨some (w.heap.size + 1), fun _ _ _ => False⟩ [.rnd (Beg P (w.heap.size + 1) body (rq G W X (R .busy none) (Φ (i + 1)) (Φx i) (L (i + 1)) (Lx i)))])
      { tmps := (ps.zip (encs i).toArray).foldl (fun tmps (x : Tmp × Value) => tmps.setIfInBounds x.1 x.2) a.tmps, defers := [] } W1 := by
      rw [hfold]; exact hw
    refine wpIn_mono hw' ?_
    have fin : ∀ (L' : List Ent) (jump : Option Code) (W3 : World), L'.length = σ.L.length → HS G W { T := [], X := X, L := rfL L' (R .busy none), D := [] } [] W3 →
        ∃ W4, (Instr.endRound (w.heap.size + 1) jump).run P W3 = .ok (.bool jump.isNone) W4 ∧ HS G W { T := [], X := X, L := rfL L' (R (if jump.isNone then .ready else .done) jump), D := [] } [] W4 := by
      intro L' jump W3 hl hh
      have ho := hh.obj (i := σ.L.length + 1) (rfL_get hl)
      simp only [List.append_nil] at ho
      rw [hXd] at ho
      have hp := hh.putObj (i := σ.L.length + 1) (.loop (R (if jump.isNone then .ready else .done) jump)) (rfL_get hl)
      simp only [List.append_nil] at hp
      rw [hXd, rfL_set hl] at hp
      have := run_endRound (P := P) jump ho
      refine ⟨_, this, ?_⟩
      exact hp
    rintro e a₁ w₁ hq
    cases e with
    | normal =>
      obtain ⟨w₂, hb1, hb2⟩ := hq
      refine ⟨w₂, hb1, wpIn_mono hb2 ?_⟩
      rintro e a₂ w₃ hq2
      have rlt : ∀ (L' : List Ent) (r : Loop), L'.length = σ.L.length → (∀ e ∈ L', e.lt σ.L.length) → ∀ e ∈ rfL L' r, e.lt (rfL L' r).length := by
        intro L' r hl hh e he
        rw [rfL_len, hl]
        simp only [rfL, List.mem_append, List.mem_cons, List.not_mem_nil, or_false] at he
        rcases he with he | rfl | rfl
        · exact Ent.lt_mono (by omega) (hh e he)
        · trivial
        · trivial
      cases e with
      | normal =>
        obtain ⟨hφ2, L', nw, hq2⟩ := hq2
        have hq2 := hq2.trunc (by rw [rfL_len, hLl, hXl]) (rlt _ _ (hLl _) (hLlt _))
        obtain ⟨W4, he, hh⟩ := fin _ none w₃ (hLl (i + 1)) hq2
        exact ⟨_, W4, he, .inl ⟨rfl, hφ2, hh⟩⟩
      | ret =>
        obtain ⟨hφ2, L', nw, hq2⟩ := hq2
        have hq2 := hq2.trunc (by rw [rfL_len, hLx, hXl]) (rlt _ _ (hLx _) (hLxlt _))
        obtain ⟨W4, he, hh⟩ := fin _ (some .ret) w₃ (hLx i) hq2
        exact ⟨_, W4, he, .inr ⟨rfl, hφ2, hh⟩⟩
      | exit id => exact hq2.elim
      | goto t => exact hq2.elim
      | panic ch => exact hq2.elim
      | outgrown => exact hq2.elim
    | ret =>
      exact hq.elim
    | exit id => exact hq.elim
    | goto t => exact hq.elim
    | panic ch => exact hq.elim
    | outgrown => exact hq.elim
end rounds

/-! ### bodies that defer -/
section defers
variable {P : Program} {Q : Pst} {G : Nat → Prop} {W : World}

theorem sat_start {w : World} {args : List SV} {X : List Nat} {L : List Ent} {n : Nat} (hlt : ∀ s ∈ args, s.lt L.length) (hs : HS G W { T := T0 args n, X := X, L := L, D := [] } [] w) :
    Sat G W { T := T0 args n, X := X, L := L, D := [] } [] { tmps := (args.map (SV.den X)).toArray ++ Array.replicate (n - (args.map (SV.den X)).toArray.size) undef, defers := [] } w := by
  refine ⟨by simp [T0], ?_, ?_, rfl, by simp, hs⟩
  · intro t sv ht
    simp only [List.append_nil]
    rcases getT_T0 ht with h | ⟨h1, rfl⟩
    · have hl : t < args.length := by
        rcases Nat.lt_or_ge t args.length with h' | h'
        · exact h'
        · rw [List.getElem?_eq_none h'] at h; cases h
      simp only [Array.getD_eq_getD_getElem?]
      rw [Array.getElem?_append_left (by simpa using hl)]
      simp [h]
    · simp only [Array.getD_eq_getD_getElem?, SV.den]
      rw [Array.getElem?_append_right (by simpa using h1)]
      rw [Array.getElem?_replicate]
      split <;> rfl
  · intro t sv ht
    rcases getT_T0 ht with h | ⟨_, rfl⟩
    · exact hlt sv (List.mem_of_getElem? h)
    · trivial

/-- What is asked at the end of a body that defers, or ranges over a function. -/
def bM (P : Program) (fn : Func) (R : Ending → World → Prop) : Pst := ⟨none, bodyPostM (wf none) 0 P fn R⟩

theorem startM {f : FuncId} {fn : Func} {c : Code} {args : List SV} {X : List Nat} {L : List Ent} {R : Ending → World → Prop} {n : Nat} (hf : P.funcs[f]? = some fn) (hb : fn.body = some c)
    (hn : fn.ntmps = n) (hlt : ∀ s ∈ args, s.lt L.length) (hs : HS G W { T := T0 args n, X := X, L := L, D := [] } [] W)
    (h : Res P (bM P fn R) G W { T := T0 args n, X := X, L := L, D := [] } [.code c]) :
    Calls P f (args.map (SV.den X)).toArray W R := by
  refine callsIn_wide.1 (callsIn_of_wp_marks (F := wf none) (n := 0) hf hb trivial ?_)
  subst hn
  exact h [] _ W (sat_start hlt hs)

theorem run_res {fn : Func} {σ : St} {l : List SV} (hr : resV P σ fn.results.toList = some l) {new : List Nat} {a : Act} {w : World} (hs : Sat G W σ new a w) :
    (results fn a.tmps).run P w = .ok (resOf (σ.X ++ new) l) w := by
  have h1 := resV_sound hs fn.results.toList l hr
  rw [results_eq, Array.mapM_eq_mapM_toList]
  simp only [Sem.run_bind, Sem.run_map, h1, Result.andThen_ok, Sem.run_pure]
  congr 1
  rcases l with _ | ⟨s, _ | ⟨t, l⟩⟩
  · simp [resOf]
  · simp [resOf]
  · simp [resOf]

/-- The end of a body without deferred calls. -/
theorem Ret.bodyM {fn : Func} {R : Ending → World → Prop} {σ : St} (l : List SV) (hD : σ.D = []) (hr : resV P σ fn.results.toList = some l)
    (h : ∀ new w, HS G W σ new w → R (.returned (resOf (σ.X ++ new) l)) w) : Ret (bM P fn R) G W σ := by
  intro new a w hs
  show LeavesInM (wf none) 0 P fn a.tmps R a.defers .returning w
  rw [hs.dfr, hD]
  exact ⟨_, run_res hr hs, h new w hs.hs⟩

/-- The end of a body behind a range over a function. -/
theorem Ret.mark {fn : Func} {R : Ending → World → Prop} {σ : St} (i : Nat) (l : List SV) (hD : σ.D = [.mark i]) (hi : σ.L[i]? = some (.obj (.deferred (some []))))
    (hr : resV P { σ with L := setE σ.L i (.obj (.deferred none)), D := [] } fn.results.toList = some l)
    (h : ∀ new w, HS G W { σ with L := setE σ.L i (.obj (.deferred none)), D := [] } new w → R (.returned (resOf (σ.X ++ new) l)) w) : Ret (bM P fn R) G W σ := by
  intro new a w hs
  show LeavesInM (wf none) 0 P fn a.tmps R a.defers .returning w
  rw [hs.dfr, hD]
  have ho := hs.hs.obj hi
  have hp := hs.hs.putObj (.deferred none) hi
  refine ⟨by simp, .inl ⟨(σ.X ++ new).getD i 0, _, rfl, run_takeDeferred ho, ?_⟩⟩
  have hl : (setE σ.L i (.obj (.deferred none))).length = σ.L.length := by simp [setE_eq]
  have hs' : Sat G W { σ with L := setE σ.L i (.obj (.deferred none)), D := [] } new { a with defers := [] } (w.putObj ((σ.X ++ new).getD i 0) (.deferred none)) :=
    ⟨hs.tsz, hs.tmp, fun t sv ht => by rw [hl]; exact hs.tlt t sv ht, rfl, by simp, hp.same rfl rfl⟩
  exact ⟨_, run_res (a := { a with defers := [] }) hr hs', h new _ hs'.hs⟩

theorem resV_tmps {fn : Func} (ht : ∀ r ∈ fn.results.toList, ∃ t, r = .tmp t) (tmps : Array Value) (w w' : World) {v : Value} (h : (results fn tmps).run P w = .ok v w) : (results fn tmps).run P w' = .ok v w' := by
  have gen : ∀ (l : List ResultVar), (∀ r ∈ l, ∃ t, r = .tmp t) → ∃ vs, ∀ w, (l.mapM (rvF tmps)).run P w = .ok vs w := by
    intro l
    induction l with
    | nil => intro _; exact ⟨[], fun w => rfl⟩
    | cons r l ih =>
      intro hl
      obtain ⟨t, rfl⟩ := hl r (by simp)
      obtain ⟨vs, hvs⟩ := ih fun r hr => hl r (by simp [hr])
      refine ⟨tmps.getD t undef :: vs, fun w => ?_⟩
      rw [List.mapM_cons]
      simp only [rvF, Sem.run_bind, Sem.run_pure, Result.andThen_ok, hvs w]
  obtain ⟨vs, hvs⟩ := gen _ ht
  have all : ∀ w, ∃ u, (results fn tmps).run P w = .ok u w ∧ u = (if h : vs.toArray.size = 1 then vs.toArray[0] else .tuple vs.toArray) := by
    intro w
    refine ⟨_, ?_, rfl⟩
    rw [results_eq, Array.mapM_eq_mapM_toList]
    simp only [Sem.run_bind, Sem.run_map, hvs w, Result.andThen_ok, Sem.run_pure]
  obtain ⟨u, hu, hu'⟩ := all w
  obtain ⟨u2, hu2, hu2'⟩ := all w'
  rw [hu] at h
  injection h with h
  rw [hu2, hu2', ← hu', h]

/-- The end of a body with one deferred call. -/
theorem Ret.deferred {fn fn' : Func} {R : Ending → World → Prop} {σ : St} {f : FuncId} {c : Code} {cap : List At} {n : Nat} (l : List SV) (hD : σ.D = [.fn (.func f) cap []]) (hf : P.funcs[f]? = some fn') (hb : fn'.body = some c) (hn : fn'.ntmps = n) (hok : fnOK P f = true)
    (hr : resV P σ fn.results.toList = some l) (ht : ∀ r ∈ fn.results.toList, ∃ t, r = .tmp t)
    (h : ∀ new, σ.X.length + new.length = σ.L.length → Res P (bP P fn' fun e w' => (∃ v, e = .returned v) ∧ R (.returned (resOf (σ.X ++ new) l)) w') G W { T := T0 (cap.map At.sv) n, X := σ.X ++ new, L := σ.L, D := [] } [.code c]) : Ret (bM P fn R) G W σ := by
  intro new a w hs
  show LeavesInM (wf none) 0 P fn a.tmps R a.defers .returning w
  rw [hs.dfr, hD]
  have hlen : (σ.X ++ new).length = σ.L.length := by simpa using hs.hs.len
  have hcap : (cap.map (At.den (σ.X ++ new))).toArray = ((cap.map At.sv).map (SV.den (σ.X ++ new))).toArray := by
    rw [List.map_map]; congr 2; funext c; exact (At.sv_den _ c).symm
  have hlt : ∀ s ∈ cap.map At.sv, s.lt σ.L.length := by
    intro s hs'
    obtain ⟨c, hc, rfl⟩ := List.mem_map.1 hs'
    have := hs.dlt (.fn (.func f) cap []) (by rw [hD]; simp)
    have := this.1 c hc
    cases c <;> exact this
  refine ⟨by simp, .inr ⟨by simp [wf], .func f, (cap.map (At.den (σ.X ++ new))).toArray, f, (cap.map (At.den (σ.X ++ new))).toArray, rfl, ?_, fun _ _ => trivial, ?_⟩⟩
  · unfold fnOK at hok
    split at hok
    · rename_i f' hf'
      simp only [Bool.and_eq_true, bne_iff_ne] at hok
      have hb' : ¬ f'.body = none := by intro hq; simp [hq] at hok
      simp [DSV.den, invoke, callFunc, hf', hok.1, hb']
    · cases hok
  · rw [hcap]
    have hres := run_res hr hs
    have hw := h new (by simpa using hlen) [] _ w (sat_start (W := W) (G := G) (args := cap.map At.sv) (X := σ.X ++ new) (L := σ.L) (n := n) hlt (hs.hs.fix.same rfl rfl))
    refine (callsDIn_of_wp (F := wf none) (n := 0) hf hb trivial (R := fun e w' => (∃ v, e = .returned v) ∧ R (.returned (resOf (σ.X ++ new) l)) w') ?_).mono ?_
    · subst hn
      exact hw
    · rintro e u' w' ⟨rfl, ⟨v, rfl⟩, hR⟩
      exact ⟨_, resV_tmps ht a.tmps w w' hres, hR⟩

/-- A defer statement: a function without arguments. -/
theorem Res.defer {σ : St} {k : List It} {all rest : List Oper} {o : Oper} {c : Call} {g : Operand} {f : Fn} {cs : List At} (ho : o.op = .defer c) (hc : c.callee = .value g) (hca : c.args = #[]) (hg : ev σ g = some (.fn f [] cs))
    (h : Res P Q G W (({ σ with D := .fn f cs [] :: σ.D } : St).put o.dst (.v undef)) (.ops all rest :: k)) (hro : Q.ro = none := by rfl) (hgd : o.guard = none := by rfl) : Res P Q G W σ (.ops all (o :: rest) :: k) := by
  intro new a w hs
  show wpListIn (wf Q.ro) 0 P all.toArray (Wt P Q k) (o :: rest) a w
  unfold wpListIn
  rw [if_pos (by simp [Region.wanted, hgd])]
  obtain ⟨hge, hgl⟩ := ev_sound hs hg
  have hex : (execOp a.eval o).run P w = .ok (.defer ((DSV.fn f cs []).den (σ.X ++ new))) w := by
    simp [execOp, ho, resolve, hc, hge, hca, Deferred.ofValue, SV.den, DSV.den]
  refine ⟨fun _ _ => trivial, ?_⟩
  rw [hro]
  show o.uponIn (wf none) 0 P a _ _ ((execOp a.eval o).run P w)
  rw [hex, Oper.uponIn_defer, ← hro]
  have hs2 : Sat G W { σ with D := .fn f cs [] :: σ.D } new { a with defers := (DSV.fn f cs []).den (σ.X ++ new) :: a.defers } w := by
    refine ⟨hs.tsz, hs.tmp, hs.tlt, by simp [hs.dfr], ?_, hs.hs.same rfl rfl⟩
    intro d hd
    rcases List.mem_cons.1 hd with rfl | hd
    · exact ⟨hgl.2, by simp⟩
    · exact hs.dlt d hd
  exact h new _ w (hs2.put o.dst (.v undef) trivial)

/-- A call that changes a thing of ours; whose blocks are whose is known. -/
theorem CallAt.asnO {σ : St} {f : FuncId} {args : List SV} {dst : Option Tmp} {k : List It} (i : Nat) (A : Asn) (hi : getE σ.L i = some (.asn A)) (Post : Value → Asn → Prop)
    (hc : ∀ new w own, HSo G W σ new w own → Calls P f (args.map (SV.den (σ.X ++ new))).toArray w fun e w' =>
      ∃ v A' O', e = .returned v ∧ Post v A' ∧ A'.R O' ((σ.X ++ new).getD i 0) w' ∧ Chg w w' (own i) O')
    (hk : ∀ v A', Post v A' → Res P Q G W ((σ.ent i (.asn A')).put dst (.v v)) k) : CallAt P Q G W σ f args dst k := by
  intro new a w hs
  rw [getE_eq] at hi
  obtain ⟨own, ho⟩ := hs.hs
  have hil := (List.getElem?_eq_some_iff.1 hi).1
  refine (hc new w own ho).mono ?_
  rintro e w' ⟨v, A', O', rfl, hp, hR, hch⟩
  have hs2 := ho.upd (e := .asn A') (O := O') hil trivial hch.os hch.tape hch.output hch.size hch.block hch.own hR
  have hLl : (σ.ent i (.asn A')).L.length = σ.L.length := by simp [St.ent, setE_eq]
  have : Sat G W (σ.ent i (.asn A')) new a w' := ⟨hs.tsz, hs.tmp, fun t sv ht => by rw [hLl]; exact hs.tlt t sv ht, hs.dfr, fun d hd => by rw [hLl]; exact hs.dlt d hd, _, hs2⟩
  exact hk v A' hp new _ w' (this.put dst (.v v) trivial)

/-- A call that changes a thing of ours, and makes another one. -/
theorem CallAt.asnA {σ : St} {f : FuncId} {args : List SV} {dst : Option Tmp} {k : List It} (i : Nat) (A : Asn) (hi : getE σ.L i = some (.asn A)) (Post : Value → Asn → Asn → Prop)
    (hc : ∀ new w own, HSo G W σ new w own → Calls P f (args.map (SV.den (σ.X ++ new))).toArray w fun e w' =>
      ∃ v A' A2 O' O2, e = .returned v ∧ Post v A' A2 ∧ A'.R O' ((σ.X ++ new).getD i 0) w' ∧ A2.R O2 0 w' ∧ Chg w w' (own i) O' ∧ (∀ b, O2 b → b < w'.heap.size ∧ (w.heap.size ≤ b ∨ own i b)) ∧ (∀ b, O' b → O2 b → False))
    (hk : ∀ v A' A2, Post v A' A2 → Res P Q G W (((σ.ent i (.asn A')).new (.asn A2)).put dst (.v v)) k) : CallAt P Q G W σ f args dst k := by
  intro new a w hs
  rw [getE_eq] at hi
  obtain ⟨own, ho⟩ := hs.hs
  have hil := (List.getElem?_eq_some_iff.1 hi).1
  refine (hc new w own ho).mono ?_
  rintro e w' ⟨v, A', A2, O', O2, rfl, hp, hR, hR2, hch, hO2, hap⟩
  have hLl : (σ.ent i (.asn A')).L.length = σ.L.length := by simp [St.ent, setE_eq]
  have hlen : (σ.X ++ new).length = σ.L.length := by simpa using ho.len
  have hgi : (σ.X ++ (new ++ [0])).getD i 0 = (σ.X ++ new).getD i 0 := by rw [← List.append_assoc, getD_append_lt (by omega)]
  have hs2 : HSo G W ((σ.ent i (.asn A')).new (.asn A2)) (new ++ [0]) w' (fun j => if j = σ.L.length then O2 else if j = i then O' else own j) := by
    have h := ho.change (L' := σ.L.set i (Ent.asn A') ++ [Ent.asn A2]) (new' := [0]) (w' := w') (own' := fun j => if j = σ.L.length then O2 else if j = i then O' else own j) (fun j => j = i) (by simp) hch.os hch.tape hch.output hch.size (fun b hb hn => hch.block b hb (hn i rfl hil)) ?_ ?_ ?_
    · simpa [St.ent, St.new, setE_eq] using h
    · intro j e' hj hje
      have hjl := (List.getElem?_eq_some_iff.1 hje).1
      refine ⟨by rw [List.getElem?_append_left (by simpa using hjl), List.getElem?_set_ne (fun h => hj h.symm)]; exact hje, ?_⟩
      rw [if_neg (by omega), if_neg hj]
    · intro j e' hje hc
      have hjl : j < (σ.L.set i (Ent.asn A') ++ [Ent.asn A2]).length := (List.getElem?_eq_some_iff.1 hje).1
      by_cases hjn : j = σ.L.length
      · subst hjn
        rw [List.getElem?_append_right (by simp)] at hje
        simp at hje
        subst hje
        refine ⟨?_, trivial, fun b hb => ?_⟩
        · simp only [if_true]
          have hg : (σ.X ++ (new ++ [0])).getD σ.L.length 0 = 0 := by
            rw [← List.append_assoc, List.getD_eq_getElem?_getD, List.getElem?_append_right (by omega), hlen]
            simp
          show A2.R O2 _ w'
          rw [hg]; exact hR2
        · simp only [if_true] at hb
          exact ⟨(hO2 b hb).1, (hO2 b hb).2.imp id fun h => ⟨i, rfl, hil, h⟩⟩
      · have : j = i := by
          rcases hc with hc | hc
          · exact hc
          · simp at hjl; omega
        subst this
        rw [List.getElem?_append_left (by simpa using hil), List.getElem?_set_self hil] at hje
        injection hje with hje; subst hje
        refine ⟨?_, trivial, fun b hb => ?_⟩
        · show A'.R _ _ w'
          rw [hgi, if_neg hjn, if_pos rfl]; exact hR
        · rw [if_neg hjn, if_pos rfl] at hb
          exact ⟨(hch.own b hb).1, (hch.own b hb).2.imp id fun h => ⟨j, rfl, hil, h⟩⟩
    · intro a b x ha hb hca hcb hab h1 h2
      have key : ∀ a, a < (σ.L.set i (Ent.asn A') ++ [Ent.asn A2]).length → (a = i ∨ σ.L.length ≤ a) → a = i ∨ a = σ.L.length := by
        intro a ha hc
        simp at ha
        omega
      rcases key a ha hca with rfl | rfl <;> rcases key b hb hcb with rfl | rfl
      · exact hab rfl
      · rw [if_neg (by omega), if_pos rfl] at h1
        rw [if_pos rfl] at h2
        exact hap x h1 h2
      · rw [if_pos rfl] at h1
        rw [if_neg (by omega), if_pos rfl] at h2
        exact hap x h2 h1
      · exact hab rfl
  have hX : ((σ.ent i (.asn A')).new (.asn A2)).X = σ.X := rfl
  have hle : σ.L.length ≤ ((σ.ent i (.asn A')).new (.asn A2)).L.length := by simp [St.new, hLl]
  have : Sat G W ((σ.ent i (.asn A')).new (.asn A2)) (new ++ [0]) a w' := by
    refine ⟨hs.tsz, ?_, fun t sv ht => SV.lt_mono hle (hs.tlt t sv ht), ?_, fun d hd => DSV.lt_mono hle (hs.dlt d hd), _, hs2⟩
    · intro t sv ht
      rw [hs.tmp t sv ht, hX, ← List.append_assoc, SV.den_append (ids := σ.X ++ new) (m := [0])]
      rw [hlen]; exact hs.tlt t sv ht
    · rw [hX, ← List.append_assoc]
      show a.defers = σ.D.map _
      rw [hs.dfr]
      apply List.map_congr_left
      intro d hd
      rw [DSV.den_append (ids := σ.X ++ new) (m := [0])]
      rw [hlen]; exact hs.dlt d hd
  exact hk v A' A2 hp _ _ w' (this.put dst (.v v) trivial)
end defers
set_option linter.defProp false
/-- All equations by which the conditions are reckoned, as one. -/
theorem E : type_of% (And.intro (And.intro (And.intro (And.intro (And.intro (And.intro (And.intro (And.intro @vop.eq_1 @vop.eq_2) (And.intro @vop.eq_3 (And.intro @vSp.eq_1 @vSp.eq_2))) (And.intro (And.intro @vgo.eq_1 (And.intro @vgo.eq_2 @vgo.eq_3)) (And.intro @vif.eq_1 (And.intro @vif.eq_2 @vex.eq_1)))) (And.intro (And.intro (And.intro @vex.eq_2 @gd.eq_1) (And.intro @gd.eq_2 (And.intro @gdT.eq_1 @gdT.eq_2))) (And.intro (And.intro @gdT.eq_3 (And.intro @gUsed.eq_1 @gUsed.eq_2)) (And.intro @gSplit.eq_1 (And.intro @gSplit.eq_2 @exec.eq_1))))) (And.intro (And.intro (And.intro (And.intro @vOf.eq_1 @vOf.eq_2) (And.intro @ev.eq_1 (And.intro @ev.eq_2 @ev.eq_3))) (And.intro (And.intro @ev.eq_4 (And.intro @evs.eq_1 @evs.eq_2)) (And.intro @ats.eq_1 (And.intro @ats.eq_2 @SV.at?.eq_1)))) (And.intro (And.intro (And.intro @SV.at?.eq_2 @SV.at?.eq_3) (And.intro @SV.at?.eq_4 (And.intro @SV.at?.eq_5 @getT.eq_1))) (And.intro (And.intro @getT.eq_2 (And.intro @getT.eq_3 @setT.eq_1)) (And.intro @setT.eq_2 (And.intro @setT.eq_3 @getE.eq_1)))))) (And.intro (And.intro (And.intro (And.intro (And.intro @getE.eq_2 @getE.eq_3) (And.intro @setE.eq_1 (And.intro @setE.eq_2 @setE.eq_3))) (And.intro (And.intro @getC.eq_1 (And.intro @getC.eq_2 @getC.eq_3)) (And.intro @sub.eq_1 (And.intro @sub.eq_2 @sub.eq_3)))) (And.intro (And.intro (And.intro @sub.eq_4 @spl.eq_1) (And.intro @spl.eq_2 (And.intro @spl.eq_3 @spl.eq_4))) (And.intro (And.intro @getF.eq_1 (And.intro @getF.eq_2 @getF.eq_3)) (And.intro @getV.eq_1 (And.intro @getV.eq_2 @getV.eq_3))))) (And.intro (And.intro (And.intro (And.intro @cellsOf.eq_1 @cellsOf.eq_2) (And.intro @cellsOf.eq_3 (And.intro @one.eq_1 @one.eq_2))) (And.intro (And.intro @one.eq_3 (And.intro @ones.eq_1 @ones.eq_2)) (And.intro @atsOf.eq_1 (And.intro @atsOf.eq_2 @atsOf.eq_3)))) (And.intro (And.intro (And.intro @fillC.eq_1 (And.intro @fillC.eq_2 @St.put.eq_1)) (And.intro @St.put.eq_2 (And.intro @St.new.eq_1 @St.ent.eq_1))) (And.intro (And.intro @popTo.eq_1 (And.intro @popTo.eq_2 @popTo.eq_3)) (And.intro @exLoad.eq_1 (And.intro @exStore.eq_1 @exField.eq_1))))))) (And.intro (And.intro (And.intro (And.intro (And.intro (And.intro @exBin.eq_1 @exBin.eq_2) (And.intro @exBin.eq_3 (And.intro @exBin.eq_4 @exBin.eq_5))) (And.intro (And.intro @exBin.eq_6 (And.intro @exBin.eq_7 @exBin.eq_8)) (And.intro @exBin.eq_9 (And.intro @exBin.eq_10 @exBin.eq_11)))) (And.intro (And.intro (And.intro @exBin.eq_12 @exIndex.eq_1) (And.intro @exIx.eq_1 (And.intro @exIx.eq_2 @exIx.eq_3))) (And.intro (And.intro @exIx.eq_4 (And.intro @exIx.eq_5 @exIx.eq_6)) (And.intro @exLen.eq_1 (And.intro @exLn.eq_1 @exLn.eq_2))))) (And.intro (And.intro (And.intro (And.intro @exLn.eq_3 @exLn.eq_4) (And.intro @exSlice.eq_1 (And.intro @exSl.eq_1 @exSl.eq_2))) (And.intro (And.intro @exSl.eq_3 (And.intro @exSl.eq_4 @exSl.eq_5)) (And.intro @exSl.eq_6 (And.intro @exSl.eq_7 @exSl.eq_8)))) (And.intro (And.intro (And.intro @exSl.eq_9 @exSl.eq_10) (And.intro @exSl.eq_11 (And.intro @exSlice3.eq_1 @exSl3.eq_1))) (And.intro (And.intro @exSl3.eq_2 (And.intro @exSl3.eq_3 @exSl3.eq_4)) (And.intro @exSl3.eq_5 (And.intro @exBuild.eq_1 @getA.eq_1)))))) (And.intro (And.intro (And.intro (And.intro (And.intro @getA.eq_2 @getA.eq_3) (And.intro @subA.eq_1 (And.intro @subA.eq_2 @subA.eq_3))) (And.intro (And.intro @subA.eq_4 (And.intro @exFl.eq_1 @exFl.eq_2)) (And.intro @exFl.eq_3 (And.intro @exFld.eq_1 @exOf.eq_1)))) (And.intro (And.intro (And.intro @exOf.eq_2 @exOf.eq_3) (And.intro @exSub.eq_1 (And.intro @rdL.eq_1 @rdL.eq_2))) (And.intro (And.intro @nilOf.eq_1 (And.intro @nilOf.eq_2 @nilOf.eq_3)) (And.intro @nilOf.eq_4 (And.intro @nilOf.eq_5 @nilOf.eq_6))))) (And.intro (And.intro (And.intro (And.intro @nilOf.eq_7 @nilOf.eq_8) (And.intro @nilOf.eq_9 (And.intro @nilOf.eq_10 @nilOf.eq_11))) (And.intro (And.intro @nilOf.eq_12 (And.intro @isNil.eq_1 @isNil.eq_2)) (And.intro @isNil.eq_3 (And.intro @isNil.eq_4 @isNil.eq_5)))) (And.intro (And.intro (And.intro @nilKind.eq_1 (And.intro @nilKind.eq_2 @nilKind.eq_3)) (And.intro @nilKind.eq_4 (And.intro @nilKind.eq_5 @nilKind.eq_6))) (And.intro (And.intro @nilKind.eq_7 (And.intro @nilKind.eq_8 @nilKind.eq_9)) (And.intro @eqB.eq_1 (And.intro @eqB.eq_2 @eqB.eq_3)))))))) (And.intro (And.intro (And.intro (And.intro (And.intro (And.intro (And.intro @nilR.eq_1 @nilR.eq_2) (And.intro @cmpI.eq_1 (And.intro @cmpI.eq_2 @cmpI.eq_3))) (And.intro (And.intro @cmpI.eq_4 (And.intro @cmpI.eq_5 @cmpI.eq_6)) (And.intro @cmpI.eq_7 (And.intro @valsOf.eq_1 @valsOf.eq_2)))) (And.intro (And.intro (And.intro @valsOf.eq_3 @svVals.eq_1) (And.intro @svVals.eq_2 (And.intro @svVals.eq_3 @eqVs.eq_1))) (And.intro (And.intro @eqVs.eq_2 (And.intro @eqVs.eq_3 @eqV.eq_1)) (And.intro @eqV.eq_2 (And.intro @eqV.eq_3 @eqV.eq_4))))) (And.intro (And.intro (And.intro (And.intro @At.sv.eq_1 @At.sv.eq_2) (And.intro @At.sv.eq_3 (And.intro @resV.eq_1 @resV.eq_2))) (And.intro (And.intro @resV.eq_3 (And.intro @Value.oneCell'.eq_1 @Value.oneCell'.eq_2)) (And.intro @Value.oneCell'.eq_3 (And.intro @isQ.eq_1 @isQ.eq_2)))) (And.intro (And.intro (And.intro @isQ.eq_3 @isQ.eq_4) (And.intro @isQ.eq_5 (And.intro @isQ.eq_6 @qSp.eq_1))) (And.intro (And.intro @qSp.eq_2 (And.intro @qGo.eq_1 @qGo.eq_2)) (And.intro @qGo.eq_3 (And.intro @qIs.eq_1 @qIs.eq_2)))))) (And.intro (And.intro (And.intro (And.intro (And.intro @qGd.eq_1 @qGd.eq_2) (And.intro @qGd.eq_3 (And.intro @vq.eq_1 @vq.eq_2))) (And.intro (And.intro @mkT.eq_1 (And.intro @mkT.eq_2 @LeT.eq_1)) (And.intro @LeT.eq_2 (And.intro @LeT.eq_3 @LeT.eq_4)))) (And.intro (And.intro (And.intro @LeL.eq_1 @LeL.eq_2) (And.intro @LeL.eq_3 (And.intro @LeL.eq_4 @ltAs.eq_1))) (And.intro (And.intro @ltAs.eq_2 (And.intro @ltAs.eq_3 @ltAs.eq_4)) (And.intro @ltS.eq_1 (And.intro @ltS.eq_2 @ltS.eq_3))))) (And.intro (And.intro (And.intro (And.intro @ltS.eq_4 @ltS.eq_5) (And.intro @ltS.eq_6 (And.intro @ltTs.eq_1 @ltTs.eq_2))) (And.intro (And.intro @ltTs.eq_3 (And.intro @ltCs.eq_1 @ltCs.eq_2)) (And.intro @ltEs.eq_1 (And.intro @ltEs.eq_2 @ltEs.eq_3)))) (And.intro (And.intro (And.intro @gVs.eq_1 (And.intro @gVs.eq_2 @bsF.eq_1)) (And.intro @bsF.eq_2 (And.intro @repV.eq_1 @repV.eq_2))) (And.intro (And.intro @exBSl.eq_1 (And.intro @elemOf.eq_1 @getO.eq_1)) (And.intro @getO.eq_2 (And.intro @getO.eq_3 @LSpad.eq_1))))))) (And.intro (And.intro (And.intro (And.intro (And.intro (And.intro @SChk.eq_1 @aSp.eq_1) (And.intro @aSp.eq_2 (And.intro @aTk.eq_1 @aTk.eq_2))) (And.intro (And.intro @aIs.eq_1 (And.intro @aIs.eq_2 @aGd.eq_1)) (And.intro @aGd.eq_2 (And.intro @aGd.eq_3 @aTake.eq_1)))) (And.intro (And.intro (And.intro @aTake.eq_2 @aEx.eq_1) (And.intro @aEx.eq_2 (And.intro @aEx.eq_3 @aRg.eq_1))) (And.intro (And.intro @aRg.eq_2 (And.intro @aRg.eq_3 @aRun.eq_1)) (And.intro @aRun.eq_2 (And.intro @aAlt.eq_1 @aAlt.eq_2))))) (And.intro (And.intro (And.intro (And.intro @aFin.eq_1 @aFin.eq_2) (And.intro @aPlan.eq_1 (And.intro @aPlan.eq_2 @aPlan.eq_3))) (And.intro (And.intro @aChk.eq_1 (And.intro @aChk.eq_2 @rowOf.eq_1)) (And.intro @rowOf.eq_2 (And.intro @rowOf.eq_3 @killE.eq_1)))) (And.intro (And.intro (And.intro @killE.eq_2 @St.merge.eq_1) (And.intro @Go.undef.eq_1 (And.intro @vc_nil @vc_rnd))) (And.intro (And.intro @vc_any (And.intro @vc_blk @vc_done)) (And.intro @vc_op (And.intro @vc_skip @vc_seq)))))) (And.intro (And.intro (And.intro (And.intro (And.intro @vc_block @vc_region) (And.intro @vc_draw (And.intro @vc_cond @vc_exit))) (And.intro (And.intro @vc_ret (And.intro @vc_loop @vc_rf)) (And.intro @vc_scope (And.intro @Br_true @Br_false)))) (And.intro (And.intro (And.intro @qBr_true @qBr_false) (And.intro @pAdd_add (And.intro @pAdd_zero @isPre_self))) (And.intro (And.intro @isPre_app (And.intro @isPre_app2 @List.map_cons.{0,0})) (And.intro @List.map_nil.{0,0} (And.intro @List.length_cons.{0} @List.length_nil.{0}))))) (And.intro (And.intro (And.intro (And.intro @List.cons_append.{0} @List.nil_append.{0}) (And.intro @List.append_nil.{0} (And.intro @Option.isSome_some.{0} @Bool.or_true))) (And.intro (And.intro @Bool.true_or (And.intro @Bool.or_false @Bool.false_or)) (And.intro @Bool.and_true (And.intro @Bool.true_and @Bool.and_false)))) (And.intro (And.intro (And.intro @Bool.false_and (And.intro @Bool.not_true @Bool.not_false)) (And.intro @Option.isSome_none.{0} (And.intro @List.replicate_succ.{0} @List.replicate_zero.{0}))) (And.intro (And.intro @T0.eq_1 (And.intro @decide_true @decide_false)) (And.intro @eq_self.{1} (And.intro @List.set_cons_zero.{0} @List.set_cons_succ.{0}))))))))) := (And.intro (And.intro (And.intro (And.intro (And.intro (And.intro (And.intro (And.intro @vop.eq_1 @vop.eq_2) (And.intro @vop.eq_3 (And.intro @vSp.eq_1 @vSp.eq_2))) (And.intro (And.intro @vgo.eq_1 (And.intro @vgo.eq_2 @vgo.eq_3)) (And.intro @vif.eq_1 (And.intro @vif.eq_2 @vex.eq_1)))) (And.intro (And.intro (And.intro @vex.eq_2 @gd.eq_1) (And.intro @gd.eq_2 (And.intro @gdT.eq_1 @gdT.eq_2))) (And.intro (And.intro @gdT.eq_3 (And.intro @gUsed.eq_1 @gUsed.eq_2)) (And.intro @gSplit.eq_1 (And.intro @gSplit.eq_2 @exec.eq_1))))) (And.intro (And.intro (And.intro (And.intro @vOf.eq_1 @vOf.eq_2) (And.intro @ev.eq_1 (And.intro @ev.eq_2 @ev.eq_3))) (And.intro (And.intro @ev.eq_4 (And.intro @evs.eq_1 @evs.eq_2)) (And.intro @ats.eq_1 (And.intro @ats.eq_2 @SV.at?.eq_1)))) (And.intro (And.intro (And.intro @SV.at?.eq_2 @SV.at?.eq_3) (And.intro @SV.at?.eq_4 (And.intro @SV.at?.eq_5 @getT.eq_1))) (And.intro (And.intro @getT.eq_2 (And.intro @getT.eq_3 @setT.eq_1)) (And.intro @setT.eq_2 (And.intro @setT.eq_3 @getE.eq_1)))))) (And.intro (And.intro (And.intro (And.intro (And.intro @getE.eq_2 @getE.eq_3) (And.intro @setE.eq_1 (And.intro @setE.eq_2 @setE.eq_3))) (And.intro (And.intro @getC.eq_1 (And.intro @getC.eq_2 @getC.eq_3)) (And.intro @sub.eq_1 (And.intro @sub.eq_2 @sub.eq_3)))) (And.intro (And.intro (And.intro @sub.eq_4 @spl.eq_1) (And.intro @spl.eq_2 (And.intro @spl.eq_3 @spl.eq_4))) (And.intro (And.intro @getF.eq_1 (And.intro @getF.eq_2 @getF.eq_3)) (And.intro @getV.eq_1 (And.intro @getV.eq_2 @getV.eq_3))))) (And.intro (And.intro (And.intro (And.intro @cellsOf.eq_1 @cellsOf.eq_2) (And.intro @cellsOf.eq_3 (And.intro @one.eq_1 @one.eq_2))) (And.intro (And.intro @one.eq_3 (And.intro @ones.eq_1 @ones.eq_2)) (And.intro @atsOf.eq_1 (And.intro @atsOf.eq_2 @atsOf.eq_3)))) (And.intro (And.intro (And.intro @fillC.eq_1 (And.intro @fillC.eq_2 @St.put.eq_1)) (And.intro @St.put.eq_2 (And.intro @St.new.eq_1 @St.ent.eq_1))) (And.intro (And.intro @popTo.eq_1 (And.intro @popTo.eq_2 @popTo.eq_3)) (And.intro @exLoad.eq_1 (And.intro @exStore.eq_1 @exField.eq_1))))))) (And.intro (And.intro (And.intro (And.intro (And.intro (And.intro @exBin.eq_1 @exBin.eq_2) (And.intro @exBin.eq_3 (And.intro @exBin.eq_4 @exBin.eq_5))) (And.intro (And.intro @exBin.eq_6 (And.intro @exBin.eq_7 @exBin.eq_8)) (And.intro @exBin.eq_9 (And.intro @exBin.eq_10 @exBin.eq_11)))) (And.intro (And.intro (And.intro @exBin.eq_12 @exIndex.eq_1) (And.intro @exIx.eq_1 (And.intro @exIx.eq_2 @exIx.eq_3))) (And.intro (And.intro @exIx.eq_4 (And.intro @exIx.eq_5 @exIx.eq_6)) (And.intro @exLen.eq_1 (And.intro @exLn.eq_1 @exLn.eq_2))))) (And.intro (And.intro (And.intro (And.intro @exLn.eq_3 @exLn.eq_4) (And.intro @exSlice.eq_1 (And.intro @exSl.eq_1 @exSl.eq_2))) (And.intro (And.intro @exSl.eq_3 (And.intro @exSl.eq_4 @exSl.eq_5)) (And.intro @exSl.eq_6 (And.intro @exSl.eq_7 @exSl.eq_8)))) (And.intro (And.intro (And.intro @exSl.eq_9 @exSl.eq_10) (And.intro @exSl.eq_11 (And.intro @exSlice3.eq_1 @exSl3.eq_1))) (And.intro (And.intro @exSl3.eq_2 (And.intro @exSl3.eq_3 @exSl3.eq_4)) (And.intro @exSl3.eq_5 (And.intro @exBuild.eq_1 @getA.eq_1)))))) (And.intro (And.intro (And.intro (And.intro (And.intro @getA.eq_2 @getA.eq_3) (And.intro @subA.eq_1 (And.intro @subA.eq_2 @subA.eq_3))) (And.intro (And.intro @subA.eq_4 (And.intro @exFl.eq_1 @exFl.eq_2)) (And.intro @exFl.eq_3 (And.intro @exFld.eq_1 @exOf.eq_1)))) (And.intro (And.intro (And.intro @exOf.eq_2 @exOf.eq_3) (And.intro @exSub.eq_1 (And.intro @rdL.eq_1 @rdL.eq_2))) (And.intro (And.intro @nilOf.eq_1 (And.intro @nilOf.eq_2 @nilOf.eq_3)) (And.intro @nilOf.eq_4 (And.intro @nilOf.eq_5 @nilOf.eq_6))))) (And.intro (And.intro (And.intro (And.intro @nilOf.eq_7 @nilOf.eq_8) (And.intro @nilOf.eq_9 (And.intro @nilOf.eq_10 @nilOf.eq_11))) (And.intro (And.intro @nilOf.eq_12 (And.intro @isNil.eq_1 @isNil.eq_2)) (And.intro @isNil.eq_3 (And.intro @isNil.eq_4 @isNil.eq_5)))) (And.intro (And.intro (And.intro @nilKind.eq_1 (And.intro @nilKind.eq_2 @nilKind.eq_3)) (And.intro @nilKind.eq_4 (And.intro @nilKind.eq_5 @nilKind.eq_6))) (And.intro (And.intro @nilKind.eq_7 (And.intro @nilKind.eq_8 @nilKind.eq_9)) (And.intro @eqB.eq_1 (And.intro @eqB.eq_2 @eqB.eq_3)))))))) (And.intro (And.intro (And.intro (And.intro (And.intro (And.intro (And.intro @nilR.eq_1 @nilR.eq_2) (And.intro @cmpI.eq_1 (And.intro @cmpI.eq_2 @cmpI.eq_3))) (And.intro (And.intro @cmpI.eq_4 (And.intro @cmpI.eq_5 @cmpI.eq_6)) (And.intro @cmpI.eq_7 (And.intro @valsOf.eq_1 @valsOf.eq_2)))) (And.intro (And.intro (And.intro @valsOf.eq_3 @svVals.eq_1) (And.intro @svVals.eq_2 (And.intro @svVals.eq_3 @eqVs.eq_1))) (And.intro (And.intro @eqVs.eq_2 (And.intro @eqVs.eq_3 @eqV.eq_1)) (And.intro @eqV.eq_2 (And.intro @eqV.eq_3 @eqV.eq_4))))) (And.intro (And.intro (And.intro (And.intro @At.sv.eq_1 @At.sv.eq_2) (And.intro @At.sv.eq_3 (And.intro @resV.eq_1 @resV.eq_2))) (And.intro (And.intro @resV.eq_3 (And.intro @Value.oneCell'.eq_1 @Value.oneCell'.eq_2)) (And.intro @Value.oneCell'.eq_3 (And.intro @isQ.eq_1 @isQ.eq_2)))) (And.intro (And.intro (And.intro @isQ.eq_3 @isQ.eq_4) (And.intro @isQ.eq_5 (And.intro @isQ.eq_6 @qSp.eq_1))) (And.intro (And.intro @qSp.eq_2 (And.intro @qGo.eq_1 @qGo.eq_2)) (And.intro @qGo.eq_3 (And.intro @qIs.eq_1 @qIs.eq_2)))))) (And.intro (And.intro (And.intro (And.intro (And.intro @qGd.eq_1 @qGd.eq_2) (And.intro @qGd.eq_3 (And.intro @vq.eq_1 @vq.eq_2))) (And.intro (And.intro @mkT.eq_1 (And.intro @mkT.eq_2 @LeT.eq_1)) (And.intro @LeT.eq_2 (And.intro @LeT.eq_3 @LeT.eq_4)))) (And.intro (And.intro (And.intro @LeL.eq_1 @LeL.eq_2) (And.intro @LeL.eq_3 (And.intro @LeL.eq_4 @ltAs.eq_1))) (And.intro (And.intro @ltAs.eq_2 (And.intro @ltAs.eq_3 @ltAs.eq_4)) (And.intro @ltS.eq_1 (And.intro @ltS.eq_2 @ltS.eq_3))))) (And.intro (And.intro (And.intro (And.intro @ltS.eq_4 @ltS.eq_5) (And.intro @ltS.eq_6 (And.intro @ltTs.eq_1 @ltTs.eq_2))) (And.intro (And.intro @ltTs.eq_3 (And.intro @ltCs.eq_1 @ltCs.eq_2)) (And.intro @ltEs.eq_1 (And.intro @ltEs.eq_2 @ltEs.eq_3)))) (And.intro (And.intro (And.intro @gVs.eq_1 (And.intro @gVs.eq_2 @bsF.eq_1)) (And.intro @bsF.eq_2 (And.intro @repV.eq_1 @repV.eq_2))) (And.intro (And.intro @exBSl.eq_1 (And.intro @elemOf.eq_1 @getO.eq_1)) (And.intro @getO.eq_2 (And.intro @getO.eq_3 @LSpad.eq_1))))))) (And.intro (And.intro (And.intro (And.intro (And.intro (And.intro @SChk.eq_1 @aSp.eq_1) (And.intro @aSp.eq_2 (And.intro @aTk.eq_1 @aTk.eq_2))) (And.intro (And.intro @aIs.eq_1 (And.intro @aIs.eq_2 @aGd.eq_1)) (And.intro @aGd.eq_2 (And.intro @aGd.eq_3 @aTake.eq_1)))) (And.intro (And.intro (And.intro @aTake.eq_2 @aEx.eq_1) (And.intro @aEx.eq_2 (And.intro @aEx.eq_3 @aRg.eq_1))) (And.intro (And.intro @aRg.eq_2 (And.intro @aRg.eq_3 @aRun.eq_1)) (And.intro @aRun.eq_2 (And.intro @aAlt.eq_1 @aAlt.eq_2))))) (And.intro (And.intro (And.intro (And.intro @aFin.eq_1 @aFin.eq_2) (And.intro @aPlan.eq_1 (And.intro @aPlan.eq_2 @aPlan.eq_3))) (And.intro (And.intro @aChk.eq_1 (And.intro @aChk.eq_2 @rowOf.eq_1)) (And.intro @rowOf.eq_2 (And.intro @rowOf.eq_3 @killE.eq_1)))) (And.intro (And.intro (And.intro @killE.eq_2 @St.merge.eq_1) (And.intro @Go.undef.eq_1 (And.intro @vc_nil @vc_rnd))) (And.intro (And.intro @vc_any (And.intro @vc_blk @vc_done)) (And.intro @vc_op (And.intro @vc_skip @vc_seq)))))) (And.intro (And.intro (And.intro (And.intro (And.intro @vc_block @vc_region) (And.intro @vc_draw (And.intro @vc_cond @vc_exit))) (And.intro (And.intro @vc_ret (And.intro @vc_loop @vc_rf)) (And.intro @vc_scope (And.intro @Br_true @Br_false)))) (And.intro (And.intro (And.intro @qBr_true @qBr_false) (And.intro @pAdd_add (And.intro @pAdd_zero @isPre_self))) (And.intro (And.intro @isPre_app (And.intro @isPre_app2 @List.map_cons.{0,0})) (And.intro @List.map_nil.{0,0} (And.intro @List.length_cons.{0} @List.length_nil.{0}))))) (And.intro (And.intro (And.intro (And.intro @List.cons_append.{0} @List.nil_append.{0}) (And.intro @List.append_nil.{0} (And.intro @Option.isSome_some.{0} @Bool.or_true))) (And.intro (And.intro @Bool.true_or (And.intro @Bool.or_false @Bool.false_or)) (And.intro @Bool.and_true (And.intro @Bool.true_and @Bool.and_false)))) (And.intro (And.intro (And.intro @Bool.false_and (And.intro @Bool.not_true @Bool.not_false)) (And.intro @Option.isSome_none.{0} (And.intro @List.replicate_succ.{0} @List.replicate_zero.{0}))) (And.intro (And.intro @T0.eq_1 (And.intro @decide_true @decide_false)) (And.intro @eq_self.{1} (And.intro @List.set_cons_zero.{0} @List.set_cons_succ.{0})))))))))

theorem ite_tt {α : Type} (a b : α) : (if True then a else b) = a := if_pos trivial
theorem ite_ff {α : Type} (a b : α) : (if False then a else b) = b := if_neg (fun h => h)
theorem bool_ff : (false = true) = False := by simp
theorem bool_tt : (true = true) = True := by simp
theorem bool_tf : (true = false) = False := by simp
theorem and_tr (p : Prop) : (True ∧ p) = p := true_and p
theorem and_tl (p : Prop) : (p ∧ True) = p := and_true p
theorem beq_k1 : (1 : Nat) == 1 := rfl
/-- What is of logic. -/
theorem E' : type_of% (And.intro (@ite_tt) (And.intro (@ite_ff) (And.intro bool_ff (And.intro bool_tt (And.intro bool_tf (And.intro and_tr and_tl)))))) := And.intro (@ite_tt) (And.intro (@ite_ff) (And.intro bool_ff (And.intro bool_tt (And.intro bool_tf (And.intro and_tr and_tl)))))
end Go.Eng
