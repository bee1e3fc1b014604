/-
  The engine, second part: every operation is right.
-/
import Derived.Test.YtkcbmkoafmffoaaDoorEngA
set_option linter.unusedSimpArgs false
set_option linter.unusedVariables false
namespace Go.Eng
open Go

/-! ### every operation is right -/
section sound
variable {P : Program} {G : Nat → Prop} {W : World} {σ : St} {new : List Nat} {a : Act} {w : World}

theorem ev_sound (hs : Sat G W σ new a w) {x : Operand} {s : SV} (h : ev σ x = some s) : a.eval x = s.den (σ.X ++ new) ∧ s.lt σ.L.length := by
  cases x with
  | tmp t => exact ⟨hs.tmp t s h, hs.tlt t s h⟩
  | const v => simp only [ev] at h; injection h with h; subst h; exact ⟨rfl, trivial⟩
  | global g => simp only [ev] at h; injection h with h; subst h; exact ⟨rfl, trivial⟩
  | func f => simp only [ev] at h; injection h with h; subst h; exact ⟨rfl, trivial⟩

theorem HS.ent_get (h : HS G W σ new w) {i : Nat} {ty : TypeId} {cs : List SV} (hi : getE σ.L i = some (.cells ty cs)) :
    w.heap[(σ.X ++ new).getD i 0]? = some (.cells (cs.map (SV.den (σ.X ++ new))).toArray ty (0, 0)) ∧ (∀ c ∈ cs, c.lt σ.L.length) := by
  rw [getE_eq] at hi
  obtain ⟨own, h⟩ := h
  exact ⟨(h.ok i _ hi).2, h.entlt _ (List.mem_of_getElem? hi)⟩
theorem HS.row_get (h : HS G W σ new w) {i : Nat} {nl : Bool} {ty : TypeId} {cur : List Value} (hi : getE σ.L i = some (.row nl ty cur)) (hn : nl = false) :
    w.heap[(σ.X ++ new).getD i 0]? = some (.cells cur.toArray ty (0, 0)) := by
  rw [getE_eq] at hi
  obtain ⟨own, h⟩ := h
  exact (h.ok i _ hi hn).2

theorem gVs_length (l : List Value) (off : Nat) : ∀ n j, (gVs l off j n).length = n
  | 0, _ => rfl
  | n + 1, j => by simp [gVs, gVs_length l off n]
theorem gVs_get (l : List Value) (off : Nat) : ∀ (n j i : Nat), i < n → (gVs l off j n)[i]? = some (.v (gV l (off + (j + i))))
  | 0, _, i, h => by omega
  | n + 1, j, 0, _ => by simp [gVs]
  | n + 1, j, i + 1, h => by
    simp only [gVs, List.getElem?_cons_succ]
    rw [gVs_get l off n (j + 1) i (by omega), show j + 1 + i = j + (i + 1) by omega]
theorem gVs_lt (l : List Value) (off m : Nat) : ∀ n j, ∀ c ∈ gVs l off j n, c.lt m
  | 0, _, c, h => by simp [gVs] at h
  | n + 1, j, c, h => by
    simp only [gVs, List.mem_cons] at h
    rcases h with rfl | h
    · trivial
    · exact gVs_lt l off m n (j + 1) c h
theorem gV_some {l : List Value} {i : Nat} (h : i < l.length) : l[i]? = some (gV l i) := by simp [gV, h]
theorem putV_spec : ∀ (l : List Value) (off : Nat) (vs : List Value), off + vs.length ≤ l.length → putV l off vs = l.take off ++ vs ++ l.drop (off + vs.length)
  | l, off, [], _ => by simp [putV]
  | l, off, v :: vs, h => by
    simp only [List.length_cons] at h
    rw [putV, putV_spec _ (off + 1) vs (by simp; omega)]
    exact list_seg_step l off v vs (by omega)

theorem cell_of_row {w : World} {b : Nat} {l : List Value} {ty : TypeId} (h : w.heap[b]? = some (.cells l.toArray ty (0, 0))) (o : Nat) : w.cell? ⟨b, o, none⟩ = l[o]? := by
  simp [World.cell?, h]

theorem addr_add (b o n : Nat) : (⟨b, o, none⟩ : Addr).add n = ⟨b, o + n, none⟩ := by
  unfold Addr.add; split <;> simp_all

theorem pAdd_add (A : Option Addr) (m n : Nat) : pAdd (pAdd A m) n = pAdd A (m + n) := by
  cases A with
  | none => rfl
  | some ad =>
    simp only [pAdd, Option.map_some]
    congr 1
    unfold Addr.add
    by_cases h1 : m = 0
    · subst h1; simp
    · by_cases h2 : n = 0
      · subst h2; simp [h1]
      · rw [if_neg h1, if_neg h2, if_neg (by omega)]; simp [Nat.add_assoc]

theorem pAdd_zero (A : Option Addr) : pAdd A 0 = A := by cases A <;> rfl

theorem add_block (ad : Addr) (n : Nat) : (ad.add n).block = ad.block := by unfold Addr.add; split <;> rfl
theorem add_add (ad : Addr) (m n : Nat) : (ad.add m).add n = ad.add (m + n) := by
  have := pAdd_add (some ad) m n
  simpa [pAdd] using this

theorem exOf_den {s : SV} {A : Option Addr} {off : Nat} (h : exOf s = some (A, off)) (ids : List Nat) : s.den ids = .pointer (pAdd A off) := by
  cases s with
  | v x =>
    cases x <;> simp [exOf] at h
    obtain ⟨rfl, rfl⟩ := h
    simp [SV.den, pAdd_zero]
  | ex B o => simp [exOf] at h; obtain ⟨rfl, rfl⟩ := h; rfl
  | _ => simp [exOf] at h

theorem run_loadVar_agg {t : TypeId} {ti : TyI} (ht : tyI P t = some ti) (hag : ti.agg = true) {ad : Addr} {cs : List Value} (hl : cs.length = ti.size) (hc : ∀ j v, cs[j]? = some v → w.cell? (ad.add j) = some v) :
    (loadVar t ad).run P w = .ok (.agg cs.toArray) w := by
  unfold loadVar
  simp only [Sem.run_bind, run_isAgg ht, Result.andThen_ok, hag, if_true, run_sizeOf ht]
  rw [← hl, run_loadCells_list (P := P) w ad cs hc]
  rfl

theorem run_loadVar_one {t : TypeId} {ti : TyI} (ht : tyI P t = some ti) (hag : ti.agg = false) {ad : Addr} {v : Value} (hc : w.cell? ad = some v) :
    (loadVar t ad).run P w = .ok v w := by
  unfold loadVar
  simp only [Sem.run_bind, run_isAgg ht, Result.andThen_ok, hag, Bool.false_eq_true, if_false]
  simp [run_load, hc]

theorem rdL_length (W : World) (A : Option Addr) : ∀ (n off : Nat), (rdL W A off n).length = n
  | 0, _ => rfl
  | n + 1, off => by simp [rdL, rdL_length W A n (off + 1)]
theorem rdL_get (W : World) (A : Option Addr) : ∀ (n off j : Nat), j < n → (rdL W A off n)[j]? = some (.v (rd W A (off + j)))
  | 0, _, j, h => by omega
  | n + 1, off, 0, _ => by simp [rdL]
  | n + 1, off, j + 1, h => by
    simp only [rdL, List.getElem?_cons_succ]
    rw [rdL_get W A n (off + 1) j (by omega), show off + 1 + j = off + (j + 1) by omega]
theorem rdL_lt (W : World) (A : Option Addr) (m : Nat) : ∀ (n off : Nat), ∀ c ∈ rdL W A off n, c.lt m
  | 0, _, c, h => by simp [rdL] at h
  | n + 1, off, c, h => by
    simp only [rdL, List.mem_cons] at h
    rcases h with rfl | h
    · trivial
    · exact rdL_lt W A m n (off + 1) c h

theorem exLoad_sound (hs : Sat G W σ new a w) {t : TypeId} {s s' : SV} {ob : Prop} (h : exLoad P G W σ t s = some (ob, s')) (hob : ob) :
    s'.lt σ.L.length ∧ (Instr.loadAt t (s.den (σ.X ++ new))).run P w = .ok (s'.den (σ.X ++ new)) w := by
  unfold exLoad at h
  split at h
  · cases h
  rename_i ti ht
  split at h
  · rename_i i off
    split at h
    · rename_i ty cs he
      obtain ⟨hrow, hlt⟩ := hs.hs.ent_get he
      have hrun : (Instr.loadAt t ((SV.p i off).den (σ.X ++ new))).run P w = (loadVar t ⟨(σ.X ++ new).getD i 0, off, none⟩).run P w := by
        simp [Instr.loadAt, SV.den, Instr.sureAddr]
      split at h
      · rename_i hag
        split at h
        · rename_i l hl
          obtain ⟨h1, h2⟩ := sub_spec (σ.X ++ new) cs off ti.size l hl
          injection h with h; injection h with h1' h2'; subst h2'
          refine ⟨?_, ?_⟩
          · intro c hc
            obtain ⟨j, hj⟩ := List.mem_iff_getElem?.1 hc
            obtain ⟨s, h3, h4, h5⟩ := h2 j c hj
            exact h5 _ (hlt s (List.mem_of_getElem? h3))
          · rw [hrun]
            refine run_loadVar_agg ht hag (by simpa using h1) ?_
            intro j v hj
            simp only [List.getElem?_map, Option.map_eq_some_iff] at hj
            obtain ⟨c, hc, rfl⟩ := hj
            obtain ⟨s, h3, h4, h5⟩ := h2 j c hc
            rw [addr_add, cell_of_row hrow]
            simp [h3, h4]
        · cases h
      · rename_i hag
        split at h
        · rename_i s hg
          rw [getC_eq] at hg
          injection h with h; injection h with h1' h2'; subst h2'
          refine ⟨hlt s (List.mem_of_getElem? hg), ?_⟩
          rw [hrun]
          refine run_loadVar_one ht (by simpa using hag) ?_
          rw [cell_of_row hrow]
          simp [hg]
        · cases h
    · rename_i nl ty cur he
      have hrun : (Instr.loadAt t ((SV.p i off).den (σ.X ++ new))).run P w = (loadVar t ⟨(σ.X ++ new).getD i 0, off, none⟩).run P w := by
        simp [Instr.loadAt, SV.den, Instr.sureAddr]
      split at h
      · rename_i hag
        injection h with h; injection h with h1' h2'; subst h1' h2'
        obtain ⟨hn, hlen⟩ := hob
        have hrow := hs.hs.row_get he hn
        refine ⟨gVs_lt _ _ _ _ _, ?_⟩
        rw [hrun]
        refine run_loadVar_agg ht hag (by simp [gVs_length]) ?_
        intro j v hj
        have hj' : j < ti.size := by
          rcases Nat.lt_or_ge j ti.size with h' | h'
          · exact h'
          · rw [List.getElem?_eq_none (by simp [gVs_length]; exact h')] at hj; cases hj
        rw [List.getElem?_map, gVs_get cur off ti.size 0 j hj'] at hj
        simp only [Option.map_some, Nat.zero_add, Option.some.injEq] at hj
        subst hj
        rw [addr_add, cell_of_row hrow, gV_some (by omega)]
        rfl
      · rename_i hag
        split at h
        · rename_i hsz
          injection h with h; injection h with h1' h2'; subst h1' h2'
          obtain ⟨hn, hlen⟩ := hob
          have hrow := hs.hs.row_get he hn
          refine ⟨trivial, ?_⟩
          rw [hrun]
          refine run_loadVar_one ht (by simpa using hag) ?_
          rw [cell_of_row hrow, gV_some hlen]
          rfl
        · cases h
    · cases h
  · split at h
    · rename_i A off hx
      have hh : (ti.agg || ti.size == 1) = true ∧ exSub G W A off ti = some (ob, s') := by
        split at h
        · rename_i hag; exact ⟨by simp [hag], h⟩
        · split at h
          · rename_i h1; exact ⟨by simp [h1], h⟩
          · cases h
      clear h
      obtain ⟨hsz, h⟩ := hh
      · unfold exSub at h
        injection h with h; injection h with h1' h2'; subst h1'
        obtain ⟨ad, rfl, hG, hcells⟩ := hob
        have hrun : (Instr.loadAt t (s.den (σ.X ++ new))).run P w = (loadVar t (ad.add off)).run P w := by
          rw [exOf_den hx]
          simp [Instr.loadAt, Instr.sureAddr, pAdd]
        have hcell : ∀ j, j < ti.size → w.cell? ((ad.add off).add j) = some (rd W (some ad) (off + j)) := by
          intro j hj
          have h1 := hcells j hj
          rw [add_add, hs.hs.keep.cell (p := ad.add (off + j)) (by rw [add_block]; exact hG)]
          simp only [rd]
          cases hc : W.cell? (ad.add (off + j)) with
          | none => simp [hc] at h1
          | some v => rfl
        split at h2'
        · rename_i hag
          subst h2'
          refine ⟨rdL_lt W _ _ _ _, ?_⟩
          rw [hrun]
          refine run_loadVar_agg ht hag (by simp [rdL_length]) ?_
          intro j v hj
          have hj' : j < ti.size := by
            rcases Nat.lt_or_ge j ti.size with h' | h'
            · exact h'
            · rw [List.getElem?_eq_none (by simp [rdL_length]; exact h')] at hj; cases hj
          rw [List.getElem?_map, rdL_get W (some ad) ti.size off j hj'] at hj
          simp at hj
          subst hj
          exact hcell j hj'
        · rename_i hag
          have hsz1 : ti.size = 1 := by simpa [hag] using hsz
          subst h2'
          refine ⟨trivial, ?_⟩
          rw [hrun]
          refine run_loadVar_one ht (by simpa using hag) ?_
          have := hcell 0 (by omega)
          simpa [add_add, SV.den] using this
    · cases h

theorem cellsOf_den {ag : Bool} {s : SV} {vs : List SV} (h : cellsOf ag s = some vs) (ho : ones vs) (ids : List Nat) : (s.den ids).cells.toList = vs.map (SV.den ids) := by
  cases s with
  | v x =>
    cases x <;> cases ag <;> simp [cellsOf] at h <;> subst h <;> first | rfl | skip
    all_goals first | (simp [ones, one, Value.oneCell'] at ho; done) | (simp [SV.den, Value.cells, Function.comp_def])
  | agg cs =>
    cases ag <;> simp [cellsOf] at h
    subst h
    simp only [SV.den, Value.cells, List.map_map]
    apply List.map_congr_left
    intro c _
    exact (At.sv_den ids c).symm
  | _ =>
    cases ag <;> simp [cellsOf] at h
    subst h
    rfl

theorem cellsOf_lt {ag : Bool} {s : SV} {vs : List SV} (h : cellsOf ag s = some vs) {n : Nat} (hl : s.lt n) : ∀ c ∈ vs, c.lt n := by
  cases s with
  | v x =>
    cases x <;> cases ag <;> simp [cellsOf] at h <;> subst h <;> intro c hc
    all_goals first | (simp at hc; subst hc; trivial) | (obtain ⟨y, _, rfl⟩ := List.mem_map.1 hc; trivial)
  | agg cs =>
    cases ag <;> simp [cellsOf] at h
    subst h
    intro c hc
    obtain ⟨y, hy, rfl⟩ := List.mem_map.1 hc
    have := hl y hy
    cases y <;> first | trivial | exact this
  | _ =>
    cases ag <;> simp [cellsOf] at h
    subst h
    intro c hc
    simp at hc
    subst hc
    exact hl

theorem ones_den {vs : List SV} (h : ones vs) (ids : List Nat) : ∀ v ∈ vs.map (SV.den ids), v.oneCell' = true := by
  induction vs with
  | nil => simp
  | cons s vs ih =>
    intro v hv
    simp only [List.map_cons, List.mem_cons] at hv
    rcases hv with rfl | hv
    · have := h.1
      cases s <;> first | exact this | rfl | exact this.elim
    · exact ih h.2 v hv

theorem svVals_den : ∀ {vs : List SV} {us : List Value}, svVals vs = some us → ∀ ids, vs.map (SV.den ids) = us
  | [], us, h, ids => by cases h; rfl
  | .v x :: vs, us, h, ids => by
    simp only [svVals] at h
    split at h
    · rename_i r hr
      injection h with h; subst h
      simp [SV.den, svVals_den hr ids]
    · cases h
  | .p _ _ :: _, _, h, _ => by simp [svVals] at h
  | .s _ _ _ _ _ :: _, _, h, _ => by simp [svVals] at h
  | .ex _ _ :: _, _, h, _ => by simp [svVals] at h
  | .fn _ _ _ :: _, _, h, _ => by simp [svVals] at h
  | .agg _ :: _, _, h, _ => by simp [svVals] at h

theorem exStore_sound (hs : Sat G W σ new a w) {t : TypeId} {s u : SV} {ob : Prop} {σ' : St} (h : exStore P σ t s u = some (ob, σ')) (hu : u.lt σ.L.length) (ho : ob) :
    ∃ w', Sat G W σ' new a w' ∧ (Instr.storeAt t (s.den (σ.X ++ new)) (u.den (σ.X ++ new))).run P w = .ok () w' := by
  unfold exStore at h
  split at h
  · cases h
  rename_i ti ht
  split at h
  · rename_i i off
    split at h
    · rename_i ty cs he
      obtain ⟨hrow, hlt⟩ := hs.hs.ent_get he
      split at h
      · rename_i vs hvs
        split at h
        · rename_i hlen
          split at h
          · rename_i cs' hcs'
            injection h with h; injection h with h1' h2'; subst h1' h2'
            obtain ⟨h1, h2⟩ := spl_spec cs off vs cs' hcs'
            rw [getE_eq] at he
            have hl' : ∀ c ∈ cs', c.lt σ.L.length := by
              intro c hc
              rw [h1] at hc
              simp only [List.mem_append] at hc
              rcases hc with (hc | hc) | hc
              · exact hlt c (List.mem_of_mem_take hc)
              · exact cellsOf_lt hvs hu c hc
              · exact hlt c (List.mem_of_mem_drop hc)
            refine ⟨_, hs.setEnt he (fun O h => h) (fun O w' h1 h2 => ⟨h1, h2⟩) hl', ?_⟩
            have hcells := cellsOf_den hvs ho (σ.X ++ new)
            have hst := run_storeCells_at P ((σ.X ++ new).getD i 0) off ty (vs.map (SV.den (σ.X ++ new))) 0 _ w hrow (by simpa using h2) (ones_den ho _)
            have hsz : (u.den (σ.X ++ new)).cells.size = ti.size := by rw [← Array.length_toList, hcells]; simpa using hlen
            rw [show (SV.p i off).den (σ.X ++ new) = .pointer (some ⟨(σ.X ++ new).getD i 0, off, none⟩) from rfl]
            generalize u.den (σ.X ++ new) = uv at *
            simp only [Instr.storeAt, Instr.sureAddr, storeVar, Sem.run_bind, Sem.run_pure, Result.andThen_ok, run_sizeOf ht]
            simp only [hsz, ne_eq, not_true_eq_false, if_false, hcells]
            rw [hst]
            congr 2
            rw [h1]
            simp [List.map_take, List.map_drop]
          · cases h
        · cases h
      · cases h
    · rename_i nl ty cur he
      split at h
      · rename_i vs hvs
        split at h
        · rename_i hlen
          split at h
          · rename_i us hus
            injection h with h; injection h with h1' h2'; subst h1' h2'
            obtain ⟨hn, ho, hfit⟩ := ho
            have hrow := hs.hs.row_get he hn
            rw [getE_eq] at he
            have hden := svVals_den hus (σ.X ++ new)
            have hul : us.length = vs.length := by rw [← hden]; simp
            refine ⟨_, hs.setEnt (c := cur.toArray) (c' := (putV cur off us).toArray) he (fun O h => h hn) (fun O w' h1 h2 _ => ⟨h1, h2⟩) trivial, ?_⟩
            have hcells := cellsOf_den hvs ho (σ.X ++ new)
            have hst := run_storeCells_at P ((σ.X ++ new).getD i 0) off ty (vs.map (SV.den (σ.X ++ new))) 0 _ w hrow (by simpa using hfit) (ones_den ho _)
            have hsz : (u.den (σ.X ++ new)).cells.size = ti.size := by rw [← Array.length_toList, hcells]; simpa using hlen
            rw [show (SV.p i off).den (σ.X ++ new) = .pointer (some ⟨(σ.X ++ new).getD i 0, off, none⟩) from rfl]
            generalize u.den (σ.X ++ new) = uv at *
            simp only [Instr.storeAt, Instr.sureAddr, storeVar, Sem.run_bind, Sem.run_pure, Result.andThen_ok, run_sizeOf ht]
            simp only [hsz, ne_eq, not_true_eq_false, if_false, hcells]
            rw [hst]
            congr 2
            rw [putV_spec cur off us (by omega), hden]
            simp [hul]
          · cases h
        · cases h
      · cases h
    · cases h
  · cases h

theorem exField_sound {t : TypeId} {s s' : SV} {f : Nat} {ob : Prop} {m : Nat} (ids : List Nat) (hlt : s.lt m) (h : exField P t s f = some (ob, s')) (hob : ob) :
    s'.lt m ∧ (Instr.fieldAt t (s.den ids) f).run P w = .ok (s'.den ids) w := by
  unfold exField at h
  split at h
  · rename_i ag sz0 z0 fs ht
    obtain ⟨d, hd1, hd2, hd3⟩ := run_und ht w
    obtain ⟨fds, rfl, hm⟩ := kindOf_struct hd3
    split at h
    · rename_i off sz hf
      split at h
      · cases h
      rename_i hsz
      obtain ⟨fd, hfd1, rfl, hfd3⟩ := mapM_getF hm f off sz hf
      have hfd1' : fds[f]? = some fd := by simpa using hfd1
      have hrun : ∀ ad : Addr, (Instr.fieldAt t (.pointer (some ad)) f).run P w = .ok (.pointer (some (ad.add fd.offset))) w := by
        intro ad
        simp only [Instr.fieldAt, Sem.run_bind, hd1, Result.andThen_ok, hfd1', Instr.sureAddr, Sem.run_pure, fieldPlace, run_fsz hfd3, if_neg hsz]
      split at h
      · rename_i i o
        injection h with h; injection h with h1' h2'; subst h2'
        refine ⟨hlt, ?_⟩
        simp only [SV.den, hrun, addr_add]
      · split at h
        · rename_i A o hx
          injection h with h; injection h with h1' h2'; subst h1' h2'
          obtain ⟨ad, rfl⟩ := Option.isSome_iff_exists.1 hob
          refine ⟨trivial, ?_⟩
          rw [exOf_den hx]
          simp only [pAdd, Option.map_some, hrun, SV.den, add_add]
        · cases h
    · cases h
  · cases h

theorem run_intLit {n : Int} (w : World) : (asIntOf (.int .i64 n)).run P w = .ok (.i64, n) w := rfl

theorem exIndex_sound {t : TypeId} {s ix s' : SV} {ob : Prop} {m : Nat} (ids : List Nat) (hlt : s.lt m) (h : exIndex P t s ix = some (ob, s')) (hob : ob) :
    s'.lt m ∧ (Instr.indexAt t (s.den ids) (ix.den ids)).run P w = .ok (s'.den ids) w := by
  unfold exIndex exIx at h
  split at h
  · rename_i ag sz0 z0 esz i ht
    obtain ⟨d, hd1, hd2, hd3⟩ := run_und ht w
    obtain ⟨e, rfl, hf⟩ := kindOf_slice hd3
    have hrun : ∀ (ad : Addr) (len cap : Nat), 0 ≤ i → i < len → (Instr.indexAt t (.slice (some ad) len cap) (.int .i64 i)).run P w = .ok (.pointer (some (ad.add (i.toNat * esz)))) w := by
      intro ad len cap h0 h1
      simp [Instr.indexAt, asIntOf, hd1, run_fsz hf, h0, h1]
    split at h
    · rename_i A len cap
      injection h with h; injection h with h1' h2'; subst h1' h2'
      obtain ⟨h0, h1, hsome⟩ := hob
      obtain ⟨ad, rfl⟩ := Option.isSome_iff_exists.1 hsome
      refine ⟨trivial, ?_⟩
      simp only [SV.den, hrun ad len cap h0 h1, pAdd_zero]
      rfl
    · rename_i e' nl off len cap
      injection h with h; injection h with h1' h2'; subst h1' h2'
      obtain ⟨h0, h1, rfl⟩ := hob
      refine ⟨hlt, ?_⟩
      simp only [SV.den, sA, Bool.false_eq_true, if_false, hrun _ len cap h0 h1, addr_add]
    · cases h
  · rename_i ag sz0 z0 n esz i ht
    obtain ⟨d, hd1, hd2, hd3⟩ := run_und ht w
    obtain ⟨e, rfl, hf⟩ := kindOf_arr hd3
    have hrun : ∀ (ad : Addr), 0 ≤ i → i < n → (Instr.indexAt t (.pointer (some ad)) (.int .i64 i)).run P w = .ok (.pointer (some (ad.add (i.toNat * esz)))) w := by
      intro ad h0 h1
      simp [Instr.indexAt, asIntOf, hd1, run_fsz hf, h0, h1, Instr.sureAddr]
    split at h
    · rename_i e' off
      injection h with h; injection h with h1' h2'; subst h1' h2'
      obtain ⟨h0, h1⟩ := hob
      refine ⟨hlt, ?_⟩
      simp only [SV.den, hrun _ h0 h1, addr_add]
    · split at h
      · rename_i A off hx
        injection h with h; injection h with h1' h2'; subst h1' h2'
        obtain ⟨h0, h1, hsome⟩ := hob
        obtain ⟨ad, rfl⟩ := Option.isSome_iff_exists.1 hsome
        refine ⟨trivial, ?_⟩
        rw [exOf_den hx]
        simp only [pAdd, Option.map_some, SV.den, hrun _ h0 h1, add_add]
        simp
      · cases h
  · cases h

theorem exLen_sound {t : TypeId} {s s' : SV} {ob : Prop} {m : Nat} (h : exLen P t s = some (ob, s')) (at_ : TypeId) (ids : List Nat) :
    s'.lt m ∧ (Builtin.len_ #[t] at_ #[s.den ids]).run P w = .ok (s'.den ids) w := by
  unfold exLen exLn at h
  split at h
  · rename_i e A n c hu
    injection h with h; injection h with h1' h2'; subst h2'
    exact ⟨trivial, by simp [Builtin.len_, run_underlying hu, SV.den, goInt]⟩
  · rename_i e A n c x hu
    injection h with h; injection h with h1' h2'; subst h2'
    exact ⟨trivial, by simp [Builtin.len_, run_underlying hu, SV.den, goInt]⟩
  · rename_i s hu
    injection h with h; injection h with h1' h2'; subst h2'
    exact ⟨trivial, by simp [Builtin.len_, run_underlying hu, SV.den, goInt]⟩
  · cases h
end sound

section sound2
variable {P : Program} {G : Nat → Prop} {W : World} {σ : St} {new : List Nat} {a : Act} {w : World}

theorem map_add_zero (A : Option Addr) : A.map (fun x => x.add 0) = A := by cases A <;> rfl

theorem exSlice_sound {t : TypeId} {s s' : SV} {lo hi : Option SV} {ob : Prop} {m : Nat} (hlt : s.lt m) (h : exSlice P t s lo hi = some (ob, s')) (hob : ob) (ids : List Nat) :
    s'.lt m ∧ (Instr.sliceAt t (s.den ids) (lo.map (SV.den ids)) (hi.map (SV.den ids)) none).run P w = .ok (s'.den ids) w := by
  unfold exSlice exSl at h
  split at h
  · rename_i ag sz0 z0 esz A len cap ht
    obtain ⟨d, hd1, hd2, hd3⟩ := run_und ht w
    obtain ⟨e, rfl, hf⟩ := kindOf_slice hd3
    split at h
    · injection h with h; injection h with h1' h2'; subst h2'
      refine ⟨trivial, ?_⟩
      simp [Instr.sliceAt, Instr.slice, hd1, Instr.sliceBounds, run_fsz hf, SV.den]
      cases A <;> simp [Addr.add]
    · rename_i hv
      injection h with h; injection h with h1' h2'; subst h1' h2'
      obtain ⟨h0, h1⟩ := hob
      refine ⟨trivial, ?_⟩
      simp [Instr.sliceAt, Instr.slice, hd1, Instr.sliceBounds, run_fsz hf, SV.den, Instr.sliceBound, asIntOf, h0, h1]
      cases A <;> simp [Addr.add]
    · rename_i l
      injection h with h; injection h with h1' h2'; subst h1' h2'
      obtain ⟨h0, h1⟩ := hob
      refine ⟨trivial, ?_⟩
      simp [Instr.sliceAt, Instr.slice, hd1, Instr.sliceBounds, run_fsz hf, SV.den, Instr.sliceBound, asIntOf, h0, h1, pAdd]
    · rename_i l hh
      injection h with h; injection h with h1' h2'; subst h1' h2'
      obtain ⟨h0, h1, h2, h3⟩ := hob
      refine ⟨trivial, ?_⟩
      simp only [Instr.sliceAt, Instr.slice, Sem.run_bind, hd1, Result.andThen_ok, Instr.sliceBounds, SV.den, Instr.sliceBound, asIntOf, Option.map_some, Sem.run_pure, run_fsz hf, pAdd, if_true, Option.isSome_none]
      simp [h0, h1, h2]
      intro hlt
      exfalso
      omega
    · cases h
  · rename_i ag sz0 z0 esz e nl off len cap ht
    obtain ⟨d, hd1, hd2, hd3⟩ := run_und ht w
    obtain ⟨e', rfl, hf⟩ := kindOf_slice hd3
    have key : ∀ l : Nat, (if cap = l then sA nl (ids.getD e 0) off else (sA nl (ids.getD e 0) off).map fun x => x.add (l * esz)) = sA nl (ids.getD e 0) (if cap = l then off else off + l * esz) := by
      intro l
      by_cases hc : cap = l
      · rw [if_pos hc, if_pos hc]
      · rw [if_neg hc, if_neg hc]
        cases nl <;> simp [sA, addr_add]
    split at h
    · injection h with h; injection h with h1' h2'; subst h2'
      refine ⟨hlt, ?_⟩
      simp only [SV.den]
      generalize ids.getD e 0 = bb at key ⊢
      have := key 0
      simp only [Nat.zero_mul, Nat.add_zero, ite_self] at this
      simp only [Instr.sliceAt, Instr.slice, hd1, Instr.sliceBounds, run_fsz hf, SV.den, Sem.run_bind, Sem.run_pure, Result.andThen_ok, Option.map_none, Nat.zero_mul, Nat.sub_zero]
      rw [this]
    · rename_i hv
      injection h with h; injection h with h1' h2'; subst h1' h2'
      obtain ⟨h0, h1⟩ := hob
      refine ⟨hlt, ?_⟩
      simp only [SV.den]
      generalize ids.getD e 0 = bb at key ⊢
      have := key 0
      simp only [Nat.zero_mul, Nat.add_zero, ite_self] at this
      simp [Instr.sliceAt, Instr.slice, hd1, Instr.sliceBounds, run_fsz hf, SV.den, Instr.sliceBound, asIntOf, h0, h1]
      intro hc
      cases nl <;> simp [sA, Addr.add]
    · rename_i l
      injection h with h; injection h with h1' h2'; subst h1' h2'
      obtain ⟨h0, h1⟩ := hob
      refine ⟨hlt, ?_⟩
      simp only [SV.den]
      generalize ids.getD e 0 = bb at key ⊢
      simp [Instr.sliceAt, Instr.slice, hd1, Instr.sliceBounds, run_fsz hf, SV.den, Instr.sliceBound, asIntOf, h0, h1, key]
    · rename_i l hh
      injection h with h; injection h with h1' h2'; subst h1' h2'
      obtain ⟨h0, h1, h2, h3⟩ := hob
      refine ⟨hlt, ?_⟩
      simp only [SV.den]
      generalize ids.getD e 0 = bb at key ⊢
      simp only [Instr.sliceAt, Instr.slice, Sem.run_bind, hd1, Result.andThen_ok, Instr.sliceBounds, SV.den, Instr.sliceBound, asIntOf, Option.map_some, Sem.run_pure, run_fsz hf, if_true, Option.isSome_none]
      simp [h0, h1, h2, key]
      intro hlt
      exfalso
      omega
    · cases h
  · cases h

theorem exSlice3_sound {t : TypeId} {s s' hi mx : SV} {ob : Prop} {m : Nat} (hlt : s.lt m) (h : exSlice3 P t s hi mx = some (ob, s')) (hob : ob) (ids : List Nat) :
    s'.lt m ∧ (Instr.sliceAt t (s.den ids) none (some (hi.den ids)) (some (mx.den ids))).run P w = .ok (s'.den ids) w := by
  unfold exSlice3 exSl3 at h
  split at h
  · rename_i ag sz0 z0 esz A len cap ht
    obtain ⟨d, hd1, hd2, hd3⟩ := run_und ht w
    obtain ⟨e, rfl, hf⟩ := kindOf_slice hd3
    split at h
    · rename_i hh mm
      injection h with h; injection h with h1' h2'; subst h1' h2'
      obtain ⟨h0, h1, h2, h3⟩ := hob
      refine ⟨trivial, ?_⟩
      have h4 : hh ≤ (mm.toNat : Int) := by omega
      simp [Instr.sliceAt, Instr.slice, hd1, Instr.sliceBounds, run_fsz hf, SV.den, Instr.sliceBound, asIntOf, h0, h1, h2, h4]
      cases A <;> simp [Addr.add] <;> omega
    · cases h
  · rename_i ag sz0 z0 esz e nl off len cap ht
    obtain ⟨d, hd1, hd2, hd3⟩ := run_und ht w
    obtain ⟨e', rfl, hf⟩ := kindOf_slice hd3
    split at h
    · rename_i hh mm
      injection h with h; injection h with h1' h2'; subst h1' h2'
      obtain ⟨h0, h1, h2, h3⟩ := hob
      refine ⟨hlt, ?_⟩
      have h4 : hh ≤ (mm.toNat : Int) := by omega
      simp [Instr.sliceAt, Instr.slice, hd1, Instr.sliceBounds, run_fsz hf, SV.den, Instr.sliceBound, asIntOf, h0, h1, h2, h4]
      cases nl <;> simp [sA, Addr.add] <;> omega
    · cases h
  · cases h

theorem atsOf_den {s : SV} {l : List At} (h : atsOf s = some l) (ids : List Nat) : s.den ids = .agg (l.map (At.den ids)).toArray := by
  cases s with
  | v x => cases x <;> simp [atsOf] at h; subst h; simp [SV.den, At.den, Function.comp_def]
  | agg cs => simp [atsOf] at h; subst h; rfl
  | _ => simp [atsOf] at h
theorem atsOf_lt {s : SV} {l : List At} (h : atsOf s = some l) {n : Nat} (hs : s.lt n) : ∀ c ∈ l, c.lt n := by
  cases s with
  | v x =>
    cases x <;> simp [atsOf] at h; subst h
    intro c hc
    obtain ⟨y, _, rfl⟩ := List.mem_map.1 hc
    trivial
  | agg cs => simp [atsOf] at h; subst h; exact hs
  | _ => simp [atsOf] at h

theorem ats_den {l : List SV} {m : List At} (h : ats l = some m) (ids : List Nat) : m.map (At.den ids) = l.map (SV.den ids) := by
  induction l generalizing m with
  | nil => simp [ats] at h; subst h; rfl
  | cons s l ih =>
    simp only [ats] at h
    split at h
    · rename_i c hc
      split at h
      · rename_i r hr
        injection h with h; subst h
        simp [ih hr, SV.at?_den hc]
      · cases h
    · cases h
theorem ats_lt {l : List SV} {m : List At} (h : ats l = some m) {n : Nat} (hl : ∀ s ∈ l, s.lt n) : ∀ c ∈ m, c.lt n := by
  induction l generalizing m with
  | nil => simp [ats] at h; subst h; simp
  | cons s l ih =>
    simp only [ats] at h
    split at h
    · rename_i c hc
      split at h
      · rename_i r hr
        injection h with h; subst h
        intro d hd
        simp only [List.mem_cons] at hd
        rcases hd with rfl | hd
        · have := hl s (by simp)
          cases s <;> simp [SV.at?] at hc <;> subst hc <;> first | trivial | exact this
        · exact ih hr (fun s hs => hl s (by simp [hs])) d hd
      · cases h
    · cases h

theorem getA_eq (l : List At) (i : Nat) : getA l i = l[i]? := by
  induction l generalizing i with
  | nil => simp [getA]
  | cons e l ih => cases i <;> simp [getA, ih]
theorem subA_spec : ∀ (l : List At) (off n : Nat) (r : List At), subA l off n = some r → r = (l.drop off).take n ∧ off + n ≤ l.length
  | l, 0, 0, r, h => by
    cases l <;> · simp only [subA] at h; injection h with h; subst h; simp
  | [], 0, n + 1, r, h => by simp [subA] at h
  | c :: l, 0, n + 1, r, h => by
    simp only [subA] at h
    split at h
    · rename_i r' hr
      injection h with h; subst h
      obtain ⟨h1, h2⟩ := subA_spec l 0 n r' hr
      subst h1
      refine ⟨by simp, ?_⟩
      simp at h2 ⊢; omega
    · cases h
  | [], k + 1, n, r, h => by simp [subA] at h
  | c :: l, k + 1, n, r, h => by
    simp only [subA] at h
    obtain ⟨h1, h2⟩ := subA_spec l k n r h
    subst h1
    refine ⟨by simp, ?_⟩
    simp at h2 ⊢; omega

theorem exFld_sound {t : TypeId} {s s' : SV} {f : Nat} {ob : Prop} {m : Nat} (ids : List Nat) (hlt : s.lt m) (h : exFld P t s f = some (ob, s')) :
    s'.lt m ∧ (Instr.field t (s.den ids) f).run P w = .ok (s'.den ids) w := by
  unfold exFld at h
  have hf : ∀ off o, fldI P t f = some (off, o) → ∃ fds fd i d, P.underlying t = some (.struct fds) ∧ fds[f]? = some fd ∧ P.info? fd.type = some i ∧ P.underlying fd.type = some d ∧ fd.offset = off ∧ o = (if aggD d then some i.size else none) := by
    intro off o hh
    unfold fldI at hh
    split at hh
    · rename_i fds hu
      split at hh
      · rename_i fd hfd
        split at hh
        · rename_i i hi
          split at hh
          · rename_i d hd
            injection hh with hh
            injection hh with h1 h2
            exact ⟨fds, fd, i, d, hu, hfd, hi, hd, h1, h2.symm⟩
          · cases hh
        · cases hh
      · cases hh
    · cases hh
  have hag : ∀ {ty : TypeId} {d : TypeDesc}, P.underlying ty = some d → (isAgg ty).run P w = .ok (aggD d) w := by
    intro ty d hd
    unfold isAgg
    simp only [Sem.run_bind, run_underlying hd, Result.andThen_ok]
    cases d <;> rfl
  unfold exFl at h
  split at h
  · rename_i l off hl ho
    obtain ⟨fds, fd, i, d, hu, hfd, hi, hd, rfl, hag0⟩ := hf _ _ ho
    split at h
    · rename_i c hc
      injection h with h; injection h with h1 h2; subst h2
      rw [getA_eq] at hc
      have hcl := atsOf_lt hl hlt c (List.mem_of_getElem? hc)
      have hagf : aggD d = false := by
        cases hq : aggD d with
        | false => rfl
        | true => rw [hq] at hag0; cases hag0
      refine ⟨by cases c <;> first | trivial | exact hcl, ?_⟩
      rw [atsOf_den hl]
      have hg : (l.map (At.den ids)).toArray[fd.offset]? = some (c.den ids) := by simp [hc]
      simp only [Instr.field, Sem.run_bind, run_underlying hu, Result.andThen_ok, hfd, asAgg, Sem.run_pure, part, hag hd, hagf, Bool.false_eq_true, if_false, hg, At.sv_den]
    · cases h
  · rename_i l off n hl ho
    obtain ⟨fds, fd, i, d, hu, hfd, hi, hd, rfl, hag0⟩ := hf _ _ ho
    split at h
    · rename_i r hr
      injection h with h; injection h with h1 h2; subst h2
      obtain ⟨h3, h4⟩ := subA_spec l fd.offset n r hr
      have hcl := atsOf_lt hl hlt
      have hagf : aggD d = true ∧ i.size = n := by
        cases hq : aggD d with
        | true => rw [hq] at hag0; injection hag0 with hag0; exact ⟨rfl, hag0.symm⟩
        | false => rw [hq] at hag0; cases hag0
      refine ⟨?_, ?_⟩
      · intro c hc
        rw [h3] at hc
        exact hcl c (List.mem_of_mem_drop (List.mem_of_mem_take hc))
      rw [atsOf_den hl]
      have hsz : (sizeOf fd.type).run P w = .ok n w := by unfold sizeOf typeInfo; simp [hi, hagf.2]
      simp only [Instr.field, Sem.run_bind, run_underlying hu, Result.andThen_ok, hfd, asAgg, Sem.run_pure, part, hag hd, hagf.1, if_true, hsz, SV.den]
      congr 2
      apply Array.ext'
      rw [h3]
      simp [List.map_drop, List.map_take]
    · cases h
  · cases h

theorem evs_sound (hs : Sat G W σ new a w) {xs : List Operand} {l : List SV} (h : evs σ xs = some l) : xs.map a.eval = l.map (SV.den (σ.X ++ new)) ∧ ∀ s ∈ l, s.lt σ.L.length := by
  induction xs generalizing l with
  | nil => simp [evs] at h; subst h; simp
  | cons x xs ih =>
    simp only [evs] at h
    split at h
    · rename_i s hx
      split at h
      · rename_i r hr
        injection h with h; subst h
        obtain ⟨h1, h2⟩ := ev_sound hs hx
        obtain ⟨h3, h4⟩ := ih hr
        refine ⟨by simp [h1, h3], ?_⟩
        intro s' hs'
        simp only [List.mem_cons] at hs'
        rcases hs' with rfl | hs'
        · exact h2
        · exact h4 s' hs'
      · cases h
    · cases h

theorem fold_cells (l : List Value) (off : Nat) (cur : Array Value) : ∀ k, off + k + l.length ≤ cur.size →
    ((l.zipIdx k).foldl (fun cs (p : Value × Nat) => cs.setIfInBounds (off + p.2) p.1) cur).toList = cur.toList.take (off + k) ++ l ++ cur.toList.drop (off + k + l.length) := by
  induction l generalizing cur with
  | nil => intro k _; simp
  | cons v l ih =>
    intro k hk
    simp only [List.zipIdx_cons, List.foldl_cons]
    simp at hk
    rw [ih _ (k + 1) (by simp; omega)]
    have e := list_seg_step cur.toList (off + k) v l (by simp; omega)
    simp only [Array.toList_setIfInBounds, List.length_cons]
    rw [show off + (k + 1) = off + k + 1 by omega]
    exact e

theorem fillC_sound (hs : Sat G W σ new a w) (fs : List (Nat × Nat)) (place : Nat → Option (Nat × Nat)) (hp : ∀ i x, getF fs i = some x → place i = some x) :
    ∀ (parts : List (Nat × Operand)) (cs r : List SV), fillC P σ fs parts cs = some r → (∀ c ∈ cs, c.lt σ.L.length) →
      (∃ arr, Instr.fill place (cs.map (SV.den (σ.X ++ new))).toArray (parts.map fun (i, x) => (i, a.eval x)) = some arr ∧ arr.toList = r.map (SV.den (σ.X ++ new))) ∧ (∀ c ∈ r, c.lt σ.L.length)
  | [], cs, r, h, hl => by
    simp only [fillC] at h
    injection h with h; subst h
    exact ⟨⟨_, rfl, by simp⟩, hl⟩
  | (i, x) :: parts, cs, r, h, hl => by
    simp only [fillC] at h
    split at h
    · rename_i off size hf
      split at h
      · rename_i s hx
        obtain ⟨he, hlt⟩ := ev_sound hs hx
        have key : ∀ l : List SV, (s.den (σ.X ++ new)).cells.toList = l.map (SV.den (σ.X ++ new)) → (∀ c ∈ l, c.lt σ.L.length) →
            (if l.length = size then (match spl cs off l with | some cs' => fillC P σ fs parts cs' | none => none) else none) = some r →
            (∃ arr, Instr.fill place (cs.map (SV.den (σ.X ++ new))).toArray (((i, x) :: parts).map fun (i, x) => (i, a.eval x)) = some arr ∧ arr.toList = r.map (SV.den (σ.X ++ new))) ∧ (∀ c ∈ r, c.lt σ.L.length) := by
          intro l hcl hll h
          split at h
          · rename_i hlen
            split at h
            · rename_i cs' hcs'
              obtain ⟨h1, h2⟩ := spl_spec cs off l cs' hcs'
              have hl' : ∀ c ∈ cs', c.lt σ.L.length := by
                intro c hc
                rw [h1] at hc
                simp only [List.mem_append] at hc
                rcases hc with (hc | hc) | hc
                · exact hl c (List.mem_of_mem_take hc)
                · exact hll c hc
                · exact hl c (List.mem_of_mem_drop hc)
              obtain ⟨⟨arr, h3, h4⟩, h5⟩ := fillC_sound hs fs place hp parts cs' r h hl'
              refine ⟨⟨arr, ?_, h4⟩, h5⟩
              simp only [List.map_cons, Instr.fill, hp i _ hf, he]
              have hsz : (s.den (σ.X ++ new)).cells.size = size := by rw [← Array.length_toList, hcl]; simpa using hlen
              have hsz2 : (cs.map (SV.den (σ.X ++ new))).toArray.size = cs.length := by simp
              rw [if_neg (by rw [hsz, hsz2]; simp; omega)]
              rw [← h3]
              congr 1
              apply Array.ext'
              have hf := fold_cells (s.den (σ.X ++ new)).cells.toList off (cs.map (SV.den (σ.X ++ new))).toArray 0 (by rw [hcl]; simp; omega)
              simp only [Nat.add_zero] at hf
              rw [← Array.foldl_toList, Array.toList_zipIdx]
              rw [hf, hcl, h1]
              simp [List.map_take, List.map_drop]
            · cases h
          · cases h
        split at h
        · rename_i l hq
          split at hq
          · rename_i l' hat
            injection hq with hq; subst hq
            refine key _ ?_ ?_ h
            · rw [atsOf_den hat]
              simp [Value.cells, Function.comp_def, At.sv_den]
            · intro c hc
              obtain ⟨y, hy, rfl⟩ := List.mem_map.1 hc
              have := atsOf_lt hat hlt y hy
              cases y <;> first | trivial | exact this
          · rename_i hat
            injection hq with hq; subst hq
            refine key [s] ?_ (by simpa using hlt) h
            cases s with
            | v x => cases x <;> first | rfl | simp [atsOf] at hat
            | agg cs => simp [atsOf] at hat
            | _ => rfl
        · cases h
      · cases h
    · cases h

theorem getF_eq (l : List (Nat × Nat)) (i : Nat) : getF l i = l[i]? := by
  induction l generalizing i with
  | nil => simp [getF]
  | cons e l ih => cases i <;> simp [getF, ih]

theorem exBuild_sound (hs : Sat G W σ new a w) {t : TypeId} {parts : Array (Nat × Operand)} {ob : Prop} {s' : SV} (h : exBuild P σ t parts.toList = some (ob, s')) :
    s'.lt σ.L.length ∧ (Instr.build t (parts.map fun (i, x) => (i, a.eval x))).run P w = .ok (s'.den (σ.X ++ new)) w := by
  unfold exBuild at h
  split at h
  · rename_i sz zero fs ht
    obtain ⟨d, hd1, hd2, hd3⟩ := run_und ht w
    obtain ⟨fds, rfl, hm⟩ := kindOf_struct hd3
    obtain ⟨z, hz1, hz2⟩ := run_zero ht w
    simp only at hz2
    split at h
    · rename_i cs hcs
      split at h
      · rename_i l hl
        have hpl : ∃ places : Array (Nat × Nat), (fds.mapM fun f => (do pure (f.offset, ← sizeOf f.type) : Sem (Nat × Nat))).run P w = .ok places w ∧ ∀ i x, getF fs i = some x → places[i]? = some x := by
          have gen : ∀ (l : List Field) (fs : List (Nat × Nat)), (l.mapM fun f => (fsz P f.type).map fun s => (f.offset, s)) = some fs →
              (l.mapM fun f => (do pure (f.offset, ← sizeOf f.type) : Sem (Nat × Nat))).run P w = .ok fs w := by
            intro l
            induction l with
            | nil => intro fs h; simp at h; subst h; rfl
            | cons f l ih =>
              intro fs h
              rw [List.mapM_cons] at h
              cases hf : fsz P f.type with
              | none => simp [hf] at h
              | some s =>
                cases hr : (l.mapM fun f => (fsz P f.type).map fun s => (f.offset, s)) with
                | none => simp [hf, hr] at h
                | some r =>
                  simp [hf, hr] at h
                  subst h
                  rw [List.mapM_cons]
                  simp only [Sem.run_bind, run_fsz hf, Result.andThen_ok, Sem.run_pure, ih r hr]
          have h1 := gen fds.toList fs hm
          refine ⟨fs.toArray, ?_, ?_⟩
          · rw [Array.mapM_eq_mapM_toList]
            simp only [Sem.run_map, h1, Result.andThen_ok]
          · intro i x hx
            rw [getF_eq] at hx
            simpa using hx
        obtain ⟨places, hp1, hp2⟩ := hpl
        have hz3 : ((zero.map SV.v).map (SV.den (σ.X ++ new))).toArray = z.cells := by
          apply Array.ext'
          rw [hz2]
          simp [Function.comp_def, SV.den]
        obtain ⟨⟨arr, h3, h4⟩, h5⟩ := fillC_sound (P := P) hs fs (places[·]?) hp2 parts.toList _ cs hcs (by
          intro c hc; obtain ⟨y, _, rfl⟩ := List.mem_map.1 hc; trivial)
        injection h with h; injection h with h1' h2'; subst h2'
        refine ⟨ats_lt hl h5, ?_⟩
        rw [hz3] at h3
        have e1 : (parts.map fun (i, x) => (i, a.eval x)).toList = parts.toList.map fun (i, x) => (i, a.eval x) := by simp
        simp only [Instr.build, Sem.run_bind, hz1, Result.andThen_ok, hd1, hp1, e1, h3, Sem.run_pure, SV.den]
        rw [ats_den hl, ← h4]
      · cases h
    · cases h
  · cases h

theorem i64_wrap {n : Int} (h : i64ok n) : IntKind.i64.wrap n = n := IntWalk.i64_in n h

theorem valsOf_den {l : List At} {xs : List Value} (h : valsOf l = some xs) (ids : List Nat) : l.map (At.den ids) = xs := by
  induction l generalizing xs with
  | nil => simp [valsOf] at h; subst h; rfl
  | cons c l ih =>
    cases c with
    | p i o => simp [valsOf] at h
    | s i nl o l' c => simp [valsOf] at h
    | v x =>
      simp only [valsOf] at h
      split at h
      · rename_i r hr
        injection h with h; subst h
        simp [ih hr, At.den]
      · cases h

theorem eqGuard_none {op : BinOp} {t : TypeId} {x y : Operand} {u v : Value} (h : ∀ l, u ≠ .agg l) (h' : u ≠ .nilIface) : (eqGuard op t x y u v).run P w = .ok () w := by
  unfold eqGuard
  cases u <;> first | (exact absurd rfl (h _)) | (exact absurd rfl h') | (cases op <;> simp)

theorem isNil_kind {s : SV} (h : isNil s = true) : nilKind s = 1 ∧ s = .v (.pointer none) ∨ nilKind s = 2 ∧ (∃ n c, s = .v (.slice none n c)) ∨ nilKind s = 3 ∧ s = .v .nilFunc ∨ nilKind s = 4 ∧ s = .v (.map none) := by
  unfold isNil at h
  split at h
  · exact .inl ⟨rfl, rfl⟩
  · exact .inr (.inl ⟨rfl, _, _, rfl⟩)
  · exact .inr (.inr (.inl ⟨rfl, rfl⟩))
  · exact .inr (.inr (.inr ⟨rfl, rfl⟩))
  · cases h

theorem nilTy_spec {t : TypeId} {n : Nat} (h : nilTy P t = n) : (n = 1 → ∃ e, P.underlying t = some (.pointer e)) ∧ (n = 2 → ∃ e, P.underlying t = some (.slice e)) ∧ (n = 3 → ∃ x y z, P.underlying t = some (.func x y z)) ∧ (n = 4 → ∃ x y, P.underlying t = some (.map x y)) := by
  unfold nilTy at h
  split at h <;> subst h <;> simp_all

theorem equal_of {t : TypeId} {x y : Value} {b : Bool} (h : ∀ d, (Op.equalIn (d + 1) t x y).run P w = .ok b w) : (Op.equal t x y).run P w = .ok b w := h 9999

theorem nil_equal {t : TypeId} {x y : SV} {b : Bool} (hy : isNil y = true) (hx : nilOf x = some b) (h1 : nilKind x = nilTy P t) (h2 : nilKind x = nilKind y) (ids : List Nat) :
    (Op.equal t (x.den ids) (y.den ids)).run P w = .ok b w ∧ (∀ l, x.den ids ≠ .agg l) ∧ x.den ids ≠ .nilIface := by
  have hs := nilTy_spec (P := P) (t := t) rfl
  rw [← h1, h2] at hs
  rcases isNil_kind hy with ⟨hk, rfl⟩ | ⟨hk, n, c, rfl⟩ | ⟨hk, rfl⟩ | ⟨hk, rfl⟩
  all_goals rw [hk] at hs h2
  · obtain ⟨e, he⟩ := hs.1 rfl
    unfold nilOf at hx
    split at hx <;> simp [nilKind] at h2 <;> cases hx
    all_goals (refine ⟨?_, by intro l; simp [SV.den], by simp [SV.den]⟩; exact equal_of (fun d => by simp [Op.equalIn, run_underlying he, SV.den]))
  · obtain ⟨e, he⟩ := hs.2.1 rfl
    unfold nilOf at hx
    split at hx <;> simp [nilKind] at h2 <;> cases hx
    all_goals (refine ⟨?_, by intro l; simp [SV.den], by simp [SV.den]⟩; exact equal_of (fun d => by first | (simp [Op.equalIn, run_underlying he, SV.den]; done) | (cases b <;> simp [Op.equalIn, run_underlying he, SV.den, sA])))
  · obtain ⟨x', y', z', he⟩ := hs.2.2.1 rfl
    unfold nilOf at hx
    split at hx <;> simp [nilKind] at h2 <;> cases hx
    all_goals (refine ⟨?_, by intro l; simp [SV.den], by simp [SV.den]⟩; exact equal_of (fun d => by simp [Op.equalIn, run_underlying he, SV.den]))
  · obtain ⟨x', y', he⟩ := hs.2.2.2 rfl
    unfold nilOf at hx
    split at hx <;> simp [nilKind] at h2 <;> cases hx
    all_goals (refine ⟨?_, by intro l; simp [SV.den], by simp [SV.den]⟩; exact equal_of (fun d => by simp [Op.equalIn, run_underlying he, SV.den]))
end sound2

section sound3
variable {P : Program} {G : Nat → Prop} {W : World} {σ : St} {new : List Nat} {a : Act} {w : World}

theorem binOp_eql_of {op : BinOp} {t : TypeId} {x y : Value} {b r : Bool} (h : (Op.equal t x y).run P w = .ok b w) (hr : eqB op b = some r)
    (hn : ∀ k n, x ≠ .int k n) (hf : ∀ k n, x ≠ .float k n) (hc : ∀ k n m, x ≠ .complex k n m) (hs : ∀ s, x ≠ .string s) : (binOp op t x y).run P w = .ok (.bool r) w := by
  cases op <;> simp [eqB] at hr <;> subst hr
  all_goals
    unfold binOp
    cases x
    case int => exact absurd rfl (hn _ _)
    case float => exact absurd rfl (hf _ _)
    case complex => exact absurd rfl (hc _ _ _)
    case string => exact absurd rfl (hs _)
    all_goals simp [h]

theorem nilOf_not {s : SV} {b : Bool} (h : nilOf s = some b) (ids : List Nat) : (∀ k n, s.den ids ≠ .int k n) ∧ (∀ k n, s.den ids ≠ .float k n) ∧ (∀ k n m, s.den ids ≠ .complex k n m) ∧ (∀ x, s.den ids ≠ .string x) := by
  unfold nilOf at h
  split at h <;> first | (cases h; done) | (refine ⟨?_, ?_, ?_, ?_⟩ <;> intros <;> simp [SV.den])

theorem exBin_sound {op : BinOp} {t : TypeId} {s u s' : SV} {ob : Prop} {m : Nat} (ids : List Nat) (h : exBin P op t s u = some (ob, s')) (hob : ob) (x y : Operand) :
    s'.lt m ∧ (do eqGuard op t x y (s.den ids) (u.den ids); binOp op t (s.den ids) (u.den ids)).run P w = .ok (s'.den ids) w := by
  unfold exBin at h
  split at h
  · rename_i m n
    have hg : (eqGuard op t x y (.int .i64 m) (.int .i64 n)).run P w = .ok () w := eqGuard_none (by intro l; simp) (by simp)
    split at h
    · injection h with h; injection h with h1' h2'; subst h1' h2'
      exact ⟨trivial, by simp [SV.den, hg, binOp, Op.intArith, i64_wrap hob]⟩
    · injection h with h; injection h with h1' h2'; subst h1' h2'
      exact ⟨trivial, by simp [SV.den, hg, binOp, Op.intArith, i64_wrap hob]⟩
    · injection h with h; injection h with h1' h2'; subst h1' h2'
      exact ⟨trivial, by simp [SV.den, hg, binOp, Op.intArith, i64_wrap hob]⟩
    · injection h with h; injection h with h1' h2'; subst h1' h2'
      exact ⟨trivial, by simp [SV.den, hg, binOp, Op.intDiv, hob.1, i64_wrap hob.2]⟩
    · injection h with h; injection h with h1' h2'; subst h1' h2'
      exact ⟨trivial, by simp [SV.den, hg, binOp, Op.intDiv, hob]⟩
    · split at h
      · rename_i r hr
        injection h with h; injection h with h1' h2'; subst h2'
        refine ⟨trivial, ?_⟩
        simp only [SV.den, Sem.run_bind, hg, Result.andThen_ok]
        cases op <;> simp [cmpI] at hr <;> subst hr <;> simp [binOp, Op.intCmp]
      · cases h
  · rename_i m n
    have hg : (eqGuard op t x y (.string m) (.string n)).run P w = .ok () w := eqGuard_none (by intro l; simp) (by simp)
    split at h
    · injection h with h; injection h with h1' h2'; subst h1' h2'
      refine ⟨trivial, ?_⟩
      have hle : ¬ ((m.size + n.size : Nat) : Int) > IntKind.i64.max := by have := hob.2; simp [IntKind.max, IntKind.bits]; omega
      simp only [SV.den, Sem.run_bind, hg, Result.andThen_ok, binOp, Op.stringOp, if_neg hle, Sem.run_pure]
    · injection h with h; injection h with h1' h2'; subst h1' h2'
      exact ⟨trivial, by simp only [SV.den, Sem.run_bind, hg, Result.andThen_ok, binOp, Op.stringOp, Sem.run_pure]⟩
    · injection h with h; injection h with h1' h2'; subst h1' h2'
      exact ⟨trivial, by simp only [SV.den, Sem.run_bind, hg, Result.andThen_ok, binOp, Op.stringOp, Sem.run_pure]⟩
    · cases h
  · rename_i m n
    split at h
    · rename_i r hnt hr
      injection h with h; injection h with h1' h2'; subst h1' h2'
      have hu := hob
      refine ⟨trivial, ?_⟩
      have hg : (eqGuard op t x y (.bool m) (.bool n)).run P w = .ok () w := eqGuard_none (by intro l; simp) (by simp)
      have he : (Op.equal t (.bool m) (.bool n)).run P w = .ok (m == n) w := equal_of (fun d => by simp [Op.equalIn, run_underlying hu])
      simp only [SV.den, Sem.run_bind, hg, Result.andThen_ok]
      exact binOp_eql_of he hr (by simp) (by simp) (by simp) (by simp)
    · cases h
  · split at h
    · rename_i hy
      split at h
      · rename_i b r hb hr
        split at h
        · rename_i hk1
          split at h
          case isFalse => cases h
          rename_i hk2
          obtain ⟨h1, h2, h3⟩ := nil_equal (P := P) (w := w) hy hb hk1 hk2 ids
          obtain ⟨n1, n2, n3, n4⟩ := nilOf_not hb ids
          have hg := eqGuard_none (P := P) (w := w) (op := op) (t := t) (x := x) (y := y) (v := u.den ids) h2 h3
          injection h with h; injection h with h1' h2'; subst h2'
          refine ⟨trivial, ?_⟩
          simp only [Sem.run_bind, hg, Result.andThen_ok]
          cases op <;> simp [eqB] at hr
          · exact binOp_eql_of h1 rfl n1 n2 n3 n4
          · exact binOp_eql_of h1 rfl n1 n2 n3 n4
        · cases h
      · cases h
    · split at h
      · rename_i l m hl hm
        split at h
        · rename_i xs ys hxs hys
          split at h
          · rename_i b hb
            split at h
            · rename_i r hr
              injection h with h; injection h with h1' h2'; subst h1' h2'
              have he := hob b hb
              refine ⟨trivial, ?_⟩
              rw [atsOf_den hl, atsOf_den hm, valsOf_den hxs, valsOf_den hys]
              obtain ⟨h1, h2⟩ := he op x y w
              simp only [Sem.run_bind, h1, Result.andThen_ok, SV.den]
              exact binOp_eql_of h2 hr (by simp) (by simp) (by simp) (by simp)
            · cases h
          · cases h
        · cases h
      · cases h

theorem zeros_one (l : List Value) : (l.map SV.v).map (SV.den (σ.X ++ new)) = l := by
  rw [List.map_map]
  have : (SV.den (σ.X ++ new) ∘ SV.v) = id := rfl
  rw [this, List.map_id]

theorem map_sv_den (ids : List Nat) (l : List At) : (l.map At.sv).map (SV.den ids) = l.map (At.den ids) := by
  rw [List.map_map]
  apply List.map_congr_left
  intro c _
  exact At.sv_den ids c

theorem bsF_get (size : Nat) : ∀ (n k i : Nat) (x : Nat × Nat), getF (bsF size k n) i = some x → x = ((k + i) * size, size)
  | 0, _, _, _, h => by simp [bsF, getF] at h
  | n + 1, k, 0, x, h => by simp [bsF, getF] at h; exact h.symm
  | n + 1, k, i + 1, x, h => by
    simp only [bsF, getF] at h
    rw [bsF_get size n (k + 1) i x h, show k + 1 + i = k + (i + 1) by omega]
theorem repV_length (z : List Value) : ∀ n, (repV n z).length = n * z.length
  | 0 => by simp [repV]
  | n + 1 => by simp [repV, repV_length z n, Nat.add_mul, Nat.add_comm]
theorem repV_get (z : List Value) : ∀ (n i : Nat), i < n * z.length → (repV n z)[i]? = z[i % z.length]?
  | 0, i, h => by omega
  | n + 1, i, h => by
    simp only [repV]
    by_cases hi : i < z.length
    · rw [List.getElem?_append_left hi, Nat.mod_eq_of_lt hi]
    · rw [List.getElem?_append_right (by omega), repV_get z n (i - z.length) (by rw [Nat.add_mul] at h; omega), ← Nat.mod_eq_sub_mod (by omega)]

theorem exBSl_sound (hs : Sat G W σ new a w) {t e : TypeId} {len : Nat} {parts : Array (Nat × Operand)} {cs : List SV} (he : elemOf P t = some e) (h : exBSl P σ len parts.toList e = some cs) :
    ∃ arr, (Instr.buildSlice t len (parts.map fun (i, x) => (i, a.eval x))).run P w = .ok (.slice (some ⟨w.heap.size, 0, none⟩) len len) (w.alloc (.cells arr e (0, 0))) ∧ arr.toList = cs.map (SV.den (σ.X ++ new)) ∧ ∀ c ∈ cs, c.lt σ.L.length := by
  unfold exBSl at h
  split at h
  case h_2 => cases h
  rename_i ag size zero kd ht
  split at h
  · cases h
  rename_i hle
  split at h
  case isFalse => cases h
  rename_i hzs
  have hu : P.underlying t = some (.slice e) := by
    unfold elemOf at he
    split at he
    · rename_i e' hu; injection he with he; subst he; exact hu
    · cases he
  obtain ⟨z, hz1, hz2⟩ := run_zero ht w
  simp only at hz2
  have hsz := run_sizeOf ht w
  simp only at hsz
  have hzl : z.cells.size = zero.length := by rw [← hz2]; simp
  obtain ⟨⟨arr, h3, h4⟩, h5⟩ := fillC_sound (P := P) hs (bsF size 0 len) (fun i => some (i * size, size)) (by
    intro i x hx
    rw [bsF_get size len 0 i x hx, Nat.zero_add]) parts.toList _ cs h (by
      intro c hc; obtain ⟨y, _, rfl⟩ := List.mem_map.1 hc; trivial)
  refine ⟨arr, ?_, h4, h5⟩
  rw [zeros_one] at h3
  have e1 : (parts.map fun (i, x) => (i, a.eval x)).toList = parts.toList.map fun (i, x) => (i, a.eval x) := by simp
  have h3' : Instr.fill (fun i => some (i * size, size)) (repV len zero).toArray (parts.toList.map fun x => (x.fst, a.eval x.snd)) = some arr := h3
  have hz0 : len * size = 0 → ((Array.range (len * size)).map ((#[] : Array Value)[· % (#[] : Array Value).size]!)) = (repV len zero).toArray := by
    intro h0
    have : (repV len zero).length = 0 := by
      rw [repV_length, hzs]; exact h0
    have h1 : repV len zero = [] := List.eq_nil_of_length_eq_zero this
    rw [h1, h0]
    simp
  have hz3 : ¬ len * size = 0 → ((Array.range (len * size)).map (z.cells[· % z.cells.size]!)) = (repV len zero).toArray := by
    intro h0
    apply Array.ext'
    apply List.ext_getElem?
    intro i
    have hzl' : z.cells.size = size := hzl.trans hzs
    have hpos : 0 < size := by
      rcases Nat.eq_zero_or_pos size with h' | h'
      · rw [h'] at h0; simp at h0
      · exact h'
    by_cases hi : i < len * size
    · rw [show (repV len zero).toArray.toList[i]? = (repV len zero)[i]? by simp, repV_get zero len i (by rw [hzs]; exact hi), hzs]
      have hm : i % size < z.cells.size := by rw [hzl']; exact Nat.mod_lt _ hpos
      have hzi : zero[i % size]? = some z.cells[i % size] := by
        rw [← hz2]; simp [hm]
      rw [hzi]
      simp only [Array.toList_map, List.getElem?_map, Array.toList_range, List.getElem?_range hi, Option.map_some, hzl', Option.some.injEq]
      rw [getElem!_pos z.cells (i % size) hm]
    · rw [List.getElem?_eq_none (by simp; omega), List.getElem?_eq_none (by simp [repV_length, hzs]; omega)]
  unfold Instr.buildSlice
  by_cases h0 : len * size = 0
  · simp only [Sem.run_bind, run_underlying hu, Result.andThen_ok, hsz]
    rw [if_neg (by rw [show (2:Nat)^24 = 16777216 from rfl]; exact hle)]
    simp only [if_pos h0, Sem.run_bind, Result.andThen_ok, Sem.run_pure, hz0 h0, e1]
    rw [h3']
    simp only [Sem.run_bind, newRow, run_newObj, Result.andThen_ok, Sem.run_pure]
    rfl
  · simp only [Sem.run_bind, run_underlying hu, Result.andThen_ok, hsz]
    rw [if_neg (by rw [show (2:Nat)^24 = 16777216 from rfl]; exact hle)]
    simp only [if_neg h0, Sem.run_bind, hz1, Result.andThen_ok, Sem.run_pure, hz3 h0, e1]
    rw [h3']
    simp only [Sem.run_bind, newRow, run_newObj, Result.andThen_ok, Sem.run_pure]
    rfl

theorem exec_go (hs : Sat G W σ new a w) {o : Oper} {ob : Prop} {τ : St} {next : Act → World → Prop}
    (h : exec P G W σ o = .go ob τ) (hob : ob) (hK : ∀ new' a' w', (∃ m, new' = new ++ m) → Sat G W τ new' a' w' → next a' w') : GoRun P o a w next := by
  have hnil : ∃ m, new = new ++ m := ⟨[], by simp⟩
  have val : ∀ (s : SV) {ob' : Prop}, s.lt σ.L.length → (execOp a.eval o).run P w = .ok (.value (s.den (σ.X ++ new))) w → Stp.go ob' (σ.put o.dst s) = Stp.go ob τ → GoRun P o a w next := by
    intro s ob' hl hr hk
    injection hk with _ hk
    refine wp_value hr (hK new _ _ hnil ?_)
    rw [← hk]
    exact hs.put o.dst s hl
  have vv : ∀ (r : Option (Prop × SV)), vOf σ o.dst r = .go ob τ → ∃ s, r = some (ob, s) ∧ Stp.go ob (σ.put o.dst s) = Stp.go ob τ := by
    intro r hr
    cases r with
    | none => cases hr
    | some p =>
      obtain ⟨ob', s⟩ := p
      injection hr with h1 h2
      exact ⟨s, by rw [h1], by rw [h2]⟩
  unfold exec at h
  split at h
  -- move
  · rename_i x hop
    split at h
    · rename_i s hx
      obtain ⟨he, hl⟩ := ev_sound hs hx
      exact val s hl (by simp [execOp, hop, he]) h
    · cases h
  -- assign
  · rename_i x hop
    split at h
    · rename_i s hx
      obtain ⟨he, hl⟩ := ev_sound hs hx
      exact val s hl (by simp [execOp, hop, he]) h
    · cases h
  -- pick
  · rename_i c x y hop
    split at h
    · rename_i hc
      obtain ⟨hce, _⟩ := ev_sound hs hc
      split at h
      · rename_i s hx
        obtain ⟨he, hl⟩ := ev_sound hs hx
        exact val s hl (by simp [execOp, hop, hce, SV.den, asBool, he]) h
      · cases h
    · rename_i hc
      obtain ⟨hce, _⟩ := ev_sound hs hc
      split at h
      · rename_i s hx
        obtain ⟨he, hl⟩ := ev_sound hs hx
        exact val s hl (by simp [execOp, hop, hce, SV.den, asBool, he]) h
      · cases h
    · cases h
  -- load
  · rename_i t x hop
    split at h
    · rename_i s hx
      obtain ⟨he, hl⟩ := ev_sound hs hx
      obtain ⟨s', hq, hk⟩ := vv _ h
      obtain ⟨hl', hr⟩ := exLoad_sound hs hq hob
      exact val s' hl' (by simp [execOp, hop, he, hr]) hk
    · cases h
  -- store
  · rename_i t x v hop
    split at h
    · rename_i s hx
      obtain ⟨he, hl⟩ := ev_sound hs hx
      split at h
      · rename_i u hv
        obtain ⟨hve, hvl⟩ := ev_sound hs hv
        split at h
        · rename_i ob' σ' hq
          injection h with h1' h2'
          subst h1' h2'
          obtain ⟨w', hsat, hr⟩ := exStore_sound hs hq hvl hob
          refine wp_skip' (w' := w') (by simp [execOp, hop, he, hve, hr]) ?_
          exact hK _ _ _ hnil (hsat.put o.dst (.v undef) trivial)
        · cases h
      · cases h
    · cases h
  -- fieldAddr
  · rename_i t x f hop
    split at h
    · rename_i s hx
      obtain ⟨he, hl⟩ := ev_sound hs hx
      obtain ⟨s', hq, hk⟩ := vv _ h
      obtain ⟨hl', hr⟩ := exField_sound (P := P) (w := w) (σ.X ++ new) hl hq hob
      exact val s' hl' (by simp [execOp, hop, he, hr]) hk
    · cases h
  -- indexAddr
  · rename_i t x ix hop
    split at h
    · rename_i s hx
      obtain ⟨he, hl⟩ := ev_sound hs hx
      split at h
      · rename_i i hi
        obtain ⟨hie, hil⟩ := ev_sound hs hi
        obtain ⟨s', hq, hk⟩ := vv _ h
        obtain ⟨hl', hr⟩ := exIndex_sound (P := P) (w := w) (σ.X ++ new) hl hq hob
        exact val s' hl' (by simp [execOp, hop, he, hie, hr]) hk
      · cases h
    · cases h
  -- nilCheck
  · rename_i x hop
    split at h
    · rename_i i off hx
      obtain ⟨he, hl⟩ := ev_sound hs hx
      exact val _ hl (by simp [execOp, hop, he, SV.den]) h
    · rename_i A off hx
      obtain ⟨he, hl⟩ := ev_sound hs hx
      have hk := h
      injection h with h1' h2'
      rw [← h1'] at hob
      obtain ⟨ad, rfl⟩ := Option.isSome_iff_exists.1 hob
      exact val _ hl (by simp [execOp, hop, he, SV.den, pAdd]) hk
    · rename_i A hx
      obtain ⟨he, hl⟩ := ev_sound hs hx
      have hk := h
      injection h with h1' h2'
      rw [← h1'] at hob
      obtain ⟨ad, rfl⟩ := Option.isSome_iff_exists.1 hob
      exact val _ hl (by simp [execOp, hop, he, SV.den]) hk
    · cases h
  -- alloc
  · rename_i t hop
    split at h
    · rename_i ti ht
      obtain ⟨z, hz1, hz2⟩ := run_zero ht w
      have hlt : ∀ c ∈ ti.zero.map SV.v, c.lt σ.L.length := by
        intro c hc
        obtain ⟨y, _, rfl⟩ := List.mem_map.1 hc
        trivial
      refine wp_value (v := .pointer (some ⟨w.heap.size, 0, none⟩)) (w' := w.alloc (.cells ((ti.zero.map SV.v).map (SV.den (σ.X ++ new))).toArray t (0, 0))) ?_ (hK _ _ _ ⟨_, rfl⟩ (by injection h with h1' h2'; rw [← h2']; exact hs.allocP hlt o.dst))
      have : ((ti.zero.map SV.v).map (SV.den (σ.X ++ new))).toArray = z.cells := by
        apply Array.ext'
        rw [zeros_one, ← hz2]
      simp only [execOp, hop, Instr.alloc, Sem.run_bind, hz1, Result.andThen_ok, newVar, newRow, run_newObj, Sem.run_pure, this]
      rfl
    · cases h
  -- box
  · rename_i t x hop
    split at h
    · rename_i s hx
      obtain ⟨he, hl⟩ := ev_sound hs hx
      split at h
      · rename_i ti ht
        split at h
        · rename_i cs hcs
          have ho : ones cs := by injection h with h1' h2'; rw [h1']; exact hob
          have hlt : ∀ c ∈ cs, c.lt σ.L.length := cellsOf_lt hcs hl
          refine wp_value (v := .pointer (some ⟨w.heap.size, 0, none⟩)) (w' := w.alloc (.cells (cs.map (SV.den (σ.X ++ new))).toArray t (0, 0))) ?_ (hK _ _ _ ⟨_, rfl⟩ (by injection h with h1' h2'; rw [← h2']; exact hs.allocP hlt o.dst))
          have : (cs.map (SV.den (σ.X ++ new))).toArray = (s.den (σ.X ++ new)).cells := by
            apply Array.ext'
            rw [cellsOf_den hcs ho]
          simp only [execOp, hop, he, Instr.box, newVar, newRow, Sem.run_bind, run_newObj, Result.andThen_ok, Sem.run_pure, this]
          rfl
        · cases h
      · cases h
    · cases h
  -- field
  · rename_i t x f hop
    split at h
    · rename_i s hx
      obtain ⟨he, hl⟩ := ev_sound hs hx
      obtain ⟨s', hq, hk⟩ := vv _ h
      obtain ⟨hl', hr⟩ := exFld_sound (P := P) (w := w) (σ.X ++ new) hl hq
      exact val s' hl' (by simp [execOp, hop, he, hr]) hk
    · cases h
  -- build
  · rename_i t parts hop
    obtain ⟨s', hq, hk⟩ := vv _ h
    obtain ⟨hl', hr⟩ := exBuild_sound hs hq
    exact val s' hl' (by simp [execOp, hop, hr]) hk
  -- buildSlice
  · rename_i t len parts hop
    split at h
    · rename_i e hel
      split at h
      · rename_i cs hcs
        have ho : ones cs := by injection h with h1' h2'; rw [h1']; exact hob
        obtain ⟨arr, hrun, harr, hlt⟩ := exBSl_sound hs hel hcs
        refine wp_value (v := .slice (some ⟨w.heap.size, 0, none⟩) len len) (w' := w.alloc (.cells (cs.map (SV.den (σ.X ++ new))).toArray e (0, 0))) ?_ (hK _ _ _ ⟨_, rfl⟩ (by injection h with h1' h2'; rw [← h2']; exact hs.allocS hlt o.dst len len))
        have : arr = (cs.map (SV.den (σ.X ++ new))).toArray := by apply Array.ext'; simpa using harr
        simp only [execOp, hop, Sem.run_bind, hrun, Result.andThen_ok, Sem.run_pure, this]
      · cases h
    · cases h
  -- binOp
  · rename_i op t x y ty hop
    split at h
    · rename_i s hx
      obtain ⟨he, hl⟩ := ev_sound hs hx
      split at h
      · rename_i u hu
        obtain ⟨hue, hul⟩ := ev_sound hs hu
        obtain ⟨s', hq, hk⟩ := vv _ h
        obtain ⟨hl', hr⟩ := exBin_sound (P := P) (w := w) (m := σ.L.length) (σ.X ++ new) hq hob x y
        refine val s' hl' ?_ hk
        simp only [execOp, hop, he, hue, Sem.run_bind] at hr ⊢
        rw [hr]
        rfl
      · cases h
    · cases h
  -- not
  · rename_i t x hop
    split at h
    · rename_i b hx
      obtain ⟨he, hl⟩ := ev_sound hs hx
      exact val (.v (.bool (!b))) trivial (by simp [execOp, hop, he, SV.den, Op.unary]) h
    · cases h
  -- makeFunc
  · rename_i f fs cs hop
    split at h
    · rename_i l hl
      split at h
      · rename_i m hm
        obtain ⟨h1, h2⟩ := evs_sound hs hl
        obtain ⟨h3, h4⟩ := evs_sound hs hm
        split at h
        · rename_i l' hl'
          split at h
          · rename_i m' hm'
            refine val (.fn f l' m') ⟨ats_lt hl' h2, ats_lt hm' h4⟩ ?_ h
            simp only [execOp, hop, Instr.makeFunc, Sem.run_bind, Sem.run_pure, Result.andThen_ok, SV.den]
            rw [ats_den hl', ats_den hm', ← h1, ← h3]
            simp only [Result.ok.injEq, Next.value.injEq, Value.func.injEq, and_true, true_and]
            exact ⟨by apply Array.ext'; simp, by apply Array.ext'; simp⟩
          · cases h
        · cases h
      · cases h
    · cases h
  -- slice
  · rename_i t x lo hi mx hop
    split at h
    · rename_i m
      split at h
      · rename_i hh
        split at h
        · rename_i s hx
          obtain ⟨he, hl⟩ := ev_sound hs hx
          split at h
          · rename_i h' hh0
            obtain ⟨hhe, _⟩ := ev_sound hs hh0
            split at h
            · rename_i m' hm0
              obtain ⟨hme, _⟩ := ev_sound hs hm0
              obtain ⟨s', hq, hk⟩ := vv _ h
              obtain ⟨hl', hr⟩ := exSlice3_sound (P := P) (w := w) (m := σ.L.length) hl hq hob (σ.X ++ new)
              exact val s' hl' (by simp [execOp, hop, he, hhe, hme, hr]) hk
            · cases h
          · cases h
        · cases h
      · cases h
    · split at h
      · cases h
      · rename_i s hx
        obtain ⟨he, hl⟩ := ev_sound hs hx
        split at h
        · obtain ⟨s', hq, hk⟩ := vv _ h
          obtain ⟨hl', hr⟩ := exSlice_sound (P := P) (w := w) (m := σ.L.length) hl hq hob (σ.X ++ new)
          exact val s' hl' (by simp at hr; simp [execOp, hop, he, hr]) hk
        · split at h
          · rename_i l' hl0
            obtain ⟨hle, _⟩ := ev_sound hs hl0
            obtain ⟨s', hq, hk⟩ := vv _ h
            obtain ⟨hl', hr⟩ := exSlice_sound (P := P) (w := w) (m := σ.L.length) hl hq hob (σ.X ++ new)
            exact val s' hl' (by simp at hr; simp [execOp, hop, he, hle, hr]) hk
          · cases h
        · split at h
          · rename_i l' hl0
            obtain ⟨hle, _⟩ := ev_sound hs hl0
            obtain ⟨s', hq, hk⟩ := vv _ h
            obtain ⟨hl', hr⟩ := exSlice_sound (P := P) (w := w) (m := σ.L.length) hl hq hob (σ.X ++ new)
            exact val s' hl' (by simp at hr; simp [execOp, hop, he, hle, hr]) hk
          · cases h
        · split at h
          · rename_i l' hl0
            obtain ⟨hle, _⟩ := ev_sound hs hl0
            split at h
            · rename_i h' hh0
              obtain ⟨hhe, _⟩ := ev_sound hs hh0
              obtain ⟨s', hq, hk⟩ := vv _ h
              obtain ⟨hl', hr⟩ := exSlice_sound (P := P) (w := w) (m := σ.L.length) hl hq hob (σ.X ++ new)
              exact val s' hl' (by simp at hr; simp [execOp, hop, he, hle, hhe, hr]) hk
            · cases h
          · cases h
  -- extract
  · rename_i x i hop
    split at h
    · rename_i vs hx
      obtain ⟨he, hl⟩ := ev_sound hs hx
      split at h
      · rename_i y hy
        rw [getV_eq] at hy
        have hy' : vs[i]? = some y := by simpa using hy
        exact val (.v y) trivial (by simp [execOp, hop, he, SV.den, Instr.extract, hy']) h
      · cases h
    · cases h
  -- call
  · rename_i c hop
    split at h
    · rename_i hc
      split at h
      · rename_i x t hx ht
        split at h
        · rename_i s hxs
          obtain ⟨he, hl⟩ := ev_sound hs hxs
          have hx' : c.args = #[x] := by apply Array.ext'; simpa using hx
          have ht' : c.argTypes = #[t] := by apply Array.ext'; simpa using ht
          obtain ⟨s', hq, hk⟩ := vv _ h
          obtain ⟨hl', hr⟩ := exLen_sound (P := P) (w := w) (m := σ.L.length) hq o.type (σ.X ++ new)
          exact val s' hl' (by simp [execOp, hop, resolve, hc, hx', ht', he, invoke, builtin, hr]) hk
        · cases h
      · cases h
    · rename_i hc
      split at h
      · rename_i x y hxy
        split at h
        · rename_i m hx
          split at h
          · rename_i n hy
            obtain ⟨hxe, _⟩ := ev_sound hs hx
            obtain ⟨hye, _⟩ := ev_sound hs hy
            have hxy' : c.args = #[x, y] := by apply Array.ext'; simpa using hxy
            exact val (.v (.int .i64 (minI m n))) trivial (by simp [execOp, hop, resolve, hc, hxy', hxe, hye, invoke, builtin, SV.den, Builtin.min_, Builtin.min2, minI]) h
          · cases h
        · cases h
      · cases h
    · rename_i hc
      split at h
      · rename_i x y hxy
        split at h
        · rename_i m hx
          split at h
          · rename_i n hy
            obtain ⟨hxe, _⟩ := ev_sound hs hx
            obtain ⟨hye, _⟩ := ev_sound hs hy
            have hxy' : c.args = #[x, y] := by apply Array.ext'; simpa using hxy
            exact val (.v (.int .i64 (maxI m n))) trivial (by simp [execOp, hop, resolve, hc, hxy', hxe, hye, invoke, builtin, SV.den, Builtin.max_, Builtin.max2, maxI]) h
          · cases h
        · cases h
      · cases h
    · rename_i g hc
      split at h
      · rename_i args hargs
        obtain ⟨h1, h2⟩ := evs_sound hs hargs
        split at h
        · rename_i f fs cs hf
          obtain ⟨hfe, _⟩ := ev_sound hs hf
          cases h
        · rename_i f fs cs hf
          obtain ⟨hfe, _⟩ := ev_sound hs hf
          cases h
        · cases h
      · cases h
    · cases h
  · cases h

theorem exec_enter (hs : Sat G W σ new a w) {o : Oper} {f : FuncId} {args : List SV} (h : exec P G W σ o = .call f args) (hok : fnOK P f = true) :
    (execOp a.eval o).run P w = .ok (.enter f (args.map (SV.den (σ.X ++ new))).toArray) w := by
  have vv : ∀ (r : Option (Prop × SV)), vOf σ o.dst r ≠ .call f args := by
    intro r hr
    cases r <;> cases hr
  have docall : ∀ (c : Call) (fs cs : List SV) (args' : List SV) (fv : Value), o.op = .call c → (∃ g, c.callee = .value g ∧ a.eval g = fv) → c.args.toList.map a.eval = args'.map (SV.den (σ.X ++ new)) →
      fv = .func (.func f) (fs.map (SV.den (σ.X ++ new))).toArray (cs.map (SV.den (σ.X ++ new))).toArray → args = fs ++ args' ++ cs → (execOp a.eval o).run P w = .ok (.enter f (args.map (SV.den (σ.X ++ new))).toArray) w := by
    intro c fs cs args' fv hop ⟨g, hg, hge⟩ hargs hfv hc
    subst hc
    unfold fnOK at hok
    split at hok
    · rename_i fn hfn
      simp only [Bool.and_eq_true, bne_iff_ne] at hok
      have hargs' : c.args.map a.eval = (args'.map (SV.den (σ.X ++ new))).toArray := by
        apply Array.ext'
        simpa using hargs
      have hb : ¬ fn.body = none := by intro hq; simp [hq] at hok
      simp [execOp, hop, resolve, hg, hge, hfv, hargs', Deferred.ofValue, invoke, callFunc, hfn, hok.1, hb]
    · cases hok
  cases hop : o.op
  case call c =>
    simp only [exec, hop] at h
    split at h
    · split at h
      · split at h
        · exact absurd h (vv _)
        · cases h
      · cases h
    · (repeat' split at h) <;> cases h
    · (repeat' split at h) <;> cases h
    · rename_i g hc
      split at h
      · rename_i args' hargs
        obtain ⟨h1, h2⟩ := evs_sound hs hargs
        split at h
        · rename_i f' fs cs hf
          obtain ⟨hfe, _⟩ := ev_sound hs hf
          injection h with h3 h4
          subst h3
          refine docall c _ _ args' _ hop ⟨g, hc, hfe⟩ h1 ?_ h4.symm
          simp [SV.den, Function.comp_def]
        · rename_i f' fs cs hf
          obtain ⟨hfe, _⟩ := ev_sound hs hf
          injection h with h3 h4
          subst h3
          refine docall c _ _ args' _ hop ⟨g, hc, hfe⟩ h1 ?_ h4.symm
          rw [map_sv_den, map_sv_den]
          rfl
        · cases h
      · cases h
    · cases h
  case unOp op t x =>
    exfalso
    cases op <;> simp only [exec, hop] at h <;> (repeat' split at h) <;> cases h
  all_goals
    exfalso
    simp only [exec, hop] at h
    (repeat' split at h) <;> first | (cases h; done) | exact vv _ h
theorem exec_call (hs : Sat G W σ new a w) {o : Oper} {f : FuncId} {args : List SV} {next : Act → World → Prop} {Q : Exit → Act → World → Prop}
    (h : exec P G W σ o = .call f args) (hok : fnOK P f = true)
    (hcl : Calls P f (args.map (SV.den (σ.X ++ new))).toArray w fun
        | .returned v, w' => next (a.put o.dst v) w'
        | _, _ => False) : o.wp P a w next Q := by
  unfold Oper.wp
  rw [exec_enter hs h hok, Oper.upon_enter]
  refine hcl.mono ?_
  intro e w' he
  cases e with
  | returned v => exact he
  | panicked c => exact he.elim
  | outgrown => exact he.elim

theorem exec_go_op {o : Oper} {ob : Prop} {τ : St} (h : exec P G W σ o = .go ob τ) : ∀ c, o.op ≠ .defer c := by
  intro c hop
  simp only [exec, hop] at h
  cases h

theorem exec_call_op {o : Oper} {f : FuncId} {args : List SV} (h : exec P G W σ o = .call f args) : ∀ c, o.op ≠ .defer c := by
  intro c hop
  simp only [exec, hop] at h
  cases h

theorem exec_callIn (hs : Sat G W σ new a w) {o : Oper} {f : FuncId} {args : List SV} {next : Act → World → Prop} {Q : Exit → Act → World → Prop} {ro : Option Nat}
    (h : exec P G W σ o = .call f args) (hok : fnOK P f = true)
    (hcl : Calls P f (args.map (SV.den (σ.X ++ new))).toArray w fun
        | .returned v, w' => next (a.put o.dst v) w'
        | _, _ => False) : o.wpIn (wf ro) 0 P a w next Q := by
  have hrun := exec_enter hs h hok
  refine ⟨fun _ _ => trivial, ?_⟩
  rw [Oper.semAt_eq _ _ _ (exec_call_op h), hrun, Oper.uponIn_enter]
  refine ⟨by simp [wf], calls_in (hcl.mono ?_)⟩
  intro e w' he
  cases e with
  | returned v => exact he
  | panicked c => exact he.elim
  | outgrown => exact he.elim
end sound3
end Go.Eng
