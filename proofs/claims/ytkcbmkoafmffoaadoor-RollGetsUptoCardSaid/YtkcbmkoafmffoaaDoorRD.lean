/-
  The roll layer: Add.
-/
import Derived.Test.YtkcbmkoafmffoaaDoorRC
set_option linter.unusedVariables false
set_option linter.unusedSimpArgs false
set_option maxRecDepth 20000
set_option maxHeartbeats 8000000
namespace Go.Proofs.YtkcbmkoafmffoaaDoor
open Go Go.Eng

/-- The library's table of numbers lies in blocks of G. -/
structure TabIn (G : Nat → Prop) (W : World) : Prop where
  t : Tab W
  g : ∀ b, Tryd.prog.globalNamed "internal/strconv.uint64pow10" = some b → G b
theorem TabIn.keep {G : Nat → Prop} {W w : World} (h : TabIn G W) (hK : Keep G W w) : TabIn G w := by
  refine ⟨?_, h.g⟩
  have ht := h.t
  unfold Tab Lib.TabIs World.var? at *
  cases hg : Tryd.prog.globalNamed "internal/strconv.uint64pow10" with
  | none => simp [hg] at ht
  | some g =>
    simp only [hg, Option.bind_some] at ht ⊢
    rw [hK.block g (h.g g hg)]
    exact ht
theorem TabIn.mono {G G' : Nat → Prop} {W : World} (h : TabIn G W) (hg : ∀ b, G b → G' b) : TabIn G' W := ⟨h.t, fun b hb => hg b (h.g b hb)⟩

theorem hs_asn {w : World} {O : Nat → Prop} {p : Nat} {A : Asn} {T : List (Option SV)} (hI : A.R O p w) (hO : ∀ b, O b → b < w.heap.size) : HS (Gm w O) w { T := T, X := [p], L := [.asn A], D := [] } [] w := by
  refine ⟨fun i b => i = 0 ∧ O b, rfl, ?_, ?_, ?_, ?_, fun b hb => hb.1, Keep.refl _ _⟩
  · intro i e hi
    match i, hi with
    | 0, hi =>
      simp at hi; subst hi
      show A.R (fun b => 0 = 0 ∧ O b) p w
      have : (fun b => 0 = 0 ∧ O b) = O := by funext b; simp
      rw [this]; exact hI
  · intro e he
    simp at he; subst he; trivial
  · intro i j b hi hj hij h1 h2
    exact hij (h1.1.trans h2.1.symm)
  · intro i b hi hb
    exact ⟨fun h => h.2 hb.2, hO b hb.2⟩
theorem tabW_of {G : Nat → Prop} {W w : World} {σ : St} {new : List Nat} {own : Nat → Nat → Prop} {s : TS} {i : Nat} (ho : HSo G W σ new w own) (hi : σ.L[i]? = some (.asn (TabA s))) : TabW w (own i) ((σ.X ++ new).getD i 0) s :=
  ⟨ho.ok i _ hi, fun b hb => (ho.out i b (List.getElem?_eq_some_iff.1 hi).1 hb).2⟩
/-- A bool in a cell of the entry's own block. -/
def OkA (b : Bool) : Asn := ⟨fun O p w => O p ∧ w.heap[p]? = some (.cells #[.bool b] 4 (0, 0)), fun h hw => ⟨h.1, by rw [hw _ h.1]; exact h.2⟩⟩

/-- What Add leaves. -/
def AddP (w : World) (O : Nat → Prop) (p : Nat) (r : TS × List Int × Int) (e : Ending) (w' : World) : Prop :=
  ∃ O1 O2 nl b cap cur, e = .returned (.tuple #[.slice (sA nl b 0) r.2.1.length cap, .int .i64 r.2.2]) ∧ FS0 1 r.2.1.length (ics r.2.1) nl cap cur ∧ (TabA r.1).R O1 p w' ∧ (RowA b nl 3 cur).R O2 0 w' ∧ Chg w w' O O1 ∧ (∀ x, O2 x → x < w'.heap.size ∧ (w.heap.size ≤ x ∨ O x)) ∧ ∀ x, O1 x → O2 x → False

theorem Res.okOpen {P : Program} {Q : Pst} {G : Nat → Prop} {W : World} {σ : St} {k : List It} {b : Bool} (i : Nat) (hi : getE σ.L i = some (.asn (OkA b))) (h : Res P Q G W { σ with L := setE σ.L i (.cells 4 [.v (.bool b)]) ++ [] } k) : Res P Q G W σ k := by
  refine Res.openA (D := Unit) i (OkA b) hi (fun _ => True) (fun _ => .cells 4 [.v (.bool b)]) (fun _ => []) (fun _ => ⟨?_, (fun e he => by cases he)⟩) ?_ (fun _ _ => h)
  · intro c hc
    simp at hc; subst hc; trivial
  · rintro ids O w hl hR hO
    refine ⟨(), [], fun i b => i = 0 ∧ O b, trivial, rfl, ⟨⟨rfl, hR.1⟩, hR.2⟩, (fun j e he => by cases he), fun i j b hij h1 h2 => hij (h1.1.trans h2.1.symm), fun i b hb => hb.2⟩

/-- Where the first loop stands. -/
structure LZ where
  k : Nat
  b : Bool
  l : List (Sb × SL)
  r : RowX
structure LZ.ok (ids : List Int) (gl : List (Sb × SL)) (z : LZ) : Prop where
  k : z.k ≤ gl.length
  b : ((gl.take z.k).map (·.1)).all (rollSok ids gl.length) = z.b
  l : z.l.map (·.1) = ((gl.take z.k).map (·.1)).map (rollS ids gl.length)
  f : FS0 6 z.k (gcs z.l) z.r.nl z.r.cap z.r.cur
theorem all_step {α : Type} (p : α → Bool) (l : List α) (i : Nat) (h : α) (hi : l[i]? = some h) : (l.take (i + 1)).all p = ((l.take i).all p && p h) := by
  rw [List.take_add_one, hi]; simp

section addmap
variable {Q : Pst} {w : World} {O : Nat → Prop}
/-- A type of the group is rolled up. -/
theorem CallAt.addMap {σ : St} {dst : Option Tmp} {k : List It} {ids : List Int} {A : Option Addr} {c : Nat} {B : Option Addr} {m cg : Nat} (q : Sb × SL) (b0 b1 : Bool) (hb : (b0 && (sHeaps q.1).all (rollOk ids m)) = b1) (hn : σ.L.length = 9)
    (h2 : σ.L[2]? = some (.cells 44 [.v (.slice A ids.length c)])) (h3 : σ.L[3]? = some (.cells 51 [.v (.slice B m cg)])) (h4 : σ.L[4]? = some (.cells 3 [.v (.int .i64 ids.length)])) (h5 : σ.L[5]? = some (.cells 4 [.v (.bool b0)]))
    (hA : Cs (Gm w O) w A (ics ids)) (hids : ∀ i ∈ ids, i64ok i) (hz : ids.length ≤ 1100000) (hm : m ≤ 1100000) (hg : SbR (Gm w O) w q.1 q.2) (hqz : q.1.small 1100000) (hqo : q.1.ok)
    (hk : ∀ y, Res Tryd.prog Q (Gm w O) w (({ σ with L := setE σ.L 5 (.cells 4 [.v (.bool b1)]) ++ [.asn (NstA [(rollS ids m q.1, y)])] } : St).put dst (.v ((rollS ids m q.1).v y))) k) :
    CallAt Tryd.prog Q (Gm w O) w σ 20 [.agg [.v (.bool q.1.fin), .v (.slice q.2.a1 q.1.su.length q.2.c1), .v (.int .i64 q.1.k), .v (.slice q.2.a2 q.1.ps.length q.2.c2), .v (.slice q.2.a3 q.1.rs.length q.2.c3), .v (.slice q.2.a4 q.1.fs.length q.2.c4)], .fn (.func 53) [] [.p 4 0, .p 2 0, .p 3 0, .p 5 0]] dst k := by
  refine CallAt.merge 5 [5] (OkA b0) ⟨by omega, by simp⟩ (fun new w1 own ho => ?_) ?_
  · obtain ⟨g1, g2⟩ := ho.ok 5 _ h5
    exact ⟨⟨5, by simp, by omega, g1⟩, g2⟩
  have hget : ∀ j, j ≠ 5 → (σ.merge 5 [5] (OkA b0)).L[j]? = σ.L[j]? := by
    intro j hj
    simp only [St.merge, setE_eq, killE]
    rw [List.getElem?_set_ne (Ne.symm hj), List.getElem?_set_ne (Ne.symm hj)]
  have hlen : (σ.merge 5 [5] (OkA b0)).L.length = 9 := by simp [St.merge, killE_length, setE_eq, hn]
  have h5' : (σ.merge 5 [5] (OkA b0)).L[5]? = some (.asn (OkA b0)) := by
    simp only [St.merge, setE_eq, killE]
    rw [List.getElem?_set_self (by simp [hn])]
  refine CallAt.asnA 5 (OkA b0) (by rw [getE_eq]; exact h5') (fun v A' A2 => ∃ y, v = (rollS ids m q.1).v y ∧ A' = OkA b1 ∧ A2 = NstA [(rollS ids m q.1, y)]) ?_ ?_
  · intro new w1 own ho
    obtain ⟨n1, n2⟩ := ho.ok 4 _ (by rw [hget 4 (by decide)]; exact h4)
    obtain ⟨i1, i2⟩ := ho.ok 2 _ (by rw [hget 2 (by decide)]; exact h2)
    obtain ⟨g1, g2⟩ := ho.ok 3 _ (by rw [hget 3 (by decide)]; exact h3)
    have o1 : (OkA b0).R (own 5) (((σ.merge 5 [5] (OkA b0)).X ++ new).getD 5 0) w1 := ho.ok 5 _ h5'
    have gm : ∀ j x, j ≠ 5 → j < 9 → own j x → Gm w1 (own 5) x := fun j x hj hj9 hx => ⟨(ho.out j x (by omega) hx).2, fun h => ho.apart j 5 x (by omega) (by omega) hj hx h⟩
    have gG : ∀ x, Gm w O x → Gm w1 (own 5) x := fun x hx => ⟨Nat.lt_of_lt_of_le hx.1 ho.keep.size, fun h => (ho.out 5 x (by omega) h).1 hx⟩
    have hcap : CapR (Gm w1 (own 5)) w1 _ _ _ ids A c B m cg := ⟨⟨gm 4 _ (by decide) (by decide) n1, n2⟩, ⟨gm 2 _ (by decide) (by decide) i1, i2⟩, ⟨gm 3 _ (by decide) (by decide) g1, g2⟩, (hA.keep ho.keep).mono gG⟩
    have hM := m_Map (G := Gm w1 (own 5)) (W := w1) (O := own 5) q.1 q.2 53 [.pointer (some ⟨((σ.merge 5 [5] (OkA b0)).X ++ new).getD 4 0, 0, none⟩), .pointer (some ⟨((σ.merge 5 [5] (OkA b0)).X ++ new).getD 2 0, 0, none⟩), .pointer (some ⟨((σ.merge 5 [5] (OkA b0)).X ++ new).getD 3 0, 0, none⟩), .pointer (some ⟨((σ.merge 5 [5] (OkA b0)).X ++ new).getD 5 0, 0, none⟩)]
      (fun i => OkI (((σ.merge 5 [5] (OkA b0)).X ++ new).getD 5 0) (b0 && ((sHeaps q.1).take i).all (rollOk ids m))) (fun i => rollH ids m ((sHeaps q.1).getD i ⟨0, 0⟩)) fnok53 (Keep.refl _ _) (fun b h => h) (fun b h => (ho.out 5 b (by omega) h).2) (by
        have : (b0 && ((sHeaps q.1).take 0).all (rollOk ids m)) = b0 := by simp
        simp only [this]
        exact o1) ((hg.keep ho.keep).mono gG) hqz (fun i h hi => by
        have hs := add2_step hcap hz hm (bo := ((σ.merge 5 [5] (OkA b0)).X ++ new).getD 5 0) (b0 && ((sHeaps q.1).take i).all (rollOk ids m)) h (sHeaps_ok hqo h (List.mem_of_getElem? hi))
        have e1 : ((sHeaps q.1).getD i ⟨0, 0⟩) = h := by rw [List.getD_eq_getElem?_getD, hi]; rfl
        simp only [e1, all_step _ _ i h hi, ← Bool.and_assoc]
        exact hs)
    refine hM.mono ?_
    rintro e w' ⟨O1, O2, y, rfl, hI, hR, hC, hO2, hdis⟩
    rw [mapS_smap] at hR ⊢
    refine ⟨_, _, _, O1, O2, rfl, ⟨y, rfl, rfl, rfl⟩, ?_, ?_, hC, hO2, hdis⟩
    · simp only [List.take_length, hb] at hI
      exact hI
    · intro q' hq'
      simp only [List.mem_cons, List.not_mem_nil, or_false] at hq'
      subst hq'
      exact hR
  · rintro _ _ _ ⟨y, rfl, rfl, rfl⟩
    have hL : setE (((σ.merge 5 [5] (OkA b0)).ent 5 (.asn (OkA b1))).new (.asn (NstA [(rollS ids m q.1, y)]))).L 5 (.cells 4 [.v (.bool b1)]) ++ [] = setE σ.L 5 (.cells 4 [.v (.bool b1)]) ++ [.asn (NstA [(rollS ids m q.1, y)])] := by
      simp only [St.merge, St.ent, St.new, setE_eq, killE, List.append_nil, List.set_append, List.length_set, hn, if_true, show (5 : Nat) < 9 from by decide, List.set_set]
    have := hk y
    rw [← hL] at this
    refine Res.okOpen (b := b1) 5 ?_ ?_
    · have hp : ∀ (τ : St) (s : SV), (τ.put dst s).L = τ.L := fun τ s => by cases dst <;> rfl
      rw [hp, getE_eq]
      simp only [St.merge, St.ent, St.new, setE_eq, killE]
      rw [List.getElem?_append_left (by simp [hn]), List.getElem?_set_self (by simp [hn])]
    · cases dst <;> exact this
end addmap

theorem CallAt.le {P : Program} {Q : Pst} {G : Nat → Prop} {W : World} {σ' σ : St} {f : FuncId} {args : List SV} {dst : Option Tmp} {k : List It} (vs : List Value) (h : St.Le σ' σ) (ha : ∀ ids, args.map (SV.den ids) = vs) (hc : CallAt P Q G W σ' f args dst k) : CallAt P Q G W σ f args dst k := by
  intro new a w hs
  obtain ⟨new', hs'⟩ := hs.le h
  have := hc new' a w hs'
  rw [ha] at this ⊢
  exact this

theorem m_Add {w : World} {O : Nat → Prop} {p : Nat} (s : TS) (hf : s.fit) (hT : TabW w O p s) (ids : List Int) (A : Option Addr) (c : Nat) (hA : Cs (Gm w O) w A (ics ids)) (nA : A = none → ids = []) (hids : ∀ i ∈ ids, i64ok i) (hz : ids.length ≤ 1000000)
    (gl : List (Sb × SL)) (B : Option Addr) (cg : Nat) (hB : Cs (Gm w O) w B (gcs gl)) (hg : GrR (Gm w O) w gl) (hgz : ∀ q ∈ gl, q.1.small 1100000 ∧ q.1.ok) (hm : gl.length ≤ 100000) (hTab : TabIn (Gm w O) w) :
    Calls Tryd.prog 18 #[.pointer (some ⟨p, 0, none⟩), .slice A ids.length c, .slice B gl.length cg] w fun e w' => AddP w O p (addF s ids (gl.map (·.1))) e w' := by
  refine Go.Eng.start (X := [p]) (L := [.asn (TabA s)]) (args := [.p 0 0, .v (.slice A ids.length c), .v (.slice B gl.length cg)]) (G := Gm w O) Tryd.func18 rfl Tryd.ntmps18 (by simp [SV.lt]) (hs_asn hT.r hT.o) ?_
  refine Res.run 1000 ?_
  obtain ⟨R, hR⟩ : ∃ R, addF s ids (gl.map (·.1)) = R := ⟨_, rfl⟩
  rw [hR]
  unfold addF at hR
  simp only [↓reduceIte, Nat.reduceEqDiff, Nat.reduceAdd, Nat.reduceSub, Nat.reduceMul, Nat.reduceLT, Int.reduceToNat, Int.reduceBEq, Int.reduceBNe, Int.reduceLT, Int.reduceLE, E, E', TY]
  refine ⟨fnok49, CallAt.detS (.v (.bool true)) trivial (fun new w' hs => by obtain ⟨own, ho⟩ := hs; exact m_there (tabW_of (i := 0) ho rfl)) (Res.run 900 ?_)⟩
  simp only [↓reduceIte, Nat.reduceEqDiff, Nat.reduceAdd, Nat.reduceSub, Nat.reduceMul, Nat.reduceLT, Int.reduceToNat, Int.reduceBEq, Int.reduceBNe, Int.reduceLT, Int.reduceLE, E, E', TY]
  refine ⟨fnok50, CallAt.detS (.v (.bool (ids.any fun i => !hasF s i))) trivial (fun new w' hs => ?_) (Res.run 900 ?_)⟩
  · obtain ⟨own, ho⟩ := hs
    obtain ⟨h1, h2⟩ := ho.ok 1 _ rfl
    exact m_ctI A c ids 51 ⟨_, 0, none⟩ (fun i => !hasF s i) fnok51 (fun n w2 hE => m_add1 ((tabW_of (i := 0) ho rfl).ext hE) (keepH hE h2) n) ((hA.keep ho.keep).mono fun b hb => Nat.lt_of_lt_of_le hb.1 ho.keep.size) (by omega)
  have err : ∀ {T : List (Option SV)} {L : List Ent} {new : List Nat} {w' : World}, HS (Gm w O) w { T := T, X := [p], L := .asn (TabA s) :: L, D := [] } new w' → ∀ n : Int, AddP w O p (s, [], n) (.returned (.tuple #[.slice none 0 0, .int .i64 n])) w' := by
    rintro T L new w' ⟨own, ho⟩ n
    exact ⟨own 0, fun _ => False, true, 0, 0, [], rfl, FS0.empty, ho.ok 0 _ rfl, (fun h => by cases h), chg_of ho 0 (by simp), fun x h => h.elim, fun x _ h => h⟩
  cases e1 : ids.any (fun i => !hasF s i) with
  | true =>
    rw [if_pos e1] at hR
    subst hR
    simp only [↓reduceIte, Nat.reduceEqDiff, Nat.reduceAdd, Nat.reduceSub, Nat.reduceMul, Nat.reduceLT, Int.reduceToNat, Int.reduceBEq, Int.reduceBNe, Int.reduceLT, Int.reduceLE, E, E', TY]
    refine Ret.body [.v (.slice none 0 0), .v (.int .i64 2)] rfl (by kernel_rfl) fun new w' hs => ?_
    exact err hs 2
  | false =>
  rw [if_neg (by simp [e1])] at hR
  simp only [↓reduceIte, Nat.reduceEqDiff, Nat.reduceAdd, Nat.reduceSub, Nat.reduceMul, Nat.reduceLT, Int.reduceToNat, Int.reduceBEq, Int.reduceBNe, Int.reduceLT, Int.reduceLE, E, E', TY]
  refine Res.ghost (RowA 0 true 29 []) (fun w h => by cases h) ?_
  refine Res.ghost (NstA []) (fun w q hq => by cases hq) (Res.run 900 ?_)
  simp only [↓reduceIte, Nat.reduceEqDiff, Nat.reduceAdd, Nat.reduceSub, Nat.reduceMul, Nat.reduceLT, Int.reduceToNat, Int.reduceBEq, Int.reduceBNe, Int.reduceLT, Int.reduceLE, E, E', TY]
  refine Res.loop (X := {z : LZ // z.ok ids gl})
    (fun z => { T := mkT 135 [(3, .p 1 0), (4, .p 2 0), (5, .p 3 0), (8, .p 4 0), (9, .p 5 0), (10, .v (.slice (sA z.1.r.nl z.1.r.b 0) z.1.k z.1.r.cap)), (29, .v (.slice B gl.length cg)), (30, .v (.int .i64 gl.length)), (31, .v (.int .i64 (z.1.k : Int)))], X := [p], L := [.asn (TabA s), .cells 45 [.p 0 0], .cells 44 [.v (.slice A ids.length c)], .cells 51 [.v (.slice B gl.length cg)], .cells 3 [.v (.int .i64 ids.length)], .cells 4 [.v (.bool z.1.b)], .asn (RowA z.1.r.b z.1.r.nl 29 z.1.r.cur), .asn (NstA z.1.l)], D := [] })
    (fun z => gl.length - z.1.k) ⟨⟨0, true, [], RowX.e⟩, ⟨by simp, by simp, by simp, FS0.empty⟩⟩ (St.Le.of 8 (by simp only [↓reduceIte, Nat.reduceEqDiff, Nat.reduceAdd, Nat.reduceSub, Nat.reduceMul, Nat.reduceLT, Int.reduceToNat, Int.reduceBEq, Int.reduceBNe, Int.reduceLT, Int.reduceLE, E, E', TY, sA_true, RowX.e]; rfl)) ?_
  · rintro ⟨⟨k, b, l, r⟩, hk, hb, hl, hF⟩
    simp only at hk hb hl hF ⊢
    refine Res.run 900 ?_
    by_cases hlt : k < gl.length
    case pos =>
      --ROUND
      have e2 : decide ((k : Int) < (gl.length : Int)) = true := by simp; omega
      obtain ⟨a0, a1, a2, a3, a4, a5, a6⟩ := gcs_at hB k hlt
      have hAs : B.isSome = true := okRd_some a0
      obtain ⟨q, hq⟩ : ∃ q, gl[k] = q := ⟨_, rfl⟩
      rw [hq] at a1 a2 a3 a4 a5 a6
      have hqm : q ∈ gl := hq ▸ List.getElem_mem hlt
      obtain ⟨hqz, hqo⟩ := hgz q hqm
      by_cases hbt : b = true
      case' pos =>
        obtain ⟨b1, hb1⟩ : ∃ b1, (psF q.1 && (sHeaps q.1).all (rollOk ids gl.length)) = b1 := ⟨_, rfl⟩
        have hbb : (b && rollSok ids gl.length q.1) = b1 := by rw [hbt, Bool.true_and]; exact hb1
        simp only [↓reduceIte, Nat.reduceEqDiff, Nat.reduceAdd, Nat.reduceSub, Nat.reduceMul, Nat.reduceLT, Int.reduceToNat, Int.reduceBEq, Int.reduceBNe, Int.reduceLT, Int.reduceLE, E, E', TY, hbt, e2, a1, a2, a3, a4, a5, a6, Int.toNat_natCast]
        refine ⟨⟨by omega, by omega, hAs⟩, a0, ?_⟩
        refine ⟨fnok11, CallAt.det #[q.1.v q.2] (.bool (psF q.1)) (fun _ => rfl) (fun w' hK => m_PlainSub q.1 q.2 (((hg q hqm).keep hK).mono fun b hb => Nat.lt_of_lt_of_le hb.1 hK.size) hqz) (Res.run 900 ?_)⟩
        simp only [↓reduceIte, Nat.reduceEqDiff, Nat.reduceAdd, Nat.reduceSub, Nat.reduceMul, Nat.reduceLT, Int.reduceToNat, Int.reduceBEq, Int.reduceBNe, Int.reduceLT, Int.reduceLE, E, E', TY]
        refine ⟨fnok20, CallAt.addMap (ids := ids) (A := A) (c := c) (B := B) (m := gl.length) (cg := cg) q (psF q.1) b1 hb1 rfl rfl rfl rfl rfl hA hids (by omega) (by omega) (hg q hqm) hqz hqo fun y => Res.run 900 ?_⟩
        have hv : (rollS ids gl.length q.1).v y = .agg #[.bool (rollS ids gl.length q.1).fin, .slice y.a1 (rollS ids gl.length q.1).su.length y.c1, .int .i64 (rollS ids gl.length q.1).k, .slice y.a2 (rollS ids gl.length q.1).ps.length y.c2, .slice y.a3 (rollS ids gl.length q.1).rs.length y.c3, .slice y.a4 (rollS ids gl.length q.1).fs.length y.c4] := rfl
        simp only [↓reduceIte, Nat.reduceEqDiff, Nat.reduceAdd, Nat.reduceSub, Nat.reduceMul, Nat.reduceLT, Int.reduceToNat, Int.reduceBEq, Int.reduceBNe, Int.reduceLT, Int.reduceLE, E, E', TY, hv]
      case' neg =>
        have hbt : b = false := by simpa using hbt
        obtain ⟨b1, hb1⟩ : ∃ b1, (false && (sHeaps q.1).all (rollOk ids gl.length)) = b1 := ⟨_, rfl⟩
        have hbb : (b && rollSok ids gl.length q.1) = b1 := by rw [hbt, ← hb1]; rfl
        simp only [↓reduceIte, Nat.reduceEqDiff, Nat.reduceAdd, Nat.reduceSub, Nat.reduceMul, Nat.reduceLT, Int.reduceToNat, Int.reduceBEq, Int.reduceBNe, Int.reduceLT, Int.reduceLE, E, E', TY, hbt, e2, a1, a2, a3, a4, a5, a6, Int.toNat_natCast]
        refine ⟨⟨by omega, by omega, hAs⟩, a0, ?_⟩
        refine ⟨fnok20, CallAt.addMap (ids := ids) (A := A) (c := c) (B := B) (m := gl.length) (cg := cg) q false b1 hb1 rfl rfl rfl rfl rfl hA hids (by omega) (by omega) (hg q hqm) hqz hqo fun y => Res.run 900 ?_⟩
        have hv : (rollS ids gl.length q.1).v y = .agg #[.bool (rollS ids gl.length q.1).fin, .slice y.a1 (rollS ids gl.length q.1).su.length y.c1, .int .i64 (rollS ids gl.length q.1).k, .slice y.a2 (rollS ids gl.length q.1).ps.length y.c2, .slice y.a3 (rollS ids gl.length q.1).rs.length y.c3, .slice y.a4 (rollS ids gl.length q.1).fs.length y.c4] := rfl
        simp only [↓reduceIte, Nat.reduceEqDiff, Nat.reduceAdd, Nat.reduceSub, Nat.reduceMul, Nat.reduceLT, Int.reduceToNat, Int.reduceBEq, Int.reduceBNe, Int.reduceLT, Int.reduceLE, E, E', TY, hv]
      all_goals
        refine Res.op (OpAt.appendR (x := .tmp 43) (y := .tmp 45) (t := 51) (e := 29) (size := 6) (bytes := 112) (i := 6) (b := r.b) (nl := r.nl) (n := k) (cap := r.cap) (m := 1) (cur := r.cur) (pcs (rollS ids gl.length q.1, y)) rfl rfl rfl rfl ap51 rfl rfl hF
          (SrcOK.s (j := 10) (off := 0) (c := 1) (nl := false) rfl rfl (by simp) (by intro i u hu; rw [Nat.zero_add]; exact hu)) rfl (pcs_one _) ⟨by simp [maxLen]; omega, by omega⟩ fun nl' b' cap' cur' hF' hn' => Res.run 900 ?_)
        simp only [↓reduceIte, Nat.reduceEqDiff, Nat.reduceAdd, Nat.reduceSub, Nat.reduceMul, Nat.reduceLT, Int.reduceToNat, Int.reduceBEq, Int.reduceBNe, Int.reduceLT, Int.reduceLE, E, E', TY]
        refine ⟨i64ok_of (by omega) (by omega), ?_⟩
        refine Res.merge 7 [7, 9] (NstA (l ++ [(rollS ids gl.length q.1, y)])) ⟨by simp, by simp⟩ (fun new w1 own ho => ?_) ?_
        · have n1 : GrR (own 7) w1 l := ho.ok 7 _ rfl
          have n2 : GrR (own 9) w1 [(rollS ids gl.length q.1, y)] := ho.ok 9 _ rfl
          exact GrR.app (n1.mono fun b hb => ⟨7, by simp, by simp, hb⟩) (n2.mono fun b hb => ⟨9, by simp, by simp, hb⟩)
        refine Res.again (⟨⟨k + 1, b1, l ++ [(rollS ids gl.length q.1, y)], ⟨nl', b', cap', cur'⟩⟩, ⟨by simp only; omega, ?_, ?_, ?_⟩⟩ : {z : LZ // z.ok ids gl}) (by simp only; omega) (St.Le.of 8 (by simp only [↓reduceIte, Nat.reduceEqDiff, Nat.reduceAdd, Nat.reduceSub, Nat.reduceMul, Nat.reduceLT, Int.reduceToNat, Int.reduceBEq, Int.reduceBNe, Int.reduceLT, Int.reduceLE, E, E', TY, St.merge, killE, Int.natCast_add, Int.cast_ofNat_Int]) (hx := by show 1 ≤ 8; decide))
        · simp only
          rw [take_succ' gl k hlt, List.map_append, List.all_append, hb, hq]
          simp only [List.map_cons, List.map_nil, List.all_cons, List.all_nil, Bool.and_true]
          exact hbb
        · simp only
          rw [take_succ' gl k hlt, List.map_append, List.map_append, List.map_append, hl, hq]
          rfl
        · simp only
          have : gcs (l ++ [(rollS ids gl.length q.1, y)]) = gcs l ++ pcs (rollS ids gl.length q.1, y) := by simp [gcs]
          rw [this]; exact hF'
    --END
    obtain rfl : k = gl.length := by omega
    have e2 : decide ((gl.length : Int) < (gl.length : Int)) = false := by simp
    rw [List.take_length] at hb hl
    cases b with
    | false =>
      rw [List.length_map, if_pos hb] at hR
      subst hR
      simp only [↓reduceIte, Nat.reduceEqDiff, Nat.reduceAdd, Nat.reduceSub, Nat.reduceMul, Nat.reduceLT, Int.reduceToNat, Int.reduceBEq, Int.reduceBNe, Int.reduceLT, Int.reduceLE, E, E', TY, e2]
      refine Ret.body [.v (.slice none 0 0), .v (.int .i64 2)] rfl (by kernel_rfl) fun new w' hs => ?_
      exact err hs 2
    | true =>
    rw [List.length_map, if_neg (by rw [hb]; simp)] at hR
    simp only [↓reduceIte, Nat.reduceEqDiff, Nat.reduceAdd, Nat.reduceSub, Nat.reduceMul, Nat.reduceLT, Int.reduceToNat, Int.reduceBEq, Int.reduceBNe, Int.reduceLT, Int.reduceLE, E, E', TY, e2]
    have hll : l.length = gl.length := by have := congrArg List.length hl; simpa using this
    have hlz : ∀ q ∈ l, q.1.small 1100000 ∧ q.1.ok := by
      intro q hq
      have : q.1 ∈ l.map (·.1) := List.mem_map.2 ⟨q, hq, rfl⟩
      rw [hl] at this
      obtain ⟨g, hgm, he⟩ := List.mem_map.1 this
      obtain ⟨q0, hq0, rfl⟩ := List.mem_map.1 hgm
      rw [← he]
      exact ⟨smap_small _ (hgz q0 hq0).1, smap_ok _ (fun h hh => rollH_ok hids (by omega) h hh) (hgz q0 hq0).2⟩
    refine Res.free (b := r.b) (nl := r.nl) (ty := 29) (cur := r.cur) 6 rfl fun nx w1 hnx hKw hrow => ?_
    refine Res.le (St.Le.unfix (X := [p]) (m := nx) rfl) ?_
    have hCr : Cs (fun x => Gm w O x ∨ (r.nl = false ∧ x = r.b)) w1 (sA r.nl r.b 0) (gcs l) := by
      have := cs_rowA (O := fun x => Gm w O x ∨ (r.nl = false ∧ x = r.b)) (q := 0) (w := w1) (b := r.b) (nl := r.nl) (ty := 29) (cur := r.cur) (fun hn => ⟨.inr ⟨hn, rfl⟩, (hrow hn).1⟩) (by rw [← hll] at hF; exact hF)
      exact this
    have hA1 : Cs (fun x => Gm w O x ∨ (r.nl = false ∧ x = r.b)) w1 A (ics ids) := (hA.keep hKw).mono fun _ h => .inl h
    have hT1 : TabIn (fun x => Gm w O x ∨ (r.nl = false ∧ x = r.b)) w1 := (hTab.keep hKw).mono fun _ h => .inl h
    have fin : ∀ {σ : St} {new : List Nat} {w' : World} {own : Nat → Nat → Prop}, HSo (fun x => Gm w O x ∨ (r.nl = false ∧ x = r.b)) w1 σ new w' own → ∀ i, i < σ.L.length → Chg w w' O (own i) := by
      intro σ new w' own ho i hi
      have hk := ho.keep
      refine ⟨hk.os.trans hKw.os, hk.tape.trans hKw.tape, hk.output.trans hKw.output, Nat.le_trans hKw.size hk.size, fun b hb hn => (hk.block b (.inl ⟨hb, hn⟩)).trans (hKw.block b ⟨hb, hn⟩), fun b hb => ?_⟩
      obtain ⟨h1, h2⟩ := ho.out i b hi hb
      refine ⟨h2, ?_⟩
      by_cases hw : b < w.heap.size
      · exact .inr (Classical.byContradiction fun hn => h1 (.inl ⟨hw, hn⟩))
      · exact .inl (by omega)
    clear err
    have hKl : ∀ {w' : World}, Keep (fun x => Gm w O x ∨ (r.nl = false ∧ x = r.b)) w1 w' → ∀ b, (Gm w O b ∨ (r.nl = false ∧ b = r.b)) → w1.heap[b]? ≠ none → b < w'.heap.size := by
      intro w' hk b hb hn
      have := hk.block b hb
      rcases Nat.lt_or_ge b w'.heap.size with h' | h'
      · exact h'
      · rw [Array.getElem?_eq_none h'] at this; exact absurd this.symm hn
    generalize hG1 : (fun x => Gm w O x ∨ (r.nl = false ∧ x = r.b)) = G1 at hCr hA1 hT1 fin hKl
    refine Res.ghost (RowA 0 true 9 []) (fun w h => by cases h) (Res.run 900 ?_)
    simp only [↓reduceIte, Nat.reduceEqDiff, Nat.reduceAdd, Nat.reduceSub, Nat.reduceMul, Nat.reduceLT, Int.reduceToNat, Int.reduceBEq, Int.reduceBNe, Int.reduceLT, Int.reduceLE, E, E', TY]
    refine Res.loop (X := {z : Nat × RowX // z.1 ≤ l.length ∧ FS0 1 z.1 ((l.take z.1).map fun q => Value.string (txtT q.1)) z.2.nl z.2.cap z.2.cur})
      (fun z => { T := mkT 135 [(3, .p 1 0), (4, .p 2 0), (5, .p 3 0), (10, .v (.slice (sA r.nl r.b 0) gl.length r.cap)), (13, .v (.slice (sA z.1.2.nl z.1.2.b 0) z.1.1 z.1.2.cap)), (50, .v (.slice (sA r.nl r.b 0) gl.length r.cap)), (51, .v (.int .i64 gl.length)), (52, .v (.int .i64 (z.1.1 : Int)))], X := [p], L := [.asn (TabA s), .cells 45 [.p 0 0], .cells 44 [.v (.slice A ids.length c)], .cells 51 [.v (.slice B gl.length cg)], .dead, .dead, .dead, .asn (NstA l), .asn (RowA z.1.2.b z.1.2.nl 9 z.1.2.cur)], D := [] })
      (fun z => gl.length - z.1.1) ⟨(0, RowX.e), ⟨by simp, by simpa [RowX.e] using FS0.empty⟩⟩ (St.Le.of 9 (by simp only [↓reduceIte, Nat.reduceEqDiff, Nat.reduceAdd, Nat.reduceSub, Nat.reduceMul, Nat.reduceLT, Int.reduceToNat, Int.reduceBEq, Int.reduceBNe, Int.reduceLT, Int.reduceLE, E, E', TY, sA_true, RowX.e]; rfl)) ?_
    rintro ⟨⟨k, y⟩, hk2, hF2⟩
    simp only at hk2 hF2 ⊢
    refine Res.run 900 ?_
    by_cases hlt : k < gl.length
    case pos =>
      --ROUND
      have e3 : decide ((k : Int) < (gl.length : Int)) = true := by simp; omega
      obtain ⟨a0, a1, a2, a3, a4, a5, a6⟩ := gcs_at hCr k (by omega)
      have hAs : (sA r.nl r.b 0).isSome = true := okRd_some a0
      obtain ⟨q, hq⟩ : ∃ q, l[k] = q := ⟨_, rfl⟩
      rw [hq] at a1 a2 a3 a4 a5 a6
      have hqm : q ∈ l := hq ▸ List.getElem_mem (by omega)
      obtain ⟨hqz, hqo⟩ := hlz q hqm
      simp only [↓reduceIte, Nat.reduceEqDiff, Nat.reduceAdd, Nat.reduceSub, Nat.reduceMul, Nat.reduceLT, Int.reduceToNat, Int.reduceBEq, Int.reduceBNe, Int.reduceLT, Int.reduceLE, E, E', TY, e3, a1, a2, a3, a4, a5, a6, Int.toNat_natCast]
      refine ⟨⟨by omega, by omega, hAs⟩, a0, ?_⟩
      refine ⟨fnok12, CallAt.detS (.v (.string (txtT q.1))) trivial (fun new w' hs => ?_) (Res.run 900 ?_)⟩
      · obtain ⟨own, ho⟩ := hs
        have hN : GrR (own 7) w' l := ho.ok 7 _ rfl
        exact m_Text q.1 q.2 ((hN q hqm).mono fun b hb => (ho.out 7 b (by simp) hb).2) hqo hqz (hT1.keep ho.keep).t
      simp only [↓reduceIte, Nat.reduceEqDiff, Nat.reduceAdd, Nat.reduceSub, Nat.reduceMul, Nat.reduceLT, Int.reduceToNat, Int.reduceBEq, Int.reduceBNe, Int.reduceLT, Int.reduceLE, E, E', TY]
      refine Res.op (OpAt.appendR (x := .tmp 56) (y := .tmp 59) (t := 100) (e := 9) (size := 1) (bytes := 16) (i := 8) (b := y.b) (nl := y.nl) (n := k) (cap := y.cap) (m := 1) (cur := y.cur) [.string (txtT q.1)] rfl rfl rfl rfl ap100 rfl rfl hF2
        (SrcOK.s (j := 10) (off := 0) (c := 1) (nl := false) rfl rfl (by simp) (by intro i u hu; rw [Nat.zero_add]; exact hu)) rfl (by intro u hu; simp only [List.mem_cons, List.not_mem_nil, or_false] at hu; rcases hu with rfl; rfl) ⟨by simp [maxLen]; omega, by omega⟩ fun nl' b' cap' cur' hF' hn' => Res.run 900 ?_)
      simp only [↓reduceIte, Nat.reduceEqDiff, Nat.reduceAdd, Nat.reduceSub, Nat.reduceMul, Nat.reduceLT, Int.reduceToNat, Int.reduceBEq, Int.reduceBNe, Int.reduceLT, Int.reduceLE, E, E', TY]
      refine ⟨i64ok_of (by omega) (by omega), ?_⟩
      refine Res.again (⟨(k + 1, ⟨nl', b', cap', cur'⟩), ⟨by simp only; omega, ?_⟩⟩ : {z : Nat × RowX // z.1 ≤ l.length ∧ FS0 1 z.1 ((l.take z.1).map fun q => Value.string (txtT q.1)) z.2.nl z.2.cap z.2.cur}) (by simp only; omega) (St.Le.of 9 (by simp only [↓reduceIte, Nat.reduceEqDiff, Nat.reduceAdd, Nat.reduceSub, Nat.reduceMul, Nat.reduceLT, Int.reduceToNat, Int.reduceBEq, Int.reduceBNe, Int.reduceLT, Int.reduceLE, E, E', TY, Int.natCast_add, Int.cast_ofNat_Int]))
      simp only
      rw [take_succ' l k (by omega), List.map_append, hq]
      exact hF'
    --END
    obtain rfl : k = gl.length := by omega
    rw [show gl.length = l.length from hll.symm, List.take_length] at hF2
    simp only [↓reduceIte, Nat.reduceEqDiff, Nat.reduceAdd, Nat.reduceSub, Nat.reduceMul, Nat.reduceLT, Int.reduceToNat, Int.reduceBEq, Int.reduceBNe, Int.reduceLT, Int.reduceLE, E, E', TY, e2]
    have hkz : (catB (l.map fun q => txtT q.1)).size ≤ 20000000000000 := by
      have := catB_size (l.map fun q => txtT q.1) 200000000 (by
        intro x hx
        obtain ⟨q, hq, rfl⟩ := List.mem_map.1 hx
        exact txtT_size q.1 (hlz q hq).2 (hlz q hq).1)
      rw [List.length_map] at this
      have h2 : l.length ≤ 100000 := by omega
      exact Nat.le_trans this (by omega)
    have hke : catB (l.map fun q => txtT q.1) = keyG (rollG ids (gl.map (·.1))) := by
      unfold keyG rollG
      rw [List.length_map, ← hl, List.map_map]; rfl
    obtain ⟨K, hKe⟩ : ∃ K, keyG (rollG ids (gl.map (·.1))) = K := ⟨_, rfl⟩
    rw [hKe] at hR hke
    refine ⟨fnok54, CallAt.detS (.v (.string K)) trivial (fun new w' hs => ?_) ?_⟩
    · obtain ⟨own, ho⟩ := hs
      have hR8 : (RowA y.b y.nl 9 y.cur).R (own 8) _ w' := ho.ok 8 _ rfl
      have hJ := m_Join (w := w') y.b y.cap y.nl (l.map fun q => txtT q.1) ((cs_rowA (q := 0) hR8 (by rw [List.map_map]; exact hF2)).mono fun b hb => (ho.out 8 b (by simp) hb).2) (fun hn => by
        have h1 := hF2.nil hn
        have h2 := hF2.capk
        have : l = [] := List.eq_nil_of_length_eq_zero (by omega)
        rw [this]; rfl) (by rw [List.length_map]; exact hF2.capk) (by rw [List.length_map]; omega) (by omega)
      rw [hke, List.length_map, hll] at hJ
      exact hJ
    refine Res.topen 0 rfl fun d hd => Res.run 900 ?_
    simp only [↓reduceIte, Nat.reduceEqDiff, Nat.reduceAdd, Nat.reduceSub, Nat.reduceMul, Nat.reduceLT, Int.reduceToNat, Int.reduceBEq, Int.reduceBNe, Int.reduceLT, Int.reduceLE, E, E', TY, TD.e0, TD.els]
    have hkm : K.size ≤ maxLen := by rw [← hke]; simp only [maxLen]; omega
    refine Res.op (OpAt.mapLook (i := 11) (mb := d.mb) (n := s.mn) (mp := s.mp) (key := K) (x := .tmp 68) (y := .tmp 69) rfl rfl rfl rfl hkm (Res.run 900 ?_))
    have hdl : d.l.length = s.ts.length := by rw [← hd.ts, List.length_map]
    have hft := hf.ts
    have hfe := hf.es
    have hfm := hf.mn
    have finU : ∀ {σ : St} {new : List Nat} {w' : World} {own : Nat → Nat → Prop}, HSo G1 w1 σ new w' own → ∀ C : List Nat, 0 < σ.L.length → Chg w w' O (fun b => ∃ r, r ∈ C ∧ r < σ.L.length ∧ own r b) := by
      intro σ new w' own ho C h0
      have h := fin ho 0 h0
      exact ⟨h.os, h.tape, h.output, h.size, h.block, fun b ⟨j, _, hj, hb⟩ => (fin ho j hj).own b hb⟩
    by_cases hmp : ∃ e, s.mp K = some e
    case' pos =>
      obtain ⟨e, hmp⟩ := hmp
      rw [hmp] at hR
      simp only at hR
      have he1 : entV e = .agg #[.int .i64 e.1, .int .i64 e.2] := rfl
      have hE := hf.mp _ e hmp
      simp only [↓reduceIte, Nat.reduceEqDiff, Nat.reduceAdd, Nat.reduceSub, Nat.reduceMul, Nat.reduceLT, Int.reduceToNat, Int.reduceBEq, Int.reduceBNe, Int.reduceLT, Int.reduceLE, E, E', TY, hmp, Option.getD_some, he1]
      obtain ⟨S, hS⟩ : ∃ S, S = s := ⟨_, rfl⟩
      rw [← hS] at hR
      refine ⟨fnok55, ?_⟩
      refine CallAt.merge 0 [0, 9, 10, 11, 12] (TabA S) ⟨by simp, by simp⟩ (fun new w' own ho => ?_) ?_
      · rw [hS]
        exact tab_close (J := [12]) ho hd 0 9 10 11 (by simp) rfl rfl rfl rfl (fun q hq => ((show GrR (own 12) w' d.l from ho.ok 12 _ rfl) q hq).mono fun b hb => ⟨12, by simp, by simp, hb⟩)
      refine CallAt.le (σ' := { T := mkT 135 [(4, .p 2 0), (17, .p 13 0)], X := [p], L := [.asn (TabA S), .dead, .cells 44 [.v (.slice A ids.length c)], .dead, .dead, .dead, .dead, .dead, .dead, .dead, .dead, .dead, .dead, .cells 103 [.v (.int .i64 e.1), .v (.int .i64 e.2)]], D := [] }) [.slice A ids.length c] ?_ (fun _ => rfl) ?_
      · exact St.Le.of 14 (by simp only [↓reduceIte, Nat.reduceEqDiff, Nat.reduceAdd, Nat.reduceSub, Nat.reduceMul, Nat.reduceLT, Int.reduceToNat, Int.reduceBEq, Int.reduceBNe, Int.reduceLT, Int.reduceLE, E, E', TY, St.merge, killE]) (hx := by show 1 ≤ 14; decide)
    case' neg =>
      have hmp : s.mp K = none := by
        cases hq : s.mp K with
        | none => rfl
        | some e => exact absurd ⟨e, hq⟩ hmp
      rw [hmp] at hR
      simp only at hR
      have he1 : entV (0, 0) = .agg #[.int .i64 0, .int .i64 0] := rfl
      simp only [↓reduceIte, Nat.reduceEqDiff, Nat.reduceAdd, Nat.reduceSub, Nat.reduceMul, Nat.reduceLT, Int.reduceToNat, Int.reduceBEq, Int.reduceBNe, Int.reduceLT, Int.reduceLE, E, E', TY, hmp, Option.getD_none, Option.isSome_none, he1]
      refine Res.draw 8 [.cells 77 [.v (.slice (sA d.r1.nl d.r1.b 0) d.l.length d.r1.cap), .v (.slice (sA d.r2.nl d.r2.b 0) s.es.length d.r2.cap), .v (.map (some d.mb))], .cells 45 [.p 0 0], .cells 44 [.v (.slice A ids.length c)], .cells 51 [.v (.slice B gl.length cg)], .dead, .dead, .dead, .asn (NstA l), .asn (RowA y.b y.nl 9 y.cur), .asn (RowA d.r1.b d.r1.nl 29 d.r1.cur), .asn (RowA d.r2.b d.r2.nl 103 d.r2.cur), .asn (MapA d.mb s.mn s.mp), .asn (NstA d.l), .cells 103 [.v (.int .i64 0), .v (.int .i64 0)]] (.take 0 (.take 1 (.take 2 (.take 3 (.take 4 (.take 5 (.take 6 (.take 7 .fin)))))))) (by kernel_rfl) (by kernel_rfl) fun new hnew => Res.run 900 ?_
      have hnl : new.length = 13 := by have := hnew; simp at this; omega
      by_cases hbig : (d.l.length : Int) + (gl.length : Int) > 10000
      case pos =>
        have e5 : decide ((d.l.length : Int) + (gl.length : Int) > 10000) = true := decide_eq_true hbig
        rw [if_pos (by rw [← hdl]; exact hbig)] at hR
        subst hR
        simp only [↓reduceIte, Nat.reduceEqDiff, Nat.reduceAdd, Nat.reduceSub, Nat.reduceMul, Nat.reduceLT, Int.reduceToNat, Int.reduceBEq, Int.reduceBNe, Int.reduceLT, Int.reduceLE, E, E', TY, hnl, e5]
        refine ⟨i64ok_of (by omega) (by omega), ?_⟩
        refine Ret.body [.v (.slice none 0 0), .v (.int .i64 5)] rfl (by kernel_rfl) fun new' w' hs => ?_
        obtain ⟨own, ho⟩ := hs
        exact ⟨_, fun _ => False, true, 0, 0, [], rfl, FS0.empty, tab_close (J := [12]) ho hd 0 9 10 11 (by simp) rfl rfl rfl rfl (fun q hq => ((show GrR (own 12) w' d.l from ho.ok 12 _ rfl) q hq).mono fun b hb => ⟨12, by simp, by simp, hb⟩), (fun h => by cases h), finU ho _ (by simp), fun x h => h.elim, fun x _ h => h⟩
      have e5 : decide ((d.l.length : Int) + (gl.length : Int) > 10000) = false := decide_eq_false hbig
      simp only [↓reduceIte, Nat.reduceEqDiff, Nat.reduceAdd, Nat.reduceSub, Nat.reduceMul, Nat.reduceLT, Int.reduceToNat, Int.reduceBEq, Int.reduceBNe, Int.reduceLT, Int.reduceLE, E, E', TY, hnl, e5]
      refine ⟨i64ok_of (by omega) (by omega), ?_⟩
      rw [if_neg (by rw [← hdl]; exact hbig)] at hR
      refine Res.le (σ' := { T := mkT 135 [(3, .p 1 0), (4, .p 2 0), (10, .v (.slice (sA r.nl r.b 0) gl.length r.cap)), (16, .v (.string K)), (17, .p 13 0)], X := [p], L := [.cells 77 [.v (.slice (sA d.r1.nl d.r1.b 0) d.l.length d.r1.cap), .v (.slice (sA d.r2.nl d.r2.b 0) s.es.length d.r2.cap), .v (.map (some d.mb))], .cells 45 [.p 0 0], .cells 44 [.v (.slice A ids.length c)], .cells 51 [.v (.slice B gl.length cg)], .dead, .dead, .dead, .asn (NstA l), .asn (RowA y.b y.nl 9 y.cur), .asn (RowA d.r1.b d.r1.nl 29 d.r1.cur), .asn (RowA d.r2.b d.r2.nl 103 d.r2.cur), .asn (MapA d.mb s.mn s.mp), .asn (NstA d.l), .cells 103 [.v (.int .i64 (d.l.length : Int)), .v (.int .i64 (gl.length : Int))]], D := [] }) ?_ ?_
      · exact St.Le.of2 14 new (by simp only [↓reduceIte, Nat.reduceEqDiff, Nat.reduceAdd, Nat.reduceSub, Nat.reduceMul, Nat.reduceLT, Int.reduceToNat, Int.reduceBEq, Int.reduceBNe, Int.reduceLT, Int.reduceLE, E, E', TY]) (hx := by show 1 ≤ 14; decide)
      clear hnew hnl
      clear new
      refine Res.run 900 ?_
      simp only [↓reduceIte, Nat.reduceEqDiff, Nat.reduceAdd, Nat.reduceSub, Nat.reduceMul, Nat.reduceLT, Int.reduceToNat, Int.reduceBEq, Int.reduceBNe, Int.reduceLT, Int.reduceLE, E, E', TY]
      refine Res.draw 6 [.cells 77 [.v (.slice (sA d.r1.nl d.r1.b 0) d.l.length d.r1.cap), .v (.slice (sA d.r2.nl d.r2.b 0) s.es.length d.r2.cap), .v (.map (some d.mb))], .cells 45 [.p 0 0], .cells 44 [.v (.slice A ids.length c)], .cells 51 [.v (.slice B gl.length cg)], .dead, .dead, .dead, .asn (NstA l), .asn (RowA y.b y.nl 9 y.cur), .asn (RowA d.r1.b d.r1.nl 29 d.r1.cur), .asn (RowA d.r2.b d.r2.nl 103 d.r2.cur), .asn (MapA d.mb s.mn s.mp), .asn (NstA d.l), .cells 103 [.v (.int .i64 (d.l.length : Int)), .v (.int .i64 (gl.length : Int))]] (.take 0 (.take 1 (.take 2 (.take 3 (.take 4 (.take 5 .fin)))))) (by kernel_rfl) (by kernel_rfl) fun new hnew => Res.run 900 ?_
      have hnl : new.length = 13 := by have := hnew; simp at this; omega
      simp only [↓reduceIte, Nat.reduceEqDiff, Nat.reduceAdd, Nat.reduceSub, Nat.reduceMul, Nat.reduceLT, Int.reduceToNat, Int.reduceBEq, Int.reduceBNe, Int.reduceLT, Int.reduceLE, E, E', TY, hnl]
      refine OpAt.mapPut (i := 11) (mb := d.mb) (n := s.mn) (mp := s.mp) (key := K) (e := ((d.l.length : Int), (gl.length : Int))) (x := .tmp 92) (y := .tmp 93) (z := .tmp 94) rfl rfl rfl rfl rfl hkm (by simp only [maxLen]; omega) (Res.run 900 ?_)
      simp only [↓reduceIte, Nat.reduceEqDiff, Nat.reduceAdd, Nat.reduceSub, Nat.reduceMul, Nat.reduceLT, Int.reduceToNat, Int.reduceBEq, Int.reduceBNe, Int.reduceLT, Int.reduceLE, E, E', TY]
      refine Res.draw 9 [.cells 77 [.v (.slice (sA d.r1.nl d.r1.b 0) d.l.length d.r1.cap), .v (.slice (sA d.r2.nl d.r2.b 0) s.es.length d.r2.cap), .v (.map (some d.mb))], .cells 45 [.p 0 0], .cells 44 [.v (.slice A ids.length c)], .cells 51 [.v (.slice B gl.length cg)], .dead, .dead, .dead, .asn (NstA l), .asn (RowA y.b y.nl 9 y.cur), .dead, .asn (RowA d.r2.b d.r2.nl 103 d.r2.cur), .asn (MapA d.mb (s.mn + 1) (fun l => if l = K then some ((d.l.length : Int), (gl.length : Int)) else s.mp l)), .asn (NstA d.l), .cells 103 [.v (.int .i64 (d.l.length : Int)), .v (.int .i64 (gl.length : Int))]] (.take 0 (.take 1 (.take 2 (.take 3 (.take 4 (.take 5 (.run 6 (.take 7 (.take 8 .fin)) .fin))))))) (by kernel_rfl) (by kernel_rfl) fun new2 hnew2 => Res.run 900 ?_
      obtain rfl : new2 = [] := List.eq_nil_of_length_eq_zero (by have := hnew2; simp at this; omega)
      simp only [↓reduceIte, Nat.reduceEqDiff, Nat.reduceAdd, Nat.reduceSub, Nat.reduceMul, Nat.reduceLT, Int.reduceToNat, Int.reduceBEq, Int.reduceBNe, Int.reduceLT, Int.reduceLE, E, E', TY, hnl, List.append_nil]
      refine OpAt.appendR (x := .tmp 99) (y := .tmp 100) (t := 51) (e := 29) (size := 6) (bytes := 112) (i := 9) (b := d.r1.b) (nl := d.r1.nl) (n := d.l.length) (cap := d.r1.cap) (m := gl.length) (cur := d.r1.cur) (gcs l) rfl rfl rfl rfl ap51 rfl rfl hd.f1
        (SrcOK.v (A := sA r.nl r.b 0) (c := r.cap) rfl (fun hn => hF.none hn) hCr) (by rw [gcs_len, hll]) (flat_one pcs_one l) ⟨by simp only [maxLen]; omega, by omega⟩ fun nl1 b1 cap1 cur1 hF1 hn1 => Res.run 900 ?_
      simp only [↓reduceIte, Nat.reduceEqDiff, Nat.reduceAdd, Nat.reduceSub, Nat.reduceMul, Nat.reduceLT, Int.reduceToNat, Int.reduceBEq, Int.reduceBNe, Int.reduceLT, Int.reduceLE, E, E', TY, hnl, List.append_nil]
      have hx14 : (p :: new).length ≤ 14 := by simp; omega
      refine Res.loop (X := {z : Nat × RowX // z.1 ≤ gl.length ∧ FS0 2 (s.es.length + z.1) (ecs (s.es ++ List.replicate z.1 ((d.l.length : Int), (gl.length : Int)))) z.2.nl z.2.cap z.2.cur})
        (fun z => { T := mkT 135 [(3, .p 1 0), (4, .p 2 0), (17, .p 13 0), (105, .v (.int .i64 gl.length)), (106, .v (.int .i64 (z.1.1 : Int)))], X := p :: new, L := [.cells 77 [.v (.slice (sA nl1 b1 0) (d.l.length + gl.length) cap1), .v (.slice (sA z.1.2.nl z.1.2.b 0) (s.es.length + z.1.1) z.1.2.cap), .v (.map (some d.mb))], .cells 45 [.p 0 0], .cells 44 [.v (.slice A ids.length c)], .cells 51 [.v (.slice B gl.length cg)], .dead, .dead, .dead, .asn (NstA l), .asn (RowA y.b y.nl 9 y.cur), .asn (RowA b1 nl1 29 cur1), .asn (RowA z.1.2.b z.1.2.nl 103 z.1.2.cur), .asn (MapA d.mb (s.mn + 1) (fun l => if l = K then some ((d.l.length : Int), (gl.length : Int)) else s.mp l)), .asn (NstA d.l), .cells 103 [.v (.int .i64 (d.l.length : Int)), .v (.int .i64 (gl.length : Int))]], D := [] })
        (fun z => gl.length - z.1.1) ⟨(0, d.r2), ⟨by simp, by simpa using hd.f2⟩⟩ (St.Le.of 14 (by simp only [↓reduceIte, Nat.reduceEqDiff, Nat.reduceAdd, Nat.reduceSub, Nat.reduceMul, Nat.reduceLT, Int.reduceToNat, Int.reduceBEq, Int.reduceBNe, Int.reduceLT, Int.reduceLE, E, E', TY, Nat.add_zero]; rfl) (hx := hx14)) ?_
      rintro ⟨⟨k3, z⟩, hk3, hF3⟩
      simp only at hk3 hF3 ⊢
      refine Res.run 900 ?_
      by_cases hlt3 : k3 < gl.length
      case' pos =>
        have e6 : decide ((k3 : Int) < (gl.length : Int)) = true := by simp; omega
        simp only [↓reduceIte, Nat.reduceEqDiff, Nat.reduceAdd, Nat.reduceSub, Nat.reduceMul, Nat.reduceLT, Int.reduceToNat, Int.reduceBEq, Int.reduceBNe, Int.reduceLT, Int.reduceLE, E, E', TY, e6]
        refine Res.draw 10 [.cells 77 [.v (.slice (sA nl1 b1 0) (d.l.length + gl.length) cap1), .v (.slice (sA z.nl z.b 0) (s.es.length + k3) z.cap), .v (.map (some d.mb))], .cells 45 [.p 0 0], .cells 44 [.v (.slice A ids.length c)], .cells 51 [.v (.slice B gl.length cg)], .dead, .dead, .dead, .asn (NstA l), .asn (RowA y.b y.nl 9 y.cur), .asn (RowA b1 nl1 29 cur1), .dead, .asn (MapA d.mb (s.mn + 1) (fun l => if l = K then some ((d.l.length : Int), (gl.length : Int)) else s.mp l)), .asn (NstA d.l), .cells 103 [.v (.int .i64 (d.l.length : Int)), .v (.int .i64 (gl.length : Int))]] (.take 0 (.take 1 (.take 2 (.take 3 (.take 4 (.take 5 (.run 6 (.run 7 (.take 8 (.take 9 .fin)) .fin) .fin))))))) (by kernel_rfl) (by kernel_rfl) fun new3 hnew3 => Res.run 900 ?_
        obtain rfl : new3 = [] := List.eq_nil_of_length_eq_zero (by have := hnew3; simp at this; omega)
        simp only [↓reduceIte, Nat.reduceEqDiff, Nat.reduceAdd, Nat.reduceSub, Nat.reduceMul, Nat.reduceLT, Int.reduceToNat, Int.reduceBEq, Int.reduceBNe, Int.reduceLT, Int.reduceLE, E, E', TY, hnl, List.append_nil]
        refine OpAt.appendR (x := .tmp 112) (y := .tmp 114) (t := 74) (e := 103) (size := 2) (bytes := 16) (i := 10) (b := z.b) (nl := z.nl) (n := s.es.length + k3) (cap := z.cap) (m := 1) (cur := z.cur) (e2cs ((d.l.length : Int), (gl.length : Int))) rfl rfl rfl rfl ap74 rfl rfl hF3
          (SrcOK.s (j := 14) (off := 0) (c := 1) (nl := false) rfl rfl (by simp) (by intro i u hu; rw [Nat.zero_add]; exact hu)) rfl (e2_one _) ⟨by simp only [maxLen]; omega, by omega⟩ fun nl2 b2 cap2 cur2 hF4 hn2 => Res.run 900 ?_
        simp only [↓reduceIte, Nat.reduceEqDiff, Nat.reduceAdd, Nat.reduceSub, Nat.reduceMul, Nat.reduceLT, Int.reduceToNat, Int.reduceBEq, Int.reduceBNe, Int.reduceLT, Int.reduceLE, E, E', TY, hnl, List.append_nil]
        refine ⟨i64ok_of (by omega) (by omega), ?_⟩
        refine Res.again (⟨(k3 + 1, ⟨nl2, b2, cap2, cur2⟩), ⟨by simp only; omega, ?_⟩⟩ : {z : Nat × RowX // z.1 ≤ gl.length ∧ FS0 2 (s.es.length + z.1) (ecs (s.es ++ List.replicate z.1 ((d.l.length : Int), (gl.length : Int)))) z.2.nl z.2.cap z.2.cur}) (by simp only; omega) (St.Le.of 14 (by simp only [↓reduceIte, Nat.reduceEqDiff, Nat.reduceAdd, Nat.reduceSub, Nat.reduceMul, Nat.reduceLT, Int.reduceToNat, Int.reduceBEq, Int.reduceBNe, Int.reduceLT, Int.reduceLE, E, E', TY, Int.natCast_add, Int.cast_ofNat_Int, Nat.add_assoc]) (hx := hx14))
        simp only
        have : ecs (s.es ++ List.replicate (k3 + 1) ((d.l.length : Int), (gl.length : Int))) = ecs (s.es ++ List.replicate k3 ((d.l.length : Int), (gl.length : Int))) ++ e2cs ((d.l.length : Int), (gl.length : Int)) := by
          rw [List.replicate_succ', ← List.append_assoc]; simp [ecs]
        rw [this, ← Nat.add_assoc]
        exact hF4
      case' neg =>
        obtain rfl : k3 = gl.length := by omega
        simp only [↓reduceIte, Nat.reduceEqDiff, Nat.reduceAdd, Nat.reduceSub, Nat.reduceMul, Nat.reduceLT, Int.reduceToNat, Int.reduceBEq, Int.reduceBNe, Int.reduceLT, Int.reduceLE, E, E', TY, e2]
        refine ⟨fnok55, ?_⟩
        obtain ⟨S, hS⟩ : ∃ S, S = s.put (rollG ids (gl.map (·.1))) := ⟨_, rfl⟩
        obtain ⟨e, he⟩ : ∃ e : Int × Int, e = ((d.l.length : Int), (gl.length : Int)) := ⟨_, rfl⟩
        rw [← hS, ← hdl, ← he] at hR
        have hE : 0 ≤ e.1 ∧ e.1 ≤ 10000 ∧ 0 ≤ e.2 ∧ e.2 ≤ 10000 := by rw [he]; simp only; omega
        have hrl : (rollG ids (gl.map (·.1))).length = gl.length := by simp [rollG]
        refine CallAt.merge 0 [0, 9, 10, 11, 12, 7] (TabA S) ⟨by simp, by simp⟩ (fun new' w' own ho => ?_) ?_
        · rw [hS]
          refine tab_close (d := ⟨d.l ++ l, ⟨nl1, b1, cap1, cur1⟩, z, d.mb⟩) (J := [12, 7]) ho ⟨?_, ?_, ?_⟩ 0 9 10 11 (by simp) ?_ rfl rfl ?_ ?_
          · simp only [List.map_append, hd.ts, hl, TS.put, rollG, List.length_map]
          · have : gcs (d.l ++ l) = gcs d.l ++ gcs l := by simp [gcs]
            simp only [List.length_append, hll, this]
            exact hF1
          · simp only [TS.put, List.length_append, List.length_replicate, hrl, ← hdl]
            exact hF3
          · show some _ = some _
            simp only [TD.e0, TS.put, List.length_append, List.length_replicate, hrl, hll]
          · show some _ = some _
            simp only [TS.put, hrl, hKe, hdl]
          · exact GrR.app ((show GrR (own 12) w' d.l from ho.ok 12 _ rfl).mono fun b hb => ⟨12, by simp, by simp, hb⟩) ((show GrR (own 7) w' l from ho.ok 7 _ rfl).mono fun b hb => ⟨7, by simp, by simp, hb⟩)
        refine CallAt.le (σ' := { T := mkT 135 [(4, .p 2 0), (17, .p 13 0)], X := [p], L := [.asn (TabA S), .dead, .cells 44 [.v (.slice A ids.length c)], .dead, .dead, .dead, .dead, .dead, .dead, .dead, .dead, .dead, .dead, .cells 103 [.v (.int .i64 e.1), .v (.int .i64 e.2)]], D := [] }) [.slice A ids.length c] ?_ (fun _ => rfl) ?_
        · exact St.Le.of2 14 new (by simp only [↓reduceIte, Nat.reduceEqDiff, Nat.reduceAdd, Nat.reduceSub, Nat.reduceMul, Nat.reduceLT, Int.reduceToNat, Int.reduceBEq, Int.reduceBNe, Int.reduceLT, Int.reduceLE, E, E', TY, St.merge, killE, he]) (hx := by show 1 ≤ 14; decide)
    all_goals
      subst hR
      refine CallAt.mkA (fun v A' => ∃ nl b cap cur, v = .slice (sA nl b 0) ids.length cap ∧ A' = RowA b nl 3 cur ∧ FS0 1 ids.length (ics ids) nl cap cur) ?_ ?_
      · intro new' w' hs
        obtain ⟨own, ho⟩ := hs
        refine (m_cloneI A c ids ((hA1.keep ho.keep).mono fun b hb => Nat.lt_of_lt_of_le (ho.inW b hb) ho.keep.size) nA (by omega)).mono ?_
        rintro ee w2 ⟨nl, b, cap, cur, rfl, hFc, hEx, hrow'⟩
        exact ⟨_, _, fun x => nl = false ∧ x = b, rfl, ⟨nl, b, cap, cur, rfl, rfl, hFc⟩, fun hn => ⟨⟨hn, rfl⟩, (hrow' hn).2.2⟩, hEx, fun x hx => by obtain ⟨hn, rfl⟩ := hx; exact ⟨(hrow' hn).1, (hrow' hn).2.1⟩⟩
      rintro _ _ ⟨nl, b, cap, cur, rfl, rfl, hFc⟩
      refine Res.run 900 ?_
      simp only [↓reduceIte, Nat.reduceEqDiff, Nat.reduceAdd, Nat.reduceSub, Nat.reduceMul, Nat.reduceLT, Int.reduceToNat, Int.reduceBEq, Int.reduceBNe, Int.reduceLT, Int.reduceLE, E, E', TY]
      refine Res.loop (X := {z : Nat × RowX // (z.1 : Int) ≤ e.2 ∧ FS0 1 (ids.length + z.1) (ics (outI ids (e.1, (z.1 : Int)))) z.2.nl z.2.cap z.2.cur})
        (fun z => { T := mkT 135 [(17, .p 13 0), (19, .v (.slice (sA z.1.2.nl z.1.2.b 0) (ids.length + z.1.1) z.1.2.cap)), (122, .v (.int .i64 e.2)), (123, .v (.int .i64 (z.1.1 : Int)))], X := [p], L := [.asn (TabA S), .dead, .cells 44 [.v (.slice A ids.length c)], .dead, .dead, .dead, .dead, .dead, .dead, .dead, .dead, .dead, .dead, .cells 103 [.v (.int .i64 e.1), .v (.int .i64 e.2)], .asn (RowA z.1.2.b z.1.2.nl 3 z.1.2.cur)], D := [] })
        (fun z => e.2.toNat - z.1.1) ⟨(0, ⟨nl, b, cap, cur⟩), ⟨by simp only; omega, by simpa [outI] using hFc⟩⟩ (St.Le.of 15 (by simp only [↓reduceIte, Nat.reduceEqDiff, Nat.reduceAdd, Nat.reduceSub, Nat.reduceMul, Nat.reduceLT, Int.reduceToNat, Int.reduceBEq, Int.reduceBNe, Int.reduceLT, Int.reduceLE, E, E', TY, Nat.add_zero]; rfl) (hx := by show 1 ≤ 15; decide)) ?_
      rintro ⟨⟨k4, z⟩, hk4, hF5⟩
      simp only at hk4 hF5 ⊢
      refine Res.run 900 ?_
      by_cases hlt4 : (k4 : Int) < e.2
      · have e7 : decide ((k4 : Int) < e.2) = true := decide_eq_true hlt4
        simp only [↓reduceIte, Nat.reduceEqDiff, Nat.reduceAdd, Nat.reduceSub, Nat.reduceMul, Nat.reduceLT, Int.reduceToNat, Int.reduceBEq, Int.reduceBNe, Int.reduceLT, Int.reduceLE, E, E', TY, e7]
        refine ⟨i64ok_of (by omega) (by omega), ?_⟩
        refine Res.op (OpAt.appendR (x := .tmp 126) (y := .tmp 131) (t := 44) (e := 3) (size := 1) (bytes := 8) (i := 14) (b := z.b) (nl := z.nl) (n := ids.length + k4) (cap := z.cap) (m := 1) (cur := z.cur) [.int .i64 (e.1 + (k4 : Int))] rfl rfl rfl rfl ap44 rfl rfl hF5
          (SrcOK.s (j := 15) (off := 0) (c := 1) (nl := false) rfl rfl (by simp) (by intro i u hu; rw [Nat.zero_add]; exact hu)) rfl (by intro u hu; simp only [List.mem_cons, List.not_mem_nil, or_false] at hu; rcases hu with rfl; rfl) ⟨by simp only [maxLen]; omega, by omega⟩ fun nl2 b2 cap2 cur2 hF6 hn2 => Res.run 900 ?_)
        simp only [↓reduceIte, Nat.reduceEqDiff, Nat.reduceAdd, Nat.reduceSub, Nat.reduceMul, Nat.reduceLT, Int.reduceToNat, Int.reduceBEq, Int.reduceBNe, Int.reduceLT, Int.reduceLE, E, E', TY]
        refine ⟨i64ok_of (by omega) (by omega), ?_⟩
        refine Res.again (⟨(k4 + 1, ⟨nl2, b2, cap2, cur2⟩), ⟨by simp only; omega, ?_⟩⟩ : {z : Nat × RowX // (z.1 : Int) ≤ e.2 ∧ FS0 1 (ids.length + z.1) (ics (outI ids (e.1, (z.1 : Int)))) z.2.nl z.2.cap z.2.cur}) (by simp only; omega) (St.Le.of 15 (by simp only [↓reduceIte, Nat.reduceEqDiff, Nat.reduceAdd, Nat.reduceSub, Nat.reduceMul, Nat.reduceLT, Int.reduceToNat, Int.reduceBEq, Int.reduceBNe, Int.reduceLT, Int.reduceLE, E, E', TY, Int.natCast_add, Int.cast_ofNat_Int, Nat.add_assoc]) (hx := by show 1 ≤ 15; decide))
        simp only
        have : ics (outI ids (e.1, ((k4 + 1 : Nat) : Int))) = ics (outI ids (e.1, (k4 : Int))) ++ [.int .i64 (e.1 + (k4 : Int))] := by
          unfold outI
          simp only [Int.toNat_natCast, List.range_succ, List.map_append, List.map_cons, List.map_nil]
          rw [← List.append_assoc]
          simp [ics, i1cs]
        rw [this, ← Nat.add_assoc]
        exact hF6
      · have e7 : decide ((k4 : Int) < e.2) = false := decide_eq_false hlt4
        simp only [↓reduceIte, Nat.reduceEqDiff, Nat.reduceAdd, Nat.reduceSub, Nat.reduceMul, Nat.reduceLT, Int.reduceToNat, Int.reduceBEq, Int.reduceBNe, Int.reduceLT, Int.reduceLE, E, E', TY, e7]
        refine Ret.body [.v (.slice (sA z.nl z.b 0) (ids.length + k4) z.cap), .v (.int .i64 0)] rfl (by kernel_rfl) fun new' w' hs => ?_
        obtain ⟨own, ho⟩ := hs
        have ek : (k4 : Int) = e.2 := by omega
        have eo : outI ids (e.1, (k4 : Int)) = outI ids e := by rw [ek]
        rw [eo] at hF5
        have el : (outI ids e).length = ids.length + k4 := by rw [← eo]; simp [outI]
        refine ⟨own 0, own 14, z.nl, z.b, z.cap, z.cur, ?_, ?_, ho.ok 0 _ rfl, ho.ok 14 _ rfl, fin ho 0 (by simp), (fin ho 14 (by simp)).own, fun x h1 h2 => ho.apart 0 14 x (by simp) (by simp) (by decide) h1 h2⟩
        · simp only [el]; rfl
        · simp only [el]; exact hF5
end Go.Proofs.YtkcbmkoafmffoaaDoor
