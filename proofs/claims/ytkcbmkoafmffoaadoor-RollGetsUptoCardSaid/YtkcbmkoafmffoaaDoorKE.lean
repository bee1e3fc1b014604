/-
  The kind layer: Map.
-/
import Derived.Test.YtkcbmkoafmffoaaDoorKD
set_option linter.unusedVariables false
set_option linter.unusedSimpArgs false
set_option maxRecDepth 20000
set_option maxHeartbeats 16000000
namespace Go.Proofs.YtkcbmkoafmffoaaDoor
open Go Go.Eng

/-- How many of the value types are references. -/
def nref : List Vl → Nat
  | [] => 0
  | v :: l => (if v.k = 3 then 1 else 0) + nref l
def heapsV : List Vl → List Hp
  | [] => []
  | v :: l => if v.k = 3 then v.h :: heapsV l else heapsV l
/-- With other heap types, from number i on. -/
def mapV (φ : Nat → Hp) : Nat → List Vl → List Vl
  | _, [] => []
  | i, v :: l => mvF v (φ i) :: mapV φ (i + if v.k = 3 then 1 else 0) l
def mapFd (φ : Nat → Hp) : Nat → List Fd → List Fd
  | _, [] => []
  | i, f :: l => ⟨f.pk, mvF f.t (φ i), f.m⟩ :: mapFd φ (i + if f.t.k = 3 then 1 else 0) l
def mapH (φ : Nat → Hp) (n : Nat) : List Hp := (List.range n).map φ
def tys (l : List Fd) : List Vl := l.map (·.t)
def sHeaps (s : Sb) : List Hp := s.su ++ heapsV s.ps ++ heapsV s.rs ++ heapsV (tys s.fs)
def mapS (φ : Nat → Hp) (s : Sb) : Sb := ⟨s.fin, mapH φ s.su.length, s.k, mapV φ s.su.length s.ps, mapV φ (s.su.length + nref s.ps) s.rs, mapFd φ (s.su.length + nref s.ps + nref s.rs) s.fs⟩

theorem heapsV_len (l : List Vl) : (heapsV l).length = nref l := by
  induction l with
  | nil => rfl
  | cons v l ih => unfold heapsV nref; split <;> simp [ih]; omega
theorem nref_append (a b : List Vl) : nref (a ++ b) = nref a + nref b := by
  induction a with
  | nil => simp [nref]
  | cons v l ih => simp only [List.cons_append, nref, ih]; omega
theorem heapsV_append (a b : List Vl) : heapsV (a ++ b) = heapsV a ++ heapsV b := by
  induction a with
  | nil => simp [heapsV]
  | cons v l ih => simp only [List.cons_append, heapsV, ih]; split <;> simp
theorem mapV_append (φ : Nat → Hp) (a b : List Vl) : ∀ i, mapV φ i (a ++ b) = mapV φ i a ++ mapV φ (i + nref a) b := by
  induction a with
  | nil => intro i; simp [mapV, nref]
  | cons v l ih => intro i; simp only [List.cons_append, mapV, ih, nref]; congr 3; omega
theorem mapFd_append (φ : Nat → Hp) (a b : List Fd) : ∀ i, mapFd φ i (a ++ b) = mapFd φ i a ++ mapFd φ (i + nref (tys a)) b := by
  induction a with
  | nil => intro i; simp [mapFd, nref, tys]
  | cons v l ih => intro i; simp only [List.cons_append, mapFd, ih, nref, tys, List.map_cons]; congr 3; omega
theorem mapV_len (φ : Nat → Hp) (l : List Vl) : ∀ i, (mapV φ i l).length = l.length := by
  induction l with
  | nil => intro i; rfl
  | cons v l ih => intro i; simp [mapV, ih]
theorem mapFd_len (φ : Nat → Hp) (l : List Fd) : ∀ i, (mapFd φ i l).length = l.length := by
  induction l with
  | nil => intro i; rfl
  | cons v l ih => intro i; simp [mapFd, ih]
theorem mapH_len (φ : Nat → Hp) (n : Nat) : (mapH φ n).length = n := by simp [mapH]
theorem take_succ' {α : Type} (l : List α) (k : Nat) (h : k < l.length) : l.take (k + 1) = l.take k ++ [l[k]] := by simp [h]
theorem nref_take {l : List Vl} {k : Nat} (h : k < l.length) : nref (l.take (k + 1)) = nref (l.take k) + if l[k].k = 3 then 1 else 0 := by rw [take_succ' l k h, nref_append]; simp [nref]
theorem heapsV_get {l : List Vl} {k : Nat} (h : k < l.length) (h3 : l[k].k = 3) : (heapsV l)[nref (l.take k)]? = some l[k].h := by
  have : l = l.take k ++ (l[k] :: l.drop (k + 1)) := by rw [← List.drop_eq_getElem_cons h, List.take_append_drop]
  have h2 : heapsV l = heapsV (l.take k) ++ heapsV (l[k] :: l.drop (k + 1)) := by rw [← heapsV_append, ← this]
  rw [h2, List.getElem?_append_right (by rw [heapsV_len]; omega), heapsV_len, Nat.sub_self, heapsV, if_pos h3]
  rfl
theorem nref_lt {l : List Vl} {k : Nat} (h : k < l.length) (h3 : l[k].k = 3) : nref (l.take k) < nref l := by
  have := (List.getElem?_eq_some_iff.1 (heapsV_get h h3)).1
  rwa [heapsV_len] at this
theorem sHeaps_su (s : Sb) {k : Nat} (h : k < s.su.length) : (sHeaps s)[k]? = some s.su[k] := by
  unfold sHeaps
  rw [List.append_assoc, List.append_assoc, List.getElem?_append_left h, List.getElem?_eq_getElem h]
theorem sHeaps_ps (s : Sb) {k : Nat} (h : k < s.ps.length) (h3 : s.ps[k].k = 3) : (sHeaps s)[s.su.length + nref (s.ps.take k)]? = some s.ps[k].h := by
  have h4 := nref_lt h h3
  unfold sHeaps
  rw [List.append_assoc, List.append_assoc, List.getElem?_append_right (by omega), List.getElem?_append_left (by rw [heapsV_len]; omega), Nat.add_sub_cancel_left, heapsV_get h h3]
theorem sHeaps_rs (s : Sb) {k : Nat} (h : k < s.rs.length) (h3 : s.rs[k].k = 3) : (sHeaps s)[s.su.length + nref s.ps + nref (s.rs.take k)]? = some s.rs[k].h := by
  have h4 := nref_lt h h3
  unfold sHeaps
  have hl : (s.su ++ heapsV s.ps).length = s.su.length + nref s.ps := by rw [List.length_append, heapsV_len]
  rw [List.append_assoc, List.getElem?_append_right (by rw [hl]; omega), hl, Nat.add_sub_cancel_left, List.getElem?_append_left (by rw [heapsV_len]; omega), heapsV_get h h3]
theorem tys_get {l : List Fd} {k : Nat} (h : k < l.length) (h' : k < (tys l).length) : (tys l)[k] = l[k].t := by simp [tys]
theorem tys_len (l : List Fd) : (tys l).length = l.length := by simp [tys]
theorem tys_take (l : List Fd) (k : Nat) : tys (l.take k) = (tys l).take k := by simp [tys, List.map_take]
theorem sHeaps_fs (s : Sb) {k : Nat} (h : k < s.fs.length) (h3 : s.fs[k].t.k = 3) : (sHeaps s)[s.su.length + nref s.ps + nref s.rs + nref (tys (s.fs.take k))]? = some s.fs[k].t.h := by
  have hk : k < (tys s.fs).length := by rw [tys_len]; exact h
  have e := tys_get h hk
  unfold sHeaps
  have hl : (s.su ++ heapsV s.ps ++ heapsV s.rs).length = s.su.length + nref s.ps + nref s.rs := by rw [List.length_append, List.length_append, heapsV_len, heapsV_len]
  rw [List.getElem?_append_right (by rw [hl]; omega), hl, Nat.add_sub_cancel_left, tys_take, heapsV_get hk (by rw [e]; exact h3), e]
theorem sHeaps_len (s : Sb) : (sHeaps s).length = s.su.length + nref s.ps + nref s.rs + nref (tys s.fs) := by unfold sHeaps; simp [heapsV_len]; omega

theorem sA_true (b o : Nat) : sA true b o = none := rfl
/-- A row that grows, and where it lies. -/
structure RowX where
  nl : Bool
  b : Nat
  cap : Nat
  cur : List Value
def RowX.e : RowX := ⟨true, 0, 0, []⟩
def sl0 : Value := .slice none 0 0

theorem m_Map {w : World} {G : Nat → Prop} {W : World} {O : Nat → Prop} (s : Sb) (x0 : SL) (g : Nat) (cap : List Value) (I : Nat → Inv) (φ : Nat → Hp) (hg : fnOK Tryd.prog g = true) (hK : Keep G W w) (hG : ∀ b, G b → Gm w O b) (hO : ∀ b, O b → b < w.heap.size)
    (hI : (I 0).R O w) (hs : SbR (Gm w O) w s x0) (hz : s.small 1100000) (hst : ∀ i h, (sHeaps s)[i]? = some h → Step G W g cap h (φ i) (I i) (I (i + 1))) :
    Calls Tryd.prog 20 #[s.v x0, .func (.func g) #[] cap.toArray] w fun e w' => ∃ O1 O2 y, e = .returned ((mapS φ s).v y) ∧ (I (sHeaps s).length).R O1 w' ∧ SbR O2 w' (mapS φ s) y ∧ Chg w w' O O1 ∧ (∀ b, O2 b → b < w'.heap.size ∧ (w.heap.size ≤ b ∨ O b)) ∧ ∀ b, O1 b → O2 b → False := by
  have eMV : ∀ {Q : Pst} {σ : St} {k : List It} {dst : Option Tmp} (i : Nat) (v : Vl) (hv : v.k = 3 → (sHeaps s)[i]? = some v.h) (hi : getE σ.L 0 = some (.asn (I i).asn)),
      Res Tryd.prog Q (Gm w O) w ((σ.ent 0 (.asn (I (i + if v.k = 3 then 1 else 0)).asn)).put dst (.v (mvF v (φ i)).v)) k → CallAt Tryd.prog Q (Gm w O) w σ 56 [.v v.v, .v (.func (.func g) #[] cap.toArray)] dst k := by
    intro Q σ k dst i v hv hi hk
    refine CallAt.asn 0 (I i).asn hi (fun u A' => u = (mvF v (φ i)).v ∧ A' = (I (i + if v.k = 3 then 1 else 0)).asn) (fun new w1 O1 hs1 hA hO1 => ?_) (by rintro u A' ⟨rfl, rfl⟩; exact hk)
    have hK1 := hK.trans (hs1.keep.mono hG)
    refine (m_MapVal (G := G) (W := W) (O := O1) v (φ i) g cap (I i) (I (i + 1)) hg hK1 (fun b hb => ?_) (fun b hb => (hO1 b hb).2) hA (fun h3 => hst i v.h (hv h3))).mono ?_
    · have h1 := hG b hb
      exact ⟨by have := hs1.keep.size; have := h1.1; omega, fun h => (hO1 b h).1 h1⟩
    · rintro e w' ⟨O', rfl, hI', hC⟩
      refine ⟨_, _, O', rfl, ⟨rfl, rfl⟩, ?_, hC⟩
      by_cases h3 : v.k = 3
      · rw [if_pos h3] at hI' ⊢; exact hI'
      · rw [if_neg h3] at hI' ⊢; exact hI'
  refine Go.Eng.start (X := [0]) (L := [.asn (I 0).asn]) (args := [.v (s.v x0), .v (.func (.func g) #[] cap.toArray)]) (G := Gm w O) Tryd.func20 rfl Tryd.ntmps20 (by simp [SV.lt]) (hs_inv hI hO) ?_
  refine Res.run 1000 ?_
  simp only [↓reduceIte, Nat.reduceEqDiff, Nat.reduceAdd, Nat.reduceSub, Nat.reduceMul, Nat.reduceLT, Int.reduceToNat, Int.reduceBEq, Int.reduceBNe, Int.reduceLT, Int.reduceLE, E, E', TY, Sb.v]
  refine Res.ghost (RowA 0 true 33 []) (fun w h => by cases h) ?_
  refine Res.ghost (RowA 0 true 35 []) (fun w h => by cases h) ?_
  refine Res.ghost (RowA 0 true 35 []) (fun w h => by cases h) ?_
  refine Res.ghost (RowA 0 true 83 []) (fun w h => by cases h) (Res.run 900 ?_)
  simp only [↓reduceIte, Nat.reduceEqDiff, Nat.reduceAdd, Nat.reduceSub, Nat.reduceMul, Nat.reduceLT, Int.reduceToNat, Int.reduceBEq, Int.reduceBNe, Int.reduceLT, Int.reduceLE, E, E', TY]
  refine Res.loop (X := {p : Nat × RowX // p.1 ≤ s.su.length ∧ FS0 2 p.1 (hcs (mapH φ p.1)) p.2.nl p.2.cap p.2.cur})
    (fun z => { T := mkT 100 [(1, .v (.func (.func g) #[] cap.toArray)), (2, .p 1 0), (4, .p 2 0), (5, .p 3 0), (22, .v (.slice x0.a1 s.su.length x0.c1)), (23, .v (.int .i64 s.su.length)), (24, .v (.int .i64 (z.1.1 : Int)))], X := [0], L := [.asn (I (z.1.1)).asn, .cells 29 [.v (.bool s.fin), .v (.slice x0.a1 s.su.length x0.c1), .v (.int .i64 s.k), .v (.slice x0.a2 s.ps.length x0.c2), .v (.slice x0.a3 s.rs.length x0.c3), .v (.slice x0.a4 s.fs.length x0.c4)], .cells 29 [.v (.bool false), .v (.slice none 0 0), .v (.int .i64 0), .v (.slice none 0 0), .v (.slice none 0 0), .v (.slice none 0 0)], .cells 29 [.v (.bool s.fin), .v (.slice (sA z.1.2.nl z.1.2.b 0) z.1.1 z.1.2.cap), .v (.int .i64 s.k), .v (.slice none 0 0), .v (.slice none 0 0), .v (.slice none 0 0)], .asn (RowA z.1.2.b z.1.2.nl 33 z.1.2.cur), .asn (RowA 0 true 35 []), .asn (RowA 0 true 35 []), .asn (RowA 0 true 83 [])], D := [] })
    (fun z => s.su.length - z.1.1) ⟨(0, RowX.e), by simp, by simpa [mapH, hcs, RowX.e] using FS0.empty⟩ (St.Le.of 8 (by simp only [↓reduceIte, Nat.reduceEqDiff, Nat.reduceAdd, Nat.reduceSub, Nat.reduceMul, Nat.reduceLT, Int.reduceToNat, Int.reduceBEq, Int.reduceBNe, Int.reduceLT, Int.reduceLE, E, E', TY, sA_true, RowX.e, List.take_zero, nref, Nat.add_zero, tys, List.map_nil, List.take_length]; simp)) ?_
  rintro ⟨⟨k, r1⟩, hk, hF1⟩
  simp only at hk hF1 ⊢
  refine Res.run 900 ?_
  by_cases hlt : k < s.su.length
  case pos =>
    have e2 : decide ((k : Int) < (s.su.length : Int)) = true := by simp; omega
    obtain ⟨a0, a1, a2⟩ := hcs_at hs.su k hlt
    have hAs : x0.a1.isSome = true := okRd_some a0
    simp only [↓reduceIte, Nat.reduceEqDiff, Nat.reduceAdd, Nat.reduceSub, Nat.reduceMul, Nat.reduceLT, Int.reduceToNat, Int.reduceBEq, Int.reduceBNe, Int.reduceLT, Int.reduceLE, E, E', TY, e2, a1, a2, Int.toNat_natCast]
    refine ⟨⟨by omega, by omega, hAs⟩, a0, ?_⟩
    refine Res.draw 8 [.dead, .cells 29 [.v (.bool s.fin), .v (.slice x0.a1 s.su.length x0.c1), .v (.int .i64 s.k), .v (.slice x0.a2 s.ps.length x0.c2), .v (.slice x0.a3 s.rs.length x0.c3), .v (.slice x0.a4 s.fs.length x0.c4)], .cells 29 [.v (.bool false), .v (.slice none 0 0), .v (.int .i64 0), .v (.slice none 0 0), .v (.slice none 0 0), .v (.slice none 0 0)], .cells 29 [.v (.bool s.fin), .v (.slice (sA r1.nl r1.b 0) k r1.cap), .v (.int .i64 s.k), .v (.slice none 0 0), .v (.slice none 0 0), .v (.slice none 0 0)], .dead, .dead, .dead, .dead, .cells 33 [.v (.int .i64 s.su[k].k), .v (.int .i64 s.su[k].n)]] (.take 0 (.take 1 (.take 2 (.take 3 (.run 4 (.run 5 (.run 6 (.take 7 .fin) .fin) .fin) .fin))))) (by kernel_rfl) (by kernel_rfl) fun new hnew => Res.run 900 ?_
    have hnl : new.length = 8 := by have := hnew; simp at this; omega
    simp only [↓reduceIte, Nat.reduceEqDiff, Nat.reduceAdd, Nat.reduceSub, Nat.reduceMul, Nat.reduceLT, Int.reduceToNat, Int.reduceBEq, Int.reduceBNe, Int.reduceLT, Int.reduceLE, E, E', TY, hnl]
    refine ⟨hg, CallAt.asn 0 (I k).asn rfl (fun u A' => u = (φ k).v ∧ A' = (I (k + 1)).asn) (fun new w1 O1 hs1 hA hO1 => ?_) ?_⟩
    · have h1 := hst k _ (sHeaps_su s hlt) w1 O1 (hK.trans (hs1.keep.mono hG)) hA (fun b hb => ⟨fun hgb => (hO1 b hb).1 (hG b hgb), (hO1 b hb).2⟩)
      simp only [List.map_nil, List.map_cons, List.nil_append, List.cons_append, List.map_append, den_cap, SV.den, At.den]
      refine h1.mono ?_
      rintro e w' ⟨O', rfl, hI', hC⟩
      exact ⟨_, _, O', rfl, ⟨rfl, rfl⟩, hI', hC⟩
    rintro u A' ⟨rfl, rfl⟩
    refine Res.run 900 ?_
    simp only [↓reduceIte, Nat.reduceEqDiff, Nat.reduceAdd, Nat.reduceSub, Nat.reduceMul, Nat.reduceLT, Int.reduceToNat, Int.reduceBEq, Int.reduceBNe, Int.reduceLT, Int.reduceLE, E, E', TY, Hp.v, hnl]
    refine OpAt.appendR (x := .tmp 29) (y := .tmp 33) (t := 22) (e := 33) (size := 2) (bytes := 16) (i := 4) (b := r1.b) (nl := r1.nl) (n := k) (cap := r1.cap) (m := 1) (cur := r1.cur) (φ k).cs rfl rfl rfl rfl ap22 rfl rfl hF1
      (SrcOK.s (j := 9) (off := 0) (c := 1) (nl := false) rfl rfl (by simp) (by intro i u hu; rw [Nat.zero_add]; exact hu)) rfl (Hp.one _) ⟨by have := hz.su; simp [maxLen]; omega, by have := hz.su; omega⟩ fun nl' b' cap' cur' hF' hn' => Res.run 900 ?_
    simp only [↓reduceIte, Nat.reduceEqDiff, Nat.reduceAdd, Nat.reduceSub, Nat.reduceMul, Nat.reduceLT, Int.reduceToNat, Int.reduceBEq, Int.reduceBNe, Int.reduceLT, Int.reduceLE, E, E', TY, hnl]
    refine ⟨i64ok_of (by have := hz.su; omega) (by have := hz.su; omega), ?_⟩
    refine Res.again (⟨(k + 1, ⟨nl', b', cap', cur'⟩), by simp only; omega, ?_⟩ : {p : Nat × RowX // p.1 ≤ s.su.length ∧ FS0 2 p.1 (hcs (mapH φ p.1)) p.2.nl p.2.cap p.2.cur}) (by simp only; omega) (St.Le.of2 8 new (by simp only [↓reduceIte, Nat.reduceEqDiff, Nat.reduceAdd, Nat.reduceSub, Nat.reduceMul, Nat.reduceLT, Int.reduceToNat, Int.reduceBEq, Int.reduceBNe, Int.reduceLT, Int.reduceLE, E, E', TY, Int.natCast_add, Int.cast_ofNat_Int]))
    simp only
    rw [show mapH φ (k + 1) = mapH φ k ++ [φ k] by simp [mapH, List.range_succ], show hcs (mapH φ k ++ [φ k]) = hcs (mapH φ k) ++ (φ k).cs by simp [hcs]]
    exact hF'
  obtain rfl : k = s.su.length := by omega
  have e2 : decide ((s.su.length : Int) < (s.su.length : Int)) = false := by simp
  simp only [↓reduceIte, Nat.reduceEqDiff, Nat.reduceAdd, Nat.reduceSub, Nat.reduceMul, Nat.reduceLT, Int.reduceToNat, Int.reduceBEq, Int.reduceBNe, Int.reduceLT, Int.reduceLE, E, E', TY, e2, List.take_length]
  refine Res.loop (X := {p : Nat × RowX // p.1 ≤ s.ps.length ∧ FS0 4 p.1 (vcs (mapV φ s.su.length (s.ps.take p.1))) p.2.nl p.2.cap p.2.cur})
    (fun z => { T := mkT 100 [(1, .v (.func (.func g) #[] cap.toArray)), (2, .p 1 0), (4, .p 2 0), (5, .p 3 0), (39, .v (.slice x0.a2 s.ps.length x0.c2)), (40, .v (.int .i64 s.ps.length)), (41, .v (.int .i64 (z.1.1 : Int)))], X := [0], L := [.asn (I (s.su.length + nref (s.ps.take z.1.1))).asn, .cells 29 [.v (.bool s.fin), .v (.slice x0.a1 s.su.length x0.c1), .v (.int .i64 s.k), .v (.slice x0.a2 s.ps.length x0.c2), .v (.slice x0.a3 s.rs.length x0.c3), .v (.slice x0.a4 s.fs.length x0.c4)], .cells 29 [.v (.bool false), .v (.slice none 0 0), .v (.int .i64 0), .v (.slice none 0 0), .v (.slice none 0 0), .v (.slice none 0 0)], .cells 29 [.v (.bool s.fin), .v (.slice (sA r1.nl r1.b 0) s.su.length r1.cap), .v (.int .i64 s.k), .v (.slice (sA z.1.2.nl z.1.2.b 0) z.1.1 z.1.2.cap), .v (.slice none 0 0), .v (.slice none 0 0)], .asn (RowA r1.b r1.nl 33 r1.cur), .asn (RowA z.1.2.b z.1.2.nl 35 z.1.2.cur), .asn (RowA 0 true 35 []), .asn (RowA 0 true 83 [])], D := [] })
    (fun z => s.ps.length - z.1.1) ⟨(0, RowX.e), by simp, by simpa [mapV, vcs, RowX.e] using FS0.empty⟩ (St.Le.of 8 (by simp only [↓reduceIte, Nat.reduceEqDiff, Nat.reduceAdd, Nat.reduceSub, Nat.reduceMul, Nat.reduceLT, Int.reduceToNat, Int.reduceBEq, Int.reduceBNe, Int.reduceLT, Int.reduceLE, E, E', TY, sA_true, RowX.e, List.take_zero, nref, Nat.add_zero, tys, List.map_nil]; simp)) ?_
  rintro ⟨⟨k, r2⟩, hk, hF2⟩
  simp only at hk hF2 ⊢
  refine Res.run 900 ?_
  by_cases hlt : k < s.ps.length
  case pos =>
    have e2 : decide ((k : Int) < (s.ps.length : Int)) = true := by simp; omega
    obtain ⟨a0, a1, a2, a3, a4⟩ := vcs_at hs.ps k hlt
    have hAs : x0.a2.isSome = true := okRd_some a0
    simp only [↓reduceIte, Nat.reduceEqDiff, Nat.reduceAdd, Nat.reduceSub, Nat.reduceMul, Nat.reduceLT, Int.reduceToNat, Int.reduceBEq, Int.reduceBNe, Int.reduceLT, Int.reduceLE, E, E', TY, e2, a1, a2, a3, a4, Int.toNat_natCast]
    refine ⟨⟨by omega, by omega, hAs⟩, a0, ?_⟩
    refine Res.draw 10 [.dead, .cells 29 [.v (.bool s.fin), .v (.slice x0.a1 s.su.length x0.c1), .v (.int .i64 s.k), .v (.slice x0.a2 s.ps.length x0.c2), .v (.slice x0.a3 s.rs.length x0.c3), .v (.slice x0.a4 s.fs.length x0.c4)], .cells 29 [.v (.bool false), .v (.slice none 0 0), .v (.int .i64 0), .v (.slice none 0 0), .v (.slice none 0 0), .v (.slice none 0 0)], .cells 29 [.v (.bool s.fin), .v (.slice (sA r1.nl r1.b 0) s.su.length r1.cap), .v (.int .i64 s.k), .v (.slice (sA r2.nl r2.b 0) k r2.cap), .v (.slice none 0 0), .v (.slice none 0 0)], .dead, .dead, .dead, .dead, .cells 35 [.v (.int .i64 s.ps[k].k), .v (.bool s.ps[k].nul), .v (.int .i64 s.ps[k].h.k), .v (.int .i64 s.ps[k].h.n)]] (.take 0 (.take 1 (.take 2 (.take 3 (.take 4 (.run 5 (.run 6 (.run 7 (.take 8 (.take 9 .fin)) .fin) .fin) .fin)))))) (by kernel_rfl) (by kernel_rfl) fun new hnew => Res.run 900 ?_
    have hnl : new.length = 8 := by have := hnew; simp at this; omega
    simp only [↓reduceIte, Nat.reduceEqDiff, Nat.reduceAdd, Nat.reduceSub, Nat.reduceMul, Nat.reduceLT, Int.reduceToNat, Int.reduceBEq, Int.reduceBNe, Int.reduceLT, Int.reduceLE, E, E', TY, hnl]
    refine ⟨fnok56, eMV (s.su.length + nref (s.ps.take k)) s.ps[k] (fun h3 => sHeaps_ps s hlt h3) rfl (Res.run 900 ?_)⟩
    obtain ⟨u, hu⟩ : ∃ u, mvF s.ps[k] (φ (s.su.length + nref (s.ps.take k))) = u := ⟨_, rfl⟩
    rw [hu]
    simp only [↓reduceIte, Nat.reduceEqDiff, Nat.reduceAdd, Nat.reduceSub, Nat.reduceMul, Nat.reduceLT, Int.reduceToNat, Int.reduceBEq, Int.reduceBNe, Int.reduceLT, Int.reduceLE, E, E', TY, Vl.v, hnl]
    refine OpAt.appendR (x := .tmp 47) (y := .tmp 51) (t := 24) (e := 35) (size := 4) (bytes := 32) (i := 5) (b := r2.b) (nl := r2.nl) (n := k) (cap := r2.cap) (m := 1) (cur := r2.cur) u.cs rfl rfl rfl rfl ap24 rfl rfl hF2
      (SrcOK.s (j := 9) (off := 0) (c := 1) (nl := false) rfl rfl (by simp) (by intro i u hu; rw [Nat.zero_add]; exact hu)) rfl (Vl.one _) ⟨by have := hz.ps; simp [maxLen]; omega, by have := hz.ps; omega⟩ fun nl' b' cap' cur' hF' hn' => Res.run 900 ?_
    simp only [↓reduceIte, Nat.reduceEqDiff, Nat.reduceAdd, Nat.reduceSub, Nat.reduceMul, Nat.reduceLT, Int.reduceToNat, Int.reduceBEq, Int.reduceBNe, Int.reduceLT, Int.reduceLE, E, E', TY, hnl]
    refine ⟨i64ok_of (by have := hz.ps; omega) (by have := hz.ps; omega), ?_⟩
    have hnr : s.su.length + nref (s.ps.take (k + 1)) = (s.su.length + nref (s.ps.take k)) + if s.ps[k].k = 3 then 1 else 0 := by rw [nref_take hlt]; omega
    refine Res.again (⟨(k + 1, ⟨nl', b', cap', cur'⟩), by simp only; omega, ?_⟩ : {p : Nat × RowX // p.1 ≤ s.ps.length ∧ FS0 4 p.1 (vcs (mapV φ s.su.length (s.ps.take p.1))) p.2.nl p.2.cap p.2.cur}) (by simp only; omega) (St.Le.of2 8 new (by simp only [↓reduceIte, Nat.reduceEqDiff, Nat.reduceAdd, Nat.reduceSub, Nat.reduceMul, Nat.reduceLT, Int.reduceToNat, Int.reduceBEq, Int.reduceBNe, Int.reduceLT, Int.reduceLE, E, E', TY, hnr, Int.natCast_add, Int.cast_ofNat_Int]))
    simp only
    rw [take_succ' s.ps k hlt, mapV_append, show ∀ i, mapV φ i [s.ps[k]] = [mvF s.ps[k] (φ i)] from fun _ => rfl, hu, show ∀ l, vcs (l ++ [u]) = vcs l ++ u.cs from fun l => by simp [vcs]]
    exact hF'
  obtain rfl : k = s.ps.length := by omega
  have e2 : decide ((s.ps.length : Int) < (s.ps.length : Int)) = false := by simp
  rw [List.take_length] at hF2; simp only [↓reduceIte, Nat.reduceEqDiff, Nat.reduceAdd, Nat.reduceSub, Nat.reduceMul, Nat.reduceLT, Int.reduceToNat, Int.reduceBEq, Int.reduceBNe, Int.reduceLT, Int.reduceLE, E, E', TY, e2, List.take_length]
  refine Res.loop (X := {p : Nat × RowX // p.1 ≤ s.rs.length ∧ FS0 4 p.1 (vcs (mapV φ (s.su.length + nref s.ps) (s.rs.take p.1))) p.2.nl p.2.cap p.2.cur})
    (fun z => { T := mkT 100 [(1, .v (.func (.func g) #[] cap.toArray)), (2, .p 1 0), (4, .p 2 0), (5, .p 3 0), (58, .v (.slice x0.a3 s.rs.length x0.c3)), (59, .v (.int .i64 s.rs.length)), (60, .v (.int .i64 (z.1.1 : Int)))], X := [0], L := [.asn (I (s.su.length + nref s.ps + nref (s.rs.take z.1.1))).asn, .cells 29 [.v (.bool s.fin), .v (.slice x0.a1 s.su.length x0.c1), .v (.int .i64 s.k), .v (.slice x0.a2 s.ps.length x0.c2), .v (.slice x0.a3 s.rs.length x0.c3), .v (.slice x0.a4 s.fs.length x0.c4)], .cells 29 [.v (.bool false), .v (.slice none 0 0), .v (.int .i64 0), .v (.slice none 0 0), .v (.slice none 0 0), .v (.slice none 0 0)], .cells 29 [.v (.bool s.fin), .v (.slice (sA r1.nl r1.b 0) s.su.length r1.cap), .v (.int .i64 s.k), .v (.slice (sA r2.nl r2.b 0) s.ps.length r2.cap), .v (.slice (sA z.1.2.nl z.1.2.b 0) z.1.1 z.1.2.cap), .v (.slice none 0 0)], .asn (RowA r1.b r1.nl 33 r1.cur), .asn (RowA r2.b r2.nl 35 r2.cur), .asn (RowA z.1.2.b z.1.2.nl 35 z.1.2.cur), .asn (RowA 0 true 83 [])], D := [] })
    (fun z => s.rs.length - z.1.1) ⟨(0, RowX.e), by simp, by simpa [mapV, vcs, RowX.e] using FS0.empty⟩ (St.Le.of 8 (by simp only [↓reduceIte, Nat.reduceEqDiff, Nat.reduceAdd, Nat.reduceSub, Nat.reduceMul, Nat.reduceLT, Int.reduceToNat, Int.reduceBEq, Int.reduceBNe, Int.reduceLT, Int.reduceLE, E, E', TY, sA_true, RowX.e, List.take_zero, nref, Nat.add_zero, tys, List.map_nil]; simp)) ?_
  rintro ⟨⟨k, r3⟩, hk, hF3⟩
  simp only at hk hF3 ⊢
  refine Res.run 900 ?_
  by_cases hlt : k < s.rs.length
  case pos =>
    have e2 : decide ((k : Int) < (s.rs.length : Int)) = true := by simp; omega
    obtain ⟨a0, a1, a2, a3, a4⟩ := vcs_at hs.rs k hlt
    have hAs : x0.a3.isSome = true := okRd_some a0
    simp only [↓reduceIte, Nat.reduceEqDiff, Nat.reduceAdd, Nat.reduceSub, Nat.reduceMul, Nat.reduceLT, Int.reduceToNat, Int.reduceBEq, Int.reduceBNe, Int.reduceLT, Int.reduceLE, E, E', TY, e2, a1, a2, a3, a4, Int.toNat_natCast]
    refine ⟨⟨by omega, by omega, hAs⟩, a0, ?_⟩
    refine Res.draw 10 [.dead, .cells 29 [.v (.bool s.fin), .v (.slice x0.a1 s.su.length x0.c1), .v (.int .i64 s.k), .v (.slice x0.a2 s.ps.length x0.c2), .v (.slice x0.a3 s.rs.length x0.c3), .v (.slice x0.a4 s.fs.length x0.c4)], .cells 29 [.v (.bool false), .v (.slice none 0 0), .v (.int .i64 0), .v (.slice none 0 0), .v (.slice none 0 0), .v (.slice none 0 0)], .cells 29 [.v (.bool s.fin), .v (.slice (sA r1.nl r1.b 0) s.su.length r1.cap), .v (.int .i64 s.k), .v (.slice (sA r2.nl r2.b 0) s.ps.length r2.cap), .v (.slice (sA r3.nl r3.b 0) k r3.cap), .v (.slice none 0 0)], .dead, .dead, .dead, .dead, .cells 35 [.v (.int .i64 s.rs[k].k), .v (.bool s.rs[k].nul), .v (.int .i64 s.rs[k].h.k), .v (.int .i64 s.rs[k].h.n)]] (.take 0 (.take 1 (.take 2 (.take 3 (.take 4 (.run 5 (.run 6 (.run 7 (.take 8 (.take 9 .fin)) .fin) .fin) .fin)))))) (by kernel_rfl) (by kernel_rfl) fun new hnew => Res.run 900 ?_
    have hnl : new.length = 8 := by have := hnew; simp at this; omega
    simp only [↓reduceIte, Nat.reduceEqDiff, Nat.reduceAdd, Nat.reduceSub, Nat.reduceMul, Nat.reduceLT, Int.reduceToNat, Int.reduceBEq, Int.reduceBNe, Int.reduceLT, Int.reduceLE, E, E', TY, hnl]
    refine ⟨fnok56, eMV (s.su.length + nref s.ps + nref (s.rs.take k)) s.rs[k] (fun h3 => sHeaps_rs s hlt h3) rfl (Res.run 900 ?_)⟩
    obtain ⟨u, hu⟩ : ∃ u, mvF s.rs[k] (φ (s.su.length + nref s.ps + nref (s.rs.take k))) = u := ⟨_, rfl⟩
    rw [hu]
    simp only [↓reduceIte, Nat.reduceEqDiff, Nat.reduceAdd, Nat.reduceSub, Nat.reduceMul, Nat.reduceLT, Int.reduceToNat, Int.reduceBEq, Int.reduceBNe, Int.reduceLT, Int.reduceLE, E, E', TY, Vl.v, hnl]
    refine OpAt.appendR (x := .tmp 66) (y := .tmp 70) (t := 24) (e := 35) (size := 4) (bytes := 32) (i := 6) (b := r3.b) (nl := r3.nl) (n := k) (cap := r3.cap) (m := 1) (cur := r3.cur) u.cs rfl rfl rfl rfl ap24 rfl rfl hF3
      (SrcOK.s (j := 9) (off := 0) (c := 1) (nl := false) rfl rfl (by simp) (by intro i u hu; rw [Nat.zero_add]; exact hu)) rfl (Vl.one _) ⟨by have := hz.rs; simp [maxLen]; omega, by have := hz.rs; omega⟩ fun nl' b' cap' cur' hF' hn' => Res.run 900 ?_
    simp only [↓reduceIte, Nat.reduceEqDiff, Nat.reduceAdd, Nat.reduceSub, Nat.reduceMul, Nat.reduceLT, Int.reduceToNat, Int.reduceBEq, Int.reduceBNe, Int.reduceLT, Int.reduceLE, E, E', TY, hnl]
    refine ⟨i64ok_of (by have := hz.rs; omega) (by have := hz.rs; omega), ?_⟩
    have hnr : s.su.length + nref s.ps + nref (s.rs.take (k + 1)) = (s.su.length + nref s.ps + nref (s.rs.take k)) + if s.rs[k].k = 3 then 1 else 0 := by rw [nref_take hlt]; omega
    refine Res.again (⟨(k + 1, ⟨nl', b', cap', cur'⟩), by simp only; omega, ?_⟩ : {p : Nat × RowX // p.1 ≤ s.rs.length ∧ FS0 4 p.1 (vcs (mapV φ (s.su.length + nref s.ps) (s.rs.take p.1))) p.2.nl p.2.cap p.2.cur}) (by simp only; omega) (St.Le.of2 8 new (by simp only [↓reduceIte, Nat.reduceEqDiff, Nat.reduceAdd, Nat.reduceSub, Nat.reduceMul, Nat.reduceLT, Int.reduceToNat, Int.reduceBEq, Int.reduceBNe, Int.reduceLT, Int.reduceLE, E, E', TY, hnr, Int.natCast_add, Int.cast_ofNat_Int]))
    simp only
    rw [take_succ' s.rs k hlt, mapV_append, show ∀ i, mapV φ i [s.rs[k]] = [mvF s.rs[k] (φ i)] from fun _ => rfl, hu, show ∀ l, vcs (l ++ [u]) = vcs l ++ u.cs from fun l => by simp [vcs]]
    exact hF'
  obtain rfl : k = s.rs.length := by omega
  have e2 : decide ((s.rs.length : Int) < (s.rs.length : Int)) = false := by simp
  rw [List.take_length] at hF3; simp only [↓reduceIte, Nat.reduceEqDiff, Nat.reduceAdd, Nat.reduceSub, Nat.reduceMul, Nat.reduceLT, Int.reduceToNat, Int.reduceBEq, Int.reduceBNe, Int.reduceLT, Int.reduceLE, E, E', TY, e2, List.take_length]
  refine Res.loop (X := {p : Nat × RowX // p.1 ≤ s.fs.length ∧ FS0 6 p.1 (fcs (mapFd φ (s.su.length + nref s.ps + nref s.rs) (s.fs.take p.1))) p.2.nl p.2.cap p.2.cur})
    (fun z => { T := mkT 100 [(1, .v (.func (.func g) #[] cap.toArray)), (2, .p 1 0), (4, .p 2 0), (5, .p 3 0), (77, .v (.slice x0.a4 s.fs.length x0.c4)), (78, .v (.int .i64 s.fs.length)), (79, .v (.int .i64 (z.1.1 : Int)))], X := [0], L := [.asn (I (s.su.length + nref s.ps + nref s.rs + nref (tys (s.fs.take z.1.1)))).asn, .cells 29 [.v (.bool s.fin), .v (.slice x0.a1 s.su.length x0.c1), .v (.int .i64 s.k), .v (.slice x0.a2 s.ps.length x0.c2), .v (.slice x0.a3 s.rs.length x0.c3), .v (.slice x0.a4 s.fs.length x0.c4)], .cells 29 [.v (.bool false), .v (.slice none 0 0), .v (.int .i64 0), .v (.slice none 0 0), .v (.slice none 0 0), .v (.slice none 0 0)], .cells 29 [.v (.bool s.fin), .v (.slice (sA r1.nl r1.b 0) s.su.length r1.cap), .v (.int .i64 s.k), .v (.slice (sA r2.nl r2.b 0) s.ps.length r2.cap), .v (.slice (sA r3.nl r3.b 0) s.rs.length r3.cap), .v (.slice (sA z.1.2.nl z.1.2.b 0) z.1.1 z.1.2.cap)], .asn (RowA r1.b r1.nl 33 r1.cur), .asn (RowA r2.b r2.nl 35 r2.cur), .asn (RowA r3.b r3.nl 35 r3.cur), .asn (RowA z.1.2.b z.1.2.nl 83 z.1.2.cur)], D := [] })
    (fun z => s.fs.length - z.1.1) ⟨(0, RowX.e), by simp, by simpa [mapFd, fcs, RowX.e] using FS0.empty⟩ (St.Le.of 8 (by simp only [↓reduceIte, Nat.reduceEqDiff, Nat.reduceAdd, Nat.reduceSub, Nat.reduceMul, Nat.reduceLT, Int.reduceToNat, Int.reduceBEq, Int.reduceBNe, Int.reduceLT, Int.reduceLE, E, E', TY, sA_true, RowX.e, List.take_zero, nref, Nat.add_zero, tys, List.map_nil]; simp)) ?_
  rintro ⟨⟨k, r4⟩, hk, hF4⟩
  simp only at hk hF4 ⊢
  refine Res.run 900 ?_
  by_cases hlt : k < s.fs.length
  case pos =>
    have e2 : decide ((k : Int) < (s.fs.length : Int)) = true := by simp; omega
    obtain ⟨a0, a1, a2, a3, a4, a5, a6⟩ := fcs_at hs.fs k hlt
    have hAs : x0.a4.isSome = true := okRd_some a0
    simp only [↓reduceIte, Nat.reduceEqDiff, Nat.reduceAdd, Nat.reduceSub, Nat.reduceMul, Nat.reduceLT, Int.reduceToNat, Int.reduceBEq, Int.reduceBNe, Int.reduceLT, Int.reduceLE, E, E', TY, e2, a1, a2, a3, a4, a5, a6, Int.toNat_natCast]
    refine ⟨⟨by omega, by omega, hAs⟩, a0, ?_⟩
    refine ⟨fnok56, eMV (s.su.length + nref s.ps + nref s.rs + nref (tys (s.fs.take k))) s.fs[k].t (fun h3 => sHeaps_fs s hlt h3) rfl (Res.run 900 ?_)⟩
    obtain ⟨u, hu⟩ : ∃ u, mvF s.fs[k].t (φ (s.su.length + nref s.ps + nref s.rs + nref (tys (s.fs.take k)))) = u := ⟨_, rfl⟩
    rw [hu]
    simp only [↓reduceIte, Nat.reduceEqDiff, Nat.reduceAdd, Nat.reduceSub, Nat.reduceMul, Nat.reduceLT, Int.reduceToNat, Int.reduceBEq, Int.reduceBNe, Int.reduceLT, Int.reduceLE, E, E', TY, Vl.v]
    refine Res.op (OpAt.appendR (x := .tmp 92) (y := .tmp 94) (t := 25) (e := 83) (size := 6) (bytes := 48) (i := 7) (b := r4.b) (nl := r4.nl) (n := k) (cap := r4.cap) (m := 1) (cur := r4.cur) (Fd.mk s.fs[k].pk u s.fs[k].m).cs rfl rfl rfl rfl ap25 rfl rfl hF4
      (SrcOK.s (j := 9) (off := 0) (c := 1) (nl := false) rfl rfl (by simp) (by intro i u hu; rw [Nat.zero_add]; exact hu)) rfl (Fd.one _) ⟨by have := hz.fs; simp [maxLen]; omega, by have := hz.fs; omega⟩ fun nl' b' cap' cur' hF' hn' => Res.run 900 ?_)
    simp only [↓reduceIte, Nat.reduceEqDiff, Nat.reduceAdd, Nat.reduceSub, Nat.reduceMul, Nat.reduceLT, Int.reduceToNat, Int.reduceBEq, Int.reduceBNe, Int.reduceLT, Int.reduceLE, E, E', TY]
    refine ⟨i64ok_of (by have := hz.fs; omega) (by have := hz.fs; omega), ?_⟩
    have hnr : s.su.length + nref s.ps + nref s.rs + nref (tys (s.fs.take (k + 1))) = (s.su.length + nref s.ps + nref s.rs + nref (tys (s.fs.take k))) + if s.fs[k].t.k = 3 then 1 else 0 := by
      rw [tys_take, tys_take, nref_take (by rw [tys_len]; exact hlt), tys_get hlt]; omega
    refine Res.again (⟨(k + 1, ⟨nl', b', cap', cur'⟩), by simp only; omega, ?_⟩ : {p : Nat × RowX // p.1 ≤ s.fs.length ∧ FS0 6 p.1 (fcs (mapFd φ (s.su.length + nref s.ps + nref s.rs) (s.fs.take p.1))) p.2.nl p.2.cap p.2.cur}) (by simp only; omega) (St.Le.of 8 (by simp only [↓reduceIte, Nat.reduceEqDiff, Nat.reduceAdd, Nat.reduceSub, Nat.reduceMul, Nat.reduceLT, Int.reduceToNat, Int.reduceBEq, Int.reduceBNe, Int.reduceLT, Int.reduceLE, E, E', TY, hnr, Int.natCast_add, Int.cast_ofNat_Int]))
    simp only
    rw [take_succ' s.fs k hlt, mapFd_append, show ∀ i, mapFd φ i [s.fs[k]] = [⟨s.fs[k].pk, mvF s.fs[k].t (φ i), s.fs[k].m⟩] from fun _ => rfl, hu, show ∀ l : List Fd, fcs (l ++ [Fd.mk s.fs[k].pk u s.fs[k].m]) = fcs l ++ (Fd.mk s.fs[k].pk u s.fs[k].m).cs from fun l => by simp [fcs]]
    exact hF'
  obtain rfl : k = s.fs.length := by omega
  have e2 : decide ((s.fs.length : Int) < (s.fs.length : Int)) = false := by simp
  rw [List.take_length] at hF4; simp only [↓reduceIte, Nat.reduceEqDiff, Nat.reduceAdd, Nat.reduceSub, Nat.reduceMul, Nat.reduceLT, Int.reduceToNat, Int.reduceBEq, Int.reduceBNe, Int.reduceLT, Int.reduceLE, E, E', TY, e2, List.take_length]
  refine Ret.body [.agg [.v (.bool s.fin), .v (.slice (sA r1.nl r1.b 0) s.su.length r1.cap), .v (.int .i64 s.k), .v (.slice (sA r2.nl r2.b 0) s.ps.length r2.cap), .v (.slice (sA r3.nl r3.b 0) s.rs.length r3.cap), .v (.slice (sA r4.nl r4.b 0) s.fs.length r4.cap)]] rfl (by kernel_rfl) fun new w' hs' => ?_
  obtain ⟨own, ho⟩ := hs'
  have hA : (I (sHeaps s).length).R (own 0) w' := by rw [sHeaps_len]; exact ho.ok 0 _ rfl
  have g1 : (RowA r1.b r1.nl 33 r1.cur).R (own 4) _ w' := ho.ok 4 _ rfl
  have g2 : (RowA r2.b r2.nl 35 r2.cur).R (own 5) _ w' := ho.ok 5 _ rfl
  have g3 : (RowA r3.b r3.nl 35 r3.cur).R (own 6) _ w' := ho.ok 6 _ rfl
  have g4 : (RowA r4.b r4.nl 83 r4.cur).R (own 7) _ w' := ho.ok 7 _ rfl
  refine ⟨own 0, fun b => ∃ i, (i = 4 ∨ i = 5 ∨ i = 6 ∨ i = 7) ∧ own i b, ⟨sA r1.nl r1.b 0, r1.cap, sA r2.nl r2.b 0, r2.cap, sA r3.nl r3.b 0, r3.cap, sA r4.nl r4.b 0, r4.cap⟩, ?_, hA, ?_, chg_of ho 0 (by simp), ?_, ?_⟩
  · simp [resOf, SV.den, At.den, mapS, Sb.v, mapH_len, mapV_len, mapFd_len]
  · refine ⟨(cs_rowA g1 hF1).mono fun b hb => ⟨4, .inl rfl, hb⟩, (cs_rowA g2 hF2).mono fun b hb => ⟨5, .inr (.inl rfl), hb⟩, (cs_rowA g3 hF3).mono fun b hb => ⟨6, .inr (.inr (.inl rfl)), hb⟩, (cs_rowA g4 hF4).mono fun b hb => ⟨7, .inr (.inr (.inr rfl)), hb⟩, fun h => ?_, fun h => ?_, fun h => ?_, fun h => ?_⟩
    · exact List.length_eq_zero_iff.1 ((mapH_len _ _).trans (hF1.none h))
    · exact List.length_eq_zero_iff.1 ((mapV_len _ _ _).trans (hF2.none h))
    · exact List.length_eq_zero_iff.1 ((mapV_len _ _ _).trans (hF3.none h))
    · exact List.length_eq_zero_iff.1 ((mapFd_len _ _ _).trans (hF4.none h))
  · rintro b ⟨i, hi, hb⟩
    exact (chg_of ho i (by simp; omega)).own b hb
  · rintro b h0 ⟨i, hi, hb⟩
    exact ho.apart 0 i b (by simp) (by simp; omega) (by omega) h0 hb
end Go.Proofs.YtkcbmkoafmffoaaDoor
