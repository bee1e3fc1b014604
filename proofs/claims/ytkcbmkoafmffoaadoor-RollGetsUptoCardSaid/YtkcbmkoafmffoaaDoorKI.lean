/-
  The kind layer: the writing of a declared type.
-/
import Derived.Test.YtkcbmkoafmffoaaDoorKH
set_option linter.unusedVariables false
set_option linter.unusedSimpArgs false
set_option maxRecDepth 20000
set_option maxHeartbeats 8000000
namespace Go.Proofs.YtkcbmkoafmffoaaDoor
open Go Go.Eng

/-- Each behind a blank. -/
def catG {α : Type} (f : α → ByteArray) : List α → ByteArray
  | [] => ⟨#[]⟩
  | x :: l => (⟨#[32]⟩ ++ f x) ++ catG f l
theorem ba_nil (a : ByteArray) : a ++ ⟨#[]⟩ = a := by
  obtain ⟨⟨a⟩⟩ := a
  show ByteArray.append _ _ = _
  apply ByteArray.ext
  simp [ByteArray.data_append]
theorem ba_nil' (a : ByteArray) : (⟨#[]⟩ : ByteArray) ++ a = a := by
  apply ByteArray.ext
  simp [ByteArray.data_append]
theorem catG_append {α : Type} (f : α → ByteArray) (a b : List α) : catG f (a ++ b) = catG f a ++ catG f b := by
  induction a with
  | nil => rw [List.nil_append, catG, ba_nil']
  | cons x a ih => rw [List.cons_append, catG, catG, ih]; simp only [ByteArray.append_assoc]
theorem catG_take {α : Type} (f : α → ByteArray) (p : ByteArray) (l : List α) (k : Nat) (h : k < l.length) : p ++ catG f (l.take (k + 1)) = (p ++ catG f (l.take k)) ++ (⟨#[32]⟩ ++ f l[k]) := by
  rw [take_succ'' l k h, catG_append, ByteArray.append_assoc]
  show _ = p ++ (catG f (l.take k) ++ _)
  rw [show catG f [l[k]] = (⟨#[32]⟩ ++ f l[k]) ++ ⟨#[]⟩ from rfl, ba_nil]
where take_succ'' (l : List α) (k : Nat) (h : k < l.length) : l.take (k + 1) = l.take k ++ [l[k]] := by simp [h]
theorem catG_size {α : Type} (f : α → ByteArray) (B : Nat) (l : List α) (h : ∀ x ∈ l, (f x).size ≤ B) : (catG f l).size ≤ l.length * (B + 1) := by
  induction l with
  | nil => simp [catG, ByteArray.size]
  | cons x l ih =>
    have h1 := ih fun y hy => h y (List.mem_cons_of_mem _ hy)
    have h2 := h x List.mem_cons_self
    rw [catG, ByteArray.size_append, ByteArray.size_append, List.length_cons, Nat.add_mul]
    have : (⟨#[32]⟩ : ByteArray).size = 1 := rfl
    omega
/-- A writing that grows, one behind the other. -/
theorem cat_steps {α : Type} (f : α → ByteArray) (B : Nat) (p : ByteArray) (l : List α) (h : ∀ x ∈ l, (f x).size ≤ B) :
    ∃ S : Nat → ByteArray, S 0 = p ∧ S l.length = p ++ catG f l ∧ (∀ k (hk : k < l.length), S k ++ (⟨#[32]⟩ ++ f l[k]) = S (k + 1)) ∧ ∀ k, k ≤ l.length → (S k).size ≤ p.size + l.length * (B + 1) := by
  refine ⟨fun k => p ++ catG f (l.take k), ?_, ?_, fun k hk => (catG_take f p l k hk).symm, fun k hk => ?_⟩
  · show p ++ catG f (l.take 0) = p; rw [List.take_zero, catG, ba_nil]
  · show p ++ catG f (l.take l.length) = _; rw [List.take_length]
  · show (p ++ catG f (l.take k)).size ≤ _
    have := catG_size f B (l.take k) fun x hx => h x (List.mem_of_mem_take hx)
    have h2 : (l.take k).length * (B + 1) ≤ l.length * (B + 1) := Nat.mul_le_mul_right _ (by rw [List.length_take]; omega)
    rw [ByteArray.size_append]; omega

def lstT (wrd : ByteArray) (l : List Vl) : ByteArray := if l = [] then ⟨#[]⟩ else (⟨#[32, 40]⟩ ++ wrd ++ catG valT l) ++ ⟨#[41]⟩
theorem lstT_size (wrd : ByteArray) (hw : wrd.size ≤ 10) (l : List Vl) (hok : ∀ v ∈ l, v.k = 3 → i64ok v.h.n) (hz : l.length ≤ 1100000) : (lstT wrd l).size ≤ 50000000 := by
  have := catG_size valT 40 l fun v hv => valT_size v (hok v hv)
  unfold lstT
  split
  · decide
  · simp only [ByteArray.size_append]
    show 2 + _ + _ + 1 ≤ _; omega

theorem m_list {w : World} (wrd : ByteArray) (hw : wrd.size ≤ 10) (A : Option Addr) (c : Nat) (l : List Vl) (hA : Cs (· < w.heap.size) w A (vcs l)) (hok : ∀ v ∈ l, v.k = 3 → i64ok v.h.n) (hz : l.length ≤ 1100000) (ht : Tab w) :
    Calls Tryd.prog 44 #[.string wrd, .slice A l.length c] w fun e w' => e = .returned (.string (lstT wrd l)) ∧ Ext w w' := by
  obtain ⟨r, hr⟩ : ∃ r, lstT wrd l = r := ⟨_, rfl⟩
  rw [hr]
  unfold lstT at hr
  refine start0 (args := [.v (.string wrd), .v (.slice A l.length c)]) (G := (· < w.heap.size)) Tryd.func44 rfl Tryd.ntmps44 (by simp [SV.lt]) (fun _ h => h) ?_
  refine Res.run 1000 ?_
  by_cases h0 : l.length = 0
  · have e0 : ((l.length : Int) == 0) = true := by simp [h0]
    rw [if_pos (List.length_eq_zero_iff.1 h0)] at hr
    subst hr
    simp only [↓reduceIte, Nat.reduceEqDiff, Nat.reduceAdd, Nat.reduceSub, Nat.reduceMul, Nat.reduceLT, Int.reduceToNat, Int.reduceBEq, Int.reduceBNe, Int.reduceLT, Int.reduceLE, E, E', TY, e0]
    exact Ret.one rfl (by kernel_rfl)
  have e0 : ((l.length : Int) == 0) = false := beq_ff (by omega)
  rw [if_neg (fun h => h0 (by rw [h]; rfl))] at hr
  obtain ⟨S, hS0, hSn, hSs, hSz⟩ := cat_steps valT 40 (⟨#[32, 40]⟩ ++ wrd) l fun v hv => valT_size v (hok v hv)
  rw [← hSn] at hr
  have hpz : (⟨#[32, 40]⟩ ++ wrd).size ≤ 12 := by rw [ByteArray.size_append]; show 2 + _ ≤ 12; omega
  simp only [↓reduceIte, Nat.reduceEqDiff, Nat.reduceAdd, Nat.reduceSub, Nat.reduceMul, Nat.reduceLT, Int.reduceToNat, Int.reduceBEq, Int.reduceBNe, Int.reduceLT, Int.reduceLE, E, E', TY, e0]
  refine ⟨i64ok_of (by omega) (by show (((2 + wrd.size : Nat)) : Int) ≤ _; omega), ?_⟩
  refine Res.loop (X := {k : Nat // k ≤ l.length})
    (fun z => { T := mkT 27 [(5, .v (.string (S z.1))), (13, .v (.slice A l.length c)), (14, .v (.int .i64 l.length)), (15, .v (.int .i64 (z.1 : Int)))], X := [], L := [], D := [] })
    (fun z => l.length - z.1) ⟨0, by omega⟩ (St.Le.of 0 (by simp only [↓reduceIte, Nat.reduceEqDiff, Nat.reduceAdd, Nat.reduceSub, Nat.reduceMul, Nat.reduceLT, Int.reduceToNat, Int.reduceBEq, Int.reduceBNe, Int.reduceLT, Int.reduceLE, E, E', TY, hS0]; rfl)) ?_
  rintro ⟨k, hk⟩
  simp only at hk ⊢
  refine Res.run 900 ?_
  have hzk := hSz k hk
  by_cases hlt : k < l.length
  case pos =>
    have e2 : decide ((k : Int) < (l.length : Int)) = true := by simp; omega
    obtain ⟨a0, a1, a2, a3, a4⟩ := vcs_at hA k hlt
    have hAs : A.isSome = true := okRd_some a0
    simp only [↓reduceIte, Nat.reduceEqDiff, Nat.reduceAdd, Nat.reduceSub, Nat.reduceMul, Nat.reduceLT, Int.reduceToNat, Int.reduceBEq, Int.reduceBNe, Int.reduceLT, Int.reduceLE, E, E', TY, e2, a1, a2, a3, a4, Int.toNat_natCast]
    refine ⟨⟨by omega, by omega, hAs⟩, a0, ?_⟩
    have hvz := valT_size l[k] (hok _ (List.getElem_mem hlt))
    refine ⟨fnok15, CallAt.pure #[l[k].v] (.string (valT l[k])) (fun _ => rfl) (fun w' hw' => m_ValText l[k] (hok _ (List.getElem_mem hlt)) (ht.ext hw')) (Res.run 900 ?_)⟩
    simp only [↓reduceIte, Nat.reduceEqDiff, Nat.reduceAdd, Nat.reduceSub, Nat.reduceMul, Nat.reduceLT, Int.reduceToNat, Int.reduceBEq, Int.reduceBNe, Int.reduceLT, Int.reduceLE, E, E', TY]
    refine ⟨i64ok_of (by omega) (by show (((1 + (valT l[k]).size : Nat)) : Int) ≤ _; omega), i64ok_of (by omega) (by rw [ByteArray.size_append]; show ((((S k).size + (1 + (valT l[k]).size) : Nat)) : Int) ≤ _; omega), i64ok_of (by omega) (by omega), ?_⟩
    refine Res.again (⟨k + 1, by omega⟩ : {k : Nat // k ≤ l.length}) (by simp only; omega) (St.Le.of 0 (by simp only [↓reduceIte, Nat.reduceEqDiff, Nat.reduceAdd, Nat.reduceSub, Nat.reduceMul, Nat.reduceLT, Int.reduceToNat, Int.reduceBEq, Int.reduceBNe, Int.reduceLT, Int.reduceLE, E, E', TY, hSs k hlt, Int.natCast_add, Int.cast_ofNat_Int]))
  obtain rfl : k = l.length := by omega
  have e2 : decide ((l.length : Int) < (l.length : Int)) = false := by simp
  simp only [↓reduceIte, Nat.reduceEqDiff, Nat.reduceAdd, Nat.reduceSub, Nat.reduceMul, Nat.reduceLT, Int.reduceToNat, Int.reduceBEq, Int.reduceBNe, Int.reduceLT, Int.reduceLE, E, E', TY, e2, hr]
  refine ⟨i64ok_of (by omega) (by show ((((S l.length).size + 1 : Nat)) : Int) ≤ _; omega), Ret.one rfl (by kernel_rfl)⟩

def headT (s : Sb) : ByteArray := if s.fin = true then ⟨#[40, 115, 117, 98]⟩ ++ ⟨#[32, 102, 105, 110, 97, 108]⟩ else ⟨#[40, 115, 117, 98]⟩
def midT (s : Sb) : ByteArray := (headT s ++ catG heapT s.su) ++ (if s.k = 2 then ⟨#[32, 40, 115, 116, 114, 117, 99, 116]⟩ else ⟨#[32, 40, 97, 114, 114, 97, 121]⟩)
def txtT (s : Sb) : ByteArray := if s.k = 1 then ((((headT s ++ catG heapT s.su) ++ ⟨#[32, 40, 102, 117, 110, 99]⟩) ++ lstT ⟨#[112, 97, 114, 97, 109]⟩ s.ps) ++ lstT ⟨#[114, 101, 115, 117, 108, 116]⟩ s.rs) ++ ⟨#[41, 41]⟩
  else (midT s ++ catG fldT s.fs) ++ ⟨#[41, 41]⟩
/-- The numbers are a machine's. -/
structure Sb.ok (s : Sb) : Prop where
  su : ∀ h ∈ s.su, i64ok h.n
  ps : ∀ v ∈ s.ps, v.k = 3 → i64ok v.h.n
  rs : ∀ v ∈ s.rs, v.k = 3 → i64ok v.h.n
  fs : ∀ f ∈ s.fs, f.ok
theorem headT_size (s : Sb) : (headT s).size ≤ 10 := by unfold headT; split <;> decide
theorem su_size (s : Sb) (h : s.ok) (hz : s.small 1100000) : (headT s ++ catG heapT s.su).size ≤ 30000000 := by
  have h1 := headT_size s
  have h2 := catG_size heapT 25 s.su fun v hv => heapT_size v (h.su v hv)
  have h3 := hz.su
  rw [ByteArray.size_append]; omega
theorem midT_size (s : Sb) (h : s.ok) (hz : s.small 1100000) : (midT s).size ≤ 30000010 := by
  have h1 := su_size s h hz
  unfold midT
  rw [ByteArray.size_append]
  split
  · show _ + 8 ≤ _; omega
  · show _ + 7 ≤ _; omega
theorem txtT_size (s : Sb) (h : s.ok) (hz : s.small 1100000) : (txtT s).size ≤ 200000000 := by
  have h1 := su_size s h hz
  have h2 := midT_size s h hz
  have h3 := lstT_size ⟨#[112, 97, 114, 97, 109]⟩ (by decide) s.ps h.ps hz.ps
  have h4 := lstT_size ⟨#[114, 101, 115, 117, 108, 116]⟩ (by decide) s.rs h.rs hz.rs
  have h5 := catG_size fldT 50 s.fs fun v hv => fldT_size v (h.fs v hv)
  have h6 := hz.fs
  unfold txtT
  split
  · rw [ByteArray.size_append, ByteArray.size_append, ByteArray.size_append, ByteArray.size_append]
    show _ + 6 + _ + _ + 2 ≤ _; omega
  · rw [ByteArray.size_append, ByteArray.size_append]
    show _ + 2 ≤ _; omega

theorem m_Text {w : World} (s : Sb) (x : SL) (hs : SbR (· < w.heap.size) w s x) (hok : s.ok) (hz : s.small 1100000) (ht : Tab w) :
    Calls Tryd.prog 12 #[s.v x] w fun e w' => e = .returned (.string (txtT s)) ∧ Ext w w' := by
  obtain ⟨r, hr⟩ : ∃ r, txtT s = r := ⟨_, rfl⟩
  rw [hr]
  unfold txtT at hr
  have hhz := headT_size s
  obtain ⟨S, hS0, hSn, hSs, hSz⟩ := cat_steps heapT 25 (headT s) s.su fun v hv => heapT_size v (hok.su v hv)
  have hzs := hz.su
  refine start0 (args := [.v (s.v x)]) (G := (· < w.heap.size)) Tryd.func12 rfl Tryd.ntmps12 (by simp [SV.lt]) (fun _ h => h) ?_
  refine Res.run 1000 ?_
  by_cases hfin : s.fin = true
  case' pos =>
    have e1 : headT s = ⟨#[40, 115, 117, 98]⟩ ++ ⟨#[32, 102, 105, 110, 97, 108]⟩ := by unfold headT; rw [hfin]; rfl
    simp only [↓reduceIte, Nat.reduceEqDiff, Nat.reduceAdd, Nat.reduceSub, Nat.reduceMul, Nat.reduceLT, Int.reduceToNat, Int.reduceBEq, Int.reduceBNe, Int.reduceLT, Int.reduceLE, E, E', TY, Sb.v, hfin]
    refine ⟨i64ok_of (by decide) (by decide), ?_⟩
    refine Res.loop (X := {k : Nat // k ≤ s.su.length})
      (fun z => { T := mkT 64 [(1, .p 0 0), (3, .v (.string (S z.1))), (14, .v (.slice x.a1 s.su.length x.c1)), (15, .v (.int .i64 s.su.length)), (16, .v (.int .i64 (z.1 : Int)))], X := [], L := [.cells 29 [.v (.bool s.fin), .v (.slice x.a1 s.su.length x.c1), .v (.int .i64 s.k), .v (.slice x.a2 s.ps.length x.c2), .v (.slice x.a3 s.rs.length x.c3), .v (.slice x.a4 s.fs.length x.c4)]], D := [] })
      (fun z => s.su.length - z.1) ⟨0, by omega⟩ (St.Le.of 1 (by simp only [↓reduceIte, Nat.reduceEqDiff, Nat.reduceAdd, Nat.reduceSub, Nat.reduceMul, Nat.reduceLT, Int.reduceToNat, Int.reduceBEq, Int.reduceBNe, Int.reduceLT, Int.reduceLE, E, E', TY, hS0, hfin, e1]; rfl)) ?_
  case' neg =>
    have hfin : s.fin = false := by simpa using hfin
    have e1 : headT s = ⟨#[40, 115, 117, 98]⟩ := by unfold headT; rw [hfin]; rfl
    simp only [↓reduceIte, Nat.reduceEqDiff, Nat.reduceAdd, Nat.reduceSub, Nat.reduceMul, Nat.reduceLT, Int.reduceToNat, Int.reduceBEq, Int.reduceBNe, Int.reduceLT, Int.reduceLE, E, E', TY, Sb.v, hfin]
    refine Res.loop (X := {k : Nat // k ≤ s.su.length})
      (fun z => { T := mkT 64 [(1, .p 0 0), (3, .v (.string (S z.1))), (14, .v (.slice x.a1 s.su.length x.c1)), (15, .v (.int .i64 s.su.length)), (16, .v (.int .i64 (z.1 : Int)))], X := [], L := [.cells 29 [.v (.bool s.fin), .v (.slice x.a1 s.su.length x.c1), .v (.int .i64 s.k), .v (.slice x.a2 s.ps.length x.c2), .v (.slice x.a3 s.rs.length x.c3), .v (.slice x.a4 s.fs.length x.c4)]], D := [] })
      (fun z => s.su.length - z.1) ⟨0, by omega⟩ (St.Le.of 1 (by simp only [↓reduceIte, Nat.reduceEqDiff, Nat.reduceAdd, Nat.reduceSub, Nat.reduceMul, Nat.reduceLT, Int.reduceToNat, Int.reduceBEq, Int.reduceBNe, Int.reduceLT, Int.reduceLE, E, E', TY, hS0, hfin, e1]; rfl)) ?_
  all_goals
    clear e1 hfin
    rintro ⟨k, hk⟩
    simp only at hk ⊢
    refine Res.run 900 ?_
    have hzk := hSz k hk
    by_cases hlt : k < s.su.length
    case pos =>
      have e2 : decide ((k : Int) < (s.su.length : Int)) = true := by simp; omega
      obtain ⟨a0, a1, a2⟩ := hcs_at hs.su k hlt
      have hAs : x.a1.isSome = true := okRd_some a0
      simp only [↓reduceIte, Nat.reduceEqDiff, Nat.reduceAdd, Nat.reduceSub, Nat.reduceMul, Nat.reduceLT, Int.reduceToNat, Int.reduceBEq, Int.reduceBNe, Int.reduceLT, Int.reduceLE, E, E', TY, e2, a1, a2, Int.toNat_natCast]
      refine ⟨⟨by omega, by omega, hAs⟩, a0, ?_⟩
      have hvz := heapT_size s.su[k] (hok.su _ (List.getElem_mem hlt))
      refine ⟨fnok43, CallAt.pure #[s.su[k].v] (.string (heapT s.su[k])) (fun _ => rfl) (fun w' hw' => m_heapText s.su[k] (hok.su _ (List.getElem_mem hlt)) (ht.ext hw')) (Res.run 900 ?_)⟩
      simp only [↓reduceIte, Nat.reduceEqDiff, Nat.reduceAdd, Nat.reduceSub, Nat.reduceMul, Nat.reduceLT, Int.reduceToNat, Int.reduceBEq, Int.reduceBNe, Int.reduceLT, Int.reduceLE, E, E', TY]
      refine ⟨i64ok_of (by omega) (by show (((1 + (heapT s.su[k]).size : Nat)) : Int) ≤ _; omega), i64ok_of (by omega) (by rw [ByteArray.size_append]; show ((((S k).size + (1 + (heapT s.su[k]).size) : Nat)) : Int) ≤ _; omega), i64ok_of (by omega) (by omega), ?_⟩
      refine Res.again (⟨k + 1, by omega⟩ : {k : Nat // k ≤ s.su.length}) (by simp only; omega) (St.Le.of 1 (by simp only [↓reduceIte, Nat.reduceEqDiff, Nat.reduceAdd, Nat.reduceSub, Nat.reduceMul, Nat.reduceLT, Int.reduceToNat, Int.reduceBEq, Int.reduceBNe, Int.reduceLT, Int.reduceLE, E, E', TY, hSs k hlt, Int.natCast_add, Int.cast_ofNat_Int]))
    obtain rfl : k = s.su.length := by omega
    have e2 : decide ((s.su.length : Int) < (s.su.length : Int)) = false := by simp
    by_cases h1 : s.k = 1
    case pos =>
      have e3 : (s.k == 1) = true := by simp [h1]
      rw [if_pos h1] at hr
      have hz4 := lstT_size ⟨#[112, 97, 114, 97, 109]⟩ (by decide) s.ps hok.ps hz.ps
      have hz5 := lstT_size ⟨#[114, 101, 115, 117, 108, 116]⟩ (by decide) s.rs hok.rs hz.rs
      rw [← hSn] at hr
      generalize hl1 : lstT ⟨#[112, 97, 114, 97, 109]⟩ s.ps = l1 at hr hz4
      generalize hl2 : lstT ⟨#[114, 101, 115, 117, 108, 116]⟩ s.rs = l2 at hr hz5
      simp only [↓reduceIte, Nat.reduceEqDiff, Nat.reduceAdd, Nat.reduceSub, Nat.reduceMul, Nat.reduceLT, Int.reduceToNat, Int.reduceBEq, Int.reduceBNe, Int.reduceLT, Int.reduceLE, E, E', TY, e2, e3]
      refine Res.quiet [.string l1, .string l2] (by kernel_rfl) (by kernel_rfl) ?_
      simp only [↓reduceIte, Nat.reduceEqDiff, Nat.reduceAdd, Nat.reduceSub, Nat.reduceMul, Nat.reduceLT, Int.reduceToNat, Int.reduceBEq, Int.reduceBNe, Int.reduceLT, Int.reduceLE, E, E', TY, hr, fnok44]
      refine ⟨i64ok_of (by omega) (by show ((((S s.su.length).size + 6 : Nat)) : Int) ≤ _; omega), fun new w' hs' => ?_, i64ok_of (by omega) (by rw [ByteArray.size_append]; show ((((S s.su.length).size + 6 + l1.size : Nat)) : Int) ≤ _; omega), fun new w' hs' => ?_, i64ok_of (by omega) (by rw [ByteArray.size_append, ByteArray.size_append]; show ((((S s.su.length).size + 6 + l1.size + l2.size : Nat)) : Int) ≤ _; omega), i64ok_of (by omega) (by rw [ByteArray.size_append, ByteArray.size_append, ByteArray.size_append]; show ((((S s.su.length).size + 6 + l1.size + l2.size + 2 : Nat)) : Int) ≤ _; omega), Res.run 900 ?_⟩
      · rw [← hl1]
        exact m_list _ (by decide) x.a2 x.c2 s.ps (hs.ps.ext hs'.ext) hok.ps hz.ps (ht.ext hs'.ext)
      · rw [← hl2]
        exact m_list _ (by decide) x.a3 x.c3 s.rs (hs.rs.ext hs'.ext) hok.rs hz.rs (ht.ext hs'.ext)
      simp only [↓reduceIte, Nat.reduceEqDiff, Nat.reduceAdd, Nat.reduceSub, Nat.reduceMul, Nat.reduceLT, Int.reduceToNat, Int.reduceBEq, Int.reduceBNe, Int.reduceLT, Int.reduceLE, E, E', TY]
      exact Ret.one rfl (by kernel_rfl)
    have e3 : (s.k == 1) = false := beq_ff h1
    rw [if_neg h1] at hr
    have hmz := midT_size s hok hz
    obtain ⟨F, hF0, hFn, hFs, hFz⟩ := cat_steps fldT 50 (midT s) s.fs fun v hv => fldT_size v (hok.fs v hv)
    have hzf := hz.fs
    rw [← hFn] at hr
    by_cases h2 : s.k = 2
    case' pos =>
      have e4 : (s.k == 2) = true := by simp [h2]
      have e5 : midT s = S s.su.length ++ ⟨#[32, 40, 115, 116, 114, 117, 99, 116]⟩ := by unfold midT; rw [hSn, if_pos h2]
      simp only [↓reduceIte, Nat.reduceEqDiff, Nat.reduceAdd, Nat.reduceSub, Nat.reduceMul, Nat.reduceLT, Int.reduceToNat, Int.reduceBEq, Int.reduceBNe, Int.reduceLT, Int.reduceLE, E, E', TY, e2, e3, e4]
      refine ⟨i64ok_of (by omega) (by show ((((S s.su.length).size + 8 : Nat)) : Int) ≤ _; omega), ?_⟩
    case' neg =>
      have e4 : (s.k == 2) = false := beq_ff h2
      have e5 : midT s = S s.su.length ++ ⟨#[32, 40, 97, 114, 114, 97, 121]⟩ := by unfold midT; rw [hSn, if_neg h2]
      simp only [↓reduceIte, Nat.reduceEqDiff, Nat.reduceAdd, Nat.reduceSub, Nat.reduceMul, Nat.reduceLT, Int.reduceToNat, Int.reduceBEq, Int.reduceBNe, Int.reduceLT, Int.reduceLE, E, E', TY, e2, e3, e4]
      refine ⟨i64ok_of (by omega) (by show ((((S s.su.length).size + 7 : Nat)) : Int) ≤ _; omega), ?_⟩
    all_goals
      refine Res.loop (X := {k : Nat // k ≤ s.fs.length})
        (fun z => { T := mkT 64 [(1, .p 0 0), (3, .v (.string (F z.1))), (50, .v (.slice x.a4 s.fs.length x.c4)), (51, .v (.int .i64 s.fs.length)), (52, .v (.int .i64 (z.1 : Int)))], X := [], L := [.cells 29 [.v (.bool s.fin), .v (.slice x.a1 s.su.length x.c1), .v (.int .i64 s.k), .v (.slice x.a2 s.ps.length x.c2), .v (.slice x.a3 s.rs.length x.c3), .v (.slice x.a4 s.fs.length x.c4)]], D := [] })
        (fun z => s.fs.length - z.1) ⟨0, by omega⟩ (St.Le.of 1 (by simp only [↓reduceIte, Nat.reduceEqDiff, Nat.reduceAdd, Nat.reduceSub, Nat.reduceMul, Nat.reduceLT, Int.reduceToNat, Int.reduceBEq, Int.reduceBNe, Int.reduceLT, Int.reduceLE, E, E', TY, hF0, e5]; rfl)) ?_
      clear e5
      rintro ⟨k, hk⟩
      simp only at hk ⊢
      refine Res.run 900 ?_
      have hzk := hFz k hk
      by_cases hlt : k < s.fs.length
      case pos =>
        have e2 : decide ((k : Int) < (s.fs.length : Int)) = true := by simp; omega
        obtain ⟨a0, a1, a2, a3, a4, a5, a6⟩ := fcs_at hs.fs k hlt
        have hAs : x.a4.isSome = true := okRd_some a0
        simp only [↓reduceIte, Nat.reduceEqDiff, Nat.reduceAdd, Nat.reduceSub, Nat.reduceMul, Nat.reduceLT, Int.reduceToNat, Int.reduceBEq, Int.reduceBNe, Int.reduceLT, Int.reduceLE, E, E', TY, e2, a1, a2, a3, a4, a5, a6, Int.toNat_natCast]
        refine ⟨⟨by omega, by omega, hAs⟩, a0, ?_⟩
        have hvz := fldT_size s.fs[k] (hok.fs _ (List.getElem_mem hlt))
        refine ⟨fnok45, CallAt.pure #[s.fs[k].v] (.string (fldT s.fs[k])) (fun _ => rfl) (fun w' hw' => m_fieldText s.fs[k] (hok.fs _ (List.getElem_mem hlt)) (ht.ext hw')) (Res.run 900 ?_)⟩
        simp only [↓reduceIte, Nat.reduceEqDiff, Nat.reduceAdd, Nat.reduceSub, Nat.reduceMul, Nat.reduceLT, Int.reduceToNat, Int.reduceBEq, Int.reduceBNe, Int.reduceLT, Int.reduceLE, E, E', TY]
        refine ⟨i64ok_of (by omega) (by show (((1 + (fldT s.fs[k]).size : Nat)) : Int) ≤ _; omega), i64ok_of (by omega) (by rw [ByteArray.size_append]; show ((((F k).size + (1 + (fldT s.fs[k]).size) : Nat)) : Int) ≤ _; omega), i64ok_of (by omega) (by omega), ?_⟩
        refine Res.again (⟨k + 1, by omega⟩ : {k : Nat // k ≤ s.fs.length}) (by simp only; omega) (St.Le.of 1 (by simp only [↓reduceIte, Nat.reduceEqDiff, Nat.reduceAdd, Nat.reduceSub, Nat.reduceMul, Nat.reduceLT, Int.reduceToNat, Int.reduceBEq, Int.reduceBNe, Int.reduceLT, Int.reduceLE, E, E', TY, hFs k hlt, Int.natCast_add, Int.cast_ofNat_Int]))
      obtain rfl : k = s.fs.length := by omega
      have e2 : decide ((s.fs.length : Int) < (s.fs.length : Int)) = false := by simp
      simp only [↓reduceIte, Nat.reduceEqDiff, Nat.reduceAdd, Nat.reduceSub, Nat.reduceMul, Nat.reduceLT, Int.reduceToNat, Int.reduceBEq, Int.reduceBNe, Int.reduceLT, Int.reduceLE, E, E', TY, e2, hr]
      exact ⟨i64ok_of (by omega) (by show ((((F s.fs.length).size + 2 : Nat)) : Int) ≤ _; omega), Ret.one rfl (by kernel_rfl)⟩
end Go.Proofs.YtkcbmkoafmffoaaDoor
