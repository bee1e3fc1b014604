/-
  strings.Join at this dump: the library's contract, which is proved once, laid at the dump's numbers. (The table of numbers and the comparisons are as the kit's command prints them.)
-/
import Derived.Shelf.Strings.OnBuilder
import Derived.Test.YtkcbmkoafmffoaaDoorKA
set_option linter.unusedVariables false
namespace Go.Proofs.YtkcbmkoafmffoaaDoor
open Go Go.Eng Go.Shelf Go.RowKit
def laysJoin_ren : Go.Shelf.Ren := ⟨fun | 156 => 54 | 165 => 77 | 166 => 78 | 169 => 79 | 240 => 83 | 241 => 84 | 276 => 87 | 277 => 88 | n => n, fun | 31 => 100 | 9 => 9 | 3 => 3 | 4 => 4 | 0 => 0 | 20 => 20 | 72 => 124 | 76 => 128 | 70 => 121 | 37 => 122 | 75 => 127 | 127 => 132 | 164 => 135 | 5 => 5 | 80 => 130 | n => n, fun | n => n⟩
theorem laysJoin : Go.Proofs.Lays.n156 Tryd.prog laysJoin_ren where
  mixed := by kernel_rfl
  f156 := Tryd.func54.trans (congrArg some (by kernel_rfl))
  f165 := Tryd.func77.trans (congrArg some (by kernel_rfl))
  f166 := Tryd.func78.trans (congrArg some (by kernel_rfl))
  f169 := Tryd.func79.trans (congrArg some (by kernel_rfl))
  f240 := Tryd.func83.trans (congrArg some (by kernel_rfl))
  f241 := Tryd.func84.trans (congrArg some (by kernel_rfl))
  f276 := Tryd.func87.trans (congrArg some (by kernel_rfl))
  f277 := Tryd.func88.trans (congrArg some (by kernel_rfl))
  t0 := Tryd.underlying0
  a0 := Tryd.isAgg0
  z0 := Tryd.sizeOf0
  v0 := Tryd.zeroValue0
  t3 := Tryd.underlying3
  a3 := Tryd.isAgg3
  z3 := Tryd.sizeOf3
  v3 := Tryd.zeroValue3
  t4 := Tryd.underlying4
  a4 := Tryd.isAgg4
  z4 := Tryd.sizeOf4
  v4 := Tryd.zeroValue4
  t9 := Tryd.underlying9
  a9 := Tryd.isAgg9
  z9 := Tryd.sizeOf9
  v9 := Tryd.zeroValue9
  t20 := Tryd.underlying20
  a20 := Tryd.isAgg20
  z20 := Tryd.sizeOf20
  v20 := Tryd.zeroValue20
  t31 := Tryd.underlying100
  a31 := Tryd.isAgg100
  z31 := Tryd.sizeOf100
  v31 := Tryd.zeroValue100
  t37 := Tryd.underlying122
  a37 := Tryd.isAgg122
  z37 := Tryd.sizeOf122
  v37 := Tryd.zeroValue122
  t70 := Tryd.underlying121
  a70 := Tryd.isAgg121
  z70 := Tryd.sizeOf121
  v70 := Tryd.zeroValue121
  t72 := Tryd.underlying124
  a72 := Tryd.isAgg124
  z72 := Tryd.sizeOf124
  v72 := Tryd.zeroValue124
  t75 := Tryd.underlying127
  a75 := Tryd.isAgg127
  z75 := Tryd.sizeOf127
  v75 := Tryd.zeroValue127
  t76 := Tryd.underlying128
  a76 := Tryd.isAgg128
  z76 := Tryd.sizeOf128
  v76 := Tryd.zeroValue128
  t127 := Tryd.underlying132
  a127 := Tryd.isAgg132
  z127 := Tryd.sizeOf132
  v127 := Tryd.zeroValue132
  t164 := Tryd.underlying135
  a164 := Tryd.isAgg135
  z164 := Tryd.sizeOf135
  v164 := Tryd.zeroValue135
theorem joinExtra : Builder.Extra Tryd.prog laysJoin_ren where
  sizeBuilder := by kernel_rfl
  liesBuilder := by kernel_rfl
  t5 := Tryd.underlying5
  a5 := Tryd.isAgg5
  z5 := Tryd.sizeOf5
  v5 := Tryd.zeroValue5
  infoByte := by kernel_rfl
  cellsByte := by kernel_rfl
  sizeByte := by kernel_rfl
  neB5 := by decide

/-- One behind the other. -/
def catB : List ByteArray → ByteArray
  | [] => ⟨#[]⟩
  | x :: l => x ++ catB l
theorem join_nil (l : List (List UInt8)) : Lib.join l [] = l.flatten := by
  have h : ∀ l : List (List UInt8), (List.intersperse [] l).flatten = l.flatten := by
    intro l
    induction l with
    | nil => rfl
    | cons x l ih =>
      cases l with
      | nil => rfl
      | cons y l => simp_all [List.intersperse]
  exact h l
theorem catB_join (l : List ByteArray) : (⟨(Lib.join (l.map (·.data.toList)) (⟨#[]⟩ : ByteArray).data.toList).toArray⟩ : ByteArray) = catB l := by
  show (⟨(Lib.join (l.map (·.data.toList)) []).toArray⟩ : ByteArray) = _
  rw [join_nil]
  induction l with
  | nil => rfl
  | cons x l ih =>
    rw [catB, ← ih]
    apply ByteArray.ext
    apply Array.ext'
    simp [ByteArray.data_append]
theorem catB_size (l : List ByteArray) (B : Nat) (h : ∀ x ∈ l, x.size ≤ B) : (catB l).size ≤ l.length * B := by
  induction l with
  | nil => simp [catB, ByteArray.size]
  | cons x l ih =>
    have h1 := ih fun y hy => h y (List.mem_cons_of_mem _ hy)
    have h2 := h x List.mem_cons_self
    rw [catB, ByteArray.size_append, List.length_cons, Nat.add_mul]
    omega

theorem m_Join {w : World} (b c : Nat) (nl : Bool) (l : List ByteArray) (h : Cs (· < w.heap.size) w (sA nl b 0) (l.map Value.string)) (hn : nl = true → l = []) (hc : l.length ≤ c) (hN : l.length ≤ 140737488355328) (hz : (catB l).size ≤ 140737488355328) :
    Calls Tryd.prog 54 #[.slice (sA nl b 0) l.length c, .string ⟨#[]⟩] w fun e w' => e = .returned (.string (catB l)) ∧ Ext w w' := by
  have hB : ∀ w', Below w.heap.size w w' → Ext w w' := fun w' hb => ⟨hb.os, hb.tape, hb.output, hb.size, fun k hk => hb.block k hk⟩
  cases nl with
  | true =>
    obtain rfl := hn rfl
    refine (Any.strings_Join_none laysJoin joinExtra _ c ⟨#[]⟩ w).mono ?_
    rintro e w' ⟨rfl, rfl⟩
    exact ⟨rfl, ⟨rfl, rfl, rfl, Nat.le_refl _, fun _ _ => rfl⟩⟩
  | false =>
    by_cases h0 : l = []
    · subst h0
      refine (Any.strings_Join_none laysJoin joinExtra _ c ⟨#[]⟩ w).mono ?_
      rintro e w' ⟨rfl, rfl⟩
      exact ⟨rfl, ⟨rfl, rfl, rfl, Nat.le_refl _, fun _ _ => rfl⟩⟩
    rcases h with h | ⟨⟨ad, h1, hb, h3⟩, h4⟩
    · exact absurd (by simpa using h) h0
    have h1 : (⟨b, 0, none⟩ : Addr) = ad := Option.some.inj h1
    subst h1
    have hcells : ∀ (j : Nat) x, l[j]? = some x → w.cell? ⟨b, 0 + j, none⟩ = some (.string x) := by
      intro j x hx
      have hj : j < (l.map Value.string).length := by simpa using (List.getElem?_eq_some_iff.1 hx).1
      have h5 := h3 j hj
      have h6 := h4 j (.string x) (by rw [List.getElem?_map, hx]; rfl)
      have e : (⟨b, 0, none⟩ : Addr).add j = ⟨b, 0 + j, none⟩ := by simp [Addr.add]; omega
      rw [Nat.zero_add] at h5
      rw [e] at h5
      have h6 : (w.cell? ((⟨b, 0, none⟩ : Addr).add j)).getD undef = .string x := h6
      rw [e] at h6
      cases hq : w.cell? ⟨b, 0 + j, none⟩ with
      | none => rw [hq] at h5; cases h5
      | some v => rw [hq] at h6; simpa using h6
    have hl : (Lib.join (l.map (·.data.toList)) (⟨#[]⟩ : ByteArray).data.toList).length ≤ 140737488355328 := by
      have : (Lib.join (l.map (·.data.toList)) (⟨#[]⟩ : ByteArray).data.toList).toArray.size = (catB l).size := by rw [← catB_join]; rfl
      rw [List.size_toArray] at this
      rw [this]; exact hz
    refine (Any.strings_Join laysJoin joinExtra b 0 c l ⟨#[]⟩ w hcells hb hN hc hl).mono ?_
    rintro e w' ⟨rfl, hw⟩
    exact ⟨by rw [catB_join], hB _ hw⟩
end Go.Proofs.YtkcbmkoafmffoaaDoor
