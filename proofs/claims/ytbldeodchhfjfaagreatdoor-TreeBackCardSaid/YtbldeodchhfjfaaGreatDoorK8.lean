/- Strings: the first place of a byte; names. -/
import Derived.Test.YtbldeodchhfjfaaGreatDoorK7
import Derived.Lib.Bytealg
import Derived.Lib.IndexLaws
import Derived.Laws.Externs
set_option linter.unusedVariables false
set_option linter.unusedSimpArgs false
set_option linter.unusedSectionVars false
namespace Go.Proofs.YtbldeodchhfjfaaGreatDoor.K
open Go Go.RowKit Go.Op

section
variable {P : Program} {B : Code} {n : Cx} {p : List Nat} {i : Nat} {κ : Kn} {w : World} {Z : Kn → World → Prop}
/-- internal/bytealg.IndexByteString, an entry. -/
theorem ixbR (d : Option Nat) (f : FuncId) {fn : Func} (l : List UInt8) (c : Int) (hf : P.funcs[f]? = some fn) (hname : (fn.name == "runtime.NumGoroutine") = false) (hb : fn.body.isNone = true) (hn : Extern.findNext fn = none) (he : Extern.find fn = some Extern.BytealgIndexByte.indexByte)
    (ho : fetch B n p i κ = some (d, callFunc f #[.string ⟨l.toArray⟩, .int .u8 c])) (hk : Z (putk d (.int .i64 (Lib.indexByte l c.toNat.toUInt8)) κ) w) : Step P B n p i κ w Z := by
  refine runR ho (v := .int .i64 (Lib.indexByte l c.toNat.toUInt8)) ?_ hk
  rw [run_callFunc_extern hf hname hb hn he, Lib.run_indexByteString]
  rfl
end

/-- A name. -/
def nameB (l : List UInt8) : Bool := decide (1 ≤ l.length) && decide (l.length ≤ 255) && !(l == [46]) && !(l == [46, 46]) && !(l.contains 47) && !(l.contains 0)
theorem ixb_none (l : List UInt8) (c : UInt8) : decide (Lib.indexByte l c < 0) = !(l.contains c) := by
  induction l with
  | nil => rfl
  | cons b l ih =>
    have hge := Lib.indexByte_ge l c
    rw [List.contains_cons, Lib.indexByte]
    by_cases h : (b == c) = true
    · rw [if_pos h]
      have : (c == b) = true := by rw [beq_iff_eq] at h ⊢; exact h.symm
      rw [this]
      rfl
    · rw [if_neg h]
      have hcb : (c == b) = false := by
        cases hx : (c == b) with
        | false => rfl
        | true => exact absurd (by rw [beq_iff_eq] at hx ⊢; exact hx.symm) h
      rw [hcb, Bool.false_or, ← ih]
      by_cases h2 : Lib.indexByte l c = -1
      · simp [h2]
      · have h3 : (Lib.indexByte l c == -1) = false := by simpa using h2
        rw [h3]
        simp only [Bool.false_eq_true, if_false]
        rw [Bool.eq_iff_iff, decide_eq_true_eq, decide_eq_true_eq]
        omega
theorem contains_take_succ (l : List UInt8) (i : Nat) (h : i < l.length) (c : UInt8) : (l.take (i + 1)).contains c = ((l.take i).contains c || (l.getD i 0 == c)) := by
  rw [Bool.eq_iff_iff, List.getD_eq_getElem?_getD, List.getElem?_eq_getElem h]
  simp only [List.contains_iff_mem, Bool.or_eq_true, beq_iff_eq, Option.getD_some]
  rw [List.take_add_one, List.getElem?_eq_getElem h]
  simp only [Option.toList_some, List.mem_append, List.mem_singleton]
  exact ⟨fun hh => hh.elim .inl (fun e => .inr e.symm), fun hh => hh.elim .inl (fun e => .inr e.symm)⟩
def ltB (l m : List UInt8) : Bool := bytesLess l m
def leB (l m : List UInt8) : Bool := bytesLess l m || l == m
def gtB (l m : List UInt8) : Bool := !(bytesLess l m || l == m)
def geB (l m : List UInt8) : Bool := !bytesLess l m
theorem ltB_raw (l m : List UInt8) : bytesLess (ByteArray.toList ⟨l.toArray⟩) (ByteArray.toList ⟨m.toArray⟩) = ltB l m := by rw [toList_data, toList_data]; rfl
theorem leB_raw (l m : List UInt8) : (bytesLess (ByteArray.toList ⟨l.toArray⟩) (ByteArray.toList ⟨m.toArray⟩) || ByteArray.toList ⟨l.toArray⟩ == ByteArray.toList ⟨m.toArray⟩) = leB l m := by rw [toList_data, toList_data]; rfl
theorem gtB_raw (l m : List UInt8) : (!(bytesLess (ByteArray.toList ⟨l.toArray⟩) (ByteArray.toList ⟨m.toArray⟩) || ByteArray.toList ⟨l.toArray⟩ == ByteArray.toList ⟨m.toArray⟩)) = gtB l m := by rw [toList_data, toList_data]; rfl
theorem geB_raw (l m : List UInt8) : (!bytesLess (ByteArray.toList ⟨l.toArray⟩) (ByteArray.toList ⟨m.toArray⟩)) = geB l m := by rw [toList_data, toList_data]; rfl
theorem leB_nil {l : List UInt8} (h : l ≠ []) : leB l [] = false := by
  cases l with
  | nil => exact absurd rfl h
  | cons b l => simp [leB, bytesLess]
end Go.Proofs.YtbldeodchhfjfaaGreatDoor.K
