/- The struct types as Lean's own. -/
import Derived.Test.YtgkiegplmohgkaaProg
import Derived.Test.YtgkiegplmohgkaaK6
set_option linter.unusedVariables false
set_option linter.unusedSimpArgs false
namespace Go.Proofs.Ytgkiegplmohgkaa.K
open Go Go.RowKit Go.ChangeShapes Go.WideShapes Go.ChangeAt
theorem cut2 {cs : List Value} (h : cs.length = 2) : ∃ c0 c1, cs = [c0, c1] := by
  match cs, h with
  | [c0, c1], _ => exact ⟨_, _, rfl⟩
theorem cut4 {cs : List Value} (h : cs.length = 4) : ∃ c0 c1 c2 c3, cs = [c0, c1, c2, c3] := by
  match cs, h with
  | [c0, c1, c2, c3], _ => exact ⟨_, _, _, _, rfl⟩
structure TAct where
  Do : Int
  N : Int
  V : Nat
  B : (Sls UInt8)
structure TAct.Ok (lo hi : Nat) (w : World) (a : TAct) : Prop where
  Do : Dat.ok lo hi w a.Do
  N : Dat.ok lo hi w a.N
  V : Dat.ok lo hi w a.V
  B : Dat.ok lo hi w a.B
instance : Dat TAct where
  cells a := [.int .i64 a.Do, .int .i64 a.N, .int .u64 (a.V : Int), .slice a.B.A a.B.l.length a.B.c]
  sz := 4
  ok lo hi w a := a.Ok lo hi w
  len _ := rfl
  kp h hk hs := ⟨Dat.kp h.Do hk hs, Dat.kp h.N hk hs, Dat.kp h.V hk hs, Dat.kp h.B hk hs⟩
  mono h h1 h2 := ⟨Dat.mono h.Do h1 h2, Dat.mono h.N h1 h2, Dat.mono h.V h1 h2, Dat.mono h.B h1 h2⟩
  old h := ⟨Dat.old h.Do, Dat.old h.N, Dat.old h.V, Dat.old h.B⟩
  one a u h := by
    simp only [List.mem_cons, List.mem_nil_iff, or_false] at h
    rcases h with rfl | rfl | rfl | rfl <;> rfl
theorem op_TAct : Op Try.prog 56 TAct := by
  intro H enc W fuel cs x h
  obtain ⟨xs, n, _, _, hl0, hxl, hf⟩ := DataW.trod_struct Try.underlying56 h
  have hl : cs.length = 4 := hl0.trans (by kernel_rfl)
  clear h hl0
  obtain ⟨c0, c1, c2, c3, rfl⟩ := cut4 hl
  have g0 : DataW.trod enc Try.prog W 0 (fun _ => true) true n 3 (([c0, c1, c2, c3].drop 0).take (Try.prog.cellsOf 3)) = xs[0]? := hf 0 _ rfl
  rw [show Try.prog.cellsOf 3 = 1 from by kernel_rfl] at g0
  have hi0 : 0 < xs.length := by rw [hxl]; decide
  rw [List.getElem?_eq_getElem hi0] at g0
  obtain ⟨a0, e0, k0⟩ := (op_i64 Try.underlying3) H enc W n [c0] _ g0
  have g1 : DataW.trod enc Try.prog W 0 (fun _ => true) true n 3 (([c0, c1, c2, c3].drop 1).take (Try.prog.cellsOf 3)) = xs[1]? := hf 1 _ rfl
  rw [show Try.prog.cellsOf 3 = 1 from by kernel_rfl] at g1
  have hi1 : 1 < xs.length := by rw [hxl]; decide
  rw [List.getElem?_eq_getElem hi1] at g1
  obtain ⟨a1, e1, k1⟩ := (op_i64 Try.underlying3) H enc W n [c1] _ g1
  have g2 : DataW.trod enc Try.prog W 0 (fun _ => true) true n 24 (([c0, c1, c2, c3].drop 2).take (Try.prog.cellsOf 24)) = xs[2]? := hf 2 _ rfl
  rw [show Try.prog.cellsOf 24 = 1 from by kernel_rfl] at g2
  have hi2 : 2 < xs.length := by rw [hxl]; decide
  rw [List.getElem?_eq_getElem hi2] at g2
  obtain ⟨a2, e2, k2⟩ := (op_u64 Try.underlying24) H enc W n [c2] _ g2
  have g3 : DataW.trod enc Try.prog W 0 (fun _ => true) true n 22 (([c0, c1, c2, c3].drop 3).take (Try.prog.cellsOf 22)) = xs[3]? := hf 3 _ rfl
  rw [show Try.prog.cellsOf 22 = 1 from by kernel_rfl] at g3
  have hi3 : 3 < xs.length := by rw [hxl]; decide
  rw [List.getElem?_eq_getElem hi3] at g3
  obtain ⟨a3, e3, k3⟩ := (op_slice Try.underlying22 (by kernel_rfl) (by decide) (op_u8 Try.underlying5)) H enc W n [c3] _ g3
  refine ⟨⟨a0, a1, a2, a3⟩, ?_, ⟨k0, k1, k2, k3⟩⟩
  simp only [Dat.cells, List.cons.injEq, and_true] at e0 e1 e2 e3
  subst e0 e1 e2 e3
  rfl
structure TKid where
  Name : (List UInt8)
  Ino : Int
structure TKid.Ok (lo hi : Nat) (w : World) (a : TKid) : Prop where
  Name : Dat.ok lo hi w a.Name
  Ino : Dat.ok lo hi w a.Ino
instance : Dat TKid where
  cells a := [.string ⟨a.Name.toArray⟩, .int .i64 a.Ino]
  sz := 2
  ok lo hi w a := a.Ok lo hi w
  len _ := rfl
  kp h hk hs := ⟨Dat.kp h.Name hk hs, Dat.kp h.Ino hk hs⟩
  mono h h1 h2 := ⟨Dat.mono h.Name h1 h2, Dat.mono h.Ino h1 h2⟩
  old h := ⟨Dat.old h.Name, Dat.old h.Ino⟩
  one a u h := by
    simp only [List.mem_cons, List.mem_nil_iff, or_false] at h
    rcases h with rfl | rfl <;> rfl
theorem op_TKid : Op Try.prog 48 TKid := by
  intro H enc W fuel cs x h
  obtain ⟨xs, n, _, _, hl0, hxl, hf⟩ := DataW.trod_struct Try.underlying48 h
  have hl : cs.length = 2 := hl0.trans (by kernel_rfl)
  clear h hl0
  obtain ⟨c0, c1, rfl⟩ := cut2 hl
  have g0 : DataW.trod enc Try.prog W 0 (fun _ => true) true n 9 (([c0, c1].drop 0).take (Try.prog.cellsOf 9)) = xs[0]? := hf 0 _ rfl
  rw [show Try.prog.cellsOf 9 = 1 from by kernel_rfl] at g0
  have hi0 : 0 < xs.length := by rw [hxl]; decide
  rw [List.getElem?_eq_getElem hi0] at g0
  obtain ⟨a0, e0, k0⟩ := (op_str Try.underlying9) H enc W n [c0] _ g0
  have g1 : DataW.trod enc Try.prog W 0 (fun _ => true) true n 3 (([c0, c1].drop 1).take (Try.prog.cellsOf 3)) = xs[1]? := hf 1 _ rfl
  rw [show Try.prog.cellsOf 3 = 1 from by kernel_rfl] at g1
  have hi1 : 1 < xs.length := by rw [hxl]; decide
  rw [List.getElem?_eq_getElem hi1] at g1
  obtain ⟨a1, e1, k1⟩ := (op_i64 Try.underlying3) H enc W n [c1] _ g1
  refine ⟨⟨a0, a1⟩, ?_, ⟨k0, k1⟩⟩
  simp only [Dat.cells, List.cons.injEq, and_true] at e0 e1
  subst e0 e1
  rfl
end Go.Proofs.Ytgkiegplmohgkaa.K
