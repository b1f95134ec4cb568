import Derived.Test.YtmiebhjpdmokoaaGreatDoorProg
import GoSem.ClaimDataLaid
import Derived.KernelRfl
set_option linter.all false
namespace Go.Bx
open Go Go.Proofs
set_option maxRecDepth 100000
/-- The rows of the table from 40 i on. -/
def rowsFrom (P : Program) (i : Nat) : Bool := (List.range' (40 * i) 40).all (rowFine P)
theorem rows_of {P : Program} {n : Nat} (h : ∀ i, i < n → rowsFrom P i = true) (hn : P.types.size ≤ 40 * n) : (List.range P.types.size).all (rowFine P) = true := by
  rw [List.all_eq_true]
  intro t ht
  rw [List.mem_range] at ht
  have := h (t / 40) (by omega)
  unfold rowsFrom at this
  rw [List.all_eq_true] at this
  refine this t ?_
  rw [List.mem_range'_1]
  omega
theorem rows0 : rowsFrom Tryz.prog 0 = true := by kernel_rfl
theorem rows1 : rowsFrom Tryz.prog 1 = true := by kernel_rfl
theorem rows2 : rowsFrom Tryz.prog 2 = true := by kernel_rfl
theorem rows3 : rowsFrom Tryz.prog 3 = true := by kernel_rfl
theorem rows4 : rowsFrom Tryz.prog 4 = true := by kernel_rfl
theorem rows5 : rowsFrom Tryz.prog 5 = true := by kernel_rfl
theorem rows6 : rowsFrom Tryz.prog 6 = true := by kernel_rfl
theorem rows7 : rowsFrom Tryz.prog 7 = true := by kernel_rfl
theorem rows8 : rowsFrom Tryz.prog 8 = true := by kernel_rfl
theorem rows9 : rowsFrom Tryz.prog 9 = true := by kernel_rfl
theorem rows10 : rowsFrom Tryz.prog 10 = true := by kernel_rfl
theorem rows11 : rowsFrom Tryz.prog 11 = true := by kernel_rfl
theorem rows12 : rowsFrom Tryz.prog 12 = true := by kernel_rfl
theorem rows13 : rowsFrom Tryz.prog 13 = true := by kernel_rfl
theorem rows14 : rowsFrom Tryz.prog 14 = true := by kernel_rfl
theorem rows15 : rowsFrom Tryz.prog 15 = true := by kernel_rfl
theorem rows16 : rowsFrom Tryz.prog 16 = true := by kernel_rfl
theorem rows17 : rowsFrom Tryz.prog 17 = true := by kernel_rfl
theorem rowsAll : ∀ i, i < 18 → rowsFrom Tryz.prog i = true
  | 0, _ => rows0
  | 1, _ => rows1
  | 2, _ => rows2
  | 3, _ => rows3
  | 4, _ => rows4
  | 5, _ => rows5
  | 6, _ => rows6
  | 7, _ => rows7
  | 8, _ => rows8
  | 9, _ => rows9
  | 10, _ => rows10
  | 11, _ => rows11
  | 12, _ => rows12
  | 13, _ => rows13
  | 14, _ => rows14
  | 15, _ => rows15
  | 16, _ => rows16
  | 17, _ => rows17
  | k + 18, h => absurd h (by omega)
theorem laidGlobals : Tryz.prog.globals.all (fun g => decide (g.type < Tryz.prog.types.size)) = true := by kernel_rfl
theorem laidFuncs : (Tryz.prog.funcs.all fun f => f.params.all fun t => decide (t < Tryz.prog.types.size)) = true := by kernel_rfl
theorem laidOut : laidOutB Tryz.prog = true := by
  unfold laidOutB
  rw [rows_of rowsAll (by decide +kernel), laidGlobals, laidFuncs]
  rfl
end Go.Bx
