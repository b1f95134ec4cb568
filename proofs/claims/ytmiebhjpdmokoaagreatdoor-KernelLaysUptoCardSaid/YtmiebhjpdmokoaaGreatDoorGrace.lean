import Derived.Test.YtmiebhjpdmokoaaGreatDoorProg
import Derived.Test.YtmiebhjpdmokoaaGreatDoorBx20
import Derived.WalkKit
import Derived.ProofKit
import Derived.Outline
import Derived.Lib.Hide
set_option linter.all false
namespace Go.Bx
open Go Go.RowKit Go.Proofs
variable [Valn]
theorem funcGrace : Tryz.prog.funcs[91]? = some Tryz.f91 := by kernel_rfl
theorem ntmpsGrace : Tryz.f91.ntmps = 25 := by kernel_rfl
theorem undMem : Tryz.prog.underlying 152 = some (.map 3 198) := by kernel_rfl

def seenOf (w : World) (it : Nat) : Array Nat := match w.heap[it]? with | some (.mapIter _ _ s _) => s | _ => #[]

set_option maxRecDepth 100000 in
theorem grace_none (w : World) (mb mo r : Nat) (ES : Array MapEntry) (clock : Nat) (h1 : w.cell? ⟨mb, mo, none⟩ = some (.map (some r))) (h2 : w.heap[r]? = some (.map ES clock))
    (hb : ∀ e ∈ ES, e.born < clock) (hv : ∀ e ∈ ES, ∃ rb ro, e.val = .pointer (some ⟨rb, ro, none⟩) ∧ w.cell? ⟨rb, ro + 2, none⟩ = some (.bool false)) :
    Calls Tryz.prog 91 #[.pointer (some ⟨mb, mo, none⟩)] w fun e w' => e = .returned (.tuple #[]) ∧ Below w.heap.size w w' := by
  have hr := run_range_map (P := Tryz.prog) undMem h2
  have hrw : r < w.heap.size := (Array.getElem?_eq_some_iff.1 h2).1
  have HB := Lib.hid hb
  have HV := Lib.hid hv
  have H2 := Lib.hid h2
  clear hb hv h2
  go_enter funcGrace, ntmpsGrace
  go_wp2
  clear hr h1
  obtain ⟨wo, hwo⟩ : ∃ wo : World, wo = w := ⟨_, rfl⟩
  go_loopw [3] (fun _ wr => Below w.heap.size w wr ∧ ∃ seen, wr.heap[w.heap.size]? = some (.mapIter (some r) clock seen clock)) (fun _ wr => toCome ES (seenOf wr w.heap.size))
  case atStart => exact ⟨(Below.refl _ _).alloc (Nat.le_refl _) _, #[], heap_alloc_new _ _⟩
  case round =>
    obtain ⟨hbel, seen, hit⟩ := hrel
    have hm : wr.heap[r]? = some (.map ES clock) := by rw [hbel.block r hrw]; exact H2.out
    have hseen : seenOf wr w.heap.size = seen := by simp [seenOf, hit]
    have HS := Lib.hid hseen
    have HBEL := Lib.hid hbel
    have HIT := Lib.hid hit
    have HM := Lib.hid hm
    rcases next_map (P := Tryz.prog) hit hm HB.out 0 with ⟨w1, hn, hw1, _⟩ | ⟨e, w1, w2, he, hs, hn, hw1, hw2⟩
    · clear hit hm hseen hbel
      have HW1 := Lib.hid hw1
      clear hw1
      go_wp2
      go_end0
      refine ⟨rfl, ?_⟩
      rcases HW1.out with rfl | rfl
      · exact HBEL.out
      · exact HBEL.out.drew
    · have hbel2 : Below w.heap.size w w2 := by
        rw [hw2]
        have : Below w.heap.size w w1 := by rcases hw1 with rfl | rfl; exact hbel; exact hbel.drew
        exact this.trans (below_set (Nat.le_refl _))
      have hit1 : w1.heap[w.heap.size]? = some (.mapIter (some r) clock seen clock) := by rcases hw1 with rfl | rfl <;> exact hit
      have hit2 : w2.heap[w.heap.size]? = some (.mapIter (some r) clock (seen.push e.born) clock) := by rw [hw2]; exact heap_set_same hit1
      have hm2 : w2.heap[r]? = some (.map ES clock) := by rw [hbel2.block r hrw]; exact H2.out
      obtain ⟨e2, he2, hb2, hent⟩ := run_entry_map (P := Tryz.prog) hit2 hm2 ⟨e, he, rfl⟩
      obtain ⟨rb, ro, hval, hcell⟩ := HV.out e2 he2
      have hcell2 : w2.cell? ⟨rb, ro + 2, none⟩ = some (.bool false) := by
        rw [← hcell]; exact hbel2.cell (p := ⟨rb, ro + 2, none⟩) (World.block_lt_of_cell? _ _ hcell)
      rw [hval] at hent
      have HMEAS := Lib.hid (show toCome ES (seenOf w2 w.heap.size) < toCome ES (seenOf wr w.heap.size) from by
        have h3 : seenOf w2 w.heap.size = seen.push e.born := by simp [seenOf, hit2]
        rw [h3, hseen]; exact toCome_lt he hs)
      have HBEL2 := Lib.hid hbel2
      have HIT2 := Lib.hid hit2
      clear hit hm hseen hbel hw1 hw2 hbel2 hit1 hit2 hm2 hcell hval hb2 he he2 hs HBEL HIT HM HS
      go_wp2
      go_roundw
      case rel => exact ⟨HBEL2.out, _, HIT2.out⟩
      case measure => exact HMEAS.out
end Go.Bx
