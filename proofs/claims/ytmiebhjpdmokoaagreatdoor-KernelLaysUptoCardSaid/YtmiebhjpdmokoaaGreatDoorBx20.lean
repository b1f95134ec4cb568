/- A range over a map whose round writes nothing to the map: the model's steps. -/
import Derived.Test.YtmiebhjpdmokoaaGreatDoorBx19
set_option linter.all false
namespace Go.Bx
open Go.RowKit
variable [Valn]

theorem run_range_map {P : Program} {t k e : TypeId} (hu : P.underlying t = some (.map k e)) {w : World} {r : Nat} {ES : Array MapEntry} {clock : Nat} (h : w.heap[r]? = some (.map ES clock)) :
    (Instr.range t (.map (some r))).run P w = .ok (.pointer (some ⟨w.heap.size, 0, none⟩)) (w.alloc (.mapIter (some r) clock #[] clock)) := by
  simp [Instr.range, run_underlying hu, run_getObj_map h]

theorem run_getObj_mapIter {P : Program} {w : World} {it m s l : Nat} {seen : Array Nat} (h : w.heap[it]? = some (.mapIter (some m) s seen l)) : (getObj it).run P w = .ok (.mapIter (some m) s seen l) w := by
  simp [getObj, Sem.run, h]

theorem run_choose_any {P : Program} {w : World} {n : Nat} (hn : 0 < n) : ∃ c w1, (choose (.mapNext n)).run P w = .ok c w1 ∧ c < n ∧ (w1 = w ∨ w1 = w.drew) := by
  rw [run_choose]
  by_cases hf : (Question.mapNext n).forced = true
  · rw [if_pos hf]; exact ⟨0, w, rfl, hn, .inl rfl⟩
  · rw [if_neg hf]; exact ⟨_, _, rfl, by simp only [Question.cut]; exact Nat.mod_lt _ hn, .inr rfl⟩

theorem next_map {P : Program} {w : World} {it r clock : Nat} {seen : Array Nat} {ES : Array MapEntry} (hit : w.heap[it]? = some (.mapIter (some r) clock seen clock)) (hm : w.heap[r]? = some (.map ES clock)) (hb : ∀ e ∈ ES, e.born < clock) (ty : TypeId) :
    (∃ w1, (Instr.next (.pointer (some ⟨it, 0, none⟩)) false ty).run P w = .ok (.tuple #[.bool false]) w1 ∧ (w1 = w ∨ w1 = w.drew) ∧ ∀ e ∈ ES, seen.contains e.born = true) ∨
    (∃ e w1 w2, e ∈ ES ∧ seen.contains e.born = false ∧ (Instr.next (.pointer (some ⟨it, 0, none⟩)) false ty).run P w = .ok (.tuple #[.bool true, e.key, e.val]) w2 ∧ (w1 = w ∨ w1 = w.drew) ∧ w2 = { w1 with heap := w1.heap.setIfInBounds it (.mapIter (some r) clock (seen.push e.born) clock) }) := by
  have hcond : (!seen.isEmpty && !ES.isEmpty && ES.all fun e => decide (e.born ≥ clock)) = false := by
    cases hE : ES.isEmpty with
    | true => simp
    | false =>
      have hne : 0 < ES.size := by
        rcases Nat.eq_zero_or_pos ES.size with h0 | h0
        · simp [Array.isEmpty, h0] at hE
        · exact h0
      have : (ES.all fun e => decide (e.born ≥ clock)) = false := by
        rw [Bool.eq_false_iff]
        intro hall
        rw [Array.all_eq_true_iff_forall_mem] at hall
        have h1 := hall ES[0] (Array.getElem_mem hne)
        have h2 := hb ES[0] (Array.getElem_mem hne)
        simp at h1; omega
      simp [this]
  let left := ES.filter fun e => !seen.contains e.born
  have hold : left.filter (fun e => decide (e.born < clock)) = left := by
    rw [Array.filter_eq_self]
    intro e he
    have := hb e (Array.mem_of_mem_filter he)
    simpa using this
  have hnew : left.filter (fun e => decide (e.born ≥ clock)) = #[] := by
    rw [Array.filter_eq_empty_iff]
    intro e he
    have := hb e (Array.mem_of_mem_filter he)
    simp; omega
  have hleft : ∀ e, e ∈ left ↔ e ∈ ES ∧ seen.contains e.born = false := by
    intro e; simp [left, Array.mem_filter]
  have hrun : (Instr.next (.pointer (some ⟨it, 0, none⟩)) false ty).run P w = (do
      let candidates := (if left.isEmpty then #[none] else #[]) ++ (left ++ #[]).map some
      match candidates[← choose (.mapNext candidates.size)]? with
      | some (some e) =>
        setObj it (.mapIter (some r) clock (seen.push e.born) clock)
        pure (.tuple #[.bool true, e.key, e.val])
      | some none => pure (.tuple #[.bool false])
      | none => stuck "Next: no such candidate" : Sem Value).run P w := by
    simp only [Instr.next, Sem.run_bind, run_getObj_mapIter hit, Result.andThen_ok, run_getObj_map hm, hcond, Bool.false_eq_true, if_false]
    rw [show ES.filter (fun e => !seen.contains e.born) = left from rfl, hold, hnew]
    rfl
  rw [hrun]
  by_cases hem : left.isEmpty = true
  · left
    have hl : left = #[] := by simpa using hem
    have hsz : ((if left.isEmpty then #[none] else #[]) ++ (left ++ #[]).map some : Array (Option MapEntry)) = #[none] := by rw [hl]; simp
    simp only [hsz]
    obtain ⟨c, w1, h1, h2, h3⟩ := run_choose_any (P := P) (w := w) (n := 1) (by omega)
    have hc0 : c = 0 := by omega
    subst hc0
    refine ⟨w1, ?_, h3, fun e he => ?_⟩
    · simp only [Sem.run_bind]
      rw [show (#[none] : Array (Option MapEntry)).size = 1 from rfl, h1]
      rfl
    · cases hs : seen.contains e.born with
      | true => rfl
      | false =>
        have := (hleft e).2 ⟨he, hs⟩
        rw [hl] at this; simp at this
  · right
    have hpos : 0 < left.size := by
      rcases Nat.eq_zero_or_pos left.size with h0 | h0
      · exfalso; apply hem; simp [Array.isEmpty, h0]
      · exact h0
    have hsz : ((if left.isEmpty then #[none] else #[]) ++ (left ++ #[]).map some : Array (Option MapEntry)) = left.map some := by
      rw [if_neg hem]; simp
    simp only [hsz]
    obtain ⟨c, w1, h1, h2, h3⟩ := run_choose_any (P := P) (w := w) (n := (left.map some).size) (by simpa using hpos)
    have hc : c < left.size := by simpa using h2
    have hget : (left.map some)[c]? = some (some left[c]) := by simp [hc]
    have hmem := (hleft left[c]).1 (Array.getElem_mem hc)
    have hit1 : w1.heap[it]? = some (.mapIter (some r) clock seen clock) := by rcases h3 with rfl | rfl <;> exact hit
    refine ⟨left[c], w1, _, hmem.1, hmem.2, ?_, h3, rfl⟩
    simp only [Sem.run_bind, h1, Result.andThen_ok, hget]
    simp [setObj, Sem.run, hit1]

theorem run_entry_map {P : Program} {w : World} {it r clock : Nat} {seen : Array Nat} {ES : Array MapEntry} {b : Nat} (hit : w.heap[it]? = some (.mapIter (some r) clock (seen.push b) clock)) (hm : w.heap[r]? = some (.map ES clock)) (he : ∃ e ∈ ES, e.born = b) :
    ∃ e, e ∈ ES ∧ e.born = b ∧ (Instr.entry (.pointer (some ⟨it, 0, none⟩))).run P w = .ok (.tuple #[e.key, e.val]) w := by
  obtain ⟨e0, h0, h1⟩ := he
  have : (ES.find? fun e => e.born == b).isSome = true := by
    rw [Array.find?_isSome]
    exact ⟨e0, h0, by simp [h1]⟩
  obtain ⟨e, hf⟩ := Option.isSome_iff_exists.1 this
  refine ⟨e, Array.mem_of_find?_eq_some hf, by simpa using Array.find?_some hf, ?_⟩
  simp only [Instr.entry, Sem.run_bind, run_getObj_mapIter hit, Result.andThen_ok, Array.back?_push, run_getObj_map hm]
  simp [hf]

/-- How many entries are still to come. -/
def toCome (ES : Array MapEntry) (seen : Array Nat) : Nat := (ES.toList.filter fun e => !seen.contains e.born).length

theorem toCome_lt {ES : Array MapEntry} {seen : Array Nat} {e : MapEntry} (he : e ∈ ES) (hs : seen.contains e.born = false) : toCome ES (seen.push e.born) < toCome ES seen := by
  unfold toCome
  have hsub : ∀ x : MapEntry, (!(seen.push e.born).contains x.born) = (!seen.contains x.born && !(x.born == e.born)) := by
    intro x
    rw [Array.contains_push, Bool.not_or]
  have h1 : (ES.toList.filter fun x => !(seen.push e.born).contains x.born) = (ES.toList.filter fun x => !seen.contains x.born).filter fun x => !(x.born == e.born) := by
    rw [List.filter_filter]
    apply List.filter_congr
    intro x _
    rw [hsub, Bool.and_comm]
  rw [h1]
  refine List.length_filter_lt_length_iff_exists.2 ⟨e, ?_, by simp⟩
  rw [List.mem_filter]
  exact ⟨by simpa using he, by simpa using hs⟩
end Go.Bx
