import Derived.Test.YtmiebhjpdmokoaaGreatDoorRows
import Derived.Test.YtmiebhjpdmokoaaGreatDoorNone28
import Derived.Test.YtmiebhjpdmokoaaGreatDoorLaid
import Derived.WalkKit
import Derived.ProofKit
import Derived.OpenShut
import Derived.Below
import Derived.ChangeSame
import Derived.Carry
import Derived.LaidMore
import Derived.LaidHandle
import Derived.LaidLaws
import Derived.Deep.DeepHandedRow
import Derived.Deep.DeepWitnessRowRef
import Derived.Stop.Joined
import Derived.SevenTiedAt
import Derived.KernelRfl
set_option linter.all false
namespace Go.Proofs.YtmiebhjpdmokoaaGreatDoor.kernelNone
open Go Go.ChangeShapes Go.WideShapes Go.RowKit

section
variable {H : Type} {enc : TypeId × Value → H} {P : Program}
theorem post_of_below {f : Func} {s : ChangeSpec} {apart fresh handsOn again : Bool} {W W' : World} {args : Array Value} {v : Value} {ds gs : List (DataW H)} {before pa pv : List MemPlace}
    (hW : DataW.Whole enc P f.params.toList s.vars apart W args.toList ds gs before)
    (hres : ∀ (b : Nat) (sp : Nat → Bool) (hd : Bool), DataW.TrodAll enc P W' b sp hd f.resultTypes.toList (v.resultList f.resultTypes.size) (s.fn H (ds ++ gs)).results [])
    (hargs : ∀ sp : Nat → Bool, (∀ p ∈ before, sp p.block = true) → DataW.TrodAll enc P W' 0 sp true f.params.toList args.toList (s.fn H (ds ++ gs)).args pa)
    (hvars : ∀ sp : Nat → Bool, (∀ p ∈ before, sp p.block = true) → DataW.TrodVars enc P W' sp s.vars (s.fn H (ds ++ gs)).vars pv)
    (hps : before = pa ++ pv) (hb : Below W.heap.size W W')
    (hok : ∀ (j : Nat) (t : TypeId) (r : Value), f.resultTypes[j]? = some t → (v.resultList f.resultTypes.size)[j]? = some r → Value.okWide P W' .any 0 t r) :
    s.post enc P f apart fresh handsOn again W args v W' := by
  have hlt : ∀ p ∈ before, p.block < W.heap.size := fun p hp => hW.lt p hp
  have hold : ∀ p ∈ before, (fun b => decide (b < W.heap.size)) p.block = true := fun p hp => by simpa using hlt p hp
  refine ⟨ds, gs, before, [], pa, pv, hW, hres _ _ _, hargs _ hold, hvars _ hold, World.keptBut_mono (fun p hp => ⟨hp, ?_⟩) (hb.frame (· ∈ before)), fun _ => ?_⟩
  · rw [hps, List.mem_append] at hp
    exact Or.inr hp
  · obtain ⟨_, _, _, _, _, hz, hn⟩ := hW
    refine ⟨hok, _, _, ([] ++ pa) ++ pv, ⟨[] ++ pa, pv, trodAll_append (hargs _ (fun _ _ => rfl)) (hres _ _ _), hvars _ (fun _ _ => rfl), rfl, ?_, ?_⟩, ?_⟩
    · intro b off hp
      have hin : MemPlace.cell b off ∈ before := by rw [hps]; simpa using hp
      rw [hb.frozen (hlt _ hin)]
      exact hz b off hin
    · intro ha
      have := hn ha
      rw [hps] at this
      simpa using this
    · intro p hp _
      rw [hps]
      simpa using hp
end

theorem array9 {α : Type} {cs : Array α} (h : cs.size = 9) : ∃ c0 c1 c2 c3 c4 c5 c6 c7 c8, cs = #[c0, c1, c2, c3, c4, c5, c6, c7, c8] := by
  obtain ⟨l⟩ := cs
  match l, h with
  | [c0, c1, c2, c3, c4, c5, c6, c7, c8], _ => exact ⟨c0, c1, c2, c3, c4, c5, c6, c7, c8, rfl⟩

theorem own : ownKnob Tryz.prog.godebug = none := by kernel_rfl
theorem laidOut : laidOutB Tryz.prog = true := Go.Bx.laidOut
set_option maxRecDepth 100000
theorem funcNone : Tryz.prog.funcs[4]? = some Tryz.f4 := by kernel_rfl
theorem paramsNone : Tryz.f4.params = #[32] := by kernel_rfl
theorem underlying3 : Tryz.prog.underlying 3 = some (.int .i64) := by kernel_rfl
theorem underlying4 : Tryz.prog.underlying 4 = some .bool := by kernel_rfl
theorem readable : Tryz.prog.readableRec 32 = true := by kernel_rfl
theorem isRow : (32 : Nat) < Tryz.prog.types.size := by decide +kernel
theorem isStruct : (match Tryz.prog.underlying 32 with | some (.struct _) => true | _ => false) = true := by kernel_rfl
theorem cells37 : Tryz.prog.cellsOf 32 = 9 := by kernel_rfl
theorem types37 : (Tryz.prog.cellTypes Tryz.prog.depth 32).map (fun ts => (ts.length, ts[0]?, ts[1]?)) = some (9, some 3, some 3) := by kernel_rfl

/-- The step: its kind and its command's number are integers. -/
theorem open_step {w : World} {r : Reach} {b : Nat} {v : Value} (h : Value.okWide Tryz.prog w r b 32 v) :
    ∃ (k c : Int) (c2 c3 c4 c5 c6 c7 c8 : Value), v = .agg #[.int .i64 k, .int .i64 c, c2, c3, c4, c5, c6, c7, c8] := by
  have hs := isStruct
  unfold Value.okWide at h
  split at hs
  · rename_i fs hu
    rw [hu] at h
    obtain ⟨cs, rfl, hsz, ts, hts, _, hcell⟩ := h
    rw [cells37] at hsz
    obtain ⟨c0, c1, c2, c3, c4, c5, c6, c7, c8, rfl⟩ := array9 hsz
    have ht := types37
    rw [hts] at ht
    simp only [Option.map_some, Option.some.injEq, Prod.mk.injEq] at ht
    obtain ⟨hl, h0, h1⟩ := ht
    have key : ∀ (u : TypeId) (x : Value), u = 3 → Cell.okWide Tryz.prog w r b u x → ∃ n, x = .int .i64 n := by
      rintro u x rfl hx
      exact okWide_int underlying3 (by simpa [Value.okWide, underlying3] using hx)
    obtain ⟨u0, e0, k0⟩ := hcell 0 c0 rfl
    obtain ⟨u1, e1, k1⟩ := hcell 1 c1 rfl
    rw [hl] at e0 e1
    obtain ⟨k, rfl⟩ := key u0 c0 (Option.some.inj (e0.symm.trans h0)) k0
    obtain ⟨c, rfl⟩ := key u1 c1 (Option.some.inj (e1.symm.trans h1)) k1
    exact ⟨k, c, c2, c3, c4, c5, c6, c7, c8, rfl⟩
  · cases hs

theorem contract (H : Type) (enc : TypeId × Value → H) (W : World) (base : Nat) (args : Array Value) (ds gs : List (DataW H)) (before : List MemPlace)
    (hval : ∀ (j : Nat) t v, Tryz.f4.params[j]? = some t → args[j]? = some v → Value.okWide Tryz.prog W .any base t v)
    (hW : DataW.Whole enc Tryz.prog Tryz.f4.params.toList Rows.kernelNoneSpec.vars false W args.toList ds gs before) :
    Calls Tryz.prog 4 args W fun e W' => ∃ v, e = .returned v ∧ Rows.kernelNoneSpec.post enc Tryz.prog Tryz.f4 false true false false W args v W' := by
  have hW' := hW
  obtain ⟨p, q, hA0, hV, rfl, hfz, hnd⟩ := hW
  have hA : DataW.TrodAll enc Tryz.prog W 0 (fun _ => true) true Tryz.f4.params.toList args.toList ds p := hA0
  rw [paramsNone] at hA hval
  obtain ⟨v0, vs0, d0, ds0, p0, q0, hargs, rfl, rfl, h0, r0⟩ := trodAll_cons hA
  obtain ⟨rfl, rfl, rfl⟩ := trodAll_nil r0
  obtain rfl : args = #[v0] := by cases args; simp_all
  obtain ⟨rfl, rfl⟩ := trodVars_none hV
  obtain ⟨k, c, c2, c3, c4, c5, c6, c7, c8, rfl⟩ := open_step (hval 0 32 v0 rfl rfl)
  refine (Go.Bx.kernelNone_calls (.int .i64 k) (.int .i64 c) c2 c3 c4 c5 c6 c7 c8 W).mono fun e W' ⟨he, hb⟩ => ?_
  subst he
  clear hA0
  simp only [List.append_nil] at hW' ⊢
  have hlt : ∀ x ∈ p0, x.block < W.heap.size := fun x hx => hW'.lt x hx
  refine ⟨_, rfl, post_of_below (pa := p0) (pv := []) hW' (fun _ _ _ => trodAll_cons_mk (shut_bool underlying4 _) trodAll_mk0) (fun sp hsp => ?_) (fun _ _ => rfl) (by simp) hb (ok_one (by kernel_rfl) rfl (okWide_bool_mk underlying4 _))⟩
  have := WideElems.Trod_stays (sp' := sp) laidOut readable isRow h0 (fun x hx => hb.same (hlt x hx)) (fun x hx => hsp x hx)
  have h2 := trodAll_cons_mk this (trodAll_mk0 (enc := enc))
  simpa [paramsNone, Rows.kernelNoneSpec] using h2

/-- A step of zeros, for the witness. -/
def zeroStep : Value := .agg #[.int .i64 0, .int .i64 0, .string ⟨#[]⟩, .int .i64 0, .string ⟨#[]⟩, .int .i64 0, .int .i64 0, .int .i64 0, .int .u64 0]
noncomputable def laidWorld (os : Os) : World := World.doorLaid Tryz.prog 400 os
theorem laid_met (os : Os) : laidMetH Tryz.prog Rows.kernelNoneRow.laid ((laidWorld os).forCall (fun _ _ => 0) ⟨#[], #[zeroStep], []⟩).memory :=
  laidMetH_of_parts3 (fuel := 8) (laidMet_of_run' 8 (by kernel_rfl) (by kernel_rfl)) (by kernel_rfl) (by kernel_rfl)
def zeroData {H : Type} : DataW H := .agg [.lit (.int .i64 0), .agg [.lit (.int .i64 0), .lit (.string [])], .agg [.lit (.int .i64 0), .lit (.string []), .lit (.int .i64 0), .lit (.int .i64 0)], .lit (.int .i64 0), .lit (.int .u64 0)]
theorem reads (os : Os) {H : Type} (enc : TypeId × Value → H) : DataW.whole enc Tryz.prog ((laidWorld os).forCall (fun _ _ => 0) ⟨#[], #[zeroStep], []⟩).memory Tryz.f4.params.toList Rows.kernelNoneSpec.vars false #[zeroStep].toList 8 = some ([zeroData], [], []) := by kernel_rfl

theorem lifted (os : Os) (started : os.Started) (H : Type) (enc : TypeId × Value → H) (F : Stop.Interp) :
    ReturnsInHanded {} Tryz.checked os 4 .any ((OpenSpec.ofChange Rows.kernelNoneSpec).preRow enc Tryz.prog Tryz.f4 Rows.kernelNoneRow.domain false Rows.kernelNoneRow.laid) (((OpenSpec.ofChange Rows.kernelNoneSpec).at F).post enc Tryz.prog Tryz.f4 false true false false) := by
  refine returnsInHanded_of_row (C := Tryz.checked) (s := OpenSpec.ofChange Rows.kernelNoneSpec) own started (by kernel_rfl) funcNone
    (witness_row_atRef (enc := enc) (C := Tryz.checked) false (laidWorld os) #[zeroStep] rfl (by kernel_rfl) (by kernel_rfl) (by kernel_rfl)
      (OpenSpec.preRow_of_cond 8 (reads os enc) (by kernel_rfl) (fun k hk => by cases hk) (by kernel_rfl) (laid_met os))) ?_
  intro W base args ds gs before hval hW _ _ _ _ _ _
  exact contract H enc W base args ds gs before hval hW
end Go.Proofs.YtmiebhjpdmokoaaGreatDoor.kernelNone
