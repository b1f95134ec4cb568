import Derived.Test.YtmiebhjpdmokoaaGreatDoorRows
import Derived.Test.YtmiebhjpdmokoaaGreatDoorLayR
import Derived.Test.YtmiebhjpdmokoaaGreatDoorLaid
import Derived.WalkKit
import Derived.ProofKit
import Derived.OpenShut
import Derived.Below
import Derived.ChangeSame
import Derived.ChangeSlices
import Derived.ChangeMaps5
import Derived.Carry
import Derived.LaidMore
import Derived.LaidHandle
import Derived.LaidLaws
import Derived.Deep.DeepHandedRow
import Derived.Deep.DeepWitnessRowRef
import Derived.Stop.Joined
import Derived.SevenTiedAt
import Derived.KernelRfl
set_option linter.all false
namespace Go.Proofs.YtmiebhjpdmokoaaGreatDoor.kernelLays
open Go Go.ChangeShapes Go.WideShapes Go.RowKit
open Go.ChangeMaps (open_string shut_string)
section
variable {H : Type} {enc : TypeId × Value → H} {P : Program}
theorem post_of_below {f : Func} {s : ChangeSpec} {apart fresh handsOn again : Bool} {W W' : World} {args : Array Value} {v : Value} {ds gs : List (DataW H)} {before pa pv : List MemPlace}
    (hW : DataW.Whole enc P f.params.toList s.vars apart W args.toList ds gs before)
    (hres : ∀ (b : Nat) (sp : Nat → Bool) (hd : Bool), DataW.TrodAll enc P W' b sp hd f.resultTypes.toList (v.resultList f.resultTypes.size) (s.fn H (ds ++ gs)).results [])
    (hargs : ∀ sp : Nat → Bool, (∀ p ∈ before, sp p.block = true) → DataW.TrodAll enc P W' 0 sp true f.params.toList args.toList (s.fn H (ds ++ gs)).args pa)
    (hvars : ∀ sp : Nat → Bool, (∀ p ∈ before, sp p.block = true) → DataW.TrodVars enc P W' sp s.vars (s.fn H (ds ++ gs)).vars pv)
    (hps : before = pa ++ pv) (hb : Below W.heap.size W W')
    (hok : ∀ (j : Nat) (t : TypeId) (r : Value), f.resultTypes[j]? = some t → (v.resultList f.resultTypes.size)[j]? = some r → Value.okWide P W' .any 0 t r) :
    s.post enc P f apart fresh handsOn again W args v W' := by
  have hlt : ∀ p ∈ before, p.block < W.heap.size := fun p hp => hW.lt p hp
  have hold : ∀ p ∈ before, (fun b => decide (b < W.heap.size)) p.block = true := fun p hp => by simpa using hlt p hp
  refine ⟨ds, gs, before, [], pa, pv, hW, hres _ _ _, hargs _ hold, hvars _ hold, World.keptBut_mono (fun p hp => ⟨hp, ?_⟩) (hb.frame (· ∈ before)), fun _ => ?_⟩
  · rw [hps, List.mem_append] at hp
    exact Or.inr hp
  · obtain ⟨_, _, _, _, _, hz, hn⟩ := hW
    refine ⟨hok, _, _, ([] ++ pa) ++ pv, ⟨[] ++ pa, pv, trodAll_append (hargs _ (fun _ _ => rfl)) (hres _ _ _), hvars _ (fun _ _ => rfl), rfl, ?_, ?_⟩, ?_⟩
    · intro b off hp
      have hin : MemPlace.cell b off ∈ before := by rw [hps]; simpa using hp
      rw [hb.frozen (hlt _ hin)]
      exact hz b off hin
    · intro ha
      have := hn ha
      rw [hps] at this
      simpa using this
    · intro p hp _
      rw [hps]
      simpa using hp
end

theorem own : ownKnob Tryz.prog.godebug = none := by kernel_rfl
theorem laidOut : laidOutB Tryz.prog = true := Go.Bx.laidOut
set_option maxRecDepth 100000
theorem funcNone : Tryz.prog.funcs[3]? = some Tryz.f3 := by kernel_rfl
theorem paramsNone : Tryz.f3.params = #[3, 22, 9] := by kernel_rfl
theorem undInt : Tryz.prog.underlying 3 = some (.int .i64) := by kernel_rfl
theorem undBool : Tryz.prog.underlying 4 = some .bool := by kernel_rfl
theorem undStr : Tryz.prog.underlying 9 = some .string := by kernel_rfl
theorem undInts : Tryz.prog.underlying 22 = some (.slice 3) := by kernel_rfl
theorem cellsInt : Tryz.prog.cellsOf 3 = 1 := by kernel_rfl
theorem readInts : Tryz.prog.readableRec 22 = true := by kernel_rfl
theorem isRowInts : (22 : Nat) < Tryz.prog.types.size := by decide +kernel

theorem bytesBack (s : ByteArray) : (⟨⟨Go.Bx.asBytes (s.data.toList.map fun b => Int.ofNat b.toNat)⟩⟩ : ByteArray) = s := by
  have h : Go.Bx.asBytes (s.data.toList.map fun b => Int.ofNat b.toNat) = s.data.toList := Go.Bx.asBytes_nat s.data.toList
  rw [h]
theorem bytesWrap (s : List UInt8) : (s.map fun b => Int.ofNat b.toNat).map (Go.Bx.wrapK .u8) = s.map fun b => Int.ofNat b.toNat := by
  rw [List.map_map]
  refine List.map_congr_left fun b _ => ?_
  have hb : b.toNat < 256 := b.toNat_lt
  simp only [Function.comp, Go.Bx.wrapU8, Int.ofNat_eq_natCast]
  omega
theorem intsWrap (l : List Int) (h : ∀ n ∈ l, (Lit.int .i64 n).wf = true) : l.map (Go.Bx.wrapK .i64) = l := by
  conv => rhs; rw [← List.map_id l]
  refine List.map_congr_left fun n hn => ?_
  have h1 := h n hn
  simp [Lit.wf, IntKind.min, IntKind.max, IntKind.signed, IntKind.bits] at h1
  exact Go.Bx.wrapI64 (by omega) (by omega)

theorem bulk_lits {H : Type} (k : IntKind) (l : List Int) : Rows.uptoBulkAll (lits k l : List (DataW H)) = l.length := by
  induction l with
  | nil => rfl
  | cons n l ih =>
    simp only [lits, List.map_cons, Rows.uptoBulkAll, Rows.uptoBulk] at ih ⊢
    rw [ih]; simp; omega

theorem contract (H : Type) (enc : TypeId × Value → H) (W : World) (base : Nat) (args : Array Value) (ds gs : List (DataW H)) (before : List MemPlace)
    (hval : ∀ (j : Nat) t v, Tryz.f3.params[j]? = some t → args[j]? = some v → Value.okWide Tryz.prog W .any base t v)
    (hW : DataW.Whole enc Tryz.prog Tryz.f3.params.toList Rows.kernelLaysSpec.vars false W args.toList ds gs before) (hk : Rows.uptoSmall H (ds ++ gs) = true) :
    Calls Tryz.prog 3 args W fun e W' => ∃ v, e = .returned v ∧ Rows.kernelLaysSpec.post enc Tryz.prog Tryz.f3 false true false false W args v W' := by
  have hW' := hW
  obtain ⟨p, q, hA0, hV, rfl, hfz, hnd⟩ := hW
  have hA : DataW.TrodAll enc Tryz.prog W 0 (fun _ => true) true Tryz.f3.params.toList args.toList ds p := hA0
  rw [paramsNone] at hA hval
  obtain ⟨v0, vs0, d0, ds0, p0, q0, hargs, rfl, rfl, h0, r0⟩ := trodAll_cons hA
  obtain ⟨v1, vs1, d1, ds1, p1, q1, rfl, rfl, rfl, h1, r1⟩ := trodAll_cons r0
  obtain ⟨v2, vs2, d2, ds2, p2, q2, rfl, rfl, rfl, h2, r2⟩ := trodAll_cons r1
  obtain ⟨rfl, rfl, rfl⟩ := trodAll_nil r2
  obtain rfl : args = #[v0, v1, v2] := by cases args; simp_all
  obtain ⟨rfl, rfl⟩ := trodVars_none hV
  obtain ⟨c, rfl, rfl, rfl, wc⟩ := open_int undInt (hval 0 3 v0 rfl rfl) h0
  obtain ⟨s, rfl, rfl, rfl, ws⟩ := open_string undStr (hval 2 9 v2 rfl rfl) h2
  have hbulk := of_decide_eq_true hk
  simp only [Rows.uptoBulkAll, Rows.uptoBulk, List.cons_append, List.nil_append, List.append_nil] at hbulk
  have hplaces : ∀ x ∈ p1, x.block < W.heap.size := fun x hx => hW'.lt x (by simp [hx])
  have hcall : Calls Tryz.prog 3 #[.int .i64 c, v1, .string s] W fun e w' => e = .returned (.bool true) ∧ Below W.heap.size W w' := by
    have hs : s.data.toList.length ≤ 10000000 := by omega
    have go : ∀ ns : List Int, ns.map (Go.Bx.wrapK .i64) = ns → ns.length ≤ 10000000 → Go.Bx.Lay.Lies W v1 ns → Calls Tryz.prog 3 #[.int .i64 c, v1, .string s] W fun e w' => e = .returned (.bool true) ∧ Below W.heap.size W w' := by
      intro ns hw hl hv
      have := Go.Bx.Lay.kernelLays_calls ns (s.data.toList.map fun b => Int.ofNat b.toNat) c hw (bytesWrap _) hl (by simpa using hs) hv
      rw [bytesBack] at this
      exact this
    obtain ⟨a0, len0, cap0, rfl⟩ := okWide_slice undInts (hval 1 22 v1 rfl rfl)
    obtain ⟨fuel, hf⟩ := h1
    rcases open_ints undInts undInt cellsInt hf with ⟨hcs, hx⟩ | ⟨a, len', cap', zs, hcs, _, hl, hm, hz, hx, hcell, hwf⟩
    · simp [Value.cells] at hcs
      obtain ⟨rfl, rfl, rfl⟩ := hcs
      exact go [] rfl (Nat.zero_le _) (.inl ⟨none, 0, rfl, rfl⟩)
    · simp [Value.cells] at hcs
      obtain ⟨rfl, rfl, rfl⟩ := hcs
      simp only [if_true] at hz
      have hd := (Prod.mk.inj hx).1
      subst hd
      have hlen : (zs.take len0).length = len0 := by rw [List.length_take]; omega
      have hb2 : len0 ≤ 1048576 := by
        simp only [Rows.uptoBulk, bulk_lits, hlen] at hbulk
        omega
      refine go (zs.take len0) (intsWrap _ fun n hn => hwf n (List.mem_of_mem_take hn)) (by omega) ?_
      by_cases hl0 : len0 = 0
      · subst hl0
        exact .inl ⟨some a, cap0, rfl, by simp⟩
      · obtain ⟨blk, off, spot⟩ := a
        have h00 : W.cell? ⟨blk, off, spot⟩ = some (.int .i64 (zs.getD 0 0)) := hcell 0 (by omega)
        unfold World.cell? at h00
        simp only at h00
        split at h00
        case h_2 => cases h00
        rename_i C e F hw
        cases spot with
        | some sp => simp at h00
        | none =>
          have hcs : ∀ i, i < len0 → C[off + i]? = some (.int .i64 (zs.getD i 0)) := by
            intro i hi
            have := hcell i (by omega)
            have ha : (⟨blk, off, none⟩ : Addr).add i = ⟨blk, off + i, none⟩ := by
              unfold Addr.add
              by_cases h : i = 0
              · rw [if_pos h, h]; rfl
              · rw [if_neg h]
            rw [ha] at this
            unfold World.cell? at this
            simp only [hw] at this
            simpa using this
          have hsize : off + len0 ≤ C.size := by
            have := (Array.getElem?_eq_some_iff.1 (hcs (len0 - 1) (by omega))).1
            omega
          refine .inr ⟨blk, off, cap0, C, e, F, by rw [hlen], hw, by rw [hlen]; exact hsize, fun j x hj => ?_⟩
          have hj2 : j < len0 := by have := (List.getElem?_eq_some_iff.1 hj).1; rw [hlen] at this; exact this
          rw [hcs j hj2]
          rw [List.getElem?_take, if_pos hj2] at hj
          rw [List.getD, hj]; rfl
  refine hcall.mono fun e W' ⟨he, hb⟩ => ?_
  subst he
  have hst : ∀ sp : Nat → Bool, (∀ x ∈ p1, sp x.block = true) → DataW.Trod enc Tryz.prog W' 0 sp true 22 v1 d1 p1 := fun sp hsp =>
    WideElems.Trod_stays laidOut readInts isRowInts h1 (fun x hx => hb.same (hplaces x hx)) hsp
  clear hA0
  simp only [List.append_nil, List.nil_append] at hW' ⊢
  exact ⟨_, rfl, post_of_below (pa := p1) (pv := []) hW' (fun _ _ _ => trodAll_cons_mk (shut_bool undBool _) trodAll_mk0) (fun sp hsp => by
    have := trodAll_cons_mk (shut_int undInt wc) (trodAll_cons_mk (hst sp (fun x hx => hsp x (by simpa using hx))) (trodAll_cons_mk (shut_string undStr ws) trodAll_mk0))
    simp only [List.append_nil, List.nil_append] at this
    exact this) (fun _ _ => rfl) (by simp) hb (ok_one (by kernel_rfl) rfl (okWide_bool_mk undBool _))⟩

noncomputable def laidWorld (os : Os) : World := World.doorLaid Tryz.prog 400 os
def wit : Array Value := #[.int .i64 0, .slice none 0 0, .string ⟨#[]⟩]
theorem laid_met (os : Os) : laidMetH Tryz.prog Rows.kernelLaysUptoRow.laid ((laidWorld os).forCall (fun _ _ => 0) ⟨#[], wit, []⟩).memory :=
  laidMetH_of_parts3 (fuel := 8) (laidMet_of_run' 8 (by kernel_rfl) (by kernel_rfl)) (by kernel_rfl) (by kernel_rfl)
theorem reads (os : Os) {H : Type} (enc : TypeId × Value → H) : DataW.whole enc Tryz.prog ((laidWorld os).forCall (fun _ _ => 0) ⟨#[], wit, []⟩).memory Tryz.f3.params.toList Rows.kernelLaysSpec.vars false wit.toList 8 = some ([.lit (.int .i64 0), .nil, .lit (.string [])], [], []) := by kernel_rfl

theorem lifted (os : Os) (started : os.Started) (H : Type) (enc : TypeId × Value → H) (F : Stop.Interp) :
    ReturnsInHanded {} Tryz.checked os 3 .any ((Rows.OpenSpec.upto Rows.kernelLaysSpec).preRow enc Tryz.prog Tryz.f3 Rows.kernelLaysUptoRow.domain false Rows.kernelLaysUptoRow.laid) (((Rows.OpenSpec.upto Rows.kernelLaysSpec).at F).post enc Tryz.prog Tryz.f3 false true false false) := by
  refine returnsInHanded_of_row (C := Tryz.checked) (s := Rows.OpenSpec.upto Rows.kernelLaysSpec) own started (by kernel_rfl) funcNone
    (witness_row_atRef (enc := enc) (C := Tryz.checked) false (laidWorld os) wit rfl (by kernel_rfl) (by kernel_rfl) (by kernel_rfl)
      (OpenSpec.preRow_of_cond 8 (reads os enc) (by kernel_rfl) (fun k hk => by cases hk; kernel_rfl) (by kernel_rfl) (laid_met os))) ?_
  intro W base args ds gs before hval hW _ hcond _ _ _ _
  exact contract H enc W base args ds gs before hval hW (hcond _ rfl)
end Go.Proofs.YtmiebhjpdmokoaaGreatDoor.kernelLays
