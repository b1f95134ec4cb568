/- For every list of texts and every index the law HelpersPackets answers true, and its arguments read afterwards as before. Conditions: none. -/
import Derived.Test.YtammiaaocohdaaaGreatRows
import Derived.Test.YtammiaaocohdaaaGreatHpW
import Derived.WalkKit
import Derived.ProofKit
import Derived.OpenShut
import Derived.Below
import Derived.ChangeSame
import Derived.Carry
import Derived.SliceStrings
import Derived.LaidHandle
import Derived.LaidLaws
import Derived.Deep.DeepHandedRow
import Derived.Deep.DeepWitnessRowRef
import Derived.Stop.Joined
import Derived.KernelRfl
set_option linter.all false
namespace Go.Proofs.YtammiaaocohdaaaGreat.helpersPackets
open Go Go.ChangeShapes Go.WideShapes Go.RowKit
section
variable {H : Type} {enc : TypeId × Value → H} {P : Program}
theorem post_of_below {f : Func} {s : ChangeSpec} {apart fresh handsOn again : Bool} {W W' : World} {args : Array Value} {v : Value} {ds gs : List (DataW H)} {before pa pv : List MemPlace}
    (hW : DataW.Whole enc P f.params.toList s.vars apart W args.toList ds gs before)
    (hres : ∀ (b : Nat) (sp : Nat → Bool) (hd : Bool), DataW.TrodAll enc P W' b sp hd f.resultTypes.toList (v.resultList f.resultTypes.size) (s.fn H (ds ++ gs)).results [])
    (hargs : ∀ sp : Nat → Bool, (∀ p ∈ before, sp p.block = true) → DataW.TrodAll enc P W' 0 sp true f.params.toList args.toList (s.fn H (ds ++ gs)).args pa)
    (hvars : ∀ sp : Nat → Bool, (∀ p ∈ before, sp p.block = true) → DataW.TrodVars enc P W' sp s.vars (s.fn H (ds ++ gs)).vars pv)
    (hps : before = pa ++ pv) (hb : Below W.heap.size W W')
    (hok : ∀ (j : Nat) (t : TypeId) (r : Value), f.resultTypes[j]? = some t → (v.resultList f.resultTypes.size)[j]? = some r → Value.okWide P W' .any 0 t r) :
    s.post enc P f apart fresh handsOn again W args v W' := by
  have hlt : ∀ p ∈ before, p.block < W.heap.size := fun p hp => hW.lt p hp
  have hold : ∀ p ∈ before, (fun b => decide (b < W.heap.size)) p.block = true := fun p hp => by simpa using hlt p hp
  refine ⟨ds, gs, before, [], pa, pv, hW, hres _ _ _, hargs _ hold, hvars _ hold, World.keptBut_mono (fun p hp => ⟨hp, ?_⟩) (hb.frame (· ∈ before)), fun _ => ?_⟩
  · rw [hps, List.mem_append] at hp
    exact Or.inr hp
  · obtain ⟨_, _, _, _, _, hz, hn⟩ := hW
    refine ⟨hok, _, _, ([] ++ pa) ++ pv, ⟨[] ++ pa, pv, trodAll_append (hargs _ (fun _ _ => rfl)) (hres _ _ _), hvars _ (fun _ _ => rfl), rfl, ?_, ?_⟩, ?_⟩
    · intro b off hp
      have hin : MemPlace.cell b off ∈ before := by rw [hps]; simpa using hp
      rw [hb.frozen (hlt _ hin)]
      exact hz b off hin
    · intro ha
      have := hn ha
      rw [hps] at this
      simpa using this
    · intro p hp _
      rw [hps]
      simpa using hp
end

theorem own : ownKnob Tryz.prog.godebug = none := by kernel_rfl
set_option maxRecDepth 100000
theorem func3 : Tryz.prog.funcs[3]? = some Tryz.f3 := by kernel_rfl
theorem params3 : Tryz.f3.params = #[22, 3] := by kernel_rfl
theorem undInt : Tryz.prog.underlying 3 = some (.int .i64) := by kernel_rfl
theorem undBool : Tryz.prog.underlying 4 = some .bool := by kernel_rfl
theorem undSl : Tryz.prog.underlying 22 = some (.slice 9) := by kernel_rfl
theorem undStr : Tryz.prog.underlying 9 = some .string := by kernel_rfl
theorem cellsStr : Tryz.prog.cellsOf 9 = 1 := by kernel_rfl
theorem laidOut : laidOutB Tryz.prog = true := by kernel_rfl

theorem bytesBack (s : ByteArray) : (⟨⟨Go.Bx.asBytes ((s.data.toList.map fun b => Int.ofNat b.toNat).map (Go.Bx.wrapK .u8))⟩⟩ : ByteArray) = s := by
  have h : Go.Bx.asBytes ((s.data.toList.map fun b => Int.ofNat b.toNat).map (Go.Bx.wrapK .u8)) = s.data.toList := by
    unfold Go.Bx.asBytes
    rw [List.map_map, List.map_map]
    conv => rhs; rw [← List.map_id s.data.toList]
    refine List.map_congr_left fun b _ => ?_
    have hb : b.toNat < 256 := b.toNat_lt
    have hw : Go.Bx.wrapK .u8 (Int.ofNat b.toNat) = Int.ofNat b.toNat := by
      rw [Go.Bx.HP.wrapK_eq']
      simp [IntKind.wrap, IntKind.bits, IntKind.signed]
      omega
    simp only [Function.comp, hw, id]
    simp
  rw [h]

theorem contract (H : Type) (enc : TypeId × Value → H) (W : World) (base : Nat) (args : Array Value) (ds gs : List (DataW H)) (before : List MemPlace)
    (hval : ∀ (j : Nat) t v, Tryz.f3.params[j]? = some t → args[j]? = some v → Value.okWide Tryz.prog W .any base t v)
    (hW : DataW.Whole enc Tryz.prog Tryz.f3.params.toList Rows.helpersPacketsSpec.vars false W args.toList ds gs before) :
    Calls Tryz.prog 3 args W fun e W' => ∃ v, e = .returned v ∧ Rows.helpersPacketsSpec.post enc Tryz.prog Tryz.f3 false true false false W args v W' := by
  have hW' := hW
  obtain ⟨p, q, hA0, hV, rfl, hfz, hnd⟩ := hW
  have hA : DataW.TrodAll enc Tryz.prog W 0 (fun _ => true) true Tryz.f3.params.toList args.toList ds p := hA0
  rw [params3] at hA hval
  obtain ⟨v0, vs0, d0, ds0, p0, q0, hargs, rfl, rfl, h0, r0⟩ := trodAll_cons hA
  obtain ⟨v1, vs1, d1, ds1, p1, q1, rfl, rfl, rfl, h1, r1⟩ := trodAll_cons r0
  obtain ⟨rfl, rfl, rfl⟩ := trodAll_nil r1
  obtain rfl : args = #[v0, v1] := by cases args; simp_all
  obtain ⟨rfl, rfl⟩ := trodVars_none hV
  obtain ⟨k, rfl, rfl, rfl, wk⟩ := open_int undInt (hval 1 3 v1 rfl rfl) h1
  have hplaces : ∀ x ∈ p0, x.block < W.heap.size := fun x hx => hW'.lt x (by simp [hx])
  have hcall : Calls Tryz.prog 3 #[v0, .int .i64 k] W fun e w' => e = .returned (.bool true) ∧ Below W.heap.size W w' := by
    obtain ⟨a0, len0, cap0, rfl⟩ := okWide_slice undSl (hval 0 22 v0 rfl rfl)
    obtain ⟨fuel, hf⟩ := h0
    rcases open_strings undSl undStr cellsStr hf with ⟨hcs, hx⟩ | ⟨a, len', cap', ss, hcs, _, hl, hm, hz, hx, hcell, hsz⟩
    · simp [Value.cells] at hcs
      obtain ⟨rfl, rfl, rfl⟩ := hcs
      exact Go.Bx.HP.entry 0 k (fun _ => []) (.inl ⟨none, 0, rfl, rfl⟩)
    · simp [Value.cells] at hcs
      obtain ⟨rfl, rfl, rfl⟩ := hcs
      by_cases hl0 : len0 = 0
      · subst hl0
        exact Go.Bx.HP.entry 0 k (fun _ => []) (.inl ⟨some a, cap0, rfl, rfl⟩)
      · simp only [if_true] at hz
        have hc0 := hcell 0 (by omega)
        obtain ⟨blk, off, spot⟩ := a
        have h00 : W.cell? ⟨blk, off, spot⟩ = some (.string (ss.getD 0 ByteArray.empty)) := hc0
        unfold World.cell? at h00
        simp only at h00
        split at h00
        case h_2 => cases h00
        rename_i C e F hw
        cases spot with
        | some sp => simp at h00
        | none =>
          have hcs : ∀ i, i < len0 → C[off + i]? = some (.string (ss.getD i ByteArray.empty)) := by
            intro i hi
            have := hcell i (by omega)
            have ha : (⟨blk, off, none⟩ : Addr).add i = ⟨blk, off + i, none⟩ := by
              unfold Addr.add
              by_cases h : i = 0
              · rw [if_pos h, h]; rfl
              · rw [if_neg h]
            rw [ha] at this
            unfold World.cell? at this
            simp only [hw] at this
            simpa using this
          have hsize : off + len0 ≤ C.size := by
            have := (Array.getElem?_eq_some_iff.1 (hcs (len0 - 1) (by omega))).1
            omega
          refine Go.Bx.HP.entry len0 k (fun i => (ss.getD i ByteArray.empty).data.toList.map fun b => Int.ofNat b.toNat) (.inr ⟨blk, off, cap0, C, e, F, rfl, hw, hsize, fun i hi => ?_⟩)
          rw [hcs i hi, bytesBack]
  refine hcall.mono fun e W' ⟨he, hb⟩ => ?_
  subst he
  have hst : ∀ sp : Nat → Bool, (∀ x ∈ p0, sp x.block = true) → DataW.Trod enc Tryz.prog W' 0 sp true 22 v0 d0 p0 := fun sp hsp =>
    WideElems.Trod_stays laidOut (by kernel_rfl) (of_decide_eq_true (by kernel_rfl)) h0 (fun x hx => hb.same (hplaces x hx)) hsp
  clear hA0
  simp only [List.append_nil, List.nil_append] at hW' ⊢
  exact ⟨_, rfl, post_of_below (pa := p0) (pv := []) hW' (fun _ _ _ => trodAll_cons_mk (shut_bool undBool _) trodAll_mk0) (fun sp hsp => by
    have := trodAll_cons_mk (hst sp (fun x hx => hsp x (by simpa using hx))) (trodAll_cons_mk (shut_int undInt wk) trodAll_mk0)
    simp only [List.append_nil] at this
    exact this) (fun _ _ => rfl) (by simp) hb (ok_one (by kernel_rfl) rfl (okWide_bool_mk undBool _))⟩

theorem lifted (os : Os) (started : os.Started) (H : Type) (enc : TypeId × Value → H) :
    ReturnsInHanded {} Tryz.checked os 3 .any (Rows.helpersPacketsSpec.pre6 enc Tryz.prog Tryz.f3 Rows.helpersPacketsRow.domain false) (Rows.helpersPacketsSpec.post enc Tryz.prog Tryz.f3 false true false false) := by
  refine returnsInHanded_of_change (C := Tryz.checked) own started (by kernel_rfl) func3
    (ChangeSpec.witness6 (enc := enc) (C := Tryz.checked) false ⟨#[], #[.slice none 0 0, .int .i64 0], []⟩ 8 (by kernel_rfl) (by kernel_rfl) (by kernel_rfl) (by kernel_rfl)) ?_
  intro W base args ds gs before hval hW _ _
  exact contract H enc W base args ds gs before hval hW

theorem said : Rows.HelpersPacketsSaid :=
  OpenClaim.holds_of_wide 3 Tryz.f3 rfl rfl rfl rfl rfl rfl rfl ⟨rfl, rfl, rfl, rfl, rfl⟩ rfl rfl rfl rfl rfl (by kernel_rfl) func3 (by kernel_rfl)
    (of_decide_eq_true (by kernel_rfl)) (by unfold Func.isWrapper; first | (rw [if_pos (by decide +kernel)]; kernel_rfl) | (rw [if_neg (by decide +kernel)]; exact ⟨rfl, rfl⟩))
    (fun os started H enc _ => lifted os started H enc)
end Go.Proofs.YtammiaaocohdaaaGreat.helpersPackets
