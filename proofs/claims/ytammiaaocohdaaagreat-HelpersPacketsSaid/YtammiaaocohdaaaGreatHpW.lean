/- HelpersPackets: the walk along its templates. -/
import Derived.Test.YtammiaaocohdaaaGreatHpR
set_option linter.all false
namespace Go.Bx.HP
open Go Go.Bx Go.RowKit Go.Proofs
set_option maxRecDepth 100000

theorem funcF : Tryz.prog.funcs[3]? = some Tryz.f3 := by kernel_rfl
theorem bodyF : Tryz.f3.body = some code := by kernel_rfl
theorem ntmpsF : Tryz.f3.ntmps = 128 := by kernel_rfl
theorem gZero : (Env.of Tryz.prog).G = 0 := by kernel_rfl
theorem shape : code = .seq (cL code) (.seq (cL (cR code)) (.seq (cL (cR (cR code))) (.seq (cL (cR (cR (cR code)))) (.seq (.seq (cL (cL (cR (cR (cR (cR code)))))) (.block 0 (.loop (body code)))) (behind code))))) := by kernel_rfl

theorem orcOk (V : Valn) : CallOk Tryz.prog (Env.of Tryz.prog).G (orcS (graceOrc 20) 10) := orElse_ok (graceOkK V) (trueOrc_ok entersAwake22 awake22)
theorem callOk (V : Valn) (facts : List (SX × SX)) (hf : AllDen facts) : CallOk Tryz.prog (Env.of Tryz.prog).G (callW (E0.with facts)) :=
  evFn_ok (E := (Env.of Tryz.prog).with facts) ((hEK V).with' hf.mem) hmixK (hprog_with hprogK) (orcOk V) noDorc_ok 3000 80

theorem ev_seq {E : Env} {call : CallF} {n f : Nat} {a b : Code} {tm tm' : T V} {h h' : Hp} {ds ds' : DL} (he : evCode E call n (f + 1) (.seq a b) tm h ds = some (.normal, tm', h', ds')) :
    ∃ tm1 h1 ds1, evCode E call n f a tm h ds = some (.normal, tm1, h1, ds1) ∧ evCode E call n f b tm1 h1 ds1 = some (.normal, tm', h', ds') := by
  simp only [evCode] at he
  split at he
  · rename_i tm1 h1 ds1 h2
    exact ⟨tm1, h1, ds1, h2, he⟩
  · rename_i h2; exact absurd he (h2 _ _ _)

section
variable (L : Nat) (x : Int) (ls : Nat → List Int)

theorem moves_next (k : Nat) (hk : k ≤ 1000000) : Moves (rho L x ls k) (rho L x ls (k + 1)) HP.next := by
  refine ⟨fun i e he => ?_, fun i he => ?_, rfl, rfl, rfl⟩
  · simp only [HP.next, lookS] at he
    split at he
    · rename_i hb
      have := Nat.eq_of_beq_eq_true hb
      subst this
      cases he
      rw [cmpD (hvi L x ls k hk) (y := 1) rfl]
      show ((k + 1 : Nat) : Int) = wrapK .i64 ((k : Int) + 1)
      rw [wrap_i64 (by omega) (by omega)]; omega
    · cases he
  · simp only [HP.next, lookS] at he
    split at he
    · cases he
    · rename_i hb
      have := Nat.ne_of_beq_eq_false hb
      show (if i = 0 then _ else _) = (if i = 0 then _ else _)
      rw [if_neg this, if_neg this]
theorem moves_zero : Moves (rho L x ls 0) (rho L x ls 0) [(0, .num 0)] := by
  refine ⟨fun i e he => ?_, fun i he => rfl, rfl, rfl, rfl⟩
  simp only [lookS] at he
  split at he
  · rename_i hb
    have := Nat.eq_of_beq_eq_true hb
    subst this
    cases he; rfl
  · cases he
theorem moves_none (ρ : Valn) : Moves ρ ρ [] := ⟨fun i e he => by simp [lookS] at he, fun _ _ => rfl, rfl, rfl, rfl⟩

/-- The state at round 50 - d. -/
def Rd (w0 : Base) (B : Nat) (d : Nat) (a : Act) (w : World) : Prop := d ≤ 50 ∧ ∃ j, j + d ≤ 50 ∧ At (rho L x ls (50 - d)) 128 (Env.of Tryz.prog).G w0 B (tplAt j) a w

theorem codeOk_code : codeOk (Env.of Tryz.prog) code = true := ((hprog_of hprogK) 3 Tryz.f3 code funcF bodyF).1
theorem codeOk_parts : codeOk (Env.of Tryz.prog) (cL code) = true ∧ codeOk (Env.of Tryz.prog) (cL (cR code)) = true ∧ codeOk (Env.of Tryz.prog) (cL (cR (cR code))) = true ∧ codeOk (Env.of Tryz.prog) (cL (cR (cR (cR code)))) = true ∧
    codeOk (Env.of Tryz.prog) (cL (cL (cR (cR (cR (cR code)))))) = true ∧ codeOk (Env.of Tryz.prog) (body code) = true ∧ codeOk (Env.of Tryz.prog) (behind code) = true := by
  have h := codeOk_code
  rw [shape] at h
  simp only [codeOk, Bool.and_eq_true] at h
  exact ⟨h.1, h.2.1, h.2.2.1, h.2.2.2.1, h.2.2.2.2.1.1, h.2.2.2.2.1.2, h.2.2.2.2.2⟩

theorem lead {c : Code} (hc : codeOk (Env.of Tryz.prog) c = true) {facts : List (SX × SX)} {k : Nat} (hf : @AllDen (rho L x ls k) facts) {p q : Tpl} {ex : Ex} {s : List (Nat × SX)} {ρ' : Valn} (m : Moves (rho L x ls k) ρ' s)
    (hl : leads (E0.with facts) (callW (E0.with facts)) 128 3000 c p ex q s ids = true) {w0 : Base} (hU : ∀ i, w0.U i = false) {B : Nat} {a : Act} {w : World} {Q : Exit → Act → World → Prop}
    (hA : At (rho L x ls k) 128 (Env.of Tryz.prog).G w0 B p a w) (hQ : ∀ a' w', At ρ' 128 (Env.of Tryz.prog).G w0 B q a' w' → Q (exOf ex) a' w') : c.wpIn (fw none) 0 Tryz.prog Q a w :=
  leads_ok (E := (Env.of Tryz.prog).with facts) hmixK (@EnvOk.with' (rho L x ls k) _ _ (hEK (rho L x ls k)) _ (@AllDen.mem (rho L x ls k) _ hf)) rfl (callOk (rho L x ls k) facts hf) (by decide) hl (by rw [codeOk_with]; exact hc) m hU hA hQ

theorem loop_walk {w0 : Base} (hU : ∀ i, w0.U i = false) {B : Nat} {Q : Exit → Act → World → Prop} (hX : ∀ k a w, At (rho L x ls k) 128 (Env.of Tryz.prog).G w0 B tplX a w → Q (.exit 0) a w) {a : Act} {w : World} (hA : Rd L x ls w0 B 50 a w) :
    (Code.loop (body code)).wpIn (fw none) 0 Tryz.prog Q a w := by
  obtain ⟨_, _, _, _, _, hb, _⟩ := codeOk_parts
  refine wpIn_loop_rounds 51 (rounds_ok (Rd L x ls w0 B) ?_ ?_ 50 a w hA)
  · rintro a w ⟨_, j, hj, hA⟩
    by_cases hL : L ≤ 50
    · exact lead L x ls hb (facts_X1 L x ls 50 (by omega) hL) (moves_none _) (x1All j (by omega)) hU hA (fun a' w' h => hX 50 a' w' h)
    · exact lead L x ls hb (facts_X2 L x ls 50 (by omega) (by omega) (by omega)) (moves_none _) (x2All j (by omega)) hU hA (fun a' w' h => hX 50 a' w' h)
  · rintro d a w ⟨hd, j, hj, hA⟩
    by_cases hL : L ≤ 50 - (d + 1)
    · exact lead L x ls hb (facts_X1 L x ls (50 - (d + 1)) (by omega) hL) (moves_none _) (x1All j (by omega)) hU hA (fun a' w' h => hX _ a' w' h)
    · have m := moves_next L x ls (50 - (d + 1)) (by omega)
      rw [show 50 - (d + 1) + 1 = 50 - d by omega] at m
      by_cases hlen : (ls (50 - (d + 1))).length ≤ 2048
      · exact lead L x ls hb (facts_N L x ls (50 - (d + 1)) (by omega) (by omega) (by omega) hlen j (by omega)) m (nAll j (by omega)) hU hA (fun a' w' h => ⟨by omega, j + 1, by omega, h⟩)
      · exact lead L x ls hb (facts_L L x ls (50 - (d + 1)) (by omega) (by omega) (by omega) (by omega)) m (lAll j (by omega)) hU hA (fun a' w' h => ⟨by omega, j, by omega, h⟩)

theorem getT_p0 : ∀ t, getT p0.tms t = getT (startT [V.xarg 0 vn, .sym (.i .i64) vx] 0 .nil) t := by
  intro t
  letI := dullValn
  have hl : p0.tm.length = 128 := by simp [p0]
  rw [startT_get _ 0 .nil t (by simp)]
  unfold getT Tpl.tms T.ofList
  rw [T.get_ofListFrom p0.tm 0 .nil t (by omega)]
  by_cases h2 : t < 2
  · have : t = 0 ∨ t = 1 := by omega
    rcases this with rfl | rfl <;> rfl
  · rw [if_neg (show ¬ (0 ≤ t ∧ t < 0 + [V.xarg 0 vn, .sym (.i .i64) vx].length) by simp; omega)]
    by_cases ht : t < 128
    · rw [if_pos ⟨Nat.zero_le _, by omega⟩, Nat.sub_zero]
      have : p0.tm[t]? = some (.tuple []) := by
        simp only [p0]
        rw [List.getElem?_append_right (by simp; omega), List.getElem?_replicate, if_pos (by simp; omega)]
      rw [this]; rfl
    · rw [if_neg (by omega)]

theorem packets_calls {w : World} {args : Array Value} {σ : Sub} (hH : @HRel (rho L x ls 0) (Env.of Tryz.prog).G ⟨w, fun _ => false⟩ w.heap.size σ p0.hp w) (hr : @VRels (rho L x ls 0) σ [V.xarg 0 vn, .sym (.i .i64) vx] args.toList) :
    Calls Tryz.prog 3 args w fun e w' => e = .returned (.bool true) ∧ Below w.heap.size w w' := by
  obtain ⟨c0, c1, c2, c3, c4, _, c6⟩ := codeOk_parts
  have hnil : ∀ k, @AllDen (rho L x ls k) [] := fun _ => trivial
  have hE0 : E0.with [] = E0 := rfl
  refine callsIn_wide.1 (callsIn_of_wp_marks (F := fw none) (n := 0) funcF bodyF trivial ?_)
  have hS := @start_rel (rho L x ls 0) 128 (Env.of Tryz.prog).G ⟨w, fun _ => false⟩ w.heap.size σ p0.hp w hH [V.xarg 0 vn, .sym (.i .i64) vx] args hr (by simp) (by decide)
  rw [ntmpsF]
  have hS : @SRel (rho L x ls 0) 128 (Env.of Tryz.prog).G ⟨w, fun _ => false⟩ w.heap.size σ (getT p0.tms) p0.hp [] { tmps := args ++ Array.replicate (128 - args.size) undef, defers := [] } w := by
    rw [show getT p0.tms = getT (startT [V.xarg 0 vn, .sym (.i .i64) vx] 0 .nil) from funext getT_p0]; exact hS
  -- what is behind
  have hB : ∀ k a' w', At (rho L x ls k) 128 (Env.of Tryz.prog).G ⟨w, fun _ => false⟩ w.heap.size tplX a' w' → (behind code).wpIn (fw none) 0 Tryz.prog (bodyPostM (fw none) 0 Tryz.prog Tryz.f3 fun e w' => e = .returned (.bool true) ∧ Below w.heap.size w w') a' w' := by
    intro k a' w' ⟨τ, hX⟩
    letI vk : Valn := rho L x ls k
    have hb := runB
    unfold okB at hb
    split at hb
    case h_2 => cases hb
    rename_i tm h he
    split at hb
    case h_2 => cases hb
    rename_i b hres
    subst hb
    refine (@evCode_ok (rho L x ls k) Tryz.prog hmixK (callW E0) 128 (by decide) w.heap.size 3000 E0 (hEK (rho L x ls k)) none (fun _ => rfl) (callOk (rho L x ls k) [] (hnil k)) ⟨w, fun _ => false⟩).1 (behind code) τ _ _ _ .ret tm h [] a' w' _ c6 he hX (fun τ2 a2 w2 hle hS2 => ?_)
    obtain ⟨v', hv1, hv2⟩ := @results_ok (rho L x ls k) Tryz.prog E0 (hEK (rho L x ls k)) ⟨w, fun _ => false⟩ w.heap.size τ2 tm h a2.tmps w2 hS2.heap hS2.tm Tryz.f3 _ hres
    have hd : a2.defers = [] := hS2.ds
    simp only [VRel] at hv2
    subst hv2
    have := @evDefers_ok (rho L x ls k) Tryz.prog E0 (hEK (rho L x ls k)) hmixK (hprog_of hprogK) noDorc (@noDorc_ok (rho L x ls k) _ _) Tryz.f3 a2.tmps (fun e w' => e = .returned (.bool true) ∧ Below w.heap.size w w') [] h h ⟨w, fun _ => false⟩ w.heap.size τ2 a2.defers w2 rfl (by rw [hd]; simp only [DRel]) hS2.heap (fun τ3 w3 hle3 hH3 => by
      obtain ⟨v', hv1, hv2⟩ := @results_ok (rho L x ls k) Tryz.prog E0 (hEK (rho L x ls k)) ⟨w, fun _ => false⟩ w.heap.size τ3 tm h a2.tmps w3 hH3 (fun t => @VRel.mono (rho L x ls k) _ _ hle3 _ _ (hS2.tm t)) Tryz.f3 _ hres
      simp only [VRel] at hv2
      subst hv2
      exact ⟨_, hv1, rfl, hH3.below⟩)
    exact this
  -- the pieces ahead of the loop
  have hA := runA
  unfold okA leads at hA
  split at hA
  case h_2 => cases hA
  rename_i ex tm5 h5 he
  rw [Bool.and_eq_true] at hA
  have := exBeq_eq hA.1
  subst this
  obtain ⟨tm1, h1, ds1, e1, he⟩ := ev_seq (f := 2999) he
  obtain ⟨tm2, h2, ds2, e2, he⟩ := ev_seq (f := 2998) he
  obtain ⟨tm3, h3, ds3, e3, he⟩ := ev_seq (f := 2997) he
  obtain ⟨tm4, h4, ds4, e4, e5⟩ := ev_seq (f := 2996) he
  have step : ∀ (f : Nat) (c rest : Code) (σ : Sub) (tm tm' : T V) (h h' : Hp) (ds ds' : DL) (a : Act) (w' : World) (Q : Exit → Act → World → Prop), codeOk (Env.of Tryz.prog) c = true → evCode E0 (callW E0) 128 f c tm h ds = some (.normal, tm', h', ds') →
      @SRel (rho L x ls 0) 128 (Env.of Tryz.prog).G ⟨w, fun _ => false⟩ w.heap.size σ (getT tm) h ds a w' → (∀ (τ : Sub) a2 w2, @SRel (rho L x ls 0) 128 (Env.of Tryz.prog).G ⟨w, fun _ => false⟩ w.heap.size τ (getT tm') h' ds' a2 w2 → rest.wpIn (fw none) 0 Tryz.prog Q a2 w2) →
      (Code.seq c rest).wpIn (fw none) 0 Tryz.prog Q a w' := by
    intro f c rest σ tm tm' h h' ds ds' a w' Q hc he hS hQ
    exact wpIn_seq ((@evCode_ok (rho L x ls 0) Tryz.prog hmixK (callW E0) 128 (by decide) w.heap.size f E0 (hEK (rho L x ls 0)) none (fun _ => rfl) (callOk (rho L x ls 0) [] (hnil 0)) ⟨w, fun _ => false⟩).1 c σ _ _ _ .normal tm' h' ds' a w' _ hc he hS (fun τ a2 w2 _ hS2 => hQ τ a2 w2 hS2))
  rw [shape]
  refine step _ _ _ _ _ _ _ _ _ _ _ _ _ c0 e1 hS (fun τ1 a1 w1 hS1 => ?_)
  refine step _ _ _ _ _ _ _ _ _ _ _ _ _ c1 e2 hS1 (fun τ2 a2 w2 hS2 => ?_)
  refine step _ _ _ _ _ _ _ _ _ _ _ _ _ c2 e3 hS2 (fun τ3 a3 w3 hS3 => ?_)
  refine step _ _ _ _ _ _ _ _ _ _ _ _ _ c3 e4 hS3 (fun τ4 a4 w4 hS4 => ?_)
  refine wpIn_seq ?_
  refine step _ _ _ _ _ _ _ _ _ _ _ _ _ c4 e5 hS4 (fun τ5 a5 w5 hS5 => ?_)
  have hAt : Rd L x ls ⟨w, fun _ => false⟩ w.heap.size 50 a5 w5 := ⟨Nat.le_refl _, 0, by omega, _, okSt_ok (moves_zero L x ls) hA.2 (fun _ => rfl) hS5⟩
  refine wpIn_block (loop_walk L x ls (fun _ => rfl) (fun k a' w' h => ?_) hAt)
  exact hB k a' w' h

theorem entry {w : World} {v0 : Value} (h : (∃ p cap, v0 = .slice p 0 cap ∧ L = 0) ∨ (∃ blk base cap C e F, v0 = .slice (some ⟨blk, base, none⟩) L cap ∧ w.heap[blk]? = some (.cells C e F) ∧ base + L ≤ C.size ∧ ∀ k, k < L → C[base + k]? = some (.string ⟨⟨asBytes ((ls k).map (wrapK .u8))⟩⟩))) :
    Calls Tryz.prog 3 #[v0, .int .i64 x] w fun e w' => e = .returned (.bool true) ∧ Below w.heap.size w w' := by
  letI v0 : Valn := rho L x ls 0
  have hget : ∀ i o, p0.hp.t.get i = some o → i = 0 ∧ o = .xro .s 0 := by
    intro i o hi
    have : p0.hp.t = T.set 40 .nil 0 (.xro .s 0) := rfl
    rw [this] at hi
    rw [T.get_set _ 40 .nil 0 i (by decide)] at hi
    split at hi
    · exact ⟨by assumption, by cases hi; rfl⟩
    · cases hi
  have hn : @SX.den (rho L x ls 0) vn = .I L := hvn L x ls 0
  have hx : @SX.den (rho L x ls 0) vx = .I x := hvx L x ls 0
  rcases h with ⟨p, cap, rfl, h0⟩ | ⟨blk, base, cap, C, e, F, rfl, hw, hsz, hc⟩
  · have hH : HRel (Env.of Tryz.prog).G ⟨w, fun _ => false⟩ w.heap.size (fun _ => none) p0.hp w := by
      refine ⟨Below.refl _ _, Keeps.refl _, Nat.le_refl _, (by decide : p0.hp.n ≤ 1000000001), fun i r hi => (nomatch hi), fun g hg => ?_, fun i o ho => ?_, fun i hi => (nomatch hi), fun i o ho _ r hr => (nomatch hr), fun i j o o' r r' _ _ _ _ hr => (nomatch hr)⟩
      · rw [gZero] at hg; omega
      · obtain ⟨rfl, _⟩ := hget i o ho; decide
    refine packets_calls L x ls hH ?_
    simp only [VRels, VRel, tv, hn, hx, D.int]
    exact ⟨_, _, rfl, ⟨0, by rw [h0]; rfl, .inl ⟨p, cap, rfl, rfl⟩⟩, _, _, rfl, rfl, rfl⟩
  · have hlt : blk < w.heap.size := (Array.getElem?_eq_some_iff.1 hw).1
    have hH : HRel (Env.of Tryz.prog).G ⟨w, fun _ => false⟩ w.heap.size (fun i => if i = 0 then some ⟨blk, base, base + L⟩ else none) p0.hp w := by
      refine ⟨Below.refl _ _, Keeps.refl _, Nat.le_refl _, (by decide : p0.hp.n ≤ 1000000001), fun i r hi => ?_, fun g hg => ?_, fun i o ho => ?_, fun i hi => (nomatch hi), fun i o ho _ r hr => ?_, fun i j o o' r r' hi hj _ _ _ _ _ => ?_⟩
      · by_cases h : i = 0
        · subst h; decide
        · simp [h] at hi
      · rw [gZero] at hg; omega
      · obtain ⟨rfl, _⟩ := hget i o ho; decide
      · obtain ⟨rfl, rfl⟩ := hget i o ho
        simp only [if_true, Option.some.injEq] at hr
        subst hr
        refine ⟨hlt, C, e, F, hw, hsz, fun k hk => ?_⟩
        have hk : k < L := by simp only at hk; omega
        rw [hc k hk]
        rfl
      · rw [(hget i o hi).1, (hget j o' hj).1]
    refine packets_calls L x ls hH ?_
    simp only [VRels, VRel, tv, hn, hx, D.int]
    exact ⟨_, _, rfl, ⟨L, rfl, .inr ⟨⟨blk, base, base + L⟩, cap, by simp, rfl, Nat.le_refl _⟩⟩, _, _, rfl, rfl, rfl⟩
end
end Go.Bx.HP
