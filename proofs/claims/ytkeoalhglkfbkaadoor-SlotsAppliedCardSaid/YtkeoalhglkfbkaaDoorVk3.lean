/-
  The texts Vk.Dfr, Vk.Sub, Vk.Fn, Vk.Lim, Vk.Front, Vk.Simp, Vk.Simp2, one behind another. No conditions.
-/
import Derived.Test.YtkeoalhglkfbkaaDoorVk2
import Derived.Recover
import Derived.OpenShut
import Derived.WideKeyArgs
set_option linter.unusedVariables false
set_option linter.unusedSimpArgs false
set_option linter.all false
/-
  FUNCTIONS THAT PUT OFF A CALL WHICH RECOVERS.
-/
namespace Hk
open Go Go.RowKit

section
variable {cx : Cx} {ops : Array Oper} {h : Heap} {G : Gh} {w : World} {a : Act} {r : R}

/-- What is known of a frame behind its 'defer'. -/
def JD (L : Nat) (a0 : Act) (a : Act) : Prop := a.defers = a0.defers ∧ a.tmps.size = a0.tmps.size ∧ ∀ t, L.testBit t = true → a.tmps.getD t undef = a0.tmps.getD t undef

theorem JD.put {L : Nat} {a0 : Act} {dst : Option Tmp} {V : Value} (h : JD L a0 a) (hd : ∀ d, dst = some d → L.testBit d = false) : JD L a0 (a.put dst V) := by
  cases dst with
  | none => exact h
  | some d =>
    refine ⟨h.1, by simpa [Act.put] using h.2.1, fun t ht => ?_⟩
    rw [← h.2.2 t ht]
    have hne : d ≠ t := by
      rintro rfl
      rw [hd d rfl] at ht; cases ht
    simp [Act.put, Array.getD_eq_getD_getElem?, Array.getElem?_setIfInBounds, hne]
theorem okDst_jok {L : Nat} {a0 : Act} : ∀ {b : Code}, okDst L b = true → JOk (JD L a0) b
  | .region _ ops _, hb => by
    simp only [okDst, List.all_eq_true] at hb
    intro o ho a V hj
    refine hj.put fun d hd => ?_
    have := hb o ho
    rw [hd] at this
    simpa using this
  | .seq x y, hb => by
    simp only [okDst, Bool.and_eq_true] at hb
    exact ⟨okDst_jok hb.1, okDst_jok hb.2⟩
  | .cond _ x y, hb => by
    simp only [okDst, Bool.and_eq_true] at hb
    exact ⟨okDst_jok hb.1, okDst_jok hb.2⟩
  | .block _ c, hb => okDst_jok (b := c) hb
  | .loop c, hb => okDst_jok (b := c) hb
  | .skip, _ => trivial
  | .exit _, _ => trivial
  | .ret, _ => trivial
  | .scope _, hb => by simp [okDst] at hb
  | .label _, _ => trivial
  | .goto _, _ => trivial
  | .refuse _, _ => trivial
  | .rangeFunc .., _ => trivial

theorem jok_defers {D : List Deferred} : ∀ c : Code, JOk (fun a => a.defers = D) c
  | .region _ ops _ => fun o _ a V h => by cases o.dst <;> exact h
  | .seq a b => ⟨jok_defers a, jok_defers b⟩
  | .cond _ a b => ⟨jok_defers a, jok_defers b⟩
  | .block _ c => jok_defers c
  | .loop c => jok_defers c
  | .scope c => jok_defers c
  | .skip | .exit _ | .ret => trivial
  | .label _ | .goto _ | .refuse _ | .rangeFunc .. => trivial

theorem relVs_slots {args : List AVal} {X : Array Value} {n : Nat} (hx : RelVs G h args X) (hn : args.length ≤ n) :
    Slots (fun a => a.defers = []) G h (args ++ List.replicate (n - args.length) (.tuple [])) { tmps := X ++ Array.replicate (n - X.size) undef, defers := [] } := by
  refine ⟨by simp [hx.1], fun j v hv => ?_, rfl⟩
  have hs := hx.1
  simp only [Array.getD_eq_getD_getElem?]
  by_cases hj : j < args.length
  · rw [List.getElem?_append_left hj] at hv
    rw [Array.getElem?_append_left (by omega)]
    have := hx.2 j v hv
    rwa [Array.getD_eq_getD_getElem?] at this
  · rw [List.getElem?_append_right (by omega)] at hv
    rw [Array.getElem?_append_right (by omega)]
    rw [List.getElem?_replicate] at hv
    split at hv
    · cases hv
      rename_i hlt
      rw [Array.getElem?_replicate, if_pos (by omega)]
      exact .undef
    · cases hv

/-! ### The call that was put off -/

theorem wpOpsS_of {P : Program} {Q : Exit → Act → List Frame → World → Prop} {cs : List Frame} (hno : ∀ a w, ¬ Q .outgrown a cs w) : ∀ (l : List Nat) (a : Act) (w : World),
    wpOps P ops (fun e a w => Q e a cs w) l a w → wpOpsS P ops Q l a cs w
  | [], a, w, h => h
  | i :: rest, a, w, h => by
    have ih := wpOpsS_of (P := P) (Q := Q) (cs := cs) hno rest
    simp only [wpOps, wpOpsS] at h ⊢
    cases ho : ops[i]? with
    | none => simp only [ho] at h ⊢; exact ih a w h
    | some o =>
      simp only [ho] at h ⊢
      by_cases hw : Region.wanted o (yielded ops a.tmps) = true
      · simp only [hw, if_true] at h ⊢
        rcases h with h | ⟨_, x, y, hl⟩
        · have h' : o.upon P a (fun a' w' => wpOpsS P ops Q rest a' cs w') (fun e a' w' => Q e a' cs w') ((execOp a.eval o).run P w) := Oper.wp_mono (fun a w => ih a w) h
          split
          · rename_i w' hr
            rw [hr] at h'
            exact h'.elim
          · exact h'
        · exact absurd hl (hno _ _)
      · simp only [hw, if_false, Bool.false_eq_true] at h ⊢
        exact ih _ _ h

/-- How the caller's mode is left. -/
def leftMode : Option Value → FrameMode
  | none => .returning
  | some V => .panicking [{ v := V, recovered := true }]
def enterMode : Option Value → FrameMode
  | none => .returning
  | some V => .panicking [{ v := V, recovered := false }]

/-- What a call that was put off leaves behind. -/
def RecPost (G : Gh) (h : Heap) (w : World) (h' : Heap) (PV : Option Value) (e : Ending) (u' : FrameMode) (w' : World) : Prop :=
  (∃ v, e = .returned v) ∧ u' = leftMode PV ∧ ∃ G', Ext G h w G' h' w' ∧ Inv G' h' w'

theorem evalRec_sound {g : Nat} {caps : List AVal} {pv : Option AVal} {PV : Option Value} {h' : Heap} {X : Array Value} (hm : cx.P.follows .mixedOrders = true) (hX : ExtOk cx.P cx.A) (hK : SoundK cx.P cx.A cx.K) (hlp : LpOk cx.lp)
    (hb : evalRec cx g caps pv h = some h') (i : Inv G h w) (gl : GlobOk cx.A G.H) (hx : RelVs G h caps X) (hpv : ∀ v, pv = some v → ∃ V, PV = some V ∧ RelV G h v V) (hpn : pv = none → PV = none) :
    (∀ w, (callFunc g X).run cx.P w = .ok (.enter g X) w) ∧
    CallsD cx.P g X (enterMode PV) w (RecPost G h w h' PV) := by
  unfold evalRec at hb
  cases hf : cx.P.funcs[g]? with
  | none => rw [hf] at hb; cases hb
  | some fn =>
    simp only [hf] at hb
    split at hb
    · rename_i id ops c hbody
      split at hb
      · rename_i o os hops
        cases hc : (isRecover o && decide (caps.length ≤ fn.ntmps) && fn.results.isEmpty && !(fn.name == "runtime.NumGoroutine")) with
        | false => rw [hc] at hb; cases hb
        | true =>
          rw [hc] at hb
          simp only [Bool.and_eq_true, decide_eq_true_eq, Bool.not_eq_true'] at hc
          obtain ⟨⟨⟨hrec, hcl⟩, hres⟩, hnm⟩ := hc
          have hne : ¬ fn.name = "runtime.NumGoroutine" := by simpa using hnm
          refine ⟨fun w => by simp [callFunc, Sem.run_bind, hf, hbody, hne, Sem.run_pure], ?_⟩
          simp only [cond_true] at hb
          obtain ⟨r0, hr0, hend⟩ := Option.bind_eq_some_iff.1 hb
          refine callsD_of_wpS hf hbody fun c₀ cs hu => ?_
          have h0 : ops[0]? = some o := by rw [← Array.getElem?_toList, hops]; rfl
          unfold isRecover at hrec
          simp only [Bool.and_eq_true, Option.isNone_iff_eq_none] at hrec
          obtain ⟨hgu, hrec⟩ := hrec
          obtain ⟨cl, hop, hcal⟩ : ∃ cl, o.op = .call cl ∧ cl.callee = .builtin .recover := by
            split at hrec
            · rename_i cl ho
              split at hrec
              · rename_i hcal; exact ⟨cl, ho, hcal⟩
              · cases hrec
            · cases hrec
          have hrun : ∀ (a : Act) (w : World), (execOp a.eval o).run cx.P w = .ok .recover w := by
            intro a w
            simp [execOp, hop, resolve, hcal, invoke, builtin, Sem.run_bind, Sem.run_pure]
          have hsz : List.range ops.size = 0 :: ((plainItems ops.toList).tail).map (·.i) := by
            rw [List.map_tail, plainItems_spec.1]
            have : ops.size = os.length + 1 := by rw [← Array.length_toList, hops]; rfl
            rw [this, List.range_succ_eq_map]; rfl
          let cs' : List Frame := { c₀ with mode := leftMode PV } :: cs
          have hrv : RelV G h (pv.getD .niliface) (PV.getD .nilIface) := by
            cases hp : pv with
            | none =>
              rw [hpn hp]
              exact .p _ _ .niliface
            | some v =>
              obtain ⟨V, hV, hr⟩ := hpv v hp
              rw [hV]
              exact hr
          obtain ⟨RR, hRR⟩ : ∃ RR, RR = RecPost G h w h' PV := ⟨_, rfl⟩
          rw [← hRR]
          have slots : Slots (fun a => a.defers = []) G h (putSlot (caps ++ List.replicate (fn.ntmps - caps.length) (.tuple [])) o.dst (pv.getD .niliface)) (Act.put { tmps := X ++ Array.replicate (fn.ntmps - X.size) undef, defers := [] } o.dst (PV.getD .nilIface)) :=
            (relVs_slots hx hcl).put o.dst hrv (by cases o.dst <;> rfl)
          have fin : ∀ (e : Ex) (ρ2 : List AVal) (h2 : Heap) (G2 : Gh) (w2 : World) (a2 : Act), (e = .normal ∨ e = .ret) → (e, pack 0 ρ2, h2) = r0 → Ext G h w G2 h2 w2 → Inv G2 h2 w2 → Slots (fun a => a.defers = []) G2 h2 ρ2 a2 →
              a2.defers = [] ∧ ∃ u', cs' = { c₀ with mode := u' } :: cs ∧ ∃ v, (results fn a2.tmps).run cx.P w2 = .ok v w2 ∧ RR (.returned v) u' w2 := by
            intro e ρ2 h2 G2 w2 a2 he hr x2 i2 s2
            subst hr
            have ht : trunc h.length h2 = some h' := by rcases he with rfl | rfl <;> exact hend
            obtain ⟨G3, i3, x3, _, _, _⟩ := trunc_ok x2 i2 ht
            have hrs : fn.results.toList.mapM (aresult cx.P ρ2 h2) = some [] := by
              have : fn.results = #[] := by simpa using hres
              rw [this]; rfl
            obtain ⟨V, hV, _⟩ := results_sound hrs i2 s2
            rw [hRR]
            exact ⟨s2.df, _, rfl, V, hV, ⟨V, rfl⟩, rfl, G3, x3, i3⟩
          have hlen : (putSlot (caps ++ List.replicate (fn.ntmps - caps.length) (.tuple [])) o.dst (pv.getD .niliface)).length = fn.ntmps := by rw [putSlot_length]; simp; omega
          rw [evalItems_len fn.ntmps _ _ _ _ hlen] at hr0
          have tailP := items_plain (cx := { cx with n := fn.ntmps, full := 2 ^ fn.ntmps - 1, pan := false }) (J := fun a => a.defers = []) (Q := fun e a w => Exit.thenS (c.wpS cx.P (bodyPostS cx.P fn c₀ cs RR))
              (bodyPostS cx.P fn c₀ cs RR) e a cs' w) (ops := ops) (fun o _ a V h => by cases o.dst <;> exact h) hX hK (plainItems ops.toList).tail [] _ h G w _
            (fun it hit => plainItems_spec.2 it (List.mem_of_mem_tail hit)) hr0 i gl slots
            (fun ρ1 h1 G1 w1 a1 e1 x1 i1 s1 => by
              split at e1
              case isFalse => cases e1
              rename_i hl1
              refine wpS_of_wp (evalCode_sound (cx := { cx with n := fn.ntmps, full := 2 ^ fn.ntmps - 1, pan := false }) (J := fun a => a.defers = []) hm hX hK hlp c 0 ρ1 h1 _ _ r0 G1 w1 a1 _ (jok_defers c) e1 i1 (gl.mono x1.hmono) s1 hl1 ?_)
              · refine ⟨fun ρ2 h2 G2 w2 a2 e2 x2 i2 s2 _ => ?_, fun e ρ2 h2 G2 w2 a2 e2 x2 i2 s2 _ => ?_, fun v ρ2 h2 G2 w2 a2 V e2 x2 i2 _ _ => ?_⟩
                · exact fin _ ρ2 h2 G2 w2 a2 (.inl rfl) (Option.some.inj e2) (x1.trans x2) i2 s2
                · cases e with
                  | ret => exact fin _ ρ2 h2 G2 w2 a2 (.inr rfl) (Option.some.inj e2) (x1.trans x2) i2 s2
                  | exit id => cases e2; cases hend
                  | _ => trivial
                · cases e2; cases hend)
            (fun v h1 G1 w1 V a1 e1 => by cases e1)
          -- the region behind 'recover'
          have tail : wpOps cx.P ops (fun e a w => Exit.thenS (c.wpS cx.P (bodyPostS cx.P fn c₀ cs RR))
              (bodyPostS cx.P fn c₀ cs RR) e a cs' w) (((plainItems ops.toList).tail).map (·.i))
              (Act.put { tmps := X ++ Array.replicate (fn.ntmps - X.size) undef, defers := [] } o.dst (PV.getD .nilIface)) w := by
            exact tailP
          refine wpS_seq (wpS_region ?_)
          rw [hsz]
          simp only [wpOpsS, h0]
          rw [if_pos (by simp [Region.wanted, hgu])]
          simp only [hrun]
          cases PV with
          | none =>
            have hu' : c₀.mode = .returning := hu
            have hrd : recoverD (c₀ :: cs) = none := by simp [recoverD, hu']
            have hcs : (c₀ :: cs : List Frame) = cs' := by
              have : ({ c₀ with mode := .returning } : Frame) = c₀ := by rw [← hu']
              simp only [cs', leftMode, this]
            rw [hrd]
            simp only []
            rw [hcs]
            exact wpOpsS_of (fun a w hq => by obtain ⟨_, hq⟩ := hq; rw [hRR] at hq; obtain ⟨⟨_, h1⟩, _⟩ := hq; cases h1) _ _ _ tail
          | some V =>
            have hu' : c₀.mode = .panicking [{ v := V, recovered := false }] := hu
            have hrd : recoverD (c₀ :: cs) = some (V, cs') := by simp [recoverD, hu', cs', leftMode]
            rw [hrd]
            exact wpOpsS_of (fun a w hq => by obtain ⟨_, hq⟩ := hq; rw [hRR] at hq; obtain ⟨⟨_, h1⟩, _⟩ := hq; cases h1) _ _ _ tail
      · cases hb
    · cases hb

/-! ### What is put off, and what stands behind it -/

theorem unpackFrom_bit {L : Nat} {x : List AVal} : ∀ (n i j k : Nat) (v : AVal), (unpackFrom L x n i j)[k]? = some v → v = .junk ∨ L.testBit (i + k) = true
  | 0, i, j, k, v, h => by simp [unpackFrom] at h
  | n + 1, i, j, k, v, h => by
    unfold unpackFrom at h
    cases hb : L.testBit i with
    | true =>
      rw [hb] at h
      cases k with
      | zero => exact .inr hb
      | succ k =>
        have := unpackFrom_bit n (i + 1) (j + 1) k v (by simpa using h)
        rwa [show i + (k + 1) = i + 1 + k by omega]
    | false =>
      rw [hb] at h
      cases k with
      | zero => simp at h; exact .inl h.symm
      | succ k =>
        have := unpackFrom_bit n (i + 1) j k v (by simpa using h)
        rwa [show i + (k + 1) = i + 1 + k by omega]

theorem Slots.any {J J' : Act → Prop} {ρ : List AVal} (s : Slots J G h ρ a) (hj : J' a) : Slots J' G h ρ a := ⟨s.len, s.rel, hj⟩

theorem evalRest_sound {fn : Func} {RE : Ending → World → Prop} {b : Code} {L : Nat} {fv : AVal} {V : Value} {ρ : List AVal} (hm : cx.P.follows .mixedOrders = true) (hX : ExtOk cx.P cx.A) (hK : SoundK cx.P cx.A cx.K) (hlp : LpOk cx.lp)
    (hb : evalRest cx b L fv ρ h = some r) (i : Inv G h w) (gl : GlobOk cx.A G.H) (s : Slots (fun a => a.defers = []) G h ρ a) (hn : ρ.length = cx.n) (hfv : RelV G h fv V)
    (hfin : ∀ (a' : Act) G' w', r.1 = .ret → Ext G h w G' r.2.2 w' → Inv G' r.2.2 w' → Slots (fun _ => True) G' r.2.2 (unpack cx.n L r.2.1) a' → ∃ v, (results fn a'.tmps).run cx.P w' = .ok v w' ∧ RE (.returned v) w') :
    ∃ d, (∀ w, (Deferred.ofValue V #[]).run cx.P w = .ok d w) ∧ b.wp cx.P (bodyPostD cx.P fn RE) { a with defers := d :: a.defers } w := by
  unfold evalRest at hb
  cases hok : okDst L b with
  | false => rw [hok] at hb; cases hb
  | true =>
    rw [hok] at hb
    simp only [cond_true] at hb
    obtain ⟨⟨g, fi, ca⟩, hg, hb⟩ := Option.bind_eq_some_iff.1 hb
    unfold acallee at hg
    split at hg <;> simp only [Option.some.injEq, Prod.mk.injEq, reduceCtorEq] at hg
    rename_i g' fi' ca'
    obtain ⟨rfl, rfl, rfl⟩ := hg
    obtain ⟨F, C, rfl, hlf, hlc, hrf, hrc⟩ := hfv.func_inv
    refine ⟨{ target := .fn (.func g') C, args := F ++ #[] }, fun w => by simp [Deferred.ofValue, Sem.run_pure], ?_⟩
    simp only [] at hb
    obtain ⟨r0, hr0, hend⟩ := Option.bind_eq_some_iff.1 hb
    have hxs : ∀ {G' : Gh} {h' : Heap} {w' : World}, Ext G h w G' h' w' → RelVs G' h' (fi' ++ ca') (F ++ #[] ++ C) := by
      intro G' h' w' x
      refine ⟨by simp [hlf, hlc], fun j u hu => ?_⟩
      rw [Array.getD_eq_getD_getElem?]
      by_cases h1 : j < fi'.length
      · rw [List.getElem?_append_left h1] at hu
        have := (hrf j u hu).mono x.toMono
        rw [Array.getD_eq_getD_getElem?] at this
        simpa [Array.getElem?_append, ← hlf, h1] using this
      · rw [List.getElem?_append_right (by omega)] at hu
        have := (hrc _ u hu).mono x.toMono
        rw [Array.getD_eq_getD_getElem?] at this
        simpa [Array.getElem?_append, ← hlf, h1] using this
    have hdf : a.defers = [] := s.df
    -- the end, whichever way it was reached
    have leave : ∀ (pv : Option AVal) (PV : Option Value) (G2 : Gh) (h2 : Heap) (w2 : World) (a2 : Act) (h3 : Heap) (pk : List AVal), Ext G h w G2 h2 w2 → Inv G2 h2 w2 → (∀ v, pv = some v → ∃ V, PV = some V ∧ RelV G2 h2 v V) → (pv = none → PV = none) →
        JD L { a with defers := { target := .fn (.func g') C, args := F ++ #[] } :: a.defers } a2 → evalRec cx g' (fi' ++ ca') pv h2 = some h3 → r = (.ret, pk, h3) → Slots (fun _ => True) G2 h2 (unpack cx.n L pk) a2 →
        Leaves cx.P fn a2.tmps RE a2.defers (enterMode PV) w2 := by
      intro pv PV G2 h2 w2 a2 h3 pk x2 i2 hv1 hv2 hj hrec hr s2
      have hd2 : a2.defers = [{ target := .fn (.func g') C, args := F ++ #[] }] := by rw [hj.1, hdf]
      obtain ⟨hin, hcd⟩ := evalRec_sound hm hX hK hlp hrec i2 (gl.mono x2.hmono) (hxs x2) hv1 hv2
      rw [hd2]
      refine leaves_cons (by cases PV <;> simp [enterMode]) (f := g') (args := F ++ #[] ++ C) (by simpa [invoke] using hin w2) ?_
      refine hcd.mono fun e u' w' hpost => ?_
      obtain ⟨⟨v, rfl⟩, rfl, G', x3, i3⟩ := hpost
      have hset : settle (leftMode PV) = .returning := by cases PV <;> simp [settle, leftMode]
      simp only [hset]
      subst hr
      exact hfin a2 G' w' rfl (x2.trans x3) i3 (s2.mono x3.toMono)
    refine evalCode_sound (cx := { cx with pan := true }) (J := JD L { a with defers := { target := .fn (.func g') C, args := F ++ #[] } :: a.defers }) hm hX hK hlp b L ρ h _ _ r0 G w _ _ (okDst_jok hok) hr0 i gl (s.any (J' := JD L _) ⟨rfl, rfl, fun _ _ => rfl⟩ |> fun s => ⟨s.len, s.rel, ⟨rfl, rfl, fun _ _ => rfl⟩⟩) hn
      ⟨fun ρ2 h2 G2 w2 a2 e2 x2 i2 s2 hn2 => ?_, fun e ρ2 h2 G2 w2 a2 e2 x2 i2 s2 hn2 => ?_, fun v ρ2 h2 G2 w2 a2 V e2 x2 i2 rv hj => ?_⟩
    · cases e2
      obtain ⟨h3, hrec, hr⟩ := Option.map_eq_some_iff.1 hend
      exact leave none none G2 h2 w2 a2 h3 _ x2 i2 (by simp) (by simp) s2.df hrec hr.symm ((s2.pack hn2).any trivial)
    · cases e2
      cases e with
      | ret =>
        obtain ⟨h3, hrec, hr⟩ := Option.map_eq_some_iff.1 hend
        exact leave none none G2 h2 w2 a2 h3 _ x2 i2 (by simp) (by simp) s2.df hrec hr.symm ((s2.pack hn2).any trivial)
      | exit id => cases hend
      | _ => trivial
    · cases e2
      obtain ⟨h3, hrec, hr⟩ := Option.map_eq_some_iff.1 hend
      refine leave (some v) (some V) G2 h2 w2 a2 h3 _ x2 i2 (fun u hu => by cases hu; exact ⟨V, rfl, rv⟩) (by simp) hj hrec hr.symm ⟨?_, fun j u hu => ?_, trivial⟩
      · rw [unpack_length, ← hn, s.len]
        exact hj.2.1.symm
      · rcases unpackFrom_bit _ _ _ _ _ hu with rfl | hbit
        · exact .p _ _ (.junk _)
        · rcases unpack_map (f := id) hn j u (by simpa using hu) with rfl | ⟨u', hu', he⟩
          · exact .p _ _ (.junk _)
          · rw [Nat.zero_add] at hbit
            rw [hj.2.2 j hbit]
            have he : u = u' := he
            subst he
            exact (s.rel j u hu').mono x2.toMono

theorem lastDefer_spec {os : List Oper} {f : Operand} (hl : lastDefer os = some f) : ∃ o c, os.getLast? = some o ∧ o.guard = none ∧ o.op = .defer c ∧ c.callee = .value f ∧ c.args = #[] ∧ o.dst = none := by
  unfold lastDefer at hl
  obtain ⟨o, h1, h2⟩ := Option.bind_eq_some_iff.1 hl
  unfold deferOf at h2
  split at h2
  · rename_i c hg ho
    split at h2
    · rename_i f' hc
      cases he : c.args.isEmpty && o.dst.isNone with
      | false => rw [he] at h2; cases h2
      | true =>
        rw [he] at h2
        simp only [Bool.and_eq_true, Array.isEmpty_iff, Option.isNone_iff_eq_none] at he
        cases h2
        exact ⟨o, c, h1, hg, ho, hc, he.1, he.2⟩
    · cases h2
  · cases h2

theorem evalPre_sound {fn : Func} {RE : Ending → World → Prop} (hm : cx.P.follows .mixedOrders = true) (hX : ExtOk cx.P cx.A) (hK : SoundK cx.P cx.A cx.K) (hlp : LpOk cx.lp) (hpan : cx.pan = false) : ∀ (c : Code) (L : Nat) (ρ : List AVal) (h : Heap) (r : R) (G : Gh) (w : World) (a : Act),
    evalPre cx c L ρ h = some r → Inv G h w → GlobOk cx.A G.H → Slots (fun a => a.defers = []) G h ρ a → ρ.length = cx.n →
    (∀ (a' : Act) G' w', r.1 = .ret → Ext G h w G' r.2.2 w' → Inv G' r.2.2 w' → Slots (fun _ => True) G' r.2.2 (unpack cx.n L r.2.1) a' → ∃ v, (results fn a'.tmps).run cx.P w' = .ok v w' ∧ RE (.returned v) w') →
    c.wp cx.P (bodyPostD cx.P fn RE) a w := by
  intro c
  induction c with
  | seq x y ihx ihy =>
    intro L ρ h r G w a hb i gl s hn hfin
    -- a piece ahead of the 'defer'
    have piece : evalCode cx x (L ||| ue cx.full y) ρ h (fun ρ' h' => evalPre cx y L ρ' h') (packD L) = some r → (Code.seq x y).wp cx.P (bodyPostD cx.P fn RE) a w := by
      intro hb
      refine wp_seq (evalCode_sound (J := fun a => a.defers = []) hm hX hK hlp x _ ρ h _ _ r G w a _ (jok_defers x) hb i gl s hn ⟨fun ρ2 h2 G2 w2 a2 e2 x2 i2 s2 hn2 => ?_, fun e ρ2 h2 G2 w2 a2 e2 x2 i2 s2 hn2 => ?_, fun v ρ2 h2 G2 w2 a2 V e2 x2 i2 rv hj => ?_⟩)
      · exact ihy L ρ2 h2 r G2 w2 a2 e2 i2 (gl.mono x2.hmono) s2 hn2 fun a' G' w' hr x3 i3 s3 => hfin a' G' w' hr (x2.trans x3) i3 s3
      · cases e with
        | ret =>
          cases e2
          show Leaves cx.P fn a2.tmps RE a2.defers .returning w2
          have hd2 : a2.defers = [] := s2.df
          rw [hd2]
          exact hfin a2 G2 w2 rfl x2 i2 ((s2.pack hn2).any trivial)
        | exit id => cases e2
        | _ => trivial
      · cases e2
    cases x with
    | region id ops draw =>
      cases draw with
      | true => simp only [evalPre] at hb; exact piece hb
      | false =>
        simp only [evalPre] at hb
        cases hl : lastDefer ops.toList with
        | none => simp only [hl] at hb; exact piece hb
        | some f =>
          simp only [hl] at hb
          obtain ⟨o, cl, h1, hgu, hop, hcal, hargs, hdst⟩ := lastDefer_spec hl
          rw [evalItems_len cx.n _ _ _ _ hn] at hb
          have hsz : List.range ops.size = ((plainItems ops.toList).dropLast).map (·.i) ++ [ops.size - 1] := by
            have hne : ops.toList ≠ [] := by intro h0; rw [h0] at h1; cases h1
            have hlen : (plainItems ops.toList).length = ops.size := by simp [plainItems]
            have hm1 : ((plainItems ops.toList).dropLast).map (·.i) = (List.range ops.size).dropLast := by rw [List.map_dropLast, plainItems_spec.1]
            rw [hm1]
            have hpos : 0 < ops.size := by rw [← Array.length_toList]; exact List.length_pos_iff.2 hne
            obtain ⟨m, hmm⟩ : ∃ m, ops.size = m + 1 := ⟨ops.size - 1, by omega⟩
            rw [hmm, List.range_succ, List.dropLast_concat]
            rfl
          have hlast : ops[ops.size - 1]? = some o := by
            rw [← Array.getElem?_toList]
            rw [List.getLast?_eq_getElem?] at h1
            simpa using h1
          refine wp_seq (wp_region ?_)
          rw [hsz]
          refine items_plainL (J := fun a => a.defers = []) [ops.size - 1] (fun o _ a V h => by cases o.dst <;> exact h) hX hK _ [] ρ h G w a (fun it hit => plainItems_spec.2 it ((List.dropLast_sublist _).subset hit)) hb i gl s (fun ρ2 h2 G2 w2 a2 e2 x2 i2 s2 => ?_) (fun v h2 G2 w2 V a2 e2 => by cases e2)
          split at e2
          case isFalse => cases e2
          rename_i hn2
          obtain ⟨d, hd, hwp⟩ := evalRest_sound (fn := fn) (RE := RE) hm hX hK hlp e2 i2 (gl.mono x2.hmono) s2 hn2 (s2.eval (gl.mono x2.hmono) f) fun a' G' w' hr x3 i3 s3 => hfin a' G' w' hr (x2.trans x3) i3 s3
          have hrun : (execOp a2.eval o).run cx.P w2 = .ok (.defer d) w2 := by
            simp [execOp, hop, resolve, hcal, hargs, Sem.run_bind, Sem.run_pure, hd w2]
          simp only [wpOps, hlast]
          rw [if_pos (by simp [Region.wanted, hgu])]
          left
          unfold Oper.wp
          rw [hrun, Oper.upon_defer, hdst]
          exact hwp
    | _ => simp only [evalPre] at hb; exact piece hb
  | _ => intro L ρ h r G w a hb; simp [evalPre] at hb
end
end Hk

/-
  A CALL THAT SEES THE BLOCKS ALONE THAT ITS ARGUMENTS LEAD TO.
-/
namespace Hk
open Go Go.RowKit

def sameShape : ABlk → ABlk → Prop
  | .free, .free => True
  | .gone, .gone => True
  | .cells _, .cells _ => True
  | .front n sz, .front n' sz' => n = n' ∧ sz = sz'
  | .vec _ _ _, .vec _ _ _ => True
  | .map _, .map _ => True
  | _, _ => False
theorem sameShape_ren {f : Nat → Nat} (b : ABlk) : sameShape b (b.ren f) := by cases b <;> simp [sameShape, ABlk.ren]
/-- How the blocks of two heaps answer each other. -/
structure RenOk (G : Gh) (h : Heap) (G2 : Gh) (h2 : Heap) (f : Nat → Nat) (p : Nat → Bool) : Prop where
  hmono : ∀ b k v, G.H b k = some v → G2.H b k = some v
  blk : ∀ id b, p id = true → h[id]? = some b → ∃ b2, h2[f id]? = some b2 ∧ sameShape b b2
  pl : ∀ id, p id = true → G2.blk (f id) = G.blk id
  cur : ∀ id, p id = true → G2.cur (f id) = G.cur id
section
variable {G G2 : Gh} {h h2 : Heap} {f : Nat → Nat} {p : Nat → Bool}
theorem RenOk.live (m : RenOk G h G2 h2 f p) {id : Nat} (hp : p id = true) (hl : live h id) : live h2 (f id) := by
  obtain ⟨b, h1, hn⟩ := hl
  obtain ⟨b2, h3, h4⟩ := m.blk id b hp h1
  exact ⟨b2, h3, by cases b <;> cases b2 <;> simp_all [sameShape]⟩
theorem RenOk.nf (m : RenOk G h G2 h2 f p) {id : Nat} (hp : p id = true) (hl : noFront h id) : noFront h2 (f id) := by
  obtain ⟨b, h1, hn, hf⟩ := hl
  obtain ⟨b2, h3, h4⟩ := m.blk id b hp h1
  exact ⟨b2, h3, by cases b <;> cases b2 <;> simp_all [sameShape], by cases b <;> cases b2 <;> simp_all [sameShape]⟩
theorem ren0_rel (m : RenOk G h G2 h2 f p) {v : AVal} {V : Value} (r : RelV G h v V) (hok : v.ok0 p = true) : RelV G2 h2 (v.ren0 f) V := by
  cases r with
  | p v V hp =>
    have e : v.ren0 f = v := by cases hp <;> rfl
    rw [e]; exact .p _ _ (hp.mono m.hmono)
  | agg cs C hl hh => cases hok
  | tuple cs C hl hh => cases hok
  | nil => exact .nil
  | own rows id n sz V hp hf hn hr hc =>
    have hq : p id = true := hok
    obtain ⟨b2, h3, h4⟩ := m.blk id _ hq hf
    cases b2 <;> simp only [sameShape] at h4
    obtain ⟨rfl, rfl⟩ := h4
    exact .own rows (f id) n sz V (hp.mono m.hmono) h3 hn hr fun e => by rw [m.cur id hq]; exact hc e
  | ownv id V hp hb => exact .ownv (f id) V (hp.mono m.hmono) (m.nf hok hb)
  | vslice id tot off len sz b cap hl ht hc hv =>
    have hq : p id = true := hok
    refine .vslice (f id) tot off len sz b cap (m.nf hq hl) ?_ hc ?_
    · rw [m.cur id hq]; exact ht
    · rw [m.cur id hq]; exact hv
  | vptr id tot off b hl ht hv =>
    have hq : p id = true := hok
    refine .vptr (f id) tot off b (m.nf hq hl) ?_ ?_
    · rw [m.cur id hq]; exact ht
    · rw [m.cur id hq]; exact hv
  | ptr id off hl =>
    have hq : p id = true := hok
    rw [← m.pl id hq]; exact .ptr (f id) off (m.live hq hl)
  | mslice id off len sz cap hl hc =>
    have hq : p id = true := hok
    rw [← m.pl id hq]; exact .mslice (f id) off len sz cap (m.live hq hl) hc
  | mslice0 id off sz cap a => exact .mslice0 (f id) off sz cap a
  | map id hl =>
    have hq : p id = true := hok
    rw [← m.pl id hq]; exact .map (f id) (m.live hq hl)
  | func g first cap F C hlf hlc hf hc =>
    simp only [AVal.ok0, Bool.and_eq_true, List.isEmpty_iff] at hok
    obtain ⟨rfl, rfl⟩ := hok
    exact .func g [] [] F C hlf hlc (fun i v hv => by simp at hv) (fun i v hv => by simp at hv)
  | iface t v V hh => cases hok
theorem ren_rel (m : RenOk G h G2 h2 f p) {v : AVal} {V : Value} (r : RelV G h v V) (hok : v.ok p = true) : RelV G2 h2 (v.ren f) V := by
  have agg : ∀ (cs : List AVal) (V : Value), cs.all (AVal.ok0 p) = true → RelV G h (.agg cs) V → RelV G2 h2 (.agg (cs.map (AVal.ren0 f))) V := by
    intro cs V hk hx
    obtain ⟨C, rfl, hl, hr⟩ := hx.agg_inv
    refine .agg _ _ (by simpa using hl) fun i u hu => ?_
    simp only [List.getElem?_map, Option.map_eq_some_iff] at hu
    obtain ⟨a, ha, rfl⟩ := hu
    exact ren0_rel m (hr i a ha) (List.all_eq_true.1 hk a (List.mem_of_getElem? ha))
  cases v with
  | agg cs => exact agg cs V hok r
  | tuple vs =>
    obtain ⟨C, rfl, hl, hr⟩ := r.tuple_inv
    simp only [AVal.ok, List.all_eq_true] at hok
    refine .tuple _ _ (by simpa using hl) fun i u hu => ?_
    simp only [List.getElem?_map, Option.map_eq_some_iff] at hu
    obtain ⟨a, ha, rfl⟩ := hu
    have h1 := hr i a ha
    have h2 := hok a (List.mem_of_getElem? ha)
    cases a <;> first | exact agg _ _ h2 h1 | exact ren0_rel m h1 h2
  | _ => exact ren0_rel m r hok
theorem ren0_cellOk {v : AVal} (h : v.cellOk = true) : (v.ren0 f).cellOk = true := by
  cases v <;> first | exact h | rfl | skip
  rename_i rows t
  cases t <;> rfl
theorem BlkOk.ren {w : World} {id j : Nat} {b : ABlk} (m : RenOk G h G2 h2 f p) (hH : G2.H = G.H) (hb : G2.blk j = G.blk id) (hc : G2.cur j = G.cur id) (hok : b.ok p = true)
    (hk : BlkOk G h w id b) : BlkOk G2 h2 w j (b.ren f) := by
  cases b with
  | free => trivial
  | gone => trivial
  | cells cs =>
    obtain ⟨C, e, h1, h2', h3, h4⟩ := hk
    refine ⟨C, e, by rw [hb]; exact h1, by rw [List.length_map]; exact h2', by rw [hb, hH]; exact h3, fun i v hv => ?_⟩
    rw [List.getElem?_map] at hv
    obtain ⟨u, hu, rfl⟩ := Option.map_eq_some_iff.1 hv
    exact ⟨ren0_cellOk (h4 i u hu).1, ren0_rel m (h4 i u hu).2 (List.all_eq_true.1 hok u (List.mem_of_getElem? hu))⟩
  | front n sz =>
    show BlkOk G2 h2 w j (.front n sz)
    simp only [BlkOk] at hk ⊢
    rw [hc, hH]; exact hk
  | vec tot sz cs =>
    obtain ⟨b, cap, C, e, h1, h2', h3, h4, h5, h6, h7, h8, h9⟩ := hk
    refine ⟨b, cap, C, e, by rw [hc]; exact h1, h2', h3, h4, h5, h6, by rw [List.length_map]; exact h7, by rw [hH]; exact h8, fun i v hv => ?_⟩
    rw [List.getElem?_map] at hv
    obtain ⟨u, hu, rfl⟩ := Option.map_eq_some_iff.1 hv
    exact ⟨ren0_cellOk (h9 i u hu).1, ren0_rel m (h9 i u hu).2 (List.all_eq_true.1 hok u (List.mem_of_getElem? hu))⟩
  | map es =>
    obtain ⟨E, c, h1, h2', h3, h4, h5⟩ := hk
    refine ⟨E, c, by rw [hb]; exact h1, by rw [List.length_map]; exact h2', by rw [hb, hH]; exact h3, fun i kv hv => ?_, h5⟩
    rw [List.getElem?_map] at hv
    obtain ⟨u, hu, rfl⟩ := Option.map_eq_some_iff.1 hv
    obtain ⟨mm, a1, a2, a3, a4⟩ := h4 i u hu
    have hok' : (es.all fun e => e.2.ok0 p) = true := hok
    exact ⟨mm, a1, a2, by rw [hH]; exact a3, ren0_rel m a4 (List.all_eq_true.1 hok' u (List.mem_of_getElem? hu))⟩
theorem ownerB_ren {id j : Nat} {b : ABlk} (hb : G2.blk j = G.blk id) (hc : G2.cur j = G.cur id) : ownerB G2 j (b.ren f) = ownerB G id b := by
  cases b <;> simp [ABlk.ren, ownerB, hb, hc]
end

theorem idxN_spec : ∀ {l : List Nat} {i : Nat}, i ∈ l → l[idxN l i]? = some i
  | [], i, h => by simp at h
  | a :: r, i, h => by
    unfold idxN
    cases hab : a == i with
    | true =>
      have : a = i := by simpa using hab
      subst this; rfl
    | false =>
      have hne : a ≠ i := by simpa using hab
      have hm : i ∈ r := by
        rcases List.mem_cons.1 h with h | h
        · exact absurd h.symm hne
        · exact h
      simp only [cond_false, List.getElem?_cons_succ]
      exact idxN_spec hm
theorem distinctN_inj : ∀ {l : List Nat}, distinctN l = true → ∀ {i j a : Nat}, l[i]? = some a → l[j]? = some a → i = j
  | [], _, i, j, a, h, _ => by simp at h
  | b :: r, hd, i, j, a, hi, hj => by
    simp only [distinctN, Bool.and_eq_true, Bool.not_eq_true'] at hd
    have hnb : ∀ k, r[k]? = some b → False := fun k hk => by
      have := List.mem_of_getElem? hk
      have h1 : r.contains b = true := by simpa using this
      rw [hd.1] at h1; cases h1
    cases i with
    | zero =>
      cases j with
      | zero => rfl
      | succ j => simp at hi hj; subst hi; exact (hnb j hj).elim
    | succ i =>
      cases j with
      | zero => simp at hi hj; subst hj; exact (hnb i hi).elim
      | succ j => have := distinctN_inj hd.2 (i := i) (j := j) (by simpa using hi) (by simpa using hj); omega
theorem putBack_out : ∀ {is : List Nat} {bs : Heap} {h : Heap} {id : Nat}, ¬ id ∈ is → (putBack is bs h)[id]? = h[id]?
  | [], _, _, _, _ => rfl
  | i :: is, [], _, _, _ => rfl
  | i :: is, b :: bs, h, id, hn => by
    rw [putBack, putBack_out (fun hm => hn (by simp [hm])), List.getElem?_set_ne (fun e => hn (by simp [e]))]
theorem putBack_in : ∀ {is : List Nat} {bs : Heap} {h : Heap} {j id : Nat} {b : ABlk}, distinctN is = true → is[j]? = some id → bs[j]? = some b → id < h.length → (putBack is bs h)[id]? = some b
  | [], _, _, _, _, _, _, h, _, _ => by simp at h
  | i :: is, [], _, _, _, _, _, _, h, _ => by simp at h
  | i :: is, c :: bs, h, j, id, b, hd, hi, hb, hl => by
    simp only [distinctN, Bool.and_eq_true, Bool.not_eq_true'] at hd
    rw [putBack]
    cases j with
    | zero =>
      simp at hi hb; subst hi; subst hb
      rw [putBack_out (fun hm => by
        have h1 : is.contains i = true := by simpa using hm
        rw [hd.1] at h1; cases h1)]
      simp [hl]
    | succ j => exact putBack_in hd.2 (by simpa using hi) (by simpa using hb) (by simpa using hl)

theorem addN_pre : ∀ {r acc : List Nat}, ∃ l, addN acc r = acc ++ l
  | [], acc => ⟨[], by simp [addN]⟩
  | i :: r, acc => by
    obtain ⟨l, hl⟩ := addN_pre (r := r) (acc := bif acc.contains i then acc else acc ++ [i])
    rw [addN, hl]
    cases acc.contains i with
    | true => exact ⟨l, rfl⟩
    | false => exact ⟨i :: l, by simp⟩
theorem finO_sound {G G' : Gh} {h h' h2 : Heap} {w w' : World} {v : AVal} {V : Value} {r : Res} (hb : finO h.length v h' = some (r, h2)) (x : Ext G h w G' h' w') (i : Inv G' h' w') (hv : RelV G' h' v V) :
    CallPost G h w r h2 (.returned V) w' := by
  unfold finO at hb
  obtain ⟨rest, hids⟩ := addN_pre (r := reach h' [v]) (acc := List.range h.length)
  have hids : outIds h.length v h' = List.range h.length ++ rest := hids
  generalize outIds h.length v h' = ids at *
  unfold finOi at hb
  cases ho : v.ok (fun i => ids.contains i) && selOk ids h' with
  | false => rw [ho] at hb; cases hb
  | true =>
    rw [ho] at hb
    simp only [cond_true, Option.some.injEq, Prod.mk.injEq] at hb
    obtain ⟨rfl, rfl⟩ := hb
    simp only [selOk, Bool.and_eq_true, List.all_eq_true] at ho
    obtain ⟨hvok, hdis, hiok⟩ := ho
    have hmem : ∀ {id : Nat}, ids.contains id = true ↔ id ∈ ids := by intro id; simp
    have hblk : ∀ id, id ∈ ids → ∃ b, h'[id]? = some b ∧ b.ok (fun i => ids.contains i) = true := by
      intro id hid
      have := hiok id hid
      cases hg : h'[id]? with
      | none => rw [hg] at this; cases this
      | some b => rw [hg] at this; exact ⟨b, rfl, this⟩
    let Gs : Gh := { H := G'.H, blk := fun j => G'.blk (ids.getD j 0), cur := fun j => G'.cur (ids.getD j 0) }
    have getj : ∀ {j id : Nat}, ids[j]? = some id → ids.getD j 0 = id := fun hj => by rw [List.getD_eq_getElem?_getD, hj]; rfl
    have sg : ∀ {j id : Nat} {b : ABlk}, ids[j]? = some id → h'[id]? = some b → (subH ids h')[j]? = some (b.ren (idxN ids)) := by
      intro j id b hj hbb
      unfold subH
      rw [List.getElem?_map, hj]
      simp [List.getD_eq_getElem?_getD, hbb]
    have m1 : RenOk G' h' Gs (subH ids h') (idxN ids) (fun i => ids.contains i) := ⟨fun _ _ _ h => h, fun id b hp hbb => ⟨_, sg (idxN_spec (hmem.1 hp)) hbb, sameShape_ren b⟩,
      fun id hp => by show G'.blk _ = _; rw [getj (idxN_spec (hmem.1 hp))], fun id hp => by show G'.cur _ = _; rw [getj (idxN_spec (hmem.1 hp))]⟩
    have sinv : ∀ {j : Nat} {bl : ABlk}, (subH ids h')[j]? = some bl → ∃ id b, ids[j]? = some id ∧ h'[id]? = some b ∧ b.ok (fun i => ids.contains i) = true ∧ bl = b.ren (idxN ids) := by
      intro j bl hj
      have hj2 := hj
      unfold subH at hj
      rw [List.getElem?_map] at hj
      obtain ⟨id, hid, _⟩ := Option.map_eq_some_iff.1 hj
      obtain ⟨b, hb1, hb2⟩ := hblk id (List.mem_of_getElem? hid)
      rw [sg hid hb1] at hj2
      exact ⟨id, b, hid, hb1, hb2, (Option.some.inj hj2).symm⟩
    have sown : ∀ {j id : Nat}, ids[j]? = some id → owner Gs (subH ids h') j = owner G' h' id := by
      intro j id hj
      obtain ⟨b, hb1, _⟩ := hblk id (List.mem_of_getElem? hj)
      rw [owner_eq (sg hj hb1), owner_eq hb1]
      exact ownerB_ren (by show G'.blk _ = _; rw [getj hj]) (by show G'.cur _ = _; rw [getj hj])
    have sown2 : ∀ {j b : Nat}, owner Gs (subH ids h') j = some b → ∃ id, ids[j]? = some id ∧ owner G' h' id = some b := by
      intro j b hj
      obtain ⟨bl, hbl, _⟩ := owner_some hj
      obtain ⟨id, b0, hid, _⟩ := sinv hbl
      exact ⟨id, hid, by rw [← sown hid]; exact hj⟩
    have low : ∀ {j : Nat}, j < h.length → ids[j]? = some j := fun hj => by
      rw [hids, List.getElem?_append_left (by simpa using hj), List.getElem?_range hj]
    have is : Inv Gs (subH ids h') w' := ⟨i.ok, fun j bl hj => by
        obtain ⟨id, b, hid, hb1, hb2, rfl⟩ := sinv hj
        exact (i.blk id b hb1).ren m1 rfl (by show G'.blk _ = _; rw [getj hid]) (by show G'.cur _ = _; rw [getj hid]) hb2,
      fun a c b ha hc => by
        obtain ⟨ia, h1, h2⟩ := sown2 ha
        obtain ⟨ic, h3, h4⟩ := sown2 hc
        have := i.inj ia ic b h2 h4
        subst this
        exact distinctN_inj hdis h1 h3⟩
    refine ⟨Gs, ⟨x.os, x.tape, x.output, x.size, fun b hlt hno => x.frame b hlt hno, x.hmono, fun j b hob hlt => ?_, fun id bl hbl => ?_⟩, is, V, rfl, ren_rel m1 hv hvok⟩
    · obtain ⟨id, hid, h1⟩ := sown2 hob
      have h2 := x.own id b h1 hlt
      obtain ⟨bl, hbl, _⟩ := owner_some h2
      have hlt2 := (List.getElem?_eq_some_iff.1 hbl).1
      have : j = id := distinctN_inj hdis hid (low hlt2)
      rw [this]; exact h2
    · have hlt := (List.getElem?_eq_some_iff.1 hbl).1
      obtain ⟨bl', hb1, hk1⟩ := x.kinds id bl hbl
      refine ⟨_, sg (low hlt) hb1, ?_⟩
      have e1 : Gs.blk id = G'.blk id := by show G'.blk _ = _; rw [getj (low hlt)]
      have e2 : Gs.cur id = G'.cur id := by show G'.cur _ = _; rw [getj (low hlt)]
      cases bl <;> cases bl' <;> simp only [ABlk.ren, Kind, List.length_map] at hk1 ⊢ <;> first | exact hk1.elim | (rw [e1, e2]; exact hk1) | (rw [e1]; exact hk1) | trivial

section
variable {P : Program} {A : Ann} {K : CallO}
theorem subI_sound {ids : List Nat} {f : Nat} {args : List AVal} {h : Heap} {r : Res} {h' : Heap} (hK : SoundK P A K) (hb : subI K ids f args h = some (r, h')) {G : Gh} {w : World} {X : Array Value} (i : Inv G h w) (gl : GlobOk A G.H) (hx : RelVs G h args X) :
    (∀ w, (callFunc f X).run P w = .ok (.enter f X) w) ∧ Calls P f X w (CallPost G h w r h') := by
  unfold subI at hb
  cases ho : subOk ids args h with
  | false => rw [ho] at hb; cases hb
  | true =>
    rw [ho] at hb
    simp only [cond_true] at hb
    obtain ⟨⟨r1, h1⟩, hc, hb⟩ := Option.bind_eq_some_iff.1 hb
    unfold subBack at hb
    cases hk : h1.length == ids.length && (h1.all (ABlk.ok fun j => decide (j < ids.length)) && r1.ok fun j => decide (j < ids.length)) with
    | false => simp only [hk, cond_false] at hb; cases hb
    | true =>
    simp only [hk, cond_true, Option.some.injEq, Prod.mk.injEq] at hb
    obtain ⟨rfl, rfl⟩ := hb
    simp only [Bool.and_eq_true, beq_iff_eq, List.all_eq_true] at hk
    obtain ⟨hlen, hbok, hrok⟩ := hk
    simp only [subOk, Bool.and_eq_true, List.all_eq_true] at ho
    obtain ⟨haok, hdis, hiok⟩ := ho
    have hmem : ∀ {id : Nat}, ids.contains id = true ↔ id ∈ ids := by intro id; simp
    have hblk : ∀ id, id ∈ ids → ∃ b, h[id]? = some b ∧ b.ok (fun i => ids.contains i) = true := by
      intro id hid
      have := hiok id hid
      cases hg : h[id]? with
      | none => rw [hg] at this; cases this
      | some b => rw [hg] at this; exact ⟨b, rfl, this⟩
    -- the blocks that the callee sees
    let Gs : Gh := { H := G.H, blk := fun j => G.blk (ids.getD j 0), cur := fun j => G.cur (ids.getD j 0) }
    have getj : ∀ {j id : Nat}, ids[j]? = some id → ids.getD j 0 = id := fun hj => by rw [List.getD_eq_getElem?_getD, hj]; rfl
    have sg : ∀ {j id : Nat} {b : ABlk}, ids[j]? = some id → h[id]? = some b → (subH ids h)[j]? = some (b.ren (idxN ids)) := by
      intro j id b hj hbb
      unfold subH
      rw [List.getElem?_map, hj]
      simp [List.getD_eq_getElem?_getD, hbb]
    have m1 : RenOk G h Gs (subH ids h) (idxN ids) (fun i => ids.contains i) := ⟨fun _ _ _ h => h, fun id b hp hbb => ⟨_, sg (idxN_spec (hmem.1 hp)) hbb, sameShape_ren b⟩,
      fun id hp => by show G.blk _ = _; rw [getj (idxN_spec (hmem.1 hp))], fun id hp => by show G.cur _ = _; rw [getj (idxN_spec (hmem.1 hp))]⟩
    have sinv : ∀ {j : Nat} {bl : ABlk}, (subH ids h)[j]? = some bl → ∃ id b, ids[j]? = some id ∧ h[id]? = some b ∧ b.ok (fun i => ids.contains i) = true ∧ bl = b.ren (idxN ids) := by
      intro j bl hj
      have hj2 := hj
      unfold subH at hj
      rw [List.getElem?_map] at hj
      obtain ⟨id, hid, _⟩ := Option.map_eq_some_iff.1 hj
      obtain ⟨b, hb1, hb2⟩ := hblk id (List.mem_of_getElem? hid)
      rw [sg hid hb1] at hj2
      exact ⟨id, b, hid, hb1, hb2, (Option.some.inj hj2).symm⟩
    have sown : ∀ {j id : Nat}, ids[j]? = some id → owner Gs (subH ids h) j = owner G h id := by
      intro j id hj
      obtain ⟨b, hb1, _⟩ := hblk id (List.mem_of_getElem? hj)
      rw [owner_eq (sg hj hb1), owner_eq hb1]
      exact ownerB_ren (by show G.blk _ = _; rw [getj hj]) (by show G.cur _ = _; rw [getj hj])
    have sown2 : ∀ {j b : Nat}, owner Gs (subH ids h) j = some b → ∃ id, ids[j]? = some id ∧ owner G h id = some b := by
      intro j b hj
      obtain ⟨bl, hbl, _⟩ := owner_some hj
      obtain ⟨id, b0, hid, _⟩ := sinv hbl
      exact ⟨id, hid, by rw [← sown hid]; exact hj⟩
    have is : Inv Gs (subH ids h) w := ⟨i.ok, fun j bl hj => by
        obtain ⟨id, b, hid, hb1, hb2, rfl⟩ := sinv hj
        exact (i.blk id b hb1).ren m1 rfl (by show G.blk _ = _; rw [getj hid]) (by show G.cur _ = _; rw [getj hid]) hb2,
      fun a c b ha hc => by
        obtain ⟨ia, h1, h2⟩ := sown2 ha
        obtain ⟨ic, h3, h4⟩ := sown2 hc
        have := i.inj ia ic b h2 h4
        subst this
        exact distinctN_inj hdis h1 h3⟩
    have hxs : RelVs Gs (subH ids h) (args.map (AVal.ren (idxN ids))) X := ⟨by rw [List.length_map]; exact hx.1, fun j u hu => by
      rw [List.getElem?_map] at hu
      obtain ⟨v, hv, rfl⟩ := Option.map_eq_some_iff.1 hu
      exact ren_rel m1 (hx.2 j v hv) (haok v (List.mem_of_getElem? hv))⟩
    obtain ⟨e1, e2⟩ := hK f _ _ _ _ hc Gs w X is gl hxs
    refine ⟨e1, Calls.mono e2 fun e w' hpost => ?_⟩
    obtain ⟨Ge, x, ie, hpost⟩ := hpost
    -- back
    let G2 : Gh := { H := Ge.H, blk := fun id => if id ∈ ids then Ge.blk (idxN ids id) else G.blk id, cur := fun id => if id ∈ ids then Ge.cur (idxN ids id) else G.cur id }
    have idj : ∀ {j id : Nat}, ids[j]? = some id → idxN ids id = j := fun hj => distinctN_inj hdis (idxN_spec (List.mem_of_getElem? hj)) hj
    have b1 : ∀ {j id : Nat}, ids[j]? = some id → G2.blk id = Ge.blk j := fun hj => by
      show (if _ then _ else _) = _
      rw [if_pos (List.mem_of_getElem? hj), idj hj]
    have c1 : ∀ {j id : Nat}, ids[j]? = some id → G2.cur id = Ge.cur j := fun hj => by
      show (if _ then _ else _) = _
      rw [if_pos (List.mem_of_getElem? hj), idj hj]
    have b2 : ∀ {id : Nat}, ¬ id ∈ ids → G2.blk id = G.blk id := fun hn => if_neg hn
    have c2 : ∀ {id : Nat}, ¬ id ∈ ids → G2.cur id = G.cur id := fun hn => if_neg hn
    let back : Nat → Nat := fun j => ids.getD j 0
    let hN : Heap := putBack ids (h1.map (ABlk.ren back)) h
    have gin : ∀ {j id : Nat} {b : ABlk}, ids[j]? = some id → h1[j]? = some b → hN[id]? = some (b.ren back) := by
      intro j id b hj hbj
      obtain ⟨b0, hb0, _⟩ := hblk id (List.mem_of_getElem? hj)
      exact putBack_in hdis hj (by rw [List.getElem?_map, hbj]; rfl) (List.getElem?_eq_some_iff.1 hb0).1
    have gout : ∀ {id : Nat}, ¬ id ∈ ids → hN[id]? = h[id]? := fun hn => putBack_out hn
    have hjl : ∀ {j id : Nat}, ids[j]? = some id → ∃ b, h1[j]? = some b := fun hj => ⟨_, List.getElem?_eq_getElem (by rw [hlen]; exact (List.getElem?_eq_some_iff.1 hj).1)⟩
    have m2 : RenOk Ge h1 G2 hN back (fun j => decide (j < ids.length)) := by
      have gt : ∀ {j : Nat}, decide (j < ids.length) = true → ids[j]? = some (back j) := fun {j} hp => by
        have hlt : j < ids.length := by simpa using hp
        show _ = some (ids.getD j 0)
        rw [List.getD_eq_getElem?_getD, List.getElem?_eq_getElem hlt]; rfl
      exact ⟨fun _ _ _ h => h, fun j b hp hbj => ⟨_, gin (gt hp) hbj, sameShape_ren b⟩, fun j hp => b1 (gt hp), fun j hp => c1 (gt hp)⟩
    have own2 : ∀ {id b : Nat}, owner G2 hN id = some b → (∃ j, ids[j]? = some id ∧ owner Ge h1 j = some b) ∨ (¬ id ∈ ids ∧ owner G h id = some b) := by
      intro id b hob
      by_cases hid : id ∈ ids
      · obtain ⟨j, hj⟩ := List.getElem?_of_mem hid
        obtain ⟨bl, hbl⟩ := hjl hj
        refine .inl ⟨j, hj, ?_⟩
        rw [owner_eq (gin hj hbl)] at hob
        rw [owner_eq hbl, ← hob]
        exact (ownerB_ren (b1 hj) (c1 hj)).symm
      · refine .inr ⟨hid, ?_⟩
        obtain ⟨bl, hbl, ho2⟩ := owner_some hob
        rw [gout hid] at hbl
        rw [owner_eq hbl, ← ho2]
        cases bl <;> simp [ownerB, b2 hid, c2 hid]
    have xo : ∀ {id : Nat} {b : Nat}, ¬ id ∈ ids → owner G h id = some b → w'.heap[b]? = w.heap[b]? ∧ ∀ k, Ge.H b k = G.H b k := by
      intro id b hn hob
      obtain ⟨bl, hbl, hob2⟩ := owner_some hob
      refine x.frame b ((i.blk id bl hbl).lt hob2) fun j hj => ?_
      obtain ⟨id2, hj2, ho3⟩ := sown2 hj
      have := i.inj id id2 b hob ho3
      subst this
      exact hn (List.mem_of_getElem? hj2)
    have ownS : ∀ {id b : Nat}, owner G2 hN id = some b → b < w.heap.size → owner G h id = some b := by
      intro id b hob hlt
      rcases own2 hob with ⟨j, hj, h2⟩ | ⟨_, h2⟩
      · obtain ⟨id2, hj2, h3⟩ := sown2 (x.own j b h2 hlt)
        rw [hj] at hj2; cases hj2; exact h3
      · exact h2
    have kinds : ∀ id bl, h[id]? = some bl → ∃ bl', hN[id]? = some bl' ∧ Kind G G2 id bl bl' := by
      intro id bl hbl
      by_cases hid : id ∈ ids
      · obtain ⟨j, hj⟩ := List.getElem?_of_mem hid
        obtain ⟨bl', hb1, hk1⟩ := x.kinds j _ (sg hj hbl)
        refine ⟨_, gin hj hb1, ?_⟩
        have e1 : Gs.blk j = G.blk id := by show G.blk _ = _; rw [getj hj]
        have e2 : Gs.cur j = G.cur id := by show G.cur _ = _; rw [getj hj]
        cases bl <;> cases bl' <;> simp only [ABlk.ren, Kind, e1, e2, List.length_map] at hk1 ⊢ <;> first | exact hk1.elim | (rw [b1 hj, c1 hj]; exact hk1) | (rw [b1 hj]; exact hk1) | trivial
      · refine ⟨bl, by rw [gout hid]; exact hbl, ?_⟩
        cases bl <;> simp [Kind, b2 hid, c2 hid]
    have ext : Ext G h w G2 hN w' := ⟨x.os, x.tape, x.output, x.size, fun b hlt hno => x.frame b hlt fun j hj => by
        obtain ⟨id, _, ho3⟩ := sown2 hj
        exact hno id ho3, x.hmono, fun id b hob hlt => ownS hob hlt, kinds⟩
    refine ⟨G2, ext, ⟨ie.ok, fun id bl hbl => ?_, fun a c b ha hc => ?_⟩, ?_⟩
    · by_cases hid : id ∈ ids
      · obtain ⟨j, hj⟩ := List.getElem?_of_mem hid
        obtain ⟨b0, hb0⟩ := hjl hj
        have := gin hj hb0
        have hbl' : hN[id]? = some bl := hbl
        rw [this] at hbl'
        cases hbl'
        exact (ie.blk j b0 hb0).ren m2 rfl (b1 hj) (c1 hj) (hbok b0 (List.mem_of_getElem? hb0))
      · have hbl' : h[id]? = some bl := by rw [← gout hid]; exact hbl
        exact (i.blk id bl hbl').keep ext.toMono (b2 hid) (c2 hid) fun b hob => xo hid (by rw [owner_eq hbl']; exact hob)
    · rcases own2 ha with ⟨ja, hja, h2⟩ | ⟨hna, h2⟩
      · rcases own2 hc with ⟨jc, hjc, h3⟩ | ⟨hnc, h3⟩
        · have := ie.inj ja jc b h2 h3
          subst this
          rw [hja] at hjc; exact Option.some.inj hjc
        · obtain ⟨bl, hbl, hob⟩ := owner_some h3
          have := ownS ha ((i.blk c bl hbl).lt hob)
          exact i.inj a c b this h3
      · rcases own2 hc with ⟨jc, hjc, h3⟩ | ⟨hnc, h3⟩
        · obtain ⟨bl, hbl, hob⟩ := owner_some h2
          have := ownS hc ((i.blk a bl hbl).lt hob)
          exact i.inj a c b h2 this
        · exact i.inj a c b h2 h3
    · cases r1 with
      | ret v => obtain ⟨V, he, hV⟩ := hpost; exact ⟨V, he, ren_rel m2 hV hrok⟩
      | pan v => obtain ⟨V, he, hV⟩ := hpost; exact ⟨V, he, ren_rel m2 hV hrok⟩
end
end Hk

/-
  FUNCTIONS.
-/
namespace Hk
open Go Go.RowKit

section
variable {P : Program} {A : Ann} {K : CallO} {lp : LpT} {G : Gh} {h : Heap} {w : World}

theorem finish_sound {f : Nat} {v : AVal} {V : Value} {r : Res} {h' h2 : Heap} {G' : Gh} {w' : World} (hb : finish A f h.length v h' = some (r, h2)) (x : Ext G h w G' h' w') (i : Inv G' h' w') (hv : RelV G' h' v V) :
    CallPost G h w r h2 (.returned V) w' := by
  unfold finish at hb
  cases he : A.esc f with
  | true =>
    rw [he] at hb; cases hb
    exact ⟨G', x, i, V, rfl, hv⟩
  | false =>
    rw [he] at hb
    simp only [cond_false] at hb
    cases hg : A.grow f with
    | true =>
      rw [hg] at hb
      simp only [cond_true, finG, Option.map_eq_some_iff] at hb
      obtain ⟨h3, ht, hb⟩ := hb
      obtain ⟨G3, i3, x3, _, hrel, _⟩ := trunc_ok x i ht
      cases hb
      exact ⟨G3, x3, i3, V, rfl, hrel _ _ hv⟩
    | false =>
      rw [hg] at hb
      cases hz : A.frr f with
      | true =>
        rw [hz] at hb
        simp only [cond_true, cond_false, finF] at hb
        obtain ⟨y, hy, hb⟩ := Option.bind_eq_some_iff.1 hb
        obtain ⟨G1, i1, x1, r1⟩ := afreeze_sound i hy hv
        simp only [finR, Option.map_eq_some_iff] at hb
        obtain ⟨h3, ht, hb⟩ := hb
        obtain ⟨G3, i3, x3, _, hrel, _⟩ := trunc_ok (x.trans x1) i1 ht
        cases hb
        exact ⟨G3, x3, i3, V, rfl, untok_rel (hrel _ _ r1)⟩
      | false =>
      rw [hz] at hb
      cases hout : A.out f with
      | true =>
        rw [hout] at hb
        simp only [cond_true, cond_false] at hb
        exact finO_sound hb x i hv
      | false =>
        rw [hout] at hb
        simp only [cond_false, finR, Option.map_eq_some_iff] at hb
        obtain ⟨h3, ht, hb⟩ := hb
        obtain ⟨G3, i3, x3, _, hrel, _⟩ := trunc_ok x i ht
        cases hb
        exact ⟨G3, x3, i3, V, rfl, untok_rel (hrel _ _ hv)⟩

theorem aresults_some {ρ : List AVal} {x : Res × Heap} : ∀ {l : List ResultVar} {k : List AVal → Option (Res × Heap)}, aresults P ρ h l k = some x → ∃ vs, l.mapM (aresult P ρ h) = some vs ∧ k vs = some x
  | [], k, hb => ⟨[], rfl, hb⟩
  | .tmp t :: l, k, hb => by
    obtain ⟨vs, h1, h2⟩ := aresults_some (l := l) hb
    exact ⟨ρ.getD t .junk :: vs, by simp [List.mapM_cons, aresult, h1], h2⟩
  | .cell a t :: l, k, hb => by
    simp only [aresults] at hb
    split at hb
    · rename_i g n hg hn
      obtain ⟨v, hv, hb⟩ := Option.bind_eq_some_iff.1 hb
      obtain ⟨vs, h1, h2⟩ := aresults_some (l := l) hb
      exact ⟨v :: vs, by simp only [List.getD_eq_getElem?_getD] at hv; simp [List.mapM_cons, aresult, hg, hn, hv, h1], h2⟩
    · cases hb

theorem evalFn_sound {f : Nat} {fn : Func} {c : Code} {args : List AVal} {X : Array Value} {r : Res} {h' : Heap} (hm : P.follows .mixedOrders = true) (hX : ExtOk P A) (hK : SoundK P A K) (hlp : LpOk lp)
    (hf : P.funcs[f]? = some fn) (hc : fn.body = some c) (hb : evalFn P A K lp f fn c args h = some (r, h')) (i : Inv G h w) (gl : GlobOk A G.H) (hx : RelVs G h args X) (hn : args.length ≤ fn.ntmps) :
    Calls P f X w (CallPost G h w r h') := by
  unfold evalFn at hb
  obtain ⟨r0, hr0, hend⟩ := Option.bind_eq_some_iff.1 hb
  cases hd : A.dfr f with
  | true =>
    rw [hd] at hr0
    simp only [evalBody] at hr0
    refine calls_of_wp_defers hf hc ?_
    refine evalPre_sound (cx := { P, A, K, lp, n := fn.ntmps, full := 2 ^ fn.ntmps - 1, pan := false, vec := A.vecs f, frz := A.frz f, vlit := A.vlit f, vmk := A.vmk f, jt := A.jt f }) hm hX hK hlp rfl c _ _ h r0 G w _ hr0 i gl (relVs_slots hx hn) (by simp; omega) ?_
    intro a' G' w' he x2 i2 s2
    have hend' : aresults P (unpack fn.ntmps (resBits fn) r0.2.1) r0.2.2 fn.results.toList (fun vs => finish A f h.length (oneOf vs) r0.2.2) = some (r, h') := by
      unfold endFn at hend
      rw [he] at hend
      cases hp : A.pan f <;> rw [hp] at hend <;> exact hend
    obtain ⟨vs, hvs, hend'⟩ := aresults_some hend'
    obtain ⟨V, hV, hrel⟩ := results_sound hvs i2 s2
    exact ⟨V, hV, finish_sound hend' x2 i2 hrel⟩
  | false =>
  rw [hd] at hr0
  simp only [evalBody] at hr0
  refine calls_of_wp hf hc ?_
  refine evalCode_sound (cx := { P, A, K, lp, n := fn.ntmps, full := 2 ^ fn.ntmps - 1, pan := A.pan f, vec := A.vecs f, frz := A.frz f, vlit := A.vlit f, vmk := A.vmk f, jt := A.jt f }) hm hX hK hlp c _ _ h _ _ r0 G w _ _ (jok_defers c) hr0 i gl (relVs_slots hx hn) (by simp; omega) ?_
  have ret : ∀ (e : Ex) (ρ' : List AVal) (h1 : Heap) (G' : Gh) (w' : World) (a' : Act), (e = .normal ∨ e = .ret) → endFn P A f fn h.length e (unpack fn.ntmps (resBits fn) (pack (resBits fn) ρ')) h1 = some (r, h') → Ext G h w G' h1 w' → Inv G' h1 w' → Slots (fun a => a.defers = []) G' h1 ρ' a' → ρ'.length = fn.ntmps →
      a'.defers = [] ∧ ∃ v, (results fn a'.tmps).run P w' = .ok v w' ∧ CallPost G h w r h' (.returned v) w' := by
    intro e ρ' h1 G' w' a' he hend h3 h4 s hn'
    have s' := s.pack (L := resBits fn) hn'
    have hend' : aresults P (unpack fn.ntmps (resBits fn) (pack (resBits fn) ρ')) h1 fn.results.toList (fun vs => finish A f h.length (oneOf vs) h1) = some (r, h') := by
      unfold endFn at hend
      cases hp : A.pan f <;> rw [hp] at hend <;> rcases he with rfl | rfl <;> exact hend
    obtain ⟨vs, hvs, hend'⟩ := aresults_some hend'
    obtain ⟨V, hV, hrel⟩ := results_sound hvs h4 s'
    exact ⟨s.df, V, hV, finish_sound hend' h3 h4 hrel⟩
  refine ⟨fun ρ' h1 G' w' a' h2 h3 h4 h5 h6 => ?_, fun e ρ' h1 G' w' a' h2 h3 h4 h5 h6 => ?_, fun v ρ' h1 G' w' a' V h2 h3 h4 h5 h6 => ?_⟩
  · cases h2
    exact ret _ ρ' h1 G' w' a' (.inl rfl) hend h3 h4 h5 h6
  · cases h2
    cases e with
    | ret => exact ret _ ρ' h1 G' w' a' (.inr rfl) hend h3 h4 h5 h6
    | exit id => unfold endFn at hend; cases hp : A.pan f <;> rw [hp] at hend <;> cases hend
    | _ => trivial
  · cases h2
    unfold endFn at hend
    cases hp : A.pan f with
    | false => rw [hp] at hend; cases hend
    | true =>
      rw [hp] at hend
      simp only [cond_true, Ex.endP, finP, Option.map_eq_some_iff] at hend
      obtain ⟨h3', ht, hend⟩ := hend
      obtain ⟨G3, i3, x3, _, hrel, _⟩ := trunc_ok h3 h4 ht
      cases hend
      exact ⟨h6, G3, x3, i3, V, rfl, untok_rel (hrel _ _ h5)⟩

theorem aintKeys_spec : ∀ {es : List (AVal × AVal)} {ns : List Int}, aintKeys es = some ns → ns.length = es.length ∧
    ∀ (j : Nat) (kv : AVal × AVal), es[j]? = some kv → ∃ n m, ns[j]? = some n ∧ kv = (.int .i64 n, .int .i64 m) ∧ (Lit.int .i64 n).wf = true ∧ (Lit.int .i64 m).wf = true
  | [], ns, hb => by simp [aintKeys] at hb; subst hb; simp
  | kv :: r, ns, hb => by
    unfold aintKeys at hb
    split at hb
    · rename_i h0; cases h0
    · rename_i n m r' h0
      cases h0
      split at hb
      · rename_i hw
        obtain ⟨ns', h1, rfl⟩ := Option.map_eq_some_iff.1 hb
        obtain ⟨h2, h3⟩ := aintKeys_spec h1
        refine ⟨by simp [h2], fun j kv hkv => ?_⟩
        cases j with
        | zero => simp at hkv; subst hkv; exact ⟨n, m, rfl, rfl, hw⟩
        | succ j => simpa using h3 j kv (by simpa using hkv)
      · cases hb
    · cases hb

theorem sortC_sound {f : Nat} {args : List AVal} {r : Res} {h' : Heap} {X : Array Value} (hS : SortedOk P f) (hb : sortC args h = some (r, h')) (i : Inv G h w) (hx : RelVs G h args X) :
    (∀ w, (callFunc f X).run P w = .ok (.enter f X) w) ∧ Calls P f X w (CallPost G h w r h') := by
  refine ⟨fun w => hS.1 X w, ?_⟩
  unfold sortC at hb
  split at hb
  case h_2 => cases hb
  rename_i m
  obtain ⟨v, hv, hb⟩ := Option.map_eq_some_iff.1 hb
  cases hb
  unfold asortedKeys at hv
  split at hv
  case h_2 => cases hv
  rename_i id
  split at hv
  case h_2 => cases hv
  rename_i es hid
  split at hv
  case h_2 => cases hv
  rename_i ns hns
  split at hv
  case isFalse => cases hv
  rename_i hlen
  cases hv
  obtain ⟨h1, h2⟩ := aintKeys_spec hns
  obtain ⟨hX0, _⟩ := (hx.2 0 _ rfl).map_inv
  have hXe : X = #[.map (some (G.blk id))] := by
    obtain ⟨l⟩ := X
    match l, hx.1, hX0 with
    | [a], _, h0 => simp at h0; subst h0; rfl
  obtain ⟨E, clock, g1, g2, g3, g4, g5⟩ := i.blk id _ hid
  have hcells : ∀ (j : Nat) (x : MapEntry), E.toList[j]? = some x → ∃ n v, ns[j]? = some n ∧ x.key = .int .i64 n ∧ x.val = .int .i64 v ∧ (Lit.int .i64 n).wf = true ∧ (Lit.int .i64 v).wf = true := by
    intro j x hj
    have hlt : j < es.length := by rw [← g2, ← Array.length_toList]; exact (List.getElem?_eq_some_iff.1 hj).1
    obtain ⟨n, v, a1, a2, a3, a4⟩ := h2 j _ (List.getElem?_eq_getElem hlt)
    obtain ⟨mm, b1, b2, b3, b4⟩ := g4 j _ (List.getElem?_eq_getElem hlt)
    rw [Array.getElem?_toList] at hj
    rw [hj] at b1
    cases b1
    rw [a2] at b3 b4
    refine ⟨n, v, a1, ?_, b4.int_inv, a3, a4⟩
    generalize x.key = K at b3
    cases b3; rfl
  have hkeys : E.toList.map (·.key) = ns.map (Value.int .i64) := by
    apply List.ext_getElem?
    intro j
    rw [List.getElem?_map, List.getElem?_map]
    cases hj : E.toList[j]? with
    | none =>
      have : ns[j]? = none := List.getElem?_eq_none (by have := List.getElem?_eq_none_iff.1 hj; simp at this; omega)
      rw [this]; rfl
    | some x =>
      obtain ⟨n, v, a1, a2, _⟩ := hcells j x hj
      rw [a1]; simp [a2]
  rw [hXe]
  refine Calls.mono (hS.2 w (G.blk id) E clock ns g1 g5 hkeys (fun x hx => by
    obtain ⟨j, hj⟩ := List.getElem?_of_mem hx
    obtain ⟨n, v, _, _, a3, _, a5⟩ := hcells j x hj
    exact ⟨v, a3, a5⟩) (fun n hn => by
    obtain ⟨j, hj⟩ := List.getElem?_of_mem hn
    have hlt : j < es.length := by rw [← h1]; exact (List.getElem?_eq_some_iff.1 hj).1
    obtain ⟨n', v, a1, _, a3, _⟩ := h2 j _ (List.getElem?_eq_getElem hlt)
    rw [hj] at a1; cases a1; exact a3) hlen) fun e w' hpost => ?_
  obtain ⟨hbel, V, he, hV⟩ := hpost
  let G' : Gh := { G with H := fun b k => if b < w.heap.size then G.H b k else w'.cell? ⟨b, k, none⟩ }
  have hH : ∀ b k v, G.H b k = some v → G'.H b k = some v := fun b k v hv => by
    have := i.H_lt hv
    show (if b < w.heap.size then _ else _) = _
    rw [if_pos this]; exact hv
  have key := i.push (G' := G') (ext := []) (w' := w') hbel.os hbel.tape hbel.output hbel.size hbel.block (fun _ _ => rfl) (fun _ _ => rfl) hH (fun b k hb => if_pos hb)
    (fun b k v hb hv => by
      have hv : (if b < w.heap.size then G.H b k else w'.cell? ⟨b, k, none⟩) = some v := hv
      rwa [if_neg (by omega)] at hv)
    (fun j bl hj => by simp at hj) (fun j bl b hj => by simp at hj) (fun j j' bl bl' b hj => by simp at hj)
  rw [List.append_nil] at key
  refine ⟨G', key.2, key.1, V, he, .p _ _ ?_⟩
  rcases hV with ⟨rfl, a, cap, rfl⟩ | ⟨g, cap, rfl, hc, hg, hcell⟩
  · have e0 : (([] : List Int).mergeSort fun x y => decide (x ≤ y)) = [] := by simp
    rw [e0]; exact .slice0 a cap
  · have hml : (ns.mergeSort fun x y => decide (x ≤ y)).length = ns.length := List.length_mergeSort _
    have row : ∀ (i j : Nat) (row : List AVal) (v : AVal), ((ns.mergeSort fun x y => decide (x ≤ y)).map fun n => [AVal.int .i64 n])[i]? = some row → row[j]? = some v →
        ∃ n, (ns.mergeSort fun x y => decide (x ≤ y))[i * 1 + j]? = some n ∧ v = .int .i64 n := by
      intro i j row v hi hj
      rw [List.getElem?_map] at hi
      obtain ⟨n, hn, rfl⟩ := Option.map_eq_some_iff.1 hi
      cases j with
      | zero => simp at hj; subst hj; exact ⟨n, by simpa using hn, rfl⟩
      | succ j => simp at hj
    have := RelP.slice (H := G'.H) ((ns.mergeSort fun x y => decide (x ≤ y)).map fun n => [AVal.int .i64 n]) g 0 cap 1 (fun j => .int .i64 ((ns.mergeSort fun x y => decide (x ≤ y)).getD j 0)) (by simp) (by simp; omega)
      (fun i j r v hi hj => by
        obtain ⟨n, hn, rfl⟩ := row i j r v hi hj
        show (if g < w.heap.size then _ else _) = _
        rw [if_neg (by omega), Nat.zero_add, hcell _ _ hn, List.getD_eq_getElem?_getD, hn]; rfl)
      (fun i j r v hi hj => by obtain ⟨n, hn, rfl⟩ := row i j r v hi hj; rfl)
      (fun i j r v hi hj => by
        obtain ⟨n, hn, rfl⟩ := row i j r v hi hj
        rw [List.getD_eq_getElem?_getD, hn]; exact .int _ _)
    simpa [hml] using this

theorem aints_spec : ∀ {cs : List AVal} {xs : List Int}, aints cs = some xs → cs = xs.map (.int .i64)
  | [], xs, hb => by simp [aints] at hb; subst hb; rfl
  | v :: r, xs, hb => by
    unfold aints at hb
    split at hb
    · rename_i h0; cases h0
    · rename_i n r' h0
      cases h0
      obtain ⟨ys, h1, rfl⟩ := Option.map_eq_some_iff.1 hb
      rw [aints_spec h1]; rfl
    · cases hb
theorem func_rel {g' : Nat} {cp : List AVal} {F : Value} (hx : RelV G h (.func g' [] cp) F) : ∃ C, F = .func (.func g') #[] C ∧ cp.length = C.size ∧ ∀ (i : Nat) (v : AVal), cp[i]? = some v → RelV G h v (C.getD i undef) := by
  cases hx with
  | p _ _ hp => cases hp; exact ⟨#[], rfl, rfl, by simp⟩
  | func f first cap F C hlf hlc hf hc =>
    have : F = #[] := by
      obtain ⟨l⟩ := F; cases l with
      | nil => rfl
      | cons a l => simp at hlf
    subst this
    exact ⟨C, rfl, hlc, hc⟩
theorem sortF_sound {f g : Nat} {args : List AVal} {r : Res} {h' : Heap} {X : Array Value} (hS : SortFnOk P f g) (hb : sortF g args h = some (r, h')) (i : Inv G h w) (hx : RelVs G h args X) :
    (∀ w, (callFunc f X).run P w = .ok (.enter f X) w) ∧ Calls P f X w (CallPost G h w r h') := by
  refine ⟨fun w => hS.1 X w, ?_⟩
  unfold sortF at hb
  split at hb
  case h_3 => cases hb
  · rename_i tok g' cp
    split at hb
    case isFalse => cases hb
    rename_i hg
    subst hg
    cases hb
    obtain ⟨C, hF, _⟩ := func_rel (hx.2 1 _ rfl)
    obtain ⟨a, cap, hA⟩ : ∃ a cap, X.getD 0 undef = .slice a 0 cap := by
      have := (hx.2 0 _ rfl).slice_inv
      generalize X.getD 0 undef = V0 at this
      cases this with
      | slice0 a cap => exact ⟨a, cap, rfl⟩
      | slice rows b off cap sz V _ _ _ _ _ => exact ⟨_, cap, rfl⟩
    have hXe : X = #[.slice a 0 cap, .func (.func g') #[] C] := by
      obtain ⟨l⟩ := X
      match l, hx.1, hA, hF with
      | [x, y], _, h0, h1 => simp at h0 h1; subst h0; subst h1; rfl
    rw [hXe]
    refine Calls.mono (hS.2.1 a cap #[] C w) fun e w' hp => ?_
    obtain ⟨rfl, rfl⟩ := hp
    exact ⟨G, Ext.refl G _ _, i, _, rfl, .p _ _ (.tuple [] #[] rfl (by simp))⟩
  · rename_i id tot n g' pid po
    split at hb
    case h_2 => cases hb
    rename_i x cs hgv hpc
    split at hb
    case h_2 => cases hb
    rename_i rows tok xs hcs hxs
    split at hb
    case isFalse => cases hb
    rename_i hcond
    obtain ⟨rfl, hne, hx1, hn0, hnl, hnm, hrows, hkeys⟩ := hcond
    cases hb
    have hid := getVec_some hgv
    rw [hx1] at hid
    obtain ⟨Cf, hF, hFl, hFc⟩ := func_rel (hx.2 1 _ rfl)
    obtain ⟨b, cap, hA, hnf, htot, hlc, hv⟩ := (hx.2 0 _ rfl).vslice_inv
    obtain ⟨b', cap', C, e0, g1, g2, g3, g4, g5, g6, g7, g8, g9⟩ := i.blk id _ hid
    obtain ⟨l0, cap0, k1, k2, k3, k4⟩ := hv (by rw [g1]; rfl)
    have hcur := g1
    rw [g1] at k1
    simp only [Value.slice.injEq, Option.some.injEq, Addr.mk.injEq] at k1
    obtain ⟨⟨rfl, _⟩, _, rfl⟩ := k1
    have hP := (hFc 0 _ rfl).ptr_inv
    obtain ⟨Cp, ep, p1, p2, p3, p4⟩ := i.blk pid _ hpc
    have hXe : X = #[.slice (some ⟨b', 0, none⟩) n cap, .func (.func g') #[] #[.pointer (some ⟨G.blk pid, po, none⟩)]] := by
      have hCf : Cf = #[.pointer (some ⟨G.blk pid, po, none⟩)] := by
        obtain ⟨l⟩ := Cf
        match l, hFl, hP with
        | [x], _, h0 => simp at h0; rw [h0.1]
      subst hCf
      obtain ⟨l⟩ := X
      match l, hx.1, hA, hF with
      | [x, y], _, h0, h1 => simp at h0 h1; subst h0; subst h1; rfl
    have hxl : xs.length = n := by
      have := congrArg List.length (aints_spec hxs)
      simp at this; omega
    have hcell : ∀ (j : Nat) (m : Int), xs[j]? = some m → x.2[j]? = some (.int .i64 m) := by
      intro j m hj
      have h1 : (x.2.take n)[j]? = some (.int .i64 m) := by rw [aints_spec hxs, List.getElem?_map, hj]; rfl
      rw [List.getElem?_take] at h1
      split at h1
      · exact h1
      · cases h1
    have hne0 : xs ≠ [] := by intro h0; rw [h0] at hxl; simp at hxl; omega
    have hkey : ∀ y ∈ xs, 0 ≤ y ∧ ∃ row, rows[y.toNat]? = some row ∧ row[0]? = some (.int .i64 ((rowKey rows y).getD 0)) := by
      intro y hy
      have := List.all_eq_true.1 hkeys y hy
      unfold rowKey at this ⊢
      split at this
      · rename_i h0
        rw [if_pos h0]
        split at this
        · rename_i a r hr
          exact ⟨h0, _, hr, rfl⟩
        · cases this
      · cases this
    have hsl := (p4 po _ hcs).2.slice_inv
    -- the rows' place
    obtain ⟨sb, so, cp, hVc, hrow⟩ : ∃ sb so cp, Cp.getD po undef = .slice (some ⟨sb, so, none⟩) rows.length cp ∧ ∀ (y : Nat) (row : List AVal) (v : Int), rows[y]? = some row → row[0]? = some (.int .i64 v) → G.H sb (so + y * 2) = some (.int .i64 v) := by
      generalize hCv : Cp.getD po undef = Vc at hsl
      cases hsl with
      | slice0 a cap =>
        exfalso
        obtain ⟨y, hy⟩ := List.exists_mem_of_ne_nil _ hne0
        obtain ⟨_, row, h1, _⟩ := hkey y hy
        simp at h1
      | slice _ sb so cp sz V hr hc hH hk hV =>
        refine ⟨sb, so, cp, rfl, fun y row v h1 h2 => ?_⟩
        have hrl := hr row (List.mem_of_getElem? h1)
        have hr2 : row.length = 2 := by have := List.all_eq_true.1 hrows row (List.mem_of_getElem? h1); simpa using this
        have h3 := hH y 0 row _ h1 h2
        have h4 := hV y 0 row _ h1 h2
        have h5 : sz = 2 := by omega
        subst h5
        rw [Nat.add_zero] at h3 h4
        generalize V (y * 2) = Vy at h3 h4
        cases h4
        exact h3
    have hpb : G.blk pid ≠ b' := by
      intro he
      refine hne (i.inj pid id b' ?_ ?_)
      · unfold owner; rw [hpc, he]
      · unfold owner; rw [hid]; show (G.cur id).ownBlock = _; rw [hcur]; rfl
    have hsb : sb ≠ b' := by
      intro he
      obtain ⟨y, hy⟩ := List.exists_mem_of_ne_nil _ hne0
      obtain ⟨_, row, h1, h2⟩ := hkey y hy
      have := hrow _ row _ h1 h2
      rw [he, g8] at this; cases this
    have hpcell : w.cell? ⟨G.blk pid, po, none⟩ = some (.slice (some ⟨sb, so, none⟩) rows.length cp) := by
      rw [← hVc]
      have hpl : po < Cp.size := by have := (List.getElem?_eq_some_iff.1 hcs).1; omega
      rw [cell_of w _ po p1, Array.getD_eq_getD_getElem?, Array.getElem?_eq_getElem hpl]; rfl
    have hlen1 : x.2.length = tot := by simpa using g7
    rw [hXe]
    have hS2 := hS.2.2 w b' cap C e0 xs (G.blk pid) po sb so rows.length cp (fun y => (rowKey rows y).getD 0) g2 hne0 (by omega)
      (fun j m hj => by
        have h1 := (g9 j _ (hcell j m hj)).2.int_inv
        have hjl : j < C.size := by have := (List.getElem?_eq_some_iff.1 (hcell j m hj)).1; omega
        rw [Array.getD_eq_getD_getElem?, Array.getElem?_eq_getElem hjl] at h1
        rw [Array.getElem?_eq_getElem hjl]
        simpa using h1)
      hpcell hpb hsb (fun y hy => by
        obtain ⟨h0, row, h1, h2⟩ := hkey y hy
        exact ⟨h0, (List.getElem?_eq_some_iff.1 h1).1, i.ok _ _ _ (hrow _ row _ h1 h2)⟩)
    rw [hxl] at hS2
    refine Calls.mono hS2 fun e w' hp => ?_
    obtain ⟨rfl, q1, q2, q3, os, q4⟩ := hp
    generalize hzs : xs.mergeSort (lexLe fun y => (rowKey rows y).getD 0) = zs at *
    have hzl : zs.length = n := by rw [← hzs, List.length_mergeSort, hxl]
    have hw := i.writeV (off := 0) (vs := zs.map (.int .i64)) (U := zs.map (Value.int .i64)) hid hcur g2 (by simp; omega) (by simp) (fun j u hu => by
      rw [List.getElem?_map] at hu
      obtain ⟨m, hm, rfl⟩ := Option.map_eq_some_iff.1 hu
      refine ⟨rfl, ?_⟩
      rw [List.getD_eq_getElem?_getD, List.getElem?_map, hm]
      exact .p _ _ (.int _ _))
    have hrw : (C.toList.take 0 ++ zs.map (Value.int .i64) ++ C.toList.drop (0 + (zs.map (Value.int .i64)).length)).toArray = (zs.map (Value.int .i64) ++ C.toList.drop n).toArray := by simp [hzl]
    rw [hrw] at hw
    generalize hw1 : w.setRow b' (zs.map (Value.int .i64) ++ C.toList.drop n).toArray = w1 at *
    have e1 : w1.os = w.os := by rw [← hw1]; rfl
    have e2 : w1.tape = w.tape := by rw [← hw1]; rfl
    have e3 : w1.output = w.output := by rw [← hw1]; rfl
    have key := hw.1.push (G' := G) (ext := []) (w' := w') (q1.trans e1.symm) (q2.trans e2.symm) (q3.trans e3.symm) (by rw [q4]; simp) (fun k hk => by rw [q4]; exact Array.getElem?_append_left hk) (fun _ _ => rfl) (fun _ _ => rfl) (fun _ _ _ h => h) (fun _ _ _ => rfl)
      (fun b k v hb hv => by have := hw.1.H_lt (b := b) (k := k) (v := v) hv; omega)
      (fun j bl hj => by simp at hj) (fun j bl b hj => by simp at hj) (fun j j' bl bl' b hj => by simp at hj)
    rw [List.append_nil] at key
    exact ⟨G, hw.2.trans key.2, key.1, _, rfl, .p _ _ (.tuple [] #[] rfl (by simp))⟩

theorem evB_sound (hm : P.follows .mixedOrders = true) (hX : ExtOk P A) (hK : SoundK P A (callP A K)) (hlp : LpOk lp) : SoundK P A (evB P A lp K) := by
  intro f args h r h' hb G w X i gl hx
  unfold evB at hb
  cases hs : A.srt f with
  | true =>
    rw [hs] at hb
    exact sortC_sound (hX.1 f hs) hb i hx
  | false =>
  rw [hs] at hb
  simp only [cond_false] at hb
  cases hsf : A.srf f with
  | some g =>
    simp only [hsf] at hb
    exact sortF_sound (hX.2.2 f g hsf) hb i hx
  | none =>
  simp only [hsf] at hb
  cases hf : P.funcs[f]? with
  | none => rw [hf] at hb; cases hb
  | some fn =>
    simp only [hf] at hb
    cases hc : fn.body with
    | none => rw [hc] at hb; cases hb
    | some c =>
      simp only [hc] at hb
      cases hg : decide (args.length ≤ fn.ntmps) && !(fn.name == "runtime.NumGoroutine") with
      | false => rw [hg] at hb; cases hb
      | true =>
        rw [hg] at hb
        simp only [Bool.and_eq_true, decide_eq_true_eq, Bool.not_eq_true'] at hg
        refine ⟨fun w => ?_, evalFn_sound hm hX hK hlp hf hc hb i gl hx hg.1⟩
        have hne : ¬ fn.name = "runtime.NumGoroutine" := by simpa using hg.2
        simp [callFunc, Sem.run_bind, hf, hc, hne, Sem.run_pure]

/-- An empty heap: nothing is owned. -/
theorem Inv.empty (i : Inv G h w) : Inv G [] w := ⟨i.ok, fun id bl hb => by simp at hb, fun a b c ha => by simp [owner] at ha⟩

theorem pureBack_sound {out : Bool} {r1 r : Res} {h1 h' : Heap} {e : Ending} {w' : World} (hb : pureBack out h (r1, h1) = some (r, h')) (i : Inv G h w) (hpost : CallPost G [] w r1 h1 e w') : CallPost G h w r h' e w' := by
  obtain ⟨G', x, i', hpost⟩ := hpost
  -- the caller's blocks are as they were
  have fr : ∀ b, b < w.heap.size → w'.heap[b]? = w.heap[b]? ∧ ∀ k, G'.H b k = G.H b k := fun b hb => x.frame b hb fun id => by simp [owner]
  have new : ∀ {j b : Nat}, owner G' h1 j = some b → ¬ b < w.heap.size := fun ho hlt => by
    have := x.own _ _ ho hlt
    simp [owner] at this
  have hcase : (h1 = [] ∧ r = r1 ∧ h' = h) ∨ (h1.all (ABlk.ok fun j => decide (j < h1.length)) = true ∧ r1.ok (fun j => decide (j < h1.length)) = true ∧ r = r1.ren (fun j => h.length + j) ∧ h' = h ++ h1.map (ABlk.ren fun j => h.length + j)) := by
    unfold pureBack at hb
    cases h1 with
    | nil => cases hb; exact .inl ⟨rfl, rfl, rfl⟩
    | cons b t =>
      simp only at hb
      cases hc : out && ((b :: t).all (ABlk.ok fun j => decide (j < (b :: t).length)) && r1.ok fun j => decide (j < (b :: t).length)) with
      | false => rw [hc] at hb; cases hb
      | true =>
        rw [hc] at hb
        simp only [Bool.and_eq_true] at hc
        cases hb
        exact .inr ⟨hc.2.1, hc.2.2, rfl, rfl⟩
  rcases hcase with ⟨rfl, rfl, rfl⟩ | ⟨hbok, hrok, rfl, rfl⟩
  · let G2 : Gh := { G' with blk := G.blk, cur := G.cur }
    have mono : Mono G h' G2 h' := ⟨x.hmono, fun id bl hb => ⟨bl, hb, by cases bl <;> simp [Kind, G2]⟩⟩
    have key : ∀ {v : AVal} {V : Value}, RelV G' [] v V → RelV G2 h' v V := by
      intro v V r
      have nl : ∀ id, ¬ live ([] : Heap) id := fun id ⟨b, hb, _⟩ => by simp at hb
      induction r with
      | p v V hp => exact .p v V hp
      | agg cs C hl _ ih => exact .agg cs C hl ih
      | tuple cs C hl _ ih => exact .tuple cs C hl ih
      | nil => exact .nil
      | own rows id n sz V hp hf => simp at hf
      | ownv id V hp hb => obtain ⟨b, hb, _⟩ := hb; simp at hb
      | vslice id tot off len sz b cap hb => obtain ⟨b, hb, _⟩ := hb; simp at hb
      | vptr id tot off b hb => obtain ⟨b, hb, _⟩ := hb; simp at hb
      | ptr id off hl => exact absurd hl (nl id)
      | mslice id off len sz cap hl => exact absurd hl (nl id)
      | mslice0 id off sz cap a => exact .mslice0 id off sz cap a
      | map id hl => exact absurd hl (nl id)
      | func f first cap F C hlf hlc _ _ ih1 ih2 => exact .func f first cap F C hlf hlc ih1 ih2
      | iface t v V _ ih => exact .iface t v V ih
    refine ⟨G2, ⟨x.os, x.tape, x.output, x.size, fun b hb _ => fr b hb, x.hmono, fun id b ho _ => ho, mono.kinds⟩, ⟨i'.ok, fun id bl hb => ?_, fun a b c ha hb => i.inj a b c ha hb⟩, ?_⟩
    · refine (i.blk id bl hb).keep mono rfl rfl fun b ho => ?_
      exact fr b ((i.blk id bl hb).lt ho)
    · cases r with
      | ret v => obtain ⟨V, he, hV⟩ := hpost; exact ⟨V, he, key hV⟩
      | pan v => obtain ⟨V, he, hV⟩ := hpost; exact ⟨V, he, key hV⟩
  · simp only [List.all_eq_true] at hbok
    let G2 : Gh := { H := G'.H, blk := fun id => if id < h.length then G.blk id else G'.blk (id - h.length), cur := fun id => if id < h.length then G.cur id else G'.cur (id - h.length) }
    let sh : Nat → Nat := fun j => h.length + j
    have b1 : ∀ {id : Nat}, id < h.length → G2.blk id = G.blk id := fun hl => if_pos hl
    have c1 : ∀ {id : Nat}, id < h.length → G2.cur id = G.cur id := fun hl => if_pos hl
    have b2 : ∀ {j : Nat}, G2.blk (sh j) = G'.blk j := fun {j} => by
      show (if _ then _ else _) = _
      rw [if_neg (by show ¬ h.length + j < h.length; omega)]; congr 1; show h.length + j - h.length = j; omega
    have c2 : ∀ {j : Nat}, G2.cur (sh j) = G'.cur j := fun {j} => by
      show (if _ then _ else _) = _
      rw [if_neg (by show ¬ h.length + j < h.length; omega)]; congr 1; show h.length + j - h.length = j; omega
    let hN : Heap := h ++ h1.map (ABlk.ren sh)
    have g1 : ∀ {id : Nat}, id < h.length → hN[id]? = h[id]? := fun hl => List.getElem?_append_left hl
    have g2 : ∀ {j : Nat}, hN[sh j]? = (h1[j]?).map (ABlk.ren sh) := fun {j} => by
      show (h ++ _)[h.length + j]? = _
      rw [List.getElem?_append_right (by omega), Nat.add_sub_cancel_left, List.getElem?_map]
    have m2 : RenOk G' h1 G2 hN sh (fun j => decide (j < h1.length)) := ⟨fun _ _ _ h => h, fun j b _ hb => ⟨_, by rw [g2, hb]; rfl, sameShape_ren b⟩, fun _ _ => b2, fun _ _ => c2⟩
    have own2 : ∀ {id b : Nat}, owner G2 hN id = some b → (id < h.length ∧ owner G h id = some b) ∨ (∃ j, id = sh j ∧ owner G' h1 j = some b) := by
      intro id b ho
      obtain ⟨bl, hbl, ho2⟩ := owner_some ho
      by_cases hl : id < h.length
      · refine .inl ⟨hl, ?_⟩
        rw [g1 hl] at hbl
        rw [owner_eq hbl, ← ho2]
        cases bl <;> simp [ownerB, b1 hl, c1 hl]
      · have e : id = sh (id - h.length) := by show id = h.length + (id - h.length); omega
        refine .inr ⟨id - h.length, e, ?_⟩
        rw [e, g2] at hbl
        obtain ⟨b0, hb0, rfl⟩ := Option.map_eq_some_iff.1 hbl
        have e3 := ownerB_ren (G := G') (G2 := G2) (f := sh) (id := id - h.length) (j := sh (id - h.length)) (b := b0) b2 c2
        rw [← e] at e3
        rw [owner_eq hb0, ← e3]
        exact ho2
    have kinds : ∀ id bl, h[id]? = some bl → ∃ bl', hN[id]? = some bl' ∧ Kind G G2 id bl bl' := by
      intro id bl hbl
      have hl := (List.getElem?_eq_some_iff.1 hbl).1
      refine ⟨bl, by rw [g1 hl]; exact hbl, ?_⟩
      cases bl <;> simp [Kind, b1 hl, c1 hl]
    have ext : Ext G h w G2 hN w' := ⟨x.os, x.tape, x.output, x.size, fun b hb _ => fr b hb, x.hmono, fun id b ho hlt => by
      rcases own2 ho with ⟨_, h2⟩ | ⟨j, _, h2⟩
      · exact h2
      · exact absurd hlt (new h2), kinds⟩
    refine ⟨G2, ext, ⟨i'.ok, fun id bl hbl => ?_, fun a c b ha hc => ?_⟩, ?_⟩
    · have hbl : hN[id]? = some bl := hbl
      by_cases hl : id < h.length
      · rw [g1 hl] at hbl
        exact (i.blk id bl hbl).keep ext.toMono (b1 hl) (c1 hl) fun b ho => fr b ((i.blk id bl hbl).lt ho)
      · have e : id = sh (id - h.length) := by show id = h.length + (id - h.length); omega
        rw [e, g2] at hbl
        obtain ⟨b0, hb0, rfl⟩ := Option.map_eq_some_iff.1 hbl
        rw [e]
        exact (i'.blk _ b0 hb0).ren m2 rfl b2 c2 (hbok b0 (List.mem_of_getElem? hb0))
    · rcases own2 ha with ⟨hla, h2⟩ | ⟨ja, rfl, h2⟩
      · rcases own2 hc with ⟨hlc, h3⟩ | ⟨jc, rfl, h3⟩
        · exact i.inj a c b h2 h3
        · obtain ⟨bl, hbl, hob⟩ := owner_some h2
          exact absurd ((i.blk a bl hbl).lt hob) (new h3)
      · rcases own2 hc with ⟨hlc, h3⟩ | ⟨jc, rfl, h3⟩
        · obtain ⟨bl, hbl, hob⟩ := owner_some h3
          exact absurd ((i.blk c bl hbl).lt hob) (new h2)
        · rw [i'.inj ja jc b h2 h3]
    · cases r1 with
      | ret v => obtain ⟨V, he, hV⟩ := hpost; exact ⟨V, he, ren_rel m2 hV hrok⟩
      | pan v => obtain ⟨V, he, hV⟩ := hpost; exact ⟨V, he, ren_rel m2 hV hrok⟩

theorem callP_sound (hK : SoundK P A K) : SoundK P A (callP A K) := by
  intro f args h r h' hb G w X i gl hx
  unfold callP at hb
  cases hp : A.pure f with
  | false =>
    rw [hp] at hb
    cases hsb : A.sub f with
    | false => rw [hsb] at hb; exact hK f args h r h' hb G w X i gl hx
    | true => rw [hsb] at hb; exact subI_sound hK hb i gl hx
  | true =>
    rw [hp] at hb
    simp only [cond_true] at hb
    cases hs : args.all (AVal.shut1 0) with
    | false => rw [hs] at hb; cases hb
    | true =>
      rw [hs] at hb
      simp only [cond_true] at hb
      obtain ⟨⟨r1, h1⟩, hc, hb⟩ := Option.bind_eq_some_iff.1 hb
      simp only [List.all_eq_true] at hs
      have l : Left G h G [] 0 := ⟨fun _ _ _ h => h, rfl, rfl, fun id hid => absurd hid (by omega), fun id n sz hid => absurd hid (by omega), fun id hid => absurd hid (by omega)⟩
      have hx0 : RelVs G [] args X := ⟨hx.1, fun j u hu => shut1_rel l (hs u (List.mem_of_getElem? hu)) (hx.2 j u hu)⟩
      obtain ⟨e1, e2⟩ := hK f args [] _ _ hc G w X i.empty gl hx0
      refine ⟨e1, Calls.mono e2 fun e w' hpost => ?_⟩
      exact pureBack_sound hb i hpost

theorem evF_sound (hm : P.follows .mixedOrders = true) (hX : ExtOk P A) (hlp : LpOk lp) : ∀ n, SoundK P A (evF P A lp n)
  | 0 => fun f args h r h' hb => by simp [evF] at hb
  | n + 1 => fun f args h r h' hb => evB_sound hm hX (callP_sound (evF_sound hm hX hlp n)) hlp f args h r h' hb

end
end Hk

/-
  THE LIMIT OVER THE FUEL.
-/
namespace Hk
open Go Go.RowKit

/-- From some number on. -/
def Ev (p : Nat → Prop) : Prop := ∃ N, ∀ n, N ≤ n → p n
theorem Ev.of {p : Nat → Prop} (h : ∀ n, p n) : Ev p := ⟨0, fun n _ => h n⟩
theorem Ev.imp {p q : Nat → Prop} (h : Ev p) (hi : ∀ n, p n → q n) : Ev q := let ⟨N, hN⟩ := h; ⟨N, fun n hn => hi n (hN n hn)⟩
theorem Ev.and {p q : Nat → Prop} (h : Ev p) (h' : Ev q) : Ev fun n => p n ∧ q n :=
  let ⟨N, hN⟩ := h; let ⟨M, hM⟩ := h'; ⟨max N M, fun n hn => ⟨hN n (by omega), hM n (by omega)⟩⟩

/-! ### Loops -/

theorem loopN_mono {F : List AVal × Heap → Option R} : ∀ {n : Nat} {s : List AVal × Heap} {r : R}, loopN n F s = some r → loopN (n + 1) F s = some r
  | 0, s, r, h => by simp [loopN] at h
  | n + 1, s, r, h => by
    rw [loopN] at h ⊢
    obtain ⟨r1, h1, h2⟩ := Option.bind_eq_some_iff.1 h
    rw [h1]
    simp only [Option.bind_some]
    cases he : r1.1 with
    | normal => rw [he] at h2; exact loopN_mono h2
    | _ => rw [he] at h2; exact h2
theorem loopN_mono' {F : List AVal × Heap → Option R} {n m : Nat} {s : List AVal × Heap} {r : R} (hnm : n ≤ m) (h : loopN n F s = some r) : loopN m F s = some r := by
  induction hnm with
  | refl => exact h
  | step _ ih => exact loopN_mono ih

open Classical in
noncomputable def lpW (F : List AVal × Heap → Option R) (s : List AVal × Heap) : Option R :=
  if h : ∃ n r, loopN n F s = some r then some (Classical.choose (Classical.choose_spec h)) else none

theorem lpW_iff {F : List AVal × Heap → Option R} {s : List AVal × Heap} {r : R} : lpW F s = some r ↔ ∃ n, loopN n F s = some r := by
  unfold lpW
  constructor
  · intro h
    split at h
    · rename_i hx
      cases h
      exact ⟨_, Classical.choose_spec (Classical.choose_spec hx)⟩
    · cases h
  · rintro ⟨n, hn⟩
    have hx : ∃ n r, loopN n F s = some r := ⟨n, r, hn⟩
    rw [dif_pos hx]
    have h1 := Classical.choose_spec (Classical.choose_spec hx)
    have h2 := loopN_mono' (Nat.le_max_left _ n) h1
    have h3 := loopN_mono' (Nat.le_max_right (Classical.choose hx) n) hn
    rw [h2] at h3
    exact h3

theorem lpW_ok : LpOk lpW := fun _ _ _ h => lpW_iff.1 h

/-- One round. -/
theorem lpW_step (F : List AVal × Heap → Option R) (s : List AVal × Heap) : lpW F s = (F s).bind fun r => r.1.thenDo (lpW F r.2) fun e => some (e, r.2) := by
  apply Option.ext
  intro r
  rw [lpW_iff]
  constructor
  · rintro ⟨n, hn⟩
    cases n with
    | zero => simp [loopN] at hn
    | succ n =>
      rw [loopN] at hn
      obtain ⟨r1, h1, h2⟩ := Option.bind_eq_some_iff.1 hn
      rw [h1]
      simp only [Option.bind_some]
      cases he : r1.1 with
      | normal => rw [he] at h2; exact lpW_iff.2 ⟨n, h2⟩
      | _ => rw [he] at h2; exact h2
  · intro h
    obtain ⟨r1, h1, h2⟩ := Option.bind_eq_some_iff.1 h
    cases he : r1.1 with
    | normal =>
      rw [he] at h2
      obtain ⟨n, hn⟩ := lpW_iff.1 h2
      exact ⟨n + 1, by rw [loopN, h1]; simp only [Option.bind_some, he]; exact hn⟩
    | _ =>
      rw [he] at h2
      exact ⟨1, by rw [loopN, h1]; simp only [Option.bind_some, he]; exact h2⟩

theorem lpW_lim {F : List AVal × Heap → Option R} {Fn : Nat → List AVal × Heap → Option R} (hF : ∀ s r, F s = some r → Ev fun n => Fn n s = some r) {s : List AVal × Heap} {r : R} (h : lpW F s = some r) :
    Ev fun n => lpW (Fn n) s = some r := by
  obtain ⟨m, hm⟩ := lpW_iff.1 h
  have key : ∀ (m : Nat) (s : List AVal × Heap), loopN m F s = some r → Ev fun n => loopN m (Fn n) s = some r := by
    intro m
    induction m with
    | zero => intro s h; simp [loopN] at h
    | succ m ih =>
      intro s h
      rw [loopN] at h
      obtain ⟨r1, h1, h2⟩ := Option.bind_eq_some_iff.1 h
      cases he : r1.1 with
      | normal =>
        rw [he] at h2
        refine ((hF _ _ h1).and (ih _ h2)).imp fun n hn => ?_
        rw [loopN, hn.1]; simp only [Option.bind_some, he]; exact hn.2
      | _ =>
        rw [he] at h2
        refine (hF _ _ h1).imp fun n hn => ?_
        rw [loopN, hn]; simp only [Option.bind_some, he]; exact h2
  exact (key m s hm).imp fun n hn => lpW_iff.2 ⟨m, hn⟩

/-! ### One operation -/

section
variable {cx : Cx} {o : Oper} {ρ : List AVal} {h : Heap} {kv kp : AVal → Heap → Option R} {r : R} {ids : List Nat} {ops : List Oper}

theorem fin0_lim {kvn kpn : Nat → AVal → Heap → Option R} (hv : ∀ v h r, kv v h = some r → Ev fun n => kvn n v h = some r) (hp : ∀ v h r, kp v h = some r → Ev fun n => kpn n v h = some r) {r0 : R}
    (hb : fin0 kv kp r0 = some r) : Ev fun n => fin0 (kvn n) (kpn n) r0 = some r := by
  obtain ⟨e, l, h⟩ := r0
  cases e with
  | normal =>
    match l with
    | [] => cases hb
    | [v] => exact hv v h r hb
    | _ :: _ :: _ => cases hb
  | pan v => exact hp v h r hb
  | exit _ => cases hb
  | ret => cases hb

def KLim (K : CallO) (Kn : Nat → CallO) : Prop := ∀ f args h r, K f args h = some r → Ev fun n => Kn n f args h = some r

theorem evalOp_K {lp' : LpT} {K' : CallO} {rsv : Option Nat} (hne : ∀ c f, o.op = .call c → c.callee = .value f → False) : evalOp { cx with K := K', lp := lp' } o rsv ρ h kv kp = evalOp cx o rsv ρ h kv kp := by
  unfold evalOp evalOpV
  cases ho : o.op with
  | call c =>
    simp only []
    cases hc : c.callee with
    | value f => exact (hne c f ho hc).elim
    | builtin b => rfl
    | _ => rfl
  | makeFunc b f c => cases b <;> rfl
  | makeMap t r => cases r <;> rfl
  | typeAssert x xt t ok => cases ok <;> rfl
  | slice t x lo hi mx => cases mx <;> rfl
  | assign x => cases nilConst x <;> rfl
  | _ => rfl

theorem evalOp_lim {lp' : LpT} {Kn : Nat → CallO} {kvn kpn : Nat → AVal → Heap → Option R} {rsv : Option Nat} (hK : KLim cx.K Kn) (hv : ∀ v h r, kv v h = some r → Ev fun n => kvn n v h = some r)
    (hp : ∀ v h r, kp v h = some r → Ev fun n => kpn n v h = some r) (hb : evalOp cx o rsv ρ h kv kp = some r) : Ev fun n => evalOp { cx with K := Kn n, lp := lp' } o rsv ρ h (kvn n) (kpn n) = some r := by
  rw [evalOp_nat] at hb
  obtain ⟨r0, h1, h2⟩ := Option.bind_eq_some_iff.1 hb
  have key : Ev fun n => evalOp { cx with K := Kn n, lp := lp' } o rsv ρ h kv0 kp0 = some r0 := by
    by_cases hne : ∃ c f, o.op = .call c ∧ c.callee = .value f
    · obtain ⟨c, f, ho, hc⟩ := hne
      simp only [evalOp, evalOpV, ho, hc] at h1 ⊢
      obtain ⟨g, hg, h1⟩ := Option.bind_eq_some_iff.1 h1
      cases hext : cx.A.ext g.1 with
      | some ek =>
        refine Ev.of fun n => ?_
        simp only [hg, Option.bind_some, callE, hext] at h1 ⊢
        exact h1
      | none =>
        simp only [callE, hext] at h1 ⊢
        unfold bindRes at h1 ⊢
        obtain ⟨r1, hk, h1⟩ := Option.bind_eq_some_iff.1 h1
        refine (hK _ _ _ _ hk).imp fun n hn => ?_
        simp only [hg, Option.bind_some, hext, hn]
        exact h1
    · refine Ev.of fun n => ?_
      rw [evalOp_K (fun c f ho hc => hne ⟨c, f, ho, hc⟩)]
      exact h1
  refine (key.and (fin0_lim hv hp h2)).imp fun n hn => ?_
  rw [evalOp_nat, hn.1]
  exact hn.2

theorem evalLocked_lim {lp' : LpT} {Kn : Nat → CallO} {kvn kpn : Nat → AVal → Heap → Option R} (hK : KLim cx.K Kn) (hv : ∀ v h r, kv v h = some r → Ev fun n => kvn n v h = some r)
    (hp : ∀ v h r, kp v h = some r → Ev fun n => kpn n v h = some r) (hb : evalLocked cx o ids ρ h kv kp = some r) : Ev fun n => evalLocked { cx with K := Kn n, lp := lp' } o ids ρ h (kvn n) (kpn n) = some r :=
  evalOp_lim hK (fun v h' r hk => hv v _ r hk) (fun v h' r hk => hp v _ r hk) hb

theorem evalHid_lim {lp' : LpT} {Kn : Nat → CallO} {m : Nat} {kvn : Nat → AVal → Heap → Option R} (hK : KLim cx.K Kn) (hv : ∀ v h r, kv v h = some r → Ev fun n => kvn n v h = some r)
    (hb : evalHid cx o m ids ρ h kv = some r) : Ev fun n => evalHid { cx with K := Kn n, lp := lp' } o m ids ρ h (kvn n) = some r := by
  unfold evalHid at hb ⊢
  cases hs : (h.take m).all (blkShut m) with
  | false => rw [hs] at hb; cases hb
  | true =>
    rw [hs] at hb
    simp only [cond_true] at hb ⊢
    obtain ⟨r0, h1, h2⟩ := Option.bind_eq_some_iff.1 hb
    have e1 : Ev fun n => evalLocked { cx with K := Kn n, lp := lp' } o ids (ρ.map (shutOr m)) (h.take m) kv0 kp0 = some r0 :=
      evalLocked_lim (kvn := fun _ => kv0) (kpn := fun _ => kp0) hK (fun _ _ _ h => Ev.of fun _ => h) (fun _ _ _ h => Ev.of fun _ => h) h1
    have e2 : Ev fun n => hidK m h (kvn n) r0 = some r := by
      unfold hidK at h2 ⊢
      split at h2
      · rename_i v t
        cases hl : t.length == m with
        | false => rw [hl] at h2; cases h2
        | true => rw [hl] at h2; exact hv _ _ _ h2
      · cases h2
    refine (e1.and e2).imp fun n hn => ?_
    rw [hn.1]
    exact hn.2

theorem evalItem_lim {lp' : LpT} {Kn : Nat → CallO} {kvn kpn : Nat → AVal → Heap → Option R} (hK : KLim cx.K Kn) (hv : ∀ v h r, kv v h = some r → Ev fun n => kvn n v h = some r)
    (hp : ∀ v h r, kp v h = some r → Ev fun n => kpn n v h = some r) (hb : evalItem cx ops o ids ρ h kv kp = some r) : Ev fun n => evalItem { cx with K := Kn n, lp := lp' } ops o ids ρ h (kvn n) (kpn n) = some r := by
  have L : evalLocked cx o ids ρ h kv kp = some r → Ev fun n => evalLocked { cx with K := Kn n, lp := lp' } o ids ρ h (kvn n) (kpn n) = some r :=
    fun hb => evalOp_lim hK (fun v h' r hk => hv v _ r hk) (fun v h' r hk => hp v _ r hk) hb
  simp only [evalItem_eq] at hb ⊢
  unfold evalItemC at hb ⊢
  cases hg : o.guard with
  | none => simp only [hg] at hb ⊢; exact L hb
  | some jw =>
    obtain ⟨j, want⟩ := jw
    simp only [hg] at hb ⊢
    cases hd : (ops[j]?).bind (·.dst) with
    | none => simp only [hd] at hb; cases hb
    | some d =>
      simp only [hd] at hb ⊢
      generalize ρ.getD d .junk = x at hb ⊢
      split at hb
      · rename_i g
        cases want <;> cases g <;> simp only [cond_true, cond_false] at hb ⊢
        · exact L hb
        · exact hv _ _ _ hb
        · exact hv _ _ _ hb
        · exact L hb
      · exact hv _ _ _ hb
      · cases hb

theorem evalItemF_lim {lp' : LpT} {Kn : Nat → CallO} {m : Nat} {it : Item} {kvn kpn : Nat → AVal → Heap → Option R} (hK : KLim cx.K Kn) (hv : ∀ v h r, kv v h = some r → Ev fun n => kvn n v h = some r)
    (hp : ∀ v h r, kp v h = some r → Ev fun n => kpn n v h = some r) (hb : evalItemF cx ops m it ids ρ h kv kp = some r) : Ev fun n => evalItemF { cx with K := Kn n, lp := lp' } ops m it ids ρ h (kvn n) (kpn n) = some r := by
  unfold evalItemF at hb ⊢
  cases hr : it.rsv with
  | some j =>
    simp only [hr] at hb ⊢
    cases hf : isFloatOp it.o with
    | false => rw [hf] at hb; cases hb
    | true =>
      rw [hf] at hb
      exact evalOp_lim (kpn := fun _ _ _ => none) hK hv (fun _ _ _ h => by cases h) hb
  | none =>
    simp only [hr] at hb ⊢
    cases hh : it.hid with
    | true =>
      simp only [hh, cond_true] at hb ⊢
      cases hf : isCallOp it.o with
      | false => rw [hf] at hb; cases hb
      | true =>
        rw [hf] at hb
        exact evalHid_lim hK hv hb
    | false =>
      simp only [hh, cond_false] at hb ⊢
      exact evalItem_lim hK hv hp hb

theorem evalItems_lim {lp' : LpT} {m : Nat} {Kn : Nat → CallO} {k : List AVal → Heap → Option R} {kn : Nat → List AVal → Heap → Option R} {kpn : Nat → AVal → Heap → Option R} (hK : KLim cx.K Kn)
    (hk : ∀ ρ h r, k ρ h = some r → Ev fun n => kn n ρ h = some r) (hp : ∀ v h r, kp v h = some r → Ev fun n => kpn n v h = some r) : ∀ (items : List Item) (seen ρ : List AVal) (h : Heap) (r : R),
    evalItems cx ops m items seen ρ h k kp = some r → Ev fun n => evalItems { cx with K := Kn n, lp := lp' } ops m items seen ρ h (kn n) (kpn n) = some r := by
  intro items
  induction items with
  | nil => intro seen ρ h r hb; exact hk _ _ _ hb
  | cons it rest ih =>
    intro seen ρ h r hb
    simp only [evalItems, forceL_eq] at hb ⊢
    exact evalItemF_lim hK (fun v h' r hb => ih _ _ _ _ hb) hp hb

theorem evalRegion_lim {lp' : LpT} {Kn : Nat → CallO} {k : List AVal → Heap → Option R} {kn : Nat → List AVal → Heap → Option R} {kp : AVal → Heap → Option R} {kpn : Nat → AVal → Heap → Option R} {draw : Bool} (hK : KLim cx.K Kn)
    (hk : ∀ ρ h r, k ρ h = some r → Ev fun n => kn n ρ h = some r) (hkp : ∀ v h r, kp v h = some r → Ev fun n => kpn n v h = some r) (hb : evalRegion cx ops draw ρ h k kp = some r) : Ev fun n => evalRegion { cx with K := Kn n, lp := lp' } ops draw ρ h (kn n) (kpn n) = some r := by
  unfold evalRegion at hb ⊢
  cases draw with
  | false => exact evalItems_lim hK (fun ρ h r hb => hk _ _ _ hb) (fun v h r hb => hkp _ _ _ hb) _ _ _ _ _ hb
  | true =>
    simp only [] at hb ⊢
    cases hd : drawnItems ops with
    | none => simp only [hd] at hb; cases hb
    | some items =>
      simp only [hd] at hb ⊢
      exact evalItems_lim hK (fun ρ h r hb => hk _ _ _ hb) (fun v h r hb => hkp _ _ _ hb) _ _ _ _ _ hb

end

theorem acond_lim {v : AVal} {t e : Option R} {tn en : Nat → Option R} {r : R} (ht : t = some r → Ev fun n => tn n = some r) (he : e = some r → Ev fun n => en n = some r) (hb : acond v t e = some r) :
    Ev fun n => acond v (tn n) (en n) = some r := by
  unfold acond at hb ⊢
  split at hb
  · rename_i b; cases b
    · exact he hb
    · exact ht hb
  · cases hb

theorem thenDo_lim {e : Ex} {x : Option R} {f : Ex → Option R} {xn : Nat → Option R} {fn : Nat → Ex → Option R} {r : R} (hx : x = some r → Ev fun n => xn n = some r) (hf : ∀ e, f e = some r → Ev fun n => fn n e = some r)
    (hb : e.thenDo x f = some r) : Ev fun n => e.thenDo (xn n) (fn n) = some r := by
  cases e with
  | normal => exact hx hb
  | _ => exact hf _ hb
theorem nrm_lim {e : Ex} {x : Option R} {xn : Nat → Option R} {r : R} (hx : x = some r → Ev fun n => xn n = some r) (hb : e.nrm x = some r) : Ev fun n => e.nrm (xn n) = some r := by
  cases e with
  | normal => exact hx hb
  | _ => cases hb
theorem inBlock_lim {id : Nat} {e : Ex} {x : Option R} {f : Ex → Option R} {xn : Nat → Option R} {fn : Nat → Ex → Option R} {r : R} (hx : x = some r → Ev fun n => xn n = some r) (hf : ∀ e, f e = some r → Ev fun n => fn n e = some r)
    (hb : e.inBlock id x f = some r) : Ev fun n => e.inBlock id (xn n) (fn n) = some r := by
  cases e with
  | normal => exact hx hb
  | exit j =>
    simp only [Ex.inBlock] at hb ⊢
    cases hj : j == id with
    | true => rw [hj] at hb; exact hx hb
    | false => rw [hj] at hb; exact hf _ hb
  | _ => exact hf _ hb

theorem evalCode_lim {cx : Cx} {Kn : Nat → CallO} (hK : KLim cx.K Kn) (hlp : ∀ F s r, cx.lp F s = some r → lpW F s = some r) : ∀ (c : Code) (L : Nat) (ρ : List AVal) (h : Heap) (kn : List AVal → Heap → Option R) (ke : Ex → List AVal → Heap → Option R)
    (knn : Nat → List AVal → Heap → Option R) (ken : Nat → Ex → List AVal → Heap → Option R) (r : R),
    (∀ ρ h r, kn ρ h = some r → Ev fun n => knn n ρ h = some r) → (∀ e ρ h r, ke e ρ h = some r → Ev fun n => ken n e ρ h = some r) → evalCode cx c L ρ h kn ke = some r → Ev fun n => evalCode { cx with K := Kn n, lp := lpW } c L ρ h (knn n) (ken n) = some r := by
  obtain ⟨P, A, K, lp, nt, full, pan, vec, frz, vlit, vmk, jt⟩ := cx
  dsimp only at hlp
  intro c
  induction c with
  | skip => intro L ρ h kn ke knn ken r hk he hb; exact hk _ _ _ hb
  | region id ops draw => intro L ρ h kn ke knn ken r hk he hb; exact evalRegion_lim hK hk (kpn := fun n => panK pan (ken n) ρ) (fun v h r hb => by cases pan <;> first | exact he _ _ _ _ hb | cases hb) hb
  | seq x y ihx ihy =>
    intro L ρ h kn ke knn ken r hk he hb
    simp only [evalCode] at hb ⊢
    exact ihx _ ρ h _ _ _ _ r (fun ρ h r hb => ihy _ _ _ _ _ _ _ _ hk he hb) he hb
  | cond c x y ihx ihy =>
    intro L ρ h kn ke knn ken r hk he hb
    simp only [evalCode] at hb ⊢
    cases hf : falls x && falls y with
    | true =>
      simp only [hf, cond_true] at hb ⊢
      obtain ⟨r0, h1, h2⟩ := Option.bind_eq_some_iff.1 hb
      have e1 := acond_lim (ihx L ρ h _ _ (fun _ => endJ jt h.length L .normal) (fun _ => endJ jt h.length L) r0 (fun ρ h r hb => Ev.of fun _ => hb) (fun e ρ h r hb => Ev.of fun _ => hb)) (ihy L ρ h _ _ (fun _ => endJ jt h.length L .normal) (fun _ => endJ jt h.length L) r0 (fun ρ h r hb => Ev.of fun _ => hb) (fun e ρ h r hb => Ev.of fun _ => hb)) h1
      have e2 : Ev fun n => (bif pan || (leaves [] x || leaves [] y) then r0.1.thenDo (knn n (unpack nt L r0.2.1) r0.2.2) fun e => ken n e (unpack nt L r0.2.1) r0.2.2 else r0.1.nrm (knn n (unpack nt L r0.2.1) r0.2.2)) = some r := by
        cases hl : pan || (leaves [] x || leaves [] y) with
        | true => rw [hl] at h2; exact thenDo_lim (hk _ _ _) (fun e => he e _ _ _) h2
        | false => rw [hl] at h2; exact nrm_lim (hk _ _ _) h2
      refine (e1.and e2).imp fun n hn => ?_
      rw [Option.bind_eq_some_iff]
      exact ⟨r0, hn.1, hn.2⟩
    | false =>
      simp only [hf, cond_false] at hb ⊢
      exact acond_lim (ihx L ρ h _ _ knn ken r hk he) (ihy L ρ h _ _ knn ken r hk he) hb
  | block id c ih =>
    intro L ρ h kn ke knn ken r hk he hb
    simp only [evalCode] at hb ⊢
    cases hf : decide (2 ≤ nSites id c + bif falls c then 1 else 0) with
    | true =>
      simp only [hf, cond_true] at hb ⊢
      obtain ⟨r0, h1, h2⟩ := Option.bind_eq_some_iff.1 hb
      refine ((ih L ρ h _ _ (fun _ => endJ jt h.length L .normal) (fun _ => endJ jt h.length L) r0 (fun ρ h r hb => Ev.of fun _ => hb) (fun e ρ h r hb => Ev.of fun _ => hb) h1).and (inBlock_lim (hk _ _ _) (fun e => he e _ _ _) h2)).imp fun n hn => ?_
      rw [Option.bind_eq_some_iff]
      exact ⟨r0, hn.1, hn.2⟩
    | false =>
      simp only [hf, cond_false] at hb ⊢
      exact ih L ρ h _ _ knn (fun n e ρ' h' => e.inBlock id (knn n ρ' h') fun e => ken n e ρ' h') r hk (fun e ρ' h' r hb => inBlock_lim (hk _ _ _) (fun e => he e _ _ _) hb) hb
  | loop c ih =>
    intro L ρ h kn ke knn ken r hk he hb
    simp only [evalCode] at hb ⊢
    obtain ⟨r0, h1, h2⟩ := Option.bind_eq_some_iff.1 hb
    refine ((lpW_lim (fun s r hb => ih _ _ _ _ _ (fun _ => endRound h.length (L ||| ue full c) .normal) (fun _ => endRound h.length (L ||| ue full c)) _ (fun ρ h r hb => Ev.of fun _ => hb) (fun e ρ h r hb => Ev.of fun _ => hb) hb) (hlp _ _ _ h1)).and
      (thenDo_lim (x := none) (xn := fun _ => none) (fun h => by cases h) (fun e => he e _ _ _) h2)).imp fun n hn => ?_
    rw [Option.bind_eq_some_iff]
    exact ⟨r0, hn.1, hn.2⟩
  | scope c ih => intro L ρ h kn ke knn ken r hk he hb; exact ih L ρ h kn ke knn ken r hk he hb
  | label l => intro L ρ h kn ke knn ken r hk he hb; exact hk _ _ _ hb
  | exit id => intro L ρ h kn ke knn ken r hk he hb; exact he _ _ _ _ hb
  | ret => intro L ρ h kn ke knn ken r hk he hb; exact he _ _ _ _ hb
  | _ => intro L ρ h kn ke knn ken r hk he hb; simp [evalCode] at hb

theorem evalRec_lim {cx : Cx} {Kn : Nat → CallO} (hK : KLim cx.K Kn) (hlp : ∀ F s r, cx.lp F s = some r → lpW F s = some r) {g : Nat} {caps : List AVal} {pv : Option AVal} {h h' : Heap} (hb : evalRec cx g caps pv h = some h') :
    Ev fun n => evalRec { cx with K := Kn n, lp := lpW } g caps pv h = some h' := by
  unfold evalRec at hb ⊢
  cases hf : cx.P.funcs[g]? with
  | none => rw [hf] at hb; cases hb
  | some fn =>
    simp only [hf] at hb ⊢
    split at hb
    · rename_i id ops c hbody
      split at hb
      · rename_i o os hops
        cases hc : (isRecover o && decide (caps.length ≤ fn.ntmps) && fn.results.isEmpty && !(fn.name == "runtime.NumGoroutine")) with
        | false => rw [hc] at hb; cases hb
        | true =>
          rw [hc] at hb
          simp only [cond_true] at hb ⊢
          obtain ⟨r0, h1, h2⟩ := Option.bind_eq_some_iff.1 hb
          have e1 := evalItems_lim (cx := { cx with n := fn.ntmps, full := 2 ^ fn.ntmps - 1, pan := false }) (lp' := lpW) (ops := ops.toList) (kp := fun _ _ => none) (kpn := fun _ _ _ => none)
            (kn := fun n ρ' h' => evalCode { cx with K := Kn n, lp := lpW, n := fn.ntmps, full := 2 ^ fn.ntmps - 1, pan := false } c 0 ρ' h' (packN 0) (packE 0)) hK
            (fun ρ h r hb => evalCode_lim (cx := { cx with n := fn.ntmps, full := 2 ^ fn.ntmps - 1, pan := false }) hK hlp c 0 ρ h _ _ (fun _ => packN 0) (fun _ => packE 0) r (fun ρ h r hb => Ev.of fun _ => hb) (fun e ρ h r hb => Ev.of fun _ => hb) hb)
            (fun _ _ _ h => by cases h) _ _ _ _ _ h1
          refine e1.imp fun n hn => ?_
          rw [Option.bind_eq_some_iff]
          exact ⟨r0, hn, h2⟩
      · cases hb
    · cases hb

theorem evalRest_lim {cx : Cx} {Kn : Nat → CallO} (hK : KLim cx.K Kn) (hlp : ∀ F s r, cx.lp F s = some r → lpW F s = some r) {b : Code} {L : Nat} {fv : AVal} {ρ : List AVal} {h : Heap} {r : R} (hb : evalRest cx b L fv ρ h = some r) :
    Ev fun n => evalRest { cx with K := Kn n, lp := lpW } b L fv ρ h = some r := by
  unfold evalRest at hb ⊢
  cases hok : okDst L b with
  | false => rw [hok] at hb; cases hb
  | true =>
    rw [hok] at hb
    simp only [cond_true] at hb ⊢
    obtain ⟨g, hg, hb⟩ := Option.bind_eq_some_iff.1 hb
    simp only [hg, Option.bind_some]
    obtain ⟨r0, h1, h2⟩ := Option.bind_eq_some_iff.1 hb
    have e1 := evalCode_lim (cx := { cx with pan := true }) hK hlp b L ρ h _ _ (fun _ => packN L) (fun _ => packE L) r0 (fun ρ h r hb => Ev.of fun _ => hb) (fun e ρ h r hb => Ev.of fun _ => hb) h1
    have e2 : Ev fun n => r0.1.endD ((evalRec { cx with K := Kn n, lp := lpW } g.1 (g.2.1 ++ g.2.2) none r0.2.2).map fun h2 => ((.ret, r0.2.1, h2) : R)) (fun v => (evalRec { cx with K := Kn n, lp := lpW } g.1 (g.2.1 ++ g.2.2) (some v) r0.2.2).map fun h2 => ((.ret, pack L ρ, h2) : R)) = some r := by
      have key : ∀ {pv : Option AVal} {pk : List AVal}, ((evalRec cx g.1 (g.2.1 ++ g.2.2) pv r0.2.2).map fun h2 => ((.ret, pk, h2) : R)) = some r → Ev fun n => ((evalRec { cx with K := Kn n, lp := lpW } g.1 (g.2.1 ++ g.2.2) pv r0.2.2).map fun h2 => ((.ret, pk, h2) : R)) = some r := by
        intro pv pk hx
        obtain ⟨h3, e3, e4⟩ := Option.map_eq_some_iff.1 hx
        exact (evalRec_lim hK hlp e3).imp fun n hn => by rw [hn]; exact congrArg some e4
      cases he : r0.1 with
      | normal => rw [he] at h2; exact key h2
      | ret => rw [he] at h2; exact key h2
      | exit id => rw [he] at h2; cases h2
      | pan v => rw [he] at h2; exact key h2
    refine (e1.and e2).imp fun n hn => ?_
    rw [Option.bind_eq_some_iff]
    exact ⟨r0, hn.1, hn.2⟩

theorem evalPre_lim {cx : Cx} {Kn : Nat → CallO} (hK : KLim cx.K Kn) (hlp : ∀ F s r, cx.lp F s = some r → lpW F s = some r) : ∀ (c : Code) (L : Nat) (ρ : List AVal) (h : Heap) (r : R), evalPre cx c L ρ h = some r →
    Ev fun n => evalPre { cx with K := Kn n, lp := lpW } c L ρ h = some r := by
  intro c
  induction c with
  | seq x y ihx ihy =>
    intro L ρ h r hb
    have piece : evalCode cx x (L ||| ue cx.full y) ρ h (fun ρ' h' => evalPre cx y L ρ' h') (packD L) = some r →
        Ev fun n => evalCode { cx with K := Kn n, lp := lpW } x (L ||| ue cx.full y) ρ h (fun ρ' h' => evalPre { cx with K := Kn n, lp := lpW } y L ρ' h') (packD L) = some r := fun hb =>
      evalCode_lim hK hlp x _ ρ h _ _ (fun n ρ' h' => evalPre { cx with K := Kn n, lp := lpW } y L ρ' h') (fun _ => packD L) r (fun ρ h r hb => ihy L ρ h r hb) (fun e ρ h r hb => Ev.of fun _ => hb) hb
    cases x with
    | region id ops draw =>
      cases draw with
      | true => simp only [evalPre] at hb ⊢; exact piece hb
      | false =>
        simp only [evalPre] at hb ⊢
        cases hl : lastDefer ops.toList with
        | none => simp only [hl] at hb ⊢; exact piece hb
        | some f =>
          simp only [hl] at hb ⊢
          exact evalItems_lim (lp' := lpW) (kpn := fun _ _ _ => none) (kn := fun n ρ' h' => evalRest { cx with K := Kn n, lp := lpW } y L (aval cx.A ρ' f) ρ' h') hK (fun ρ h r hb => evalRest_lim hK hlp hb) (fun _ _ _ h => by cases h) _ _ _ _ _ hb
    | _ => simp only [evalPre] at hb ⊢; exact piece hb
  | _ => intro L ρ h r hb; simp [evalPre] at hb

theorem evalBody_lim {cx : Cx} {Kn : Nat → CallO} (hK : KLim cx.K Kn) (hlp : ∀ F s r, cx.lp F s = some r → lpW F s = some r) {d : Bool} {c : Code} {L : Nat} {ρ : List AVal} {h : Heap} {r : R} (hb : evalBody cx d c L ρ h = some r) :
    Ev fun n => evalBody { cx with K := Kn n, lp := lpW } d c L ρ h = some r := by
  cases d with
  | true => exact evalPre_lim (cx := { cx with pan := false }) hK hlp c L ρ h r hb
  | false => exact evalCode_lim hK hlp c L ρ h _ _ (fun _ => packN L) (fun _ => packE L) r (fun ρ h r hb => Ev.of fun _ => hb) (fun e ρ h r hb => Ev.of fun _ => hb) hb

theorem callP_lim {A : Ann} {K : CallO} {Kn : Nat → CallO} (hK : KLim K Kn) : KLim (callP A K) fun n => callP A (Kn n) := by
  intro f args h r hb
  unfold callP at hb ⊢
  cases hp : A.pure f with
  | false =>
    simp only [hp, cond_false] at hb ⊢
    cases hsb : A.sub f with
    | false => simp only [hsb, cond_false] at hb ⊢; exact hK _ _ _ _ hb
    | true =>
      simp only [hsb, cond_true] at hb ⊢
      unfold subC subI at hb ⊢
      cases ho : subOk (reach h args) args h with
      | false => simp only [ho, cond_false] at hb; cases hb
      | true =>
        simp only [ho, cond_true] at hb ⊢
        obtain ⟨r0, h1, h2⟩ := Option.bind_eq_some_iff.1 hb
        refine (hK _ _ _ _ h1).imp fun n hn => ?_
        rw [Option.bind_eq_some_iff]
        exact ⟨r0, hn, h2⟩
  | true =>
    simp only [hp, cond_true] at hb ⊢
    cases hs : args.all (AVal.shut1 0) with
    | false => simp only [hs, cond_false] at hb; cases hb
    | true =>
      simp only [hs, cond_true] at hb ⊢
      obtain ⟨r0, h1, h2⟩ := Option.bind_eq_some_iff.1 hb
      refine (hK _ _ _ _ h1).imp fun n hn => ?_
      rw [Option.bind_eq_some_iff]
      exact ⟨r0, hn, h2⟩

theorem evB_lim {P : Program} {A : Ann} {lp : LpT} {K : CallO} {Kn : Nat → CallO} (hlp : ∀ F s r, lp F s = some r → lpW F s = some r) (hK : KLim K Kn) : KLim (evB P A lp K) fun n => evB P A lpW (Kn n) := by
  intro f args h r hb
  unfold evB at hb ⊢
  cases hsr : A.srt f with
  | true =>
    rw [hsr] at hb
    refine ⟨0, fun n _ => ?_⟩
    simp only [hsr]
    exact hb
  | false =>
  simp only [hsr, cond_false] at hb ⊢
  cases hsf : A.srf f with
  | some g =>
    simp only [hsf] at hb
    exact ⟨0, fun n _ => hb⟩
  | none =>
  simp only [hsf] at hb ⊢
  cases hf : P.funcs[f]? with
  | none => simp only [hf] at hb; cases hb
  | some fn =>
    simp only [hf] at hb ⊢
    cases hc : fn.body with
    | none => simp only [hc] at hb; cases hb
    | some c =>
      simp only [hc] at hb ⊢
      cases hg : decide (args.length ≤ fn.ntmps) && !(fn.name == "runtime.NumGoroutine") with
      | false => simp only [hg, cond_false] at hb; cases hb
      | true =>
        simp only [hg, cond_true, evalFn] at hb ⊢
        obtain ⟨r0, h1, h2⟩ := Option.bind_eq_some_iff.1 hb
        refine (evalBody_lim (cx := { P, A, K := callP A K, lp, n := fn.ntmps, full := 2 ^ fn.ntmps - 1, pan := A.pan f, vec := A.vecs f, frz := A.frz f, vlit := A.vlit f, vmk := A.vmk f, jt := A.jt f }) (callP_lim hK) hlp h1).imp fun n hn => ?_
        rw [Option.bind_eq_some_iff]
        exact ⟨r0, hn, h2⟩

open Classical in
/-- The program's meaning. -/
noncomputable def evW (P : Program) (A : Ann) : CallO := fun f args h =>
  if hx : ∃ r, Ev fun n => evF P A lpW n f args h = some r then some (Classical.choose hx) else none

theorem evW_iff {P : Program} {A : Ann} {f : Nat} {args : List AVal} {h : Heap} {r : Res × Heap} : evW P A f args h = some r ↔ Ev fun n => evF P A lpW n f args h = some r := by
  unfold evW
  constructor
  · intro hb
    split at hb
    · rename_i hx; cases hb; exact Classical.choose_spec hx
    · cases hb
  · intro hb
    have hx : ∃ r, Ev fun n => evF P A lpW n f args h = some r := ⟨r, hb⟩
    rw [dif_pos hx]
    obtain ⟨N, hN⟩ := (Classical.choose_spec hx).and hb
    obtain ⟨e1, e2⟩ := hN N (Nat.le_refl _)
    rw [e1] at e2
    exact e2

/-- A function runs by its body. -/
theorem evW_of {P : Program} {A : Ann} {f : Nat} {args : List AVal} {h : Heap} {r : Res × Heap} (hb : evB P A lpW (evW P A) f args h = some r) : evW P A f args h = some r := by
  rw [evW_iff]
  obtain ⟨N, hN⟩ := evB_lim (lp := lpW) (Kn := fun n => evF P A lpW n) (fun _ _ _ h => h) (fun f args h r hb => evW_iff.1 hb) f args h r hb
  refine ⟨N + 1, fun n hn => ?_⟩
  cases n with
  | zero => omega
  | succ n => exact hN n (by omega)

/-- A run with so much fuel. -/
theorem evW_run {P : Program} {A : Ann} (m : Nat) : ∀ (n f : Nat) (args : List AVal) (h : Heap) (r : Res × Heap), evF P A (loopN m) n f args h = some r → evW P A f args h = some r := by
  have hlp : ∀ F s r, loopN m F s = some r → lpW F s = some r := fun F s r h => lpW_iff.2 ⟨m, h⟩
  have key : ∀ n, KLim (evF P A (loopN m) n) fun k => evF P A lpW k := by
    intro n
    induction n with
    | zero => intro f args h r hb; cases hb
    | succ n ih =>
      intro f args h r hb
      obtain ⟨N, hN⟩ := evB_lim hlp ih f args h r hb
      refine ⟨N + 1, fun k hk => ?_⟩
      cases k with
      | zero => omega
      | succ k => exact hN k (by omega)
  exact fun n f args h r hb => evW_iff.2 (key n f args h r hb)

theorem evW_sound {P : Program} {A : Ann} (hm : P.follows .mixedOrders = true) (hX : ExtOk P A) : SoundK P A (evW P A) := by
  intro f args h r h' hb
  obtain ⟨N, hN⟩ := evW_iff.1 hb
  exact evF_sound hm hX lpW_ok N f args h r h' (hN N (Nat.le_refl _))

end Hk

/-
  A LAW's CONTRACT, OUT OF THE PROGRAM's MEANING: what the arguments read as; what is left behind the call.
-/
namespace Hk
open Go Go.RowKit Go.ChangeShapes

/-- All of the memory at the call, as persistent memory. -/
def gh (W : World) : Gh := { H := fun b k => W.cell? ⟨b, k, none⟩, blk := fun _ => 0, cur := fun _ => .slice none 0 0 }
theorem inv_gh (W : World) : Inv (gh W) [] W := ⟨fun _ _ _ h => h, fun id bl hb => by simp at hb, fun a b c ha => by simp [owner] at ha⟩

/-- A law that answers true. -/
theorem calls_true {P : Program} {A : Ann} {f : Nat} {args : List AVal} {X : Array Value} {W : World} (hm : P.follows .mixedOrders = true) (hX : ExtOk P A) (h : evW P A f args [] = some (.ret (.bool true), []))
    (gl : GlobOk A (gh W).H) (hx : RelVs (gh W) [] args X) : Calls P f X W fun e W' => e = .returned (.bool true) ∧ Below W.heap.size W W' := by
  refine ((evW_sound hm hX f args [] _ _ h (gh W) W X (inv_gh W) gl hx).2).mono fun e W' hpost => ?_
  obtain ⟨G', x, _, V, rfl, hV⟩ := hpost
  refine ⟨by rw [hV.bool_inv], x.os, x.tape, x.output, x.size, fun k hk => (x.frame k hk fun id => by simp [owner]).1⟩

section
variable {H : Type} {enc : TypeId × Value → H} {P : Program}

theorem trodAll_stays (hl : laidOutB P = true) {W W' : World} {sp' : Nat → Bool} (hb : Below W.heap.size W W') : ∀ {ts : List TypeId} {vs : List Value} {ds : List (DataW H)} {ps : List MemPlace},
    (∀ t ∈ ts, P.readableRec t = true ∧ t < P.types.size) → DataW.TrodAll enc P W 0 (fun _ => true) true ts vs ds ps → (∀ p ∈ ps, p.block < W.heap.size) → (∀ p ∈ ps, sp' p.block = true) → DataW.TrodAll enc P W' 0 sp' true ts vs ds ps
  | [], [], [], _, _, h, _, _ => h
  | _ :: _, _ :: _, _ :: _, _, ht, ⟨p, q, h1, h2, e⟩, hlt, hs =>
    ⟨p, q, WideElems.Trod_stays hl (ht _ (by simp)).1 (ht _ (by simp)).2 h1 (fun x hx => hb.same (hlt x (by rw [e]; exact List.mem_append_left _ hx))) (fun x hx => hs x (by rw [e]; exact List.mem_append_left _ hx)),
      trodAll_stays hl hb (fun t h => ht t (by simp [h])) h2 (fun x hx => hlt x (by rw [e]; exact List.mem_append_right _ hx)) (fun x hx => hs x (by rw [e]; exact List.mem_append_right _ hx)), e⟩

/-- What a law's row asks behind the call. -/
theorem post_true {f : Func} {s : ChangeSpec} {apart fresh handsOn again : Bool} {W W' : World} {args : Array Value} {tb : TypeId} {ds gs : List (DataW H)} {before : List MemPlace}
    (hl : laidOutB P = true) (ht : ∀ t ∈ f.params.toList, P.readableRec t = true ∧ t < P.types.size) (hr : f.resultTypes = #[tb]) (htb : P.underlying tb = some .bool) (hv : s.vars = [])
    (hW : DataW.Whole enc P f.params.toList s.vars apart W args.toList ds gs before) (hb : Below W.heap.size W W')
    (h1 : (s.fn H (ds ++ gs)).results = [.lit (.bool true)]) (h2 : (s.fn H (ds ++ gs)).args = ds) (h3 : (s.fn H (ds ++ gs)).vars = []) : s.post enc P f apart fresh handsOn again W args (Value.bool true) W' := by
  have hlt := hW.lt
  have hold : ∀ p ∈ before, (fun b => decide (b < W.heap.size)) p.block = true := fun p hp => by simpa using hlt p hp
  have hW' := hW
  obtain ⟨p, q, hA, hV, hps, hz, hn⟩ := hW
  rw [hv] at hV
  obtain ⟨rfl, rfl⟩ := trodVars_none hV
  simp only [List.append_nil] at hps h1 h2 h3
  subst hps
  have hargs : ∀ sp : Nat → Bool, (∀ x ∈ before, sp x.block = true) → DataW.TrodAll enc P W' 0 sp true f.params.toList args.toList (s.fn H ds).args before := by
    intro sp hs; rw [h2]; exact trodAll_stays hl hb ht hA hlt hs
  have hres : ∀ (b : Nat) (sp : Nat → Bool) (hd : Bool), DataW.TrodAll enc P W' b sp hd f.resultTypes.toList ((Value.bool true).resultList f.resultTypes.size) (s.fn H ds).results [] := by
    intro b sp hd; rw [h1, hr]; exact trodAll_mk1 (shut_bool htb true)
  have hvars : ∀ sp : Nat → Bool, DataW.TrodVars enc P W' sp s.vars (s.fn H ds).vars [] := by
    intro sp; rw [h3, hv]; rfl
  refine ⟨ds, [], before, [], before, [], hW', by simpa using hres _ _ _, by simpa using hargs _ hold, by simpa using hvars _, World.keptBut_mono (fun p hp => ⟨hp, ?_⟩) (hb.frame (· ∈ before)), fun _ => ?_⟩
  · exact Or.inr (by simpa using hp)
  · refine ⟨ok_one hr rfl (okWide_bool_mk htb true), _, _, ([] ++ before) ++ [], ⟨[] ++ before, [], trodAll_append (hargs _ (fun _ _ => rfl)) (hres _ _ _), hvars _, rfl, ?_, ?_⟩, ?_⟩
    · intro b off hp
      have hp' : MemPlace.cell b off ∈ before := by simpa using hp
      rw [hb.frozen (p := ⟨b, off, none⟩) (hlt _ hp')]
      exact hz b off hp'
    · intro ha
      simpa using hn ha
    · intro p hp _
      simpa using hp

end

/-! ### Reading -/

/-- Cells, related. -/
def RelCs (H : Nat → Nat → Option Value) (cs : List AVal) (vs : List Value) : Prop := cs.length = vs.length ∧ ∀ (i : Nat) (v : AVal), cs[i]? = some v → v.cellOk = true ∧ RelP H v (vs.getD i undef)

theorem RelCs.append {H : Nat → Nat → Option Value} {a b : List AVal} {x y : List Value} (h : RelCs H a x) (h' : RelCs H b y) : RelCs H (a ++ b) (x ++ y) := by
  refine ⟨by simp [h.1, h'.1], fun i v hv => ?_⟩
  rw [List.getD_eq_getElem?_getD]
  by_cases hi : i < a.length
  · rw [List.getElem?_append_left hi] at hv
    rw [List.getElem?_append_left (by rw [← h.1]; exact hi)]
    have := h.2 i v hv
    rwa [List.getD_eq_getElem?_getD] at this
  · rw [List.getElem?_append_right (by omega)] at hv
    rw [List.getElem?_append_right (by rw [← h.1]; omega), ← h.1]
    have := h'.2 _ v hv
    rwa [List.getD_eq_getElem?_getD] at this
theorem RelCs.nil (H : Nat → Nat → Option Value) : RelCs H [] [] := ⟨rfl, by simp⟩
theorem RelCs.one {H : Nat → Nat → Option Value} {v : AVal} {V : Value} (hk : v.cellOk = true) (h : RelP H v V) : RelCs H [v] [V] :=
  ⟨rfl, fun i u hu => by cases i with
    | zero => simp at hu; subst hu; exact ⟨hk, h⟩
    | succ i => simp at hu⟩

/-- A type's values read as a Lean type's: with so much fuel at most. -/
structure Rd (P : Program) (n : Nat) (t : TypeId) {α : Type} (encA : α → List AVal) (wf : α → Prop) : Prop where
  get : ∀ {H : Type} {enc : TypeId × Value → H} {w : World} {sp : Nat → Bool} {held : Bool} {fuel : Nat} {cs : List Value} {x : DataW H × List MemPlace}, fuel ≤ n →
    DataW.trod enc P w 0 sp held fuel t cs = some x → ∃ a : α, wf a ∧ RelCs (gh w).H (encA a) cs

theorem Rd.int {P : Program} {n : Nat} {t : TypeId} {k : IntKind} (ht : P.underlying t = some (.int k)) : Rd P n t (fun z : Int => [.int k z]) (fun z => (Lit.int k z).wf = true) := by
  refine ⟨?_⟩
  intro H enc w sp held fuel cs x _ h
  obtain ⟨z, hx, _, hw⟩ := DataW.trod_int ht h
  exact ⟨z, hw, by rw [hx]; exact .one rfl (.int _ _)⟩
theorem Rd.bool {P : Program} {n : Nat} {t : TypeId} (ht : P.underlying t = some .bool) : Rd P n t (fun z : Bool => [.bool z]) (fun _ => True) := by
  refine ⟨?_⟩
  intro H enc w sp held fuel cs x _ h
  cases fuel with
  | zero => simp [DataW.trod] at h
  | succ m =>
    unfold DataW.trod at h
    rw [ht] at h
    split at h <;> try (simp at *; done)
    rename_i b _
    exact ⟨b, trivial, .one rfl (.bool _)⟩
theorem Rd.str {P : Program} {n : Nat} {t : TypeId} (ht : P.underlying t = some .string) : Rd P n t (fun z : List UInt8 => [.str z]) (fun z => z.length ≤ maxLen) := by
  refine ⟨?_⟩
  intro H enc w sp held fuel cs x _ h
  obtain ⟨s, hx, _, hs⟩ := DataW.trod_string ht h
  refine ⟨s.data.toList, by simpa using hs, ?_⟩
  have : (⟨s.data.toList.toArray⟩ : ByteArray) = s := by cases s; simp
  rw [hx]
  have r := RelP.str (H := (gh w).H) s.data.toList
  rw [this] at r
  exact .one rfl r

theorem mapM_get {α β : Type} {f : α → Option β} : ∀ {l : List α} {ys : List β}, l.mapM f = some ys → ys.length = l.length ∧ ∀ (i : Nat) (x : α), l[i]? = some x → ∃ y, ys[i]? = some y ∧ f x = some y
  | [], ys, h => by simp at h; subst h; simp
  | a :: l, ys, h => by
    simp only [List.mapM_cons, Option.bind_eq_bind, Option.bind_eq_some_iff] at h
    obtain ⟨y, hy, zs, hzs, h⟩ := h
    simp only [Option.pure_def, Option.some.injEq] at h; subst h
    obtain ⟨h1, h2⟩ := mapM_get hzs
    refine ⟨by simp [h1], fun i x hx => ?_⟩
    cases i with
    | zero => simp at hx; subst hx; exact ⟨y, rfl, hy⟩
    | succ i => simpa using h2 i x (by simpa using hx)

/-- Choose, for all places of a list. -/
theorem choose_list {α : Type} {p : Nat → α → Prop} : ∀ (n : Nat), (∀ i, i < n → ∃ a, p i a) → ∃ l : List α, l.length = n ∧ ∀ (i : Nat) (a : α), l[i]? = some a → p i a
  | 0, _ => ⟨[], rfl, by simp⟩
  | n + 1, h => by
    obtain ⟨l, h1, h2⟩ := choose_list n fun i hi => h i (by omega)
    obtain ⟨a, ha⟩ := h n (by omega)
    refine ⟨l ++ [a], by simp [h1], fun i b hb => ?_⟩
    by_cases hi : i < l.length
    · rw [List.getElem?_append_left hi] at hb; exact h2 i b hb
    · rw [List.getElem?_append_right (by omega)] at hb
      have : i - l.length = 0 := by
        by_cases h0 : i - l.length = 0
        · exact h0
        · rw [List.getElem?_eq_none (by simp; omega)] at hb; cases hb
      rw [this] at hb
      simp at hb; subst hb
      have : i = n := by omega
      subst this; exact ha

theorem cells?_get {w : World} {base : Nat} {a : Addr} {n : Nat} {cs : List Value} (h : w.cells? base a n = some cs) : cs.length = n ∧ ∀ i, i < n → w.cell? (a.add i) = cs[i]? := by
  unfold World.cells? at h
  split at h
  · obtain ⟨h1, h2⟩ := mapM_get h
    refine ⟨by simpa using h1, fun i hi => ?_⟩
    obtain ⟨y, e1, e2⟩ := h2 i i (by simp [hi])
    rw [e2, e1]
  · cases h

theorem spot_none {w : World} {a : Addr} {v : Value} (h : w.cell? a = some v) : a = ⟨a.block, a.off, none⟩ := by
  unfold World.cell? at h
  split at h
  · split at h
    · cases h
    · rename_i hs
      obtain ⟨b, o, s⟩ := a
      cases s with
      | none => rfl
      | some _ => simp at hs
  · cases h

theorem add_add (a : Addr) (i j : Nat) (h : a = ⟨a.block, a.off, none⟩) : (a.add i).add j = ⟨a.block, a.off + (i + j), none⟩ := by
  rw [h, add_plain, add_plain]
  simp [Nat.add_assoc]


theorem Rd.slice {P : Program} {n : Nat} {t e : TypeId} {α : Type} {encA : α → List AVal} {wf : α → Prop} {sz : Nat} (ht : P.underlying t = some (.slice e)) (he : P.cellsOf e = sz + 1) (hsz : ∀ a, (encA a).length = sz + 1) (r : Rd P n e encA wf) :
    Rd P (n + 1) t (fun z : List α => [.slice (z.map encA) .no]) (fun z => z.length ≤ maxLen ∧ ∀ a ∈ z, wf a) := by
  refine ⟨?_⟩
  intro H enc w sp held fuel cs x hf h
  cases fuel with
  | zero => simp [DataW.trod] at h
  | succ m =>
    unfold DataW.trod at h
    rw [ht] at h
    split at h <;> try (simp at *; done)
    · refine ⟨[], by simp, .one rfl (.slice0 none 0)⟩
    · rename_i e' a len cap hu
      cases hu
      split at h
      · rename_i hcond
        obtain ⟨_, hlen, hcap⟩ := hcond
        obtain ⟨elems, hel, _⟩ := Option.bind_eq_some_iff.1 h
        obtain ⟨h1, h2⟩ := mapM_get hel
        by_cases h0 : len = 0
        · subst h0
          exact ⟨[], by simp, .one rfl (.slice0 (some a) cap)⟩
        · -- an element's cells
          have hcell : ∀ i, i < len → ∃ cs, w.cells? 0 (a.add (i * (sz + 1))) (sz + 1) = some cs ∧ ∃ z : α, wf z ∧ RelCs (gh w).H (encA z) cs := by
            intro i hi
            obtain ⟨y, e1, e2⟩ := h2 i i (by simp [hi])
            obtain ⟨cs, e3, e4⟩ := Option.bind_eq_some_iff.1 e2
            rw [he] at e3
            exact ⟨cs, e3, r.get (by omega) e4⟩
          have ha : a = ⟨a.block, a.off, none⟩ := by
            obtain ⟨cs, e1, _⟩ := hcell 0 (by omega)
            obtain ⟨l1, l2⟩ := cells?_get e1
            have := l2 0 (by omega)
            rw [List.getElem?_eq_getElem (by omega)] at this
            have := spot_none this
            simpa [Addr.add] using this
          obtain ⟨l, hl, hp⟩ := choose_list (p := fun i (z : α) => ∃ cs, w.cells? 0 (a.add (i * (sz + 1))) (sz + 1) = some cs ∧ wf z ∧ RelCs (gh w).H (encA z) cs) len fun i hi => by
            obtain ⟨cs, e1, z, e2, e3⟩ := hcell i hi
            exact ⟨z, cs, e1, e2, e3⟩
          have key : ∀ (i j : Nat) (row : List AVal) (v : AVal), (l.map encA)[i]? = some row → row[j]? = some v →
              (gh w).H a.block (a.off + (i * (sz + 1) + j)) = some ((w.cell? ⟨a.block, a.off + (i * (sz + 1) + j), none⟩).getD undef) ∧ v.cellOk = true ∧ RelP (gh w).H v ((w.cell? ⟨a.block, a.off + (i * (sz + 1) + j), none⟩).getD undef) := by
            intro i j row v hi hj
            simp only [List.getElem?_map, Option.map_eq_some_iff] at hi
            obtain ⟨z, hz, rfl⟩ := hi
            obtain ⟨cs, e1, _, e3⟩ := hp i z hz
            obtain ⟨l1, l2⟩ := cells?_get e1
            have hjlt : j < sz + 1 := by rw [← hsz z]; exact (List.getElem?_eq_some_iff.1 hj).1
            have e4 := l2 j hjlt
            rw [add_add _ _ _ ha] at e4
            obtain ⟨e5, e6⟩ := e3.2 j v hj
            have : cs[j]? = some (cs.getD j undef) := by rw [List.getD_eq_getElem?_getD, List.getElem?_eq_getElem (by omega)]; rfl
            rw [this] at e4
            refine ⟨by show w.cell? _ = _; rw [e4]; rfl, e5, by rw [e4]; exact e6⟩
          have hrows : ∀ row ∈ l.map encA, row.length = sz + 1 := by
            intro row hr
            obtain ⟨z, _, rfl⟩ := List.mem_map.1 hr
            exact hsz z
          refine ⟨l, ⟨by omega, fun z hz => ?_⟩, .one rfl ?_⟩
          · obtain ⟨i, hi⟩ := List.getElem?_of_mem hz
            obtain ⟨_, _, e2, _⟩ := hp i z hi
            exact e2
          · have := RelP.slice (H := (gh w).H) (l.map encA) a.block a.off cap (sz + 1) (fun k => (w.cell? ⟨a.block, a.off + k, none⟩).getD undef) hrows (by simp; omega)
              (fun i j row v hi hj => (key i j row v hi hj).1) (fun i j row v hi hj => (key i j row v hi hj).2.1) (fun i j row v hi hj => (key i j row v hi hj).2.2)
            rw [← ha] at this
            simpa [hl] using this
      · cases h

/-! Structs, a field at a time. -/

/-- Fields from an offset on, up to the struct's end. -/
structure RdFs (P : Program) (n : Nat) (fs : List Field) (off total : Nat) {α : Type} (encA : α → List AVal) (wf : α → Prop) : Prop where
  get : ∀ {H : Type} {enc : TypeId × Value → H} {w : World} {sp : Nat → Bool} {held : Bool} {fuel : Nat} {cs : List Value} {xs : List (DataW H × List MemPlace)}, fuel ≤ n → cs.length = total →
    (fs.mapM fun f => DataW.trod enc P w 0 sp held fuel f.type ((cs.drop f.offset).take (P.cellsOf f.type))) = some xs → ∃ a : α, wf a ∧ RelCs (gh w).H (encA a) (cs.drop off)

theorem RdFs.nil {P : Program} {n total : Nat} : RdFs P n [] total total (fun _ : Unit => []) (fun _ => True) := by
  refine ⟨?_⟩
  intro H enc w sp held fuel cs xs _ hl h
  refine ⟨(), trivial, ?_⟩
  rw [List.drop_eq_nil_of_le (by omega)]
  exact .nil _
theorem RdFs.cons {P : Program} {n off total sz : Nat} {f : Field} {fs : List Field} {α β : Type} {encA : α → List AVal} {wfA : α → Prop} {encB : β → List AVal} {wfB : β → Prop}
    (ho : f.offset = off) (hs : P.cellsOf f.type = sz) (r : Rd P n f.type encA wfA) (rs : RdFs P n fs (off + sz) total encB wfB) : RdFs P n (f :: fs) off total (fun z : α × β => encA z.1 ++ encB z.2) (fun z => wfA z.1 ∧ wfB z.2) := by
  refine ⟨?_⟩
  intro H enc w sp held fuel cs xs hf hl h
  simp only [List.mapM_cons, Option.bind_eq_bind, Option.bind_eq_some_iff] at h
  obtain ⟨x, h1, ys, h2, _⟩ := h
  obtain ⟨a, wa, ra⟩ := r.get hf h1
  obtain ⟨b, wb, rb⟩ := rs.get hf hl h2
  refine ⟨(a, b), ⟨wa, wb⟩, ?_⟩
  rw [ho, hs] at ra
  have : cs.drop off = (cs.drop off).take sz ++ cs.drop (off + sz) := by rw [← List.drop_drop, List.take_append_drop]
  rw [this]
  exact ra.append rb
theorem Rd.struct {P : Program} {n : Nat} {t : TypeId} {fs : Array Field} {α : Type} {encA : α → List AVal} {wf : α → Prop} {total : Nat} (ht : P.underlying t = some (.struct fs)) (hc : P.cellsOf t = total)
    (r : RdFs P n fs.toList 0 total encA wf) : Rd P (n + 1) t encA wf := by
  refine ⟨?_⟩
  intro H enc w sp held fuel cs x hf h
  cases fuel with
  | zero => simp [DataW.trod] at h
  | succ m =>
    unfold DataW.trod at h
    rw [ht] at h
    split at h <;> try (simp at *; done)
    rename_i fs' cs' hu
    cases hu
    split at h
    · rename_i hlen
      simp only [Option.map_eq_some_iff] at h
      obtain ⟨xs, h1, _⟩ := h
      obtain ⟨a, wa, ra⟩ := r.get (by omega) (by rw [hlen, hc]) h1
      exact ⟨a, wa, by simpa using ra⟩
    · cases h

theorem Rd.to {P : Program} {n : Nat} {t : TypeId} {α β : Type} {encA : α → List AVal} {wfA : α → Prop} {encB : β → List AVal} {wfB : β → Prop} (r : Rd P n t encA wfA) (g : α → β) (he : ∀ a, encB (g a) = encA a) (hw : ∀ a, wfA a → wfB (g a)) : Rd P n t encB wfB := by
  refine ⟨?_⟩
  intro H enc w sp held fuel cs x hf h
  obtain ⟨a, wa, ra⟩ := r.get hf h
  exact ⟨g a, hw a wa, by rw [he]; exact ra⟩
theorem Rd.mono {P : Program} {n m : Nat} {t : TypeId} {α : Type} {encA : α → List AVal} {wfA : α → Prop} (hnm : m ≤ n) (r : Rd P n t encA wfA) : Rd P m t encA wfA := by
  refine ⟨?_⟩
  intro H enc w sp held fuel cs x hf h
  exact r.get (by omega) h

/-- An argument of one cell. -/
theorem Rd.arg {P : Program} {t : TypeId} {α : Type} {encA : α → AVal} {wf : α → Prop} (r : ∀ n, Rd P n t (fun a => [encA a]) wf) {H : Type} {enc : TypeId × Value → H} {w : World} {sp : Nat → Bool} {held : Bool} {v : Value} {d : DataW H} {ps : List MemPlace}
    (hv : ∀ C, v ≠ .agg C) (h : DataW.Trod enc P w 0 sp held t v d ps) : ∃ a, wf a ∧ RelV (gh w) [] (encA a) v := by
  obtain ⟨fuel, hf⟩ := h
  obtain ⟨a, wa, ra⟩ := (r fuel).get (Nat.le_refl _) hf
  refine ⟨a, wa, .p _ _ ?_⟩
  have := (ra.2 0 _ rfl).2
  have hc : v.cells = #[v] := by cases v <;> simp_all [Value.cells]
  rw [hc] at this
  simpa using this
/-- An argument of cells. -/
theorem Rd.argS {P : Program} {t : TypeId} {α : Type} {encA : α → List AVal} {wf : α → Prop} (r : ∀ n, Rd P n t encA wf) {H : Type} {enc : TypeId × Value → H} {w : World} {sp : Nat → Bool} {held : Bool} {v : Value} {d : DataW H} {ps : List MemPlace}
    (hv : ∃ C, v = .agg C) (h : DataW.Trod enc P w 0 sp held t v d ps) : ∃ a, wf a ∧ RelV (gh w) [] (.agg (encA a)) v := by
  obtain ⟨fuel, hf⟩ := h
  obtain ⟨a, wa, ra⟩ := (r fuel).get (Nat.le_refl _) hf
  obtain ⟨C, rfl⟩ := hv
  refine ⟨a, wa, .p _ _ (.agg _ _ (by simpa [Value.cells] using ra.1) fun i v hv => ?_)⟩
  have := (ra.2 i v hv).2
  rw [List.getD_eq_getElem?_getD] at this
  rw [Array.getD_eq_getD_getElem?]
  simpa [Value.cells] using this

end Hk

/-
  THE EVALUATOR's OPERATIONS ON KNOWN VALUES: equations for 'simp'.
-/
namespace Hk
open Go

attribute [simp] Option.bind_some Option.bind_none

theorem abound_none {d : Nat} : abound none d = some d := (rfl)
theorem abound_nat {k : IntKind} {n d : Nat} : abound (some (.int k (n : Int))) d = some n := by simp [abound]

/-! What is looked at first: so that nothing is simplified behind what is not known. -/
@[congr] theorem bind_cong {α β : Type} {x x' : Option α} {f : α → Option β} (h : x = x') : x.bind f = x'.bind f := by rw [h]
@[congr] theorem bindRes_cong {x x' : Option (Res × Heap)} {f g : AVal → Heap → Option R} (h : x = x') : bindRes x f g = bindRes x' f g := by rw [h]
@[congr] theorem bindVH_cong {x x' : Option (AVal × Heap)} {f : AVal → Heap → Option R} (h : x = x') : bindVH x f = bindVH x' f := by rw [h]
@[congr] theorem acond_cong {x x' : AVal} {t e : Option R} (h : x = x') : acond x t e = acond x' t e := by rw [h]
@[congr] theorem guardSel_cong {w : Bool} {x x' : AVal} {t e : Option R} (h : x = x') : guardSel w x t e = guardSel w x' t e := by rw [h]
@[congr] theorem thenDo_cong {x x' : Ex} {t : Option R} {e : Ex → Option R} (h : x = x') : Ex.thenDo x t e = Ex.thenDo x' t e := by rw [h]
@[congr] theorem inBlock_cong {i : Nat} {x x' : Ex} {t : Option R} {e : Ex → Option R} (h : x = x') : Ex.inBlock i x t e = Ex.inBlock i x' t e := by rw [h]
@[congr] theorem nrm_cong {x x' : Ex} {t : Option R} (h : x = x') : Ex.nrm x t = Ex.nrm x' t := by rw [h]
@[congr] theorem endP_cong {x x' : Ex} {t : Option (Res × Heap)} {tp : AVal → Option (Res × Heap)} (h : x = x') : Ex.endP x t tp = Ex.endP x' t tp := by rw [h]
@[congr] theorem endF_cong {x x' : Ex} {t : Option (Res × Heap)} (h : x = x') : Ex.endF x t = Ex.endF x' t := by rw [h]
@[congr] theorem cond_cong {α : Type} {x x' : Bool} {t e : α} (h : x = x') : cond x t e = cond x' t e := by rw [h]
@[congr] theorem fin0_cong {f g : AVal → Heap → Option R} {x x' : R} (h : x = x') : fin0 f g x = fin0 f g x' := by rw [h]

section
variable {k k' : IntKind} {a b : Int} {x y : Bool} {s t : List UInt8} {v w : AVal} {h : Heap} {m : Nat}

@[simp] theorem abin_add : abin .add (.int k a) (.int k b) = some (.int k (k.wrap (a + b))) := by simp [abin]
@[simp] theorem abin_sub : abin .sub (.int k a) (.int k b) = some (.int k (k.wrap (a - b))) := by simp [abin]
@[simp] theorem abin_mul : abin .mul (.int k a) (.int k b) = some (.int k (k.wrap (a * b))) := by simp [abin]
@[simp] theorem abin_eql : abin .eql (.int k a) (.int k b) = some (.bool (decide (a = b))) := by simp [abin]; rfl
@[simp] theorem abin_neq : abin .neq (.int k a) (.int k b) = some (.bool (!decide (a = b))) := by simp [abin, bne]; rfl
@[simp] theorem abin_lss : abin .lss (.int k a) (.int k b) = some (.bool (decide (a < b))) := by simp [abin]
@[simp] theorem abin_leq : abin .leq (.int k a) (.int k b) = some (.bool (decide (a ≤ b))) := by simp [abin]
@[simp] theorem abin_gtr : abin .gtr (.int k a) (.int k b) = some (.bool (decide (b < a))) := by simp [abin]
@[simp] theorem abin_geq : abin .geq (.int k a) (.int k b) = some (.bool (decide (b ≤ a))) := by simp [abin]
@[simp] theorem abin_adds : abin .add (.str s) (.str t) = if s.length + t.length ≤ 4611686018427387904 then some (.str (s ++ t)) else none := (rfl)
@[simp] theorem abin_eqls : abin .eql (.str s) (.str t) = some (.bool (decide (s = t))) := by
  have : (s == t) = decide (s = t) := by by_cases h : s = t <;> simp [h]
  simp [abin, this]
@[simp] theorem abin_neqs : abin .neq (.str s) (.str t) = some (.bool (!decide (s = t))) := by
  have : (s == t) = decide (s = t) := by by_cases h : s = t <;> simp [h]
  simp [abin, this]
@[simp] theorem abinB_eql : abinB .eql (.bool x) (.bool y) = some (.bool (decide (x = y))) := by cases x <;> cases y <;> rfl
@[simp] theorem abinB_neq : abinB .neq (.bool x) (.bool y) = some (.bool (!decide (x = y))) := by cases x <;> cases y <;> rfl
@[simp] theorem aun_not : aun .not (.bool x) = some (.bool (!x)) := (rfl)
@[simp] theorem aun_neg : aun .neg (.int k a) = some (.int k (k.wrap (0 - a))) := (rfl)
@[simp] theorem aconvInt_int : aconvInt k (.int k' a) = some (.int k (k.wrap a)) := (rfl)
@[simp] theorem apick_bool : apick (.bool x) v w = some (bif x then v else w) := (rfl)
@[simp] theorem amin2_int : amin2 (.int k a) (.int k' b) = some (.int k (min a b)) := by
  simp only [amin2, Option.some.injEq, AVal.int.injEq, true_and]
  by_cases h : b < a <;> simp [h] <;> omega
@[simp] theorem amax2_int : amax2 (.int k a) (.int k' b) = some (.int k (max a b)) := by
  simp only [amax2, Option.some.injEq, AVal.int.injEq, true_and]
  by_cases h : b > a <;> simp [h] <;> omega
@[simp] theorem alenSl_slice {rows : List (List AVal)} {t : Tok} : alenSl (.slice rows t) = some (.int .i64 rows.length) := (rfl)
@[simp] theorem alenStr_str : alenStr (.str s) = some (.int .i64 s.length) := (rfl)
@[simp] theorem acond_bool {t e : Option R} : acond (.bool x) t e = bif x then t else e := (rfl)
@[simp] theorem guardSel_true {run skip : Option R} : guardSel true (.bool x) run skip = bif x then run else skip := (rfl)
@[simp] theorem guardSel_false {run skip : Option R} : guardSel false (.bool x) run skip = bif x then skip else run := (rfl)
@[simp] theorem guardSel_tuple {g : Bool} {run skip : Option R} : guardSel g (.tuple []) run skip = skip := (rfl)
@[simp] theorem fin0_normal {kv kp : AVal → Heap → Option R} : fin0 kv kp (.normal, [v], h) = kv v h := (rfl)
@[simp] theorem kv0_eq : kv0 v h = some (.normal, [v], h) := (rfl)
@[simp] theorem bindRes_ret {kv kp : AVal → Heap → Option R} : bindRes (some (.ret v, h)) kv kp = kv v h := (rfl)
@[simp] theorem bindVH_some {kv : AVal → Heap → Option R} : bindVH (some (v, h)) kv = kv v h := (rfl)
@[simp] theorem thenDo_normal {kn : Option R} {ke : Ex → Option R} : Ex.thenDo .normal kn ke = kn := (rfl)
@[simp] theorem thenDo_ret {kn : Option R} {ke : Ex → Option R} : Ex.thenDo .ret kn ke = ke .ret := (rfl)
@[simp] theorem thenDo_exit {i : Nat} {kn : Option R} {ke : Ex → Option R} : Ex.thenDo (.exit i) kn ke = ke (.exit i) := (rfl)
@[simp] theorem nrm_normal {kn : Option R} : Ex.nrm .normal kn = kn := (rfl)
@[simp] theorem inBlock_normal {i : Nat} {kn : Option R} {ke : Ex → Option R} : Ex.inBlock i .normal kn ke = kn := (rfl)
@[simp] theorem inBlock_ret {i : Nat} {kn : Option R} {ke : Ex → Option R} : Ex.inBlock i .ret kn ke = ke .ret := (rfl)
@[simp] theorem inBlock_exit {i j : Nat} {kn : Option R} {ke : Ex → Option R} : Ex.inBlock i (.exit j) kn ke = bif j == i then kn else ke (.exit j) := (rfl)
@[simp] theorem endF_normal {x : Option (Res × Heap)} : Ex.endF .normal x = x := (rfl)
@[simp] theorem bindRes_pan {v : AVal} {h : Heap} {kv kp : AVal → Heap → Option R} : bindRes (some (.pan v, h)) kv kp = kp v h := (rfl)
@[simp] theorem fin0_pan {v : AVal} {l : List AVal} {h : Heap} {kv kp : AVal → Heap → Option R} : fin0 kv kp (.pan v, l, h) = kp v h := by cases l <;> rfl
@[simp] theorem kp0_val {v : AVal} {h : Heap} : kp0 v h = some (.pan v, [], h) := (rfl)
@[simp] theorem thenDo_pan {v : AVal} {kn : Option R} {ke : Ex → Option R} : Ex.thenDo (.pan v) kn ke = ke (.pan v) := (rfl)
@[simp] theorem inBlock_pan {id : Nat} {v : AVal} {kn : Option R} {ke : Ex → Option R} : Ex.inBlock id (.pan v) kn ke = ke (.pan v) := (rfl)
@[simp] theorem nrm_pan {v : AVal} {kn : Option R} : Ex.nrm (.pan v) kn = none := (rfl)
@[simp] theorem endP_normal {x : Option (Res × Heap)} {xp : AVal → Option (Res × Heap)} : Ex.endP .normal x xp = x := (rfl)
@[simp] theorem endP_ret {x : Option (Res × Heap)} {xp : AVal → Option (Res × Heap)} : Ex.endP .ret x xp = x := (rfl)
@[simp] theorem endP_pan {v : AVal} {x : Option (Res × Heap)} {xp : AVal → Option (Res × Heap)} : Ex.endP (.pan v) x xp = xp v := (rfl)
@[simp] theorem endD_normal {x : Option R} {xp : AVal → Option R} : Ex.endD .normal x xp = x := (rfl)
@[simp] theorem endD_ret {x : Option R} {xp : AVal → Option R} : Ex.endD .ret x xp = x := (rfl)
@[simp] theorem endD_pan {v : AVal} {x : Option R} {xp : AVal → Option R} : Ex.endD (.pan v) x xp = xp v := (rfl)
@[simp] theorem endH_normal {x : Option Heap} : Ex.endH .normal x = x := (rfl)
@[simp] theorem endH_ret {x : Option Heap} : Ex.endH .ret x = x := (rfl)
@[simp] theorem onlyRet_ret {x : Option R} : Ex.onlyRet .ret x = x := (rfl)
@[simp] theorem atypeAssert_nil {t : Nat} {z : AVal} : atypeAssert t z .niliface = some (.tuple [z, .bool false]) := (rfl)
@[simp] theorem atypeAssert_iface {t t' : Nat} {z w : AVal} : atypeAssert t z (.iface t' w) = some (bif t' == t then .tuple [w, .bool true] else .tuple [z, .bool false]) := (rfl)
@[congr] theorem endD_cong {x x' : Ex} {t : Option R} {tp : AVal → Option R} (h : x = x') : Ex.endD x t tp = Ex.endD x' t tp := by rw [h]
@[congr] theorem endH_cong {x x' : Ex} {t : Option Heap} (h : x = x') : Ex.endH x t = Ex.endH x' t := by rw [h]
@[congr] theorem map_cong {α β : Type} {x x' : Option α} {f : α → β} (h : x = x') : x.map f = x'.map f := by rw [h]
@[simp] theorem endF_ret {x : Option (Res × Heap)} : Ex.endF .ret x = x := (rfl)

@[simp] theorem san_int : AVal.san m h (.int k a) = .int k a := (rfl)
@[simp] theorem san_bool : AVal.san m h (.bool x) = .bool x := (rfl)
@[simp] theorem san_str : AVal.san m h (.str s) = .str s := (rfl)
@[simp] theorem san_slice {rows : List (List AVal)} : AVal.san m h (.slice rows .no) = .slice rows .no := (rfl)
@[simp] theorem san_nil : AVal.san m h (.slice [] .nil) = .slice [] .nil := (rfl)
@[simp] theorem san_undef : AVal.san m h (.tuple []) = .tuple [] := (rfl)
@[simp] theorem san_junk : AVal.san m h .junk = .junk := (rfl)
@[simp] theorem san_own {rows : List (List AVal)} {id : Nat} : AVal.san m h (.slice rows (.own id)) = bif decide (id < m) then .slice rows (.own id) else .slice rows .no := (rfl)
@[simp] theorem san_agg {cs : List AVal} : AVal.san m h (.agg cs) = .agg (cs.map (·.san1 m h)) := (rfl)
@[simp] theorem san1_int : AVal.san1 m h (.int k a) = .int k a := (rfl)
@[simp] theorem san1_bool : AVal.san1 m h (.bool x) = .bool x := (rfl)
@[simp] theorem san1_str : AVal.san1 m h (.str s) = .str s := (rfl)
@[simp] theorem san1_slice {rows : List (List AVal)} : AVal.san1 m h (.slice rows .no) = .slice rows .no := (rfl)
@[simp] theorem san1_nil : AVal.san1 m h (.slice [] .nil) = .slice [] .nil := (rfl)
@[simp] theorem san1_own {rows : List (List AVal)} {id : Nat} : AVal.san1 m h (.slice rows (.own id)) = bif decide (id < m) then .slice rows (.own id) else .slice rows .no := (rfl)
@[simp] theorem san_tuple2 {v w : AVal} : AVal.san m h (.tuple [v, w]) = .tuple [(match v with | .agg cs => .agg (cs.map (·.san1 m h)) | v => v.san1 m h), (match w with | .agg cs => .agg (cs.map (·.san1 m h)) | v => v.san1 m h)] := (rfl)
@[simp] theorem untok_int : AVal.untok (.int k a) = .int k a := (rfl)
@[simp] theorem untok_bool : AVal.untok (.bool x) = .bool x := (rfl)
@[simp] theorem untok_str : AVal.untok (.str s) = .str s := (rfl)
@[simp] theorem untok_slice {rows : List (List AVal)} {t : Tok} : AVal.untok (.slice rows t) = .slice rows .no := (rfl)
@[simp] theorem untok_undef : AVal.untok (.tuple []) = .tuple [] := (rfl)
@[simp] theorem untok_agg {cs : List AVal} : AVal.untok (.agg cs) = .agg (cs.map AVal.untok1) := (rfl)
@[simp] theorem untok1_int : AVal.untok1 (.int k a) = .int k a := (rfl)
@[simp] theorem untok1_bool : AVal.untok1 (.bool x) = .bool x := (rfl)
@[simp] theorem untok1_str : AVal.untok1 (.str s) = .str s := (rfl)
@[simp] theorem untok1_slice {rows : List (List AVal)} {t : Tok} : AVal.untok1 (.slice rows t) = .slice rows .no := (rfl)
@[simp] theorem untok_tuple2 {v w : AVal} : AVal.untok (.tuple [v, w]) = .tuple [(match v with | .agg cs => .agg (cs.map AVal.untok1) | v => v.untok1), (match w with | .agg cs => .agg (cs.map AVal.untok1) | v => v.untok1)] := (rfl)

@[simp] theorem trunc_nil : trunc m [] = some [] := by simp [trunc, sanBlks]
theorem trunc_take {bs : Heap} : trunc 0 bs = some [] := by simp [trunc, sanBlks]
@[simp] theorem trunc_zero {bs : Heap} : trunc 0 bs = some [] := trunc_take
@[simp] theorem exsan_normal {m : Nat} {h : Heap} : Ex.san m h .normal = .normal := (rfl)
@[simp] theorem exsan_ret {m : Nat} {h : Heap} : Ex.san m h .ret = .ret := (rfl)
@[simp] theorem exsan_exit {m : Nat} {h : Heap} {id : Nat} : Ex.san m h (.exit id) = .exit id := (rfl)
@[simp] theorem exsan_pan {m : Nat} {h : Heap} {v : AVal} : Ex.san m h (.pan v) = .pan (v.san m h) := (rfl)
theorem endR_zero {e : Ex} {vs : List AVal} : endR 0 e vs h = some (e.san 0 h, vs.map (·.san 0 h), []) := by simp [endR]
theorem finP_zero : finP 0 v h = some (.pan (v.san 0 h).untok, []) := by simp [finP]
theorem finR_zero : finR 0 v h = some (.ret (v.san 0 h).untok, []) := by simp [finR]

/-! ### Memory -/
/-- A right to append that nobody has used. -/
def isFresh (h : Heap) (id : Nat) : Bool := match h[id]? with
  | some (.front 0 0) => true
  | _ => false
@[simp] theorem isFresh_zero {r : Heap} : isFresh (.front 0 0 :: r) 0 = true := (rfl)
@[simp] theorem isFresh_cells {cs : List AVal} {r : Heap} : isFresh (.cells cs :: r) 0 = false := (rfl)
@[simp] theorem isFresh_front {n sz : Nat} {r : Heap} : isFresh (.front (n + 1) sz :: r) 0 = false := (rfl)
@[simp] theorem isFresh_succ {b : ABlk} {r : Heap} {n : Nat} : isFresh (b :: r) (n + 1) = isFresh r n := (rfl)
@[simp] theorem getBlk_zero {cs : List AVal} {r : Heap} : getBlk (.cells cs :: r) 0 = some cs := (rfl)
@[simp] theorem getBlk_succ {b : ABlk} {r : Heap} {n : Nat} : getBlk (b :: r) (n + 1) = getBlk r n := (rfl)
@[simp] theorem aload_ptr {n id off : Nat} : aload false n h (.ptr id off) = (getBlk h id).bind fun cs => cs[off]? := by
  simp only [aload, apart, cond_false]; cases getBlk h id <;> rfl
@[simp] theorem aload_ptrT {n id off : Nat} : aload true n h (.ptr id off) = (getBlk h id).bind fun cs => if off + n ≤ cs.length then some (.agg ((cs.drop off).take n)) else none := by
  simp only [aload, apart, cond_true]; cases getBlk h id <;> rfl
@[simp] theorem astore_ptr {n id off : Nat} : astore n h (.ptr id off) v = (getBlk h id).bind fun cs => if v.cells.length = n ∧ off + n ≤ cs.length ∧ v.cells.all AVal.cellOk then some (h.set id (.cells (putCells cs off (keepTok h (cs.drop off) v.cells)))) else none := by
  simp only [astore]; cases getBlk h id <;> rfl
@[simp] theorem keepTok_nil {vs : List AVal} : keepTok h [] vs = vs := (rfl)
@[simp] theorem keepTok_nil2 {os : List AVal} : keepTok h os [] = [] := by cases os <;> rfl
@[simp] theorem keepTok_cons {o : AVal} {os vs : List AVal} : keepTok h (o :: os) (v :: vs) = keep1 h o v :: keepTok h os vs := (rfl)
@[simp] theorem keep1_int {o : AVal} : keep1 h o (.int k a) = .int k a := (rfl)
@[simp] theorem keep1_bool {o : AVal} : keep1 h o (.bool x) = .bool x := (rfl)
@[simp] theorem keep1_str {o : AVal} : keep1 h o (.str s) = .str s := (rfl)
@[simp] theorem keep1_map {o : AVal} {i : Nat} : keep1 h o (.map i) = .map i := (rfl)
@[simp] theorem keep1_ptr {o : AVal} {i j : Nat} : keep1 h o (.ptr i j) = .ptr i j := (rfl)
@[simp] theorem keep1_no {o : AVal} {rows : List (List AVal)} : keep1 h o (.slice rows .no) = .slice rows .no := by cases rows <;> rfl
@[simp] theorem keep1_own {o : AVal} {rows : List (List AVal)} {id : Nat} : keep1 h o (.slice rows (.own id)) = .slice rows (.own id) := by cases rows <;> rfl
@[simp] theorem keep1_nil {id : Nat} : keep1 h (.slice [] (.own id)) (.slice [] .nil) = bif isFresh h id then .slice [] (.own id) else .slice [] .nil := by
  have e : keep1 h (.slice [] (.own id)) (.slice [] .nil) = match h[id]? with | some (.front 0 0) => .slice [] (.own id) | _ => .slice [] .nil := (rfl)
  rw [e]
  unfold isFresh
  split <;> rfl
@[simp] theorem keep1_nil0 : keep1 h (.slice [] .nil) (.slice [] .nil) = .slice [] .nil := (rfl)
@[simp] theorem keep1_nil1 {rows : List (List AVal)} : keep1 h (.slice rows .no) (.slice [] .nil) = .slice [] .nil := by cases rows <;> rfl
theorem keepTok_none : ∀ {vs os : List AVal}, (∀ c ∈ vs, c.isNil = false) → keepTok h os vs = vs
  | [], _, _ => by simp
  | v :: vs, [], _ => rfl
  | v :: vs, o :: os, hn => by
    have h1 := hn v (by simp)
    simp only [keepTok_cons, keep1, h1, cond_false]
    rw [keepTok_none fun c hc => hn c (by simp [hc])]
@[simp] theorem afieldAt_ptr {id o off : Nat} : afieldAt off (.ptr id o) = some (.ptr id (o + off)) := (rfl)
@[simp] theorem afieldAt_pptr {cs : List AVal} {off : Nat} : afieldAt off (.pptr cs) = some (.pptr (cs.drop off)) := (rfl)
@[simp] theorem anilCheck_ptr {id off : Nat} : anilCheck (.ptr id off) = some (.ptr id off) := (rfl)
@[simp] theorem anilCheck_pptr {cs : List AVal} : anilCheck (.pptr cs) = some (.pptr cs) := (rfl)
@[simp] theorem cells_int : AVal.cells (.int k a) = [.int k a] := (rfl)
@[simp] theorem cells_bool : AVal.cells (.bool x) = [.bool x] := (rfl)
@[simp] theorem cells_str : AVal.cells (.str s) = [.str s] := (rfl)
@[simp] theorem cells_slice {rows : List (List AVal)} {t : Tok} : AVal.cells (.slice rows t) = [.slice rows t] := (rfl)
@[simp] theorem cells_agg {cs : List AVal} : AVal.cells (.agg cs) = cs := (rfl)
@[simp] theorem cells_map {i : Nat} : AVal.cells (.map i) = [.map i] := (rfl)
@[simp] theorem cellOk_int : AVal.cellOk (.int k a) = true := (rfl)
@[simp] theorem cellOk_bool : AVal.cellOk (.bool x) = true := (rfl)
@[simp] theorem cellOk_str : AVal.cellOk (.str s) = true := (rfl)
@[simp] theorem cellOk_slice {rows : List (List AVal)} {t : Tok} : AVal.cellOk (.slice rows t) = true := (rfl)
@[simp] theorem cellOk_map {i : Nat} : AVal.cellOk (.map i) = true := (rfl)
@[simp] theorem isJunk_int : AVal.isJunk (.int k a) = false := (rfl)
@[simp] theorem isJunk_bool : AVal.isJunk (.bool x) = false := (rfl)
@[simp] theorem isJunk_str : AVal.isJunk (.str s) = false := (rfl)
@[simp] theorem isJunk_slice {rows : List (List AVal)} {t : Tok} : AVal.isJunk (.slice rows t) = false := (rfl)
@[simp] theorem isJunk_agg {cs : List AVal} : AVal.isJunk (.agg cs) = false := (rfl)
@[simp] theorem isJunk_map {i : Nat} : AVal.isJunk (.map i) = false := (rfl)
@[simp] theorem san1_map {i : Nat} : AVal.san1 m h (.map i) = bif decide (i < m) then .map i else .junk := (rfl)
@[simp] theorem san_map {i : Nat} : AVal.san m h (.map i) = bif decide (i < m) then .map i else .junk := (rfl)
@[simp] theorem san_ptr {i o : Nat} : AVal.san m h (.ptr i o) = AVal.san1 m h (.ptr i o) := (rfl)
theorem san1_ptr {i o : Nat} (hi : i < m) : AVal.san1 m h (.ptr i o) = .ptr i o := by simp [AVal.san1, hi]
theorem san_ptr_lt {i o : Nat} (hi : i < m) : AVal.san m h (.ptr i o) = .ptr i o := by rw [san_ptr, san1_ptr hi]
@[simp] theorem untok_ptr {i o : Nat} : AVal.untok (.ptr i o) = .ptr i o := (rfl)
@[simp] theorem untok_map {i : Nat} : AVal.untok (.map i) = .map i := (rfl)
@[simp] theorem sanCells_nil : sanCells m h [] = some [] := (rfl)
@[simp] theorem sanCells_cons {cs : List AVal} : sanCells m h (v :: cs) = bif (v.san1 m h).cellOk then (sanCells m h cs).map (v.san1 m h :: ·) else none := by
  simp only [sanCells]; cases sanCells m h cs <;> rfl
@[simp] theorem sanBlk_cells {cs : List AVal} : sanBlk m h (.cells cs) = (sanCells m h cs).map .cells := (rfl)
@[simp] theorem sanBlk_front {i j : Nat} : sanBlk m h (.front i j) = some (.front i j) := (rfl)
@[simp] theorem sanBlks_nil : sanBlks m h [] = some [] := (rfl)
@[simp] theorem sanBlks_cons {b : ABlk} {bs : Heap} : sanBlks m h (b :: bs) = (sanBlk m h b).bind fun b' => (sanBlks m h bs).map (b' :: ·) := by
  simp only [sanBlks]; cases sanBlk m h b <;> cases sanBlks m h bs <;> rfl
/-- An element of a string. -/
@[simp] theorem aindexStr_nat {i : Nat} : aindexStr (.str s) (.int k (i : Int)) = (s[i]?).map fun b => .int .u8 b.toNat := by simp [aindexStr]
@[simp] theorem aindexStr_zero : aindexStr (.str s) (.int k 0) = (s[0]?).map fun b => .int .u8 b.toNat := by simp [aindexStr]
theorem asliceStr_nat {lo hi : Option AVal} {l u : Nat} (hl : abound lo 0 = some l) (hu : abound hi s.length = some u) (h1 : l ≤ u) (h2 : u ≤ s.length) : asliceStr (.str s) lo hi = some (.str ((s.drop l).take (u - l))) := by
  simp [asliceStr, hl, hu, h1, h2]
@[simp] theorem aextract_tuple {i : Nat} {vs : List AVal} : aextract i (.tuple vs) = vs[i]? := (rfl)
end

/-- A machine word's value. -/
theorem wrap64 {n : Int} (h1 : -9223372036854775808 ≤ n) (h2 : n ≤ 9223372036854775807) : IntKind.wrap .i64 n = n := by
  simp [IntKind.wrap, IntKind.signed, IntKind.bits]
  split <;> omega

/-- An element of a slice. -/
@[simp] theorem aindexSl_map {α : Type} {enc : α → List AVal} {sz : Nat} {xs : List α} {t : Tok} {k : IntKind} {i : Nat} :
    aindexSl sz (.slice (xs.map enc) t) (.int k (i : Int)) = (xs[i]?).bind fun x => if (enc x).length = sz then some (.pptr (enc x)) else none := by
  simp only [aindexSl, Int.natCast_nonneg, if_true, Int.toNat_natCast, List.getElem?_map]
  cases xs[i]? <;> rfl
theorem aindexSl_lit {sz : Nat} {rows : List (List AVal)} {t : Tok} {k : IntKind} {n : Int} : aindexSl sz (.slice rows t) (.int k n) = if 0 ≤ n then (rows[n.toNat]?).bind fun row => if row.length = sz then some (.pptr row) else none else none := by
  simp only [aindexSl]
  split
  · cases rows[n.toNat]? <;> rfl
  · rfl
@[simp] theorem aload_pptr {n : Nat} {h : Heap} {cs : List AVal} : aload true n h (.pptr cs) = if n ≤ cs.length then some (.agg (cs.take n)) else none := by
  simp [aload, apart]
@[simp] theorem aload_pptr1 {n : Nat} {h : Heap} {cs : List AVal} : aload false n h (.pptr cs) = cs[0]? := by
  simp [aload, apart]
theorem aload_row {n : Nat} {h : Heap} {cs : List AVal} (hn : cs.length = n) : aload true n h (.pptr cs) = some (.agg cs) := by
  subst hn; simp [aload, apart]

/-- A part of a slice. -/
theorem asliceSl_map {α : Type} {enc : α → List AVal} {sz : Nat} {xs : List α} {t : Tok} {lo hi : Option AVal} {l u : Nat} (hs : ∀ x, (enc x).length = sz) (hl : abound lo 0 = some l) (hu : abound hi xs.length = some u) (h1 : l ≤ u) (h2 : u ≤ xs.length) :
    asliceSl sz (.slice (xs.map enc) t) lo hi = some (.slice (((xs.drop l).take (u - l)).map enc) .no) := by
  have : ((xs.map enc).all fun r => r.length == sz) = true := by simp [hs]
  simp only [asliceSl, List.length_map, hl, hu, h1, h2, this, and_self, if_true, List.map_take, List.map_drop]
/-- A function by its shallow form. -/
theorem evW_by {P : Program} {A : Ann} {f : Nat} {args : List AVal} {h : Heap} {m : Option (Res × Heap)} {r : Res × Heap} (he : evB P A lpW (evW P A) f args h = m) (hm : m = some r) : evW P A f args h = some r := evW_of (he.trans hm)
/-- A call of a function that is run on its arguments alone. -/
theorem callP_pure {A : Ann} {K : CallO} {f : Nat} {args : List AVal} {h : Heap} {v : AVal} (hp : A.pure f = true) (hs : args.all (AVal.shut1 0) = true) (hk : K f args [] = some (.ret v, [])) : callP A K f args h = some (.ret v, h) := by
  simp [callP, hp, hs, hk, pureBack]

/-- A loop, by what each of its rounds does. -/
theorem lpW_measure {F : List AVal × Heap → Option R} {σ : Type} (enc : σ → List AVal × Heap) (inv : σ → Prop) (μ : σ → Nat) (out : σ → R)
    (h : ∀ s, inv s → (∃ s', F (enc s) = some (.normal, enc s') ∧ inv s' ∧ μ s' < μ s ∧ out s' = out s) ∨ (F (enc s) = some (out s) ∧ (out s).1 ≠ .normal)) : ∀ s, inv s → lpW F (enc s) = some (out s) := by
  have key : ∀ n s, μ s = n → inv s → lpW F (enc s) = some (out s) := by
    intro n
    induction n using Nat.strongRecOn with
    | _ n ih =>
      intro s hn hi
      rw [lpW_step]
      rcases h s hi with ⟨s', e1, e2, e3, e4⟩ | ⟨e1, e2⟩
      · rw [e1]
        simp only [Option.bind_some, thenDo_normal]
        rw [ih (μ s') (by omega) s' rfl e2, e4]
      · rw [e1]
        generalize out s = r at e2
        obtain ⟨e, l⟩ := r
        cases e <;> first | exact absurd rfl e2 | rfl
  exact fun s hi => key (μ s) s rfl hi

end Hk

/-
  THE EVALUATOR's OPERATIONS ON SLICES THAT ARE WRITTEN INTO, AND ON MAPS OF INTEGERS: equations for 'simp'.
-/
namespace Hk
open Go

section
variable {k k' : IntKind} {a b : Int} {h : Heap} {m n id tot off len sz : Nat} {v w : AVal} {cs : List AVal}

@[simp] theorem untok_vslice : AVal.untok (.vslice id tot off len sz) = .vslice id tot off len sz := (rfl)
@[simp] theorem untok_vptr : AVal.untok (.vptr id tot off) = .vptr id tot off := (rfl)
@[simp] theorem untok1_vslice : AVal.untok1 (.vslice id tot off len sz) = .vslice id tot off len sz := (rfl)
@[simp] theorem cells_vslice : AVal.cells (.vslice id tot off len sz) = [.vslice id tot off len sz] := (rfl)
@[simp] theorem cellOk_vslice : AVal.cellOk (.vslice id tot off len sz) = true := (rfl)
@[simp] theorem cells_func {f : Nat} {x y : List AVal} : AVal.cells (.func f x y) = [.func f x y] := (rfl)
@[simp] theorem cellOk_func {f : Nat} {x y : List AVal} : AVal.cellOk (.func f x y) = true := (rfl)
@[simp] theorem isJunk_vslice : AVal.isJunk (.vslice id tot off len sz) = false := (rfl)
@[simp] theorem keep1_vslice {o : AVal} : keep1 h o (.vslice id tot off len sz) = .vslice id tot off len sz := (rfl)
theorem san1_vslice (hi : id < m) : AVal.san1 m h (.vslice id tot off len sz) = .vslice id tot off len sz := by simp [AVal.san1, hi]
theorem san_vslice_eq : AVal.san m h (.vslice id tot off len sz) = AVal.san1 m h (.vslice id tot off len sz) := (rfl)
theorem san_vslice (hi : id < m) : AVal.san m h (.vslice id tot off len sz) = .vslice id tot off len sz := by rw [san_vslice_eq, san1_vslice hi]
@[simp] theorem alenSl_vslice : alenSl (.vslice id tot off len sz) = some (.int .i64 len) := (rfl)
@[simp] theorem aindexSl_vslice {i : Nat} {sz' : Nat} : aindexSl sz' (.vslice id tot off len sz) (.int k (i : Int)) = if i < len ∧ sz = sz' then some (.vptr id tot (off + i * sz')) else none := by
  simp [aindexSl]
theorem aindexSl_vlit {i : Int} {sz' : Nat} : aindexSl sz' (.vslice id tot off len sz) (.int k i) = if 0 ≤ i ∧ i < len ∧ sz = sz' then some (.vptr id tot (off + i.toNat * sz')) else none := (rfl)
@[simp] theorem afieldAt_vptr {o : Nat} : afieldAt o (.vptr id tot off) = some (.vptr id tot (off + o)) := (rfl)
@[simp] theorem anilCheck_vptr : anilCheck (.vptr id tot off) = some (.vptr id tot off) := (rfl)
@[simp] theorem aload_vptr : aload false n h (.vptr id tot off) = (getVec h id tot).bind fun x => x.2[off]? := by
  simp only [aload, apart, cond_false]; cases getVec h id tot <;> rfl
@[simp] theorem aload_vptrT : aload true n h (.vptr id tot off) = (getVec h id tot).bind fun x => if off + n ≤ x.2.length then some (.agg ((x.2.drop off).take n)) else none := by
  simp only [aload, apart, cond_true]; cases getVec h id tot <;> rfl
@[simp] theorem astore_vptr : astore n h (.vptr id tot off) v = (getVec h id tot).bind fun x => if v.cells.length = n ∧ off + n ≤ x.2.length ∧ v.cells.all AVal.cellOk then some (h.set id (.vec tot x.1 (putCells x.2 off v.cells))) else none := by
  simp only [astore]; cases getVec h id tot <;> rfl
theorem getVec_zero {r : Heap} : getVec (.vec tot sz cs :: r) 0 tot = some (sz, cs) := by simp [getVec]
@[simp] theorem getVec_zero' {r : Heap} {tot' : Nat} : getVec (.vec tot' sz cs :: r) 0 tot = if tot' = tot then some (sz, cs) else none := (rfl)
@[simp] theorem getVec_succ {bl : ABlk} {r : Heap} : getVec (bl :: r) (n + 1) tot = getVec r n tot := (rfl)
@[simp] theorem sanBlk_vec : sanBlk m h (.vec tot sz cs) = (sanCells m h cs).map (.vec tot sz) := (rfl)
@[simp] theorem arowsS_slice {rows : List (List AVal)} {t : Tok} : arowsS sz h (.slice rows t) = if rows.all fun r => r.length == sz then some rows else none := (rfl)
@[simp] theorem afreeze_slice {rows : List (List AVal)} {t : Tok} : afreeze h (.slice rows t) = some (.slice rows t, h) := (rfl)
@[simp] theorem afreeze_int : afreeze h (.int k a) = some (.int k a, h) := (rfl)
@[simp] theorem afreeze_bool {x : Bool} : afreeze h (.bool x) = some (.bool x, h) := (rfl)
@[simp] theorem afreeze_agg : afreeze h (.agg cs) = some (.agg cs, h) := (rfl)
theorem sanCells_ints {l : List AVal} (hl : ∀ c ∈ l, ∃ k n, c = .int k n) : sanCells m h l = some l := by
  induction l with
  | nil => rfl
  | cons c r ih =>
    obtain ⟨k, n, rfl⟩ := hl c (by simp)
    rw [sanCells_cons, ih fun c hc => hl c (by simp [hc])]
    rfl
theorem pureRow_ints {l : List AVal} (hl : ∀ c ∈ l, ∃ k n, c = .int k n) : pureRow l = some l := by
  induction l with
  | nil => rfl
  | cons c r ih =>
    obtain ⟨k, n, rfl⟩ := hl c (by simp)
    simp only [pureRow, ih fun c hc => hl c (by simp [hc]), AVal.pure1]
theorem rowsOf_one : ∀ {l : List AVal}, rowsOf l.length 1 l = l.map fun c => [c]
  | [] => rfl
  | c :: r => by simp [rowsOf, rowsOf_one (l := r)]
end
end Hk
