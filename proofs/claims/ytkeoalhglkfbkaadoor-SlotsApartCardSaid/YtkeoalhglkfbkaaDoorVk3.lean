/-
  The texts Vk.Dfr, Vk.Sub, Vk.Fn, Vk.Lim, Vk.Front, Vk.Simp, Vk.Simp2, one behind another. No conditions.
-/
import Derived.Test.YtkeoalhglkfbkaaDoorVk2
import Derived.Recover
import Derived.OpenShut
import Derived.WideKeyArgs
set_option linter.unusedVariables false
set_option linter.unusedSimpArgs false
set_option linter.all false

namespace Hk
open Go Go.RowKit
section
variable {cx : Cx} {ops : Array Oper} {h : kT} {G : Gh} {w : World} {a : Act} {r : R}
def JD (L : Nat) (a0 : Act) (a : Act) : Prop := a.defers = a0.defers ∧ a.tmps.size = a0.tmps.size ∧ ∀ t, L.testBit t = true → a.tmps.getD t undef = a0.tmps.getD t undef
theorem JD.put {L : Nat} {a0 : Act} {dst : Option Tmp} {V : Value} (h : JD L a0 a) (hd : ∀ d, dst = some d → L.testBit d = false) : JD L a0 (a.put dst V) := by
 cases dst with
 | none => exact h
 | some d =>
  refine ⟨h.1, by simpa [Act.put] using h.2.1, fun t ht => ?_⟩
  rw [← h.2.2 t ht]
  have hne : d ≠ t := by
   rintro rfl
   rw [hd d rfl] at ht; cases ht
  simp [Act.put, Array.getD_eq_getD_getElem?, Array.getElem?_setIfInBounds, hne]
theorem uS {L : Nat} {a0 : Act} : ∀ {b : Code}, AS L b = true → SO (JD L a0) b
 | .region _ ops _, hb => by
  simp only [AS, List.all_eq_true] at hb
  intro o ho a V hj
  refine hj.put fun d hd => ?_
  have := hb o ho
  rw [hd] at this
  simpa using this
 | .seq x y, hb => by
  simp only [AS, Bool.and_eq_true] at hb
  exact ⟨uS hb.1, uS hb.2⟩
 | .cond _ x y, hb => by
  simp only [AS, Bool.and_eq_true] at hb
  exact ⟨uS hb.1, uS hb.2⟩
 | .block _ c, hb => uS (b := c) hb
 | .loop c, hb => uS (b := c) hb
 | .skip, _ => trivial
 | .exit _, _ => trivial
 | .ret, _ => trivial
 | .scope _, hb => by simp [AS] at hb
 | .label _, _ => trivial
 | .goto _, _ => trivial
 | .refuse _, _ => trivial
 | .rangeFunc .., _ => trivial
theorem qR {D : List Deferred} : ∀ c : Code, SO (fun a => a.defers = D) c
 | .region _ ops _ => fun o _ a V h => by cases o.dst <;> exact h
 | .seq a b => ⟨qR a, qR b⟩
 | .cond _ a b => ⟨qR a, qR b⟩
 | .block _ c => qR c
 | .loop c => qR c
 | .scope c => qR c
 | .skip | .exit _ | .ret => trivial
 | .label _ | .goto _ | .refuse _ | .rangeFunc .. => trivial
theorem AZ {args : List kR} {X : Array Value} {n : Nat} (hx : yI G h args X) (hn : args.length ≤ n) :
  oC (fun a => a.defers = []) G h (args ++ List.replicate (n - args.length) (.tuple [])) { tmps := X ++ Array.replicate (n - X.size) undef, defers := [] } := by
 refine ⟨by simp [hx.1], fun j v hv => ?_, rfl⟩
 have hs := hx.1
 simp only [Array.getD_eq_getD_getElem?]
 by_cases hj : j < args.length
 ·rw [List.getElem?_append_left hj] at hv
  rw [Array.getElem?_append_left (by omega)]
  have := hx.2 j v hv
  rwa [Array.getD_eq_getD_getElem?] at this
 ·rw [List.getElem?_append_right (by omega)] at hv
  rw [Array.getElem?_append_right (by omega)]
  rw [List.getElem?_replicate] at hv
  split at hv
  ·cases hv
   rename_i hlt
   rw [Array.getElem?_replicate, if_pos (by omega)]
   exact .undef
  ·cases hv
theorem D4 {P : Program} {Q : Exit → Act → List Frame → World → Prop} {cs : List Frame} (hno : ∀ a w, ¬ Q .outgrown a cs w) : ∀ (l : List Nat) (a : Act) (w : World),
  wpOps P ops (fun e a w => Q e a cs w) l a w → wpOpsS P ops Q l a cs w
 | [], a, w, h => h
 | i :: rest, a, w, h => by
  have ih := D4 (P := P) (Q := Q) (cs := cs) hno rest
  simp only [wpOps, wpOpsS] at h ⊢
  cases ho : ops[i]? with
  | none => simp only [ho] at h ⊢; exact ih a w h
  | some o =>
   simp only [ho] at h ⊢
   by_cases hw : Region.wanted o (yielded ops a.tmps) = true
   ·simp only [hw, if_true] at h ⊢
    rcases h with h | ⟨_, x, y, hl⟩
    ·have h' : o.upon P a (fun a' w' => wpOpsS P ops Q rest a' cs w') (fun e a' w' => Q e a' cs w') ((execOp a.eval o).run P w) := Oper.wp_mono (fun a w => ih a w) h
     split
     ·rename_i w' hr
      rw [hr] at h'
      exact h'.elim
     ·exact h'
    ·exact absurd hl (hno _ _)
   ·simp only [hw, if_false, Bool.false_eq_true] at h ⊢
    exact ih _ _ h
def yS : Option Value → FrameMode
 | none => .returning
 | some V => .panicking [{ v := V, recovered := true }]
def Dy : Option Value → FrameMode
 | none => .returning
 | some V => .panicking [{ v := V, recovered := false }]
def NH (G : Gh) (h : kT) (w : World) (h' : kT) (PV : Option Value) (e : Ending) (u' : FrameMode) (w' : World) : Prop :=
 (∃ v, e = .returned v) ∧ u' = yS PV ∧ ∃ G', Ext G h w G' h' w' ∧ Inv G' h' w'
theorem Hc {g : Nat} {caps : List kR} {pv : Option kR} {PV : Option Value} {h' : kT} {X : Array Value} (hm : cx.P.follows .mixedOrders = true) (hX : sR cx.P cx.A) (hK : qI cx.P cx.A cx.K) (hlp : Ke cx.lp)
  (hb : s9 cx g caps pv h = some h') (i : Inv G h w) (gl : p8 cx.A G.H) (hx : yI G h caps X) (hpv : ∀ v, pv = some v → ∃ V, PV = some V ∧ lM G h v V) (hpn : pv = none → PV = none) :
  (∀ w, (callFunc g X).run cx.P w = .ok (.enter g X) w) ∧
  CallsD cx.P g X (Dy PV) w (NH G h w h' PV) := by
 unfold s9 at hb
 cases hf : cx.P.funcs[g]? with
 | none => rw [hf] at hb; cases hb
 | some fn =>
  simp only [hf] at hb
  split at hb
  ·rename_i id ops c hbody
   split at hb
   ·rename_i o os hops
    cases hc : (Bo o && decide (caps.length ≤ fn.ntmps) && fn.results.isEmpty && !(fn.name == "runtime.NumGoroutine")) with
    | false => rw [hc] at hb; cases hb
    | true =>
     rw [hc] at hb
     simp only [Bool.and_eq_true, decide_eq_true_eq, Bool.not_eq_true'] at hc
     obtain ⟨⟨⟨hrec, hcl⟩, hres⟩, hnm⟩ := hc
     have hne : ¬ fn.name = "runtime.NumGoroutine" := by simpa using hnm
     refine ⟨fun w => by simp [callFunc, Sem.run_bind, hf, hbody, hne, Sem.run_pure], ?_⟩
     simp only [cond_true] at hb
     obtain ⟨r0, hr0, hend⟩ := Option.bind_eq_some_iff.1 hb
     refine callsD_of_wpS hf hbody fun c₀ cs hu => ?_
     have h0 : ops[0]? = some o := by rw [← Array.getElem?_toList, hops]; rfl
     unfold Bo at hrec
     simp only [Bool.and_eq_true, Option.isNone_iff_eq_none] at hrec
     obtain ⟨hgu, hrec⟩ := hrec
     obtain ⟨cl, hop, hcal⟩ : ∃ cl, o.op = .call cl ∧ cl.callee = .builtin .recover := by
      split at hrec
      ·rename_i cl ho
       split at hrec
       ·rename_i hcal; exact ⟨cl, ho, hcal⟩
       ·cases hrec
      ·cases hrec
     have hrun : ∀ (a : Act) (w : World), (execOp a.eval o).run cx.P w = .ok .recover w := by
      intro a w
      simp [execOp, hop, resolve, hcal, invoke, builtin, Sem.run_bind, Sem.run_pure]
     have hsz : List.range ops.size = 0 :: ((pF ops.toList).tail).map (·.i) := by
      rw [List.map_tail, qM.1]
      have : ops.size = os.length + 1 := by rw [← Array.length_toList, hops]; rfl
      rw [this, List.range_succ_eq_map]; rfl
     let cs' : List Frame := { c₀ with mode := yS PV } :: cs
     have hrv : lM G h (pv.getD .niliface) (PV.getD .nilIface) := by
      cases hp : pv with
      | none =>
       rw [hpn hp]
       exact .p _ _ .niliface
      | some v =>
       obtain ⟨V, hV, hr⟩ := hpv v hp
       rw [hV]
       exact hr
     obtain ⟨RR, hRR⟩ : ∃ RR, RR = NH G h w h' PV := ⟨_, rfl⟩
     rw [← hRR]
     have slots : oC (fun a => a.defers = []) G h (pG (caps ++ List.replicate (fn.ntmps - caps.length) (.tuple [])) o.dst (pv.getD .niliface)) (Act.put { tmps := X ++ Array.replicate (fn.ntmps - X.size) undef, defers := [] } o.dst (PV.getD .nilIface)) :=
      (AZ hx hcl).put o.dst hrv (by cases o.dst <;> rfl)
     have fin : ∀ (e : Ex) (ρ2 : List kR) (h2 : kT) (G2 : Gh) (w2 : World) (a2 : Act), (e = .normal ∨ e = .ret) → (e, pack 0 ρ2, h2) = r0 → Ext G h w G2 h2 w2 → Inv G2 h2 w2 → oC (fun a => a.defers = []) G2 h2 ρ2 a2 →
       a2.defers = [] ∧ ∃ u', cs' = { c₀ with mode := u' } :: cs ∧ ∃ v, (results fn a2.tmps).run cx.P w2 = .ok v w2 ∧ RR (.returned v) u' w2 := by
      intro e ρ2 h2 G2 w2 a2 he hr x2 i2 s2
      subst hr
      have ht : mL h.length h2 = some h' := by rcases he with rfl | rfl <;> exact hend
      obtain ⟨G3, i3, x3, _, _, _⟩ := vI x2 i2 ht
      have hrs : fn.results.toList.mapM (vW cx.P ρ2 h2) = some [] := by
       have : fn.results = #[] := by simpa using hres
       rw [this]; rfl
      obtain ⟨V, hV, _⟩ := x_ hrs i2 s2
      rw [hRR]
      exact ⟨s2.df, _, rfl, V, hV, ⟨V, rfl⟩, rfl, G3, x3, i3⟩
     have hlen : (pG (caps ++ List.replicate (fn.ntmps - caps.length) (.tuple [])) o.dst (pv.getD .niliface)).length = fn.ntmps := by rw [AY]; simp; omega
     rw [u4 fn.ntmps _ _ _ _ hlen] at hr0
     have tailP := Eh (cx := { cx with n := fn.ntmps, full := 2 ^ fn.ntmps - 1, pan := false }) (J := fun a => a.defers = []) (Q := fun e a w => Exit.thenS (c.wpS cx.P (bodyPostS cx.P fn c₀ cs RR))
       (bodyPostS cx.P fn c₀ cs RR) e a cs' w) (ops := ops) (fun o _ a V h => by cases o.dst <;> exact h) hX hK (pF ops.toList).tail [] _ h G w _
      (fun it Am => qM.2 it (List.mem_of_mem_tail Am)) hr0 i gl slots
      (fun ρ1 h1 G1 w1 a1 e1 x1 i1 s1 => by
       split at e1
       case isFalse => cases e1
       rename_i hl1
       refine wpS_of_wp (tV (cx := { cx with n := fn.ntmps, full := 2 ^ fn.ntmps - 1, pan := false }) (J := fun a => a.defers = []) hm hX hK hlp c 0 ρ1 h1 _ _ r0 G1 w1 a1 _ (qR c) e1 i1 (gl.mono x1.hmono) s1 hl1 ?_)
       ·refine ⟨fun ρ2 h2 G2 w2 a2 e2 x2 i2 s2 _ => ?_, fun e ρ2 h2 G2 w2 a2 e2 x2 i2 s2 _ => ?_, fun v ρ2 h2 G2 w2 a2 V e2 x2 i2 _ _ => ?_⟩
        ·exact fin _ ρ2 h2 G2 w2 a2 (.inl rfl) (Option.some.inj e2) (x1.trans x2) i2 s2
        ·cases e with
         | ret => exact fin _ ρ2 h2 G2 w2 a2 (.inr rfl) (Option.some.inj e2) (x1.trans x2) i2 s2
         | exit id => cases e2; cases hend
         | _ => trivial
        ·cases e2; cases hend)
      (fun v h1 G1 w1 V a1 e1 => by cases e1)
     have tail : wpOps cx.P ops (fun e a w => Exit.thenS (c.wpS cx.P (bodyPostS cx.P fn c₀ cs RR))
       (bodyPostS cx.P fn c₀ cs RR) e a cs' w) (((pF ops.toList).tail).map (·.i))
       (Act.put { tmps := X ++ Array.replicate (fn.ntmps - X.size) undef, defers := [] } o.dst (PV.getD .nilIface)) w := by
      exact tailP
     refine wpS_seq (wpS_region ?_)
     rw [hsz]
     simp only [wpOpsS, h0]
     rw [if_pos (by simp [Region.wanted, hgu])]
     simp only [hrun]
     cases PV with
     | none =>
      have hu' : c₀.mode = .returning := hu
      have hrd : recoverD (c₀ :: cs) = none := by simp [recoverD, hu']
      have hcs : (c₀ :: cs : List Frame) = cs' := by
       have : ({ c₀ with mode := .returning } : Frame) = c₀ := by rw [← hu']
       simp only [cs', yS, this]
      rw [hrd]
      simp only []
      rw [hcs]
      exact D4 (fun a w hq => by obtain ⟨_, hq⟩ := hq; rw [hRR] at hq; obtain ⟨⟨_, h1⟩, _⟩ := hq; cases h1) _ _ _ tail
     | some V =>
      have hu' : c₀.mode = .panicking [{ v := V, recovered := false }] := hu
      have hrd : recoverD (c₀ :: cs) = some (V, cs') := by simp [recoverD, hu', cs', yS]
      rw [hrd]
      exact D4 (fun a w hq => by obtain ⟨_, hq⟩ := hq; rw [hRR] at hq; obtain ⟨⟨_, h1⟩, _⟩ := hq; cases h1) _ _ _ tail
   ·cases hb
  ·cases hb
theorem xC {L : Nat} {x : List kR} : ∀ (n i j k : Nat) (v : kR), (unpackFrom L x n i j)[k]? = some v → v = .junk ∨ L.testBit (i + k) = true
 | 0, i, j, k, v, h => by simp [unpackFrom] at h
 | n + 1, i, j, k, v, h => by
  unfold unpackFrom at h
  cases hb : L.testBit i with
  | true =>
   rw [hb] at h
   cases k with
   | zero => exact .inr hb
   | succ k =>
    have := xC n (i + 1) (j + 1) k v (by simpa using h)
    rwa [show i + (k + 1) = i + 1 + k by omega]
  | false =>
   rw [hb] at h
   cases k with
   | zero => simp at h; exact .inl h.symm
   | succ k =>
    have := xC n (i + 1) j k v (by simpa using h)
    rwa [show i + (k + 1) = i + 1 + k by omega]
theorem oC.any {J J' : Act → Prop} {ρ : List kR} (s : oC J G h ρ a) (hj : J' a) : oC J' G h ρ a := ⟨s.len, s.rel, hj⟩
theorem FN {fn : Func} {RE : Ending → World → Prop} {b : Code} {L : Nat} {fv : kR} {V : Value} {ρ : List kR} (hm : cx.P.follows .mixedOrders = true) (hX : sR cx.P cx.A) (hK : qI cx.P cx.A cx.K) (hlp : Ke cx.lp)
  (hb : wW cx b L fv ρ h = some r) (i : Inv G h w) (gl : p8 cx.A G.H) (s : oC (fun a => a.defers = []) G h ρ a) (hn : ρ.length = cx.n) (hfv : lM G h fv V)
  (hfin : ∀ (a' : Act) G' w', r.1 = .ret → Ext G h w G' r.2.2 w' → Inv G' r.2.2 w' → oC (fun _ => True) G' r.2.2 (unpack cx.n L r.2.1) a' → ∃ v, (results fn a'.tmps).run cx.P w' = .ok v w' ∧ RE (.returned v) w') :
  ∃ d, (∀ w, (Deferred.ofValue V #[]).run cx.P w = .ok d w) ∧ b.wp cx.P (bodyPostD cx.P fn RE) { a with defers := d :: a.defers } w := by
 unfold wW at hb
 cases hok : AS L b with
 | false => rw [hok] at hb; cases hb
 | true =>
  rw [hok] at hb
  simp only [cond_true] at hb
  obtain ⟨⟨g, fi, ca⟩, hg, hb⟩ := Option.bind_eq_some_iff.1 hb
  unfold qC at hg
  split at hg <;> simp only [Option.some.injEq, Prod.mk.injEq, reduceCtorEq] at hg
  rename_i g' fi' ca'
  obtain ⟨rfl, rfl, rfl⟩ := hg
  obtain ⟨F, C, rfl, hlf, hlc, hrf, hrc⟩ := hfv.CZ
  refine ⟨{ target := .fn (.func g') C, args := F ++ #[] }, fun w => by simp [Deferred.ofValue, Sem.run_pure], ?_⟩
  simp only [] at hb
  obtain ⟨r0, hr0, hend⟩ := Option.bind_eq_some_iff.1 hb
  have hxs : ∀ {G' : Gh} {h' : kT} {w' : World}, Ext G h w G' h' w' → yI G' h' (fi' ++ ca') (F ++ #[] ++ C) := by
   intro G' h' w' x
   refine ⟨by simp [hlf, hlc], fun j u hu => ?_⟩
   rw [Array.getD_eq_getD_getElem?]
   by_cases h1 : j < fi'.length
   ·rw [List.getElem?_append_left h1] at hu
    have := (hrf j u hu).mono x.toMono
    rw [Array.getD_eq_getD_getElem?] at this
    simpa [Array.getElem?_append, ← hlf, h1] using this
   ·rw [List.getElem?_append_right (by omega)] at hu
    have := (hrc _ u hu).mono x.toMono
    rw [Array.getD_eq_getD_getElem?] at this
    simpa [Array.getElem?_append, ← hlf, h1] using this
  have hdf : a.defers = [] := s.df
  have leave : ∀ (pv : Option kR) (PV : Option Value) (G2 : Gh) (h2 : kT) (w2 : World) (a2 : Act) (h3 : kT) (pk : List kR), Ext G h w G2 h2 w2 → Inv G2 h2 w2 → (∀ v, pv = some v → ∃ V, PV = some V ∧ lM G2 h2 v V) → (pv = none → PV = none) →
    JD L { a with defers := { target := .fn (.func g') C, args := F ++ #[] } :: a.defers } a2 → s9 cx g' (fi' ++ ca') pv h2 = some h3 → r = (.ret, pk, h3) → oC (fun _ => True) G2 h2 (unpack cx.n L pk) a2 →
    Leaves cx.P fn a2.tmps RE a2.defers (Dy PV) w2 := by
   intro pv PV G2 h2 w2 a2 h3 pk x2 i2 hv1 hv2 hj hrec hr s2
   have hd2 : a2.defers = [{ target := .fn (.func g') C, args := F ++ #[] }] := by rw [hj.1, hdf]
   obtain ⟨hin, hcd⟩ := Hc hm hX hK hlp hrec i2 (gl.mono x2.hmono) (hxs x2) hv1 hv2
   rw [hd2]
   refine leaves_cons (by cases PV <;> simp [Dy]) (f := g') (args := F ++ #[] ++ C) (by simpa [invoke] using hin w2) ?_
   refine hcd.mono fun e u' w' hpost => ?_
   obtain ⟨⟨v, rfl⟩, rfl, G', x3, i3⟩ := hpost
   have hset : settle (yS PV) = .returning := by cases PV <;> simp [settle, yS]
   simp only [hset]
   subst hr
   exact hfin a2 G' w' rfl (x2.trans x3) i3 (s2.mono x3.toMono)
  refine tV (cx := { cx with pan := true }) (J := JD L { a with defers := { target := .fn (.func g') C, args := F ++ #[] } :: a.defers }) hm hX hK hlp b L ρ h _ _ r0 G w _ _ (uS hok) hr0 i gl (s.any (J' := JD L _) ⟨rfl, rfl, fun _ _ => rfl⟩ |> fun s => ⟨s.len, s.rel, ⟨rfl, rfl, fun _ _ => rfl⟩⟩) hn
   ⟨fun ρ2 h2 G2 w2 a2 e2 x2 i2 s2 hn2 => ?_, fun e ρ2 h2 G2 w2 a2 e2 x2 i2 s2 hn2 => ?_, fun v ρ2 h2 G2 w2 a2 V e2 x2 i2 rv hj => ?_⟩
  ·cases e2
   obtain ⟨h3, hrec, hr⟩ := Option.map_eq_some_iff.1 hend
   exact leave none none G2 h2 w2 a2 h3 _ x2 i2 (by simp) (by simp) s2.df hrec hr.symm ((s2.pack hn2).any trivial)
  ·cases e2
   cases e with
   | ret =>
    obtain ⟨h3, hrec, hr⟩ := Option.map_eq_some_iff.1 hend
    exact leave none none G2 h2 w2 a2 h3 _ x2 i2 (by simp) (by simp) s2.df hrec hr.symm ((s2.pack hn2).any trivial)
   | exit id => cases hend
   | _ => trivial
  ·cases e2
   obtain ⟨h3, hrec, hr⟩ := Option.map_eq_some_iff.1 hend
   refine leave (some v) (some V) G2 h2 w2 a2 h3 _ x2 i2 (fun u hu => by cases hu; exact ⟨V, rfl, rv⟩) (by simp) hj hrec hr.symm ⟨?_, fun j u hu => ?_, trivial⟩
   ·rw [oU, ← hn, s.len]
    exact hj.2.1.symm
   ·rcases xC _ _ _ _ _ hu with rfl | hbit
    ·exact .p _ _ (.junk _)
    ·rcases GN (f := id) hn j u (by simpa using hu) with rfl | ⟨u', hu', he⟩
     ·exact .p _ _ (.junk _)
     ·rw [Nat.zero_add] at hbit
      rw [hj.2.2 j hbit]
      have he : u = u' := he
      subst he
      exact (s.rel j u hu').mono x2.toMono
theorem F3 {os : List Oper} {f : Operand} (hl : yR os = some f) : ∃ o c, os.getLast? = some o ∧ o.guard = none ∧ o.op = .defer c ∧ c.callee = .value f ∧ c.args = #[] ∧ o.dst = none := by
 unfold yR at hl
 obtain ⟨o, h1, h2⟩ := Option.bind_eq_some_iff.1 hl
 unfold NR at h2
 split at h2
 ·rename_i c hg ho
  split at h2
  ·rename_i f' hc
   cases he : c.args.isEmpty && o.dst.isNone with
   | false => rw [he] at h2; cases h2
   | true =>
    rw [he] at h2
    simp only [Bool.and_eq_true, Array.isEmpty_iff, Option.isNone_iff_eq_none] at he
    cases h2
    exact ⟨o, c, h1, hg, ho, hc, he.1, he.2⟩
  ·cases h2
 ·cases h2
theorem Hb {fn : Func} {RE : Ending → World → Prop} (hm : cx.P.follows .mixedOrders = true) (hX : sR cx.P cx.A) (hK : qI cx.P cx.A cx.K) (hlp : Ke cx.lp) (hpan : cx.pan = false) : ∀ (c : Code) (L : Nat) (ρ : List kR) (h : kT) (r : R) (G : Gh) (w : World) (a : Act),
  qD cx c L ρ h = some r → Inv G h w → p8 cx.A G.H → oC (fun a => a.defers = []) G h ρ a → ρ.length = cx.n →
  (∀ (a' : Act) G' w', r.1 = .ret → Ext G h w G' r.2.2 w' → Inv G' r.2.2 w' → oC (fun _ => True) G' r.2.2 (unpack cx.n L r.2.1) a' → ∃ v, (results fn a'.tmps).run cx.P w' = .ok v w' ∧ RE (.returned v) w') →
  c.wp cx.P (bodyPostD cx.P fn RE) a w := by
 intro c
 induction c with
 | seq x y ihx ihy =>
  intro L ρ h r G w a hb i gl s hn hfin
  have piece : evalCode cx x (L ||| ue cx.full y) ρ h (fun ρ' h' => qD cx y L ρ' h') (HY L) = some r → (Code.seq x y).wp cx.P (bodyPostD cx.P fn RE) a w := by
   intro hb
   refine wp_seq (tV (J := fun a => a.defers = []) hm hX hK hlp x _ ρ h _ _ r G w a _ (qR x) hb i gl s hn ⟨fun ρ2 h2 G2 w2 a2 e2 x2 i2 s2 hn2 => ?_, fun e ρ2 h2 G2 w2 a2 e2 x2 i2 s2 hn2 => ?_, fun v ρ2 h2 G2 w2 a2 V e2 x2 i2 rv hj => ?_⟩)
   ·exact ihy L ρ2 h2 r G2 w2 a2 e2 i2 (gl.mono x2.hmono) s2 hn2 fun a' G' w' hr x3 i3 s3 => hfin a' G' w' hr (x2.trans x3) i3 s3
   ·cases e with
    | ret =>
     cases e2
     show Leaves cx.P fn a2.tmps RE a2.defers .returning w2
     have hd2 : a2.defers = [] := s2.df
     rw [hd2]
     exact hfin a2 G2 w2 rfl x2 i2 ((s2.pack hn2).any trivial)
    | exit id => cases e2
    | _ => trivial
   ·cases e2
  cases x with
  | region id ops draw =>
   cases draw with
   | true => simp only [qD] at hb; exact piece hb
   | false =>
    simp only [qD] at hb
    cases hl : yR ops.toList with
    | none => simp only [hl] at hb; exact piece hb
    | some f =>
     simp only [hl] at hb
     obtain ⟨o, cl, h1, hgu, hop, hcal, hargs, hdst⟩ := F3 hl
     rw [u4 cx.n _ _ _ _ hn] at hb
     have hsz : List.range ops.size = ((pF ops.toList).dropLast).map (·.i) ++ [ops.size - 1] := by
      have hne : ops.toList ≠ [] := by intro h0; rw [h0] at h1; cases h1
      have hlen : (pF ops.toList).length = ops.size := by simp [pF]
      have hm1 : ((pF ops.toList).dropLast).map (·.i) = (List.range ops.size).dropLast := by rw [List.map_dropLast, qM.1]
      rw [hm1]
      have hpos : 0 < ops.size := by rw [← Array.length_toList]; exact List.length_pos_iff.2 hne
      obtain ⟨m, hmm⟩ : ∃ m, ops.size = m + 1 := ⟨ops.size - 1, by omega⟩
      rw [hmm, List.range_succ, List.dropLast_concat]
      rfl
     have hlast : ops[ops.size - 1]? = some o := by
      rw [← Array.getElem?_toList]
      rw [List.getLast?_eq_getElem?] at h1
      simpa using h1
     refine wp_seq (wp_region ?_)
     rw [hsz]
     refine C4 (J := fun a => a.defers = []) [ops.size - 1] (fun o _ a V h => by cases o.dst <;> exact h) hX hK _ [] ρ h G w a (fun it Am => qM.2 it ((List.dropLast_sublist _).subset Am)) hb i gl s (fun ρ2 h2 G2 w2 a2 e2 x2 i2 s2 => ?_) (fun v h2 G2 w2 V a2 e2 => by cases e2)
     split at e2
     case isFalse => cases e2
     rename_i hn2
     obtain ⟨d, hd, hwp⟩ := FN (fn := fn) (RE := RE) hm hX hK hlp e2 i2 (gl.mono x2.hmono) s2 hn2 (s2.eval (gl.mono x2.hmono) f) fun a' G' w' hr x3 i3 s3 => hfin a' G' w' hr (x2.trans x3) i3 s3
     have hrun : (execOp a2.eval o).run cx.P w2 = .ok (.defer d) w2 := by
      simp [execOp, hop, resolve, hcal, hargs, Sem.run_bind, Sem.run_pure, hd w2]
     simp only [wpOps, hlast]
     rw [if_pos (by simp [Region.wanted, hgu])]
     left
     unfold Oper.wp
     rw [hrun, Oper.upon_defer, hdst]
     exact hwp
  | _ => simp only [qD] at hb; exact piece hb
 | _ => intro L ρ h r G w a hb; simp [qD] at hb
end
end Hk


namespace Hk
open Go Go.RowKit
def sameShape : lW → lW → Prop
 | .free, .free => True
 | .gone, .gone => True
 | .cells _, .cells _ => True
 | .front n sz, .front n' sz' => n = n' ∧ sz = sz'
 | .vec _ _ _, .vec _ _ _ => True
 | .map _, .map _ => True
 | _, _ => False
theorem u9 {f : Nat → Nat} (b : lW) : sameShape b (b.vG f) := by cases b <;> simp [sameShape, lW.vG]
structure Ax (G : Gh) (h : kT) (G2 : Gh) (h2 : kT) (f : Nat → Nat) (p : Nat → Bool) : Prop where
 hmono : ∀ b k v, G.H b k = some v → G2.H b k = some v
 mX : ∀ id b, p id = true → h[id]? = some b → ∃ b2, h2[f id]? = some b2 ∧ sameShape b b2
 pl : ∀ id, p id = true → G2.mX (f id) = G.mX id
 cur : ∀ id, p id = true → G2.cur (f id) = G.cur id
section
variable {G G2 : Gh} {h h2 : kT} {f : Nat → Nat} {p : Nat → Bool}
theorem Ax.live (m : Ax G h G2 h2 f p) {id : Nat} (hp : p id = true) (hl : live h id) : live h2 (f id) := by
 obtain ⟨b, h1, hn⟩ := hl
 obtain ⟨b2, h3, h4⟩ := m.mX id b hp h1
 exact ⟨b2, h3, by cases b <;> cases b2 <;> simp_all [sameShape]⟩
theorem Ax.nf (m : Ax G h G2 h2 f p) {id : Nat} (hp : p id = true) (hl : sG h id) : sG h2 (f id) := by
 obtain ⟨b, h1, hn, hf⟩ := hl
 obtain ⟨b2, h3, h4⟩ := m.mX id b hp h1
 exact ⟨b2, h3, by cases b <;> cases b2 <;> simp_all [sameShape], by cases b <;> cases b2 <;> simp_all [sameShape]⟩
theorem y8 (m : Ax G h G2 h2 f p) {v : kR} {V : Value} (r : lM G h v V) (hok : v.HV p = true) : lM G2 h2 (v.Ar f) V := by
 cases r with
 | p v V hp =>
  have e : v.Ar f = v := by cases hp <;> rfl
  rw [e]; exact .p _ _ (hp.mono m.hmono)
 | agg cs C hl hh => cases hok
 | tuple cs C hl hh => cases hok
 | nil => exact .nil
 | own rows id n sz V hp hf hn hr hc =>
  have hq : p id = true := hok
  obtain ⟨b2, h3, h4⟩ := m.mX id _ hq hf
  cases b2 <;> simp only [sameShape] at h4
  obtain ⟨rfl, rfl⟩ := h4
  exact .own rows (f id) n sz V (hp.mono m.hmono) h3 hn hr fun e => by rw [m.cur id hq]; exact hc e
 | ownv id V hp hb => exact .ownv (f id) V (hp.mono m.hmono) (m.nf hok hb)
 | vslice id tot off len sz b cap hl ht hc hv =>
  have hq : p id = true := hok
  refine .vslice (f id) tot off len sz b cap (m.nf hq hl) ?_ hc ?_
  ·rw [m.cur id hq]; exact ht
  ·rw [m.cur id hq]; exact hv
 | vptr id tot off b hl ht hv =>
  have hq : p id = true := hok
  refine .vptr (f id) tot off b (m.nf hq hl) ?_ ?_
  ·rw [m.cur id hq]; exact ht
  ·rw [m.cur id hq]; exact hv
 | ptr id off hl =>
  have hq : p id = true := hok
  rw [← m.pl id hq]; exact .ptr (f id) off (m.live hq hl)
 | mslice id off len sz cap hl hc =>
  have hq : p id = true := hok
  rw [← m.pl id hq]; exact .mslice (f id) off len sz cap (m.live hq hl) hc
 | mslice0 id off sz cap a => exact .mslice0 (f id) off sz cap a
 | map id hl =>
  have hq : p id = true := hok
  rw [← m.pl id hq]; exact .map (f id) (m.live hq hl)
 | func g first cap F C hlf hlc hf hc =>
  simp only [kR.HV, Bool.and_eq_true, List.isEmpty_iff] at hok
  obtain ⟨rfl, rfl⟩ := hok
  exact .func g [] [] F C hlf hlc (fun i v hv => by simp at hv) (fun i v hv => by simp at hv)
 | iface t v V hh => cases hok
theorem Bx (m : Ax G h G2 h2 f p) {v : kR} {V : Value} (r : lM G h v V) (hok : v.ok p = true) : lM G2 h2 (v.vG f) V := by
 have agg : ∀ (cs : List kR) (V : Value), cs.all (kR.HV p) = true → lM G h (.agg cs) V → lM G2 h2 (.agg (cs.map (kR.Ar f))) V := by
  intro cs V hk hx
  obtain ⟨C, rfl, hl, hr⟩ := hx.tQ
  refine .agg _ _ (by simpa using hl) fun i u hu => ?_
  simp only [List.getElem?_map, Option.map_eq_some_iff] at hu
  obtain ⟨a, ha, rfl⟩ := hu
  exact y8 m (hr i a ha) (List.all_eq_true.1 hk a (List.mem_of_getElem? ha))
 cases v with
 | agg cs => exact agg cs V hok r
 | tuple vs =>
  obtain ⟨C, rfl, hl, hr⟩ := r.zD
  simp only [kR.ok, List.all_eq_true] at hok
  refine .tuple _ _ (by simpa using hl) fun i u hu => ?_
  simp only [List.getElem?_map, Option.map_eq_some_iff] at hu
  obtain ⟨a, ha, rfl⟩ := hu
  have h1 := hr i a ha
  have h2 := hok a (List.mem_of_getElem? ha)
  cases a <;> first | exact agg _ _ h2 h1 | exact y8 m h1 h2
 | _ => exact y8 m r hok
theorem Et {v : kR} (h : v.mC = true) : (v.Ar f).mC = true := by
 cases v <;> first | exact h | rfl | skip
 rename_i rows t
 cases t <;> rfl
theorem vS.vG {w : World} {id j : Nat} {b : lW} (m : Ax G h G2 h2 f p) (hH : G2.H = G.H) (hb : G2.mX j = G.mX id) (hc : G2.cur j = G.cur id) (hok : b.ok p = true)
  (hk : vS G h w id b) : vS G2 h2 w j (b.vG f) := by
 cases b with
 | free => trivial
 | gone => trivial
 | cells cs =>
  obtain ⟨C, e, h1, h2', h3, h4⟩ := hk
  refine ⟨C, e, by rw [hb]; exact h1, by rw [List.length_map]; exact h2', by rw [hb, hH]; exact h3, fun i v hv => ?_⟩
  rw [List.getElem?_map] at hv
  obtain ⟨u, hu, rfl⟩ := Option.map_eq_some_iff.1 hv
  exact ⟨Et (h4 i u hu).1, y8 m (h4 i u hu).2 (List.all_eq_true.1 hok u (List.mem_of_getElem? hu))⟩
 | front n sz =>
  show vS G2 h2 w j (.front n sz)
  simp only [vS] at hk ⊢
  rw [hc, hH]; exact hk
 | vec tot sz cs =>
  obtain ⟨b, cap, C, e, h1, h2', h3, h4, h5, h6, h7, h8, h9⟩ := hk
  refine ⟨b, cap, C, e, by rw [hc]; exact h1, h2', h3, h4, h5, h6, by rw [List.length_map]; exact h7, by rw [hH]; exact h8, fun i v hv => ?_⟩
  rw [List.getElem?_map] at hv
  obtain ⟨u, hu, rfl⟩ := Option.map_eq_some_iff.1 hv
  exact ⟨Et (h9 i u hu).1, y8 m (h9 i u hu).2 (List.all_eq_true.1 hok u (List.mem_of_getElem? hu))⟩
 | map es =>
  obtain ⟨E, c, h1, h2', h3, h4, h5⟩ := hk
  refine ⟨E, c, by rw [hb]; exact h1, by rw [List.length_map]; exact h2', by rw [hb, hH]; exact h3, fun i kv hv => ?_, h5⟩
  rw [List.getElem?_map] at hv
  obtain ⟨u, hu, rfl⟩ := Option.map_eq_some_iff.1 hv
  obtain ⟨mm, a1, a2, a3, a4⟩ := h4 i u hu
  have hok' : (es.all fun e => e.2.HV p) = true := hok
  exact ⟨mm, a1, a2, by rw [hH]; exact a3, y8 m a4 (List.all_eq_true.1 hok' u (List.mem_of_getElem? hu))⟩
theorem zV {id j : Nat} {b : lW} (hb : G2.mX j = G.mX id) (hc : G2.cur j = G.cur id) : mT G2 j (b.vG f) = mT G id b := by
 cases b <;> simp [lW.vG, mT, hb, hc]
end
theorem tJ : ∀ {l : List Nat} {i : Nat}, i ∈ l → l[An l i]? = some i
 | [], i, h => by simp at h
 | a :: r, i, h => by
  unfold An
  cases hab : a == i with
  | true =>
   have : a = i := by simpa using hab
   subst this; rfl
  | false =>
   have hne : a ≠ i := by simpa using hab
   have hm : i ∈ r := by
    rcases List.mem_cons.1 h with h | h
    ·exact absurd h.symm hne
    ·exact h
   simp only [cond_false, List.getElem?_cons_succ]
   exact tJ hm
theorem sV : ∀ {l : List Nat}, tH l = true → ∀ {i j a : Nat}, l[i]? = some a → l[j]? = some a → i = j
 | [], _, i, j, a, h, _ => by simp at h
 | b :: r, hd, i, j, a, hi, hj => by
  simp only [tH, Bool.and_eq_true, Bool.not_eq_true'] at hd
  have hnb : ∀ k, r[k]? = some b → False := fun k hk => by
   have := List.mem_of_getElem? hk
   have h1 : r.contains b = true := by simpa using this
   rw [hd.1] at h1; cases h1
  cases i with
  | zero =>
   cases j with
   | zero => rfl
   | succ j => simp at hi hj; subst hi; exact (hnb j hj).elim
  | succ i =>
   cases j with
   | zero => simp at hi hj; subst hj; exact (hnb i hi).elim
   | succ j => have := sV hd.2 (i := i) (j := j) (by simpa using hi) (by simpa using hj); omega
theorem AX : ∀ {is : List Nat} {bs : kT} {h : kT} {id : Nat}, ¬ id ∈ is → (xN is bs h)[id]? = h[id]?
 | [], _, _, _, _ => rfl
 | i :: is, [], _, _, _ => rfl
 | i :: is, b :: bs, h, id, hn => by
  rw [xN, AX (fun hm => hn (by simp [hm])), List.getElem?_set_ne (fun e => hn (by simp [e]))]
theorem Gm : ∀ {is : List Nat} {bs : kT} {h : kT} {j id : Nat} {b : lW}, tH is = true → is[j]? = some id → bs[j]? = some b → id < h.length → (xN is bs h)[id]? = some b
 | [], _, _, _, _, _, _, h, _, _ => by simp at h
 | i :: is, [], _, _, _, _, _, _, h, _ => by simp at h
 | i :: is, c :: bs, h, j, id, b, hd, hi, hb, hl => by
  simp only [tH, Bool.and_eq_true, Bool.not_eq_true'] at hd
  rw [xN]
  cases j with
  | zero =>
   simp at hi hb; subst hi; subst hb
   rw [AX (fun hm => by
    have h1 : is.contains i = true := by simpa using hm
    rw [hd.1] at h1; cases h1)]
   simp [hl]
  | succ j => exact Gm hd.2 (by simpa using hi) (by simpa using hb) (by simpa using hl)
theorem Km : ∀ {r acc : List Nat}, ∃ l, Kl acc r = acc ++ l
 | [], acc => ⟨[], by simp [Kl]⟩
 | i :: r, acc => by
  obtain ⟨l, hl⟩ := Km (r := r) (acc := bif acc.contains i then acc else acc ++ [i])
  rw [Kl, hl]
  cases acc.contains i with
  | true => exact ⟨l, rfl⟩
  | false => exact ⟨i :: l, by simp⟩
theorem Mc {G G' : Gh} {h h' h2 : kT} {w w' : World} {v : kR} {V : Value} {r : n_} (hb : KH h.length v h' = some (r, h2)) (x : Ext G h w G' h' w') (i : Inv G' h' w') (hv : lM G' h' v V) :
  sQ G h w r h2 (.returned V) w' := by
 unfold KH at hb
 obtain ⟨rest, hids⟩ := Km (r := reach h' [v]) (acc := List.range h.length)
 have hids : M4 h.length v h' = List.range h.length ++ rest := hids
 generalize M4 h.length v h' = ids at *
 unfold VJ at hb
 cases ho : v.ok (fun i => ids.contains i) && R7 ids h' with
 | false => rw [ho] at hb; cases hb
 | true =>
  rw [ho] at hb
  simp only [cond_true, Option.some.injEq, Prod.mk.injEq] at hb
  obtain ⟨rfl, rfl⟩ := hb
  simp only [R7, Bool.and_eq_true, List.all_eq_true] at ho
  obtain ⟨hvok, hdis, hiok⟩ := ho
  have hmem : ∀ {id : Nat}, ids.contains id = true ↔ id ∈ ids := by intro id; simp
  have hblk : ∀ id, id ∈ ids → ∃ b, h'[id]? = some b ∧ b.ok (fun i => ids.contains i) = true := by
   intro id hid
   have := hiok id hid
   cases hg : h'[id]? with
   | none => rw [hg] at this; cases this
   | some b => rw [hg] at this; exact ⟨b, rfl, this⟩
  let Gs : Gh := { H := G'.H, mX := fun j => G'.mX (ids.getD j 0), cur := fun j => G'.cur (ids.getD j 0) }
  have getj : ∀ {j id : Nat}, ids[j]? = some id → ids.getD j 0 = id := fun hj => by rw [List.getD_eq_getElem?_getD, hj]; rfl
  have sg : ∀ {j id : Nat} {b : lW}, ids[j]? = some id → h'[id]? = some b → (yA ids h')[j]? = some (b.vG (An ids)) := by
   intro j id b hj hbb
   unfold yA
   rw [List.getElem?_map, hj]
   simp [List.getD_eq_getElem?_getD, hbb]
  have m1 : Ax G' h' Gs (yA ids h') (An ids) (fun i => ids.contains i) := ⟨fun _ _ _ h => h, fun id b hp hbb => ⟨_, sg (tJ (hmem.1 hp)) hbb, u9 b⟩,
   fun id hp => by show G'.mX _ = _; rw [getj (tJ (hmem.1 hp))], fun id hp => by show G'.cur _ = _; rw [getj (tJ (hmem.1 hp))]⟩
  have sinv : ∀ {j : Nat} {bl : lW}, (yA ids h')[j]? = some bl → ∃ id b, ids[j]? = some id ∧ h'[id]? = some b ∧ b.ok (fun i => ids.contains i) = true ∧ bl = b.vG (An ids) := by
   intro j bl hj
   have hj2 := hj
   unfold yA at hj
   rw [List.getElem?_map] at hj
   obtain ⟨id, hid, _⟩ := Option.map_eq_some_iff.1 hj
   obtain ⟨b, hb1, hb2⟩ := hblk id (List.mem_of_getElem? hid)
   rw [sg hid hb1] at hj2
   exact ⟨id, b, hid, hb1, hb2, (Option.some.inj hj2).symm⟩
  have sown : ∀ {j id : Nat}, ids[j]? = some id → owner Gs (yA ids h') j = owner G' h' id := by
   intro j id hj
   obtain ⟨b, hb1, _⟩ := hblk id (List.mem_of_getElem? hj)
   rw [m_ (sg hj hb1), m_ hb1]
   exact zV (by show G'.mX _ = _; rw [getj hj]) (by show G'.cur _ = _; rw [getj hj])
  have sown2 : ∀ {j b : Nat}, owner Gs (yA ids h') j = some b → ∃ id, ids[j]? = some id ∧ owner G' h' id = some b := by
   intro j b hj
   obtain ⟨bl, hbl, _⟩ := oZ hj
   obtain ⟨id, b0, hid, _⟩ := sinv hbl
   exact ⟨id, hid, by rw [← sown hid]; exact hj⟩
  have low : ∀ {j : Nat}, j < h.length → ids[j]? = some j := fun hj => by
   rw [hids, List.getElem?_append_left (by simpa using hj), List.getElem?_range hj]
  have is : Inv Gs (yA ids h') w' := ⟨i.ok, fun j bl hj => by
    obtain ⟨id, b, hid, hb1, hb2, rfl⟩ := sinv hj
    exact (i.mX id b hb1).vG m1 rfl (by show G'.mX _ = _; rw [getj hid]) (by show G'.cur _ = _; rw [getj hid]) hb2,
   fun a c b ha hc => by
    obtain ⟨ia, h1, h2⟩ := sown2 ha
    obtain ⟨ic, h3, h4⟩ := sown2 hc
    have := i.inj ia ic b h2 h4
    subst this
    exact sV hdis h1 h3⟩
  refine ⟨Gs, ⟨x.os, x.tape, x.output, x.size, fun b hlt hno => x.frame b hlt hno, x.hmono, fun j b hob hlt => ?_, fun id bl hbl => ?_⟩, is, V, rfl, Bx m1 hv hvok⟩
  ·obtain ⟨id, hid, h1⟩ := sown2 hob
   have h2 := x.own id b h1 hlt
   obtain ⟨bl, hbl, _⟩ := oZ h2
   have hlt2 := (List.getElem?_eq_some_iff.1 hbl).1
   have : j = id := sV hdis hid (low hlt2)
   rw [this]; exact h2
  ·have hlt := (List.getElem?_eq_some_iff.1 hbl).1
   obtain ⟨bl', hb1, hk1⟩ := x.kinds id bl hbl
   refine ⟨_, sg (low hlt) hb1, ?_⟩
   have e1 : Gs.mX id = G'.mX id := by show G'.mX _ = _; rw [getj (low hlt)]
   have e2 : Gs.cur id = G'.cur id := by show G'.cur _ = _; rw [getj (low hlt)]
   cases bl <;> cases bl' <;> simp only [lW.vG, Kind, List.length_map] at hk1 ⊢ <;> first | exact hk1.elim | (rw [e1, e2]; exact hk1) | (rw [e1]; exact hk1) | trivial
section
variable {P : Program} {A : Af} {K : k9}
theorem Nj {ids : List Nat} {f : Nat} {args : List kR} {h : kT} {r : n_} {h' : kT} (hK : qI P A K) (hb : Sf K ids f args h = some (r, h')) {G : Gh} {w : World} {X : Array Value} (i : Inv G h w) (gl : p8 A G.H) (hx : yI G h args X) :
  (∀ w, (callFunc f X).run P w = .ok (.enter f X) w) ∧ Calls P f X w (sQ G h w r h') := by
 unfold Sf at hb
 cases ho : Im ids args h with
 | false => rw [ho] at hb; cases hb
 | true =>
  rw [ho] at hb
  simp only [cond_true] at hb
  obtain ⟨⟨r1, h1⟩, hc, hb⟩ := Option.bind_eq_some_iff.1 hb
  unfold E1 at hb
  cases hk : h1.length == ids.length && (h1.all (lW.ok fun j => decide (j < ids.length)) && r1.ok fun j => decide (j < ids.length)) with
  | false => simp only [hk, cond_false] at hb; cases hb
  | true =>
  simp only [hk, cond_true, Option.some.injEq, Prod.mk.injEq] at hb
  obtain ⟨rfl, rfl⟩ := hb
  simp only [Bool.and_eq_true, beq_iff_eq, List.all_eq_true] at hk
  obtain ⟨hlen, hbok, hrok⟩ := hk
  simp only [Im, Bool.and_eq_true, List.all_eq_true] at ho
  obtain ⟨haok, hdis, hiok⟩ := ho
  have hmem : ∀ {id : Nat}, ids.contains id = true ↔ id ∈ ids := by intro id; simp
  have hblk : ∀ id, id ∈ ids → ∃ b, h[id]? = some b ∧ b.ok (fun i => ids.contains i) = true := by
   intro id hid
   have := hiok id hid
   cases hg : h[id]? with
   | none => rw [hg] at this; cases this
   | some b => rw [hg] at this; exact ⟨b, rfl, this⟩
  let Gs : Gh := { H := G.H, mX := fun j => G.mX (ids.getD j 0), cur := fun j => G.cur (ids.getD j 0) }
  have getj : ∀ {j id : Nat}, ids[j]? = some id → ids.getD j 0 = id := fun hj => by rw [List.getD_eq_getElem?_getD, hj]; rfl
  have sg : ∀ {j id : Nat} {b : lW}, ids[j]? = some id → h[id]? = some b → (yA ids h)[j]? = some (b.vG (An ids)) := by
   intro j id b hj hbb
   unfold yA
   rw [List.getElem?_map, hj]
   simp [List.getD_eq_getElem?_getD, hbb]
  have m1 : Ax G h Gs (yA ids h) (An ids) (fun i => ids.contains i) := ⟨fun _ _ _ h => h, fun id b hp hbb => ⟨_, sg (tJ (hmem.1 hp)) hbb, u9 b⟩,
   fun id hp => by show G.mX _ = _; rw [getj (tJ (hmem.1 hp))], fun id hp => by show G.cur _ = _; rw [getj (tJ (hmem.1 hp))]⟩
  have sinv : ∀ {j : Nat} {bl : lW}, (yA ids h)[j]? = some bl → ∃ id b, ids[j]? = some id ∧ h[id]? = some b ∧ b.ok (fun i => ids.contains i) = true ∧ bl = b.vG (An ids) := by
   intro j bl hj
   have hj2 := hj
   unfold yA at hj
   rw [List.getElem?_map] at hj
   obtain ⟨id, hid, _⟩ := Option.map_eq_some_iff.1 hj
   obtain ⟨b, hb1, hb2⟩ := hblk id (List.mem_of_getElem? hid)
   rw [sg hid hb1] at hj2
   exact ⟨id, b, hid, hb1, hb2, (Option.some.inj hj2).symm⟩
  have sown : ∀ {j id : Nat}, ids[j]? = some id → owner Gs (yA ids h) j = owner G h id := by
   intro j id hj
   obtain ⟨b, hb1, _⟩ := hblk id (List.mem_of_getElem? hj)
   rw [m_ (sg hj hb1), m_ hb1]
   exact zV (by show G.mX _ = _; rw [getj hj]) (by show G.cur _ = _; rw [getj hj])
  have sown2 : ∀ {j b : Nat}, owner Gs (yA ids h) j = some b → ∃ id, ids[j]? = some id ∧ owner G h id = some b := by
   intro j b hj
   obtain ⟨bl, hbl, _⟩ := oZ hj
   obtain ⟨id, b0, hid, _⟩ := sinv hbl
   exact ⟨id, hid, by rw [← sown hid]; exact hj⟩
  have is : Inv Gs (yA ids h) w := ⟨i.ok, fun j bl hj => by
    obtain ⟨id, b, hid, hb1, hb2, rfl⟩ := sinv hj
    exact (i.mX id b hb1).vG m1 rfl (by show G.mX _ = _; rw [getj hid]) (by show G.cur _ = _; rw [getj hid]) hb2,
   fun a c b ha hc => by
    obtain ⟨ia, h1, h2⟩ := sown2 ha
    obtain ⟨ic, h3, h4⟩ := sown2 hc
    have := i.inj ia ic b h2 h4
    subst this
    exact sV hdis h1 h3⟩
  have hxs : yI Gs (yA ids h) (args.map (kR.vG (An ids))) X := ⟨by rw [List.length_map]; exact hx.1, fun j u hu => by
   rw [List.getElem?_map] at hu
   obtain ⟨v, hv, rfl⟩ := Option.map_eq_some_iff.1 hu
   exact Bx m1 (hx.2 j v hv) (haok v (List.mem_of_getElem? hv))⟩
  obtain ⟨e1, e2⟩ := hK f _ _ _ _ hc Gs w X is gl hxs
  refine ⟨e1, Calls.mono e2 fun e w' hpost => ?_⟩
  obtain ⟨Ge, x, ie, hpost⟩ := hpost
  let G2 : Gh := { H := Ge.H, mX := fun id => if id ∈ ids then Ge.mX (An ids id) else G.mX id, cur := fun id => if id ∈ ids then Ge.cur (An ids id) else G.cur id }
  have idj : ∀ {j id : Nat}, ids[j]? = some id → An ids id = j := fun hj => sV hdis (tJ (List.mem_of_getElem? hj)) hj
  have b1 : ∀ {j id : Nat}, ids[j]? = some id → G2.mX id = Ge.mX j := fun hj => by
   show (if _ then _ else _) = _
   rw [if_pos (List.mem_of_getElem? hj), idj hj]
  have c1 : ∀ {j id : Nat}, ids[j]? = some id → G2.cur id = Ge.cur j := fun hj => by
   show (if _ then _ else _) = _
   rw [if_pos (List.mem_of_getElem? hj), idj hj]
  have b2 : ∀ {id : Nat}, ¬ id ∈ ids → G2.mX id = G.mX id := fun hn => if_neg hn
  have c2 : ∀ {id : Nat}, ¬ id ∈ ids → G2.cur id = G.cur id := fun hn => if_neg hn
  let back : Nat → Nat := fun j => ids.getD j 0
  let hN : kT := xN ids (h1.map (lW.vG back)) h
  have gin : ∀ {j id : Nat} {b : lW}, ids[j]? = some id → h1[j]? = some b → hN[id]? = some (b.vG back) := by
   intro j id b hj hbj
   obtain ⟨b0, hb0, _⟩ := hblk id (List.mem_of_getElem? hj)
   exact Gm hdis hj (by rw [List.getElem?_map, hbj]; rfl) (List.getElem?_eq_some_iff.1 hb0).1
  have gout : ∀ {id : Nat}, ¬ id ∈ ids → hN[id]? = h[id]? := fun hn => AX hn
  have hjl : ∀ {j id : Nat}, ids[j]? = some id → ∃ b, h1[j]? = some b := fun hj => ⟨_, List.getElem?_eq_getElem (by rw [hlen]; exact (List.getElem?_eq_some_iff.1 hj).1)⟩
  have m2 : Ax Ge h1 G2 hN back (fun j => decide (j < ids.length)) := by
   have gt : ∀ {j : Nat}, decide (j < ids.length) = true → ids[j]? = some (back j) := fun {j} hp => by
    have hlt : j < ids.length := by simpa using hp
    show _ = some (ids.getD j 0)
    rw [List.getD_eq_getElem?_getD, List.getElem?_eq_getElem hlt]; rfl
   exact ⟨fun _ _ _ h => h, fun j b hp hbj => ⟨_, gin (gt hp) hbj, u9 b⟩, fun j hp => b1 (gt hp), fun j hp => c1 (gt hp)⟩
  have own2 : ∀ {id b : Nat}, owner G2 hN id = some b → (∃ j, ids[j]? = some id ∧ owner Ge h1 j = some b) ∨ (¬ id ∈ ids ∧ owner G h id = some b) := by
   intro id b hob
   by_cases hid : id ∈ ids
   ·obtain ⟨j, hj⟩ := List.getElem?_of_mem hid
    obtain ⟨bl, hbl⟩ := hjl hj
    refine .inl ⟨j, hj, ?_⟩
    rw [m_ (gin hj hbl)] at hob
    rw [m_ hbl, ← hob]
    exact (zV (b1 hj) (c1 hj)).symm
   ·refine .inr ⟨hid, ?_⟩
    obtain ⟨bl, hbl, ho2⟩ := oZ hob
    rw [gout hid] at hbl
    rw [m_ hbl, ← ho2]
    cases bl <;> simp [mT, b2 hid, c2 hid]
  have xo : ∀ {id : Nat} {b : Nat}, ¬ id ∈ ids → owner G h id = some b → w'.heap[b]? = w.heap[b]? ∧ ∀ k, Ge.H b k = G.H b k := by
   intro id b hn hob
   obtain ⟨bl, hbl, hob2⟩ := oZ hob
   refine x.frame b ((i.mX id bl hbl).lt hob2) fun j hj => ?_
   obtain ⟨id2, hj2, ho3⟩ := sown2 hj
   have := i.inj id id2 b hob ho3
   subst this
   exact hn (List.mem_of_getElem? hj2)
  have ownS : ∀ {id b : Nat}, owner G2 hN id = some b → b < w.heap.size → owner G h id = some b := by
   intro id b hob hlt
   rcases own2 hob with ⟨j, hj, h2⟩ | ⟨_, h2⟩
   ·obtain ⟨id2, hj2, h3⟩ := sown2 (x.own j b h2 hlt)
    rw [hj] at hj2; cases hj2; exact h3
   ·exact h2
  have kinds : ∀ id bl, h[id]? = some bl → ∃ bl', hN[id]? = some bl' ∧ Kind G G2 id bl bl' := by
   intro id bl hbl
   by_cases hid : id ∈ ids
   ·obtain ⟨j, hj⟩ := List.getElem?_of_mem hid
    obtain ⟨bl', hb1, hk1⟩ := x.kinds j _ (sg hj hbl)
    refine ⟨_, gin hj hb1, ?_⟩
    have e1 : Gs.mX j = G.mX id := by show G.mX _ = _; rw [getj hj]
    have e2 : Gs.cur j = G.cur id := by show G.cur _ = _; rw [getj hj]
    cases bl <;> cases bl' <;> simp only [lW.vG, Kind, e1, e2, List.length_map] at hk1 ⊢ <;> first | exact hk1.elim | (rw [b1 hj, c1 hj]; exact hk1) | (rw [b1 hj]; exact hk1) | trivial
   ·refine ⟨bl, by rw [gout hid]; exact hbl, ?_⟩
    cases bl <;> simp [Kind, b2 hid, c2 hid]
  have ext : Ext G h w G2 hN w' := ⟨x.os, x.tape, x.output, x.size, fun b hlt hno => x.frame b hlt fun j hj => by
    obtain ⟨id, _, ho3⟩ := sown2 hj
    exact hno id ho3, x.hmono, fun id b hob hlt => ownS hob hlt, kinds⟩
  refine ⟨G2, ext, ⟨ie.ok, fun id bl hbl => ?_, fun a c b ha hc => ?_⟩, ?_⟩
  ·by_cases hid : id ∈ ids
   ·obtain ⟨j, hj⟩ := List.getElem?_of_mem hid
    obtain ⟨b0, hb0⟩ := hjl hj
    have := gin hj hb0
    have hbl' : hN[id]? = some bl := hbl
    rw [this] at hbl'
    cases hbl'
    exact (ie.mX j b0 hb0).vG m2 rfl (b1 hj) (c1 hj) (hbok b0 (List.mem_of_getElem? hb0))
   ·have hbl' : h[id]? = some bl := by rw [← gout hid]; exact hbl
    exact (i.mX id bl hbl').F0 ext.toMono (b2 hid) (c2 hid) fun b hob => xo hid (by rw [m_ hbl']; exact hob)
  ·rcases own2 ha with ⟨ja, hja, h2⟩ | ⟨hna, h2⟩
   ·rcases own2 hc with ⟨jc, hjc, h3⟩ | ⟨hnc, h3⟩
    ·have := ie.inj ja jc b h2 h3
     subst this
     rw [hja] at hjc; exact Option.some.inj hjc
    ·obtain ⟨bl, hbl, hob⟩ := oZ h3
     have := ownS ha ((i.mX c bl hbl).lt hob)
     exact i.inj a c b this h3
   ·rcases own2 hc with ⟨jc, hjc, h3⟩ | ⟨hnc, h3⟩
    ·obtain ⟨bl, hbl, hob⟩ := oZ h2
     have := ownS hc ((i.mX a bl hbl).lt hob)
     exact i.inj a c b h2 this
    ·exact i.inj a c b h2 h3
  ·cases r1 with
   | ret v => obtain ⟨V, he, hV⟩ := hpost; exact ⟨V, he, Bx m2 hV hrok⟩
   | pan v => obtain ⟨V, he, hV⟩ := hpost; exact ⟨V, he, Bx m2 hV hrok⟩
end
end Hk


namespace Hk
open Go Go.RowKit
section
variable {P : Program} {A : Af} {K : k9} {lp : PZ} {G : Gh} {h : kT} {w : World}
theorem CY {f : Nat} {v : kR} {V : Value} {r : n_} {h' h2 : kT} {G' : Gh} {w' : World} (hb : finish A f h.length v h' = some (r, h2)) (x : Ext G h w G' h' w') (i : Inv G' h' w') (hv : lM G' h' v V) :
  sQ G h w r h2 (.returned V) w' := by
 unfold finish at hb
 cases he : A.esc f with
 | true =>
  rw [he] at hb; cases hb
  exact ⟨G', x, i, V, rfl, hv⟩
 | false =>
  rw [he] at hb
  simp only [cond_false] at hb
  cases hg : A.grow f with
  | true =>
   rw [hg] at hb
   simp only [cond_true, adD, Option.map_eq_some_iff] at hb
   obtain ⟨h3, ht, hb⟩ := hb
   obtain ⟨G3, i3, x3, _, hrel, _⟩ := vI x i ht
   cases hb
   exact ⟨G3, x3, i3, V, rfl, hrel _ _ hv⟩
  | false =>
   rw [hg] at hb
   cases hz : A.frr f with
   | true =>
    rw [hz] at hb
    simp only [cond_true, cond_false, QZ] at hb
    obtain ⟨y, hy, hb⟩ := Option.bind_eq_some_iff.1 hb
    obtain ⟨G1, i1, x1, r1⟩ := BT i hy hv
    simp only [nE, Option.map_eq_some_iff] at hb
    obtain ⟨h3, ht, hb⟩ := hb
    obtain ⟨G3, i3, x3, _, hrel, _⟩ := vI (x.trans x1) i1 ht
    cases hb
    exact ⟨G3, x3, i3, V, rfl, BG (hrel _ _ r1)⟩
   | false =>
   rw [hz] at hb
   cases hout : A.out f with
   | true =>
    rw [hout] at hb
    simp only [cond_true, cond_false] at hb
    exact Mc hb x i hv
   | false =>
    rw [hout] at hb
    simp only [cond_false, nE, Option.map_eq_some_iff] at hb
    obtain ⟨h3, ht, hb⟩ := hb
    obtain ⟨G3, i3, x3, _, hrel, _⟩ := vI x i ht
    cases hb
    exact ⟨G3, x3, i3, V, rfl, BG (hrel _ _ hv)⟩
theorem uY {ρ : List kR} {x : n_ × kT} : ∀ {l : List ResultVar} {k : List kR → Option (n_ × kT)}, vC P ρ h l k = some x → ∃ vs, l.mapM (vW P ρ h) = some vs ∧ k vs = some x
 | [], k, hb => ⟨[], rfl, hb⟩
 | .tmp t :: l, k, hb => by
  obtain ⟨vs, h1, h2⟩ := uY (l := l) hb
  exact ⟨ρ.getD t .junk :: vs, by simp [List.mapM_cons, vW, h1], h2⟩
 | .cell a t :: l, k, hb => by
  simp only [vC] at hb
  split at hb
  ·rename_i g n hg hn
   obtain ⟨v, hv, hb⟩ := Option.bind_eq_some_iff.1 hb
   obtain ⟨vs, h1, h2⟩ := uY (l := l) hb
   exact ⟨v :: vs, by simp only [List.getD_eq_getElem?_getD] at hv; simp [List.mapM_cons, vW, hg, hn, hv, h1], h2⟩
  ·cases hb
theorem IY {f : Nat} {fn : Func} {c : Code} {args : List kR} {X : Array Value} {r : n_} {h' : kT} (hm : P.follows .mixedOrders = true) (hX : sR P A) (hK : qI P A K) (hlp : Ke lp)
  (hf : P.funcs[f]? = some fn) (hc : fn.body = some c) (hb : IW P A K lp f fn c args h = some (r, h')) (i : Inv G h w) (gl : p8 A G.H) (hx : yI G h args X) (hn : args.length ≤ fn.ntmps) :
  Calls P f X w (sQ G h w r h') := by
 unfold IW at hb
 obtain ⟨r0, hr0, hend⟩ := Option.bind_eq_some_iff.1 hb
 cases hd : A.dfr f with
 | true =>
  rw [hd] at hr0
  simp only [AI] at hr0
  refine calls_of_wp_defers hf hc ?_
  refine Hb (cx := { P, A, K, lp, n := fn.ntmps, full := 2 ^ fn.ntmps - 1, pan := false, vec := A.U5 f, frz := A.frz f, vlit := A.vlit f, vmk := A.vmk f, jt := A.jt f, lkp := A.lkp f, rb := A.rb f }) hm hX hK hlp rfl c _ _ h r0 G w _ hr0 i gl (AZ hx hn) (by simp; omega) ?_
  intro a' G' w' he x2 i2 s2
  have hend' : vC P (unpack fn.ntmps (xP fn) r0.2.1) r0.2.2 fn.results.toList (fun vs => finish A f h.length (oneOf vs) r0.2.2) = some (r, h') := by
   unfold HC at hend
   rw [he] at hend
   cases hp : A.pan f <;> rw [hp] at hend <;> exact hend
  obtain ⟨vs, hvs, hend'⟩ := uY hend'
  obtain ⟨V, hV, hrel⟩ := x_ hvs i2 s2
  exact ⟨V, hV, CY hend' x2 i2 hrel⟩
 | false =>
 rw [hd] at hr0
 simp only [AI] at hr0
 refine calls_of_wp hf hc ?_
 refine tV (cx := { P, A, K, lp, n := fn.ntmps, full := 2 ^ fn.ntmps - 1, pan := A.pan f, vec := A.U5 f, frz := A.frz f, vlit := A.vlit f, vmk := A.vmk f, jt := A.jt f, lkp := A.lkp f, rb := A.rb f }) hm hX hK hlp c _ _ h _ _ r0 G w _ _ (qR c) hr0 i gl (AZ hx hn) (by simp; omega) ?_
 have ret : ∀ (e : Ex) (ρ' : List kR) (h1 : kT) (G' : Gh) (w' : World) (a' : Act), (e = .normal ∨ e = .ret) → HC P A f fn h.length e (unpack fn.ntmps (xP fn) (pack (xP fn) ρ')) h1 = some (r, h') → Ext G h w G' h1 w' → Inv G' h1 w' → oC (fun a => a.defers = []) G' h1 ρ' a' → ρ'.length = fn.ntmps →
   a'.defers = [] ∧ ∃ v, (results fn a'.tmps).run P w' = .ok v w' ∧ sQ G h w r h' (.returned v) w' := by
  intro e ρ' h1 G' w' a' he hend h3 h4 s hn'
  have s' := s.pack (L := xP fn) hn'
  have hend' : vC P (unpack fn.ntmps (xP fn) (pack (xP fn) ρ')) h1 fn.results.toList (fun vs => finish A f h.length (oneOf vs) h1) = some (r, h') := by
   unfold HC at hend
   cases hp : A.pan f <;> rw [hp] at hend <;> rcases he with rfl | rfl <;> exact hend
  obtain ⟨vs, hvs, hend'⟩ := uY hend'
  obtain ⟨V, hV, hrel⟩ := x_ hvs h4 s'
  exact ⟨s.df, V, hV, CY hend' h3 h4 hrel⟩
 refine ⟨fun ρ' h1 G' w' a' h2 h3 h4 h5 h6 => ?_, fun e ρ' h1 G' w' a' h2 h3 h4 h5 h6 => ?_, fun v ρ' h1 G' w' a' V h2 h3 h4 h5 h6 => ?_⟩
 ·cases h2
  exact ret _ ρ' h1 G' w' a' (.inl rfl) hend h3 h4 h5 h6
 ·cases h2
  cases e with
  | ret => exact ret _ ρ' h1 G' w' a' (.inr rfl) hend h3 h4 h5 h6
  | exit id => unfold HC at hend; cases hp : A.pan f <;> rw [hp] at hend <;> cases hend
  | _ => trivial
 ·cases h2
  unfold HC at hend
  cases hp : A.pan f with
  | false => rw [hp] at hend; cases hend
  | true =>
   rw [hp] at hend
   simp only [cond_true, Ex.L9, TR, Option.map_eq_some_iff] at hend
   obtain ⟨h3', ht, hend⟩ := hend
   obtain ⟨G3, i3, x3, _, hrel, _⟩ := vI h3 h4 ht
   cases hend
   exact ⟨h6, G3, x3, i3, V, rfl, BG (hrel _ _ h5)⟩
theorem BU : ∀ {es : List (kR × kR)} {ns : List Int}, wP es = some ns → ns.length = es.length ∧
  ∀ (j : Nat) (kv : kR × kR), es[j]? = some kv → ∃ n m, ns[j]? = some n ∧ kv = (.int .i64 n, .int .i64 m) ∧ (Lit.int .i64 n).wf = true ∧ (Lit.int .i64 m).wf = true
 | [], ns, hb => by simp [wP] at hb; subst hb; simp
 | kv :: r, ns, hb => by
  unfold wP at hb
  split at hb
  ·rename_i h0; cases h0
  ·rename_i n m r' h0
   cases h0
   split at hb
   ·rename_i hw
    obtain ⟨ns', h1, rfl⟩ := Option.map_eq_some_iff.1 hb
    obtain ⟨h2, h3⟩ := BU h1
    refine ⟨by simp [h2], fun j kv hkv => ?_⟩
    cases j with
    | zero => simp at hkv; subst hkv; exact ⟨n, m, rfl, rfl, hw⟩
    | succ j => simpa using h3 j kv (by simpa using hkv)
   ·cases hb
  ·cases hb
theorem Lo {f : Nat} {args : List kR} {r : n_} {h' : kT} {X : Array Value} (hS : E9 P f) (hb : R_ args h = some (r, h')) (i : Inv G h w) (hx : yI G h args X) :
  (∀ w, (callFunc f X).run P w = .ok (.enter f X) w) ∧ Calls P f X w (sQ G h w r h') := by
 refine ⟨fun w => hS.1 X w, ?_⟩
 unfold R_ at hb
 split at hb
 case h_2 => cases hb
 rename_i m
 obtain ⟨v, hv, hb⟩ := Option.map_eq_some_iff.1 hb
 cases hb
 unfold vD at hv
 split at hv
 case h_2 => cases hv
 rename_i id
 split at hv
 case h_2 => cases hv
 rename_i es hid
 split at hv
 case h_2 => cases hv
 rename_i ns hns
 split at hv
 case isFalse => cases hv
 rename_i hlen
 cases hv
 obtain ⟨h1, h2⟩ := BU hns
 obtain ⟨hX0, _⟩ := (hx.2 0 _ rfl).Db
 have hXe : X = #[.map (some (G.mX id))] := by
  obtain ⟨l⟩ := X
  match l, hx.1, hX0 with
  | [a], _, h0 => simp at h0; subst h0; rfl
 obtain ⟨E, clock, g1, g2, g3, g4, g5⟩ := i.mX id _ hid
 have hcells : ∀ (j : Nat) (x : MapEntry), E.toList[j]? = some x → ∃ n v, ns[j]? = some n ∧ x.key = .int .i64 n ∧ x.val = .int .i64 v ∧ (Lit.int .i64 n).wf = true ∧ (Lit.int .i64 v).wf = true := by
  intro j x hj
  have hlt : j < es.length := by rw [← g2, ← Array.length_toList]; exact (List.getElem?_eq_some_iff.1 hj).1
  obtain ⟨n, v, a1, a2, a3, a4⟩ := h2 j _ (List.getElem?_eq_getElem hlt)
  obtain ⟨mm, b1, b2, b3, b4⟩ := g4 j _ (List.getElem?_eq_getElem hlt)
  rw [Array.getElem?_toList] at hj
  rw [hj] at b1
  cases b1
  rw [a2] at b3 b4
  refine ⟨n, v, a1, ?_, b4.pE, a3, a4⟩
  generalize x.key = K at b3
  cases b3; rfl
 have hkeys : E.toList.map (·.key) = ns.map (Value.int .i64) := by
  apply List.ext_getElem?
  intro j
  rw [List.getElem?_map, List.getElem?_map]
  cases hj : E.toList[j]? with
  | none =>
   have : ns[j]? = none := List.getElem?_eq_none (by have := List.getElem?_eq_none_iff.1 hj; simp at this; omega)
   rw [this]; rfl
  | some x =>
   obtain ⟨n, v, a1, a2, _⟩ := hcells j x hj
   rw [a1]; simp [a2]
 rw [hXe]
 refine Calls.mono (hS.2 w (G.mX id) E clock ns g1 g5 hkeys (fun x hx => by
  obtain ⟨j, hj⟩ := List.getElem?_of_mem hx
  obtain ⟨n, v, _, _, a3, _, a5⟩ := hcells j x hj
  exact ⟨v, a3, a5⟩) (fun n hn => by
  obtain ⟨j, hj⟩ := List.getElem?_of_mem hn
  have hlt : j < es.length := by rw [← h1]; exact (List.getElem?_eq_some_iff.1 hj).1
  obtain ⟨n', v, a1, _, a3, _⟩ := h2 j _ (List.getElem?_eq_getElem hlt)
  rw [hj] at a1; cases a1; exact a3) hlen) fun e w' hpost => ?_
 obtain ⟨hbel, V, he, hV⟩ := hpost
 let G' : Gh := { G with H := fun b k => if b < w.heap.size then G.H b k else w'.cell? ⟨b, k, none⟩ }
 have hH : ∀ b k v, G.H b k = some v → G'.H b k = some v := fun b k v hv => by
  have := i.Av hv
  show (if b < w.heap.size then _ else _) = _
  rw [if_pos this]; exact hv
 have key := i.push (G' := G') (ext := []) (w' := w') hbel.os hbel.tape hbel.output hbel.size hbel.block (fun _ _ => rfl) (fun _ _ => rfl) hH (fun b k hb => if_pos hb)
  (fun b k v hb hv => by
   have hv : (if b < w.heap.size then G.H b k else w'.cell? ⟨b, k, none⟩) = some v := hv
   rwa [if_neg (by omega)] at hv)
  (fun j bl hj => by simp at hj) (fun j bl b hj => by simp at hj) (fun j j' bl bl' b hj => by simp at hj)
 rw [List.append_nil] at key
 refine ⟨G', key.2, key.1, V, he, .p _ _ ?_⟩
 rcases hV with ⟨rfl, a, cap, rfl⟩ | ⟨g, cap, rfl, hc, hg, hcell⟩
 ·have e0 : (([] : List Int).mergeSort fun x y => decide (x ≤ y)) = [] := by simp
  rw [e0]; exact .slice0 a cap
 ·have hml : (ns.mergeSort fun x y => decide (x ≤ y)).length = ns.length := List.length_mergeSort _
  have row : ∀ (i j : Nat) (row : List kR) (v : kR), ((ns.mergeSort fun x y => decide (x ≤ y)).map fun n => [kR.int .i64 n])[i]? = some row → row[j]? = some v →
    ∃ n, (ns.mergeSort fun x y => decide (x ≤ y))[i * 1 + j]? = some n ∧ v = .int .i64 n := by
   intro i j row v hi hj
   rw [List.getElem?_map] at hi
   obtain ⟨n, hn, rfl⟩ := Option.map_eq_some_iff.1 hi
   cases j with
   | zero => simp at hj; subst hj; exact ⟨n, by simpa using hn, rfl⟩
   | succ j => simp at hj
  have := o7.slice (H := G'.H) ((ns.mergeSort fun x y => decide (x ≤ y)).map fun n => [kR.int .i64 n]) g 0 cap 1 (fun j => .int .i64 ((ns.mergeSort fun x y => decide (x ≤ y)).getD j 0)) (by simp) (by simp; omega)
   (fun i j r v hi hj => by
    obtain ⟨n, hn, rfl⟩ := row i j r v hi hj
    show (if g < w.heap.size then _ else _) = _
    rw [if_neg (by omega), Nat.zero_add, hcell _ _ hn, List.getD_eq_getElem?_getD, hn]; rfl)
   (fun i j r v hi hj => by obtain ⟨n, hn, rfl⟩ := row i j r v hi hj; rfl)
   (fun i j r v hi hj => by
    obtain ⟨n, hn, rfl⟩ := row i j r v hi hj
    rw [List.getD_eq_getElem?_getD, hn]; exact .int _ _)
  simpa [hml] using this
theorem B6 : ∀ {cs : List kR} {xs : List Int}, D9 cs = some xs → cs = xs.map (.int .i64)
 | [], xs, hb => by simp [D9] at hb; subst hb; rfl
 | v :: r, xs, hb => by
  unfold D9 at hb
  split at hb
  ·rename_i h0; cases h0
  ·rename_i n r' h0
   cases h0
   obtain ⟨ys, h1, rfl⟩ := Option.map_eq_some_iff.1 hb
   rw [B6 h1]; rfl
  ·cases hb
theorem KI {g' : Nat} {cp : List kR} {F : Value} (hx : lM G h (.func g' [] cp) F) : ∃ C, F = .func (.func g') #[] C ∧ cp.length = C.size ∧ ∀ (i : Nat) (v : kR), cp[i]? = some v → lM G h v (C.getD i undef) := by
 cases hx with
 | p _ _ hp => cases hp; exact ⟨#[], rfl, rfl, by simp⟩
 | func f first cap F C hlf hlc hf hc =>
  have : F = #[] := by
   obtain ⟨l⟩ := F; cases l with
   | nil => rfl
   | cons a l => simp at hlf
  subst this
  exact ⟨C, rfl, hlc, hc⟩
theorem wH {key : Int → Int} {x y : Int} : p6 key x y = true ↔ (key x < key y ∨ (key x = key y ∧ x ≤ y)) := by
 unfold p6; simp
theorem HK {le : Int → Int → Bool} {x : Int} {l : List Int} : (Ml le x l).Perm (x :: l) := by
 induction l with
 | nil => exact .refl _
 | cons y r ih =>
  unfold Ml
  cases le x y with
  | true => exact .refl _
  | false => exact (List.Perm.cons y ih).trans (List.Perm.swap x y r)
theorem sC {le : Int → Int → Bool} {l : List Int} : (y_ le l).Perm l := by
 induction l with
 | nil => exact .refl _
 | cons x r ih => exact HK.trans (List.Perm.cons x ih)
theorem KP {key : Int → Int} {x : Int} {l : List Int} (h : l.Pairwise fun a b => p6 key a b = true) : (Ml (p6 key) x l).Pairwise fun a b => p6 key a b = true := by
 induction l with
 | nil => simp [Ml]
 | cons y r ih =>
  unfold Ml
  rw [List.pairwise_cons] at h
  cases hxy : p6 key x y with
  | true =>
   simp only [cond_true]
   rw [List.pairwise_cons]
   refine ⟨fun z hz => ?_, List.pairwise_cons.2 h⟩
   rcases List.mem_cons.1 hz with rfl | hz
   ·exact hxy
   ·have h1 := h.1 z hz
    rw [wH] at *
    omega
  | false =>
   simp only [cond_false]
   rw [List.pairwise_cons]
   refine ⟨fun z hz => ?_, ih h.2⟩
   rcases List.mem_cons.1 (HK.mem_iff.1 hz) with rfl | hz
   ·have : ¬ p6 key z y = true := by rw [hxy]; decide
    rw [wH] at *
    omega
   ·exact h.1 z hz
theorem Dj {key : Int → Int} {l : List Int} : (y_ (p6 key) l).Pairwise fun a b => p6 key a b = true := by
 induction l with
 | nil => exact .nil
 | cons x r ih => exact KP ih
theorem Sb {key : Int → Int} {l : List Int} : y_ (p6 key) l = l.mergeSort (p6 key) := by
 have h2 : (l.mergeSort (p6 key)).Pairwise fun a b => p6 key a b = true := List.pairwise_mergeSort (fun a b c h1 h2 => by rw [wH] at *; omega) (fun a b => by rw [Bool.or_eq_true, wH, wH]; omega) l
 exact List.Perm.eq_of_pairwise (fun a b _ _ h1 h2 => by rw [wH] at *; omega) Dj h2 (sC.trans (List.mergeSort_perm _ _).symm)
theorem Lp {f g : Nat} {args : List kR} {r : n_} {h' : kT} {X : Array Value} (hS : E8 P f g) (hb : Eu g args h = some (r, h')) (i : Inv G h w) (hx : yI G h args X) :
  (∀ w, (callFunc f X).run P w = .ok (.enter f X) w) ∧ Calls P f X w (sQ G h w r h') := by
 refine ⟨fun w => hS.1 X w, ?_⟩
 unfold Eu at hb
 split at hb
 case h_3 => cases hb
 ·rename_i tok g' cp
  split at hb
  case isFalse => cases hb
  rename_i hg
  subst hg
  cases hb
  obtain ⟨C, hF, _⟩ := KI (hx.2 1 _ rfl)
  obtain ⟨a, cap, hA⟩ : ∃ a cap, X.getD 0 undef = .slice a 0 cap := by
   have := (hx.2 0 _ rfl).q9
   generalize X.getD 0 undef = V0 at this
   cases this with
   | slice0 a cap => exact ⟨a, cap, rfl⟩
   | slice rows b off cap sz V _ _ _ _ _ => exact ⟨_, cap, rfl⟩
  have hXe : X = #[.slice a 0 cap, .func (.func g') #[] C] := by
   obtain ⟨l⟩ := X
   match l, hx.1, hA, hF with
   | [x, y], _, h0, h1 => simp at h0 h1; subst h0; subst h1; rfl
  rw [hXe]
  refine Calls.mono (hS.2.1 a cap #[] C w) fun e w' hp => ?_
  obtain ⟨rfl, rfl⟩ := hp
  exact ⟨G, Ext.refl G _ _, i, _, rfl, .p _ _ (.tuple [] #[] rfl (by simp))⟩
 ·rename_i id tot n g' pid po
  split at hb
  case h_2 => cases hb
  rename_i x cs hgv hpc
  split at hb
  case h_2 => cases hb
  rename_i rows tok xs hcs hxs
  split at hb
  case isFalse => cases hb
  rename_i hcond
  obtain ⟨rfl, hne, hx1, hn0, hnl, hnm, hrows, hkeys⟩ := hcond
  cases hb
  have hid := qO hgv
  rw [hx1] at hid
  obtain ⟨Cf, hF, hFl, hFc⟩ := KI (hx.2 1 _ rfl)
  obtain ⟨b, cap, hA, hnf, htot, hlc, hv⟩ := (hx.2 0 _ rfl).pP
  obtain ⟨b', cap', C, e0, g1, g2, g3, g4, g5, g6, g7, g8, g9⟩ := i.mX id _ hid
  obtain ⟨l0, cap0, k1, k2, k3, k4⟩ := hv (by rw [g1]; rfl)
  have hcur := g1
  rw [g1] at k1
  simp only [Value.slice.injEq, Option.some.injEq, Addr.mk.injEq] at k1
  obtain ⟨⟨rfl, _⟩, _, rfl⟩ := k1
  have hP := (hFc 0 _ rfl).xM
  obtain ⟨Cp, ep, p1, p2, p3, p4⟩ := i.mX pid _ hpc
  have hXe : X = #[.slice (some ⟨b', 0, none⟩) n cap, .func (.func g') #[] #[.pointer (some ⟨G.mX pid, po, none⟩)]] := by
   have hCf : Cf = #[.pointer (some ⟨G.mX pid, po, none⟩)] := by
    obtain ⟨l⟩ := Cf
    match l, hFl, hP with
    | [x], _, h0 => simp at h0; rw [h0.1]
   subst hCf
   obtain ⟨l⟩ := X
   match l, hx.1, hA, hF with
   | [x, y], _, h0, h1 => simp at h0 h1; subst h0; subst h1; rfl
  have hxl : xs.length = n := by
   have := congrArg List.length (B6 hxs)
   simp at this; omega
  have hcell : ∀ (j : Nat) (m : Int), xs[j]? = some m → x.2[j]? = some (.int .i64 m) := by
   intro j m hj
   have h1 : (x.2.take n)[j]? = some (.int .i64 m) := by rw [B6 hxs, List.getElem?_map, hj]; rfl
   rw [List.getElem?_take] at h1
   split at h1
   ·exact h1
   ·cases h1
  have hne0 : xs ≠ [] := by intro h0; rw [h0] at hxl; simp at hxl; omega
  have hkey : ∀ y ∈ xs, 0 ≤ y ∧ ∃ row, rows[y.toNat]? = some row ∧ row[0]? = some (.int .i64 ((vQ rows y).getD 0)) := by
   intro y hy
   have := List.all_eq_true.1 hkeys y hy
   unfold vQ at this ⊢
   split at this
   ·rename_i h0
    rw [if_pos h0]
    split at this
    ·rename_i a r hr
     exact ⟨h0, _, hr, rfl⟩
    ·cases this
   ·cases this
  have hsl := (p4 po _ hcs).2.q9
  obtain ⟨sb, so, cp, hVc, hrow⟩ : ∃ sb so cp, Cp.getD po undef = .slice (some ⟨sb, so, none⟩) rows.length cp ∧ ∀ (y : Nat) (row : List kR) (v : Int), rows[y]? = some row → row[0]? = some (.int .i64 v) → G.H sb (so + y * 2) = some (.int .i64 v) := by
   generalize hCv : Cp.getD po undef = Vc at hsl
   cases hsl with
   | slice0 a cap =>
    exfalso
    obtain ⟨y, hy⟩ := List.exists_mem_of_ne_nil _ hne0
    obtain ⟨_, row, h1, _⟩ := hkey y hy
    simp at h1
   | slice _ sb so cp sz V hr hc hH hk hV =>
    refine ⟨sb, so, cp, rfl, fun y row v h1 h2 => ?_⟩
    have hrl := hr row (List.mem_of_getElem? h1)
    have hr2 : row.length = 2 := by have := List.all_eq_true.1 hrows row (List.mem_of_getElem? h1); simpa using this
    have h3 := hH y 0 row _ h1 h2
    have h4 := hV y 0 row _ h1 h2
    have h5 : sz = 2 := by omega
    subst h5
    rw [Nat.add_zero] at h3 h4
    generalize V (y * 2) = Vy at h3 h4
    cases h4
    exact h3
  have hpb : G.mX pid ≠ b' := by
   intro he
   refine hne (i.inj pid id b' ?_ ?_)
   ·unfold owner; rw [hpc, he]
   ·unfold owner; rw [hid]; show (G.cur id).ownBlock = _; rw [hcur]; rfl
  have hsb : sb ≠ b' := by
   intro he
   obtain ⟨y, hy⟩ := List.exists_mem_of_ne_nil _ hne0
   obtain ⟨_, row, h1, h2⟩ := hkey y hy
   have := hrow _ row _ h1 h2
   rw [he, g8] at this; cases this
  have hpcell : w.cell? ⟨G.mX pid, po, none⟩ = some (.slice (some ⟨sb, so, none⟩) rows.length cp) := by
   rw [← hVc]
   have hpl : po < Cp.size := by have := (List.getElem?_eq_some_iff.1 hcs).1; omega
   rw [cell_of w _ po p1, Array.getD_eq_getD_getElem?, Array.getElem?_eq_getElem hpl]; rfl
  have hlen1 : x.2.length = tot := by simpa using g7
  rw [hXe]
  have hS2 := hS.2.2 w b' cap C e0 xs (G.mX pid) po sb so rows.length cp (fun y => (vQ rows y).getD 0) g2 hne0 (by omega)
   (fun j m hj => by
    have h1 := (g9 j _ (hcell j m hj)).2.pE
    have hjl : j < C.size := by have := (List.getElem?_eq_some_iff.1 (hcell j m hj)).1; omega
    rw [Array.getD_eq_getD_getElem?, Array.getElem?_eq_getElem hjl] at h1
    rw [Array.getElem?_eq_getElem hjl]
    simpa using h1)
   hpcell hpb hsb (fun y hy => by
    obtain ⟨h0, row, h1, h2⟩ := hkey y hy
    exact ⟨h0, (List.getElem?_eq_some_iff.1 h1).1, i.ok _ _ _ (hrow _ row _ h1 h2)⟩)
  rw [hxl] at hS2
  refine Calls.mono hS2 fun e w' hp => ?_
  obtain ⟨rfl, q1, q2, q3, os, q4⟩ := hp
  rw [Sb]
  generalize hzs : xs.mergeSort (p6 fun y => (vQ rows y).getD 0) = zs at *
  have hzl : zs.length = n := by rw [← hzs, List.length_mergeSort, hxl]
  have hw := i.GR (off := 0) (vs := zs.map (.int .i64)) (U := zs.map (Value.int .i64)) hid hcur g2 (by simp; omega) (by simp) (fun j u hu => by
   rw [List.getElem?_map] at hu
   obtain ⟨m, hm, rfl⟩ := Option.map_eq_some_iff.1 hu
   refine ⟨rfl, ?_⟩
   rw [List.getD_eq_getElem?_getD, List.getElem?_map, hm]
   exact .p _ _ (.int _ _))
  have hrw : (C.toList.take 0 ++ zs.map (Value.int .i64) ++ C.toList.drop (0 + (zs.map (Value.int .i64)).length)).toArray = (zs.map (Value.int .i64) ++ C.toList.drop n).toArray := by simp [hzl]
  rw [hrw] at hw
  generalize hw1 : w.setRow b' (zs.map (Value.int .i64) ++ C.toList.drop n).toArray = w1 at *
  have e1 : w1.os = w.os := by rw [← hw1]; rfl
  have e2 : w1.tape = w.tape := by rw [← hw1]; rfl
  have e3 : w1.output = w.output := by rw [← hw1]; rfl
  have key := hw.1.push (G' := G) (ext := []) (w' := w') (q1.trans e1.symm) (q2.trans e2.symm) (q3.trans e3.symm) (by rw [q4]; simp) (fun k hk => by rw [q4]; exact Array.getElem?_append_left hk) (fun _ _ => rfl) (fun _ _ => rfl) (fun _ _ _ h => h) (fun _ _ _ => rfl)
   (fun b k v hb hv => by have := hw.1.Av (b := b) (k := k) (v := v) hv; omega)
   (fun j bl hj => by simp at hj) (fun j bl b hj => by simp at hj) (fun j j' bl bl' b hj => by simp at hj)
  rw [List.append_nil] at key
  exact ⟨G, hw.2.trans key.2, key.1, _, rfl, .p _ _ (.tuple [] #[] rfl (by simp))⟩
theorem OE (hm : P.follows .mixedOrders = true) (hX : sR P A) (hK : qI P A (mI A K)) (hlp : Ke lp) : qI P A (qQ P A lp K) := by
 intro f args h r h' hb G w X i gl hx
 unfold qQ at hb
 cases hs : A.srt f with
 | true =>
  rw [hs] at hb
  exact Lo (hX.1 f hs) hb i hx
 | false =>
 rw [hs] at hb
 simp only [cond_false] at hb
 cases hsf : A.srf f with
 | some g =>
  simp only [hsf] at hb
  exact Lp (hX.2.2 f g hsf) hb i hx
 | none =>
 simp only [hsf] at hb
 cases hf : P.funcs[f]? with
 | none => rw [hf] at hb; cases hb
 | some fn =>
  simp only [hf] at hb
  cases hc : fn.body with
  | none => rw [hc] at hb; cases hb
  | some c =>
   simp only [hc] at hb
   cases hg : decide (args.length ≤ fn.ntmps) && !(fn.name == "runtime.NumGoroutine") with
   | false => rw [hg] at hb; cases hb
   | true =>
    rw [hg] at hb
    simp only [Bool.and_eq_true, decide_eq_true_eq, Bool.not_eq_true'] at hg
    refine ⟨fun w => ?_, IY hm hX hK hlp hf hc hb i gl hx hg.1⟩
    have hne : ¬ fn.name = "runtime.NumGoroutine" := by simpa using hg.2
    simp [callFunc, Sem.run_bind, hf, hc, hne, Sem.run_pure]
theorem Inv.empty (i : Inv G h w) : Inv G [] w := ⟨i.ok, fun id bl hb => by simp at hb, fun a b c ha => by simp [owner] at ha⟩
theorem Gk {out : Bool} {r1 r : n_} {h1 h' : kT} {e : Ending} {w' : World} (hb : vF out h (r1, h1) = some (r, h')) (i : Inv G h w) (hpost : sQ G [] w r1 h1 e w') : sQ G h w r h' e w' := by
 obtain ⟨G', x, i', hpost⟩ := hpost
 have fr : ∀ b, b < w.heap.size → w'.heap[b]? = w.heap[b]? ∧ ∀ k, G'.H b k = G.H b k := fun b hb => x.frame b hb fun id => by simp [owner]
 have new : ∀ {j b : Nat}, owner G' h1 j = some b → ¬ b < w.heap.size := fun ho hlt => by
  have := x.own _ _ ho hlt
  simp [owner] at this
 have hcase : (h1 = [] ∧ r = r1 ∧ h' = h) ∨ (h1.all (lW.ok fun j => decide (j < h1.length)) = true ∧ r1.ok (fun j => decide (j < h1.length)) = true ∧ r = r1.vG (fun j => h.length + j) ∧ h' = h ++ h1.map (lW.vG fun j => h.length + j)) := by
  unfold vF at hb
  cases h1 with
  | nil => cases hb; exact .inl ⟨rfl, rfl, rfl⟩
  | cons b t =>
   simp only at hb
   cases hc : out && ((b :: t).all (lW.ok fun j => decide (j < (b :: t).length)) && r1.ok fun j => decide (j < (b :: t).length)) with
   | false => rw [hc] at hb; cases hb
   | true =>
    rw [hc] at hb
    simp only [Bool.and_eq_true] at hc
    cases hb
    exact .inr ⟨hc.2.1, hc.2.2, rfl, rfl⟩
 rcases hcase with ⟨rfl, rfl, rfl⟩ | ⟨hbok, hrok, rfl, rfl⟩
 ·let G2 : Gh := { G' with mX := G.mX, cur := G.cur }
  have mono : BJ G h' G2 h' := ⟨x.hmono, fun id bl hb => ⟨bl, hb, by cases bl <;> simp [Kind, G2]⟩⟩
  have key : ∀ {v : kR} {V : Value}, lM G' [] v V → lM G2 h' v V := by
   intro v V r
   have nl : ∀ id, ¬ live ([] : kT) id := fun id ⟨b, hb, _⟩ => by simp at hb
   induction r with
   | p v V hp => exact .p v V hp
   | agg cs C hl _ ih => exact .agg cs C hl ih
   | tuple cs C hl _ ih => exact .tuple cs C hl ih
   | nil => exact .nil
   | own rows id n sz V hp hf => simp at hf
   | ownv id V hp hb => obtain ⟨b, hb, _⟩ := hb; simp at hb
   | vslice id tot off len sz b cap hb => obtain ⟨b, hb, _⟩ := hb; simp at hb
   | vptr id tot off b hb => obtain ⟨b, hb, _⟩ := hb; simp at hb
   | ptr id off hl => exact absurd hl (nl id)
   | mslice id off len sz cap hl => exact absurd hl (nl id)
   | mslice0 id off sz cap a => exact .mslice0 id off sz cap a
   | map id hl => exact absurd hl (nl id)
   | func f first cap F C hlf hlc _ _ ih1 ih2 => exact .func f first cap F C hlf hlc ih1 ih2
   | iface t v V _ ih => exact .iface t v V ih
  refine ⟨G2, ⟨x.os, x.tape, x.output, x.size, fun b hb _ => fr b hb, x.hmono, fun id b ho _ => ho, mono.kinds⟩, ⟨i'.ok, fun id bl hb => ?_, fun a b c ha hb => i.inj a b c ha hb⟩, ?_⟩
  ·refine (i.mX id bl hb).F0 mono rfl rfl fun b ho => ?_
   exact fr b ((i.mX id bl hb).lt ho)
  ·cases r with
   | ret v => obtain ⟨V, he, hV⟩ := hpost; exact ⟨V, he, key hV⟩
   | pan v => obtain ⟨V, he, hV⟩ := hpost; exact ⟨V, he, key hV⟩
 ·simp only [List.all_eq_true] at hbok
  let G2 : Gh := { H := G'.H, mX := fun id => if id < h.length then G.mX id else G'.mX (id - h.length), cur := fun id => if id < h.length then G.cur id else G'.cur (id - h.length) }
  let sh : Nat → Nat := fun j => h.length + j
  have b1 : ∀ {id : Nat}, id < h.length → G2.mX id = G.mX id := fun hl => if_pos hl
  have c1 : ∀ {id : Nat}, id < h.length → G2.cur id = G.cur id := fun hl => if_pos hl
  have b2 : ∀ {j : Nat}, G2.mX (sh j) = G'.mX j := fun {j} => by
   show (if _ then _ else _) = _
   rw [if_neg (by show ¬ h.length + j < h.length; omega)]; congr 1; show h.length + j - h.length = j; omega
  have c2 : ∀ {j : Nat}, G2.cur (sh j) = G'.cur j := fun {j} => by
   show (if _ then _ else _) = _
   rw [if_neg (by show ¬ h.length + j < h.length; omega)]; congr 1; show h.length + j - h.length = j; omega
  let hN : kT := h ++ h1.map (lW.vG sh)
  have g1 : ∀ {id : Nat}, id < h.length → hN[id]? = h[id]? := fun hl => List.getElem?_append_left hl
  have g2 : ∀ {j : Nat}, hN[sh j]? = (h1[j]?).map (lW.vG sh) := fun {j} => by
   show (h ++ _)[h.length + j]? = _
   rw [List.getElem?_append_right (by omega), Nat.add_sub_cancel_left, List.getElem?_map]
  have m2 : Ax G' h1 G2 hN sh (fun j => decide (j < h1.length)) := ⟨fun _ _ _ h => h, fun j b _ hb => ⟨_, by rw [g2, hb]; rfl, u9 b⟩, fun _ _ => b2, fun _ _ => c2⟩
  have own2 : ∀ {id b : Nat}, owner G2 hN id = some b → (id < h.length ∧ owner G h id = some b) ∨ (∃ j, id = sh j ∧ owner G' h1 j = some b) := by
   intro id b ho
   obtain ⟨bl, hbl, ho2⟩ := oZ ho
   by_cases hl : id < h.length
   ·refine .inl ⟨hl, ?_⟩
    rw [g1 hl] at hbl
    rw [m_ hbl, ← ho2]
    cases bl <;> simp [mT, b1 hl, c1 hl]
   ·have e : id = sh (id - h.length) := by show id = h.length + (id - h.length); omega
    refine .inr ⟨id - h.length, e, ?_⟩
    rw [e, g2] at hbl
    obtain ⟨b0, hb0, rfl⟩ := Option.map_eq_some_iff.1 hbl
    have e3 := zV (G := G') (G2 := G2) (f := sh) (id := id - h.length) (j := sh (id - h.length)) (b := b0) b2 c2
    rw [← e] at e3
    rw [m_ hb0, ← e3]
    exact ho2
  have kinds : ∀ id bl, h[id]? = some bl → ∃ bl', hN[id]? = some bl' ∧ Kind G G2 id bl bl' := by
   intro id bl hbl
   have hl := (List.getElem?_eq_some_iff.1 hbl).1
   refine ⟨bl, by rw [g1 hl]; exact hbl, ?_⟩
   cases bl <;> simp [Kind, b1 hl, c1 hl]
  have ext : Ext G h w G2 hN w' := ⟨x.os, x.tape, x.output, x.size, fun b hb _ => fr b hb, x.hmono, fun id b ho hlt => by
   rcases own2 ho with ⟨_, h2⟩ | ⟨j, _, h2⟩
   ·exact h2
   ·exact absurd hlt (new h2), kinds⟩
  refine ⟨G2, ext, ⟨i'.ok, fun id bl hbl => ?_, fun a c b ha hc => ?_⟩, ?_⟩
  ·have hbl : hN[id]? = some bl := hbl
   by_cases hl : id < h.length
   ·rw [g1 hl] at hbl
    exact (i.mX id bl hbl).F0 ext.toMono (b1 hl) (c1 hl) fun b ho => fr b ((i.mX id bl hbl).lt ho)
   ·have e : id = sh (id - h.length) := by show id = h.length + (id - h.length); omega
    rw [e, g2] at hbl
    obtain ⟨b0, hb0, rfl⟩ := Option.map_eq_some_iff.1 hbl
    rw [e]
    exact (i'.mX _ b0 hb0).vG m2 rfl b2 c2 (hbok b0 (List.mem_of_getElem? hb0))
  ·rcases own2 ha with ⟨hla, h2⟩ | ⟨ja, rfl, h2⟩
   ·rcases own2 hc with ⟨hlc, h3⟩ | ⟨jc, rfl, h3⟩
    ·exact i.inj a c b h2 h3
    ·obtain ⟨bl, hbl, hob⟩ := oZ h2
     exact absurd ((i.mX a bl hbl).lt hob) (new h3)
   ·rcases own2 hc with ⟨hlc, h3⟩ | ⟨jc, rfl, h3⟩
    ·obtain ⟨bl, hbl, hob⟩ := oZ h3
     exact absurd ((i.mX c bl hbl).lt hob) (new h2)
    ·rw [i'.inj ja jc b h2 h3]
  ·cases r1 with
   | ret v => obtain ⟨V, he, hV⟩ := hpost; exact ⟨V, he, Bx m2 hV hrok⟩
   | pan v => obtain ⟨V, he, hV⟩ := hpost; exact ⟨V, he, Bx m2 hV hrok⟩
theorem Kw (hK : qI P A K) : qI P A (mI A K) := by
 intro f args h r h' hb G w X i gl hx
 unfold mI at hb
 cases hp : A.pure f with
 | false =>
  rw [hp] at hb
  cases hsb : A.sub f with
  | false => rw [hsb] at hb; exact hK f args h r h' hb G w X i gl hx
  | true => rw [hsb] at hb; exact Nj hK hb i gl hx
 | true =>
  rw [hp] at hb
  simp only [cond_true] at hb
  cases hs : args.all (kR.rX 0) with
  | false => rw [hs] at hb; cases hb
  | true =>
   rw [hs] at hb
   simp only [cond_true] at hb
   obtain ⟨⟨r1, h1⟩, hc, hb⟩ := Option.bind_eq_some_iff.1 hb
   simp only [List.all_eq_true] at hs
   have l : Left G h G [] 0 := ⟨fun _ _ _ h => h, rfl, rfl, fun id hid => absurd hid (by omega), fun id n sz hid => absurd hid (by omega), fun id hid => absurd hid (by omega)⟩
   have hx0 : yI G [] args X := ⟨hx.1, fun j u hu => uV l (hs u (List.mem_of_getElem? hu)) (hx.2 j u hu)⟩
   obtain ⟨e1, e2⟩ := hK f args [] _ _ hc G w X i.empty gl hx0
   refine ⟨e1, Calls.mono e2 fun e w' hpost => ?_⟩
   exact Gk hb i hpost
theorem HE (hm : P.follows .mixedOrders = true) (hX : sR P A) (hlp : Ke lp) : ∀ n, qI P A (L_ P A lp n)
 | 0 => fun f args h r h' hb => by simp [L_] at hb
 | n + 1 => fun f args h r h' hb => OE hm hX (Kw (HE hm hX hlp n)) hlp f args h r h' hb
end
end Hk


namespace Hk
open Go Go.RowKit
def Ev (p : Nat → Prop) : Prop := ∃ N, ∀ n, N ≤ n → p n
theorem Ev.of {p : Nat → Prop} (h : ∀ n, p n) : Ev p := ⟨0, fun n _ => h n⟩
theorem Ev.imp {p q : Nat → Prop} (h : Ev p) (hi : ∀ n, p n → q n) : Ev q := let ⟨N, hN⟩ := h; ⟨N, fun n hn => hi n (hN n hn)⟩
theorem Ev.and {p q : Nat → Prop} (h : Ev p) (h' : Ev q) : Ev fun n => p n ∧ q n :=
 let ⟨N, hN⟩ := h; let ⟨M, hM⟩ := h'; ⟨max N M, fun n hn => ⟨hN n (by omega), hM n (by omega)⟩⟩
theorem F4 {F : List kR × kT → Option R} : ∀ {n : Nat} {s : List kR × kT} {r : R}, p_ n F s = some r → p_ (n + 1) F s = some r
 | 0, s, r, h => by simp [p_] at h
 | n + 1, s, r, h => by
  rw [p_] at h ⊢
  obtain ⟨r1, h1, h2⟩ := Option.bind_eq_some_iff.1 h
  rw [h1]
  simp only [Option.bind_some]
  cases he : r1.1 with
  | normal => rw [he] at h2; exact F4 h2
  | _ => rw [he] at h2; exact h2
theorem El {F : List kR × kT → Option R} {n m : Nat} {s : List kR × kT} {r : R} (hnm : n ≤ m) (h : p_ n F s = some r) : p_ m F s = some r := by
 induction hnm with
 | refl => exact h
 | step _ ih => exact F4 ih
open Classical in
noncomputable def mJ (F : List kR × kT → Option R) (s : List kR × kT) : Option R :=
 if h : ∃ n r, p_ n F s = some r then some (Classical.choose (Classical.choose_spec h)) else none
theorem xK {F : List kR × kT → Option R} {s : List kR × kT} {r : R} : mJ F s = some r ↔ ∃ n, p_ n F s = some r := by
 unfold mJ
 constructor
 ·intro h
  split at h
  ·rename_i hx
   cases h
   exact ⟨_, Classical.choose_spec (Classical.choose_spec hx)⟩
  ·cases h
 ·rintro ⟨n, hn⟩
  have hx : ∃ n r, p_ n F s = some r := ⟨n, r, hn⟩
  rw [dif_pos hx]
  have h1 := Classical.choose_spec (Classical.choose_spec hx)
  have h2 := El (Nat.le_max_left _ n) h1
  have h3 := El (Nat.le_max_right (Classical.choose hx) n) hn
  rw [h2] at h3
  exact h3
theorem XV : Ke mJ := fun _ _ _ h => xK.1 h
theorem mE (F : List kR × kT → Option R) (s : List kR × kT) : mJ F s = (F s).bind fun r => r.1.lY (mJ F r.2) fun e => some (e, r.2) := by
 apply Option.ext
 intro r
 rw [xK]
 constructor
 ·rintro ⟨n, hn⟩
  cases n with
  | zero => simp [p_] at hn
  | succ n =>
   rw [p_] at hn
   obtain ⟨r1, h1, h2⟩ := Option.bind_eq_some_iff.1 hn
   rw [h1]
   simp only [Option.bind_some]
   cases he : r1.1 with
   | normal => rw [he] at h2; exact xK.2 ⟨n, h2⟩
   | _ => rw [he] at h2; exact h2
 ·intro h
  obtain ⟨r1, h1, h2⟩ := Option.bind_eq_some_iff.1 h
  cases he : r1.1 with
  | normal =>
   rw [he] at h2
   obtain ⟨n, hn⟩ := xK.1 h2
   exact ⟨n + 1, by rw [p_, h1]; simp only [Option.bind_some, he]; exact hn⟩
  | _ =>
   rw [he] at h2
   exact ⟨1, by rw [p_, h1]; simp only [Option.bind_some, he]; exact h2⟩
theorem Uf {F : List kR × kT → Option R} {Fn : Nat → List kR × kT → Option R} (hF : ∀ s r, F s = some r → Ev fun n => Fn n s = some r) {s : List kR × kT} {r : R} (h : mJ F s = some r) :
  Ev fun n => mJ (Fn n) s = some r := by
 obtain ⟨m, hm⟩ := xK.1 h
 have key : ∀ (m : Nat) (s : List kR × kT), p_ m F s = some r → Ev fun n => p_ m (Fn n) s = some r := by
  intro m
  induction m with
  | zero => intro s h; simp [p_] at h
  | succ m ih =>
   intro s h
   rw [p_] at h
   obtain ⟨r1, h1, h2⟩ := Option.bind_eq_some_iff.1 h
   cases he : r1.1 with
   | normal =>
    rw [he] at h2
    refine ((hF _ _ h1).and (ih _ h2)).imp fun n hn => ?_
    rw [p_, hn.1]; simp only [Option.bind_some, he]; exact hn.2
   | _ =>
    rw [he] at h2
    refine (hF _ _ h1).imp fun n hn => ?_
    rw [p_, hn]; simp only [Option.bind_some, he]; exact h2
 exact (key m s hm).imp fun n hn => xK.2 ⟨m, hn⟩
section
variable {cx : Cx} {o : Oper} {ρ : List kR} {h : kT} {kv kp : kR → kT → Option R} {r : R} {ids : List Nat} {ops : List Oper}
theorem QY {kvn kpn : Nat → kR → kT → Option R} (hv : ∀ v h r, kv v h = some r → Ev fun n => kvn n v h = some r) (hp : ∀ v h r, kp v h = some r → Ev fun n => kpn n v h = some r) {r0 : R}
  (hb : kX kv kp r0 = some r) : Ev fun n => kX (kvn n) (kpn n) r0 = some r := by
 obtain ⟨e, l, h⟩ := r0
 cases e with
 | normal =>
  match l with
  | [] => cases hb
  | [v] => exact hv v h r hb
  | _ :: _ :: _ => cases hb
 | pan v => exact hp v h r hb
 | exit _ => cases hb
 | ret => cases hb
def Al (K : k9) (Kn : Nat → k9) : Prop := ∀ f args h r, K f args h = some r → Ev fun n => Kn n f args h = some r
theorem QT {lp' : PZ} {K' : k9} {rsv : Option Nat} (hne : ∀ c f, o.op = .call c → c.callee = .value f → False) : evalOp { cx with K := K', lp := lp' } o rsv ρ h kv kp = evalOp cx o rsv ρ h kv kp := by
 unfold evalOp nH
 cases ho : o.op with
 | call c =>
  simp only []
  cases hc : c.callee with
  | value f => exact (hne c f ho hc).elim
  | builtin b => rfl
  | _ => rfl
 | makeFunc b f c => cases b <;> rfl
 | makeMap t r => cases r <;> rfl
 | typeAssert x xt t ok => cases ok <;> rfl
 | slice t x lo hi mx => cases mx <;> rfl
 | assign x => cases yU x <;> rfl
 | _ => rfl
theorem Cb {lp' : PZ} {Kn : Nat → k9} {kvn kpn : Nat → kR → kT → Option R} {rsv : Option Nat} (hK : Al cx.K Kn) (hv : ∀ v h r, kv v h = some r → Ev fun n => kvn n v h = some r)
  (hp : ∀ v h r, kp v h = some r → Ev fun n => kpn n v h = some r) (hb : evalOp cx o rsv ρ h kv kp = some r) : Ev fun n => evalOp { cx with K := Kn n, lp := lp' } o rsv ρ h (kvn n) (kpn n) = some r := by
 rw [zM] at hb
 obtain ⟨r0, h1, h2⟩ := Option.bind_eq_some_iff.1 hb
 have key : Ev fun n => evalOp { cx with K := Kn n, lp := lp' } o rsv ρ h kW yG = some r0 := by
  by_cases hne : ∃ c f, o.op = .call c ∧ c.callee = .value f
  ·obtain ⟨c, f, ho, hc⟩ := hne
   simp only [evalOp, nH, ho, hc] at h1 ⊢
   obtain ⟨g, hg, h1⟩ := Option.bind_eq_some_iff.1 h1
   cases hext : cx.A.ext g.1 with
   | some ek =>
    refine Ev.of fun n => ?_
    simp only [hg, Option.bind_some, vT, hext] at h1 ⊢
    exact h1
   | none =>
    simp only [vT, hext] at h1 ⊢
    unfold k_ at h1 ⊢
    obtain ⟨r1, hk, h1⟩ := Option.bind_eq_some_iff.1 h1
    refine (hK _ _ _ _ hk).imp fun n hn => ?_
    simp only [hg, Option.bind_some, hext, hn]
    exact h1
  ·refine Ev.of fun n => ?_
   rw [QT (fun c f ho hc => hne ⟨c, f, ho, hc⟩)]
   exact h1
 refine (key.and (QY hv hp h2)).imp fun n hn => ?_
 rw [zM, hn.1]
 exact hn.2
theorem FK {lp' : PZ} {Kn : Nat → k9} {kvn kpn : Nat → kR → kT → Option R} (hK : Al cx.K Kn) (hv : ∀ v h r, kv v h = some r → Ev fun n => kvn n v h = some r)
  (hp : ∀ v h r, kp v h = some r → Ev fun n => kpn n v h = some r) (hb : nI cx o ids ρ h kv kp = some r) : Ev fun n => nI { cx with K := Kn n, lp := lp' } o ids ρ h (kvn n) (kpn n) = some r :=
 Cb hK (fun v h' r hk => hv v _ r hk) (fun v h' r hk => hp v _ r hk) hb
theorem KD {lp' : PZ} {Kn : Nat → k9} {m : Nat} {kvn : Nat → kR → kT → Option R} (hK : Al cx.K Kn) (hv : ∀ v h r, kv v h = some r → Ev fun n => kvn n v h = some r)
  (hb : uZ cx o m ids ρ h kv = some r) : Ev fun n => uZ { cx with K := Kn n, lp := lp' } o m ids ρ h (kvn n) = some r := by
 unfold uZ at hb ⊢
 cases hs : (h.take m).all (vY m) with
 | false => rw [hs] at hb; cases hb
 | true =>
  rw [hs] at hb
  simp only [cond_true] at hb ⊢
  obtain ⟨r0, h1, h2⟩ := Option.bind_eq_some_iff.1 hb
  have e1 : Ev fun n => nI { cx with K := Kn n, lp := lp' } o ids (ρ.map (A2 m)) (h.take m) kW yG = some r0 :=
   FK (kvn := fun _ => kW) (kpn := fun _ => yG) hK (fun _ _ _ h => Ev.of fun _ => h) (fun _ _ _ h => Ev.of fun _ => h) h1
  have e2 : Ev fun n => OG m h (kvn n) r0 = some r := by
   unfold OG at h2 ⊢
   split at h2
   ·rename_i v t
    cases hl : t.length == m with
    | false => rw [hl] at h2; cases h2
    | true => rw [hl] at h2; exact hv _ _ _ h2
   ·cases h2
  refine (e1.and e2).imp fun n hn => ?_
  rw [hn.1]
  exact hn.2
theorem IZ {lp' : PZ} {Kn : Nat → k9} {kvn kpn : Nat → kR → kT → Option R} (hK : Al cx.K Kn) (hv : ∀ v h r, kv v h = some r → Ev fun n => kvn n v h = some r)
  (hp : ∀ v h r, kp v h = some r → Ev fun n => kpn n v h = some r) (hb : qY cx ops o ids ρ h kv kp = some r) : Ev fun n => qY { cx with K := Kn n, lp := lp' } ops o ids ρ h (kvn n) (kpn n) = some r := by
 have L : nI cx o ids ρ h kv kp = some r → Ev fun n => nI { cx with K := Kn n, lp := lp' } o ids ρ h (kvn n) (kpn n) = some r :=
  fun hb => Cb hK (fun v h' r hk => hv v _ r hk) (fun v h' r hk => hp v _ r hk) hb
 simp only [xI] at hb ⊢
 unfold wF at hb ⊢
 cases hg : o.guard with
 | none => simp only [hg] at hb ⊢; exact L hb
 | some jw =>
  obtain ⟨j, want⟩ := jw
  simp only [hg] at hb ⊢
  cases hd : (ops[j]?).bind (·.dst) with
  | none => simp only [hd] at hb; cases hb
  | some d =>
   simp only [hd] at hb ⊢
   generalize ρ.getD d .junk = x at hb ⊢
   split at hb
   ·rename_i g
    cases want <;> cases g <;> simp only [cond_true, cond_false] at hb ⊢
    ·exact L hb
    ·exact hv _ _ _ hb
    ·exact hv _ _ _ hb
    ·exact L hb
   ·exact hv _ _ _ hb
   ·cases hb
theorem Ha {lp' : PZ} {Kn : Nat → k9} {m : Nat} {it : Item} {kvn kpn : Nat → kR → kT → Option R} (hK : Al cx.K Kn) (hv : ∀ v h r, kv v h = some r → Ev fun n => kvn n v h = some r)
  (hp : ∀ v h r, kp v h = some r → Ev fun n => kpn n v h = some r) (hb : nR cx ops m it ids ρ h kv kp = some r) : Ev fun n => nR { cx with K := Kn n, lp := lp' } ops m it ids ρ h (kvn n) (kpn n) = some r := by
 unfold nR at hb ⊢
 cases hr : it.rsv with
 | some j =>
  simp only [hr] at hb ⊢
  cases hf : qL it.o with
  | false => rw [hf] at hb; cases hb
  | true =>
   rw [hf] at hb
   exact Cb (kpn := fun _ _ _ => none) hK hv (fun _ _ _ h => by cases h) hb
 | none =>
  simp only [hr] at hb ⊢
  cases hh : it.hid with
  | true =>
   simp only [hh, cond_true] at hb ⊢
   cases hf : tX it.o with
   | false => rw [hf] at hb; cases hb
   | true =>
    rw [hf] at hb
    exact KD hK hv hb
  | false =>
   simp only [hh, cond_false] at hb ⊢
   exact IZ hK hv hp hb
theorem u5 {lp' : PZ} {m : Nat} {Kn : Nat → k9} {k : List kR → kT → Option R} {kn : Nat → List kR → kT → Option R} {kpn : Nat → kR → kT → Option R} (hK : Al cx.K Kn)
  (hk : ∀ ρ h r, k ρ h = some r → Ev fun n => kn n ρ h = some r) (hp : ∀ v h r, kp v h = some r → Ev fun n => kpn n v h = some r) : ∀ (items : List Item) (seen ρ : List kR) (h : kT) (r : R),
  nX cx ops m items seen ρ h k kp = some r → Ev fun n => nX { cx with K := Kn n, lp := lp' } ops m items seen ρ h (kn n) (kpn n) = some r := by
 intro items
 induction items with
 | nil => intro seen ρ h r hb; exact hk _ _ _ hb
 | cons it rest ih =>
  intro seen ρ h r hb
  simp only [nX, uQ] at hb ⊢
  exact Ha hK (fun v h' r hb => ih _ _ _ _ hb) hp hb
theorem FM {lp' : PZ} {Kn : Nat → k9} {k : List kR → kT → Option R} {kn : Nat → List kR → kT → Option R} {kp : kR → kT → Option R} {kpn : Nat → kR → kT → Option R} {draw : Bool} (hK : Al cx.K Kn)
  (hk : ∀ ρ h r, k ρ h = some r → Ev fun n => kn n ρ h = some r) (hkp : ∀ v h r, kp v h = some r → Ev fun n => kpn n v h = some r) (hb : tB cx ops draw ρ h k kp = some r) : Ev fun n => tB { cx with K := Kn n, lp := lp' } ops draw ρ h (kn n) (kpn n) = some r := by
 unfold tB at hb ⊢
 cases draw with
 | false => exact u5 hK (fun ρ h r hb => hk _ _ _ hb) (fun v h r hb => hkp _ _ _ hb) _ _ _ _ _ hb
 | true =>
  simp only [] at hb ⊢
  cases hd : zK ops with
  | none => simp only [hd] at hb; cases hb
  | some items =>
   simp only [hd] at hb ⊢
   exact u5 (cx := { cx with rb := false }) hK (fun ρ h r hb => hk _ _ _ hb) (fun v h r hb => hkp _ _ _ hb) _ _ _ _ _ hb
end
theorem Hy {v : kR} {t e : Option R} {tn en : Nat → Option R} {r : R} (ht : t = some r → Ev fun n => tn n = some r) (he : e = some r → Ev fun n => en n = some r) (hb : lG v t e = some r) :
  Ev fun n => lG v (tn n) (en n) = some r := by
 unfold lG at hb ⊢
 split at hb
 ·rename_i b; cases b
  ·exact he hb
  ·exact ht hb
 ·cases hb
theorem GL {e : Ex} {x : Option R} {f : Ex → Option R} {xn : Nat → Option R} {fn : Nat → Ex → Option R} {r : R} (hx : x = some r → Ev fun n => xn n = some r) (hf : ∀ e, f e = some r → Ev fun n => fn n e = some r)
  (hb : e.lY x f = some r) : Ev fun n => e.lY (xn n) (fn n) = some r := by
 cases e with
 | normal => exact hx hb
 | _ => exact hf _ hb
theorem UJ {e : Ex} {x : Option R} {xn : Nat → Option R} {r : R} (hx : x = some r → Ev fun n => xn n = some r) (hb : e.sO x = some r) : Ev fun n => e.sO (xn n) = some r := by
 cases e with
 | normal => exact hx hb
 | _ => cases hb
theorem Eg {id : Nat} {e : Ex} {x : Option R} {f : Ex → Option R} {xn : Nat → Option R} {fn : Nat → Ex → Option R} {r : R} (hx : x = some r → Ev fun n => xn n = some r) (hf : ∀ e, f e = some r → Ev fun n => fn n e = some r)
  (hb : e.inBlock id x f = some r) : Ev fun n => e.inBlock id (xn n) (fn n) = some r := by
 cases e with
 | normal => exact hx hb
 | exit j =>
  simp only [Ex.inBlock] at hb ⊢
  cases hj : j == id with
  | true => rw [hj] at hb; exact hx hb
  | false => rw [hj] at hb; exact hf _ hb
 | _ => exact hf _ hb
theorem vZ {cx : Cx} {Kn : Nat → k9} (hK : Al cx.K Kn) (hlp : ∀ F s r, cx.lp F s = some r → mJ F s = some r) : ∀ (c : Code) (L : Nat) (ρ : List kR) (h : kT) (kn : List kR → kT → Option R) (ke : Ex → List kR → kT → Option R)
  (knn : Nat → List kR → kT → Option R) (ken : Nat → Ex → List kR → kT → Option R) (r : R),
  (∀ ρ h r, kn ρ h = some r → Ev fun n => knn n ρ h = some r) → (∀ e ρ h r, ke e ρ h = some r → Ev fun n => ken n e ρ h = some r) → evalCode cx c L ρ h kn ke = some r → Ev fun n => evalCode { cx with K := Kn n, lp := mJ } c L ρ h (knn n) (ken n) = some r := by
 obtain ⟨P, A, K, lp, nt, full, pan, vec, frz, vlit, vmk, jt, lkp, rb⟩ := cx
 dsimp only at hlp
 intro c
 induction c with
 | skip => intro L ρ h kn ke knn ken r hk he hb; exact hk _ _ _ hb
 | region id ops draw => intro L ρ h kn ke knn ken r hk he hb; exact FM hK hk (kpn := fun n => ad2 pan (ken n) ρ) (fun v h r hb => by cases pan <;> first | exact he _ _ _ _ hb | cases hb) hb
 | seq x y ihx ihy =>
  intro L ρ h kn ke knn ken r hk he hb
  simp only [evalCode] at hb ⊢
  exact ihx _ ρ h _ _ _ _ r (fun ρ h r hb => ihy _ _ _ _ _ _ _ _ hk he hb) he hb
 | cond c x y ihx ihy =>
  intro L ρ h kn ke knn ken r hk he hb
  simp only [evalCode] at hb ⊢
  cases hf : tI x && tI y with
  | true =>
   simp only [hf, cond_true] at hb ⊢
   obtain ⟨r0, h1, h2⟩ := Option.bind_eq_some_iff.1 hb
   have e1 := Hy (ihx L ρ h _ _ (fun _ => BL jt h.length L .normal) (fun _ => BL jt h.length L) r0 (fun ρ h r hb => Ev.of fun _ => hb) (fun e ρ h r hb => Ev.of fun _ => hb)) (ihy L ρ h _ _ (fun _ => BL jt h.length L .normal) (fun _ => BL jt h.length L) r0 (fun ρ h r hb => Ev.of fun _ => hb) (fun e ρ h r hb => Ev.of fun _ => hb)) h1
   have e2 : Ev fun n => (bif pan || (leaves [] x || leaves [] y) then r0.1.lY (knn n (unpack nt L r0.2.1) r0.2.2) fun e => ken n e (unpack nt L r0.2.1) r0.2.2 else r0.1.sO (knn n (unpack nt L r0.2.1) r0.2.2)) = some r := by
    cases hl : pan || (leaves [] x || leaves [] y) with
    | true => rw [hl] at h2; exact GL (hk _ _ _) (fun e => he e _ _ _) h2
    | false => rw [hl] at h2; exact UJ (hk _ _ _) h2
   refine (e1.and e2).imp fun n hn => ?_
   rw [Option.bind_eq_some_iff]
   exact ⟨r0, hn.1, hn.2⟩
  | false =>
   simp only [hf, cond_false] at hb ⊢
   exact Hy (ihx L ρ h _ _ knn ken r hk he) (ihy L ρ h _ _ knn ken r hk he) hb
 | block id c ih =>
  intro L ρ h kn ke knn ken r hk he hb
  simp only [evalCode] at hb ⊢
  cases hf : decide (2 ≤ x9 id c + bif tI c then 1 else 0) with
  | true =>
   simp only [hf, cond_true] at hb ⊢
   obtain ⟨r0, h1, h2⟩ := Option.bind_eq_some_iff.1 hb
   refine ((ih L ρ h _ _ (fun _ => BL jt h.length L .normal) (fun _ => BL jt h.length L) r0 (fun ρ h r hb => Ev.of fun _ => hb) (fun e ρ h r hb => Ev.of fun _ => hb) h1).and (Eg (hk _ _ _) (fun e => he e _ _ _) h2)).imp fun n hn => ?_
   rw [Option.bind_eq_some_iff]
   exact ⟨r0, hn.1, hn.2⟩
  | false =>
   simp only [hf, cond_false] at hb ⊢
   exact ih L ρ h _ _ knn (fun n e ρ' h' => e.inBlock id (knn n ρ' h') fun e => ken n e ρ' h') r hk (fun e ρ' h' r hb => Eg (hk _ _ _) (fun e => he e _ _ _) hb) hb
 | loop c ih =>
  intro L ρ h kn ke knn ken r hk he hb
  simp only [evalCode] at hb ⊢
  obtain ⟨r0, h1, h2⟩ := Option.bind_eq_some_iff.1 hb
  refine ((Uf (fun s r hb => ih _ _ _ _ _ (fun _ => AG lkp h.length (L ||| ue full c) .normal) (fun _ => AG lkp h.length (L ||| ue full c)) _ (fun ρ h r hb => Ev.of fun _ => hb) (fun e ρ h r hb => Ev.of fun _ => hb) hb) (hlp _ _ _ h1)).and
   (GL (x := none) (xn := fun _ => none) (fun h => by cases h) (fun e => he e _ _ _) h2)).imp fun n hn => ?_
  rw [Option.bind_eq_some_iff]
  exact ⟨r0, hn.1, hn.2⟩
 | scope c ih => intro L ρ h kn ke knn ken r hk he hb; exact ih L ρ h kn ke knn ken r hk he hb
 | label l => intro L ρ h kn ke knn ken r hk he hb; exact hk _ _ _ hb
 | exit id => intro L ρ h kn ke knn ken r hk he hb; exact he _ _ _ _ hb
 | ret => intro L ρ h kn ke knn ken r hk he hb; exact he _ _ _ _ hb
 | _ => intro L ρ h kn ke knn ken r hk he hb; simp [evalCode] at hb
theorem KF {cx : Cx} {Kn : Nat → k9} (hK : Al cx.K Kn) (hlp : ∀ F s r, cx.lp F s = some r → mJ F s = some r) {g : Nat} {caps : List kR} {pv : Option kR} {h h' : kT} (hb : s9 cx g caps pv h = some h') :
  Ev fun n => s9 { cx with K := Kn n, lp := mJ } g caps pv h = some h' := by
 unfold s9 at hb ⊢
 cases hf : cx.P.funcs[g]? with
 | none => rw [hf] at hb; cases hb
 | some fn =>
  simp only [hf] at hb ⊢
  split at hb
  ·rename_i id ops c hbody
   split at hb
   ·rename_i o os hops
    cases hc : (Bo o && decide (caps.length ≤ fn.ntmps) && fn.results.isEmpty && !(fn.name == "runtime.NumGoroutine")) with
    | false => rw [hc] at hb; cases hb
    | true =>
     rw [hc] at hb
     simp only [cond_true] at hb ⊢
     obtain ⟨r0, h1, h2⟩ := Option.bind_eq_some_iff.1 hb
     have e1 := u5 (cx := { cx with n := fn.ntmps, full := 2 ^ fn.ntmps - 1, pan := false }) (lp' := mJ) (ops := ops.toList) (kp := fun _ _ => none) (kpn := fun _ _ _ => none)
      (kn := fun n ρ' h' => evalCode { cx with K := Kn n, lp := mJ, n := fn.ntmps, full := 2 ^ fn.ntmps - 1, pan := false } c 0 ρ' h' (Eo 0) (En 0)) hK
      (fun ρ h r hb => vZ (cx := { cx with n := fn.ntmps, full := 2 ^ fn.ntmps - 1, pan := false }) hK hlp c 0 ρ h _ _ (fun _ => Eo 0) (fun _ => En 0) r (fun ρ h r hb => Ev.of fun _ => hb) (fun e ρ h r hb => Ev.of fun _ => hb) hb)
      (fun _ _ _ h => by cases h) _ _ _ _ _ h1
     refine e1.imp fun n hn => ?_
     rw [Option.bind_eq_some_iff]
     exact ⟨r0, hn, h2⟩
   ·cases hb
  ·cases hb
theorem I0 {cx : Cx} {Kn : Nat → k9} (hK : Al cx.K Kn) (hlp : ∀ F s r, cx.lp F s = some r → mJ F s = some r) {b : Code} {L : Nat} {fv : kR} {ρ : List kR} {h : kT} {r : R} (hb : wW cx b L fv ρ h = some r) :
  Ev fun n => wW { cx with K := Kn n, lp := mJ } b L fv ρ h = some r := by
 unfold wW at hb ⊢
 cases hok : AS L b with
 | false => rw [hok] at hb; cases hb
 | true =>
  rw [hok] at hb
  simp only [cond_true] at hb ⊢
  obtain ⟨g, hg, hb⟩ := Option.bind_eq_some_iff.1 hb
  simp only [hg, Option.bind_some]
  obtain ⟨r0, h1, h2⟩ := Option.bind_eq_some_iff.1 hb
  have e1 := vZ (cx := { cx with pan := true }) hK hlp b L ρ h _ _ (fun _ => Eo L) (fun _ => En L) r0 (fun ρ h r hb => Ev.of fun _ => hb) (fun e ρ h r hb => Ev.of fun _ => hb) h1
  have e2 : Ev fun n => r0.1.L8 ((s9 { cx with K := Kn n, lp := mJ } g.1 (g.2.1 ++ g.2.2) none r0.2.2).map fun h2 => ((.ret, r0.2.1, h2) : R)) (fun v => (s9 { cx with K := Kn n, lp := mJ } g.1 (g.2.1 ++ g.2.2) (some v) r0.2.2).map fun h2 => ((.ret, pack L ρ, h2) : R)) = some r := by
   have key : ∀ {pv : Option kR} {pk : List kR}, ((s9 cx g.1 (g.2.1 ++ g.2.2) pv r0.2.2).map fun h2 => ((.ret, pk, h2) : R)) = some r → Ev fun n => ((s9 { cx with K := Kn n, lp := mJ } g.1 (g.2.1 ++ g.2.2) pv r0.2.2).map fun h2 => ((.ret, pk, h2) : R)) = some r := by
    intro pv pk hx
    obtain ⟨h3, e3, e4⟩ := Option.map_eq_some_iff.1 hx
    exact (KF hK hlp e3).imp fun n hn => by rw [hn]; exact congrArg some e4
   cases he : r0.1 with
   | normal => rw [he] at h2; exact key h2
   | ret => rw [he] at h2; exact key h2
   | exit id => rw [he] at h2; cases h2
   | pan v => rw [he] at h2; exact key h2
  refine (e1.and e2).imp fun n hn => ?_
  rw [Option.bind_eq_some_iff]
  exact ⟨r0, hn.1, hn.2⟩
theorem KE {cx : Cx} {Kn : Nat → k9} (hK : Al cx.K Kn) (hlp : ∀ F s r, cx.lp F s = some r → mJ F s = some r) : ∀ (c : Code) (L : Nat) (ρ : List kR) (h : kT) (r : R), qD cx c L ρ h = some r →
  Ev fun n => qD { cx with K := Kn n, lp := mJ } c L ρ h = some r := by
 intro c
 induction c with
 | seq x y ihx ihy =>
  intro L ρ h r hb
  have piece : evalCode cx x (L ||| ue cx.full y) ρ h (fun ρ' h' => qD cx y L ρ' h') (HY L) = some r →
    Ev fun n => evalCode { cx with K := Kn n, lp := mJ } x (L ||| ue cx.full y) ρ h (fun ρ' h' => qD { cx with K := Kn n, lp := mJ } y L ρ' h') (HY L) = some r := fun hb =>
   vZ hK hlp x _ ρ h _ _ (fun n ρ' h' => qD { cx with K := Kn n, lp := mJ } y L ρ' h') (fun _ => HY L) r (fun ρ h r hb => ihy L ρ h r hb) (fun e ρ h r hb => Ev.of fun _ => hb) hb
  cases x with
  | region id ops draw =>
   cases draw with
   | true => simp only [qD] at hb ⊢; exact piece hb
   | false =>
    simp only [qD] at hb ⊢
    cases hl : yR ops.toList with
    | none => simp only [hl] at hb ⊢; exact piece hb
    | some f =>
     simp only [hl] at hb ⊢
     exact u5 (lp' := mJ) (kpn := fun _ _ _ => none) (kn := fun n ρ' h' => wW { cx with K := Kn n, lp := mJ } y L (pZ cx.A ρ' f) ρ' h') hK (fun ρ h r hb => I0 hK hlp hb) (fun _ _ _ h => by cases h) _ _ _ _ _ hb
  | _ => simp only [qD] at hb ⊢; exact piece hb
 | _ => intro L ρ h r hb; simp [qD] at hb
theorem IV {cx : Cx} {Kn : Nat → k9} (hK : Al cx.K Kn) (hlp : ∀ F s r, cx.lp F s = some r → mJ F s = some r) {d : Bool} {c : Code} {L : Nat} {ρ : List kR} {h : kT} {r : R} (hb : AI cx d c L ρ h = some r) :
  Ev fun n => AI { cx with K := Kn n, lp := mJ } d c L ρ h = some r := by
 cases d with
 | true => exact KE (cx := { cx with pan := false }) hK hlp c L ρ h r hb
 | false => exact vZ hK hlp c L ρ h _ _ (fun _ => Eo L) (fun _ => En L) r (fun ρ h r hb => Ev.of fun _ => hb) (fun e ρ h r hb => Ev.of fun _ => hb) hb
theorem Ox {A : Af} {K : k9} {Kn : Nat → k9} (hK : Al K Kn) : Al (mI A K) fun n => mI A (Kn n) := by
 intro f args h r hb
 unfold mI at hb ⊢
 cases hp : A.pure f with
 | false =>
  simp only [hp, cond_false] at hb ⊢
  cases hsb : A.sub f with
  | false => simp only [hsb, cond_false] at hb ⊢; exact hK _ _ _ _ hb
  | true =>
   simp only [hsb, cond_true] at hb ⊢
   unfold ZA Sf at hb ⊢
   cases ho : Im (reach h args) args h with
   | false => simp only [ho, cond_false] at hb; cases hb
   | true =>
    simp only [ho, cond_true] at hb ⊢
    obtain ⟨r0, h1, h2⟩ := Option.bind_eq_some_iff.1 hb
    refine (hK _ _ _ _ h1).imp fun n hn => ?_
    rw [Option.bind_eq_some_iff]
    exact ⟨r0, hn, h2⟩
 | true =>
  simp only [hp, cond_true] at hb ⊢
  cases hs : args.all (kR.rX 0) with
  | false => simp only [hs, cond_false] at hb; cases hb
  | true =>
   simp only [hs, cond_true] at hb ⊢
   obtain ⟨r0, h1, h2⟩ := Option.bind_eq_some_iff.1 hb
   refine (hK _ _ _ _ h1).imp fun n hn => ?_
   rw [Option.bind_eq_some_iff]
   exact ⟨r0, hn, h2⟩
theorem EO {P : Program} {A : Af} {lp : PZ} {K : k9} {Kn : Nat → k9} (hlp : ∀ F s r, lp F s = some r → mJ F s = some r) (hK : Al K Kn) : Al (qQ P A lp K) fun n => qQ P A mJ (Kn n) := by
 intro f args h r hb
 unfold qQ at hb ⊢
 cases hsr : A.srt f with
 | true =>
  rw [hsr] at hb
  refine ⟨0, fun n _ => ?_⟩
  simp only [hsr]
  exact hb
 | false =>
 simp only [hsr, cond_false] at hb ⊢
 cases hsf : A.srf f with
 | some g =>
  simp only [hsf] at hb
  exact ⟨0, fun n _ => hb⟩
 | none =>
 simp only [hsf] at hb ⊢
 cases hf : P.funcs[f]? with
 | none => simp only [hf] at hb; cases hb
 | some fn =>
  simp only [hf] at hb ⊢
  cases hc : fn.body with
  | none => simp only [hc] at hb; cases hb
  | some c =>
   simp only [hc] at hb ⊢
   cases hg : decide (args.length ≤ fn.ntmps) && !(fn.name == "runtime.NumGoroutine") with
   | false => simp only [hg, cond_false] at hb; cases hb
   | true =>
    simp only [hg, cond_true, IW] at hb ⊢
    obtain ⟨r0, h1, h2⟩ := Option.bind_eq_some_iff.1 hb
    refine (IV (cx := { P, A, K := mI A K, lp, n := fn.ntmps, full := 2 ^ fn.ntmps - 1, pan := A.pan f, vec := A.U5 f, frz := A.frz f, vlit := A.vlit f, vmk := A.vmk f, jt := A.jt f, lkp := A.lkp f, rb := A.rb f }) (Ox hK) hlp h1).imp fun n hn => ?_
    rw [Option.bind_eq_some_iff]
    exact ⟨r0, hn, h2⟩
open Classical in
noncomputable def EP (P : Program) (A : Af) : k9 := fun f args h =>
 if hx : ∃ r, Ev fun n => L_ P A mJ n f args h = some r then some (Classical.choose hx) else none
theorem Bj {P : Program} {A : Af} {f : Nat} {args : List kR} {h : kT} {r : n_ × kT} : EP P A f args h = some r ↔ Ev fun n => L_ P A mJ n f args h = some r := by
 unfold EP
 constructor
 ·intro hb
  split at hb
  ·rename_i hx; cases hb; exact Classical.choose_spec hx
  ·cases hb
 ·intro hb
  have hx : ∃ r, Ev fun n => L_ P A mJ n f args h = some r := ⟨r, hb⟩
  rw [dif_pos hx]
  obtain ⟨N, hN⟩ := (Classical.choose_spec hx).and hb
  obtain ⟨e1, e2⟩ := hN N (Nat.le_refl _)
  rw [e1] at e2
  exact e2
theorem QS {P : Program} {A : Af} {f : Nat} {args : List kR} {h : kT} {r : n_ × kT} (hb : qQ P A mJ (EP P A) f args h = some r) : EP P A f args h = some r := by
 rw [Bj]
 obtain ⟨N, hN⟩ := EO (lp := mJ) (Kn := fun n => L_ P A mJ n) (fun _ _ _ h => h) (fun f args h r hb => Bj.1 hb) f args h r hb
 refine ⟨N + 1, fun n hn => ?_⟩
 cases n with
 | zero => omega
 | succ n => exact hN n (by omega)
theorem NT {P : Program} {A : Af} (m : Nat) : ∀ (n f : Nat) (args : List kR) (h : kT) (r : n_ × kT), L_ P A (p_ m) n f args h = some r → EP P A f args h = some r := by
 have hlp : ∀ F s r, p_ m F s = some r → mJ F s = some r := fun F s r h => xK.2 ⟨m, h⟩
 have key : ∀ n, Al (L_ P A (p_ m) n) fun k => L_ P A mJ k := by
  intro n
  induction n with
  | zero => intro f args h r hb; cases hb
  | succ n ih =>
   intro f args h r hb
   obtain ⟨N, hN⟩ := EO hlp ih f args h r hb
   refine ⟨N + 1, fun k hk => ?_⟩
   cases k with
   | zero => omega
   | succ k => exact hN k (by omega)
 exact fun n f args h r hb => Bj.2 (key n f args h r hb)
theorem OF {P : Program} {A : Af} (hm : P.follows .mixedOrders = true) (hX : sR P A) : qI P A (EP P A) := by
 intro f args h r h' hb
 obtain ⟨N, hN⟩ := Bj.1 hb
 exact HE hm hX XV N f args h r h' (hN N (Nat.le_refl _))
end Hk


namespace Hk
open Go Go.RowKit Go.ChangeShapes
def gh (W : World) : Gh := { H := fun b k => W.cell? ⟨b, k, none⟩, mX := fun _ => 0, cur := fun _ => .slice none 0 0 }
theorem XM (W : World) : Inv (gh W) [] W := ⟨fun _ _ _ h => h, fun id bl hb => by simp at hb, fun a b c ha => by simp [owner] at ha⟩
theorem FD {P : Program} {A : Af} {f : Nat} {args : List kR} {X : Array Value} {W : World} (hm : P.follows .mixedOrders = true) (hX : sR P A) (h : EP P A f args [] = some (.ret (.bool true), []))
  (gl : p8 A (gh W).H) (hx : yI (gh W) [] args X) : Calls P f X W fun e W' => e = .returned (.bool true) ∧ Below W.heap.size W W' := by
 refine ((OF hm hX f args [] _ _ h (gh W) W X (XM W) gl hx).2).mono fun e W' hpost => ?_
 obtain ⟨G', x, _, V, rfl, hV⟩ := hpost
 refine ⟨by rw [hV.tT], x.os, x.tape, x.output, x.size, fun k hk => (x.frame k hk fun id => by simp [owner]).1⟩
section
variable {H : Type} {enc : TypeId × Value → H} {P : Program}
theorem B0 (hl : laidOutB P = true) {W W' : World} {sp' : Nat → Bool} (hb : Below W.heap.size W W') : ∀ {ts : List TypeId} {vs : List Value} {ds : List (DataW H)} {ps : List MemPlace},
  (∀ t ∈ ts, P.readableRec t = true ∧ t < P.types.size) → DataW.TrodAll enc P W 0 (fun _ => true) true ts vs ds ps → (∀ p ∈ ps, p.block < W.heap.size) → (∀ p ∈ ps, sp' p.block = true) → DataW.TrodAll enc P W' 0 sp' true ts vs ds ps
 | [], [], [], _, _, h, _, _ => h
 | _ :: _, _ :: _, _ :: _, _, ht, ⟨p, q, h1, h2, e⟩, hlt, hs =>
  ⟨p, q, WideElems.Trod_stays hl (ht _ (by simp)).1 (ht _ (by simp)).2 h1 (fun x hx => hb.same (hlt x (by rw [e]; exact List.mem_append_left _ hx))) (fun x hx => hs x (by rw [e]; exact List.mem_append_left _ hx)),
   B0 hl hb (fun t h => ht t (by simp [h])) h2 (fun x hx => hlt x (by rw [e]; exact List.mem_append_right _ hx)) (fun x hx => hs x (by rw [e]; exact List.mem_append_right _ hx)), e⟩
theorem H_ {f : Func} {s : ChangeSpec} {apart fresh handsOn again : Bool} {W W' : World} {args : Array Value} {tb : TypeId} {ds gs : List (DataW H)} {before : List MemPlace}
  (hl : laidOutB P = true) (ht : ∀ t ∈ f.params.toList, P.readableRec t = true ∧ t < P.types.size) (hr : f.resultTypes = #[tb]) (htb : P.underlying tb = some .bool) (hv : s.vars = [])
  (hW : DataW.Whole enc P f.params.toList s.vars apart W args.toList ds gs before) (hb : Below W.heap.size W W')
  (h1 : (s.fn H (ds ++ gs)).results = [.lit (.bool true)]) (h2 : (s.fn H (ds ++ gs)).args = ds) (h3 : (s.fn H (ds ++ gs)).vars = []) : s.post enc P f apart fresh handsOn again W args (Value.bool true) W' := by
 have hlt := hW.lt
 have hold : ∀ p ∈ before, (fun b => decide (b < W.heap.size)) p.block = true := fun p hp => by simpa using hlt p hp
 have hW' := hW
 obtain ⟨p, q, hA, hV, hps, hz, hn⟩ := hW
 rw [hv] at hV
 obtain ⟨rfl, rfl⟩ := trodVars_none hV
 simp only [List.append_nil] at hps h1 h2 h3
 subst hps
 have hargs : ∀ sp : Nat → Bool, (∀ x ∈ before, sp x.block = true) → DataW.TrodAll enc P W' 0 sp true f.params.toList args.toList (s.fn H ds).args before := by
  intro sp hs; rw [h2]; exact B0 hl hb ht hA hlt hs
 have hres : ∀ (b : Nat) (sp : Nat → Bool) (hd : Bool), DataW.TrodAll enc P W' b sp hd f.resultTypes.toList ((Value.bool true).resultList f.resultTypes.size) (s.fn H ds).results [] := by
  intro b sp hd; rw [h1, hr]; exact trodAll_mk1 (shut_bool htb true)
 have hvars : ∀ sp : Nat → Bool, DataW.TrodVars enc P W' sp s.vars (s.fn H ds).vars [] := by
  intro sp; rw [h3, hv]; rfl
 refine ⟨ds, [], before, [], before, [], hW', by simpa using hres _ _ _, by simpa using hargs _ hold, by simpa using hvars _, World.keptBut_mono (fun p hp => ⟨hp, ?_⟩) (hb.frame (· ∈ before)), fun _ => ?_⟩
 ·exact Or.inr (by simpa using hp)
 ·refine ⟨ok_one hr rfl (okWide_bool_mk htb true), _, _, ([] ++ before) ++ [], ⟨[] ++ before, [], trodAll_append (hargs _ (fun _ _ => rfl)) (hres _ _ _), hvars _, rfl, ?_, ?_⟩, ?_⟩
  ·intro b off hp
   have hp' : MemPlace.cell b off ∈ before := by simpa using hp
   rw [hb.frozen (p := ⟨b, off, none⟩) (hlt _ hp')]
   exact hz b off hp'
  ·intro ha
   simpa using hn ha
  ·intro p hp _
   simpa using hp
end
def Ag (H : Nat → Nat → Option Value) (cs : List kR) (vs : List Value) : Prop := cs.length = vs.length ∧ ∀ (i : Nat) (v : kR), cs[i]? = some v → v.mC = true ∧ o7 H v (vs.getD i undef)
theorem Ag.append {H : Nat → Nat → Option Value} {a b : List kR} {x y : List Value} (h : Ag H a x) (h' : Ag H b y) : Ag H (a ++ b) (x ++ y) := by
 refine ⟨by simp [h.1, h'.1], fun i v hv => ?_⟩
 rw [List.getD_eq_getElem?_getD]
 by_cases hi : i < a.length
 ·rw [List.getElem?_append_left hi] at hv
  rw [List.getElem?_append_left (by rw [← h.1]; exact hi)]
  have := h.2 i v hv
  rwa [List.getD_eq_getElem?_getD] at this
 ·rw [List.getElem?_append_right (by omega)] at hv
  rw [List.getElem?_append_right (by rw [← h.1]; omega), ← h.1]
  have := h'.2 _ v hv
  rwa [List.getD_eq_getElem?_getD] at this
theorem Ag.nil (H : Nat → Nat → Option Value) : Ag H [] [] := ⟨rfl, by simp⟩
theorem Ag.one {H : Nat → Nat → Option Value} {v : kR} {V : Value} (hk : v.mC = true) (h : o7 H v V) : Ag H [v] [V] :=
 ⟨rfl, fun i u hu => by cases i with
  | zero => simp at hu; subst hu; exact ⟨hk, h⟩
  | succ i => simp at hu⟩
structure Rd (P : Program) (n : Nat) (t : TypeId) {α : Type} (encA : α → List kR) (wf : α → Prop) : Prop where
 get : ∀ {H : Type} {enc : TypeId × Value → H} {w : World} {sp : Nat → Bool} {held : Bool} {fuel : Nat} {cs : List Value} {x : DataW H × List MemPlace}, fuel ≤ n →
  DataW.trod enc P w 0 sp held fuel t cs = some x → ∃ a : α, wf a ∧ Ag (gh w).H (encA a) cs
theorem Rd.int {P : Program} {n : Nat} {t : TypeId} {k : IntKind} (ht : P.underlying t = some (.int k)) : Rd P n t (fun z : Int => [.int k z]) (fun z => (Lit.int k z).wf = true) := by
 refine ⟨?_⟩
 intro H enc w sp held fuel cs x _ h
 obtain ⟨z, hx, _, hw⟩ := DataW.trod_int ht h
 exact ⟨z, hw, by rw [hx]; exact .one rfl (.int _ _)⟩
theorem Rd.bool {P : Program} {n : Nat} {t : TypeId} (ht : P.underlying t = some .bool) : Rd P n t (fun z : Bool => [.bool z]) (fun _ => True) := by
 refine ⟨?_⟩
 intro H enc w sp held fuel cs x _ h
 cases fuel with
 | zero => simp [DataW.trod] at h
 | succ m =>
  unfold DataW.trod at h
  rw [ht] at h
  split at h <;> try (simp at *; done)
  rename_i b _
  exact ⟨b, trivial, .one rfl (.bool _)⟩
theorem Rd.str {P : Program} {n : Nat} {t : TypeId} (ht : P.underlying t = some .string) : Rd P n t (fun z : List UInt8 => [.str z]) (fun z => z.length ≤ maxLen) := by
 refine ⟨?_⟩
 intro H enc w sp held fuel cs x _ h
 obtain ⟨s, hx, _, hs⟩ := DataW.trod_string ht h
 refine ⟨s.data.toList, by simpa using hs, ?_⟩
 have : (⟨s.data.toList.toArray⟩ : ByteArray) = s := by cases s; simp
 rw [hx]
 have r := o7.str (H := (gh w).H) s.data.toList
 rw [this] at r
 exact .one rfl r
theorem Gf {α β : Type} {f : α → Option β} : ∀ {l : List α} {ys : List β}, l.mapM f = some ys → ys.length = l.length ∧ ∀ (i : Nat) (x : α), l[i]? = some x → ∃ y, ys[i]? = some y ∧ f x = some y
 | [], ys, h => by simp at h; subst h; simp
 | a :: l, ys, h => by
  simp only [List.mapM_cons, Option.bind_eq_bind, Option.bind_eq_some_iff] at h
  obtain ⟨y, hy, zs, hzs, h⟩ := h
  simp only [Option.pure_def, Option.some.injEq] at h; subst h
  obtain ⟨h1, h2⟩ := Gf hzs
  refine ⟨by simp [h1], fun i x hx => ?_⟩
  cases i with
  | zero => simp at hx; subst hx; exact ⟨y, rfl, hy⟩
  | succ i => simpa using h2 i x (by simpa using hx)
theorem Ec {α : Type} {p : Nat → α → Prop} : ∀ (n : Nat), (∀ i, i < n → ∃ a, p i a) → ∃ l : List α, l.length = n ∧ ∀ (i : Nat) (a : α), l[i]? = some a → p i a
 | 0, _ => ⟨[], rfl, by simp⟩
 | n + 1, h => by
  obtain ⟨l, h1, h2⟩ := Ec n fun i hi => h i (by omega)
  obtain ⟨a, ha⟩ := h n (by omega)
  refine ⟨l ++ [a], by simp [h1], fun i b hb => ?_⟩
  by_cases hi : i < l.length
  ·rw [List.getElem?_append_left hi] at hb; exact h2 i b hb
  ·rw [List.getElem?_append_right (by omega)] at hb
   have : i - l.length = 0 := by
    by_cases h0 : i - l.length = 0
    ·exact h0
    ·rw [List.getElem?_eq_none (by simp; omega)] at hb; cases hb
   rw [this] at hb
   simp at hb; subst hb
   have : i = n := by omega
   subst this; exact ha
theorem FF {w : World} {base : Nat} {a : Addr} {n : Nat} {cs : List Value} (h : w.cells? base a n = some cs) : cs.length = n ∧ ∀ i, i < n → w.cell? (a.add i) = cs[i]? := by
 unfold World.cells? at h
 split at h
 ·obtain ⟨h1, h2⟩ := Gf h
  refine ⟨by simpa using h1, fun i hi => ?_⟩
  obtain ⟨y, e1, e2⟩ := h2 i i (by simp [hi])
  rw [e2, e1]
 ·cases h
theorem PK {w : World} {a : Addr} {v : Value} (h : w.cell? a = some v) : a = ⟨a.block, a.off, none⟩ := by
 unfold World.cell? at h
 split at h
 ·split at h
  ·cases h
  ·rename_i hs
   obtain ⟨b, o, s⟩ := a
   cases s with
   | none => rfl
   | some _ => simp at hs
 ·cases h
theorem add_add (a : Addr) (i j : Nat) (h : a = ⟨a.block, a.off, none⟩) : (a.add i).add j = ⟨a.block, a.off + (i + j), none⟩ := by
 rw [h, add_plain, add_plain]
 simp [Nat.add_assoc]
theorem Rd.slice {P : Program} {n : Nat} {t e : TypeId} {α : Type} {encA : α → List kR} {wf : α → Prop} {sz : Nat} (ht : P.underlying t = some (.slice e)) (he : P.cellsOf e = sz + 1) (hsz : ∀ a, (encA a).length = sz + 1) (r : Rd P n e encA wf) :
  Rd P (n + 1) t (fun z : List α => [.slice (z.map encA) .no]) (fun z => z.length ≤ maxLen ∧ ∀ a ∈ z, wf a) := by
 refine ⟨?_⟩
 intro H enc w sp held fuel cs x hf h
 cases fuel with
 | zero => simp [DataW.trod] at h
 | succ m =>
  unfold DataW.trod at h
  rw [ht] at h
  split at h <;> try (simp at *; done)
  ·refine ⟨[], by simp, .one rfl (.slice0 none 0)⟩
  ·rename_i e' a len cap hu
   cases hu
   split at h
   ·rename_i hcond
    obtain ⟨_, hlen, hcap⟩ := hcond
    obtain ⟨elems, hel, _⟩ := Option.bind_eq_some_iff.1 h
    obtain ⟨h1, h2⟩ := Gf hel
    by_cases h0 : len = 0
    ·subst h0
     exact ⟨[], by simp, .one rfl (.slice0 (some a) cap)⟩
    ·-- an element's cells
     have hcell : ∀ i, i < len → ∃ cs, w.cells? 0 (a.add (i * (sz + 1))) (sz + 1) = some cs ∧ ∃ z : α, wf z ∧ Ag (gh w).H (encA z) cs := by
      intro i hi
      obtain ⟨y, e1, e2⟩ := h2 i i (by simp [hi])
      obtain ⟨cs, e3, e4⟩ := Option.bind_eq_some_iff.1 e2
      rw [he] at e3
      exact ⟨cs, e3, r.get (by omega) e4⟩
     have ha : a = ⟨a.block, a.off, none⟩ := by
      obtain ⟨cs, e1, _⟩ := hcell 0 (by omega)
      obtain ⟨l1, l2⟩ := FF e1
      have := l2 0 (by omega)
      rw [List.getElem?_eq_getElem (by omega)] at this
      have := PK this
      simpa [Addr.add] using this
     obtain ⟨l, hl, hp⟩ := Ec (p := fun i (z : α) => ∃ cs, w.cells? 0 (a.add (i * (sz + 1))) (sz + 1) = some cs ∧ wf z ∧ Ag (gh w).H (encA z) cs) len fun i hi => by
      obtain ⟨cs, e1, z, e2, e3⟩ := hcell i hi
      exact ⟨z, cs, e1, e2, e3⟩
     have key : ∀ (i j : Nat) (row : List kR) (v : kR), (l.map encA)[i]? = some row → row[j]? = some v →
       (gh w).H a.block (a.off + (i * (sz + 1) + j)) = some ((w.cell? ⟨a.block, a.off + (i * (sz + 1) + j), none⟩).getD undef) ∧ v.mC = true ∧ o7 (gh w).H v ((w.cell? ⟨a.block, a.off + (i * (sz + 1) + j), none⟩).getD undef) := by
      intro i j row v hi hj
      simp only [List.getElem?_map, Option.map_eq_some_iff] at hi
      obtain ⟨z, hz, rfl⟩ := hi
      obtain ⟨cs, e1, _, e3⟩ := hp i z hz
      obtain ⟨l1, l2⟩ := FF e1
      have hjlt : j < sz + 1 := by rw [← hsz z]; exact (List.getElem?_eq_some_iff.1 hj).1
      have e4 := l2 j hjlt
      rw [add_add _ _ _ ha] at e4
      obtain ⟨e5, e6⟩ := e3.2 j v hj
      have : cs[j]? = some (cs.getD j undef) := by rw [List.getD_eq_getElem?_getD, List.getElem?_eq_getElem (by omega)]; rfl
      rw [this] at e4
      refine ⟨by show w.cell? _ = _; rw [e4]; rfl, e5, by rw [e4]; exact e6⟩
     have hrows : ∀ row ∈ l.map encA, row.length = sz + 1 := by
      intro row hr
      obtain ⟨z, _, rfl⟩ := List.mem_map.1 hr
      exact hsz z
     refine ⟨l, ⟨by omega, fun z hz => ?_⟩, .one rfl ?_⟩
     ·obtain ⟨i, hi⟩ := List.getElem?_of_mem hz
      obtain ⟨_, _, e2, _⟩ := hp i z hi
      exact e2
     ·have := o7.slice (H := (gh w).H) (l.map encA) a.block a.off cap (sz + 1) (fun k => (w.cell? ⟨a.block, a.off + k, none⟩).getD undef) hrows (by simp; omega)
       (fun i j row v hi hj => (key i j row v hi hj).1) (fun i j row v hi hj => (key i j row v hi hj).2.1) (fun i j row v hi hj => (key i j row v hi hj).2.2)
      rw [← ha] at this
      simpa [hl] using this
   ·cases h
structure Oj (P : Program) (n : Nat) (fs : List Field) (off total : Nat) {α : Type} (encA : α → List kR) (wf : α → Prop) : Prop where
 get : ∀ {H : Type} {enc : TypeId × Value → H} {w : World} {sp : Nat → Bool} {held : Bool} {fuel : Nat} {cs : List Value} {xs : List (DataW H × List MemPlace)}, fuel ≤ n → cs.length = total →
  (fs.mapM fun f => DataW.trod enc P w 0 sp held fuel f.type ((cs.drop f.offset).take (P.cellsOf f.type))) = some xs → ∃ a : α, wf a ∧ Ag (gh w).H (encA a) (cs.drop off)
theorem Oj.nil {P : Program} {n total : Nat} : Oj P n [] total total (fun _ : Unit => []) (fun _ => True) := by
 refine ⟨?_⟩
 intro H enc w sp held fuel cs xs _ hl h
 refine ⟨(), trivial, ?_⟩
 rw [List.drop_eq_nil_of_le (by omega)]
 exact .nil _
theorem Oj.cons {P : Program} {n off total sz : Nat} {f : Field} {fs : List Field} {α β : Type} {encA : α → List kR} {wfA : α → Prop} {encB : β → List kR} {wfB : β → Prop}
  (ho : f.offset = off) (hs : P.cellsOf f.type = sz) (r : Rd P n f.type encA wfA) (rs : Oj P n fs (off + sz) total encB wfB) : Oj P n (f :: fs) off total (fun z : α × β => encA z.1 ++ encB z.2) (fun z => wfA z.1 ∧ wfB z.2) := by
 refine ⟨?_⟩
 intro H enc w sp held fuel cs xs hf hl h
 simp only [List.mapM_cons, Option.bind_eq_bind, Option.bind_eq_some_iff] at h
 obtain ⟨x, h1, ys, h2, _⟩ := h
 obtain ⟨a, wa, ra⟩ := r.get hf h1
 obtain ⟨b, wb, rb⟩ := rs.get hf hl h2
 refine ⟨(a, b), ⟨wa, wb⟩, ?_⟩
 rw [ho, hs] at ra
 have : cs.drop off = (cs.drop off).take sz ++ cs.drop (off + sz) := by rw [← List.drop_drop, List.take_append_drop]
 rw [this]
 exact ra.append rb
theorem Rd.struct {P : Program} {n : Nat} {t : TypeId} {fs : Array Field} {α : Type} {encA : α → List kR} {wf : α → Prop} {total : Nat} (ht : P.underlying t = some (.struct fs)) (hc : P.cellsOf t = total)
  (r : Oj P n fs.toList 0 total encA wf) : Rd P (n + 1) t encA wf := by
 refine ⟨?_⟩
 intro H enc w sp held fuel cs x hf h
 cases fuel with
 | zero => simp [DataW.trod] at h
 | succ m =>
  unfold DataW.trod at h
  rw [ht] at h
  split at h <;> try (simp at *; done)
  rename_i fs' cs' hu
  cases hu
  split at h
  ·rename_i hlen
   simp only [Option.map_eq_some_iff] at h
   obtain ⟨xs, h1, _⟩ := h
   obtain ⟨a, wa, ra⟩ := r.get (by omega) (by rw [hlen, hc]) h1
   exact ⟨a, wa, by simpa using ra⟩
  ·cases h
theorem Rd.to {P : Program} {n : Nat} {t : TypeId} {α β : Type} {encA : α → List kR} {wfA : α → Prop} {encB : β → List kR} {wfB : β → Prop} (r : Rd P n t encA wfA) (g : α → β) (he : ∀ a, encB (g a) = encA a) (hw : ∀ a, wfA a → wfB (g a)) : Rd P n t encB wfB := by
 refine ⟨?_⟩
 intro H enc w sp held fuel cs x hf h
 obtain ⟨a, wa, ra⟩ := r.get hf h
 exact ⟨g a, hw a wa, by rw [he]; exact ra⟩
theorem Rd.mono {P : Program} {n m : Nat} {t : TypeId} {α : Type} {encA : α → List kR} {wfA : α → Prop} (hnm : m ≤ n) (r : Rd P n t encA wfA) : Rd P m t encA wfA := by
 refine ⟨?_⟩
 intro H enc w sp held fuel cs x hf h
 exact r.get (by omega) h
theorem Rd.arg {P : Program} {t : TypeId} {α : Type} {encA : α → kR} {wf : α → Prop} (r : ∀ n, Rd P n t (fun a => [encA a]) wf) {H : Type} {enc : TypeId × Value → H} {w : World} {sp : Nat → Bool} {held : Bool} {v : Value} {d : DataW H} {ps : List MemPlace}
  (hv : ∀ C, v ≠ .agg C) (h : DataW.Trod enc P w 0 sp held t v d ps) : ∃ a, wf a ∧ lM (gh w) [] (encA a) v := by
 obtain ⟨fuel, hf⟩ := h
 obtain ⟨a, wa, ra⟩ := (r fuel).get (Nat.le_refl _) hf
 refine ⟨a, wa, .p _ _ ?_⟩
 have := (ra.2 0 _ rfl).2
 have hc : v.cells = #[v] := by cases v <;> simp_all [Value.cells]
 rw [hc] at this
 simpa using this
theorem Rd.ab1 {P : Program} {t : TypeId} {α : Type} {encA : α → List kR} {wf : α → Prop} (r : ∀ n, Rd P n t encA wf) {H : Type} {enc : TypeId × Value → H} {w : World} {sp : Nat → Bool} {held : Bool} {v : Value} {d : DataW H} {ps : List MemPlace}
  (hv : ∃ C, v = .agg C) (h : DataW.Trod enc P w 0 sp held t v d ps) : ∃ a, wf a ∧ lM (gh w) [] (.agg (encA a)) v := by
 obtain ⟨fuel, hf⟩ := h
 obtain ⟨a, wa, ra⟩ := (r fuel).get (Nat.le_refl _) hf
 obtain ⟨C, rfl⟩ := hv
 refine ⟨a, wa, .p _ _ (.agg _ _ (by simpa [Value.cells] using ra.1) fun i v hv => ?_)⟩
 have := (ra.2 i v hv).2
 rw [List.getD_eq_getElem?_getD] at this
 rw [Array.getD_eq_getD_getElem?]
 simpa [Value.cells] using this
end Hk


namespace Hk
open Go
attribute [simp] Option.bind_some Option.bind_none
theorem Ay {d : Nat} : oX none d = some d := (rfl)
theorem WT {k : IntKind} {n d : Nat} : oX (some (.int k (n : Int))) d = some n := by simp [oX]
@[congr] theorem aaB {α β : Type} {x x' : Option α} {f : α → Option β} (h : x = x') : x.bind f = x'.bind f := by rw [h]
@[congr] theorem TL {x x' : Option (n_ × kT)} {f g : kR → kT → Option R} (h : x = x') : k_ x f g = k_ x' f g := by rw [h]
@[congr] theorem Vw {x x' : Option (kR × kT)} {f : kR → kT → Option R} (h : x = x') : lE x f = lE x' f := by rw [h]
@[congr] theorem WU {x x' : kR} {t e : Option R} (h : x = x') : lG x t e = lG x' t e := by rw [h]
@[congr] theorem S_ {w : Bool} {x x' : kR} {t e : Option R} (h : x = x') : kS w x t e = kS w x' t e := by rw [h]
@[congr] theorem Wp {x x' : Ex} {t : Option R} {e : Ex → Option R} (h : x = x') : Ex.lY x t e = Ex.lY x' t e := by rw [h]
@[congr] theorem TV {i : Nat} {x x' : Ex} {t : Option R} {e : Ex → Option R} (h : x = x') : Ex.inBlock i x t e = Ex.inBlock i x' t e := by rw [h]
@[congr] theorem adX {x x' : Ex} {t : Option R} (h : x = x') : Ex.sO x t = Ex.sO x' t := by rw [h]
@[congr] theorem aaJ {x x' : Ex} {t : Option (n_ × kT)} {tp : kR → Option (n_ × kT)} (h : x = x') : Ex.L9 x t tp = Ex.L9 x' t tp := by rw [h]
@[congr] theorem aaH {x x' : Ex} {t : Option (n_ × kT)} (h : x = x') : Ex.nV x t = Ex.nV x' t := by rw [h]
@[congr] theorem aaF {α : Type} {x x' : Bool} {t e : α} (h : x = x') : cond x t e = cond x' t e := by rw [h]
@[congr] theorem aaM {f g : kR → kT → Option R} {x x' : R} (h : x = x') : kX f g x = kX f g x' := by rw [h]
section
variable {k k' : IntKind} {a b : Int} {x y : Bool} {s t : List UInt8} {v w : kR} {h : kT} {m : Nat}
@[simp] theorem abU : kZ .add (.int k a) (.int k b) = some (.int k (k.wrap (a + b))) := by simp [kZ]
@[simp] theorem Qy : kZ .sub (.int k a) (.int k b) = some (.int k (k.wrap (a - b))) := by simp [kZ]
@[simp] theorem Qw : kZ .mul (.int k a) (.int k b) = some (.int k (k.wrap (a * b))) := by simp [kZ]
@[simp] theorem Qv : kZ .eql (.int k a) (.int k b) = some (.bool (decide (a = b))) := by simp [kZ]; rfl
@[simp] theorem Qx : kZ .neq (.int k a) (.int k b) = some (.bool (!decide (a = b))) := by simp [kZ, bne]; rfl
@[simp] theorem Fj : kZ .lss (.int k a) (.int k b) = some (.bool (decide (a < b))) := by simp [kZ]
@[simp] theorem abX : kZ .leq (.int k a) (.int k b) = some (.bool (decide (a ≤ b))) := by simp [kZ]
@[simp] theorem abW : kZ .gtr (.int k a) (.int k b) = some (.bool (decide (b < a))) := by simp [kZ]
@[simp] theorem abV : kZ .geq (.int k a) (.int k b) = some (.bool (decide (b ≤ a))) := by simp [kZ]
@[simp] theorem Z1 : kZ .add (.str s) (.str t) = if s.length + t.length ≤ 4611686018427387904 then some (.str (s ++ t)) else none := (rfl)
@[simp] theorem Z2 : kZ .eql (.str s) (.str t) = some (.bool (decide (s = t))) := by
 have : (s == t) = decide (s = t) := by by_cases h : s = t <;> simp [h]
 simp [kZ, this]
@[simp] theorem Z3 : kZ .neq (.str s) (.str t) = some (.bool (!decide (s = t))) := by
 have : (s == t) = decide (s = t) := by by_cases h : s = t <;> simp [h]
 simp [kZ, this]
@[simp] theorem ZZ : Fh .eql (.bool x) (.bool y) = some (.bool (decide (x = y))) := by cases x <;> cases y <;> rfl
@[simp] theorem Z0 : Fh .neq (.bool x) (.bool y) = some (.bool (!decide (x = y))) := by cases x <;> cases y <;> rfl
@[simp] theorem ae9 : yF .not (.bool x) = some (.bool (!x)) := (rfl)
@[simp] theorem TF : yF .neg (.int k a) = some (.int k (k.wrap (0 - a))) := (rfl)
@[simp] theorem Ts : Az k (.int k' a) = some (.int k (k.wrap a)) := (rfl)
@[simp] theorem WZ : lV (.bool x) v w = some (bif x then v else w) := (rfl)
@[simp] theorem Z7 : wR (.int k a) (.int k' b) = some (.int k (min a b)) := by
 simp only [wR, Option.some.injEq, kR.int.injEq, true_and]
 by_cases h : b < a <;> simp [h] <;> omega
@[simp] theorem Z6 : Ah (.int k a) (.int k' b) = some (.int k (max a b)) := by
 simp only [Ah, Option.some.injEq, kR.int.injEq, true_and]
 by_cases h : b > a <;> simp [h] <;> omega
@[simp] theorem Tv {rows : List (List kR)} {t : Tok} : lN (.slice rows t) = some (.int .i64 rows.length) := (rfl)
@[simp] theorem Vm : CN (.str s) = some (.int .i64 s.length) := (rfl)
@[simp] theorem lS {t e : Option R} : lG (.bool x) t e = bif x then t else e := (rfl)
@[simp] theorem lK {run skip : Option R} : kS true (.bool x) run skip = bif x then run else skip := (rfl)
@[simp] theorem lD {run skip : Option R} : kS false (.bool x) run skip = bif x then skip else run := (rfl)
@[simp] theorem Q6 {g : Bool} {run skip : Option R} : kS g (.tuple []) run skip = skip := (rfl)
@[simp] theorem VH {kv kp : kR → kT → Option R} : kX kv kp (.normal, [v], h) = kv v h := (rfl)
@[simp] theorem ahO : kW v h = some (.normal, [v], h) := (rfl)
@[simp] theorem Vv {kv kp : kR → kT → Option R} : k_ (some (.ret v, h)) kv kp = kv v h := (rfl)
@[simp] theorem Vx {kv : kR → kT → Option R} : lE (some (v, h)) kv = kv v h := (rfl)
@[simp] theorem pC {kn : Option R} {ke : Ex → Option R} : Ex.lY .normal kn ke = kn := (rfl)
@[simp] theorem ZK {kn : Option R} {ke : Ex → Option R} : Ex.lY .ret kn ke = ke .ret := (rfl)
@[simp] theorem Lw {i : Nat} {kn : Option R} {ke : Ex → Option R} : Ex.lY (.exit i) kn ke = ke (.exit i) := (rfl)
@[simp] theorem YV {kn : Option R} : Ex.sO .normal kn = kn := (rfl)
@[simp] theorem Ra {i : Nat} {kn : Option R} {ke : Ex → Option R} : Ex.inBlock i .normal kn ke = kn := (rfl)
@[simp] theorem VR {i : Nat} {kn : Option R} {ke : Ex → Option R} : Ex.inBlock i .ret kn ke = ke .ret := (rfl)
@[simp] theorem I4 {i j : Nat} {kn : Option R} {ke : Ex → Option R} : Ex.inBlock i (.exit j) kn ke = bif j == i then kn else ke (.exit j) := (rfl)
@[simp] theorem VD {x : Option (n_ × kT)} : Ex.nV .normal x = x := (rfl)
@[simp] theorem Vu {v : kR} {h : kT} {kv kp : kR → kT → Option R} : k_ (some (.pan v, h)) kv kp = kp v h := (rfl)
@[simp] theorem adC {v : kR} {l : List kR} {h : kT} {kv kp : kR → kT → Option R} : kX kv kp (.pan v, l, h) = kp v h := by cases l <;> rfl
@[simp] theorem afR {v : kR} {h : kT} : yG v h = some (.pan v, [], h) := (rfl)
@[simp] theorem ZJ {v : kR} {kn : Option R} {ke : Ex → Option R} : Ex.lY (.pan v) kn ke = ke (.pan v) := (rfl)
@[simp] theorem VQ {id : Nat} {v : kR} {kn : Option R} {ke : Ex → Option R} : Ex.inBlock id (.pan v) kn ke = ke (.pan v) := (rfl)
@[simp] theorem afZ {v : kR} {kn : Option R} : Ex.sO (.pan v) kn = none := (rfl)
@[simp] theorem VF {x : Option (n_ × kT)} {xp : kR → Option (n_ × kT)} : Ex.L9 .normal x xp = x := (rfl)
@[simp] theorem ac9 {x : Option (n_ × kT)} {xp : kR → Option (n_ × kT)} : Ex.L9 .ret x xp = x := (rfl)
@[simp] theorem ac8 {v : kR} {x : Option (n_ × kT)} {xp : kR → Option (n_ × kT)} : Ex.L9 (.pan v) x xp = xp v := (rfl)
@[simp] theorem VC {x : Option R} {xp : kR → Option R} : Ex.L8 .normal x xp = x := (rfl)
@[simp] theorem ac6 {x : Option R} {xp : kR → Option R} : Ex.L8 .ret x xp = x := (rfl)
@[simp] theorem ac5 {v : kR} {x : Option R} {xp : kR → Option R} : Ex.L8 (.pan v) x xp = xp v := (rfl)
@[simp] theorem VE {x : Option kT} : Ex.QR .normal x = x := (rfl)
@[simp] theorem ac7 {x : Option kT} : Ex.QR .ret x = x := (rfl)
@[simp] theorem We {x : Option R} : Ex.N4 .ret x = x := (rfl)
@[simp] theorem P0 {t : Nat} {z : kR} : xH t z .niliface = some (.tuple [z, .bool false]) := (rfl)
@[simp] theorem NQ {t t' : Nat} {z w : kR} : xH t z (.iface t' w) = some (bif t' == t then .tuple [w, .bool true] else .tuple [z, .bool false]) := (rfl)
@[congr] theorem aaG {x x' : Ex} {t : Option R} {tp : kR → Option R} (h : x = x') : Ex.L8 x t tp = Ex.L8 x' t tp := by rw [h]
@[congr] theorem aaI {x x' : Ex} {t : Option kT} (h : x = x') : Ex.QR x t = Ex.QR x' t := by rw [h]
@[congr] theorem adW {α β : Type} {x x' : Option α} {f : α → β} (h : x = x') : x.map f = x'.map f := by rw [h]
@[simp] theorem QQ {x : Option (n_ × kT)} : Ex.nV .ret x = x := (rfl)
@[simp] theorem af9 : kR.oM m h (.int k a) = .int k a := (rfl)
@[simp] theorem aeI : kR.oM m h (.bool x) = .bool x := (rfl)
@[simp] theorem agD : kR.oM m h (.str s) = .str s := (rfl)
@[simp] theorem abA {rows : List (List kR)} : kR.oM m h (.slice rows .no) = .slice rows .no := (rfl)
@[simp] theorem agB : kR.oM m h (.slice [] .nil) = .slice [] .nil := (rfl)
@[simp] theorem abB : kR.oM m h (.tuple []) = .tuple [] := (rfl)
@[simp] theorem aeJ : kR.oM m h .junk = .junk := (rfl)
@[simp] theorem agC {rows : List (List kR)} {id : Nat} : kR.oM m h (.slice rows (.own id)) = bif decide (id < m) then .slice rows (.own id) else .slice rows .no := (rfl)
@[simp] theorem af8 {cs : List kR} : kR.oM m h (.agg cs) = .agg (cs.map (·.nM m h)) := (rfl)
@[simp] theorem aeD : kR.nM m h (.int k a) = .int k a := (rfl)
@[simp] theorem aa5 : kR.nM m h (.bool x) = .bool x := (rfl)
@[simp] theorem aeG : kR.nM m h (.str s) = .str s := (rfl)
@[simp] theorem Zw {rows : List (List kR)} : kR.nM m h (.slice rows .no) = .slice rows .no := (rfl)
@[simp] theorem aeF : kR.nM m h (.slice [] .nil) = .slice [] .nil := (rfl)
@[simp] theorem R6 {rows : List (List kR)} {id : Nat} : kR.nM m h (.slice rows (.own id)) = bif decide (id < m) then .slice rows (.own id) else .slice rows .no := (rfl)
@[simp] theorem Zy {v w : kR} : kR.oM m h (.tuple [v, w]) = .tuple [(match v with | .agg cs => .agg (cs.map (·.nM m h)) | v => v.nM m h), (match w with | .agg cs => .agg (cs.map (·.nM m h)) | v => v.nM m h)] := (rfl)
@[simp] theorem abG : kR.k8 (.int k a) = .int k a := (rfl)
@[simp] theorem ZO : kR.k8 (.bool x) = .bool x := (rfl)
@[simp] theorem abJ : kR.k8 (.str s) = .str s := (rfl)
@[simp] theorem Wu {rows : List (List kR)} {t : Tok} : kR.k8 (.slice rows t) = .slice rows .no := (rfl)
@[simp] theorem Wv : kR.k8 (.tuple []) = .tuple [] := (rfl)
@[simp] theorem BF {cs : List kR} : kR.k8 (.agg cs) = .agg (cs.map kR.rS) := (rfl)
@[simp] theorem ZM : kR.rS (.int k a) = .int k a := (rfl)
@[simp] theorem Wt : kR.rS (.bool x) = .bool x := (rfl)
@[simp] theorem ZN : kR.rS (.str s) = .str s := (rfl)
@[simp] theorem U1 {rows : List (List kR)} {t : Tok} : kR.rS (.slice rows t) = .slice rows .no := (rfl)
@[simp] theorem U2 {v w : kR} : kR.k8 (.tuple [v, w]) = .tuple [(match v with | .agg cs => .agg (cs.map kR.rS) | v => v.rS), (match w with | .agg cs => .agg (cs.map kR.rS) | v => v.rS)] := (rfl)
@[simp] theorem abE : mL m [] = some [] := by simp [mL, oA]
theorem Nn {bs : kT} : mL 0 bs = some [] := by simp [mL, oA]
@[simp] theorem ZL {bs : kT} : mL 0 bs = some [] := Nn
@[simp] theorem TQ {m : Nat} {h : kT} : Ex.oM m h .normal = .normal := (rfl)
@[simp] theorem aaL {m : Nat} {h : kT} : Ex.oM m h .ret = .ret := (rfl)
@[simp] theorem XC {m : Nat} {h : kT} {id : Nat} : Ex.oM m h (.exit id) = .exit id := (rfl)
@[simp] theorem aaK {m : Nat} {h : kT} {v : kR} : Ex.oM m h (.pan v) = .pan (v.oM m h) := (rfl)
theorem wE {e : Ex} {vs : List kR} : lC 0 e vs h = some (e.oM 0 h, vs.map (·.oM 0 h), []) := by simp [lC]
theorem aaN : TR 0 v h = some (.pan (v.oM 0 h).k8, []) := by simp [TR]
theorem lH : nE 0 v h = some (.ret (v.oM 0 h).k8, []) := by simp [nE]
def rU (h : kT) (id : Nat) : Bool := match h[id]? with
 | some (.front 0 0) => true
 | _ => false
@[simp] theorem T0 {r : kT} : rU (.front 0 0 :: r) 0 = true := (rfl)
@[simp] theorem Ta {cs : List kR} {r : kT} : rU (.cells cs :: r) 0 = false := (rfl)
@[simp] theorem Tb {n sz : Nat} {r : kT} : rU (.front (n + 1) sz :: r) 0 = false := (rfl)
@[simp] theorem TZ {b : lW} {r : kT} {n : Nat} : rU (b :: r) (n + 1) = rU r n := (rfl)
@[simp] theorem VL {cs : List kR} {r : kT} : nJ (.cells cs :: r) 0 = some cs := (rfl)
@[simp] theorem VK {b : lW} {r : kT} {n : Nat} : nJ (b :: r) (n + 1) = nJ r n := (rfl)
@[simp] theorem mD {n id off : Nat} : kV false n h (.ptr id off) = (nJ h id).bind fun cs => cs[off]? := by
 simp only [kV, apart, cond_false]; cases nJ h id <;> rfl
@[simp] theorem wQ {n id off : Nat} : kV true n h (.ptr id off) = (nJ h id).bind fun cs => if off + n ≤ cs.length then some (.agg ((cs.drop off).take n)) else none := by
 simp only [kV, apart, cond_true]; cases nJ h id <;> rfl
@[simp] theorem oQ {n id off : Nat} : lU n h (.ptr id off) v = (nJ h id).bind fun cs => if v.cells.length = n ∧ off + n ≤ cs.length ∧ v.cells.all kR.mC then some (h.set id (.cells (putCells cs off (pV h (cs.drop off) v.cells)))) else none := by
 simp only [lU]; cases nJ h id <;> rfl
@[simp] theorem VX {vs : List kR} : pV h [] vs = vs := (rfl)
@[simp] theorem zO {os : List kR} : pV h os [] = [] := by cases os <;> rfl
@[simp] theorem v8 {o : kR} {os vs : List kR} : pV h (o :: os) (v :: vs) = sJ h o v :: pV h os vs := (rfl)
@[simp] theorem aaQ {o : kR} : sJ h o (.int k a) = .int k a := (rfl)
@[simp] theorem Mm {o : kR} : sJ h o (.bool x) = .bool x := (rfl)
@[simp] theorem aaU {o : kR} : sJ h o (.str s) = .str s := (rfl)
@[simp] theorem aaR {o : kR} {i : Nat} : sJ h o (.map i) = .map i := (rfl)
@[simp] theorem aaT {o : kR} {i j : Nat} : sJ h o (.ptr i j) = .ptr i j := (rfl)
@[simp] theorem adH {o : kR} {rows : List (List kR)} : sJ h o (.slice rows .no) = .slice rows .no := by cases rows <;> rfl
@[simp] theorem aaS {o : kR} {rows : List (List kR)} {id : Nat} : sJ h o (.slice rows (.own id)) = .slice rows (.own id) := by cases rows <;> rfl
@[simp] theorem OJ {id : Nat} : sJ h (.slice [] (.own id)) (.slice [] .nil) = bif rU h id then .slice [] (.own id) else .slice [] .nil := by
 have e : sJ h (.slice [] (.own id)) (.slice [] .nil) = match h[id]? with | some (.front 0 0) => .slice [] (.own id) | _ => .slice [] .nil := (rfl)
 rw [e]
 unfold rU
 split <;> rfl
@[simp] theorem XT : sJ h (.slice [] .nil) (.slice [] .nil) = .slice [] .nil := (rfl)
@[simp] theorem Mn {rows : List (List kR)} : sJ h (.slice rows .no) (.slice [] .nil) = .slice [] .nil := by cases rows <;> rfl
theorem I5 : ∀ {vs os : List kR}, (∀ c ∈ vs, c.isNil = false) → pV h os vs = vs
 | [], _, _ => by simp
 | v :: vs, [], _ => rfl
 | v :: vs, o :: os, hn => by
  have h1 := hn v (by simp)
  simp only [v8, sJ, h1, cond_false]
  rw [I5 fun c hc => hn c (by simp [hc])]
@[simp] theorem Tt {id o off : Nat} : kU off (.ptr id o) = some (.ptr id (o + off)) := (rfl)
@[simp] theorem SV {cs : List kR} {off : Nat} : kU off (.pptr cs) = some (.pptr (cs.drop off)) := (rfl)
@[simp] theorem S7 {id off : Nat} : lR (.ptr id off) = some (.ptr id off) := (rfl)
@[simp] theorem QE {cs : List kR} : lR (.pptr cs) = some (.pptr cs) := (rfl)
@[simp] theorem Oz : kR.cells (.int k a) = [.int k a] := (rfl)
@[simp] theorem L3 : kR.cells (.bool x) = [.bool x] := (rfl)
@[simp] theorem aaE : kR.cells (.str s) = [.str s] := (rfl)
@[simp] theorem Eb {rows : List (List kR)} {t : Tok} : kR.cells (.slice rows t) = [.slice rows t] := (rfl)
@[simp] theorem aaC {cs : List kR} : kR.cells (.agg cs) = cs := (rfl)
@[simp] theorem aaD {i : Nat} : kR.cells (.map i) = [.map i] := (rfl)
@[simp] theorem Xu : kR.mC (.int k a) = true := (rfl)
@[simp] theorem VA : kR.mC (.bool x) = true := (rfl)
@[simp] theorem Xw : kR.mC (.str s) = true := (rfl)
@[simp] theorem IP {rows : List (List kR)} {t : Tok} : kR.mC (.slice rows t) = true := (rfl)
@[simp] theorem Xv {i : Nat} : kR.mC (.map i) = true := (rfl)
@[simp] theorem XO : kR.oI (.int k a) = false := (rfl)
@[simp] theorem VT : kR.oI (.bool x) = false := (rfl)
@[simp] theorem XQ : kR.oI (.str s) = false := (rfl)
@[simp] theorem T6 {rows : List (List kR)} {t : Tok} : kR.oI (.slice rows t) = false := (rfl)
@[simp] theorem XN {cs : List kR} : kR.oI (.agg cs) = false := (rfl)
@[simp] theorem XP {i : Nat} : kR.oI (.map i) = false := (rfl)
@[simp] theorem aeE {i : Nat} : kR.nM m h (.map i) = bif decide (i < m) then .map i else .junk := (rfl)
@[simp] theorem agA {i : Nat} : kR.oM m h (.map i) = bif decide (i < m) then .map i else .junk := (rfl)
@[simp] theorem UT {i o : Nat} : kR.oM m h (.ptr i o) = kR.nM m h (.ptr i o) := (rfl)
theorem l_ {i o : Nat} (hi : i < m) : kR.nM m h (.ptr i o) = .ptr i o := by simp [kR.nM, hi]
theorem z7 {i o : Nat} (hi : i < m) : kR.oM m h (.ptr i o) = .ptr i o := by rw [UT, l_ hi]
@[simp] theorem abI {i o : Nat} : kR.k8 (.ptr i o) = .ptr i o := (rfl)
@[simp] theorem abH {i : Nat} : kR.k8 (.map i) = .map i := (rfl)
@[simp] theorem JO : mP m h [] = some [] := (rfl)
@[simp] theorem pB {cs : List kR} : mP m h (v :: cs) = bif (v.nM m h).mC then (mP m h cs).map (v.nM m h :: ·) else none := by
 simp only [mP]; cases mP m h cs <;> rfl
@[simp] theorem JM {cs : List kR} : pA m h (.cells cs) = (mP m h cs).map .cells := (rfl)
@[simp] theorem JN {i j : Nat} : pA m h (.front i j) = some (.front i j) := (rfl)
@[simp] theorem Wl : oA m h [] = some [] := (rfl)
@[simp] theorem wC {b : lW} {bs : kT} : oA m h (b :: bs) = (pA m h b).bind fun b' => (oA m h bs).map (b' :: ·) := by
 simp only [oA]; cases pA m h b <;> cases oA m h bs <;> rfl
@[simp] theorem S0 {i : Nat} : rM (.str s) (.int k (i : Int)) = (s[i]?).map fun b => .int .u8 b.toNat := by simp [rM]
@[simp] theorem QB : rM (.str s) (.int k 0) = (s[0]?).map fun b => .int .u8 b.toNat := by simp [rM]
theorem S8 {lo hi : Option kR} {l u : Nat} (hl : oX lo 0 = some l) (hu : oX hi s.length = some u) (h1 : l ≤ u) (h2 : u ≤ s.length) : rN (.str s) lo hi = some (.str ((s.drop l).take (u - l))) := by
 simp [rN, hl, hu, h1, h2]
@[simp] theorem QA {i : Nat} {vs : List kR} : mF i (.tuple vs) = vs[i]? := (rfl)
end
theorem wrap64 {n : Int} (h1 : -9223372036854775808 ≤ n) (h2 : n ≤ 9223372036854775807) : IntKind.wrap .i64 n = n := by
 simp [IntKind.wrap, IntKind.signed, IntKind.bits]
 split <;> omega
@[simp] theorem lF {α : Type} {enc : α → List kR} {sz : Nat} {xs : List α} {t : Tok} {k : IntKind} {i : Nat} :
  kY sz (.slice (xs.map enc) t) (.int k (i : Int)) = (xs[i]?).bind fun x => if (enc x).length = sz then some (.pptr (enc x)) else none := by
 simp only [kY, Int.natCast_nonneg, if_true, Int.toNat_natCast, List.getElem?_map]
 cases xs[i]? <;> rfl
theorem IK {sz : Nat} {rows : List (List kR)} {t : Tok} {k : IntKind} {n : Int} : kY sz (.slice rows t) (.int k n) = if 0 ≤ n then (rows[n.toNat]?).bind fun row => if row.length = sz then some (.pptr row) else none else none := by
 simp only [kY]
 split
 ·cases rows[n.toNat]? <;> rfl
 ·rfl
@[simp] theorem WX {n : Nat} {h : kT} {cs : List kR} : kV true n h (.pptr cs) = if n ≤ cs.length then some (.agg (cs.take n)) else none := by
 simp [kV, apart]
@[simp] theorem Kq {n : Nat} {h : kT} {cs : List kR} : kV false n h (.pptr cs) = cs[0]? := by
 simp [kV, apart]
theorem Z5 {n : Nat} {h : kT} {cs : List kR} (hn : cs.length = n) : kV true n h (.pptr cs) = some (.agg cs) := by
 subst hn; simp [kV, apart]
theorem TB {α : Type} {enc : α → List kR} {sz : Nat} {xs : List α} {t : Tok} {lo hi : Option kR} {l u : Nat} (hs : ∀ x, (enc x).length = sz) (hl : oX lo 0 = some l) (hu : oX hi xs.length = some u) (h1 : l ≤ u) (h2 : u ≤ xs.length) :
  nK sz (.slice (xs.map enc) t) lo hi = some (.slice (((xs.drop l).take (u - l)).map enc) .no) := by
 have : ((xs.map enc).all fun r => r.length == sz) = true := by simp [hs]
 simp only [nK, List.length_map, hl, hu, h1, h2, this, and_self, if_true, List.map_take, List.map_drop]
theorem mN {P : Program} {A : Af} {f : Nat} {args : List kR} {h : kT} {m : Option (n_ × kT)} {r : n_ × kT} (he : qQ P A mJ (EP P A) f args h = m) (hm : m = some r) : EP P A f args h = some r := QS (he.trans hm)
theorem lZ {A : Af} {K : k9} {f : Nat} {args : List kR} {h : kT} {v : kR} (hp : A.pure f = true) (hs : args.all (kR.rX 0) = true) (hk : K f args [] = some (.ret v, [])) : mI A K f args h = some (.ret v, h) := by
 simp [mI, hp, hs, hk, vF]
theorem VZ {F : List kR × kT → Option R} {σ : Type} (enc : σ → List kR × kT) (inv : σ → Prop) (μ : σ → Nat) (out : σ → R)
  (h : ∀ s, inv s → (∃ s', F (enc s) = some (.normal, enc s') ∧ inv s' ∧ μ s' < μ s ∧ out s' = out s) ∨ (F (enc s) = some (out s) ∧ (out s).1 ≠ .normal)) : ∀ s, inv s → mJ F (enc s) = some (out s) := by
 have key : ∀ n s, μ s = n → inv s → mJ F (enc s) = some (out s) := by
  intro n
  induction n using Nat.strongRecOn with
  | _ n ih =>
   intro s hn hi
   rw [mE]
   rcases h s hi with ⟨s', e1, e2, e3, e4⟩ | ⟨e1, e2⟩
   ·rw [e1]
    simp only [Option.bind_some, pC]
    rw [ih (μ s') (by omega) s' rfl e2, e4]
   ·rw [e1]
    generalize out s = r at e2
    obtain ⟨e, l⟩ := r
    cases e <;> first | exact absurd rfl e2 | rfl
 exact fun s hi => key (μ s) s rfl hi
end Hk


namespace Hk
open Go
section
variable {k k' : IntKind} {a b : Int} {h : kT} {m n id tot off len sz : Nat} {v w : kR} {cs : List kR}
@[simp] theorem U3 : kR.k8 (.vslice id tot off len sz) = .vslice id tot off len sz := (rfl)
@[simp] theorem ZQ : kR.k8 (.vptr id tot off) = .vptr id tot off := (rfl)
@[simp] theorem Tf : kR.rS (.vslice id tot off len sz) = .vslice id tot off len sz := (rfl)
@[simp] theorem TO : kR.cells (.vslice id tot off len sz) = [.vslice id tot off len sz] := (rfl)
@[simp] theorem S9 : kR.mC (.vslice id tot off len sz) = true := (rfl)
@[simp] theorem L4 {f : Nat} {x y : List kR} : kR.cells (.func f x y) = [.func f x y] := (rfl)
@[simp] theorem Ky {f : Nat} {x y : List kR} : kR.mC (.func f x y) = true := (rfl)
@[simp] theorem Tc : kR.oI (.vslice id tot off len sz) = false := (rfl)
@[simp] theorem T7 {o : kR} : sJ h o (.vslice id tot off len sz) = .vslice id tot off len sz := (rfl)
theorem xQ (hi : id < m) : kR.nM m h (.vslice id tot off len sz) = .vslice id tot off len sz := by simp [kR.nM, hi]
theorem Hl : kR.oM m h (.vslice id tot off len sz) = kR.nM m h (.vslice id tot off len sz) := (rfl)
theorem Ct (hi : id < m) : kR.oM m h (.vslice id tot off len sz) = .vslice id tot off len sz := by rw [Hl, xQ hi]
@[simp] theorem S6 : lN (.vslice id tot off len sz) = some (.int .i64 len) := (rfl)
@[simp] theorem ED {i : Nat} {sz' : Nat} : kY sz' (.vslice id tot off len sz) (.int k (i : Int)) = if i < len ∧ sz = sz' then some (.vptr id tot (off + i * sz')) else none := by
 simp [kY]
theorem SZ {i : Int} {sz' : Nat} : kY sz' (.vslice id tot off len sz) (.int k i) = if 0 ≤ i ∧ i < len ∧ sz = sz' then some (.vptr id tot (off + i.toNat * sz')) else none := (rfl)
@[simp] theorem SX {o : Nat} : kU o (.vptr id tot off) = some (.vptr id tot (off + o)) := (rfl)
@[simp] theorem QF : lR (.vptr id tot off) = some (.vptr id tot off) := (rfl)
@[simp] theorem lL : kV false n h (.vptr id tot off) = (nA h id tot).bind fun x => x.2[off]? := by
 simp only [kV, apart, cond_false]; cases nA h id tot <;> rfl
@[simp] theorem lQ : kV true n h (.vptr id tot off) = (nA h id tot).bind fun x => if off + n ≤ x.2.length then some (.agg ((x.2.drop off).take n)) else none := by
 simp only [kV, apart, cond_true]; cases nA h id tot <;> rfl
@[simp] theorem lJ : lU n h (.vptr id tot off) v = (nA h id tot).bind fun x => if v.cells.length = n ∧ off + n ≤ x.2.length ∧ v.cells.all kR.mC then some (h.set id (.vec tot x.1 (putCells x.2 off v.cells))) else none := by
 simp only [lU]; cases nA h id tot <;> rfl
theorem VN {r : kT} : nA (.vec tot sz cs :: r) 0 tot = some (sz, cs) := by simp [nA]
@[simp] theorem TS {r : kT} {tot' : Nat} : nA (.vec tot' sz cs :: r) 0 tot = if tot' = tot then some (sz, cs) else none := (rfl)
@[simp] theorem VM {bl : lW} {r : kT} : nA (bl :: r) (n + 1) tot = nA r n tot := (rfl)
@[simp] theorem Ng : pA m h (.vec tot sz cs) = (mP m h cs).map (.vec tot sz) := (rfl)
@[simp] theorem Tx {rows : List (List kR)} {t : Tok} : tA sz h (.slice rows t) = if rows.all fun r => r.length == sz then some rows else none := (rfl)
@[simp] theorem Tz {rows : List (List kR)} {t : Tok} : wS sz h (.slice rows t) = tA sz h (.slice rows t) := by
 unfold wS
 split
 ·rename_i r hr; rw [hr]
 ·rename_i hr; rw [hr]; rfl
@[simp] theorem SY {rows : List (List kR)} {t : Tok} : rC h (.slice rows t) = some (.slice rows t, h) := (rfl)
@[simp] theorem Vi : rC h (.int k a) = some (.int k a, h) := (rfl)
@[simp] theorem Tu {x : Bool} : rC h (.bool x) = some (.bool x, h) := (rfl)
@[simp] theorem Vh : rC h (.agg cs) = some (.agg cs, h) := (rfl)
theorem u_ {l : List kR} (hl : ∀ c ∈ l, ∃ k n, c = .int k n) : mP m h l = some l := by
 induction l with
 | nil => rfl
 | cons c r ih =>
  obtain ⟨k, n, rfl⟩ := hl c (by simp)
  rw [pB, ih fun c hc => hl c (by simp [hc])]
  rfl
theorem Df {l : List kR} (hl : ∀ c ∈ l, ∃ k n, c = .int k n) : mU l = some l := by
 induction l with
 | nil => rfl
 | cons c r ih =>
  obtain ⟨k, n, rfl⟩ := hl c (by simp)
  simp only [mU, ih fun c hc => hl c (by simp [hc]), kR.tK]
theorem zZ : ∀ {l : List kR}, rowsOf l.length 1 l = l.map fun c => [c]
 | [] => rfl
 | c :: r => by simp [rowsOf, zZ (l := r)]
end
end Hk
