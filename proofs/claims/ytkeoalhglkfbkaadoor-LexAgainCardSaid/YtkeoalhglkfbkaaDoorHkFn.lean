/-
  FUNCTIONS.
-/
import Derived.Test.YtkeoalhglkfbkaaDoorHkCode
set_option linter.unusedVariables false
set_option linter.unusedSimpArgs false
namespace Hk
open Go Go.RowKit

section
variable {P : Program} {A : Ann} {K : CallO} {lp : LpT} {G : Gh} {h : Heap} {w : World}

theorem finish_sound {f : Nat} {v : AVal} {V : Value} {r : Res} {h' h2 : Heap} {G' : Gh} {w' : World} (hb : finish A f h.length v h' = some (r, h2)) (x : Ext G h w G' h' w') (i : Inv G' h' w') (hv : RelV G' h' v V) :
    CallPost G h w r h2 (.returned V) w' := by
  unfold finish at hb
  cases he : A.esc f with
  | true =>
    rw [he] at hb; cases hb
    exact ⟨G', x, i, V, rfl, hv⟩
  | false =>
    rw [he] at hb
    simp only [cond_false] at hb
    cases hg : A.grow f with
    | true =>
      rw [hg] at hb
      simp only [cond_true, finG, Option.map_eq_some_iff] at hb
      obtain ⟨h3, ht, hb⟩ := hb
      obtain ⟨G3, i3, x3, _, hrel, _⟩ := trunc_ok x i ht
      cases hb
      exact ⟨G3, x3, i3, V, rfl, hrel _ _ hv⟩
    | false =>
      rw [hg] at hb
      simp only [cond_false, finR, Option.map_eq_some_iff] at hb
      obtain ⟨h3, ht, hb⟩ := hb
      obtain ⟨G3, i3, x3, _, hrel, _⟩ := trunc_ok x i ht
      cases hb
      exact ⟨G3, x3, i3, V, rfl, untok_rel (hrel _ _ hv)⟩

theorem aresults_some {ρ : List AVal} {x : Res × Heap} : ∀ {l : List ResultVar} {k : List AVal → Option (Res × Heap)}, aresults P ρ h l k = some x → ∃ vs, l.mapM (aresult P ρ h) = some vs ∧ k vs = some x
  | [], k, hb => ⟨[], rfl, hb⟩
  | .tmp t :: l, k, hb => by
    obtain ⟨vs, h1, h2⟩ := aresults_some (l := l) hb
    exact ⟨ρ.getD t .junk :: vs, by simp [List.mapM_cons, aresult, h1], h2⟩
  | .cell a t :: l, k, hb => by
    simp only [aresults] at hb
    split at hb
    · rename_i g n hg hn
      obtain ⟨v, hv, hb⟩ := Option.bind_eq_some_iff.1 hb
      obtain ⟨vs, h1, h2⟩ := aresults_some (l := l) hb
      exact ⟨v :: vs, by simp only [List.getD_eq_getElem?_getD] at hv; simp [List.mapM_cons, aresult, hg, hn, hv, h1], h2⟩
    · cases hb

theorem relVs_slots {args : List AVal} {X : Array Value} {n : Nat} (hx : RelVs G h args X) (hn : args.length ≤ n) :
    Slots G h (args ++ List.replicate (n - args.length) (.tuple [])) { tmps := X ++ Array.replicate (n - X.size) undef, defers := [] } := by
  refine ⟨by simp [hx.1], fun j v hv => ?_, rfl⟩
  have hs := hx.1
  simp only [Array.getD_eq_getD_getElem?]
  by_cases hj : j < args.length
  · rw [List.getElem?_append_left hj] at hv
    rw [Array.getElem?_append_left (by omega)]
    have := hx.2 j v hv
    rwa [Array.getD_eq_getD_getElem?] at this
  · rw [List.getElem?_append_right (by omega)] at hv
    rw [Array.getElem?_append_right (by omega)]
    rw [List.getElem?_replicate] at hv
    split at hv
    · cases hv
      rename_i hlt
      rw [Array.getElem?_replicate, if_pos (by omega)]
      exact .undef
    · cases hv

theorem evalFn_sound {f : Nat} {fn : Func} {c : Code} {args : List AVal} {X : Array Value} {r : Res} {h' : Heap} (hm : P.follows .mixedOrders = true) (hX : ExtOk P A) (hK : SoundK P A K) (hlp : LpOk lp)
    (hf : P.funcs[f]? = some fn) (hc : fn.body = some c) (hb : evalFn P A K lp f fn c args h = some (r, h')) (i : Inv G h w) (gl : GlobOk A G.H) (hx : RelVs G h args X) (hn : args.length ≤ fn.ntmps) :
    Calls P f X w (CallPost G h w r h') := by
  unfold evalFn at hb
  obtain ⟨r0, hr0, hend⟩ := Option.bind_eq_some_iff.1 hb
  refine calls_of_wp hf hc ?_
  refine evalCode_sound (cx := { P, A, K, lp, n := fn.ntmps, full := 2 ^ fn.ntmps - 1 }) hm hX hK hlp c _ _ h _ _ r0 G w _ _ hr0 i gl (relVs_slots hx hn) (by simp; omega) ?_
  have ret : ∀ (e : Ex) (ρ' : List AVal) (h1 : Heap) (G' : Gh) (w' : World) (a' : Act), (e = .normal ∨ e = .ret) → endFn P A f fn h.length e (unpack fn.ntmps (resBits fn) (pack (resBits fn) ρ')) h1 = some (r, h') → Ext G h w G' h1 w' → Inv G' h1 w' → Slots G' h1 ρ' a' → ρ'.length = fn.ntmps →
      a'.defers = [] ∧ ∃ v, (results fn a'.tmps).run P w' = .ok v w' ∧ CallPost G h w r h' (.returned v) w' := by
    intro e ρ' h1 G' w' a' he hend h3 h4 s hn'
    have s' := s.pack (L := resBits fn) hn'
    have hend' : aresults P (unpack fn.ntmps (resBits fn) (pack (resBits fn) ρ')) h1 fn.results.toList (fun vs => finish A f h.length (oneOf vs) h1) = some (r, h') := by
      rcases he with rfl | rfl <;> exact hend
    obtain ⟨vs, hvs, hend'⟩ := aresults_some hend'
    obtain ⟨V, hV, hrel⟩ := results_sound hvs h4 s'
    exact ⟨s.df, V, hV, finish_sound hend' h3 h4 hrel⟩
  refine ⟨fun ρ' h1 G' w' a' h2 h3 h4 h5 h6 => ?_, fun e ρ' h1 G' w' a' h2 h3 h4 h5 h6 => ?_⟩
  · cases h2
    exact ret _ ρ' h1 G' w' a' (.inl rfl) hend h3 h4 h5 h6
  · cases h2
    cases e with
    | ret => exact ret _ ρ' h1 G' w' a' (.inr rfl) hend h3 h4 h5 h6
    | exit id => cases hend
    | _ => trivial

theorem evB_sound (hm : P.follows .mixedOrders = true) (hX : ExtOk P A) (hK : SoundK P A (callP A K)) (hlp : LpOk lp) : SoundK P A (evB P A lp K) := by
  intro f args h r h' hb G w X i gl hx
  unfold evB at hb
  cases hf : P.funcs[f]? with
  | none => rw [hf] at hb; cases hb
  | some fn =>
    simp only [hf] at hb
    cases hc : fn.body with
    | none => rw [hc] at hb; cases hb
    | some c =>
      simp only [hc] at hb
      cases hg : decide (args.length ≤ fn.ntmps) && !(fn.name == "runtime.NumGoroutine") with
      | false => rw [hg] at hb; cases hb
      | true =>
        rw [hg] at hb
        simp only [Bool.and_eq_true, decide_eq_true_eq, Bool.not_eq_true'] at hg
        refine ⟨fun w => ?_, evalFn_sound hm hX hK hlp hf hc hb i gl hx hg.1⟩
        have hne : ¬ fn.name = "runtime.NumGoroutine" := by simpa using hg.2
        simp [callFunc, Sem.run_bind, hf, hc, hne, Sem.run_pure]

/-- An empty heap: nothing is owned. -/
theorem Inv.empty (i : Inv G h w) : Inv G [] w := ⟨i.ok, fun id bl hb => by simp at hb, fun a b c ha => by simp [owner] at ha⟩

theorem callP_sound (hK : SoundK P A K) : SoundK P A (callP A K) := by
  intro f args h r h' hb G w X i gl hx
  unfold callP at hb
  cases hp : A.pure f with
  | false => rw [hp] at hb; exact hK f args h r h' hb G w X i gl hx
  | true =>
    rw [hp] at hb
    simp only [cond_true] at hb
    cases hs : args.all (AVal.shut1 0) with
    | false => rw [hs] at hb; cases hb
    | true =>
      rw [hs] at hb
      simp only [cond_true] at hb
      obtain ⟨⟨r1, h1⟩, hc, hb⟩ := Option.bind_eq_some_iff.1 hb
      cases r1 with
      | pan v => cases hb
      | ret v =>
        cases h1 with
        | cons b t => cases hb
        | nil =>
          cases hb
          simp only [List.all_eq_true] at hs
          have l : Left G h G [] 0 := ⟨fun _ _ _ h => h, rfl, rfl, fun id hid => absurd hid (by omega), fun id n sz hid => absurd hid (by omega)⟩
          have hx0 : RelVs G [] args X := ⟨hx.1, fun j u hu => shut1_rel l (hs u (List.mem_of_getElem? hu)) (hx.2 j u hu)⟩
          obtain ⟨e1, e2⟩ := hK f args [] _ _ hc G w X i.empty gl hx0
          refine ⟨e1, Calls.mono e2 fun e w' hpost => ?_⟩
          obtain ⟨G', x, i', V, he, hV⟩ := hpost
          -- the caller's blocks are as they were
          have fr : ∀ b, b < w.heap.size → w'.heap[b]? = w.heap[b]? ∧ ∀ k, G'.H b k = G.H b k := fun b hb => x.frame b hb fun id => by simp [owner]
          let G2 : Gh := { G' with blk := G.blk, cur := G.cur }
          have own2 : ∀ id, owner G2 h id = owner G h id := fun id => rfl
          have mono : Mono G h G2 h := ⟨x.hmono, fun id bl hb => ⟨bl, hb, by cases bl <;> simp [Kind, G2]⟩⟩
          refine ⟨G2, ⟨x.os, x.tape, x.output, x.size, fun b hb _ => fr b hb, x.hmono, fun id b ho _ => ho, mono.kinds⟩, ⟨i'.ok, fun id bl hb => ?_, fun a b c ha hb => i.inj a b c ha hb⟩, V, he, ?_⟩
          · refine (i.blk id bl hb).keep mono rfl rfl fun b ho => ?_
            exact fr b ((i.blk id bl hb).lt ho)
          · -- the value
            have key : ∀ {v : AVal} {V : Value}, RelV G' [] v V → RelV G2 h v V := by
              intro v V r
              have nl : ∀ id, ¬ live ([] : Heap) id := fun id ⟨b, hb, _⟩ => by simp at hb
              induction r with
              | p v V hp => exact .p v V hp
              | agg cs C hl _ ih => exact .agg cs C hl ih
              | tuple cs C hl _ ih => exact .tuple cs C hl ih
              | nil => exact .nil
              | own rows id n sz V hp hf => simp at hf
              | ptr id off hl => exact absurd hl (nl id)
              | mslice id off len sz cap hl => exact absurd hl (nl id)
              | mslice0 id off sz cap a => exact .mslice0 id off sz cap a
              | map id hl => exact absurd hl (nl id)
              | func f first cap F C hlf hlc _ _ ih1 ih2 => exact .func f first cap F C hlf hlc ih1 ih2
              | iface t v V _ ih => exact .iface t v V ih
            exact key hV

theorem evF_sound (hm : P.follows .mixedOrders = true) (hX : ExtOk P A) (hlp : LpOk lp) : ∀ n, SoundK P A (evF P A lp n)
  | 0 => fun f args h r h' hb => by simp [evF] at hb
  | n + 1 => fun f args h r h' hb => evB_sound hm hX (callP_sound (evF_sound hm hX hlp n)) hlp f args h r h' hb

end
end Hk
