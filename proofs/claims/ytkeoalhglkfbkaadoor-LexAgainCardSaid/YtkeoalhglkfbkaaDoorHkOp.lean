/-
  ONE OPERATION.
-/
import Derived.Test.YtkeoalhglkfbkaaDoorHkMem9
set_option linter.unusedVariables false
set_option linter.unusedSimpArgs false
namespace Hk
open Go Go.RowKit

def RelVs (G : Gh) (h : Heap) (vs : List AVal) (A : Array Value) : Prop := vs.length = A.size ∧ ∀ (i : Nat) (v : AVal), vs[i]? = some v → RelV G h v (A.getD i undef)

/-- What a call's answer says. -/
def CallPost (G : Gh) (h : Heap) (w : World) (r : Res) (h' : Heap) (e : Ending) (w' : World) : Prop :=
  ∃ G', Ext G h w G' h' w' ∧ Inv G' h' w' ∧ match r with
    | .ret v => ∃ V, e = .returned V ∧ RelV G' h' v V
    | .pan v => ∃ V, e = .panicked [{ v := V, recovered := false }] ∧ RelV G' h' v V

def SoundK (P : Program) (A : Ann) (K : CallO) : Prop :=
  ∀ (f : Nat) (args : List AVal) (h : Heap) (r : Res) (h' : Heap), K f args h = some (r, h') →
    ∀ (G : Gh) (w : World) (X : Array Value), Inv G h w → GlobOk A G.H → RelVs G h args X →
      (∀ w, (callFunc f X).run P w = .ok (.enter f X) w) ∧ Calls P f X w (CallPost G h w r h')

theorem untok1_rel {G : Gh} {h : Heap} {x : AVal} {X : Value} (hx : RelV G h x X) : RelV G h x.untok1 X := by
  cases x <;> simp only [AVal.untok1] <;> first | exact hx | exact .p _ _ hx.slice_inv
theorem untok_rel {G : Gh} {h : Heap} {x : AVal} {X : Value} (hx : RelV G h x X) : RelV G h x.untok X := by
  have agg : ∀ (cs : List AVal) (X : Value), RelV G h (.agg cs) X → RelV G h (.agg (cs.map AVal.untok1)) X := by
    intro cs X hx
    obtain ⟨C, rfl, hl, hr⟩ := hx.agg_inv
    refine .agg _ _ (by simpa using hl) fun i u hu => ?_
    simp only [List.getElem?_map, Option.map_eq_some_iff] at hu
    obtain ⟨a, ha, rfl⟩ := hu
    exact untok1_rel (hr i a ha)
  cases x with
  | agg cs => exact agg cs X hx
  | tuple vs =>
    obtain ⟨C, rfl, hl, hr⟩ := hx.tuple_inv
    refine .tuple _ _ (by simpa using hl) fun i u hu => ?_
    simp only [List.getElem?_map, Option.map_eq_some_iff] at hu
    obtain ⟨a, ha, rfl⟩ := hu
    have := hr i a ha
    cases a <;> first | exact agg _ _ this | exact untok1_rel this
  | _ => exact untok1_rel hx

section
variable {cx : Cx} {o : Oper} {ρ : List AVal} {h : Heap} {kv kp : AVal → Heap → Option R} {r : R} {G : Gh} {w : World} {a : Act} {N : Act → World → Prop} {Q : Exit → Act → World → Prop}

/-- What the continuations give. -/
def KvOk (o : Oper) (kv : AVal → Heap → Option R) (r : R) (G : Gh) (h : Heap) (w : World) (a : Act) (N : Act → World → Prop) : Prop :=
  ∀ v h' G' w' V, kv v h' = some r → Ext G h w G' h' w' → Inv G' h' w' → RelV G' h' v V → N (a.put o.dst V) w'
def KpOk (kp : AVal → Heap → Option R) (r : R) (G : Gh) (h : Heap) (w : World) (a : Act) (Q : Exit → Act → World → Prop) : Prop :=
  ∀ v h' G' w' V, kp v h' = some r → Ext G h w G' h' w' → Inv G' h' w' → RelV G' h' v V → Q (.panic [{ v := V, recovered := false }]) a w'

theorem wp_val {V : Value} {w' : World} (hr : (execOp a.eval o).run cx.P w = .ok (.value V) w') (hN : N (a.put o.dst V) w') : o.wp cx.P a w N Q := by
  unfold Oper.wp; rw [hr]; exact hN
theorem wp_skip' {w' : World} (hr : (execOp a.eval o).run cx.P w = .ok .skip w') (hN : N (a.put o.dst undef) w') : o.wp cx.P a w N Q := by
  unfold Oper.wp; rw [hr]; exact hN

theorem run_value {s : Sem Value} {V : Value} {w' : World} (h : s.run cx.P w = .ok V w') : (do pure (Next.value (← s)) : Sem Next).run cx.P w = .ok (.value V) w' := by
  simp [h, Sem.run_pure]
theorem run_unit {s : Sem Unit} {w' : World} (h : s.run cx.P w = .ok () w') : (do s; pure Next.skip : Sem Next).run cx.P w = .ok .skip w' := by
  simp [h, Sem.run_pure]

/-- An operation whose run leaves the world alone. -/
theorem pure_case {v : AVal} (i : Inv G h w) (hk : kv v h = some r) (hkv : KvOk o kv r G h w a N) (hr : ∃ V, (execOp a.eval o).run cx.P w = .ok (.value V) w ∧ RelV G h v V) : o.wp cx.P a w N Q := by
  obtain ⟨V, h1, h2⟩ := hr
  exact wp_val h1 (hkv v h G w V hk (Ext.refl G h w) i h2)

/-- An operation that makes a value and turns the world. -/
theorem mem_case {v : AVal} {h' : Heap} (hk : kv v h' = some r) (hkv : KvOk o kv r G h w a N)
    (hr : ∃ V w' G', (execOp a.eval o).run cx.P w = .ok (.value V) w' ∧ Inv G' h' w' ∧ Ext G h w G' h' w' ∧ RelV G' h' v V) : o.wp cx.P a w N Q := by
  obtain ⟨V, w', G', h1, h2, h3, h4⟩ := hr
  exact wp_val h1 (hkv v h' G' w' V hk h3 h2 h4)

theorem builtin_sound {c : Call} {b : Builtin} (ho : o.op = .call c) (hcal : c.callee = .builtin b) (hb : builtinOp cx b c.argTypes.toList (c.args.toList.map (aval cx.A ρ)) h kv = some r) (i : Inv G h w)
    (ev : ∀ x, RelV G h (aval cx.A ρ x) (a.eval x)) (hkv : KvOk o kv r G h w a N) : o.wp cx.P a w N Q := by
  have run : ∀ (s : Sem Value) (V : Value) (w' : World), s.run cx.P w = .ok V w' → (∀ consts, (builtin b c.argTypes o.type consts (c.args.map a.eval)).run cx.P w = (do pure (Next.value (← s)) : Sem Next).run cx.P w) →
      (execOp a.eval o).run cx.P w = .ok (.value V) w' := by
    intro s V w' h1 h2
    simp only [execOp, ho, resolve, hcal, Sem.run_bind, Sem.run_pure, Result.andThen_ok, invoke]
    exact (h2 _).trans (run_value h1)
  unfold builtinOp at hb
  split at hb
  -- len
  · rename_i t x hT hA
    obtain ⟨x0, hx0, rfl⟩ : ∃ x0, c.args = #[x0] ∧ x = aval cx.A ρ x0 := by
      cases hc : c.args with
      | mk l => rw [hc] at hA; cases l with
        | nil => simp at hA
        | cons y r => simp at hA; exact ⟨y, by simp [hA.2], hA.1.symm⟩
    have hT' : c.argTypes = #[t] := by cases hc : c.argTypes with | mk l => rw [hc] at hT; simp at hT; rw [hT]
    split at hb
    · rename_i n e ht
      refine pure_case i hb hkv ⟨.int .i64 n, run (Builtin.len_ #[t] o.type #[a.eval x0]) _ _ ?_ (fun _ => by simp [builtin, hx0, hT']), .p _ _ (.int _ _)⟩
      simp [Builtin.len_, run_underlying ht, goInt, Sem.run_pure]
    · rename_i ht
      obtain ⟨v, hv, hk⟩ := Option.bind_eq_some_iff.1 hb
      obtain ⟨V, e1, e2⟩ := alenStr_sound (P := cx.P) (w := w) (ty := o.type) ht hv (ev x0)
      exact pure_case i hk hkv ⟨V, run _ _ _ e1 (fun _ => by simp [builtin, hx0, hT']), e2⟩
    · rename_i e ht
      obtain ⟨v, hv, hk⟩ := Option.bind_eq_some_iff.1 hb
      obtain ⟨V, e1, e2⟩ := alenSl_sound (P := cx.P) (w := w) (ty := o.type) ht hv (ev x0)
      exact pure_case i hk hkv ⟨V, run _ _ _ e1 (fun _ => by simp [builtin, hx0, hT']), e2⟩
    · cases hb
  -- min
  · rename_i x y hA
    obtain ⟨x0, y0, hx0, rfl, rfl⟩ : ∃ x0 y0, c.args = #[x0, y0] ∧ x = aval cx.A ρ x0 ∧ y = aval cx.A ρ y0 := by
      cases hc : c.args with
      | mk l => rw [hc] at hA; match l, hA with
        | [p, q], hA => simp at hA; exact ⟨p, q, rfl, hA.1.symm, hA.2.symm⟩
    obtain ⟨v, hv, hk⟩ := Option.bind_eq_some_iff.1 hb
    obtain ⟨V, e1, e2⟩ := amin2_sound (P := cx.P) (w := w) hv (ev x0) (ev y0)
    exact pure_case i hk hkv ⟨V, run (Builtin.min2 (a.eval x0) (a.eval y0)) _ _ e1 (fun _ => by simp [builtin, hx0, Builtin.min_]), e2⟩
  -- max
  · rename_i x y hA
    obtain ⟨x0, y0, hx0, rfl, rfl⟩ : ∃ x0 y0, c.args = #[x0, y0] ∧ x = aval cx.A ρ x0 ∧ y = aval cx.A ρ y0 := by
      cases hc : c.args with
      | mk l => rw [hc] at hA; match l, hA with
        | [p, q], hA => simp at hA; exact ⟨p, q, rfl, hA.1.symm, hA.2.symm⟩
    obtain ⟨v, hv, hk⟩ := Option.bind_eq_some_iff.1 hb
    obtain ⟨V, e1, e2⟩ := amax2_sound (P := cx.P) (w := w) hv (ev x0) (ev y0)
    exact pure_case i hk hkv ⟨V, run (Builtin.max2 (a.eval x0) (a.eval y0)) _ _ e1 (fun _ => by simp [builtin, hx0, Builtin.max_]), e2⟩
  -- append
  · rename_i t t' x y hT hA
    obtain ⟨x0, y0, hx0, rfl, rfl⟩ : ∃ x0 y0, c.args = #[x0, y0] ∧ x = aval cx.A ρ x0 ∧ y = aval cx.A ρ y0 := by
      cases hc : c.args with
      | mk l => rw [hc] at hA; match l, hA with
        | [p, q], hA => simp at hA; exact ⟨p, q, rfl, hA.1.symm, hA.2.symm⟩
    have hT' : c.argTypes = #[t, t'] := by cases hc : c.argTypes with | mk l => rw [hc] at hT; simp at hT; rw [hT]
    split at hb
    · rename_i e he
      have ht : cx.P.underlying t = some (.slice e) := by unfold elemT at he; split at he <;> simp_all
      cases htt : (t != t') with
      | true => simp only [htt, cond_true] at hb; cases hb
      | false =>
        simp only [htt, cond_false] at hb
        have : t = t' := by simpa using htt
        subst this
        split at hb
        · rename_i sz by_ z hn hby hz
          cases hg : (sz == 0 || z.isJunk || z.cells.length != sz) with
          | true => simp only [hg, cond_true] at hb; cases hb
          | false =>
            simp only [hg, cond_false] at hb
            simp only [Bool.or_eq_false_iff, beq_eq_false_iff_ne, bne_eq_false_iff_eq] at hg
            obtain ⟨⟨h0, hj⟩, hl⟩ := hg
            unfold bindVH at hb
            obtain ⟨⟨p, h'⟩, hv, hk⟩ := Option.bind_eq_some_iff.1 hb
            obtain ⟨V, w', G', e1, e2, e3, e4⟩ := aappend_sound (P := cx.P) (ty := o.type) i ht hn hby hz hj hl h0 hv (ev x0) (ev y0)
            exact mem_case hk hkv ⟨V, w', G', run _ _ _ e1 (fun _ => by simp [builtin, hx0, hT']), e2, e3, e4⟩
        · cases hb
    · cases hb
  · cases hb

theorem evalOp_sound (hX : ExtOk cx.P cx.A) (hK : SoundK cx.P cx.A cx.K) (rsv : Option Nat) (hb : evalOp cx o rsv ρ h kv kp = some r) (i : Inv G h w) (gl : GlobOk cx.A G.H) (s : Slots G h ρ a)
    (hkv : KvOk o kv r G h w a N) (hkp : KpOk kp r G h w a Q) : o.wp cx.P a w N Q := by
  have ev : ∀ x, RelV G h (aval cx.A ρ x) (a.eval x) := fun x => s.eval gl x
  unfold evalOp evalOpV at hb
  simp only [] at hb
  split at hb
  -- move
  · rename_i x ho
    exact pure_case i hb hkv ⟨_, by simp [execOp, ho, Sem.run_pure], ev x⟩
  -- assign
  · rename_i x ho
    cases hn : nilConst x with
    | true =>
      simp only [hn, cond_true] at hb
      obtain ⟨G', i', x', hc, _⟩ := i.pushTok
      have hx : a.eval x = .slice none 0 0 := by
        unfold nilConst at hn
        split at hn
        · rfl
        · cases hn
      exact wp_val (by simp [execOp, ho, Sem.run_pure, hx]) (hkv _ _ G' w _ hb x' i' (pushTok_rel hc))
    | false =>
      simp only [hn, cond_false] at hb
      exact pure_case i hb hkv ⟨_, by simp [execOp, ho, Sem.run_pure], ev x⟩
  -- pick
  · rename_i c x y ho
    obtain ⟨v, hv, hk⟩ := Option.bind_eq_some_iff.1 hb
    obtain ⟨V, h1, h2⟩ := apick_sound (P := cx.P) (w := w) hv (ev c) (ev x) (ev y)
    exact pure_case i hk hkv ⟨V, by simp only [execOp, ho]; exact h1, h2⟩
  -- alloc
  · rename_i t ho
    split at hb
    · rename_i n z hn hz
      split at hb
      · unfold bindVH at hb
        obtain ⟨⟨p, h'⟩, hv, hk⟩ := Option.bind_eq_some_iff.1 hb
        obtain ⟨V, w', G', h1, h2, h3, h4⟩ := aalloc_sound (P := cx.P) i hz hv
        exact mem_case hk hkv ⟨V, w', G', by simp only [execOp, ho]; exact run_value h1, h2, h3, h4⟩
      · unfold bindVH at hb
        obtain ⟨⟨p, h'⟩, hv, hk⟩ := Option.bind_eq_some_iff.1 hb
        obtain ⟨V, w', G', h1, h2, h3, h4⟩ := aallocAt_sound (P := cx.P) i hz hv
        exact mem_case hk hkv ⟨V, w', G', by simp only [execOp, ho]; exact run_value h1, h2, h3, h4⟩
    · cases hb
  -- box
  · rename_i t x ho
    split at hb
    · rename_i n hn
      split at hb
      · unfold bindVH at hb
        obtain ⟨⟨p, h'⟩, hv, hk⟩ := Option.bind_eq_some_iff.1 hb
        obtain ⟨V, w', G', h1, h2, h3, h4⟩ := abox_sound (P := cx.P) (t := t) i hv (ev x)
        exact mem_case hk hkv ⟨V, w', G', by simp only [execOp, ho]; exact run_value h1, h2, h3, h4⟩
      · unfold bindVH at hb
        obtain ⟨⟨p, h'⟩, hv, hk⟩ := Option.bind_eq_some_iff.1 hb
        obtain ⟨V, w', G', h1, h2, h3, h4⟩ := aboxAt_sound (P := cx.P) (t := t) i hv (ev x)
        exact mem_case hk hkv ⟨V, w', G', by simp only [execOp, ho]; exact run_value h1, h2, h3, h4⟩
    · cases hb
  -- build
  · rename_i t parts ho
    split at hb
    · rename_i z fs hz ht
      split at hb
      · rename_i places hp
        cases hj : z.isJunk with
        | true => simp [hj] at hb
        | false =>
          simp only [hj, cond_false] at hb
          obtain ⟨v, hv, hk⟩ := Option.bind_eq_some_iff.1 hb
          obtain ⟨V, h1, h2⟩ := abuild_struct (P := cx.P) (G := G) (h := h) (w := w) ht hz hp ev hj hv
          exact pure_case i hk hkv ⟨V, by simp only [execOp, ho]; exact run_value h1, h2⟩
      · cases hb
    · rename_i z len e hz ht
      split at hb
      · rename_i n hn
        cases hj : z.isJunk with
        | true => simp [hj] at hb
        | false =>
          simp only [hj, cond_false] at hb
          obtain ⟨v, hv, hk⟩ := Option.bind_eq_some_iff.1 hb
          obtain ⟨V, h1, h2⟩ := abuild_array (P := cx.P) (G := G) (h := h) (w := w) ht hz hn ev hj hv
          exact pure_case i hk hkv ⟨V, by simp only [execOp, ho]; exact run_value h1, h2⟩
      · cases hb
    · cases hb
  -- buildSlice
  · rename_i t len parts ho
    split at hb
    · rename_i e he
      have ht : cx.P.underlying t = some (.slice e) := by unfold elemT at he; split at he <;> simp_all
      split at hb
      · rename_i n z hn hz
        cases hg : (n == 0 || z.isJunk || decide (len * n > 16777216)) with
        | true => simp only [hg, cond_true] at hb; cases hb
        | false =>
          simp only [hg, cond_false] at hb
          simp only [Bool.or_eq_false_iff, beq_eq_false_iff_ne, decide_eq_false_iff_not] at hg
          obtain ⟨⟨h0, hj⟩, hle⟩ := hg
          split at hb
          · unfold bindVH at hb
            obtain ⟨⟨p, h'⟩, hv, hk⟩ := Option.bind_eq_some_iff.1 hb
            obtain ⟨V, w', G', h1, h2, h3, h4⟩ := abuildSlice_sound (P := cx.P) i ht hz hn h0 (by omega) ev hj hv
            exact mem_case hk hkv ⟨V, w', G', by simp only [execOp, ho]; exact run_value h1, h2, h3, h4⟩
          · unfold bindVH at hb
            obtain ⟨⟨p, h'⟩, hv, hk⟩ := Option.bind_eq_some_iff.1 hb
            obtain ⟨V, w', G', h1, h2, h3, h4⟩ := abuildSliceAt_sound (P := cx.P) i ht hz hn h0 (by omega) ev hj hv
            exact mem_case hk hkv ⟨V, w', G', by simp only [execOp, ho]; exact run_value h1, h2, h3, h4⟩
      · cases hb
    · cases hb
  -- load
  · rename_i t x ho
    split at hb
    · rename_i g n hg hn
      obtain ⟨v, hv, hk⟩ := Option.bind_eq_some_iff.1 hb
      obtain ⟨V, h1, h2⟩ := aload_sound (P := cx.P) hg hn i hv (ev x)
      exact pure_case i hk hkv ⟨V, by simp only [execOp, ho]; exact run_value h1, h2⟩
    · cases hb
  -- store
  · rename_i t p x ho
    split at hb
    · rename_i n hn
      obtain ⟨h', hv, hk⟩ := Option.bind_eq_some_iff.1 hb
      obtain ⟨w', h1, h2, h3⟩ := astore_sound (P := cx.P) hn i hv (ev p) (ev x)
      exact wp_skip' (by simp only [execOp, ho]; exact run_unit h1) (hkv _ _ G w' _ hk h3 h2 .undef)
    · cases hb
  -- nilCheck
  · rename_i x ho
    obtain ⟨v, hv, hk⟩ := Option.bind_eq_some_iff.1 hb
    have hx := ev x
    refine pure_case i hk hkv ⟨a.eval x, ?_, ?_⟩
    · unfold anilCheck at hv
      split at hv <;> simp only [Option.some.injEq, reduceCtorEq] at hv
      · rename_i he; rw [he] at hx; obtain ⟨h1, _⟩ := hx.ptr_inv; simp [execOp, ho, h1, Sem.run_pure]
      · rename_i he
        rw [he] at hx
        have := hx.pptr_inv
        generalize hX : a.eval x = X at this
        cases this
        simp [execOp, ho, hX, Sem.run_pure]
      · rename_i he; rw [he] at hx; obtain ⟨F, C, h1, _⟩ := hx.func_inv; simp [execOp, ho, h1, Sem.run_pure]
    · unfold anilCheck at hv
      split at hv <;> simp only [Option.some.injEq, reduceCtorEq] at hv
      all_goals (rename_i he; rw [he] at hx; rw [← hv]; exact hx)
  -- binOp
  · rename_i op t x y yt ho
    split at hb
    · rename_i fs ht
      split at hb
      · rename_i ks hks
        obtain ⟨b, hv, hk⟩ := Option.bind_eq_some_iff.1 hb
        have := (eqAgg_sound (P := cx.P) (w := w) ht hks x y hv (ev x) (ev y)).1
        exact pure_case i hk hkv ⟨_, by simp only [execOp, ho]; exact run_value this, .p _ _ (.bool _)⟩
      · cases hb
    · rename_i fs ht
      split at hb
      · rename_i ks hks
        obtain ⟨b, hv, hk⟩ := Option.bind_eq_some_iff.1 hb
        have := (eqAgg_sound (P := cx.P) (w := w) ht hks x y hv (ev x) (ev y)).2
        exact pure_case i hk hkv ⟨_, by simp only [execOp, ho]; exact run_value this, .p _ _ (.bool _)⟩
      · cases hb
    · rename_i ht
      obtain ⟨v, hv, hk⟩ := Option.bind_eq_some_iff.1 hb
      obtain ⟨V, h1, h2⟩ := abinB_sound (P := cx.P) (w := w) ht x y hv (ev x) (ev y)
      exact pure_case i hk hkv ⟨V, by simp only [execOp, ho]; exact run_value h1, h2⟩
    · obtain ⟨v, hv, hk⟩ := Option.bind_eq_some_iff.1 hb
      obtain ⟨V, h1, h2⟩ := abin_sound (P := cx.P) (w := w) t x y hv (ev x) (ev y)
      exact pure_case i hk hkv ⟨V, by simp only [execOp, ho]; exact run_value h1, h2⟩
    · obtain ⟨v, hv, hk⟩ := Option.bind_eq_some_iff.1 hb
      obtain ⟨V, h1, h2⟩ := abin_sound (P := cx.P) (w := w) t x y hv (ev x) (ev y)
      exact pure_case i hk hkv ⟨V, by simp only [execOp, ho]; exact run_value h1, h2⟩
    · cases hb
  -- unOp
  · rename_i op t x ho
    obtain ⟨v, hv, hk⟩ := Option.bind_eq_some_iff.1 hb
    obtain ⟨V, h1, h2⟩ := aun_sound (P := cx.P) (w := w) hv (ev x)
    exact pure_case i hk hkv ⟨V, by simp only [execOp, ho]; exact run_value h1, h2⟩
  -- convert
  · rename_i sT dT x ho
    split at hb
    · rename_i k0 k hs hd
      obtain ⟨v, hv, hk⟩ := Option.bind_eq_some_iff.1 hb
      obtain ⟨V, h1, h2⟩ := aconvInt_sound (P := cx.P) (w := w) hs hd hv (ev x)
      exact pure_case i hk hkv ⟨V, by simp only [execOp, ho]; exact run_value h1, h2⟩
    · rename_i e hs hd
      split at hb
      · rename_i hu
        obtain ⟨v, hv, hk⟩ := Option.bind_eq_some_iff.1 hb
        obtain ⟨V, h1, h2⟩ := abytesStr_sound (P := cx.P) i hv (ev x)
        have hsl : ∃ q n c, a.eval x = Value.slice q n c := by
          have hx := ev x
          generalize aval cx.A ρ x = y at hv hx
          generalize a.eval x = Y at hx
          unfold abytesStr at hv
          split at hv
          · have hp := hx.slice_inv
            cases hp <;> exact ⟨_, _, _, rfl⟩
          · cases hv
        obtain ⟨q, n, c, hq⟩ := hsl
        rw [hq] at h1
        exact pure_case i hk hkv ⟨V, by
          simp only [execOp, ho, hq]
          refine run_value ?_
          simp only [Go.convert, Sem.run_bind, run_underlying hs, run_underlying hd, run_underlying hu, Result.andThen_ok]
          exact h1, h2⟩
      · cases hb
    · cases hb
  -- makeMap
  · rename_i t ho
    obtain ⟨G', h1, h2, h3⟩ := i.newMap
    exact mem_case hb hkv ⟨.map (some w.heap.size), _, G', by simp only [execOp, ho]; exact run_value (run_makeMap t w), h1, h2, h3⟩
  -- makeSlice
  · rename_i t l c ho
    split at hb
    · rename_i e he
      have ht : cx.P.underlying t = some (.slice e) := by unfold elemT at he; split at he <;> simp_all
      split at hb
      · rename_i n by_ z hn hby hz
        cases hg : (n == 0 || z.isJunk || z.cells.length != n || !(z.cells.all AVal.cellOk) || !(sameOp l c)) with
        | true => simp only [hg, cond_true] at hb; cases hb
        | false =>
          simp only [hg, cond_false] at hb
          simp only [Bool.or_eq_false_iff, beq_eq_false_iff_ne, bne_eq_false_iff_eq, Bool.not_eq_false'] at hg
          obtain ⟨⟨⟨⟨h0, hj⟩, hl⟩, hall⟩, hso⟩ := hg
          unfold bindVH at hb
          obtain ⟨⟨p, h'⟩, hv, hk⟩ := Option.bind_eq_some_iff.1 hb
          obtain ⟨k, k', m, e1, e2, e3⟩ : ∃ k k' m, aval cx.A ρ l = .int k m ∧ a.eval l = .int k m ∧ a.eval c = .int k' m := by
            have hx := ev l
            have hm : ∃ k m, aval cx.A ρ l = .int k m := by
              unfold amakeSlice at hv
              split at hv
              · rename_i k m he; exact ⟨k, m, he⟩
              · cases hv
            obtain ⟨k, m, hm⟩ := hm
            rw [hm] at hx
            have hx := hx.int_inv
            unfold sameOp at hso
            split at hso
            · simp at hso; subst hso; exact ⟨k, k, m, hm, hx, hx⟩
            · rename_i k1 a1 k2 b1
              simp at hso; subst hso
              simp only [aval, ofConst, ofConst1, AVal.int.injEq] at hm
              obtain ⟨rfl, rfl⟩ := hm
              exact ⟨_, _, _, rfl, rfl, rfl⟩
            · cases hso
          obtain ⟨V, w', G', h1, h2, h3, h4⟩ := amakeSlice_sound (P := cx.P) i ht hn hby hz hj hl hall hv e1 e2 e3
          exact mem_case hk hkv ⟨V, w', G', by simp only [execOp, ho]; exact run_value h1, h2, h3, h4⟩
      · cases hb
    · cases hb
  -- lookup
  · rename_i t m k ok ho
    split at hb
    · rename_i kt e ht
      split at hb
      · rename_i d z hd hz
        cases hf : akeyFor d (aval cx.A ρ k) with
        | false => simp only [hf, cond_false] at hb; cases hb
        | true =>
          simp only [hf, cond_true] at hb
          obtain ⟨v, hv, hk⟩ := Option.bind_eq_some_iff.1 hb
          obtain ⟨V, h1, h2⟩ := alookup_sound (P := cx.P) i ht hd hz hf hv (ev m) (ev k)
          exact pure_case i hk hkv ⟨V, by simp only [execOp, ho]; exact run_value h1, h2⟩
      · cases hb
    · cases hb
  -- mapUpdate
  · rename_i t m k x ho
    split at hb
    · rename_i kt e ht
      split at hb
      · rename_i d hd
        cases hf : akeyFor d (aval cx.A ρ k) with
        | false => simp only [hf, cond_false] at hb; cases hb
        | true =>
          simp only [hf, cond_true] at hb
          obtain ⟨h', hv, hk⟩ := Option.bind_eq_some_iff.1 hb
          obtain ⟨w', h1, h2, h3⟩ := amapSet_sound (P := cx.P) i ht hd hf hv (ev m) (ev k) (ev x)
          exact wp_skip' (by simp only [execOp, ho]; exact run_unit h1) (hkv _ _ G w' _ hk h3 h2 .undef)
      · cases hb
    · cases hb
  -- makeInterface
  · rename_i t x ho
    split at hb
    · cases hb
    · rename_i d hne hd
      refine pure_case i hb hkv ⟨.iface t (a.eval x), ?_, .iface _ _ _ (ev x)⟩
      have : (Instr.makeInterface t (a.eval x)).run cx.P w = .ok (.iface t (a.eval x)) w := by
        unfold Instr.makeInterface
        simp only [Sem.run_bind, run_underlying hd, Result.andThen_ok]
        cases d <;> first | (exact absurd rfl (hne _); done) | simp [Sem.run_pure]
      simp only [execOp, ho]; exact run_value this
    · cases hb
  -- makeFunc
  · rename_i f first cap ho
    refine pure_case i hb hkv ⟨.func (.func f) (first.map a.eval) (cap.map a.eval), by simp only [execOp, ho]; exact run_value (by simp only [Instr.makeFunc, Sem.run_pure]), .func f _ _ _ _ (by simp) (by simp) ?_ ?_⟩
    · intro j u hu
      simp only [List.getElem?_map, Option.map_eq_some_iff, Array.getElem?_toList] at hu
      obtain ⟨x, hx, rfl⟩ := hu
      have : (first.map a.eval).getD j undef = a.eval x := by simp [Array.getD_eq_getD_getElem?, hx]
      rw [this]; exact ev x
    · intro j u hu
      simp only [List.getElem?_map, Option.map_eq_some_iff, Array.getElem?_toList] at hu
      obtain ⟨x, hx, rfl⟩ := hu
      have : (cap.map a.eval).getD j undef = a.eval x := by simp [Array.getD_eq_getD_getElem?, hx]
      rw [this]; exact ev x
  -- slice
  · rename_i t x lo hi ho
    obtain ⟨l1, l2⟩ := optRel (G := G) (h := h) ev lo
    obtain ⟨h1, h2⟩ := optRel (G := G) (h := h) ev hi
    split at hb
    · rename_i ht
      obtain ⟨v, hv, hk⟩ := Option.bind_eq_some_iff.1 hb
      obtain ⟨V, e1, e2⟩ := asliceStr_sound (P := cx.P) (w := w) l1 l2 h1 h2 ht hv (ev x)
      exact pure_case i hk hkv ⟨V, by simp only [execOp, ho]; exact run_value e1, e2⟩
    · rename_i e ht
      split at hb
      · rename_i n hn
        obtain ⟨v, hv, hk⟩ := Option.bind_eq_some_iff.1 hb
        obtain ⟨V, e1, e2⟩ := asliceSl_sound (P := cx.P) (w := w) l1 l2 h1 h2 ht hn hv (ev x)
        exact pure_case i hk hkv ⟨V, by simp only [execOp, ho]; exact run_value e1, e2⟩
      · cases hb
    · cases hb
  -- fieldAddr
  · rename_i t x f ho
    split at hb
    · rename_i fs ht
      split at hb
      · rename_i fd hf
        split at hb
        · rename_i n hn
          obtain ⟨v, hv, hk⟩ := Option.bind_eq_some_iff.1 hb
          obtain ⟨V, e1, e2⟩ := afieldAt_sound (P := cx.P) (w := w) ht hf hn hv (ev x)
          exact pure_case i hk hkv ⟨V, by simp only [execOp, ho]; exact run_value e1, e2⟩
        · cases hb
      · cases hb
    · cases hb
  -- field
  · rename_i t x f ho
    split at hb
    · rename_i fs ht
      split at hb
      · rename_i fd hf
        split at hb
        · rename_i g n hg hn
          obtain ⟨v, hv, hk⟩ := Option.bind_eq_some_iff.1 hb
          obtain ⟨V, e1, e2⟩ := afield_sound (P := cx.P) (w := w) (ft := fd.type) ht hf hg hn hv (ev x)
          exact pure_case i hk hkv ⟨V, by simp only [execOp, ho]; exact run_value e1, e2⟩
        · cases hb
      · cases hb
    · cases hb
  -- indexAddr
  · rename_i t x ix ho
    split at hb
    · rename_i e ht
      split at hb
      · rename_i n hn
        obtain ⟨v, hv, hk⟩ := Option.bind_eq_some_iff.1 hb
        obtain ⟨V, e1, e2⟩ := aindexSl_sound (P := cx.P) (w := w) ht hn hv (ev x) (ev ix)
        exact pure_case i hk hkv ⟨V, by simp only [execOp, ho]; exact run_value e1, e2⟩
      · cases hb
    · rename_i len e ht
      split at hb
      · rename_i n hn
        obtain ⟨v, hv, hk⟩ := Option.bind_eq_some_iff.1 hb
        obtain ⟨V, e1, e2⟩ := aindexAt_sound (P := cx.P) (w := w) ht hn hv (ev x) (ev ix)
        exact pure_case i hk hkv ⟨V, by simp only [execOp, ho]; exact run_value e1, e2⟩
      · cases hb
    · cases hb
  -- index
  · rename_i t x ix ho
    split at hb
    · rename_i ht
      obtain ⟨v, hv, hk⟩ := Option.bind_eq_some_iff.1 hb
      obtain ⟨V, e1, e2⟩ := aindexStr_sound (P := cx.P) (w := w) ht hv (ev x) (ev ix)
      exact pure_case i hk hkv ⟨V, by simp only [execOp, ho]; exact run_value e1, e2⟩
    · rename_i len e ht
      split at hb
      · rename_i g n hg hn
        obtain ⟨v, hv, hk⟩ := Option.bind_eq_some_iff.1 hb
        obtain ⟨V, e1, e2⟩ := aindexArr_sound (P := cx.P) (w := w) ht hg hn hv (ev x) (ev ix)
        exact pure_case i hk hkv ⟨V, by simp only [execOp, ho]; exact run_value e1, e2⟩
      · cases hb
    · cases hb
  -- extract
  · rename_i x ix ho
    obtain ⟨v, hv, hk⟩ := Option.bind_eq_some_iff.1 hb
    obtain ⟨V, e1, e2⟩ := aextract_sound (P := cx.P) (w := w) hv (ev x)
    exact pure_case i hk hkv ⟨V, by simp only [execOp, ho]; exact run_value e1, e2⟩
  -- panic
  · rename_i x ho
    unfold apanic at hb
    split at hb
    · rename_i t v hv
      have hx := ev x
      rw [hv] at hx
      obtain ⟨W, h1, h2⟩ := hx.iface_inv
      have hrun : (execOp a.eval o).run cx.P w = .halt (.panic (.iface t W)) w := by
        simp only [execOp, ho, h1, Instr.panic]
        rfl
      unfold Oper.wp
      rw [hrun]
      exact hkp _ _ G w _ hb (Ext.refl G h w) i (.iface _ _ _ h2)
    · cases hb
  -- call
  · rename_i c ho
    split at hb
    · rename_i b hcal
      exact builtin_sound ho hcal hb i ev hkv
    · rename_i f hcal
      obtain ⟨⟨g, fi, ca⟩, hv, hk⟩ := Option.bind_eq_some_iff.1 hb
      have hf := ev f
      unfold acallee at hv
      split at hv <;> simp only [Option.some.injEq, Prod.mk.injEq, reduceCtorEq] at hv
      rename_i g' fi' ca' hfv
      obtain ⟨rfl, rfl, rfl⟩ := hv
      rw [hfv] at hf
      obtain ⟨F, C, hF, hlf, hlc, hrf, hrc⟩ := hf.func_inv
      simp only [] at hk
      unfold bindRes at hk
      obtain ⟨⟨res, h'⟩, hcall, hk⟩ := Option.bind_eq_some_iff.1 hk
      -- the arguments
      have hargs0 : RelVs G h (fi' ++ c.args.toList.map (aval cx.A ρ) ++ ca') (F ++ c.args.map a.eval ++ C) := by
        refine ⟨by simp [hlf, hlc], fun j u hu => ?_⟩
        rw [Array.getD_eq_getD_getElem?]
        by_cases h1 : j < fi'.length
        · rw [List.append_assoc, List.getElem?_append_left h1] at hu
          rw [Array.append_assoc, Array.getElem?_append_left (by omega)]
          have := hrf j u hu
          rwa [Array.getD_eq_getD_getElem?] at this
        · by_cases h2 : j < fi'.length + c.args.size
          · rw [List.append_assoc, List.getElem?_append_right (by omega), List.getElem?_append_left (by simp; omega)] at hu
            rw [Array.append_assoc, Array.getElem?_append_right (by omega), Array.getElem?_append_left (by simp; omega)]
            simp only [List.getElem?_map, Option.map_eq_some_iff, Array.getElem?_toList] at hu
            obtain ⟨x, hx, rfl⟩ := hu
            rw [← hlf]
            simp only [Array.getElem?_map, hx, Option.map_some, Option.getD_some]
            exact ev x
          · rw [List.getElem?_append_right (by simp; omega)] at hu
            rw [Array.getElem?_append_right (by simp; omega)]
            have := hrc _ u hu
            rw [Array.getD_eq_getD_getElem?] at this
            simpa [hlf] using this
      have hargs : RelVs G h (argsFor cx.A g' (fi' ++ c.args.toList.map (aval cx.A ρ) ++ ca')) (F ++ c.args.map a.eval ++ C) := by
        unfold argsFor
        cases cx.A.grow g' with
        | true => exact hargs0
        | false =>
          refine ⟨by simpa using hargs0.1, fun j u hu => ?_⟩
          simp only [cond_false, List.getElem?_map, Option.map_eq_some_iff] at hu
          obtain ⟨x, hx, rfl⟩ := hu
          exact untok_rel (hargs0.2 j x hx)
      cases hext : cx.A.ext g' with
      | some ek =>
      simp only [callE, hext] at hcall
      obtain ⟨v, V, hr, hrun, hV⟩ := extC_sound hX hext hcall hargs.1 hargs.2 (w := w)
      cases hr
      have hrun' : (execOp a.eval o).run cx.P w = .ok (.value V) w := by
        simp only [execOp, ho, resolve, hcal, hF, Deferred.ofValue, Sem.run_bind, Sem.run_pure, Result.andThen_ok, invoke]
        exact hrun
      exact wp_val hrun' (hkv v h G w V hk (Ext.refl G h w) i hV)
      | none =>
      simp only [callE, hext] at hcall
      obtain ⟨henter, hcalls⟩ := hK _ _ _ _ _ hcall G w _ i gl hargs
      have hrun : (execOp a.eval o).run cx.P w = .ok (.enter g' (F ++ c.args.map a.eval ++ C)) w := by
        simp only [execOp, ho, resolve, hcal, hF, Deferred.ofValue, Sem.run_bind, Sem.run_pure, Result.andThen_ok, invoke]
        exact henter w
      unfold Oper.wp
      rw [hrun]
      refine Calls.mono hcalls fun e w' hpost => ?_
      obtain ⟨G', x', i', hres⟩ := hpost
      cases res with
      | ret v =>
        obtain ⟨V, rfl, hV⟩ := hres
        exact hkv v h' G' w' V hk x' i' hV
      | pan v =>
        obtain ⟨V, rfl, hV⟩ := hres
        exact hkp v h' G' w' V hk x' i' hV
    · cases hb
  · cases hb

end
end Hk
