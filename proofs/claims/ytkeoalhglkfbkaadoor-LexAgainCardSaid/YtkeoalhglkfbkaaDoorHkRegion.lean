/-
  A REGION: in the order of its text, and in every order that a draw may take.
-/
import Derived.Test.YtkeoalhglkfbkaaDoorHkNat1
import Derived.Orders
set_option linter.unusedVariables false
set_option linter.unusedSimpArgs false
namespace Hk
open Go Go.RowKit

section
variable {cx : Cx} {o : Oper} {ρ ρ' : List AVal} {h h' : Heap} {kv kp : AVal → Heap → Option R} {r : R} {ids : List Nat} {ops : List Oper}

theorem mem_opTmps {t : Tmp} : t ∈ opTmps o ↔ Operand.tmp t ∈ o.op.operands := by
  unfold opTmps
  simp only [List.mem_filterMap, Array.mem_toList_iff]
  constructor
  · rintro ⟨x, hx, he⟩
    cases x <;> simp at he
    subst he; exact hx
  · intro hx; exact ⟨_, hx, rfl⟩

theorem aval_agree {A : Ann} (hag : ∀ t ∈ opTmps o, ρ'.getD t .junk = ρ.getD t .junk) {x : Operand} (hx : x ∈ o.op.operands) : aval A ρ' x = aval A ρ x := by
  cases x with
  | tmp t => exact hag t (mem_opTmps.2 hx)
  | _ => rfl

/-- An operation looks at its operands alone. -/
theorem evalOp_congr {rsv : Option Nat} (hag : ∀ t ∈ opTmps o, ρ'.getD t .junk = ρ.getD t .junk) : evalOp cx o rsv ρ' h kv kp = evalOp cx o rsv ρ h kv kp := by
  have ev : ∀ x ∈ o.op.operands, aval cx.A ρ' x = aval cx.A ρ x := fun x hx => aval_agree hag hx
  unfold evalOp
  generalize aval cx.A ρ' = v' at *
  generalize aval cx.A ρ = v at *
  clear hag
  have mapP : ∀ (parts : Array (Nat × Operand)), (∀ p ∈ parts, p.2 ∈ o.op.operands) → (parts.toList.map fun p => (p.1, v' p.2)) = parts.toList.map fun p => (p.1, v p.2) := by
    intro parts hp
    refine List.map_congr_left fun p hm => ?_
    rw [ev p.2 (hp p (by simpa using hm))]
  have mapA : ∀ (xs : Array Operand), (∀ x ∈ xs, x ∈ o.op.operands) → xs.toList.map v' = xs.toList.map v := by
    intro xs hp
    exact List.map_congr_left fun p hm => ev p (hp p (by simpa using hm))
  unfold evalOpV
  cases ho : o.op with
  | call c =>
    simp only [ho, Op.operands, Call.operands] at ev mapA
    cases hc : c.callee with
    | builtin b => simp only [hc] at ev mapA ⊢; rw [mapA c.args (by simp)]
    | value f => simp only [hc] at ev mapA ⊢; rw [mapA c.args (by intro x hx; simp [hx]), ev f (by simp)]
    | _ => simp only [hc]
  | build t parts => simp only [ho, Op.operands] at mapP ⊢; rw [mapP parts (by intro p hp; simp; exact ⟨_, hp⟩)]
  | buildSlice t len parts => simp only [ho, Op.operands] at mapP ⊢; rw [mapP parts (by intro p hp; simp; exact ⟨_, hp⟩)]
  | slice t x lo hi mx =>
    have e1 := ev x (by simp [ho, Op.operands])
    have e2 : lo.map v' = lo.map v := by cases lo with | none => rfl | some l => simp [ev l (by simp [ho, Op.operands])]
    have e3 : hi.map v' = hi.map v := by cases hi with | none => rfl | some l => simp [ev l (by simp [ho, Op.operands])]
    cases mx with
    | none => simp only [e1, e2, e3]
    | some m => rfl
  | makeMap t hint => cases hint <;> rfl
  | makeFunc b first cap =>
    simp only [ho, Op.operands] at mapA
    cases b <;> first | rfl | simp only [mapA cap (by intro x hx; simp [hx]), mapA first (by intro x hx; simp [hx])]
  | _ => simp only [ho, Op.operands] at ev ⊢ <;> simp_all

def isBlk (h : Heap) (id : Nat) : Prop := (∃ cs, h[id]? = some (.cells cs)) ∨ ∃ es, h[id]? = some (.map es)
def readId (cx : Cx) (o : Oper) (ρ : List AVal) : Option Nat := (isRead o).bind fun x => addrId (aval cx.A ρ x)

theorem aload_at {g : Bool} {n : Nat} {x v : AVal} (hv : aload g n h x = some v) (h2 : Heap) (ha : ∀ id, addrId x = some id → isBlk h id → h2[id]? = h[id]?) : aload g n h2 x = some v := by
  cases x with
  | pptr cs => exact hv
  | ptr id off =>
    simp only [aload] at hv ⊢
    have : getBlk h2 id = getBlk h id := by
      unfold getBlk
      cases hb : h[id]? with
      | none => simp [getBlk, hb] at hv
      | some bl => cases bl with
        | cells cs => rw [ha id rfl (.inl ⟨cs, hb⟩), hb]
        | _ => simp [getBlk, hb] at hv
    rw [this]; exact hv
  | _ => simp [aload] at hv

/-- An operation that is no effect: a value, and the heap as it was. -/
theorem light_op (he : isEff o = false) (hb : evalOp cx o none ρ h kv kp = some r) :
    ∃ v, kv v h = some r ∧ ∀ (h2 : Heap) (kv2 kp2 : AVal → Heap → Option R), (∀ id, readId cx o ρ = some id → isBlk h id → h2[id]? = h[id]?) → evalOp cx o none ρ h2 kv2 kp2 = kv2 v h2 := by
  have key : ∀ {e : Option AVal}, (e.bind fun w => kv w h) = some r → (∀ h2 kv2 kp2, evalOp cx o none ρ h2 kv2 kp2 = e.bind fun w => kv2 w h2) →
      ∃ v, kv v h = some r ∧ ∀ (h2 : Heap) (kv2 kp2 : AVal → Heap → Option R), (∀ id, readId cx o ρ = some id → isBlk h id → h2[id]? = h[id]?) → evalOp cx o none ρ h2 kv2 kp2 = kv2 v h2 := by
    intro e h1 h2
    obtain ⟨v, hv, hk⟩ := Option.bind_eq_some_iff.1 h1
    exact ⟨v, hk, fun a b c _ => by rw [h2, hv]; rfl⟩
  have key0 : ∀ {v : AVal}, kv v h = some r → (∀ h2 kv2 kp2, evalOp cx o none ρ h2 kv2 kp2 = kv2 v h2) →
      ∃ v, kv v h = some r ∧ ∀ (h2 : Heap) (kv2 kp2 : AVal → Heap → Option R), (∀ id, readId cx o ρ = some id → isBlk h id → h2[id]? = h[id]?) → evalOp cx o none ρ h2 kv2 kp2 = kv2 v h2 :=
    fun h1 h2 => ⟨_, h1, fun a b c _ => h2 a b c⟩
  unfold evalOp evalOpV at hb
  cases ho : o.op with
  | load t a =>
    simp only [ho] at hb
    split at hb
    · rename_i g n hg hn
      obtain ⟨v, hv, hk⟩ := Option.bind_eq_some_iff.1 hb
      refine ⟨v, hk, fun h2 kv2 kp2 ha => ?_⟩
      have := aload_at hv h2 fun id hid hblk => ha id (by simp [readId, isRead, ho, hid]) hblk
      simp only [evalOp, evalOpV, ho, hg, hn, this, Option.bind_some]
    · cases hb
  | lookup t m k ok =>
    simp only [ho] at hb
    split at hb
    · rename_i kt e hu
      split at hb
      · rename_i d z hd hz
        cases hf : akeyFor d (aval cx.A ρ k) with
        | false => rw [hf] at hb; cases hb
        | true =>
          rw [hf] at hb
          obtain ⟨v, hv, hk⟩ := Option.bind_eq_some_iff.1 hb
          refine ⟨v, hk, fun h2 kv2 kp2 ha => ?_⟩
          have : alookup z ok h2 (aval cx.A ρ m) (aval cx.A ρ k) = some v := by
            rw [← hv]
            unfold alookup
            have hg : getMap h2 (aval cx.A ρ m) = getMap h (aval cx.A ρ m) := by
              generalize hm : aval cx.A ρ m = x at hv
              cases x with
              | map id =>
                simp only [getMap]
                cases hb : h[id]? with
                | none => simp [alookup, getMap, hb] at hv
                | some bl => cases bl with
                  | map es => rw [ha id (by simp [readId, isRead, ho, hm, addrId]) (.inr ⟨es, hb⟩), hb]
                  | _ => simp [alookup, getMap, hb] at hv
              | _ => rfl
            rw [hg]
          simp only [evalOp, evalOpV, ho, hu, hd, hz, hf, cond_true, this, Option.bind_some]
      · cases hb
    · cases hb
  | call c =>
    simp only [isEff, ho] at he
    simp only [ho] at hb
    cases hc : c.callee with
    | builtin b =>
      simp only [hc] at hb he
      unfold builtinOp at hb
      split at hb
      · rename_i t x hT hA
        split at hb
        · rename_i ht; exact key0 hb fun _ _ _ => by simp only [evalOp, evalOpV, ho, hc, builtinOp, hT, hA, ht]
        · rename_i ht; exact key hb fun _ _ _ => by simp only [evalOp, evalOpV, ho, hc, builtinOp, hT, hA, ht]
        · rename_i ht; exact key hb fun _ _ _ => by simp only [evalOp, evalOpV, ho, hc, builtinOp, hT, hA, ht]
        · cases hb
      · rename_i hA; exact key hb fun _ _ _ => by simp only [evalOp, evalOpV, ho, hc, builtinOp, hA]
      · rename_i hA; exact key hb fun _ _ _ => by simp only [evalOp, evalOpV, ho, hc, builtinOp, hA]
      · simp at he
      · cases hb
    | value f => simp [hc] at he
    | _ => simp [hc] at he
  | binOp op t x y yt =>
    simp only [ho] at hb
    split at hb
    · rename_i fs hu
      split at hb
      · rename_i ks hks
        obtain ⟨v, hv, hk⟩ := Option.bind_eq_some_iff.1 hb
        exact ⟨_, hk, fun a b c _ => by simp [evalOp, evalOpV, ho, hu, hks, hv]⟩
      · cases hb
    · rename_i fs hu
      split at hb
      · rename_i ks hks
        obtain ⟨v, hv, hk⟩ := Option.bind_eq_some_iff.1 hb
        exact ⟨_, hk, fun a b c _ => by simp [evalOp, evalOpV, ho, hu, hks, hv]⟩
      · cases hb
    all_goals first
      | exact key hb fun _ _ _ => by simp [evalOp, evalOpV, *]
      | cases hb
  | assign x =>
    simp only [ho, isEff] at he hb
    simp only [he, cond_false] at hb
    exact key0 hb fun _ _ _ => by simp only [evalOp, evalOpV, ho, he, cond_false]
  | makeInterface t x =>
    simp only [ho] at hb
    split at hb
    · cases hb
    · exact key0 hb fun _ _ _ => by simp [evalOp, evalOpV, *]
    · cases hb
  | makeFunc b first cap =>
    cases b <;> simp only [ho] at hb <;> first
      | exact key0 hb fun _ _ _ => by simp only [evalOp, evalOpV, ho]
      | cases hb
  | slice t x lo hi mx =>
    cases mx with
    | some m => simp only [ho] at hb; cases hb
    | none =>
      simp only [ho] at hb
      split at hb
      · exact key hb fun _ _ _ => by simp [evalOp, evalOpV, *]
      · split at hb
        · exact key hb fun _ _ _ => by simp [evalOp, evalOpV, *]
        · cases hb
      · cases hb
  | move x =>
    simp only [ho] at hb
    exact key0 hb fun _ _ _ => by simp only [evalOp, evalOpV, ho]
  | fieldAddr t x f =>
    simp only [ho] at hb
    split at hb
    · split at hb
      · split at hb
        · exact key hb fun _ _ _ => by simp [evalOp, evalOpV, *]
        · cases hb
      · cases hb
    · cases hb
  | field t x f =>
    simp only [ho] at hb
    split at hb
    · split at hb
      · split at hb
        · exact key hb fun _ _ _ => by simp [evalOp, evalOpV, *]
        · cases hb
      · cases hb
    · cases hb
  | indexAddr t x i =>
    simp only [ho] at hb
    split at hb
    · split at hb
      · exact key hb fun _ _ _ => by simp [evalOp, evalOpV, *]
      · cases hb
    · split at hb
      · exact key hb fun _ _ _ => by simp [evalOp, evalOpV, *]
      · cases hb
    · cases hb
  | index t x i =>
    simp only [ho] at hb
    split at hb
    · exact key hb fun _ _ _ => by simp [evalOp, evalOpV, *]
    · split at hb
      · exact key hb fun _ _ _ => by simp [evalOp, evalOpV, *]
      · cases hb
    · cases hb
  | convert t t' x =>
    simp only [ho] at hb
    split at hb
    · exact key hb fun _ _ _ => by simp [evalOp, evalOpV, *]
    · split at hb
      · exact key hb fun _ _ _ => by simp [evalOp, evalOpV, *]
      · cases hb
    · cases hb
  | build t parts =>
    simp only [ho] at hb
    have kb : ∀ {j : Bool} {e : Option AVal}, (bif j then none else e.bind fun w => kv w h) = some r → (∀ h2 kv2 kp2, evalOp cx o none ρ h2 kv2 kp2 = bif j then none else e.bind fun w => kv2 w h2) →
        ∃ v, kv v h = some r ∧ ∀ (h2 : Heap) (kv2 kp2 : AVal → Heap → Option R), (∀ id, readId cx o ρ = some id → isBlk h id → h2[id]? = h[id]?) → evalOp cx o none ρ h2 kv2 kp2 = kv2 v h2 := by
      intro j e h1 h2
      cases j with
      | true => cases h1
      | false => exact key h1 h2
    split at hb
    · split at hb
      · exact kb hb fun _ _ _ => by simp only [evalOp, evalOpV, *]
      · cases hb
    · split at hb
      · exact kb hb fun _ _ _ => by simp only [evalOp, evalOpV, *]
      · cases hb
    · cases hb
  | _ =>
    simp only [ho, isEff] at he
    simp only [ho] at hb
    first
      | exact key hb fun _ _ _ => by simp only [evalOp, evalOpV, ho]
      | cases hb
      | (simp at he; done)

/-! ### Items -/

theorem mem_looksL {t : Tmp} : t ∈ looksL ops o ↔ t ∈ opTmps o ∨ gTmp ops o = some t := by simp [looksL, eq_comm]

theorem evalLocked_congr (hag : ∀ t ∈ opTmps o, ρ'.getD t .junk = ρ.getD t .junk) : evalLocked cx o ids ρ' h kv kp = evalLocked cx o ids ρ h kv kp := evalOp_congr hag

theorem evalItem_congr (hag : ∀ t ∈ looksL ops o, ρ'.getD t .junk = ρ.getD t .junk) : evalItem cx ops o ids ρ' h kv kp = evalItem cx ops o ids ρ h kv kp := by
  have h1 : evalLocked cx o ids ρ' h kv kp = evalLocked cx o ids ρ h kv kp := evalLocked_congr fun t ht => hag t (mem_looksL.2 (.inl ht))
  simp only [evalItem_eq]
  unfold evalItemC
  cases hg : o.guard with
  | none => exact h1
  | some jw =>
    obtain ⟨j, want⟩ := jw
    simp only []
    cases hd : (ops[j]?).bind (·.dst) with
    | none => rfl
    | some d =>
      simp only []
      rw [hag d (mem_looksL.2 (.inr (by simp [gTmp, hg, hd]))), h1]

theorem light_item (he : isEff o = false) (hb : evalItem cx ops o [] ρ h kv kp = some r) :
    ∃ v, kv v h = some r ∧ ∀ (h2 : Heap) (kv2 kp2 : AVal → Heap → Option R), (∀ id, readId cx o ρ = some id → isBlk h id → h2[id]? = h[id]?) → evalItem cx ops o [] ρ h2 kv2 kp2 = kv2 v h2 := by
  have key : ∀ (hb : evalLocked cx o [] ρ h kv kp = some r),
      ∃ v, kv v h = some r ∧ ∀ (h2 : Heap) (kv2 kp2 : AVal → Heap → Option R), (∀ id, readId cx o ρ = some id → isBlk h id → h2[id]? = h[id]?) → evalLocked cx o [] ρ h2 kv2 kp2 = kv2 v h2 := by
    intro hb
    obtain ⟨v, h1, h2⟩ := light_op he hb
    exact ⟨v, h1, fun h3 kv2 kp2 ha => h2 h3 _ _ ha⟩
  simp only [evalItem_eq] at hb ⊢
  unfold evalItemC at hb ⊢
  cases hg : o.guard with
  | none => simp only [hg] at hb ⊢; exact key hb
  | some jw =>
    obtain ⟨j, want⟩ := jw
    simp only [hg] at hb ⊢
    cases hd : (ops[j]?).bind (·.dst) with
    | none => simp only [hd] at hb; cases hb
    | some d =>
      simp only [hd] at hb ⊢
      generalize ρ.getD d .junk = x at hb ⊢
      split at hb
      · rename_i g
        cases want <;> cases g <;> simp only [cond_true, cond_false] at hb ⊢
        · exact key hb
        · exact ⟨_, hb, fun _ _ _ _ => rfl⟩
        · exact ⟨_, hb, fun _ _ _ _ => rfl⟩
        · exact key hb
      · exact ⟨_, hb, fun _ _ _ _ => rfl⟩
      · cases hb

/-! ### Putting -/

theorem getD_putSlot {dst : Option Tmp} {v : AVal} {t : Tmp} (hne : ∀ d, dst = some d → d ≠ t) : (putSlot ρ dst v).getD t .junk = ρ.getD t .junk := by
  cases dst with
  | none => rfl
  | some d => simp [putSlot, List.getD_eq_getElem?_getD, List.getElem?_set, hne d rfl]

theorem putSlot_comm {x y : Option Tmp} {u v : AVal} (hne : ∀ d, x = some d → y ≠ some d) : putSlot (putSlot ρ x u) y v = putSlot (putSlot ρ y v) x u := by
  cases x with
  | none => rfl
  | some d => cases y with
    | none => rfl
    | some e => exact List.set_comm _ _ (fun he => hne d rfl (by rw [he]))

theorem offL_spec {d : Option Tmp} {ts : List Tmp} (hd : offL d ts = true) : ∀ t ∈ ts, ∀ e, d = some e → e ≠ t := by
  rintro t ht e rfl rfl
  simp [offL] at hd
  exact hd ht

theorem apartL_spec {x y : Oper} (ha : apartL ops x y = true) :
    (∀ t ∈ looksL ops y, ∀ d, x.dst = some d → d ≠ t) ∧ (∀ t ∈ looksL ops x, ∀ d, y.dst = some d → d ≠ t) ∧ (∀ d, x.dst = some d → y.dst ≠ some d) := by
  simp only [apartL, Bool.and_eq_true] at ha
  refine ⟨offL_spec ha.1.1, offL_spec ha.1.2, fun d hd he => ?_⟩
  exact offL_spec ha.2 d (by simp [he]) d hd rfl

/-! ### A ready item goes ahead -/

/-- What the heap after an item keeps of the heap ahead of it. -/
def Keep (o : Oper) (ids : List Nat) (h h' : Heap) : Prop := (isEff o = false → h' = h) ∧ ∀ id ∈ ids, isBlk h id → h'[id]? = h[id]?

theorem seenAt_congr (hag : ∀ t ∈ opTmps o, ρ'.getD t .junk = ρ.getD t .junk) : seenAt cx.A o ρ' = seenAt cx.A o ρ := by
  unfold seenAt
  cases hr : isRead o with
  | none => rfl
  | some x =>
    refine aval_agree hag ?_
    unfold isRead at hr
    split at hr
    · rename_i ho; cases hr; simp [ho, Op.operands]
    · rename_i ho; cases hr; simp [ho, Op.operands]
    · cases hr

theorem readId_congr (hag : ∀ t ∈ opTmps o, ρ'.getD t .junk = ρ.getD t .junk) : readId cx o ρ' = readId cx o ρ := by
  have := seenAt_congr (cx := cx) hag
  unfold readId seenAt at *
  cases hr : isRead o with
  | none => rfl
  | some x => simp only [hr] at this; simp [this]

theorem move {k : List AVal → Heap → Option R} (it : Item) (post : List Item) : ∀ (pre : List Item) (seen ρ : List AVal) (h : Heap),
    (∀ p ∈ pre, indep ops p it = true ∧ p.i ≠ it.i ∧ p.i < seen.length) → (pre.map (·.i)).Nodup →
    evalItems cx ops (pre ++ it :: post) seen ρ h k kp = some r →
    ∃ ids kv, evalItem cx ops it.o ids ρ h kv kp = some r ∧ (∀ j ∈ it.locks, (∀ p ∈ pre, p.i ≠ j) → ∀ id, addrId (seen.getD j .junk) = some id → id ∈ ids) ∧ (isEff it.o = false → it.locks = [] → ids = []) ∧
      ∀ v h', Keep it.o ids h h' → kv v h' = some r → evalItems cx ops (pre ++ post) (seen.set it.i (seenAt cx.A it.o ρ)) (putSlot ρ it.o.dst v) h' k kp = some r := by
  intro pre
  induction pre with
  | nil =>
    intro seen ρ h _ _ hb
    refine ⟨_, _, hb, fun j hj _ id hid => ?_, fun _ he => by simp [lockIds, he], fun v h' _ hk => hk⟩
    exact List.mem_filterMap.2 ⟨j, hj, hid⟩
  | cons p pre ih =>
    intro seen ρ h hpre hnd hb
    obtain ⟨hind, hne, hlt⟩ := hpre p (by simp)
    simp only [indep, Bool.and_eq_true, Bool.not_eq_true', Bool.or_eq_true, List.isEmpty_iff] at hind
    obtain ⟨⟨⟨hpe, hpl⟩, hap⟩, hlock⟩ := hind
    obtain ⟨ha1, ha2, ha3⟩ := apartL_spec hap
    simp only [List.cons_append, evalItems, hpl, lockIds, List.filterMap_nil] at hb
    obtain ⟨vp, hnext, hlight⟩ := light_item hpe hb
    simp only [List.map_cons, List.nodup_cons] at hnd
    obtain ⟨ids, kv, e1, e2, e3, e4⟩ := ih _ _ _ (fun q hq => by
      have := hpre q (by simp [hq])
      exact ⟨this.1, this.2.1, by simpa using this.2.2⟩) hnd.2 hnext
    have agI : ∀ t ∈ looksL ops it.o, (putSlot ρ p.o.dst vp).getD t .junk = ρ.getD t .junk := fun t ht => getD_putSlot (ha1 t ht)
    have agO : ∀ t ∈ opTmps it.o, (putSlot ρ p.o.dst vp).getD t .junk = ρ.getD t .junk := fun t ht => agI t (mem_looksL.2 (.inl ht))
    refine ⟨ids, kv, (evalItem_congr agI).symm.trans e1, fun j hj hno id hid => ?_, e3, fun v h' hkeep hk => ?_⟩
    · refine e2 j hj (fun q hq => hno q (by simp [hq])) id ?_
      have : p.i ≠ j := hno p (by simp)
      simpa [List.getD_eq_getElem?_getD, List.getElem?_set, this] using hid
    · have e5 := e4 v h' hkeep hk
      simp only [List.cons_append, evalItems, hpl, lockIds, List.filterMap_nil]
      have agP : ∀ t ∈ looksL ops p.o, (putSlot ρ it.o.dst v).getD t .junk = ρ.getD t .junk := fun t ht => getD_putSlot (ha2 t ht)
      have agPO : ∀ t ∈ opTmps p.o, (putSlot ρ it.o.dst v).getD t .junk = ρ.getD t .junk := fun t ht => agP t (mem_looksL.2 (.inl ht))
      rw [evalItem_congr agP, hlight h' _ _ fun id hid hblk => ?_]
      · rw [seenAt_congr agPO, putSlot_comm (ρ := ρ) (x := it.o.dst) (y := p.o.dst) (fun d h1 h2 => ha3 d h2 h1), List.set_comm _ _ (Ne.symm hne), ← seenAt_congr agO]
        exact e5
      · cases hie : isEff it.o with
        | false => rw [hkeep.1 hie]
        | true =>
          refine hkeep.2 id ?_ hblk
          have hrd : (isRead p.o).isSome = true := by
            unfold readId at hid
            cases hr : isRead p.o with
            | none => simp [hr] at hid
            | some x => rfl
          have hmem : p.i ∈ it.locks := by
            rcases hlock with (h1 | h1) | h1
            · simp [hrd] at h1
            · simp [hie] at h1
            · simpa using h1
          refine e2 p.i hmem (fun q hq he => hnd.1 (List.mem_map.2 ⟨q, hq, he⟩)) id ?_
          have : (seen.set p.i (seenAt cx.A p.o ρ)).getD p.i .junk = seenAt cx.A p.o ρ := by simp [List.getD_eq_getElem?_getD, hlt]
          rw [this]
          unfold readId at hid
          unfold seenAt
          cases hr : isRead p.o with
          | none => simp [hr] at hid
          | some x => simpa [hr] using hid

end
end Hk
