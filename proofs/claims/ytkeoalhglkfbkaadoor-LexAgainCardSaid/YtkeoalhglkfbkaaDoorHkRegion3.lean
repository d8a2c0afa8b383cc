/-
  ITEMS, AND THE TWO KINDS OF REGION.
-/
import Derived.Test.YtkeoalhglkfbkaaDoorHkRegion2
set_option linter.unusedVariables false
set_option linter.unusedSimpArgs false
namespace Hk
open Go Go.RowKit

section
variable {cx : Cx} {o : Oper} {ρ : List AVal} {h : Heap} {kv kp : AVal → Heap → Option R} {r : R} {ids : List Nat} {ops : Array Oper} {G : Gh} {w : World} {a : Act} {Q : Exit → Act → World → Prop} {K : Act → World → Prop}

theorem evalLocked_sound (hX : ExtOk cx.P cx.A) (hK : SoundK cx.P cx.A cx.K) (hb : evalLocked cx o ids ρ h kv kp = some r) (i : Inv G h w) (gl : GlobOk cx.A G.H) (s : Slots G h ρ a)
    (hkv : ∀ v h' G' w' V, kv v h' = some r → Ext G h w G' h' w' → Inv G' h' w' → RelV G' h' v V → (∀ id ∈ ids, isBlk h id → h'[id]? = h[id]?) → K (a.put o.dst V) w')
    (hkp : KpOk kp r G h w a Q) : o.wp cx.P a w K Q := by
  refine evalOp_sound hX hK none hb (i.hide ids) gl ⟨s.len, fun j v hv => (s.rel j v hv).sub (hide_sub ids h), s.df⟩ ?_ ?_
  · intro v h' G' w' V hk x i' rv
    obtain ⟨x2, i2, sb, kp2⟩ := unhide_ok i x i'
    exact hkv v _ G' w' V hk x2 i2 (rv.sub sb) kp2
  · intro v h' G' w' V hk x i' rv
    obtain ⟨x2, i2, sb, kp2⟩ := unhide_ok i x i'
    exact hkp v _ G' w' V hk x2 i2 (rv.sub sb)

theorem yielded_bool {j d : Nat} {g : Bool} (hd : (ops.toList[j]?).bind (·.dst) = some d) (s : Slots G h ρ a) (hg : ρ.getD d .junk = .bool g) : yielded ops a.tmps j = some g := by
  have h1 := s.get d
  rw [hg] at h1
  have h2 := h1.bool_inv
  have h3 : a.tmps[d]? = some (.bool g) := by
    rw [Array.getD_eq_getD_getElem?] at h2
    cases h4 : a.tmps[d]? with
    | none => rw [h4] at h2; cases h2
    | some v => rw [h4] at h2; simp at h2; rw [h2]
  rw [Array.getElem?_toList] at hd
  simp [yielded, hd, h3]

theorem yielded_none {j d : Nat} (hd : (ops.toList[j]?).bind (·.dst) = some d) (s : Slots G h ρ a) (hg : ρ.getD d .junk = .tuple []) : yielded ops a.tmps j = none := by
  have h1 := s.get d
  rw [hg] at h1
  have h2 := h1.tuple0_inv
  rw [Array.getElem?_toList] at hd
  unfold yielded
  rw [hd]
  simp only [Option.bind_some]
  rw [Array.getD_eq_getD_getElem?] at h2
  cases h4 : a.tmps[d]? with
  | none => rfl
  | some v => rw [h4] at h2; simp at h2; rw [h2]; rfl

theorem evalItem_sound0 {n : Nat} (hX : ExtOk cx.P cx.A) (hK : SoundK cx.P cx.A cx.K) (hn : ops[n]? = some o) (hb : evalItem cx ops.toList o ids ρ h kv kp = some r) (i : Inv G h w) (gl : GlobOk cx.A G.H) (s : Slots G h ρ a)
    (hkv : ∀ v h' G' w' V, kv v h' = some r → Ext G h w G' h' w' → Inv G' h' w' → RelV G' h' v V → (∀ id ∈ ids, isBlk h id → h'[id]? = h[id]?) → K (a.put o.dst V) w')
    (hkp : KpOk kp r G h w a Q) : wpOp cx.P ops Q n K a w := by
  unfold wpOp
  simp only [hn]
  have skip : kv (.tuple []) h = some r → K (a.put o.dst undef) w := fun hk =>
    hkv _ h G w _ hk (Ext.refl G h w) i (.p _ _ (.tuple [] #[] rfl (by simp))) fun _ _ _ => rfl
  have run : evalLocked cx o ids ρ h kv kp = some r → o.wp cx.P a w K Q := fun hb => evalLocked_sound hX hK hb i gl s hkv hkp
  rw [evalItem_eq] at hb
  unfold evalItemC at hb
  cases hg : o.guard with
  | none =>
    simp only [hg] at hb
    rw [if_pos (by simp [Region.wanted, hg])]
    exact .inl (run hb)
  | some jw =>
    obtain ⟨j, want⟩ := jw
    simp only [hg] at hb
    cases hd : (ops.toList[j]?).bind (·.dst) with
    | none => simp only [hd] at hb; cases hb
    | some d =>
      simp only [hd] at hb
      split at hb
      · rename_i g hgv
        have hy := yielded_bool hd s hgv
        cases want <;> cases g <;> simp only [cond_true, cond_false] at hb
        · rw [if_pos (by simp [Region.wanted, hg, hy])]; exact .inl (run hb)
        · rw [if_neg (by simp [Region.wanted, hg, hy])]; exact skip hb
        · rw [if_neg (by simp [Region.wanted, hg, hy])]; exact skip hb
        · rw [if_pos (by simp [Region.wanted, hg, hy])]; exact .inl (run hb)
      · rename_i hgv
        have hy := yielded_none hd s hgv
        rw [if_neg (by simp [Region.wanted, hg, hy])]; exact skip hb
      · cases hb

open Classical in
theorem evalItem_sound {n : Nat} (hX : ExtOk cx.P cx.A) (hK : SoundK cx.P cx.A cx.K) (hn : ops[n]? = some o) (hb : evalItem cx ops.toList o ids ρ h kv kp = some r) (hids : isEff o = false → ids = []) (i : Inv G h w) (gl : GlobOk cx.A G.H) (s : Slots G h ρ a)
    (hkv : ∀ v h' G' w' V, kv v h' = some r → Ext G h w G' h' w' → Inv G' h' w' → RelV G' h' v V → Keep o ids h h' → K (a.put o.dst V) w')
    (hkp : KpOk kp r G h w a Q) : wpOp cx.P ops Q n K a w := by
  cases he : isEff o with
  | true => exact evalItem_sound0 hX hK hn hb i gl s (fun v h' G' w' V h1 h2 h3 h4 h5 => hkv v h' G' w' V h1 h2 h3 h4 ⟨fun h => (by rw [he] at h; cases h), h5⟩) hkp
  | false =>
    cases hids he
    obtain ⟨v0, h1, h2⟩ := light_item he hb
    have h3 := h2 h (fun v h' => if v = v0 ∧ h' = h then some r else none) (fun _ _ => none) fun _ _ _ => rfl
    simp only [and_self, if_true] at h3
    refine evalItem_sound0 hX hK hn h3 i gl s (fun v h' G' w' V h4 h5 h6 h7 h8 => ?_) (fun v h' G' w' V h4 => by cases h4)
    split at h4
    · rename_i hvh
      obtain ⟨rfl, rfl⟩ := hvh
      exact hkv _ _ G' w' V h1 h5 h6 h7 ⟨fun _ => rfl, h8⟩
    · cases h4

/-! ### In the order of the text -/

theorem items_plain {k : List AVal → Heap → Option R} (hX : ExtOk cx.P cx.A) (hK : SoundK cx.P cx.A cx.K) : ∀ (items : List Item) (seen ρ : List AVal) (h : Heap) (G : Gh) (w : World) (a : Act),
    (∀ it ∈ items, ops[it.i]? = some it.o ∧ it.locks = []) → evalItems cx ops.toList items seen ρ h k kp = some r → Inv G h w → GlobOk cx.A G.H → Slots G h ρ a →
    (∀ ρ' h' G' w' a', k ρ' h' = some r → Ext G h w G' h' w' → Inv G' h' w' → Slots G' h' ρ' a' → Q .normal a' w') →
    (∀ v h' G' w' V a', kp v h' = some r → Ext G h w G' h' w' → Inv G' h' w' → RelV G' h' v V → a'.defers = [] → Q (.panic [{ v := V, recovered := false }]) a' w') →
    wpOps cx.P ops Q (items.map (·.i)) a w := by
  intro items
  induction items with
  | nil => intro seen ρ h G w a _ hb i gl s hk _; exact hk _ _ G w a hb (Ext.refl G h w) i s
  | cons it rest ih =>
    intro seen ρ h G w a hit hb i gl s hk hkp
    obtain ⟨h1, h2⟩ := hit it (by simp)
    simp only [evalItems, h2, lockIds, List.filterMap_nil] at hb
    rw [List.map_cons, wpOps_cons]
    refine evalItem_sound0 hX hK h1 hb i gl s (fun v h' G' w' V e1 e2 e3 e4 _ => ?_) (fun v h' G' w' V e1 e2 e3 e4 => hkp v h' G' w' V a e1 e2 e3 e4 s.df)
    exact ih _ _ _ G' w' _ (fun x hx => hit x (by simp [hx])) e1 e3 (gl.mono e2.hmono) ((s.mono e2.toMono).put it.o.dst e4)
      (fun ρ' h'' G'' w'' a' f1 f2 f3 f4 => hk ρ' h'' G'' w'' a' f1 (e2.trans f2) f3 f4)
      (fun v h'' G'' w'' V a' f1 f2 f3 f4 f5 => hkp v h'' G'' w'' V a' f1 (e2.trans f2) f3 f4 f5)

theorem plainItems_spec : (plainItems ops.toList).map (·.i) = List.range ops.size ∧ ∀ it ∈ plainItems ops.toList, ops[it.i]? = some it.o ∧ it.locks = [] := by
  constructor
  · apply List.ext_getElem?
    intro j
    simp only [plainItems, List.map_map, List.getElem?_map, List.getElem?_zipIdx, List.getElem?_range', Array.getElem?_toList]
    by_cases hj : j < ops.size
    · simp [hj]
    · simp [hj]
  · intro it hit
    simp only [plainItems, List.mem_map] at hit
    obtain ⟨⟨o, i⟩, h1, rfl⟩ := hit
    have := List.mem_zipIdx_iff_getElem?.1 h1
    simp only [Array.getElem?_toList] at this
    exact ⟨this, rfl⟩

/-! ### In every order -/

/-- The edges of a region, and what hangs on what. -/
def Edges (ops : Array Oper) (listed : Array Bool) (i : Nat) : Prop := ∀ o, ops[i]? = some o → ∀ e ∈ o.after, Region.binds .any e = true → listed.getD e.on false = true

theorem testBit_bitOf {t p : Nat} : (bitOf t).testBit p = decide (t = p) := by
  unfold bitOf
  rw [Nat.one_shiftLeft, Nat.testBit_two_pow]

theorem clos_fold {P : Nat → Prop} (acc : List Nat) : ∀ (es : List Edge) (m : Nat), (∀ p, m.testBit p = true → P p) →
    (∀ e ∈ es, Region.binds .any e = true → P e.on ∧ ∀ p, (acc.getD e.on 0).testBit p = true → P p) →
    ∀ p, (es.foldl (fun m e => bif Region.binds .any e then m ||| bitOf e.on ||| acc.getD e.on 0 else m) m).testBit p = true → P p := by
  intro es
  induction es with
  | nil => intro m hm _ p hp; exact hm p hp
  | cons e es ih =>
    intro m hm he p hp
    refine ih _ (fun q hq => ?_) (fun x hx => he x (by simp [hx])) p hp
    cases hbd : Region.binds .any e with
    | false => simp only [hbd, cond_false] at hq; exact hm q hq
    | true =>
      simp only [hbd, cond_true, Nat.testBit_or, Bool.or_eq_true, testBit_bitOf, decide_eq_true_eq] at hq
      obtain ⟨h1, h2⟩ := he e (by simp) hbd
      rcases hq with (hq | hq) | hq
      · exact hm q hq
      · exact hq ▸ h1
      · exact h2 q hq

theorem closFrom_spec {listed : Array Bool} (hdc : ∀ i, listed.getD i false = true → Edges ops listed i) : ∀ (rest : List Oper) (pre : List Oper) (acc : List Nat), pre ++ rest = ops.toList → acc.length = pre.length →
    (∀ q, Edges ops listed q → ∀ p, (acc.getD q 0).testBit p = true → listed.getD p false = true) →
    ∀ q, Edges ops listed q → ∀ p, ((closFrom rest acc).getD q 0).testBit p = true → listed.getD p false = true := by
  intro rest
  induction rest with
  | nil => intro pre acc _ _ h; exact h
  | cons o rest ih =>
    intro pre acc hpre hlen h
    refine ih (pre ++ [o]) _ (by simpa using hpre) (by simp [hlen]) fun q hq p hp => ?_
    have ho : ops[pre.length]? = some o := by
      rw [← Array.getElem?_toList, ← hpre]; simp
    rw [List.getD_eq_getElem?_getD, List.getElem?_append] at hp
    split at hp
    · rename_i hlt
      exact h q hq p (by rw [List.getD_eq_getElem?_getD]; exact hp)
    · rename_i hge
      by_cases he : q = acc.length
      · subst he
        simp only [Nat.sub_self, List.getElem?_cons_zero, Option.getD_some] at hp
        refine clos_fold (P := fun p => listed.getD p false = true) acc _ _ (by simp) (fun e hm hbd => ?_) p hp
        have h1 := hq o (by rw [hlen]; exact ho) e (by simpa using hm) hbd
        exact ⟨h1, h e.on (hdc e.on h1)⟩
      · have : q - acc.length = (q - acc.length - 1) + 1 := by omega
        rw [this] at hp
        simp at hp

theorem clos_spec {listed : Array Bool} (hdc : ∀ i, listed.getD i false = true → Edges ops listed i) {q p : Nat} (hq : Edges ops listed q) (hp : ((clos ops.toList).getD q 0).testBit p = true) : listed.getD p false = true :=
  closFrom_spec hdc ops.toList [] [] rfl rfl (by simp) q hq p hp

theorem pairsOk_iff {os : List Oper} {cl : List Nat} : ∀ {L : List Item}, pairsOk os cl L = true ↔ L.Pairwise fun p q => pairOk os cl p q = true
  | [] => by simp [pairsOk]
  | p :: r => by simp [pairsOk, pairsOk_iff (L := r)]

theorem wpAny_items {k : List AVal → Heap → Option R} (hX : ExtOk cx.P cx.A) (hK : SoundK cx.P cx.A cx.K) (hedges : ∀ i o, ops[i]? = some o → ∀ e ∈ o.after, Region.binds .any e = true → e.on < i) :
    ∀ (n : Nat) (L : List Item) (seen ρ : List AVal) (h : Heap) (G : Gh) (w : World) (a : Act) (listed : Array Bool), L.length = n →
    pairsOk ops.toList (clos ops.toList) L = true → (∀ it ∈ L, ops[it.i]? = some it.o ∧ (isEff it.o = false → it.locks = [])) → seen.length = ops.size → listed.size = ops.size →
    (∀ j, listed.getD j true = false ↔ ∃ it ∈ L, it.i = j) → (∀ i, listed.getD i false = true → Edges ops listed i) →
    evalItems cx ops.toList L seen ρ h k kp = some r → Inv G h w → GlobOk cx.A G.H → Slots G h ρ a →
    (∀ ρ' h' G' w' a', k ρ' h' = some r → Ext G h w G' h' w' → Inv G' h' w' → Slots G' h' ρ' a' → Q .normal a' w') →
    (∀ v h' G' w' V a', kp v h' = some r → Ext G h w G' h' w' → Inv G' h' w' → RelV G' h' v V → a'.defers = [] → Q (.panic [{ v := V, recovered := false }]) a' w') →
    wpAny cx.P .any ops Q n listed a w := by
  intro n
  induction n with
  | zero =>
    intro L seen ρ h G w a listed hn _ _ _ _ hun _ hb i gl s hk _
    cases List.eq_nil_of_length_eq_zero hn
    refine ⟨?_, hk _ _ G w a hb (Ext.refl G h w) i s⟩
    cases hr : Region.ready .any ops listed with
    | nil => rfl
    | cons j js =>
      have hj : j ∈ Region.ready .any ops listed := by rw [hr]; simp
      obtain ⟨it, hit, _⟩ := (hun j).1 (mem_ready.1 hj).1
      cases hit
  | succ n ih =>
    intro L seen ρ h G w a listed hn hp hit hseen hsz hun hdc hb i gl s hk hkp
    have lt : ∀ j, listed.getD j true = false → j < listed.size := fun j hj => by
      by_cases h : j < listed.size
      · exact h
      · simp [Array.getD, h] at hj
    have conv : ∀ j, j < listed.size → listed.getD j false ≠ true → listed.getD j true = false := fun j hj hn => by
      simp only [Array.getD, hj, dite_true] at hn ⊢
      simpa using hn
    have notIn : ∀ j, listed.getD j false = true → listed.getD j true = false → False := fun j h1 h2 => by
      have := lt j h2
      simp [Array.getD, this] at h1 h2
      rw [h1] at h2; cases h2
    have some_ready : ∀ m, (∃ it ∈ L, it.i = m) → ∃ j, j ∈ Region.ready .any ops listed := by
      intro m
      induction m using Nat.strongRecOn with
      | _ m ihm =>
        rintro ⟨x, hx, rfl⟩
        by_cases hall : ∀ e ∈ x.o.after, Region.binds .any e = true → listed.getD e.on false = true
        · exact ⟨x.i, mem_ready.2 ⟨(hun x.i).2 ⟨x, hx, rfl⟩, x.o, (hit x hx).1, hall⟩⟩
        · simp only [Classical.not_forall] at hall
          obtain ⟨e, he, hbd, hnl⟩ := hall
          have hlt := hedges x.i x.o (hit x hx).1 e he hbd
          have := lt x.i ((hun x.i).2 ⟨x, hx, rfl⟩)
          exact ihm e.on hlt ((hun e.on).1 (conv e.on (by omega) hnl))
    refine ⟨fun hr => ?_, fun j hj => ?_⟩
    · obtain ⟨x, hx⟩ := List.exists_mem_of_length_pos (l := L) (by omega)
      obtain ⟨y, hy⟩ := some_ready x.i ⟨x, hx, rfl⟩
      rw [hr] at hy; cases hy
    · obtain ⟨hju, o, hjo, hje⟩ := mem_ready.1 hj
      obtain ⟨it, hitL, rfl⟩ := (hun j).1 hju
      obtain ⟨pre, post, rfl⟩ := List.append_of_mem hitL
      have hpw := pairsOk_iff.1 hp
      have hsub : (pre ++ post).Sublist (pre ++ it :: post) := List.Sublist.append (List.Sublist.refl _) (List.sublist_cons_self _ _)
      have hpw2 := hpw.sublist hsub
      have hpa := List.pairwise_append.1 hpw
      have ho : o = it.o := by have := (hit it (by simp)).1; rw [hjo] at this; exact Option.some.inj this
      subst ho
      have hpre : ∀ p ∈ pre, indep ops.toList p it = true ∧ p.i ≠ it.i ∧ p.i < seen.length := by
        intro p hpm
        have h1 := hpa.2.2 p hpm it (by simp)
        simp only [pairOk, Bool.and_eq_true, Bool.or_eq_true, bne_iff_ne, Bool.not_eq_true'] at h1
        have hpu := (hun p.i).2 ⟨p, by simp [hpm], rfl⟩
        refine ⟨h1.2.resolve_left fun hbit => ?_, h1.1.1, by rw [hseen, ← hsz]; exact lt _ hpu⟩
        exact notIn p.i (clos_spec hdc (q := it.i) (fun o' ho' e he hbd => by rw [hjo] at ho'; cases ho'; exact hje e he hbd) hbit) hpu
      have hnd : (pre.map (·.i)).Nodup := by
        rw [List.nodup_iff_pairwise_ne, List.pairwise_map]
        exact hpa.1.imp fun hpq => by
          simp only [pairOk, Bool.and_eq_true, bne_iff_ne] at hpq
          exact hpq.1.1
      have hpost : ∀ q ∈ pre ++ post, q.i ≠ it.i := by
        intro q hq
        rcases List.mem_append.1 hq with hq | hq
        · exact (hpre q hq).2.1
        · have h1 := (List.pairwise_cons.1 hpa.2.1).1 q hq
          simp only [pairOk, Bool.and_eq_true, bne_iff_ne] at h1
          exact Ne.symm h1.1.1
      obtain ⟨ids, kv, e1, _, e3, e4⟩ := move it post pre seen ρ h hpre hnd hb
      refine evalItem_sound hX hK hjo e1 (fun he => e3 he ((hit it (by simp)).2 he)) i gl s (fun v h' G' w' V f1 f2 f3 f4 f5 => ?_) (fun v h' G' w' V f1 f2 f3 f4 => hkp v h' G' w' V a f1 f2 f3 f4 s.df)
      have hlen : (pre ++ post).length = n := by simp at hn ⊢; omega
      have hlt := lt it.i hju
      refine ih (pre ++ post) _ _ h' G' w' _ _ hlen (pairsOk_iff.2 hpw2) (fun x hx => hit x (hsub.subset hx)) (by simpa using hseen) (by simpa using hsz) (fun q => ?_) (fun q hq => ?_) (e4 v h' f5 f1) f3 (gl.mono f2.hmono)
        ((s.mono f2.toMono).put it.o.dst f4)
        (fun ρ' h'' G'' w'' a' g1 g2 g3 g4 => hk ρ' h'' G'' w'' a' g1 (f2.trans g2) g3 g4)
        (fun v h'' G'' w'' V a' g1 g2 g3 g4 g5 => hkp v h'' G'' w'' V a' g1 (f2.trans g2) g3 g4 g5)
      · by_cases hq : it.i = q
        · subst hq
          constructor
          · intro h1; simp [Array.getD, hlt] at h1
          · rintro ⟨x, hx, he⟩; exact absurd he (hpost x hx)
        · rw [getD_set_ne true hq, hun q]
          constructor
          · rintro ⟨x, hx, he⟩
            refine ⟨x, ?_, he⟩
            rcases List.mem_append.1 hx with hx | hx
            · simp [hx]
            · rcases List.mem_cons.1 hx with rfl | hx
              · exact absurd he hq
              · simp [hx]
          · rintro ⟨x, hx, he⟩; exact ⟨x, hsub.subset hx, he⟩
      · have hE : Edges ops listed q := by
          by_cases hqi : it.i = q
          · subst hqi; intro o' ho' e he hbd; rw [hjo] at ho'; cases ho'; exact hje e he hbd
          · rw [getD_set_ne false hqi] at hq; exact hdc q hq
        exact fun o' ho' e he hbd => getD_set_true (hE o' ho' e he hbd)

end
end Hk
