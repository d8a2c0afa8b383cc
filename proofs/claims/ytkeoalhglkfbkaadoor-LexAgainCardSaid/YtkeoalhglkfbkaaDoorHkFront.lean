/-
  A LAW's CONTRACT, OUT OF THE PROGRAM's MEANING: what the arguments read as; what is left behind the call.
-/
import Derived.Test.YtkeoalhglkfbkaaDoorHkLim
import Derived.OpenShut
import Derived.WideKeyArgs
set_option linter.unusedVariables false
set_option linter.unusedSimpArgs false
namespace Hk
open Go Go.RowKit Go.ChangeShapes

/-- All of the memory at the call, as persistent memory. -/
def gh (W : World) : Gh := { H := fun b k => W.cell? ⟨b, k, none⟩, blk := fun _ => 0, cur := fun _ => .slice none 0 0 }
theorem inv_gh (W : World) : Inv (gh W) [] W := ⟨fun _ _ _ h => h, fun id bl hb => by simp at hb, fun a b c ha => by simp [owner] at ha⟩

/-- A law that answers true. -/
theorem calls_true {P : Program} {A : Ann} {f : Nat} {args : List AVal} {X : Array Value} {W : World} (hm : P.follows .mixedOrders = true) (hX : ExtOk P A) (h : evW P A f args [] = some (.ret (.bool true), []))
    (gl : GlobOk A (gh W).H) (hx : RelVs (gh W) [] args X) : Calls P f X W fun e W' => e = .returned (.bool true) ∧ Below W.heap.size W W' := by
  refine ((evW_sound hm hX f args [] _ _ h (gh W) W X (inv_gh W) gl hx).2).mono fun e W' hpost => ?_
  obtain ⟨G', x, _, V, rfl, hV⟩ := hpost
  refine ⟨by rw [hV.bool_inv], x.os, x.tape, x.output, x.size, fun k hk => (x.frame k hk fun id => by simp [owner]).1⟩

section
variable {H : Type} {enc : TypeId × Value → H} {P : Program}

theorem trodAll_stays (hl : laidOutB P = true) {W W' : World} {sp' : Nat → Bool} (hb : Below W.heap.size W W') : ∀ {ts : List TypeId} {vs : List Value} {ds : List (DataW H)} {ps : List MemPlace},
    (∀ t ∈ ts, P.readableRec t = true ∧ t < P.types.size) → DataW.TrodAll enc P W 0 (fun _ => true) true ts vs ds ps → (∀ p ∈ ps, p.block < W.heap.size) → (∀ p ∈ ps, sp' p.block = true) → DataW.TrodAll enc P W' 0 sp' true ts vs ds ps
  | [], [], [], _, _, h, _, _ => h
  | _ :: _, _ :: _, _ :: _, _, ht, ⟨p, q, h1, h2, e⟩, hlt, hs =>
    ⟨p, q, WideElems.Trod_stays hl (ht _ (by simp)).1 (ht _ (by simp)).2 h1 (fun x hx => hb.same (hlt x (by rw [e]; exact List.mem_append_left _ hx))) (fun x hx => hs x (by rw [e]; exact List.mem_append_left _ hx)),
      trodAll_stays hl hb (fun t h => ht t (by simp [h])) h2 (fun x hx => hlt x (by rw [e]; exact List.mem_append_right _ hx)) (fun x hx => hs x (by rw [e]; exact List.mem_append_right _ hx)), e⟩

/-- What a law's row asks behind the call. -/
theorem post_true {f : Func} {s : ChangeSpec} {apart fresh handsOn again : Bool} {W W' : World} {args : Array Value} {tb : TypeId} {ds gs : List (DataW H)} {before : List MemPlace}
    (hl : laidOutB P = true) (ht : ∀ t ∈ f.params.toList, P.readableRec t = true ∧ t < P.types.size) (hr : f.resultTypes = #[tb]) (htb : P.underlying tb = some .bool) (hv : s.vars = [])
    (hW : DataW.Whole enc P f.params.toList s.vars apart W args.toList ds gs before) (hb : Below W.heap.size W W')
    (h1 : (s.fn H (ds ++ gs)).results = [.lit (.bool true)]) (h2 : (s.fn H (ds ++ gs)).args = ds) (h3 : (s.fn H (ds ++ gs)).vars = []) : s.post enc P f apart fresh handsOn again W args (Value.bool true) W' := by
  have hlt := hW.lt
  have hold : ∀ p ∈ before, (fun b => decide (b < W.heap.size)) p.block = true := fun p hp => by simpa using hlt p hp
  have hW' := hW
  obtain ⟨p, q, hA, hV, hps, hz, hn⟩ := hW
  rw [hv] at hV
  obtain ⟨rfl, rfl⟩ := trodVars_none hV
  simp only [List.append_nil] at hps h1 h2 h3
  subst hps
  have hargs : ∀ sp : Nat → Bool, (∀ x ∈ before, sp x.block = true) → DataW.TrodAll enc P W' 0 sp true f.params.toList args.toList (s.fn H ds).args before := by
    intro sp hs; rw [h2]; exact trodAll_stays hl hb ht hA hlt hs
  have hres : ∀ (b : Nat) (sp : Nat → Bool) (hd : Bool), DataW.TrodAll enc P W' b sp hd f.resultTypes.toList ((Value.bool true).resultList f.resultTypes.size) (s.fn H ds).results [] := by
    intro b sp hd; rw [h1, hr]; exact trodAll_mk1 (shut_bool htb true)
  have hvars : ∀ sp : Nat → Bool, DataW.TrodVars enc P W' sp s.vars (s.fn H ds).vars [] := by
    intro sp; rw [h3, hv]; rfl
  refine ⟨ds, [], before, [], before, [], hW', by simpa using hres _ _ _, by simpa using hargs _ hold, by simpa using hvars _, World.keptBut_mono (fun p hp => ⟨hp, ?_⟩) (hb.frame (· ∈ before)), fun _ => ?_⟩
  · exact Or.inr (by simpa using hp)
  · refine ⟨ok_one hr rfl (okWide_bool_mk htb true), _, _, ([] ++ before) ++ [], ⟨[] ++ before, [], trodAll_append (hargs _ (fun _ _ => rfl)) (hres _ _ _), hvars _, rfl, ?_, ?_⟩, ?_⟩
    · intro b off hp
      have hp' : MemPlace.cell b off ∈ before := by simpa using hp
      rw [hb.frozen (p := ⟨b, off, none⟩) (hlt _ hp')]
      exact hz b off hp'
    · intro ha
      simpa using hn ha
    · intro p hp _
      simpa using hp

end

/-! ### Reading -/

/-- Cells, related. -/
def RelCs (H : Nat → Nat → Option Value) (cs : List AVal) (vs : List Value) : Prop := cs.length = vs.length ∧ ∀ (i : Nat) (v : AVal), cs[i]? = some v → v.cellOk = true ∧ RelP H v (vs.getD i undef)

theorem RelCs.append {H : Nat → Nat → Option Value} {a b : List AVal} {x y : List Value} (h : RelCs H a x) (h' : RelCs H b y) : RelCs H (a ++ b) (x ++ y) := by
  refine ⟨by simp [h.1, h'.1], fun i v hv => ?_⟩
  rw [List.getD_eq_getElem?_getD]
  by_cases hi : i < a.length
  · rw [List.getElem?_append_left hi] at hv
    rw [List.getElem?_append_left (by rw [← h.1]; exact hi)]
    have := h.2 i v hv
    rwa [List.getD_eq_getElem?_getD] at this
  · rw [List.getElem?_append_right (by omega)] at hv
    rw [List.getElem?_append_right (by rw [← h.1]; omega), ← h.1]
    have := h'.2 _ v hv
    rwa [List.getD_eq_getElem?_getD] at this
theorem RelCs.nil (H : Nat → Nat → Option Value) : RelCs H [] [] := ⟨rfl, by simp⟩
theorem RelCs.one {H : Nat → Nat → Option Value} {v : AVal} {V : Value} (hk : v.cellOk = true) (h : RelP H v V) : RelCs H [v] [V] :=
  ⟨rfl, fun i u hu => by cases i with
    | zero => simp at hu; subst hu; exact ⟨hk, h⟩
    | succ i => simp at hu⟩

/-- A type's values read as a Lean type's: with so much fuel at most. -/
structure Rd (P : Program) (n : Nat) (t : TypeId) {α : Type} (encA : α → List AVal) (wf : α → Prop) : Prop where
  get : ∀ {H : Type} {enc : TypeId × Value → H} {w : World} {sp : Nat → Bool} {held : Bool} {fuel : Nat} {cs : List Value} {x : DataW H × List MemPlace}, fuel ≤ n →
    DataW.trod enc P w 0 sp held fuel t cs = some x → ∃ a : α, wf a ∧ RelCs (gh w).H (encA a) cs

theorem Rd.int {P : Program} {n : Nat} {t : TypeId} {k : IntKind} (ht : P.underlying t = some (.int k)) : Rd P n t (fun z : Int => [.int k z]) (fun z => (Lit.int k z).wf = true) := by
  refine ⟨?_⟩
  intro H enc w sp held fuel cs x _ h
  obtain ⟨z, hx, _, hw⟩ := DataW.trod_int ht h
  exact ⟨z, hw, by rw [hx]; exact .one rfl (.int _ _)⟩
theorem Rd.bool {P : Program} {n : Nat} {t : TypeId} (ht : P.underlying t = some .bool) : Rd P n t (fun z : Bool => [.bool z]) (fun _ => True) := by
  refine ⟨?_⟩
  intro H enc w sp held fuel cs x _ h
  cases fuel with
  | zero => simp [DataW.trod] at h
  | succ m =>
    unfold DataW.trod at h
    rw [ht] at h
    split at h <;> try (simp at *; done)
    rename_i b _
    exact ⟨b, trivial, .one rfl (.bool _)⟩
theorem Rd.str {P : Program} {n : Nat} {t : TypeId} (ht : P.underlying t = some .string) : Rd P n t (fun z : List UInt8 => [.str z]) (fun z => z.length ≤ maxLen) := by
  refine ⟨?_⟩
  intro H enc w sp held fuel cs x _ h
  obtain ⟨s, hx, _, hs⟩ := DataW.trod_string ht h
  refine ⟨s.data.toList, by simpa using hs, ?_⟩
  have : (⟨s.data.toList.toArray⟩ : ByteArray) = s := by cases s; simp
  rw [hx]
  have r := RelP.str (H := (gh w).H) s.data.toList
  rw [this] at r
  exact .one rfl r

theorem mapM_get {α β : Type} {f : α → Option β} : ∀ {l : List α} {ys : List β}, l.mapM f = some ys → ys.length = l.length ∧ ∀ (i : Nat) (x : α), l[i]? = some x → ∃ y, ys[i]? = some y ∧ f x = some y
  | [], ys, h => by simp at h; subst h; simp
  | a :: l, ys, h => by
    simp only [List.mapM_cons, Option.bind_eq_bind, Option.bind_eq_some_iff] at h
    obtain ⟨y, hy, zs, hzs, h⟩ := h
    simp only [Option.pure_def, Option.some.injEq] at h; subst h
    obtain ⟨h1, h2⟩ := mapM_get hzs
    refine ⟨by simp [h1], fun i x hx => ?_⟩
    cases i with
    | zero => simp at hx; subst hx; exact ⟨y, rfl, hy⟩
    | succ i => simpa using h2 i x (by simpa using hx)

/-- Choose, for all places of a list. -/
theorem choose_list {α : Type} {p : Nat → α → Prop} : ∀ (n : Nat), (∀ i, i < n → ∃ a, p i a) → ∃ l : List α, l.length = n ∧ ∀ (i : Nat) (a : α), l[i]? = some a → p i a
  | 0, _ => ⟨[], rfl, by simp⟩
  | n + 1, h => by
    obtain ⟨l, h1, h2⟩ := choose_list n fun i hi => h i (by omega)
    obtain ⟨a, ha⟩ := h n (by omega)
    refine ⟨l ++ [a], by simp [h1], fun i b hb => ?_⟩
    by_cases hi : i < l.length
    · rw [List.getElem?_append_left hi] at hb; exact h2 i b hb
    · rw [List.getElem?_append_right (by omega)] at hb
      have : i - l.length = 0 := by
        by_cases h0 : i - l.length = 0
        · exact h0
        · rw [List.getElem?_eq_none (by simp; omega)] at hb; cases hb
      rw [this] at hb
      simp at hb; subst hb
      have : i = n := by omega
      subst this; exact ha

theorem cells?_get {w : World} {base : Nat} {a : Addr} {n : Nat} {cs : List Value} (h : w.cells? base a n = some cs) : cs.length = n ∧ ∀ i, i < n → w.cell? (a.add i) = cs[i]? := by
  unfold World.cells? at h
  split at h
  · obtain ⟨h1, h2⟩ := mapM_get h
    refine ⟨by simpa using h1, fun i hi => ?_⟩
    obtain ⟨y, e1, e2⟩ := h2 i i (by simp [hi])
    rw [e2, e1]
  · cases h

theorem spot_none {w : World} {a : Addr} {v : Value} (h : w.cell? a = some v) : a = ⟨a.block, a.off, none⟩ := by
  unfold World.cell? at h
  split at h
  · split at h
    · cases h
    · rename_i hs
      obtain ⟨b, o, s⟩ := a
      cases s with
      | none => rfl
      | some _ => simp at hs
  · cases h

theorem add_add (a : Addr) (i j : Nat) (h : a = ⟨a.block, a.off, none⟩) : (a.add i).add j = ⟨a.block, a.off + (i + j), none⟩ := by
  rw [h, add_plain, add_plain]
  simp [Nat.add_assoc]


theorem Rd.slice {P : Program} {n : Nat} {t e : TypeId} {α : Type} {encA : α → List AVal} {wf : α → Prop} {sz : Nat} (ht : P.underlying t = some (.slice e)) (he : P.cellsOf e = sz + 1) (hsz : ∀ a, (encA a).length = sz + 1) (r : Rd P n e encA wf) :
    Rd P (n + 1) t (fun z : List α => [.slice (z.map encA) .no]) (fun z => z.length ≤ maxLen ∧ ∀ a ∈ z, wf a) := by
  refine ⟨?_⟩
  intro H enc w sp held fuel cs x hf h
  cases fuel with
  | zero => simp [DataW.trod] at h
  | succ m =>
    unfold DataW.trod at h
    rw [ht] at h
    split at h <;> try (simp at *; done)
    · refine ⟨[], by simp, .one rfl (.slice0 none 0)⟩
    · rename_i e' a len cap hu
      cases hu
      split at h
      · rename_i hcond
        obtain ⟨_, hlen, hcap⟩ := hcond
        obtain ⟨elems, hel, _⟩ := Option.bind_eq_some_iff.1 h
        obtain ⟨h1, h2⟩ := mapM_get hel
        by_cases h0 : len = 0
        · subst h0
          exact ⟨[], by simp, .one rfl (.slice0 (some a) cap)⟩
        · -- an element's cells
          have hcell : ∀ i, i < len → ∃ cs, w.cells? 0 (a.add (i * (sz + 1))) (sz + 1) = some cs ∧ ∃ z : α, wf z ∧ RelCs (gh w).H (encA z) cs := by
            intro i hi
            obtain ⟨y, e1, e2⟩ := h2 i i (by simp [hi])
            obtain ⟨cs, e3, e4⟩ := Option.bind_eq_some_iff.1 e2
            rw [he] at e3
            exact ⟨cs, e3, r.get (by omega) e4⟩
          have ha : a = ⟨a.block, a.off, none⟩ := by
            obtain ⟨cs, e1, _⟩ := hcell 0 (by omega)
            obtain ⟨l1, l2⟩ := cells?_get e1
            have := l2 0 (by omega)
            rw [List.getElem?_eq_getElem (by omega)] at this
            have := spot_none this
            simpa [Addr.add] using this
          obtain ⟨l, hl, hp⟩ := choose_list (p := fun i (z : α) => ∃ cs, w.cells? 0 (a.add (i * (sz + 1))) (sz + 1) = some cs ∧ wf z ∧ RelCs (gh w).H (encA z) cs) len fun i hi => by
            obtain ⟨cs, e1, z, e2, e3⟩ := hcell i hi
            exact ⟨z, cs, e1, e2, e3⟩
          have key : ∀ (i j : Nat) (row : List AVal) (v : AVal), (l.map encA)[i]? = some row → row[j]? = some v →
              (gh w).H a.block (a.off + (i * (sz + 1) + j)) = some ((w.cell? ⟨a.block, a.off + (i * (sz + 1) + j), none⟩).getD undef) ∧ v.cellOk = true ∧ RelP (gh w).H v ((w.cell? ⟨a.block, a.off + (i * (sz + 1) + j), none⟩).getD undef) := by
            intro i j row v hi hj
            simp only [List.getElem?_map, Option.map_eq_some_iff] at hi
            obtain ⟨z, hz, rfl⟩ := hi
            obtain ⟨cs, e1, _, e3⟩ := hp i z hz
            obtain ⟨l1, l2⟩ := cells?_get e1
            have hjlt : j < sz + 1 := by rw [← hsz z]; exact (List.getElem?_eq_some_iff.1 hj).1
            have e4 := l2 j hjlt
            rw [add_add _ _ _ ha] at e4
            obtain ⟨e5, e6⟩ := e3.2 j v hj
            have : cs[j]? = some (cs.getD j undef) := by rw [List.getD_eq_getElem?_getD, List.getElem?_eq_getElem (by omega)]; rfl
            rw [this] at e4
            refine ⟨by show w.cell? _ = _; rw [e4]; rfl, e5, by rw [e4]; exact e6⟩
          have hrows : ∀ row ∈ l.map encA, row.length = sz + 1 := by
            intro row hr
            obtain ⟨z, _, rfl⟩ := List.mem_map.1 hr
            exact hsz z
          refine ⟨l, ⟨by omega, fun z hz => ?_⟩, .one rfl ?_⟩
          · obtain ⟨i, hi⟩ := List.getElem?_of_mem hz
            obtain ⟨_, _, e2, _⟩ := hp i z hi
            exact e2
          · have := RelP.slice (H := (gh w).H) (l.map encA) a.block a.off cap (sz + 1) (fun k => (w.cell? ⟨a.block, a.off + k, none⟩).getD undef) hrows (by simp; omega)
              (fun i j row v hi hj => (key i j row v hi hj).1) (fun i j row v hi hj => (key i j row v hi hj).2.1) (fun i j row v hi hj => (key i j row v hi hj).2.2)
            rw [← ha] at this
            simpa [hl] using this
      · cases h

/-! Structs, a field at a time. -/

/-- Fields from an offset on, up to the struct's end. -/
structure RdFs (P : Program) (n : Nat) (fs : List Field) (off total : Nat) {α : Type} (encA : α → List AVal) (wf : α → Prop) : Prop where
  get : ∀ {H : Type} {enc : TypeId × Value → H} {w : World} {sp : Nat → Bool} {held : Bool} {fuel : Nat} {cs : List Value} {xs : List (DataW H × List MemPlace)}, fuel ≤ n → cs.length = total →
    (fs.mapM fun f => DataW.trod enc P w 0 sp held fuel f.type ((cs.drop f.offset).take (P.cellsOf f.type))) = some xs → ∃ a : α, wf a ∧ RelCs (gh w).H (encA a) (cs.drop off)

theorem RdFs.nil {P : Program} {n total : Nat} : RdFs P n [] total total (fun _ : Unit => []) (fun _ => True) := by
  refine ⟨?_⟩
  intro H enc w sp held fuel cs xs _ hl h
  refine ⟨(), trivial, ?_⟩
  rw [List.drop_eq_nil_of_le (by omega)]
  exact .nil _
theorem RdFs.cons {P : Program} {n off total sz : Nat} {f : Field} {fs : List Field} {α β : Type} {encA : α → List AVal} {wfA : α → Prop} {encB : β → List AVal} {wfB : β → Prop}
    (ho : f.offset = off) (hs : P.cellsOf f.type = sz) (r : Rd P n f.type encA wfA) (rs : RdFs P n fs (off + sz) total encB wfB) : RdFs P n (f :: fs) off total (fun z : α × β => encA z.1 ++ encB z.2) (fun z => wfA z.1 ∧ wfB z.2) := by
  refine ⟨?_⟩
  intro H enc w sp held fuel cs xs hf hl h
  simp only [List.mapM_cons, Option.bind_eq_bind, Option.bind_eq_some_iff] at h
  obtain ⟨x, h1, ys, h2, _⟩ := h
  obtain ⟨a, wa, ra⟩ := r.get hf h1
  obtain ⟨b, wb, rb⟩ := rs.get hf hl h2
  refine ⟨(a, b), ⟨wa, wb⟩, ?_⟩
  rw [ho, hs] at ra
  have : cs.drop off = (cs.drop off).take sz ++ cs.drop (off + sz) := by rw [← List.drop_drop, List.take_append_drop]
  rw [this]
  exact ra.append rb
theorem Rd.struct {P : Program} {n : Nat} {t : TypeId} {fs : Array Field} {α : Type} {encA : α → List AVal} {wf : α → Prop} {total : Nat} (ht : P.underlying t = some (.struct fs)) (hc : P.cellsOf t = total)
    (r : RdFs P n fs.toList 0 total encA wf) : Rd P (n + 1) t encA wf := by
  refine ⟨?_⟩
  intro H enc w sp held fuel cs x hf h
  cases fuel with
  | zero => simp [DataW.trod] at h
  | succ m =>
    unfold DataW.trod at h
    rw [ht] at h
    split at h <;> try (simp at *; done)
    rename_i fs' cs' hu
    cases hu
    split at h
    · rename_i hlen
      simp only [Option.map_eq_some_iff] at h
      obtain ⟨xs, h1, _⟩ := h
      obtain ⟨a, wa, ra⟩ := r.get (by omega) (by rw [hlen, hc]) h1
      exact ⟨a, wa, by simpa using ra⟩
    · cases h

theorem Rd.to {P : Program} {n : Nat} {t : TypeId} {α β : Type} {encA : α → List AVal} {wfA : α → Prop} {encB : β → List AVal} {wfB : β → Prop} (r : Rd P n t encA wfA) (g : α → β) (he : ∀ a, encB (g a) = encA a) (hw : ∀ a, wfA a → wfB (g a)) : Rd P n t encB wfB := by
  refine ⟨?_⟩
  intro H enc w sp held fuel cs x hf h
  obtain ⟨a, wa, ra⟩ := r.get hf h
  exact ⟨g a, hw a wa, by rw [he]; exact ra⟩
theorem Rd.mono {P : Program} {n m : Nat} {t : TypeId} {α : Type} {encA : α → List AVal} {wfA : α → Prop} (hnm : m ≤ n) (r : Rd P n t encA wfA) : Rd P m t encA wfA := by
  refine ⟨?_⟩
  intro H enc w sp held fuel cs x hf h
  exact r.get (by omega) h

/-- An argument of one cell. -/
theorem Rd.arg {P : Program} {t : TypeId} {α : Type} {encA : α → AVal} {wf : α → Prop} (r : ∀ n, Rd P n t (fun a => [encA a]) wf) {H : Type} {enc : TypeId × Value → H} {w : World} {sp : Nat → Bool} {held : Bool} {v : Value} {d : DataW H} {ps : List MemPlace}
    (hv : ∀ C, v ≠ .agg C) (h : DataW.Trod enc P w 0 sp held t v d ps) : ∃ a, wf a ∧ RelV (gh w) [] (encA a) v := by
  obtain ⟨fuel, hf⟩ := h
  obtain ⟨a, wa, ra⟩ := (r fuel).get (Nat.le_refl _) hf
  refine ⟨a, wa, .p _ _ ?_⟩
  have := (ra.2 0 _ rfl).2
  have hc : v.cells = #[v] := by cases v <;> simp_all [Value.cells]
  rw [hc] at this
  simpa using this
/-- An argument of cells. -/
theorem Rd.argS {P : Program} {t : TypeId} {α : Type} {encA : α → List AVal} {wf : α → Prop} (r : ∀ n, Rd P n t encA wf) {H : Type} {enc : TypeId × Value → H} {w : World} {sp : Nat → Bool} {held : Bool} {v : Value} {d : DataW H} {ps : List MemPlace}
    (hv : ∃ C, v = .agg C) (h : DataW.Trod enc P w 0 sp held t v d ps) : ∃ a, wf a ∧ RelV (gh w) [] (.agg (encA a)) v := by
  obtain ⟨fuel, hf⟩ := h
  obtain ⟨a, wa, ra⟩ := (r fuel).get (Nat.le_refl _) hf
  obtain ⟨C, rfl⟩ := hv
  refine ⟨a, wa, .p _ _ (.agg _ _ (by simpa [Value.cells] using ra.1) fun i v hv => ?_)⟩
  have := (ra.2 i v hv).2
  rw [List.getD_eq_getElem?_getD] at this
  rw [Array.getD_eq_getD_getElem?]
  simpa [Value.cells] using this

end Hk
