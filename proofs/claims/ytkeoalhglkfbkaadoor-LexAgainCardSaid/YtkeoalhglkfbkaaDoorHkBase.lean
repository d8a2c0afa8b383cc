/-
  SMALL LAWS: what a related value looks like; operands; slots; the checks on cells.
-/
import Derived.Test.YtkeoalhglkfbkaaDoorHkRel
set_option linter.unusedVariables false
set_option linter.unusedSimpArgs false
namespace Hk
open Go Go.RowKit

section inv
variable {G : Gh} {h : Heap} {V : Value}

theorem RelV.int_inv {k : IntKind} {n : Int} (r : RelV G h (.int k n) V) : V = .int k n := by
  cases r with | p _ _ hp => cases hp; rfl
theorem RelV.bool_inv {b : Bool} (r : RelV G h (.bool b) V) : V = .bool b := by
  cases r with | p _ _ hp => cases hp; rfl
theorem RelV.str_inv {s : List UInt8} (r : RelV G h (.str s) V) : V = .string ⟨s.toArray⟩ := by
  cases r with | p _ _ hp => cases hp; rfl
theorem RelV.slice_inv {rows : List (List AVal)} {t : Tok} (r : RelV G h (.slice rows t) V) : RelP G.H (.slice rows .no) V := by
  cases r with
  | p _ _ hp =>
    cases hp with
    | slice0 a cap => exact .slice0 a cap
    | slice rows b off cap sz V hr hc hH hk hV => exact .slice rows b off cap sz V hr hc hH hk hV
  | nil => exact .slice0 none 0
  | own rows id n sz V hp hf hn hr hc => exact hp
theorem RelV.agg_inv {cs : List AVal} (r : RelV G h (.agg cs) V) : ∃ C : Array Value, V = .agg C ∧ cs.length = C.size ∧ ∀ (i : Nat) (v : AVal), cs[i]? = some v → RelV G h v (C.getD i undef) := by
  cases r with
  | p _ _ hp => cases hp with | agg cs C hl hh => exact ⟨C, rfl, hl, fun i v hv => .p _ _ (hh i v hv)⟩
  | agg cs C hl hh => exact ⟨C, rfl, hl, hh⟩
theorem RelV.tuple_inv {cs : List AVal} (r : RelV G h (.tuple cs) V) : ∃ C : Array Value, V = .tuple C ∧ cs.length = C.size ∧ ∀ (i : Nat) (v : AVal), cs[i]? = some v → RelV G h v (C.getD i undef) := by
  cases r with
  | p _ _ hp => cases hp with | tuple cs C hl hh => exact ⟨C, rfl, hl, fun i v hv => .p _ _ (hh i v hv)⟩
  | tuple cs C hl hh => exact ⟨C, rfl, hl, hh⟩
theorem RelV.tuple0_inv (r : RelV G h (.tuple []) V) : V = undef := by
  obtain ⟨C, rfl, hl, _⟩ := r.tuple_inv
  have : C = #[] := Array.eq_empty_of_size_eq_zero hl.symm
  subst this; rfl
theorem RelV.undef : RelV G h (.tuple []) Go.undef := .p _ _ (.tuple [] #[] rfl (by simp))
theorem RelV.ptr_inv {id off : Nat} (r : RelV G h (.ptr id off) V) : V = .pointer (some ⟨G.blk id, off, none⟩) ∧ live h id := by
  cases r with
  | p _ _ hp => cases hp
  | ptr id off hl => exact ⟨rfl, hl⟩
theorem RelV.map_inv {id : Nat} (r : RelV G h (.map id) V) : V = .map (some (G.blk id)) ∧ live h id := by
  cases r with
  | p _ _ hp => cases hp
  | map id hl => exact ⟨rfl, hl⟩
theorem RelV.nilmap_inv (r : RelV G h .nilmap V) : V = .map none := by
  cases r with | p _ _ hp => cases hp; rfl
theorem RelV.nilptr_inv (r : RelV G h .nilptr V) : V = .pointer none := by
  cases r with | p _ _ hp => cases hp; rfl
theorem RelV.pptr_inv {cs : List AVal} (r : RelV G h (.pptr cs) V) : RelP G.H (.pptr cs) V := by
  cases r with | p _ _ hp => exact hp
theorem RelV.mslice_inv {id off len sz : Nat} (r : RelV G h (.mslice id off len sz) V) :
    ∃ a cap, V = .slice a len cap ∧ len ≤ cap ∧ (0 < len → a = some ⟨G.blk id, off, none⟩ ∧ live h id) := by
  cases r with
  | p _ _ hp => cases hp
  | mslice id off len sz cap hl hc => exact ⟨_, cap, rfl, hc, fun _ => ⟨rfl, hl⟩⟩
  | mslice0 id off sz cap a => exact ⟨a, cap, rfl, Nat.zero_le _, fun hh => absurd hh (by omega)⟩
theorem RelV.func_inv {f : Nat} {first cap : List AVal} (r : RelV G h (.func f first cap) V) :
    ∃ F C : Array Value, V = .func (.func f) F C ∧ first.length = F.size ∧ cap.length = C.size ∧
      (∀ (i : Nat) (v : AVal), first[i]? = some v → RelV G h v (F.getD i Go.undef)) ∧ (∀ (i : Nat) (v : AVal), cap[i]? = some v → RelV G h v (C.getD i Go.undef)) := by
  cases r with
  | p _ _ hp => cases hp with | func f => exact ⟨#[], #[], rfl, rfl, rfl, by simp, by simp⟩
  | func f first cap F C hlf hlc hf hc => exact ⟨F, C, rfl, hlf, hlc, hf, hc⟩
theorem RelV.iface_inv {t : Nat} {v : AVal} (r : RelV G h (.iface t v) V) : ∃ W, V = .iface t W ∧ RelV G h v W := by
  cases r with
  | p _ _ hp => cases hp with | iface t v V hh => exact ⟨_, rfl, .p _ _ hh⟩
  | iface t v V hh => exact ⟨_, rfl, hh⟩

/-- A value that may be a cell is one cell. -/
theorem RelV.oneCell {v : AVal} (r : RelV G h v V) (hk : v.cellOk = true) : V.oneCell' = true ∧ V.cells = #[V] := by
  cases r with
  | p _ _ hp => cases hp <;> simp_all [AVal.cellOk, Value.oneCell', Value.cells]
  | own _ _ _ _ _ hp => cases hp <;> simp [Value.oneCell', Value.cells]
  | _ => simp_all [AVal.cellOk, Value.oneCell', Value.cells]
theorem RelP.oneCell {H : Nat → Nat → Option Value} {v : AVal} (r : RelP H v V) (hk : v.cellOk = true) : V.oneCell' = true ∧ V.cells = #[V] := by
  cases r <;> simp_all [AVal.cellOk, Value.oneCell', Value.cells]
end inv

/-- The constants. -/
theorem relV_ofConst1 (G : Gh) (h : Heap) (v : Value) : RelV G h (ofConst1 v) v := by
  unfold ofConst1
  split
  · exact .p _ _ (.bool _)
  · exact .p _ _ (.int _ _)
  · rename_i s
    have : (⟨s.data.toList.toArray⟩ : ByteArray) = s := by cases s; simp
    have r := RelV.p (G := G) (h := h) _ _ (RelP.str (H := G.H) s.data.toList)
    rw [this] at r; exact r
  · exact .p _ _ .nilptr
  · exact .nil
  · exact .p _ _ .nilmap
  · exact .p _ _ .nilfunc
  · exact .p _ _ .niliface
  · exact .p _ _ (.junk _)
theorem relV_ofConst (G : Gh) (h : Heap) (v : Value) : RelV G h (ofConst v) v := by
  unfold ofConst
  split
  · rename_i cs
    refine .agg _ _ (by simp) fun i u hu => ?_
    simp only [List.getElem?_map, Option.map_eq_some_iff, Array.getElem?_toList] at hu
    obtain ⟨x, hx, rfl⟩ := hu
    have : cs.getD i undef = x := by rw [Array.getD_eq_getD_getElem?, hx]; rfl
    rw [this]
    exact relV_ofConst1 G h x
  · rename_i cs
    split
    · rename_i hn
      have : cs = #[] := by cases cs; simp_all
      subst this
      exact .p _ _ (.tuple [] #[] rfl (by simp))
    · exact .p _ _ (.junk _)
  · exact relV_ofConst1 G h v

def GlobOk (A : Ann) (H : Nat → Nat → Option Value) : Prop := ∀ g cs, A.glob g = some cs → RelP H (.pptr cs) (.pointer (some ⟨g, 0, none⟩))
theorem GlobOk.mono {A : Ann} {H H' : Nat → Nat → Option Value} (hh : ∀ b k v, H b k = some v → H' b k = some v) (g : GlobOk A H) : GlobOk A H' := fun i cs hc => (g i cs hc).mono hh

structure Slots (G : Gh) (h : Heap) (ρ : List AVal) (a : Act) : Prop where
  len : ρ.length = a.tmps.size
  rel : ∀ (i : Nat) (v : AVal), ρ[i]? = some v → RelV G h v (a.tmps.getD i undef)
  df : a.defers = []

theorem Slots.mono {G G' : Gh} {h h' : Heap} {ρ : List AVal} {a : Act} (s : Slots G h ρ a) (m : Mono G h G' h') : Slots G' h' ρ a :=
  ⟨s.len, fun i v hv => (s.rel i v hv).mono m, s.df⟩

theorem Slots.get {G : Gh} {h : Heap} {ρ : List AVal} {a : Act} (s : Slots G h ρ a) (t : Nat) : RelV G h (ρ.getD t .junk) (a.tmps.getD t undef) := by
  rw [List.getD_eq_getElem?_getD]
  cases hv : ρ[t]? with
  | none => exact .p _ _ (.junk _)
  | some v => exact s.rel t v hv

theorem Slots.eval {A : Ann} {G : Gh} {h : Heap} {ρ : List AVal} {a : Act} (s : Slots G h ρ a) (gl : GlobOk A G.H) (x : Operand) : RelV G h (aval A ρ x) (a.eval x) := by
  cases x with
  | tmp t => exact s.get t
  | const v => exact relV_ofConst G h v
  | global g =>
    simp only [aval]
    cases hg : A.glob g with
    | none => exact .p _ _ (.junk _)
    | some cs => exact .p _ _ (gl g cs hg)
  | func f => exact .p _ _ (.func f)

theorem Slots.put {G : Gh} {h : Heap} {ρ : List AVal} {a : Act} (s : Slots G h ρ a) (dst : Option Tmp) {v : AVal} {V : Value} (r : RelV G h v V) : Slots G h (putSlot ρ dst v) (a.put dst V) := by
  cases dst with
  | none => exact s
  | some d =>
    refine ⟨by simp [putSlot, Act.put, s.len], fun i u hu => ?_, s.df⟩
    simp only [putSlot, List.getElem?_set] at hu
    simp only [Act.put, Array.getD_eq_getD_getElem?, Array.getElem?_setIfInBounds]
    by_cases hdi : d = i
    · subst hdi
      have hlt : d < ρ.length := by
        by_cases hlt : d < ρ.length
        · exact hlt
        · simp [hlt] at hu
      simp only [hlt, if_true] at hu
      cases hu
      rw [s.len] at hlt
      simpa [hlt] using r
    · simp only [hdi, if_false] at hu ⊢
      simpa [Array.getD_eq_getD_getElem?] using s.rel i u hu

theorem agg_cells {G : Gh} {h : Heap} {v : AVal} {V : Value} (r : RelV G h v V) (hk : v.cells.all AVal.cellOk = true) :
    v.cells.length = V.cells.size ∧ ∀ (i : Nat) (u : AVal), v.cells[i]? = some u → u.cellOk = true ∧ RelV G h u (V.cells.getD i undef) := by
  by_cases ha : ∃ cs, v = .agg cs
  · obtain ⟨cs, rfl⟩ := ha
    obtain ⟨C, rfl, hl, hr⟩ := r.agg_inv
    simp only [AVal.cells, Value.cells] at *
    exact ⟨hl, fun i u hu => ⟨by simpa using List.all_eq_true.1 hk u (List.mem_of_getElem? hu), hr i u hu⟩⟩
  · have hc : v.cells = [v] := by cases v <;> simp_all [AVal.cells]
    rw [hc] at hk ⊢
    have hk' : v.cellOk = true := by simpa using hk
    obtain ⟨_, h2⟩ := r.oneCell hk'
    rw [h2]
    refine ⟨rfl, fun i u hu => ?_⟩
    cases i with
    | zero => simp at hu; subst hu; exact ⟨hk', by simpa using r⟩
    | succ i => simp at hu

end Hk
