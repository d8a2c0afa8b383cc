/-
  HOW ABSTRACT VALUES AND HEAPS STAND TO THE MODEL's.
-/
import Derived.Test.YtkeoalhglkfbkaaDoorHkEval
set_option linter.unusedVariables false
set_option linter.unusedSimpArgs false
namespace Hk
open Go Go.RowKit

/-- The ghost: persistent memory; where each abstract block lies; the slice that a token speaks of. -/
structure Gh where
  H : Nat → Nat → Option Value
  blk : Nat → Nat
  cur : Nat → Value

inductive RelP (H : Nat → Nat → Option Value) : AVal → Value → Prop
  | junk (V : Value) : RelP H .junk V
  | bool (b : Bool) : RelP H (.bool b) (.bool b)
  | int (k : IntKind) (n : Int) : RelP H (.int k n) (.int k n)
  | str (s : List UInt8) : RelP H (.str s) (.string ⟨s.toArray⟩)
  | agg (cs : List AVal) (C : Array Value) (hl : cs.length = C.size) (h : ∀ (i : Nat) (v : AVal), cs[i]? = some v → RelP H v (C.getD i undef)) : RelP H (.agg cs) (.agg C)
  | tuple (cs : List AVal) (C : Array Value) (hl : cs.length = C.size) (h : ∀ (i : Nat) (v : AVal), cs[i]? = some v → RelP H v (C.getD i undef)) : RelP H (.tuple cs) (.tuple C)
  | slice0 (a : Option Addr) (cap : Nat) : RelP H (.slice [] .no) (.slice a 0 cap)
  | slice (rows : List (List AVal)) (b off cap sz : Nat) (V : Nat → Value) (hr : ∀ r ∈ rows, r.length = sz) (hc : rows.length ≤ cap)
      (hH : ∀ (i j : Nat) (row : List AVal) (v : AVal), rows[i]? = some row → row[j]? = some v → H b (off + (i * sz + j)) = some (V (i * sz + j)))
      (hk : ∀ (i j : Nat) (row : List AVal) (v : AVal), rows[i]? = some row → row[j]? = some v → v.cellOk = true)
      (hV : ∀ (i j : Nat) (row : List AVal) (v : AVal), rows[i]? = some row → row[j]? = some v → RelP H v (V (i * sz + j))) :
      RelP H (.slice rows .no) (.slice (some ⟨b, off, none⟩) rows.length cap)
  | pptr (cs : List AVal) (b off : Nat) (V : Nat → Value)
      (hH : ∀ (j : Nat) v, cs[j]? = some v → H b (off + j) = some (V j))
      (hk : ∀ (j : Nat) (v : AVal), cs[j]? = some v → v.cellOk = true)
      (hV : ∀ (j : Nat) v, cs[j]? = some v → RelP H v (V j)) : RelP H (.pptr cs) (.pointer (some ⟨b, off, none⟩))
  | nilptr : RelP H .nilptr (.pointer none)
  | nilmap : RelP H .nilmap (.map none)
  | nilfunc : RelP H .nilfunc .nilFunc
  | niliface : RelP H .niliface .nilIface
  | func (f : Nat) : RelP H (.func f [] []) (.func (.func f) #[] #[])
  | iface (t : Nat) (v : AVal) (V : Value) (h : RelP H v V) : RelP H (.iface t v) (.iface t V)

theorem RelP.mono {H H' : Nat → Nat → Option Value} (hh : ∀ b k v, H b k = some v → H' b k = some v) {v : AVal} {V : Value} (h : RelP H v V) : RelP H' v V := by
  induction h with
  | junk V => exact .junk V
  | bool b => exact .bool b
  | int k n => exact .int k n
  | str s => exact .str s
  | agg cs C hl _ ih => exact .agg cs C hl ih
  | tuple cs C hl _ ih => exact .tuple cs C hl ih
  | slice0 a cap => exact .slice0 a cap
  | slice rows b off cap sz V hr hc hH hk _ ih => exact .slice rows b off cap sz V hr hc (fun i j row v h1 h2 => hh _ _ _ (hH i j row v h1 h2)) hk ih
  | pptr cs b off V hH hk _ ih => exact .pptr cs b off V (fun j v h1 => hh _ _ _ (hH j v h1)) hk ih
  | nilptr => exact .nilptr
  | nilmap => exact .nilmap
  | nilfunc => exact .nilfunc
  | niliface => exact .niliface
  | func f => exact .func f
  | iface t v V _ ih => exact .iface t v V ih

def live (h : Heap) (id : Nat) : Prop := ∃ b, h[id]? = some b ∧ b ≠ .free

inductive RelV (G : Gh) (h : Heap) : AVal → Value → Prop
  | p (v : AVal) (V : Value) (hp : RelP G.H v V) : RelV G h v V
  | agg (cs : List AVal) (C : Array Value) (hl : cs.length = C.size) (hh : ∀ (i : Nat) (v : AVal), cs[i]? = some v → RelV G h v (C.getD i undef)) : RelV G h (.agg cs) (.agg C)
  | tuple (cs : List AVal) (C : Array Value) (hl : cs.length = C.size) (hh : ∀ (i : Nat) (v : AVal), cs[i]? = some v → RelV G h v (C.getD i undef)) : RelV G h (.tuple cs) (.tuple C)
  | nil : RelV G h (.slice [] .nil) (.slice none 0 0)
  | own (rows : List (List AVal)) (id n sz : Nat) (V : Value) (hp : RelP G.H (.slice rows .no) V) (hf : h[id]? = some (.front n sz)) (hn : rows.length ≤ n) (hr : ∀ r ∈ rows, r.length = sz) (hc : rows.length = n → V = G.cur id) : RelV G h (.slice rows (.own id)) V
  | ptr (id off : Nat) (hl : live h id) : RelV G h (.ptr id off) (.pointer (some ⟨G.blk id, off, none⟩))
  | mslice (id off len sz cap : Nat) (hl : live h id) (hc : len ≤ cap) : RelV G h (.mslice id off len sz) (.slice (some ⟨G.blk id, off, none⟩) len cap)
  | mslice0 (id off sz cap : Nat) (a : Option Addr) : RelV G h (.mslice id off 0 sz) (.slice a 0 cap)
  | map (id : Nat) (hl : live h id) : RelV G h (.map id) (.map (some (G.blk id)))
  | func (f : Nat) (first cap : List AVal) (F C : Array Value) (hlf : first.length = F.size) (hlc : cap.length = C.size)
      (hf : ∀ (i : Nat) (v : AVal), first[i]? = some v → RelV G h v (F.getD i undef)) (hc : ∀ (i : Nat) (v : AVal), cap[i]? = some v → RelV G h v (C.getD i undef)) : RelV G h (.func f first cap) (.func (.func f) F C)
  | iface (t : Nat) (v : AVal) (V : Value) (hh : RelV G h v V) : RelV G h (.iface t v) (.iface t V)

def owner (G : Gh) (h : Heap) (id : Nat) : Option Nat :=
  match h[id]? with
  | some (.cells _) | some (.map _) => some (G.blk id)
  | some (.front _ _) => (G.cur id).ownBlock
  | _ => none

def BlkOk (G : Gh) (h : Heap) (w : World) (id : Nat) : ABlk → Prop
  | .free => True
  | .gone => True
  | .cells cs => ∃ C e, w.heap[G.blk id]? = some (.cells C e (0, 0)) ∧ C.size = cs.length ∧ (∀ k, G.H (G.blk id) k = none) ∧
      ∀ (i : Nat) (v : AVal), cs[i]? = some v → v.cellOk = true ∧ RelV G h v (C.getD i undef)
  | .front n sz => (n = 0 ∧ G.cur id = .slice none 0 0) ∨ ∃ b cap C e, G.cur id = .slice (some ⟨b, 0, none⟩) n cap ∧ w.heap[b]? = some (.cells C e (0, 0)) ∧
      n ≤ cap ∧ cap ≤ maxLen ∧ C.size = cap * sz ∧ 0 < sz ∧ ∀ k, n * sz ≤ k → G.H b k = none
  | .map es => ∃ E clock, w.heap[G.blk id]? = some (.map E clock) ∧ E.size = es.length ∧ (∀ k, G.H (G.blk id) k = none) ∧
      ∀ (i : Nat) (kv : AVal × AVal), es[i]? = some kv → ∃ m, E[i]? = some m ∧ akeyOk kv.1 = true ∧ RelP G.H kv.1 m.key ∧ RelV G h kv.2 m.val

structure Inv (G : Gh) (h : Heap) (w : World) : Prop where
  ok : ∀ b k v, G.H b k = some v → w.cell? ⟨b, k, none⟩ = some v
  blk : ∀ id bl, h[id]? = some bl → BlkOk G h w id bl
  inj : ∀ i j b, owner G h i = some b → owner G h j = some b → i = j

/-- What may become of a block. -/
def Kind (G G' : Gh) (id : Nat) : ABlk → ABlk → Prop
  | .free, _ => True
  | .gone, .gone => G'.blk id = G.blk id
  | .cells a, .cells b => a.length = b.length ∧ G'.blk id = G.blk id
  | .map _, .map _ => G'.blk id = G.blk id
  | .front n sz, .front n' sz' => n ≤ n' ∧ (n = n' → G'.cur id = G.cur id) ∧ G'.blk id = G.blk id ∧ (0 < n → sz' = sz)
  | _, _ => False

structure Ext (G : Gh) (h : Heap) (w : World) (G' : Gh) (h' : Heap) (w' : World) : Prop where
  os : w'.os = w.os
  tape : w'.tape = w.tape
  output : w'.output = w.output
  size : w.heap.size ≤ w'.heap.size
  frame : ∀ b, b < w.heap.size → (∀ id, owner G h id ≠ some b) → w'.heap[b]? = w.heap[b]? ∧ ∀ k, G'.H b k = G.H b k
  hmono : ∀ b k v, G.H b k = some v → G'.H b k = some v
  own : ∀ id b, owner G' h' id = some b → b < w.heap.size → owner G h id = some b
  kinds : ∀ id bl, h[id]? = some bl → ∃ bl', h'[id]? = some bl' ∧ Kind G G' id bl bl'

theorem Kind.refl (G : Gh) (id : Nat) (b : ABlk) : Kind G G id b b := by cases b <;> simp [Kind]
theorem Kind.trans {G G' G'' : Gh} {id : Nat} {a b c : ABlk} (h : Kind G G' id a b) (h' : Kind G' G'' id b c) : Kind G G'' id a c := by
  cases a <;> cases b <;> cases c <;> simp_all [Kind]
  obtain ⟨h1, h2, _, h5⟩ := h
  obtain ⟨h3, h4, _, h6⟩ := h'
  refine ⟨by omega, fun e => ?_, fun e => by rw [h6 (by omega), h5 e]⟩
  rw [h4 (by omega), h2 (by omega)]

theorem Ext.refl (G : Gh) (h : Heap) (w : World) : Ext G h w G h w :=
  ⟨rfl, rfl, rfl, Nat.le_refl _, fun _ _ _ => ⟨rfl, fun _ => rfl⟩, fun _ _ _ h => h, fun _ _ h _ => h, fun id bl hb => ⟨bl, hb, Kind.refl G id bl⟩⟩

theorem Ext.trans {G G' G'' : Gh} {h h' h'' : Heap} {w w' w'' : World} (a : Ext G h w G' h' w') (b : Ext G' h' w' G'' h'' w'') : Ext G h w G'' h'' w'' where
  os := b.os.trans a.os
  tape := b.tape.trans a.tape
  output := b.output.trans a.output
  size := Nat.le_trans a.size b.size
  frame := fun c hc hn => by
    obtain ⟨h1, h2⟩ := a.frame c hc hn
    obtain ⟨h3, h4⟩ := b.frame c (Nat.lt_of_lt_of_le hc a.size) (fun id ho => hn id (a.own id c ho hc))
    exact ⟨h3.trans h1, fun k => (h4 k).trans (h2 k)⟩
  hmono := fun c k v hv => b.hmono c k v (a.hmono c k v hv)
  own := fun id c ho hc => a.own id c (b.own id c ho (Nat.lt_of_lt_of_le hc a.size)) hc
  kinds := fun id bl hb => by
    obtain ⟨b1, h1, k1⟩ := a.kinds id bl hb
    obtain ⟨b2, h2, k2⟩ := b.kinds id b1 h1
    exact ⟨b2, h2, k1.trans k2⟩

/-- What the relation of a value needs of two heaps. -/
structure Mono (G : Gh) (h : Heap) (G' : Gh) (h' : Heap) : Prop where
  hmono : ∀ b k v, G.H b k = some v → G'.H b k = some v
  kinds : ∀ id bl, h[id]? = some bl → ∃ bl', h'[id]? = some bl' ∧ Kind G G' id bl bl'

theorem Ext.toMono {G G' : Gh} {h h' : Heap} {w w' : World} (a : Ext G h w G' h' w') : Mono G h G' h' := ⟨a.hmono, a.kinds⟩

theorem Mono.live {G G' : Gh} {h h' : Heap} (m : Mono G h G' h') {id : Nat} (hl : live h id) : live h' id ∧ G'.blk id = G.blk id := by
  obtain ⟨bl, h1, h2⟩ := hl
  obtain ⟨bl', h3, h4⟩ := m.kinds id bl h1
  refine ⟨⟨bl', h3, ?_⟩, ?_⟩
  · rintro rfl
    cases bl <;> simp_all [Kind]
  · cases bl <;> cases bl' <;> simp_all [Kind]

theorem RelV.mono {G G' : Gh} {h h' : Heap} (m : Mono G h G' h') {v : AVal} {V : Value} (r : RelV G h v V) : RelV G' h' v V := by
  induction r with
  | p v V hp => exact .p v V (hp.mono m.hmono)
  | agg cs C hl _ ih => exact .agg cs C hl ih
  | tuple cs C hl _ ih => exact .tuple cs C hl ih
  | nil => exact .nil
  | own rows id n sz V hp hf hn hr hc =>
    obtain ⟨bl', h3, h4⟩ := m.kinds id _ hf
    cases bl' with
    | front n' sz' =>
      obtain ⟨h6, h7, _, h8⟩ := h4
      exact .own rows id n' sz' V (hp.mono m.hmono) h3 (by omega) (fun r hm => by rw [h8 (by have := List.length_pos_of_mem hm; omega)]; exact hr r hm)
        (fun e => by rw [h7 (by omega)]; exact hc (by omega))
    | _ => exact h4.elim
  | ptr id off hl => obtain ⟨h1, h2⟩ := m.live hl; rw [← h2]; exact .ptr id off h1
  | mslice id off len sz cap hl hc => obtain ⟨h1, h2⟩ := m.live hl; rw [← h2]; exact .mslice id off len sz cap h1 hc
  | mslice0 id off sz cap a => exact .mslice0 id off sz cap a
  | map id hl => obtain ⟨h1, h2⟩ := m.live hl; rw [← h2]; exact .map id h1
  | func f first cap F C hlf hlc _ _ ihf ihc => exact .func f first cap F C hlf hlc ihf ihc
  | iface t v V _ ih => exact .iface t v V ih

end Hk
