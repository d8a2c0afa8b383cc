/-
  A REGION.
-/
import Derived.Test.YtkeoalhglkfbkaaDoorHkRegion3
set_option linter.unusedVariables false
set_option linter.unusedSimpArgs false
namespace Hk
open Go Go.RowKit

section
variable {cx : Cx} {ρ : List AVal} {h : Heap} {k : List AVal → Heap → Option R} {r : R} {ops : Array Oper} {G : Gh} {w : World} {a : Act} {Q : Exit → Act → World → Prop}

theorem itemsFrom_spec {os : List Oper} {cl : List Nat} : ∀ (l before : List Nat), ∀ it ∈ itemsFrom os cl l before, os[it.i]? = some it.o ∧ (isEff it.o = false → it.locks = []) := by
  intro l
  induction l with
  | nil => intro before it hit; cases hit
  | cons i l ih =>
    intro before it hit
    unfold itemsFrom at hit
    split at hit
    · rename_i o ho
      rcases List.mem_cons.1 hit with rfl | hit
      · exact ⟨ho, fun he => by simp at he; simp [he]⟩
      · exact ih _ it hit
    · cases hit

theorem putSlot_length (ρ : List AVal) (d : Option Tmp) (v : AVal) : (putSlot ρ d v).length = ρ.length := by cases d <;> simp [putSlot]

/-- The slots keep their number. -/
theorem evalItems_len {os : List Oper} {kp : AVal → Heap → Option R} (n : Nat) : ∀ (items : List Item) (seen ρ : List AVal) (h : Heap), ρ.length = n →
    evalItems cx os items seen ρ h k kp = evalItems cx os items seen ρ h (fun ρ' h' => if ρ'.length = n then k ρ' h' else none) kp := by
  intro items
  induction items with
  | nil => intro seen ρ h hn; simp [evalItems, hn]
  | cons it rest ih =>
    intro seen ρ h hn
    simp only [evalItems]
    congr 1
    funext v h'
    exact ih _ _ _ (by rw [putSlot_length, hn])

/-- How the ends of the evaluator stand to the exits of the model. -/
def ExPost (n : Nat) (kn : List AVal → Heap → Option R) (ke : Ex → List AVal → Heap → Option R) (r : R) (G : Gh) (h : Heap) (w : World) (Q : Exit → Act → World → Prop) : Prop :=
  (∀ ρ' h' G' w' a', kn ρ' h' = some r → Ext G h w G' h' w' → Inv G' h' w' → Slots G' h' ρ' a' → ρ'.length = n → Q .normal a' w') ∧
  ∀ e ρ' h' G' w' a', ke e ρ' h' = some r → Ext G h w G' h' w' → Inv G' h' w' → Slots G' h' ρ' a' → ρ'.length = n →
    match e with
    | .exit id => Q (.exit id) a' w'
    | .ret => Q .ret a' w'
    | _ => True

theorem Ext.undrew {G' : Gh} {h' : Heap} {w' : World} (x : Ext G h { w with drawn := w.drawn + 1 } G' h' w') : Ext G h w G' h' w' :=
  ⟨x.os, x.tape, x.output, x.size, x.frame, x.hmono, x.own, x.kinds⟩

theorem evalRegion_sound {id : Nat} {draw : Bool} (hm : cx.P.follows .mixedOrders = true) (hX : ExtOk cx.P cx.A) (hK : SoundK cx.P cx.A cx.K) (hb : evalRegion cx ops.toList draw ρ h k = some r) (i : Inv G h w) (gl : GlobOk cx.A G.H) (s : Slots G h ρ a)
    (hn : ρ.length = cx.n)
    (hk : ∀ ρ' h' G' w' a', k ρ' h' = some r → Ext G h w G' h' w' → Inv G' h' w' → Slots G' h' ρ' a' → ρ'.length = cx.n → Q .normal a' w') : (Code.region id ops draw).wp cx.P Q a w := by
  cases draw with
  | false =>
    simp only [evalRegion] at hb
    rw [evalItems_len cx.n _ _ _ _ hn] at hb
    refine wp_region ?_
    rw [← plainItems_spec.1]
    refine items_plain hX hK _ _ _ _ G w a plainItems_spec.2 hb i gl s (fun ρ' h' G' w' a' e1 e2 e3 e4 => ?_) (fun v h' G' w' V a' e1 e2 e3 e4 e5 => ?_)
    · split at e1
      · rename_i hl; exact hk ρ' h' G' w' a' e1 e2 e3 e4 hl
      · cases e1
    · cases e1
  | true =>
    simp only [evalRegion] at hb
    cases hd : drawnItems ops.toList with
    | none => simp only [hd] at hb; cases hb
    | some items =>
      simp only [hd] at hb
      unfold drawnItems at hd
      simp only [] at hd
      generalize hit : itemsFrom ops.toList (clos ops.toList) (orderOf ops.toList) [] = items' at hd
      cases hc : (pairsOk ops.toList (clos ops.toList) items' && edgesOk ops.toList && (items'.length == ops.toList.length) && (List.range ops.toList.length).all (fun i => items'.any fun it => it.i == i)) with
      | false => rw [hc] at hd; cases hd
      | true =>
        rw [hc] at hd
        cases hd
        rw [evalItems_len cx.n _ _ _ _ hn] at hb
        simp only [Bool.and_eq_true, beq_iff_eq, Array.length_toList, List.all_eq_true, List.mem_range, List.any_eq_true] at hc
        obtain ⟨⟨⟨h1, h2⟩, h3⟩, h4⟩ := hc
        have hspec : ∀ it ∈ items, ops[it.i]? = some it.o ∧ (isEff it.o = false → it.locks = []) := by
          intro it hm
          rw [← hit] at hm
          have := itemsFrom_spec _ _ it hm
          rwa [Array.getElem?_toList] at this
        refine wp_region_any hm ?_
        refine wpAny_items hX hK (fun j o ho e he hbd => ?_) ops.size items _ ρ h G _ a _ h3 h1 hspec (by simp) (by simp) (fun j => ?_) (fun j hj => ?_) hb i.drew gl s
          (fun ρ' h' G' w' a' e1 e2 e3 e4 => by
            split at e1
            · rename_i hl; exact hk ρ' h' G' w' a' e1 e2.undrew e3 e4 hl
            · cases e1) (fun v h' G' w' V a' e1 e2 e3 e4 e5 => by cases e1)
        · simp only [edgesOk, List.all_eq_true] at h2
          have := h2 (o, j) (List.mem_zipIdx_iff_getElem?.2 (by simpa using ho)) e (by simpa using he)
          simpa [hbd] using this
        · constructor
          · intro hj
            have hlt : j < ops.size := by
              by_cases hlt : j < ops.size
              · exact hlt
              · simp [Array.getD, hlt] at hj
            obtain ⟨x, hx, he⟩ := h4 j hlt
            exact ⟨x, hx, by simpa using he⟩
          · rintro ⟨x, hx, rfl⟩
            have := (Array.getElem?_eq_some_iff.1 (hspec x hx).1).1
            simp [Array.getD, this]
        · exfalso
          simp [Array.getD] at hj

end
end Hk
