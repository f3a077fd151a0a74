/- A part of the library Am: an abstract machine for the model, that a kernel evaluates. -/
import Derived.Test.YtpmajhocoepajaaGreatDoorAmT2
set_option linter.unusedVariables false
set_option linter.unusedSimpArgs false
/-
  Am: tables of functions; calls that answer a plain value out of plain values, once and for all memories.
-/
namespace Go.Am

def GS (P : Program) (S : FuncId → List AVal → Heap → AVal → Heap → Prop) (s : Nat → TT → FnC) : Prop := ∀ f, GoodF P S f (s f)
noncomputable def leafT (i : Nat) (c : TT → FnC) : Nat → TT → FnC := fun f => Bool.rec (motive := fun _ => (TT → FnC) → TT → FnC) (fun _ _ _ _ _ => none) (fun c => c) (Nat.beq f i) c
noncomputable def nodeT (m : Nat) (a b : Nat → TT → FnC) : Nat → TT → FnC := fun f => Bool.rec (motive := fun _ => Nat → TT → FnC) b a (Nat.ble f m) f
section
variable {P : Program} {S : FuncId → List AVal → Heap → AVal → Heap → Prop}
theorem GS.leaf {i : Nat} {c : TT → FnC} (h : GoodF P S i c) : GS P S (leafT i c) := by
  intro f T hT args H k r hr
  have hr : Bool.rec (motive := fun _ => (TT → FnC) → TT → FnC) (fun _ _ _ _ _ => none) (fun c => c) (Nat.beq f i) c T args H k = some r := hr
  cases hb : Nat.beq f i with
  | false => rw [hb] at hr; cases hr
  | true =>
    rw [hb] at hr
    have e := Nat.eq_of_beq_eq_true hb
    have hr : c T args H k = some r := hr
    rw [e]
    exact h T hT args H k r hr
theorem GS.node {m : Nat} {a b : Nat → TT → FnC} (ha : GS P S a) (hb : GS P S b) : GS P S (nodeT m a b) := by
  intro f T hT args H k r hr
  have hr : Bool.rec (motive := fun _ => Nat → TT → FnC) b a (Nat.ble f m) f T args H k = some r := hr
  cases h : Nat.ble f m with
  | false => rw [h] at hr; exact hb f T hT args H k r hr
  | true => rw [h] at hr; exact ha f T hT args H k r hr
theorem GS.tab {s : Nat → TT → FnC} (h : GS P S s) (T : TT) (hT : GoodT P S T) : GoodT P S (fun f => s f T) := fun f args H k r hr => h f T hT args H k r hr

noncomputable def sumT (tbl : Nat → List AVal → Option AVal) (T0 : TT) : TT := fun f args H k =>
  Option.rec (motive := fun _ => (AVal → R) → R → R) (fun _ r => r) (fun v g _ => g v) (tbl f args) (fun v => k v H) (T0 f args H k)
theorem sumT_good {tbl : Nat → List AVal → Option AVal} {T0 : TT} (hT : GoodT P S T0) (h : ∀ f args v, tbl f args = some v → ∀ H, S f args H v H) : GoodT P S (sumT tbl T0) := by
  intro f args H k r hr
  have hr : Option.rec (motive := fun _ => (AVal → R) → R → R) (fun _ r => r) (fun v g _ => g v) (tbl f args) (fun v => k v H) (T0 f args H k) = some r := hr
  cases ht : tbl f args with
  | none => rw [ht] at hr; exact hT f args H k r hr
  | some v => rw [ht] at hr; exact ⟨v, H, .sum (h _ _ _ ht H), hr⟩
end

noncomputable def look (l : List (Nat × List AVal × AVal)) : Nat → List AVal → Option AVal :=
  List.rec (motive := fun _ => Nat → List AVal → Option AVal) (fun _ _ => none) (fun p _ ih f args => Bool.rec (motive := fun _ => Option AVal) (ih f args) (some p.2.2) (and (Nat.beq f p.1) (sameL args p.2.1))) l
theorem look_mem {f : Nat} {args : List AVal} {v : AVal} : ∀ {l : List (Nat × List AVal × AVal)}, look l f args = some v → (f, args, v) ∈ l
  | [], h => by cases h
  | p :: l, h => by
    have h : Bool.rec (motive := fun _ => Option AVal) (look l f args) (some p.2.2) (and (Nat.beq f p.1) (sameL args p.2.1)) = some v := h
    cases hb : and (Nat.beq f p.1) (sameL args p.2.1) with
    | false => rw [hb] at h; exact List.mem_cons_of_mem _ (look_mem h)
    | true =>
      rw [hb] at h
      have h : some p.2.2 = some v := h
      rw [Bool.and_eq_true] at hb
      have h1 := Nat.eq_of_beq_eq_true hb.1
      have h2 := sameL_eq hb.2
      obtain ⟨f', a', v'⟩ := p
      cases h
      dsimp only at h1 h2
      subst h1 h2
      exact List.mem_cons_self

/-! ## from no memory to any -/
noncomputable def Heap.blank (n : Nat) : Heap := Nat.rec (motive := fun _ => Heap) Heap.empty (fun _ H => ⟨Nat.succ H.next, H.l.new none, H.ov, SL.new_ok _ _ _ H.ok⟩) n
theorem Heap.blank_next (n : Nat) : (Heap.blank n).next = n := by
  induction n with
  | zero => rfl
  | succ n ih => show (Heap.blank n).next + 1 = _; rw [ih]
theorem Heap.blank_obj (n id : Nat) : (Heap.blank n).obj id = none := by
  induction n with
  | zero => rfl
  | succ n ih =>
    show Bool.rec (motive := fun _ => Option AObj) ((Heap.blank n).ov.get id) (((Heap.blank n).l.new none).get ((Heap.blank n).next + 1 - (id + 1))) (Nat.ble (Nat.succ id) ((Heap.blank n).next + 1)) = none
    have ih' : Bool.rec (motive := fun _ => Option AObj) ((Heap.blank n).ov.get id) ((Heap.blank n).l.get ((Heap.blank n).next - (id + 1))) (Nat.ble (Nat.succ id) (Heap.blank n).next) = none := ih
    rw [SL.blt] at ih' ⊢
    by_cases hj : id < (Heap.blank n).next + 1
    · simp only [hj, decide_true]
      rw [SL.get_new _ _ _ _ (Heap.blank n).ok (by omega)]
      by_cases e : id = (Heap.blank n).next
      · rw [if_pos (by omega)]
      · rw [if_neg (by omega)]
        rw [show decide (id < (Heap.blank n).next) = true by simp; omega] at ih'
        rw [show (Heap.blank n).next + 1 - (id + 1) - 1 = (Heap.blank n).next - (id + 1) by omega]
        exact ih'
    · simp only [hj, decide_false]
      rw [show decide (id < (Heap.blank n).next) = false by simp; omega] at ih'
      exact ih'

def Scal : AVal → Prop
  | .bool _ | .int .. | .str .. => True
  | _ => False
theorem Scal.rel {β β' : Map} {v : AVal} {x : Value} (h : Scal v) (r : VRel β v x) : VRel β' v x := by
  cases r <;> first | exact False.elim h | constructor
  assumption
theorem Scal.rels {β β' : Map} : ∀ {l : List AVal} {m : List Value}, (∀ a ∈ l, Scal a) → LRel β l m → LRel β' l m
  | _, _, _, .nil => .nil
  | _, _, h, .cons a b => .cons ((h _ List.mem_cons_self).rel a) (Scal.rels (fun x hx => h x (List.mem_cons_of_mem _ hx)) b)

theorem CallOk.anywhere {P : Program} {f : FuncId} {args : List AVal} {v : AVal} {H1 : Heap} (h : CallOk P f args (Heap.blank P.globals.size) v H1) (ha : ∀ a ∈ args, Scal a) (hv : Scal v) (H : Heap) : CallOk P f args H v H := by
  obtain ⟨h1, h2, h3⟩ := h
  refine ⟨h1, Nat.le_refl _, ?_⟩
  intro β args' w hr hg hf hw hl
  have hn := Heap.blank_next P.globals.size
  refine (h3 (fun g => if g < P.globals.size then β g else none) args' w ⟨?_, ?_, ?_⟩ ?_ ?_ ?_ (Scal.rels ha hl)).mono ?_
  · intro id i o _ ho; rw [Heap.blank_obj] at ho; cases ho
  · intro id id' i i' o o' _ _ _ ho; rw [Heap.blank_obj] at ho; cases ho
  · intro id i hi
    have hi : (if id < P.globals.size then β id else none) = some i := hi
    split at hi
    · exact hr.lt hi
    · cases hi
  · intro g hg'
    obtain ⟨i, g1, g2, g3⟩ := hg g hg'
    exact ⟨i, by show (if g < P.globals.size then β g else none) = some i; rw [if_pos hg']; exact g1, g2, g3⟩
  · intro id hid _
    show (if id < P.globals.size then β id else none) = none
    rw [if_neg (by omega)]
  · intro id _; exact Heap.blank_obj _ _
  · rintro e w' ⟨β', v', rfl, hv', hp⟩
    have hfr : ∀ b, b < w.heap.size → w'.heap[b]? = w.heap[b]? := fun b hb => hp.frame b hb fun id i o _ ho => by rw [Heap.blank_obj] at ho; cases ho
    refine ⟨β, v', rfl, hv.rel hv', ⟨⟨Ext.refl β, ⟨?_, hr.apart, ?_⟩, hp.still, fun b hb _ => hfr b hb, fun h4 h5 => .inr ⟨_, _, _, h4, h5, rfl, fun h => h⟩⟩, fun h4 h5 => absurd (h5.symm.trans h4) nofun, Nat.le_refl _, fun h => h⟩⟩
    · intro id i o hi ho
      obtain ⟨co, g1, g2⟩ := hr.obj hi ho
      exact ⟨co, by rw [hfr _ (hr.lt hi)]; exact g1, g2⟩
    · intro id i hi
      exact Nat.lt_of_lt_of_le (hr.lt hi) hp.still.size

/-! ## what an evaluation shows -/
noncomputable def kEnd : AVal → Heap → R := fun v H => some (v, H)
noncomputable def isV (u : AVal) (r : R) : Bool := Option.rec (motive := fun _ => Bool) false (fun p => Prod.rec (motive := fun _ => Bool) (fun v _ => same v u) p) r
theorem isV_eq {u : AVal} {r : R} (h : isV u r = true) : ∃ H, r = some (u, H) := by
  cases r with
  | none => cases h
  | some p => obtain ⟨v, H⟩ := p; exact ⟨H, by rw [same_eq (show same v u = true from h)]⟩
theorem callOk_of_isV {P : Program} {S : FuncId → List AVal → Heap → AVal → Heap → Prop} (hok : ∀ j r, BS P S j r → Mot P j r) {T : TT} (hT : GoodT P S T) {f : Nat} {args : List AVal} {H : Heap} {v : AVal} (h : isV v (T f args H kEnd) = true) : ∃ H1, CallOk P f args H v H1 := by
  obtain ⟨H1, h1⟩ := isV_eq h
  obtain ⟨u, H2, h2, h3⟩ := hT f args H kEnd _ h1
  cases h3
  exact ⟨_, hok _ _ h2⟩
end Go.Am
