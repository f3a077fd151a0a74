/- A part of the library Am: an abstract machine for the model, that a kernel evaluates. -/
import Derived.Test.YtpmajhocoepajaaGreatDoorAmU
import Derived.Tactics
set_option linter.unusedVariables false
set_option linter.unusedSimpArgs false
namespace Go.Am

def GRel (P : Program) (β : Map) : Prop := ∀ g, g < P.globals.size → ∃ i, β g = some i ∧ i.blk = g ∧ i.base = 0
theorem GRel.mono {P : Program} {β β' : Map} (e : Ext β β') (h : GRel P β) : GRel P β' := fun g hg => by
  obtain ⟨i, h1, h2⟩ := h g hg; exact ⟨i, e _ _ h1, h2⟩
def EnvRel (β : Map) (E : Env) (tm : Array Value) : Prop := ∀ t, VRel β (E t) (tm.getD t undef)
theorem EnvRel.mono {β β' : Map} (e : Ext β β') {E : Env} {tm : Array Value} (h : EnvRel β E tm) : EnvRel β' E tm := fun t => (h t).mono e

theorem opd_ok {P : Program} {β : Map} {E : Env} {a : Act} (hg : GRel P β) (hE : EnvRel β E a.tmps) : OpdOk P β E a.eval := by
  intro x y h
  cases x with
  | tmp t => cases h; exact hE t
  | const v =>
    obtain ⟨u, h1, h2⟩ := Option.map_eq_some_iff.1 h
    subst h2
    exact conv_rel β 5 v u h1
  | global g =>
    have h : (if g < P.globals.size then some (Opd.c (.ptr g 0)) else none) = some y := h
    split at h
    · rename_i hlt
      cases h
      obtain ⟨i, h1, h2, h3⟩ := hg g hlt
      have := VRel.ptr (off := 0) h1
      rw [h2, h3] at this
      exact this
    · cases h
  | func f => cases h; exact .fn nofun .nil .nil

theorem undef_rel (β : Map) : VRel β (.tup []) undef := .tup .nil

theorem EnvRel.put {β : Map} {E : Env} {a : Act} (h : EnvRel β E a.tmps) {d : Option Nat} {nt : Nat} (hnt : a.tmps.size = nt) (hd : ∀ t, d = some t → t < nt) {v : AVal} {v' : Value} (hv : VRel β v v') :
    EnvRel β (Am.put E d v) (a.put d v').tmps := by
  intro t
  cases d with
  | none => exact h t
  | some d =>
    have hlt := hd d rfl
    show VRel β (if t = d then v else E t) ((a.tmps.setIfInBounds d v').getD t undef)
    rw [Array.getD_eq_getD_getElem?, Array.getElem?_setIfInBounds]
    by_cases e : t = d
    · subst e; simp [hnt, hlt]; exact hv
    · rw [if_neg e, if_neg (fun c => e c.symm), ← Array.getD_eq_getD_getElem?]; exact h t
theorem put_size (a : Act) (d : Option Nat) (v : Value) : (a.put d v).tmps.size = a.tmps.size := by
  cases d <;> simp [Act.put]
theorem put_defers (a : Act) (d : Option Nat) (v : Value) : (a.put d v).defers = a.defers := by
  cases d <;> rfl

/-- the guard, here and there -/
theorem guard_ok {β : Map} {E : Env} {a : Act} (hE : EnvRel β E a.tmps) {ops : Array Oper} {o : Oper} {g : Option (Nat × Bool)} (hg : gdst ops o.guard = some g) {b : Bool} (h : gd g E = some b) :
    Region.wanted o (yielded ops a.tmps) = b := by
  unfold gdst at hg
  unfold Region.wanted
  cases ho : o.guard with
  | none =>
    rw [ho] at hg; cases hg; cases h; rfl
  | some q =>
    obtain ⟨j, want⟩ := q
    rw [ho] at hg
    dsimp only at hg ⊢
    cases hd : (ops[j]?).bind (·.dst) with
    | none => rw [hd] at hg; cases hg
    | some t =>
      rw [hd] at hg; cases hg
      have ht := hE t
      unfold yielded
      rw [hd]
      simp only [Option.bind_some]
      unfold gd at h
      dsimp only at h
      split at h
      · rename_i b' e
        cases h
        rw [e] at ht
        have : a.tmps[t]? = some (.bool b') := by
          rw [Array.getD_eq_getD_getElem?] at ht
          cases q : a.tmps[t]? with
          | none => rw [q] at ht; cases ht
          | some u => rw [q] at ht; cases ht; rfl
        rw [this]
        cases b' <;> cases want <;> rfl
      · rename_i e
        cases h
        rw [e] at ht
        rw [Array.getD_eq_getD_getElem?] at ht
        cases q : a.tmps[t]? with
        | none => cases want <;> rfl
        | some u =>
          rw [q] at ht
          have : ∀ u', VRel β (.tup []) u' → ∀ b, u' ≠ .bool b := by intro u' h b e; subst e; cases h
          have := this _ ht
          simp only [Option.getD_some] at this
          cases u <;> first | (exact absurd rfl (this _)) | (cases want <;> rfl)
      · cases h

/-- what is said of a call -/
def CallOk (P : Program) (f : FuncId) (args : List AVal) (H : Heap) (v : AVal) (H1 : Heap) : Prop :=
  (∃ fn, P.funcs[f]? = some fn ∧ fn.body.isSome = true ∧ fn.name ≠ "runtime.NumGoroutine") ∧ H.next ≤ H1.next ∧
  ∀ (β : Map) (args' : Array Value) (w : World), HRel β H.obj w → GRel P β → FreeB β H.next H1.next → (∀ id, H.next ≤ id → H.obj id = none) → LRel β args args'.toList →
    Calls P f args' w fun e w' => ∃ β' v', e = .returned v' ∧ VRel β' v v' ∧ Post β H.obj H.next w β' H1.obj H1.next w'

/-- one operation that runs: pure, reading, making, writing, calling -/
inductive Does (P : Program) (s : SOp) (l : List AVal) (H : Heap) : AVal → Heap → Prop where
  | pu {f v} : s = .pur f → f l = some v → Does P s l H v H
  | rd {f v} : s = .rd f → f l H = some v → Does P s l H v H
  | al {f o k} : s = .al f → f l = some (o, k) → Does P s l H (k H.next) (H.new o)
  | ef {f v H1} : s = .ef f → f l H = some (v, H1) → H.next ≤ H1.next → Does P s l H v H1
  | call {f args v H1} : s.calls l = some (f, args) → CallOk P f args H v H1 → Does P s l H v H1

theorem exec_does {P : Program} {s : SOp} {l : List AVal} {H : Heap} {v : AVal} {H1 : Heap} (h : s.exec l H = some (v, H1)) : Does P s l H v H1 := by
  cases s with
  | pur f => obtain ⟨u, h1, h2⟩ := onOpt_eq.1 h; cases h2; exact .pu rfl h1
  | rd f => obtain ⟨u, h1, h2⟩ := onOpt_eq.1 h; cases h2; exact .rd rfl h1
  | al f => obtain ⟨⟨o, k⟩, h1, h2⟩ := onOpt_eq.1 h; cases h2; exact .al rfl h1
  | ef f =>
    obtain ⟨⟨u, H2⟩, h1, h2⟩ := onOpt_eq.1 h
    obtain ⟨h3, h4⟩ := ifB_eq.1 h2
    cases h4
    exact .ef rfl h1 (Nat.le_of_ble_eq_true h3)
  | call f => cases h
  | callv => cases h

theorem Does.mono {P : Program} {s : SOp} {l : List AVal} {H : Heap} {v : AVal} {H1 : Heap} (h : Does P s l H v H1) : H.next ≤ H1.next := by
  cases h with
  | pu => exact Nat.le_refl _
  | rd => exact Nat.le_refl _
  | al => rw [Heap.new_next]; omega
  | ef _ _ h => exact h
  | call _ h => exact h.2.1

/-- an operation of the model that is followed -/
theorem wp_call {P : Program} {o : Oper} {a : Act} {w : World} {K : Act → World → Prop} {Q : Exit → Act → World → Prop} {f : FuncId} {args : Array Value} (hx : (execOp a.eval o).run P w = .ok (.enter f args) w)
    {R : Value → World → Prop} (hc : Calls P f args w fun e w' => ∃ v', e = .returned v' ∧ R v' w') (hK : ∀ v' w', R v' w' → K (a.put o.dst v') w') : o.wp P a w K Q := by
  unfold Oper.wp
  rw [hx, Oper.upon_enter]
  refine hc.mono ?_
  rintro e w' ⟨v', rfl, hr⟩
  exact hK _ _ hr

/-- an operation, its values known: in whatever memory -/
theorem does_wp {P : Program} {β : Map} {E : Env} {a : Act} {w : World} {o : Oper} {s : SOp} {xs : List Opd} (hg : GRel P β) (hE : EnvRel β E a.tmps) (hc : cOp P o = some (s, xs)) {H H1 : Heap} {v : AVal}
    (hd : Does P s (xs.map (Opd.ev E)) H v H1) (hr : HRel β H.obj w) (hf : FreeB β H.next H1.next) (hwf : ∀ id, H.next ≤ id → H.obj id = none) {K : Act → World → Prop} {Q : Exit → Act → World → Prop}
    (hK : ∀ β' v' w', VRel β' v v' → Post β H.obj H.next w β' H1.obj H1.next w' → K (a.put o.dst v') w') : o.wp P a w K Q := by
  have hop := op_ok (opd_ok hg hE) (fun _ => rfl) (fun _ => rfl) hc
  cases hd with
  | pu e h1 =>
    subst e
    obtain ⟨v', g1, g2⟩ := hop v w h1
    unfold Oper.wp; rw [g1, Oper.upon_value]
    exact hK _ _ _ g2 (Post.refl hr)
  | rd e h1 =>
    subst e
    obtain ⟨v', g1, g2⟩ := hop v w H hr h1
    unfold Oper.wp; rw [g1, Oper.upon_value]
    exact hK _ _ _ g2 (Post.refl hr)
  | al e h1 =>
    subst e
    obtain ⟨v', w', i, co, g1, g2⟩ := hop _ _ w h1
    unfold Oper.wp; rw [g1, Oper.upon_value]
    have hn : β H.next = none := hf _ (Nat.le_refl _) (by rw [Heap.new_next]; omega)
    refine hK (fun id => if id = H.next then some i else β id) _ _ (g2.val _ _ (by simp)) ?_
    rw [Heap.new_next]
    exact Post.alloc hr hn g2.blk g2.heap g2.rest g2.rel fun id => Heap.obj_new _ _ _
  | ef e h1 h2 =>
    subst e
    obtain ⟨n, v', w', β', g1, g2, g3, g4⟩ := hop _ w H H1 hr hf h1
    unfold Oper.wp; rw [g1]
    cases g2 with
    | value v' => rw [Oper.upon_value]; exact hK _ _ _ g4 g3
    | skip => rw [Oper.upon_skip]; exact hK _ _ _ g4 g3
  | @call f args _ _ h1 h2 =>
    obtain ⟨⟨fn, f1, f2, f3⟩, _, h3⟩ := h2
    cases s with
    | call g =>
      cases h1
      obtain ⟨args', q1, q2⟩ := hop
      refine wp_call (R := fun v' w' => ∃ β', VRel β' v v' ∧ Post β H.obj H.next w β' H1.obj H1.next w') (q2 w) ((h3 β args' w hr hg hf hwf q1).mono ?_) ?_
      · rintro e w' ⟨β', v', h4, h5, h6⟩; exact ⟨v', h4, β', h5, h6⟩
      · rintro v' w' ⟨β', h5, h6⟩; exact hK _ _ _ h5 h6
    | callv =>
      have h1 : (match xs.map (Opd.ev E) with
        | .fn (.func f) a c :: l => some (f, a ++ l ++ c)
        | _ => none) = some (f, args) := h1
      split at h1
      · rename_i g b c m e
        cases h1
        obtain ⟨args', q1, q2⟩ := hop _ _ _ _ _ e f1 f2 f3
        refine wp_call (R := fun v' w' => ∃ β', VRel β' v v' ∧ Post β H.obj H.next w β' H1.obj H1.next w') (q2 w) ((h3 β args' w hr hg hf hwf q1).mono ?_) ?_
        · rintro e w' ⟨β', v', h4, h5, h6⟩; exact ⟨v', h4, β', h5, h6⟩
        · rintro v' w' ⟨β', h5, h6⟩; exact hK _ _ _ h5 h6
      · cases h1
    | _ => cases h1

end Go.Am
