/- A part of the library Am: an abstract machine for the model, that a kernel evaluates. -/
import Derived.Test.YtpmajhocoepajaaGreatDoorAmR
set_option linter.unusedVariables false
set_option linter.unusedSimpArgs false
namespace Go.Am
section
variable {P : Program} {β : Map} {E : Env} {ρ : Operand → Value} {o : Oper} {s : SOp} {xs : List Opd}

theorem op_ix (hE : OpdOk P β E ρ) {t : TypeId} {x i : Operand} (ho : o.op = .index t x i) (h : cOp P o = some (s, xs)) : OpOk P β ρ o (xs.map (Opd.ev E)) s := by
  unfold cOp at h; rw [ho] at h
  obtain ⟨d, h1, h⟩ := Option.bind_eq_some_iff.1 h
  split at h
  · obtain ⟨y1, h3, h⟩ := Option.bind_eq_some_iff.1 h
    obtain ⟨y2, h4, h⟩ := Option.bind_eq_some_iff.1 h
    cases h
    intro v w hv
    obtain ⟨a1, a2, m, e, hv⟩ := g2_eq.1 hv
    cases e
    obtain ⟨v', g1, g2⟩ := ixS_ok (P := P) h1 (hE _ _ h3) (hE _ _ h4) hv w
    refine ⟨v', ?_, g2⟩
    unfold execOp; rw [ho]; exact val_of g1
  · obtain ⟨b, h2, h⟩ := Option.bind_eq_some_iff.1 h
    split at h
    · obtain ⟨n, h5, h⟩ := Option.bind_eq_some_iff.1 h
      obtain ⟨y1, h3, h⟩ := Option.bind_eq_some_iff.1 h
      obtain ⟨y2, h4, h⟩ := Option.bind_eq_some_iff.1 h
      cases h
      intro v w hv
      obtain ⟨a1, a2, m, e, hv⟩ := g2_eq.1 hv
      cases e
      obtain ⟨v', g1, g2⟩ := ixA_ok (P := P) h1 h2 h5 (hE _ _ h3) (hE _ _ h4) (by simpa using hv) w
      refine ⟨v', ?_, g2⟩
      unfold execOp; rw [ho]; exact val_of g1
    · obtain ⟨n, h5, h⟩ := Option.bind_eq_some_iff.1 h
      obtain ⟨y1, h3, h⟩ := Option.bind_eq_some_iff.1 h
      obtain ⟨y2, h4, h⟩ := Option.bind_eq_some_iff.1 h
      cases h
      intro v w hv
      obtain ⟨a1, a2, m, e, hv⟩ := g2_eq.1 hv
      cases e
      obtain ⟨v', g1, g2⟩ := ixA_ok (P := P) h1 h2 h5 (hE _ _ h3) (hE _ _ h4) (by simpa using hv) w
      refine ⟨v', ?_, g2⟩
      unfold execOp; rw [ho]; exact val_of g1
  · cases h

theorem op_lk (hE : OpdOk P β E ρ) {t : TypeId} {x k : Operand} {ok : Bool} (ho : o.op = .lookup t x k ok) (h : cOp P o = some (s, xs)) : OpOk P β ρ o (xs.map (Opd.ev E)) s := by
  unfold cOp at h; rw [ho] at h
  obtain ⟨d, h1, h⟩ := Option.bind_eq_some_iff.1 h
  split at h
  · obtain ⟨tk, h2, h⟩ := Option.bind_eq_some_iff.1 h
    obtain ⟨⟨zv, zs⟩, h5, h⟩ := Option.bind_eq_some_iff.1 h
    obtain ⟨y1, h3, h⟩ := Option.bind_eq_some_iff.1 h
    obtain ⟨y2, h4, h⟩ := Option.bind_eq_some_iff.1 h
    cases h
    intro v w H hr hv
    obtain ⟨a1, a2, m, e, hv⟩ := g2_eq.1 hv
    cases e
    obtain ⟨v', g1, g2⟩ := lk_ok (P := P) hr h1 h2 h5 (hE _ _ h3) (hE _ _ h4) hv
    refine ⟨v', ?_, g2⟩
    unfold execOp; rw [ho]; exact val_of g1
  · cases h

theorem op_mu (hE : OpdOk P β E ρ) {t : TypeId} {x k y : Operand} (ho : o.op = .mapUpdate t x k y) (h : cOp P o = some (s, xs)) : OpOk P β ρ o (xs.map (Opd.ev E)) s := by
  unfold cOp at h; rw [ho] at h
  obtain ⟨d, h1, h⟩ := Option.bind_eq_some_iff.1 h
  split at h
  · obtain ⟨tk, h2, h⟩ := Option.bind_eq_some_iff.1 h
    obtain ⟨y1, h3, h⟩ := Option.bind_eq_some_iff.1 h
    obtain ⟨y2, h4, h⟩ := Option.bind_eq_some_iff.1 h
    obtain ⟨y3, h5, h⟩ := Option.bind_eq_some_iff.1 h
    cases h
    intro v w H H' hr hn hv
    obtain ⟨a1, a2, a3, m, e, hv⟩ := g3_eq.1 hv
    cases e
    obtain ⟨e1, w', β', g1, g2⟩ := mu_ok (P := P) hr h1 h2 (hE _ _ h3) (hE _ _ h4) (hE _ _ h5) hv
    subst e1
    refine ⟨.skip, undef, w', β', ?_, .skip, g2, .tup .nil⟩
    unfold execOp; rw [ho]; exact skip_of g1
  · cases h

theorem op_ins (hE : OpdOk P β E ρ) {t : TypeId} {x k y : Operand} (ho : o.op = .insert t x k y) (h : cOp P o = some (s, xs)) : OpOk P β ρ o (xs.map (Opd.ev E)) s := by
  unfold cOp at h; rw [ho] at h
  obtain ⟨d, h1, h⟩ := Option.bind_eq_some_iff.1 h
  split at h
  · obtain ⟨tk, h2, h⟩ := Option.bind_eq_some_iff.1 h
    obtain ⟨y1, h3, h⟩ := Option.bind_eq_some_iff.1 h
    obtain ⟨y2, h4, h⟩ := Option.bind_eq_some_iff.1 h
    obtain ⟨y3, h5, h⟩ := Option.bind_eq_some_iff.1 h
    cases h
    intro v w H H' hr hn hv
    obtain ⟨a1, a2, a3, m, e, hv⟩ := g3_eq.1 hv
    cases e
    obtain ⟨e1, w', β', g1, g2⟩ := mu_ok (P := P) hr h1 h2 (hE _ _ h3) (hE _ _ h4) (hE _ _ h5) hv
    subst e1
    refine ⟨.skip, undef, w', β', ?_, .skip, g2, .tup .nil⟩
    unfold execOp; rw [ho]; exact skip_of g1
  · cases h

theorem op_me (hE : OpdOk P β E ρ) {t : TypeId} {x k : Operand} (ho : o.op = .mapEntry t x k) (h : cOp P o = some (s, xs)) : OpOk P β ρ o (xs.map (Opd.ev E)) s := by
  unfold cOp at h; rw [ho] at h
  obtain ⟨d, h1, h⟩ := Option.bind_eq_some_iff.1 h
  split at h
  · obtain ⟨tk, h2, h⟩ := Option.bind_eq_some_iff.1 h
    obtain ⟨⟨zv, zs⟩, h5, h⟩ := Option.bind_eq_some_iff.1 h
    obtain ⟨y1, h3, h⟩ := Option.bind_eq_some_iff.1 h
    obtain ⟨y2, h4, h⟩ := Option.bind_eq_some_iff.1 h
    cases h
    intro v w H H' hr hn hv
    obtain ⟨a1, a2, m, e, hv⟩ := g2_eq.1 hv
    cases e
    obtain ⟨v', w', β', g1, g2, g3⟩ := me_ok (P := P) hr h1 h2 h5 (hE _ _ h3) (hE _ _ h4) hv
    refine ⟨_, v', w', β', ?_, .value _, g2, g3⟩
    unfold execOp; rw [ho]; exact val_of g1
  · cases h

theorem op_es (hE : OpdOk P β E ρ) {t : TypeId} {x k y : Operand} (ho : o.op = .entryStore t x k y) (h : cOp P o = some (s, xs)) : OpOk P β ρ o (xs.map (Opd.ev E)) s := by
  unfold cOp at h; rw [ho] at h
  obtain ⟨y1, h3, h⟩ := Option.bind_eq_some_iff.1 h
  obtain ⟨y2, h4, h⟩ := Option.bind_eq_some_iff.1 h
  obtain ⟨y3, h5, h⟩ := Option.bind_eq_some_iff.1 h
  cases h
  intro v w H H' hr hn hv
  obtain ⟨a1, a2, a3, m, e, hv⟩ := g3_eq.1 hv
  cases e
  obtain ⟨e1, w', β', g1, g2⟩ := es_ok (P := P) hr (hE _ _ h3) (hE _ _ h4) (hE _ _ h5) hv
  subst e1
  refine ⟨.skip, undef, w', β', ?_, .skip, g2, .tup .nil⟩
  unfold execOp; rw [ho]; exact skip_of g1

theorem op_range (hE : OpdOk P β E ρ) {t : TypeId} {x : Operand} (ho : o.op = .range t x) (h : cOp P o = some (s, xs)) : OpOk P β ρ o (xs.map (Opd.ev E)) s := by
  unfold cOp at h; rw [ho] at h
  obtain ⟨d, h1, h⟩ := Option.bind_eq_some_iff.1 h
  split at h
  · obtain ⟨y1, h3, h⟩ := Option.bind_eq_some_iff.1 h
    cases h
    intro ob k w hv
    obtain ⟨a1, m, e, hv⟩ := g1_eq.1 hv
    cases e
    obtain ⟨v', w', i, co, g1, g2⟩ := iter_ok (P := P) h1 (hE _ _ h3) hv w
    refine ⟨v', w', i, co, ?_, g2⟩
    unfold execOp; rw [ho]; exact val_of g1
  · cases h

theorem op_next (hE : OpdOk P β E ρ) {x : Operand} (ho : o.op = .next x true) (h : cOp P o = some (s, xs)) : OpOk P β ρ o (xs.map (Opd.ev E)) s := by
  unfold cOp at h; rw [ho] at h
  obtain ⟨y1, h3, h⟩ := Option.bind_eq_some_iff.1 h
  cases h
  intro v w H H' hr hn hv
  obtain ⟨a1, m, e, hv⟩ := g1_eq.1 hv
  cases e
  obtain ⟨v', w', β', g1, g2, g3⟩ := nxt_ok (P := P) (ty := o.type) hr (hE _ _ h3) hv
  refine ⟨_, v', w', β', ?_, .value _, g2, g3⟩
  unfold execOp; rw [ho]; exact val_of g1

theorem op_ext (hE : OpdOk P β E ρ) {x : Operand} {i : Nat} (ho : o.op = .extract x i) (h : cOp P o = some (s, xs)) : OpOk P β ρ o (xs.map (Opd.ev E)) s := by
  unfold cOp at h; rw [ho] at h
  obtain ⟨y1, h3, h⟩ := Option.bind_eq_some_iff.1 h
  cases h
  intro v w hv
  obtain ⟨a1, m, e, hv⟩ := g1_eq.1 hv
  cases e
  obtain ⟨v', g1, g2⟩ := ext_ok (P := P) (hE _ _ h3) hv w
  refine ⟨v', ?_, g2⟩
  unfold execOp; rw [ho]; exact val_of g1

theorem opds_arr (hE : OpdOk P β E ρ) {l : Array Operand} {xs : List Opd} (h : cOpds P l = some xs) : LRel β (xs.map (Opd.ev E)) (l.map ρ).toList := by
  rw [Array.toList_map]; exact opds_ok hE h

theorem run_callFunc {f : FuncId} {fn : Func} (hf : P.funcs[f]? = some fn) (hb : fn.body.isSome = true) (hn : fn.name ≠ "runtime.NumGoroutine") (args : Array Value) (w : World) : (callFunc f args).run P w = .ok (.enter f args) w := by
  have h1 : fn.body.isNone = false := by cases h : fn.body <;> simp_all
  have h2 : (fn.name == "runtime.NumGoroutine") = false := by simpa using hn
  unfold callFunc
  simp only [Sem.run_bind, run_program, Result.andThen_ok, hf, h1, h2, Bool.false_eq_true, if_false, Sem.run_pure]

theorem op_callf (hE : OpdOk P β E ρ) (hρ : ∀ f, ρ (.func f) = .func (.func f) #[] #[]) {c : Call} {f : Operand} (ho : o.op = .call c) (hc : c.callee = .value f) (h : cOp P o = some (s, xs)) : OpOk P β ρ o (xs.map (Opd.ev E)) s := by
  unfold cOp at h; rw [ho] at h
  obtain ⟨args, h1, h⟩ := Option.bind_eq_some_iff.1 h
  rw [hc] at h
  have ha := opds_arr hE h1
  have gen : ∀ f', (.value f : Callee) = .value f' → (do some (SOp.callv, (← cOpd P f') :: args)) = some (s, xs) → OpOk P β ρ o (xs.map (Opd.ev E)) s := by
    intro f' e h
    cases e
    obtain ⟨y, h2, h⟩ := Option.bind_eq_some_iff.1 h
    cases h
    intro g a b m fn e hf hb hn
    have hx := hE _ _ h2
    rw [List.map_cons] at e
    obtain ⟨e1, e2⟩ := List.cons.inj e
    rw [e1] at hx
    rw [e2] at ha
    have key : ∀ x', VRel β (.fn (.func g) a b) x' → ∃ a' b' : Array Value, x' = .func (.func g) a' b' ∧ LRel β a a'.toList ∧ LRel β b b'.toList := by
      intro x' hx; cases hx with | fn _ ha hb => exact ⟨_, _, rfl, ha, hb⟩
    obtain ⟨a', b', e3, q1, q2⟩ := key _ hx
    refine ⟨a' ++ c.args.map ρ ++ b', ?_, fun w => ?_⟩
    · rw [Array.toList_append, Array.toList_append]; exact (q1.append ha).append q2
    · unfold execOp; rw [ho]
      simp only [resolve, hc, e3, Deferred.ofValue, Sem.run_bind, Sem.run_pure, Result.andThen_ok, invoke]
      exact run_callFunc hf hb hn _ _
  cases f with
  | func g =>
    have h : (match P.funcs[g]? with
      | some fn => if fn.body.isNone || fn.name == "runtime.NumGoroutine" then none else some (SOp.call g, args)
      | none => none) = some (s, xs) := h
    split at h
    · rename_i fn hf
      split at h
      · cases h
      · rename_i hcond
        cases h
        simp only [Bool.or_eq_true, not_or] at hcond
        refine ⟨c.args.map ρ, ha, fun w => ?_⟩
        unfold execOp; rw [ho]
        simp only [resolve, hc, hρ, Deferred.ofValue, Sem.run_bind, Sem.run_pure, Result.andThen_ok, invoke]
        have := run_callFunc hf (by cases q : fn.body <;> simp [q] at hcond ⊢) (by simpa using hcond.2) (#[] ++ c.args.map ρ ++ #[]) w
        simpa using this
    · cases h
  | tmp t => exact gen _ rfl h
  | const t => exact gen _ rfl h
  | global t => exact gen _ rfl h

end
end Go.Am
