/- A part of the library Am: an abstract machine for the model, that a kernel evaluates. -/
import Derived.Test.YtpmajhocoepajaaGreatDoorAmP
set_option linter.unusedVariables false
set_option linter.unusedSimpArgs false
namespace Go.Am

inductive NextIs : Next → Value → Prop where
  | value (v : Value) : NextIs (.value v) v
  | skip : NextIs .skip undef

/-- what an operation here says of the model's -/
def OpOk (P : Program) (β : Map) (ρ : Operand → Value) (o : Oper) (l : List AVal) : SOp → Prop
  | .pur f => ∀ v w, f l = some v → ∃ v', (execOp ρ o).run P w = .ok (.value v') w ∧ VRel β v v'
  | .rd f => ∀ v w H, HRel β H.obj w → f l H = some v → ∃ v', (execOp ρ o).run P w = .ok (.value v') w ∧ VRel β v v'
  | .al f => ∀ ob k w, f l = some (ob, k) → ∃ v' w' i co, (execOp ρ o).run P w = .ok (.value v') w' ∧ AlAt β ob k v' w w' i co
  | .ef f => ∀ v w H H', HRel β H.obj w → FreeB β H.next H'.next → f l H = some (v, H') →
      ∃ n v' w' β', (execOp ρ o).run P w = .ok n w' ∧ NextIs n v' ∧ Post β H.obj H.next w β' H'.obj H'.next w' ∧ VRel β' v v'
  | .call f => ∃ args : Array Value, LRel β l args.toList ∧ ∀ w, (execOp ρ o).run P w = .ok (.enter f args) w
  | .callv => ∀ f a c m fn, l = .fn (.func f) a c :: m → P.funcs[f]? = some fn → fn.body.isSome = true → fn.name ≠ "runtime.NumGoroutine" →
      ∃ args : Array Value, LRel β (a ++ m ++ c) args.toList ∧ ∀ w, (execOp ρ o).run P w = .ok (.enter f args) w

section
variable {P : Program} {β : Map} {E : Env} {ρ : Operand → Value}
def OpdOk (P : Program) (β : Map) (E : Env) (ρ : Operand → Value) : Prop := ∀ x y, cOpd P x = some y → VRel β (y.ev E) (ρ x)

theorem opds_ok (hE : OpdOk P β E ρ) : ∀ {l : List Operand} {xs : List Opd}, l.mapM (cOpd P) = some xs → LRel β (xs.map (Opd.ev E)) (l.map ρ)
  | [], xs, h => by simp at h; subst h; exact .nil
  | x :: l, xs, h => by
    simp only [List.mapM_cons] at h
    obtain ⟨y, h1, h⟩ := Option.bind_eq_some_iff.1 h
    obtain ⟨ys, h2, h⟩ := Option.bind_eq_some_iff.1 h
    cases h
    exact .cons (hE _ _ h1) (opds_ok hE h2)

theorem LRel.one {β : Map} {a : AVal} {m : List Value} (h : LRel β [a] m) : ∃ a', m = [a'] ∧ VRel β a a' := by
  cases h with | cons h t => cases t; exact ⟨_, rfl, h⟩

/-- a value that a run gives, as an operation's -/
theorem val_of {s : Sem Value} {w w' : World} {v : Value} (h : s.run P w = .ok v w') : (do pure (.value (← s)) : Sem Next).run P w = .ok (.value v) w' := by
  simp only [Sem.run_bind, h, Result.andThen_ok, Sem.run_pure]
theorem skip_of {s : Sem Unit} {w w' : World} (h : s.run P w = .ok () w') : (do s; pure .skip : Sem Next).run P w = .ok .skip w' := by
  simp only [Sem.run_bind, h, Result.andThen_ok, Sem.run_pure]

variable {o : Oper} {s : SOp} {xs : List Opd}

theorem op_move (hE : OpdOk P β E ρ) {x : Operand} (ho : o.op = .move x ∨ o.op = .assign x) (h : cOp P o = some (s, xs)) : OpOk P β ρ o (xs.map (Opd.ev E)) s := by
  have h : (do some (SOp.pur (g1 oMv), [← cOpd P x])) = some (s, xs) := by
    rw [← h]; unfold cOp; rcases ho with ho | ho <;> rw [ho]
  obtain ⟨y, h1, h⟩ := Option.bind_eq_some_iff.1 h
  cases h
  intro v w hv
  obtain ⟨a, m, e, hv⟩ := g1_eq.1 hv
  cases e
  cases hv
  refine ⟨ρ x, ?_, hE _ _ h1⟩
  unfold execOp
  rcases ho with ho | ho <;> rw [ho] <;> rfl

theorem op_pick (hE : OpdOk P β E ρ) {c a b : Operand} (ho : o.op = .pick c a b) (h : cOp P o = some (s, xs)) : OpOk P β ρ o (xs.map (Opd.ev E)) s := by
  unfold cOp at h; rw [ho] at h
  obtain ⟨y1, h1, h⟩ := Option.bind_eq_some_iff.1 h
  obtain ⟨y2, h2, h⟩ := Option.bind_eq_some_iff.1 h
  obtain ⟨y3, h3, h⟩ := Option.bind_eq_some_iff.1 h
  cases h
  intro v w hv
  obtain ⟨a1, a2, a3, m, e, hv⟩ := g3_eq.1 hv
  cases e
  obtain ⟨v', g1, g2⟩ := pick_ok (P := P) (hE _ _ h1) (hE _ _ h2) (hE _ _ h3) hv w
  refine ⟨v', ?_, g2⟩
  unfold execOp; rw [ho]; exact g1

theorem op_alloc {e : TypeId} (ho : o.op = .alloc e) (h : cOp P o = some (s, xs)) : OpOk P β ρ o (xs.map (Opd.ev E)) s := by
  unfold cOp at h; rw [ho] at h
  obtain ⟨⟨zv, zs⟩, h1, h⟩ := Option.bind_eq_some_iff.1 h
  cases h
  intro ob k w hv
  obtain ⟨v', w', i, co, g1, g2⟩ := new_ok (β := β) h1 hv w
  refine ⟨v', w', i, co, ?_, g2⟩
  unfold execOp; rw [ho]; exact val_of g1

theorem op_box (hE : OpdOk P β E ρ) {e : TypeId} {x : Operand} (ho : o.op = .box e x) (h : cOp P o = some (s, xs)) : OpOk P β ρ o (xs.map (Opd.ev E)) s := by
  unfold cOp at h; rw [ho] at h
  obtain ⟨sz, h1, h⟩ := Option.bind_eq_some_iff.1 h
  obtain ⟨y, h2, h⟩ := Option.bind_eq_some_iff.1 h
  cases h
  intro ob k w hv
  obtain ⟨a, m, e', hv⟩ := g1_eq.1 hv
  cases e'
  obtain ⟨v', w', i, co, g1, g2⟩ := box_ok (P := P) (hE _ _ h2) hv w
  refine ⟨v', w', i, co, ?_, g2⟩
  unfold execOp; rw [ho]; exact val_of g1

theorem op_build (hE : OpdOk P β E ρ) {t : TypeId} {ps : Array (Nat × Operand)} (ho : o.op = .build t ps) (h : cOp P o = some (s, xs)) : OpOk P β ρ o (xs.map (Opd.ev E)) s := by
  unfold cOp at h; rw [ho] at h
  obtain ⟨⟨zv, zs⟩, h1, h⟩ := Option.bind_eq_some_iff.1 h
  obtain ⟨d, h2, h⟩ := Option.bind_eq_some_iff.1 h
  have fin : ∀ (pl : Nat → Option (Nat × Nat)) (pos : List (Nat × Nat)) (ys : List Opd),
      ((∃ fs l, P.underlying t = some (.struct fs) ∧ places? P fs = some l ∧ pl = (l[·]?)) ∨ (∃ n e s, P.underlying t = some (.array n e) ∧ size? P e = some s ∧ pl = fun i => some (i * s, s))) →
      cParts P pl ps.toList = some (pos, ys) → OpOk P β ρ o (ys.map (Opd.ev E)) (.pur (oAgg zs pos)) := by
    intro pl pos ys hpl hp v w hv
    have hl := opds_ok (P := P) hE (cParts_ok hp).2.2
    rw [List.map_map] at hl
    obtain ⟨v', g1, g2⟩ := build_ok (β := β) h1 hp hpl hl hv w
    refine ⟨v', ?_, g2⟩
    unfold execOp; rw [ho]; exact val_of g1
  split at h
  · rename_i fs
    obtain ⟨pl, h3, h⟩ := Option.bind_eq_some_iff.1 h
    obtain ⟨⟨pos, ys⟩, h4, h⟩ := Option.bind_eq_some_iff.1 h
    cases h
    exact fin _ _ _ (.inl ⟨fs, pl, h2, h3, rfl⟩) h4
  · rename_i n e
    obtain ⟨sz, h3, h⟩ := Option.bind_eq_some_iff.1 h
    obtain ⟨⟨pos, ys⟩, h4, h⟩ := Option.bind_eq_some_iff.1 h
    cases h
    exact fin _ _ _ (.inr ⟨n, e, sz, h2, h3, rfl⟩) h4
  · cases h

theorem op_bslice (hE : OpdOk P β E ρ) {t : TypeId} {len : Nat} {ps : Array (Nat × Operand)} (ho : o.op = .buildSlice t len ps) (h : cOp P o = some (s, xs)) : OpOk P β ρ o (xs.map (Opd.ev E)) s := by
  unfold cOp at h; rw [ho] at h
  obtain ⟨d, h2, h⟩ := Option.bind_eq_some_iff.1 h
  split at h
  · rename_i e
    obtain ⟨sz, h3, h⟩ := Option.bind_eq_some_iff.1 h
    obtain ⟨⟨zv, zs⟩, h1, h⟩ := Option.bind_eq_some_iff.1 h
    obtain ⟨⟨pos, ys⟩, h4, h⟩ := Option.bind_eq_some_iff.1 h
    have h : (if len * sz > 2 ^ 24 then none else some (SOp.al (aSlice e len (List.replicate len zs).flatten pos), ys)) = some (s, xs) := h
    split at h
    · cases h
    rename_i hbig
    cases h
    intro ob k w hv
    have hl := opds_ok (P := P) hE (cParts_ok h4).2.2
    rw [List.map_map] at hl
    obtain ⟨v', w', i, co, g1, g2⟩ := bslice_ok (P := P) h2 h3 h1 h4 hbig hl hv w
    refine ⟨v', w', i, co, ?_, g2⟩
    unfold execOp; rw [ho]; exact val_of g1
  · cases h

theorem op_load (hE : OpdOk P β E ρ) {t : TypeId} {a : Operand} (ho : o.op = .load t a) (h : cOp P o = some (s, xs)) : OpOk P β ρ o (xs.map (Opd.ev E)) s := by
  unfold cOp at h; rw [ho] at h
  obtain ⟨b, h1, h⟩ := Option.bind_eq_some_iff.1 h
  split at h
  · obtain ⟨n, h2, h⟩ := Option.bind_eq_some_iff.1 h
    obtain ⟨y, h3, h⟩ := Option.bind_eq_some_iff.1 h
    cases h
    intro v w H hr hv
    obtain ⟨a1, m, e', hv⟩ := g1_eq.1 hv
    cases e'
    obtain ⟨v', g1, g2⟩ := ld_ok (P := P) hr h1 h2 (hE _ _ h3) (by simpa using hv)
    refine ⟨v', ?_, g2⟩
    unfold execOp; rw [ho]; exact val_of g1
  · obtain ⟨y, h3, h⟩ := Option.bind_eq_some_iff.1 h
    cases h
    intro v w H hr hv
    obtain ⟨a1, m, e', hv⟩ := g1_eq.1 hv
    cases e'
    obtain ⟨id, off, e_, g⟩ := onPtr_eq.1 hv
    have hx := hE _ _ h3
    rw [e_] at hx
    have key : ∀ x', VRel β (.ptr id off) x' → ∃ v', (Instr.loadAt t x').run P w = .ok v' w ∧ VRel β v v' := by
      intro x' hx
      cases hx with
      | ptr hb =>
        obtain ⟨v', g1, g2⟩ := load1_ok (P := P) hr hb g
        refine ⟨v', ?_, g2⟩
        simp only [Instr.loadAt, Instr.sureAddr, loadVar, Sem.run_bind, Sem.run_pure, Result.andThen_ok, run_isAgg h1, Bool.false_eq_true, if_false]; exact g1
    obtain ⟨v', g1, g2⟩ := key _ hx
    refine ⟨v', ?_, g2⟩
    unfold execOp; rw [ho]; exact val_of g1

theorem op_store (hE : OpdOk P β E ρ) {t : TypeId} {a x : Operand} (ho : o.op = .store t a x) (h : cOp P o = some (s, xs)) : OpOk P β ρ o (xs.map (Opd.ev E)) s := by
  unfold cOp at h; rw [ho] at h
  obtain ⟨n, h1, h⟩ := Option.bind_eq_some_iff.1 h
  obtain ⟨y1, h2, h⟩ := Option.bind_eq_some_iff.1 h
  obtain ⟨y2, h3, h⟩ := Option.bind_eq_some_iff.1 h
  cases h
  intro v w H H' hr hn hv
  obtain ⟨a1, a2, m, e', hv⟩ := g2_eq.1 hv
  cases e'
  obtain ⟨e1, w', β', g1, g2⟩ := st_ok (P := P) hr h1 (hE _ _ h2) (hE _ _ h3) hv
  subst e1
  refine ⟨.skip, undef, w', β', ?_, .skip, g2, .tup .nil⟩
  unfold execOp; rw [ho]; exact skip_of g1

theorem op_nilCheck (hE : OpdOk P β E ρ) {x : Operand} (ho : o.op = .nilCheck x) (h : cOp P o = some (s, xs)) : OpOk P β ρ o (xs.map (Opd.ev E)) s := by
  unfold cOp at h; rw [ho] at h
  obtain ⟨y, h1, h⟩ := Option.bind_eq_some_iff.1 h
  cases h
  intro v w hv
  obtain ⟨a, m, e, hv⟩ := g1_eq.1 hv
  cases e
  exact nilchk_ok (P := P) (hE _ _ h1) hv rfl ho w

theorem op_bin (hE : OpdOk P β E ρ) {op : BinOp} {t t' : TypeId} {x y : Operand} (ho : o.op = .binOp op t x y t') (h : cOp P o = some (s, xs)) : OpOk P β ρ o (xs.map (Opd.ev E)) s := by
  unfold cOp at h; rw [ho] at h
  have fin : ∀ (k : TK), (op = .eql ∨ op = .neq → eqKind P t = some k) → (do some (SOp.pur (g2 (cBin op (isC x || isC y) k)), [← cOpd P x, ← cOpd P y])) = some (s, xs) → OpOk P β ρ o (xs.map (Opd.ev E)) s := by
    intro k hk h
    obtain ⟨y1, h1, h⟩ := Option.bind_eq_some_iff.1 h
    obtain ⟨y2, h2, h⟩ := Option.bind_eq_some_iff.1 h
    cases h
    intro v w hv
    obtain ⟨a1, a2, m, e', hv⟩ := g2_eq.1 hv
    cases e'
    obtain ⟨v', g1, g2⟩ := bin_ok (P := P) (op := op) (t := t) (k := k) (nn := false) hk (hE _ _ h1) (hE _ _ h2) hv w
    refine ⟨v', ?_, g2⟩
    unfold execOp; rw [ho]; exact val_of g1
  have two : op = .eql ∨ op = .neq → (do let k ← eqKind P t; some (SOp.pur (g2 (cBin op (isC x || isC y) k)), [← cOpd P x, ← cOpd P y])) = some (s, xs) := by
    rintro (rfl | rfl) <;> exact h
  cases op
  case eql => obtain ⟨k, hk, h⟩ := Option.bind_eq_some_iff.1 (two (.inl rfl)); exact fin k (fun _ => hk) h
  case neq => obtain ⟨k, hk, h⟩ := Option.bind_eq_some_iff.1 (two (.inr rfl)); exact fin k (fun _ => hk) h
  all_goals exact fin .b (by rintro (h | h) <;> cases h) h

theorem op_un (hE : OpdOk P β E ρ) {op : UnOp} {t : TypeId} {x : Operand} (ho : o.op = .unOp op t x) (h : cOp P o = some (s, xs)) : OpOk P β ρ o (xs.map (Opd.ev E)) s := by
  unfold cOp at h; rw [ho] at h
  have fin : ∀ (f : AVal → Option AVal), (∀ x, f x = (match op with | .not => uNot x | .neg => uNeg x | .xor => uXor x | .plus => none)) →
      (do some (SOp.pur (g1 f), [← cOpd P x])) = some (s, xs) → OpOk P β ρ o (xs.map (Opd.ev E)) s := by
    intro f hf h
    obtain ⟨y1, h1, h⟩ := Option.bind_eq_some_iff.1 h
    cases h
    intro v w hv
    obtain ⟨a, m, e, hv⟩ := g1_eq.1 hv
    cases e
    rw [hf] at hv
    obtain ⟨v', g1, g2⟩ := un_ok (P := P) (op := op) (hE _ _ h1) (by cases op <;> exact hv) w
    refine ⟨v', ?_, g2⟩
    unfold execOp; rw [ho]; exact val_of g1
  cases op
  case not => exact fin uNot (fun _ => rfl) h
  case neg => exact fin uNeg (fun _ => rfl) h
  case xor => exact fin uXor (fun _ => rfl) h
  case plus => cases h

end
end Go.Am
