/- A part of the library Am: an abstract machine for the model, that a kernel evaluates. -/
import Derived.Test.YtpmajhocoepajaaGreatDoorAmT
set_option linter.unusedVariables false
set_option linter.unusedSimpArgs false
namespace Go.Am
section
variable {P : Program} {β : Map} {E : Env} {ρ : Operand → Value} {o : Oper} {s : SOp} {xs : List Opd}

/-- a builtin's run -/
theorem builtin_of {c : Call} {b : Builtin} (ho : o.op = .call c) (hc : c.callee = .builtin b) {w w' : World} {n : Next}
    (h : (builtin b c.argTypes o.type (c.args.map fun | .const _ => true | _ => false) (c.args.map ρ)).run P w = .ok n w') : (execOp ρ o).run P w = .ok n w' := by
  unfold execOp; rw [ho]
  simp only [resolve, hc, Sem.run_bind, Sem.run_pure, Result.andThen_ok, invoke]
  exact h

theorem LRel.arr1 {β : Map} {a : AVal} {m : Array Value} (h : LRel β [a] m.toList) : ∃ a', m = #[a'] ∧ VRel β a a' := by
  obtain ⟨a', h1, h2⟩ := LRel.one h
  exact ⟨a', by rw [← Array.toArray_toList (xs := m), h1], h2⟩
theorem LRel.arr2 {β : Map} {a b : AVal} {m : Array Value} (h : LRel β [a, b] m.toList) : ∃ a' b', m = #[a', b'] ∧ VRel β a a' ∧ VRel β b b' := by
  have : ∀ l, LRel β [a, b] l → ∃ a' b', l = [a', b'] ∧ VRel β a a' ∧ VRel β b b' := by
    intro l h
    cases h with | cons h1 t => obtain ⟨b', e, h2⟩ := LRel.one t; subst e; exact ⟨_, _, rfl, h1, h2⟩
  obtain ⟨a', b', h1, h2⟩ := this _ h
  exact ⟨a', b', by rw [← Array.toArray_toList (xs := m), h1], h2⟩
theorem list1 {α : Type} {l : List α} (h : l.length = 1) : ∃ a, l = [a] := by
  match l, h with | [a], _ => exact ⟨a, rfl⟩
theorem list2 {α : Type} {l : List α} (h : l.length = 2) : ∃ a b, l = [a, b] := by
  match l, h with | [a, b], _ => exact ⟨a, b, rfl⟩

theorem op_blt (hE : OpdOk P β E ρ) {c : Call} {b : Builtin} (ho : o.op = .call c) (hc : c.callee = .builtin b) (h : cOp P o = some (s, xs)) : OpOk P β ρ o (xs.map (Opd.ev E)) s := by
  unfold cOp at h; rw [ho] at h
  obtain ⟨args, h1, h⟩ := Option.bind_eq_some_iff.1 h
  rw [hc] at h
  have ha := opds_arr hE h1
  have hlen : args.length = c.args.size := by have := (mapM_some h1).1; simpa using this.symm
  have one : ∀ (n : Nat), c.args.size = n → n = 1 → ∃ y x', args = [y] ∧ c.args.map ρ = #[x'] ∧ VRel β (y.ev E) x' := by
    intro n e e1
    obtain ⟨y, e2⟩ := list1 (show args.length = 1 by omega)
    rw [e2] at ha
    obtain ⟨x', e3, e4⟩ := LRel.arr1 ha
    exact ⟨y, x', e2, e3, e4⟩
  have two : ∀ (n : Nat), c.args.size = n → n = 2 → ∃ y z x' z', args = [y, z] ∧ c.args.map ρ = #[x', z'] ∧ VRel β (y.ev E) x' ∧ VRel β (z.ev E) z' := by
    intro n e e1
    obtain ⟨y, z, e2⟩ := list2 (show args.length = 2 by omega)
    rw [e2] at ha
    obtain ⟨x', z', e3, e4⟩ := LRel.arr2 ha
    exact ⟨y, z, x', z', e2, e3, e4⟩
  have ty : ∀ {i : Nat} {d : TypeDesc}, (c.argTypes[i]?).bind P.underlying = some d → ∃ t, c.argTypes[i]? = some t ∧ P.underlying t = some d := by
    intro i d h; exact Option.bind_eq_some_iff.1 h
  dsimp only at h
  split at h
  · -- append
    rename_i hsz
    obtain ⟨y, z, x', z', e1, e2, r1, r2⟩ := two _ hsz rfl
    obtain ⟨d, h2, h⟩ := Option.bind_eq_some_iff.1 h
    obtain ⟨t, t1, t2⟩ := ty h2
    split at h
    · obtain ⟨d2, h3, h⟩ := Option.bind_eq_some_iff.1 h
      obtain ⟨u, u1, u2⟩ := ty h3
      split at h
      · cases h
      · rename_i hd
        obtain ⟨⟨zv, zs⟩, h4, h⟩ := Option.bind_eq_some_iff.1 h
        obtain ⟨by', h5, h⟩ := Option.bind_eq_some_iff.1 h
        split at h
        · cases h
        rename_i hb0
        obtain ⟨sz, h6, h⟩ := Option.bind_eq_some_iff.1 h
        cases h
        intro v w H H' hr hn hv
        rw [e1] at hv
        obtain ⟨v', w', β', g1, g2, g3⟩ := app_ok (P := P) (ty := o.type) hr hn t1 u1 t2 u2 (fun k e => hd k e) h6 h5 hb0 h4 r1 r2 hv
        refine ⟨_, v', w', β', builtin_of ho hc ?_, .value _, g2, g3⟩
        rw [e2]; exact val_of g1
    · cases h
  · -- len
    rename_i hsz
    obtain ⟨y, x', e1, e2, r1⟩ := one _ hsz rfl
    obtain ⟨d, h2, h⟩ := Option.bind_eq_some_iff.1 h
    obtain ⟨t, t1, t2⟩ := ty h2
    split at h
    · cases h
      intro v w hv
      rw [e1] at hv
      obtain ⟨v', g1, g2⟩ := lenS_ok (P := P) (r := o.type) t2 t1 r1 hv w
      exact ⟨v', builtin_of ho hc (by rw [e2]; exact val_of g1), g2⟩
    · cases h
      intro v w hv
      rw [e1] at hv
      obtain ⟨v', g1, g2⟩ := lenV_ok (P := P) (r := o.type) t2 t1 r1 hv w
      exact ⟨v', builtin_of ho hc (by rw [e2]; exact val_of g1), g2⟩
    · cases h
      intro v w H hr hv
      rw [e1] at hv
      obtain ⟨v', g1, g2⟩ := lenM_ok (P := P) (r := o.type) hr t2 t1 r1 hv
      exact ⟨v', builtin_of ho hc (by rw [e2]; exact val_of g1), g2⟩
    · rename_i n _
      cases h
      intro v w hv
      cases hv
      refine ⟨.int .i64 n, builtin_of ho hc ?_, .int _ _⟩
      rw [e2]
      refine val_of ?_
      simp [Builtin.len_, t1, run_underlying t2, goInt]
    · obtain ⟨d2, h3, h⟩ := Option.bind_eq_some_iff.1 h
      split at h
      · rename_i n _
        cases h
        intro v w hv
        cases hv
        refine ⟨.int .i64 n, builtin_of ho hc ?_, .int _ _⟩
        rw [e2]
        refine val_of ?_
        simp [Builtin.len_, t1, run_underlying t2, run_underlying h3, goInt]
      · cases h
    · cases h
  · -- copy
    rename_i hsz
    obtain ⟨y, z, x', z', e1, e2, r1, r2⟩ := two _ hsz rfl
    obtain ⟨d, h2, h⟩ := Option.bind_eq_some_iff.1 h
    obtain ⟨t, t1, t2⟩ := ty h2
    split at h
    · obtain ⟨sz, h6, h⟩ := Option.bind_eq_some_iff.1 h
      cases h
      intro v w H H' hr hn hv
      rw [e1] at hv
      obtain ⟨v', w', β', g1, g2, g3⟩ := cpy_ok (P := P) (ty := o.type) hr t2 t1 h6 r1 r2 hv
      refine ⟨_, v', w', β', builtin_of ho hc ?_, .value _, g2, g3⟩
      rw [e2]; exact val_of g1
    · cases h
  · -- clear
    rename_i hsz
    obtain ⟨y, x', e1, e2, r1⟩ := one _ hsz rfl
    obtain ⟨d, h2, h⟩ := Option.bind_eq_some_iff.1 h
    obtain ⟨t, t1, t2⟩ := ty h2
    split at h
    · obtain ⟨⟨zv, zs⟩, h6, h⟩ := Option.bind_eq_some_iff.1 h
      cases h
      intro v w H H' hr hn hv
      rw [e1] at hv
      obtain ⟨v', w', β', g1, g2, g3⟩ := clr_ok (P := P) (ty := o.type) hr t2 t1 h6 r1 hv
      refine ⟨_, v', w', β', builtin_of ho hc ?_, .value _, g2, g3⟩
      rw [e2]; exact val_of g1
    · cases h
  · -- min
    rename_i hsz
    obtain ⟨y, z, x', z', e1, e2, r1, r2⟩ := two _ hsz rfl
    cases h
    intro v w hv
    rw [e1] at hv
    obtain ⟨v', g1, g2⟩ := min_ok (P := P) (ts := c.argTypes) (r := o.type) r1 r2 hv w
    exact ⟨v', builtin_of ho hc (by rw [e2]; exact val_of g1), g2⟩
  · -- max
    rename_i hsz
    obtain ⟨y, z, x', z', e1, e2, r1, r2⟩ := two _ hsz rfl
    cases h
    intro v w hv
    rw [e1] at hv
    obtain ⟨v', g1, g2⟩ := max_ok (P := P) (ts := c.argTypes) (r := o.type) r1 r2 hv w
    exact ⟨v', builtin_of ho hc (by rw [e2]; exact val_of g1), g2⟩
  · -- unsafe.SliceData
    rename_i hsz
    obtain ⟨y, x', e1, e2, r1⟩ := one _ hsz rfl
    cases h
    intro v w hv
    rw [e1] at hv
    obtain ⟨v', g1, g2⟩ := sdata_ok (P := P) (ts := c.argTypes) (r := o.type) r1 hv w
    exact ⟨v', builtin_of ho hc (by rw [e2]; exact val_of g1), g2⟩
  · -- unsafe.String
    rename_i hsz
    obtain ⟨y, z, x', z', e1, e2, r1, r2⟩ := two _ hsz rfl
    obtain ⟨d, h2, h⟩ := Option.bind_eq_some_iff.1 h
    obtain ⟨t, t1, t2⟩ := ty h2
    split at h
    · split at h
      · rename_i h6
        cases h
        intro v w H H' hr hn hv
        rw [e1] at hv
        obtain ⟨v', w', β', g1, g2, g3⟩ := ustr_ok (P := P) (ty := o.type) hr t1 t2 h6 r1 r2 hv
        refine ⟨_, v', w', β', builtin_of ho hc ?_, .value _, g2, g3⟩
        rw [e2]; exact val_of g1
      · cases h
    · cases h
  · cases h

theorem op_ok (hE : OpdOk P β E ρ) (hρf : ∀ f, ρ (.func f) = .func (.func f) #[] #[]) (hρc : ∀ v, ρ (.const v) = v) (h : cOp P o = some (s, xs)) : OpOk P β ρ o (xs.map (Opd.ev E)) s := by
  cases ho : o.op with
  | move x => exact op_move hE (.inl ho) h
  | assign x => exact op_move hE (.inr ho) h
  | pick c a b => exact op_pick hE ho h
  | alloc e => exact op_alloc ho h
  | box e x => exact op_box hE ho h
  | build t ps => exact op_build hE ho h
  | buildSlice t n ps => exact op_bslice hE ho h
  | load t a => exact op_load hE ho h
  | store t a v => exact op_store hE ho h
  | nilCheck x => exact op_nilCheck hE ho h
  | binOp op t x y t' => exact op_bin hE ho h
  | unOp op t x => exact op_un hE ho h
  | convert a b x => exact op_conv hE ho h
  | makeInterface t x => exact op_ifc hE ho h
  | makeFunc f a b => exact op_fn hE ho h
  | makeMap t r => exact op_mmap hρc ho h
  | makeSlice t l c => exact op_mslice hE ho h
  | slice t x lo hi mx => exact op_slice hE ho h
  | fieldAddr t x i => exact op_fad hE ho h
  | field t x i => exact op_fld hE ho h
  | indexAddr t x i => exact op_ia hE ho h
  | index t x i => exact op_ix hE ho h
  | lookup t m k ok => exact op_lk hE ho h
  | mapUpdate t m k v => exact op_mu hE ho h
  | insert t m k v => exact op_ins hE ho h
  | mapEntry t m k => exact op_me hE ho h
  | entryStore t m s v => exact op_es hE ho h
  | range t x => exact op_range hE ho h
  | next it b =>
    cases b with
    | true => exact op_next hE ho h
    | false => unfold cOp at h; rw [ho] at h; cases h
  | extract x i => exact op_ext hE ho h
  | call c =>
    cases hc : c.callee with
    | value f => exact op_callf hE hρf ho hc h
    | builtin b => exact op_blt hE ho hc h
    | invoke a b =>
      unfold cOp at h; rw [ho] at h
      obtain ⟨args, h1, h⟩ := Option.bind_eq_some_iff.1 h
      rw [hc] at h
      cases h
  | _ => unfold cOp at h; rw [ho] at h; cases h

end
end Go.Am
