/- A part of the library Am: an abstract machine for the model, that a kernel evaluates. -/
import Derived.Test.YtpmajhocoepajaaGreatDoorAmQ
set_option linter.unusedVariables false
set_option linter.unusedSimpArgs false
namespace Go.Am
section
variable {P : Program} {β : Map} {E : Env} {ρ : Operand → Value} {o : Oper} {s : SOp} {xs : List Opd}

theorem op_conv (hE : OpdOk P β E ρ) {a b : TypeId} {x : Operand} (ho : o.op = .convert a b x) (h : cOp P o = some (s, xs)) : OpOk P β ρ o (xs.map (Opd.ev E)) s := by
  unfold cOp at h; rw [ho] at h
  obtain ⟨d1, h1, h⟩ := Option.bind_eq_some_iff.1 h
  obtain ⟨d2, h2, h⟩ := Option.bind_eq_some_iff.1 h
  have hx : ∀ {v' : Value} {w w' : World}, (convert a b (ρ x)).run P w = .ok v' w' → (execOp ρ o).run P w = .ok (.value v') w' := by
    intro v' w w' g1
    unfold execOp; rw [ho]; exact val_of g1
  split at h
  · obtain ⟨y, h3, h⟩ := Option.bind_eq_some_iff.1 h
    cases h
    intro v w hv
    obtain ⟨a1, m, e, hv⟩ := g1_eq.1 hv
    cases e
    obtain ⟨v', g1, g2⟩ := int_ok (P := P) h1 h2 (hE _ _ h3) hv w
    exact ⟨v', hx g1, g2⟩
  · obtain ⟨y, h3, h⟩ := Option.bind_eq_some_iff.1 h
    cases h
    intro v w hv
    obtain ⟨a1, m, e, hv⟩ := g1_eq.1 hv
    cases e
    obtain ⟨v', g1, g2⟩ := i2s_ok (P := P) h1 h2 (hE _ _ h3) hv w
    exact ⟨v', hx g1, g2⟩
  · obtain ⟨d3, h4, h⟩ := Option.bind_eq_some_iff.1 h
    split at h
    · obtain ⟨y, h3, h⟩ := Option.bind_eq_some_iff.1 h
      cases h
      intro ob k w hv
      obtain ⟨a1, m, e, hv⟩ := g1_eq.1 hv
      cases e
      obtain ⟨v', w', i, co, g1, g2⟩ := bytes_ok (P := P) h1 h2 h4 (hE _ _ h3) hv w
      exact ⟨v', w', i, co, hx g1, g2⟩
    · cases h
  · obtain ⟨d3, h4, h⟩ := Option.bind_eq_some_iff.1 h
    split at h
    · obtain ⟨y, h3, h⟩ := Option.bind_eq_some_iff.1 h
      cases h
      intro v w H hr hv
      obtain ⟨a1, m, e, hv⟩ := g1_eq.1 hv
      cases e
      obtain ⟨v', g1, g2⟩ := b2s_ok (P := P) hr h1 h4 h2 (hE _ _ h3) hv
      exact ⟨v', hx g1, g2⟩
    · cases h
  · obtain ⟨y, h3, h⟩ := Option.bind_eq_some_iff.1 h
    cases h
    intro v w hv
    obtain ⟨a1, m, e, hv⟩ := g1_eq.1 hv
    cases e
    obtain ⟨v', g1, g2⟩ := s2s_ok (P := P) h1 h2 (hE _ _ h3) hv w
    exact ⟨v', hx g1, g2⟩
  · cases h

theorem op_ifc (hE : OpdOk P β E ρ) {t : TypeId} {x : Operand} (ho : o.op = .makeInterface t x) (h : cOp P o = some (s, xs)) : OpOk P β ρ o (xs.map (Opd.ev E)) s := by
  unfold cOp at h; rw [ho] at h
  obtain ⟨d, h1, h⟩ := Option.bind_eq_some_iff.1 h
  split at h
  · cases h
  · rename_i hd
    obtain ⟨y, h3, h⟩ := Option.bind_eq_some_iff.1 h
    cases h
    intro v w hv
    obtain ⟨a1, m, e, hv⟩ := g1_eq.1 hv
    cases e
    obtain ⟨v', g1, g2⟩ := ifc_ok (P := P) h1 (fun ms e => hd ms e) (hE _ _ h3) hv w
    refine ⟨v', ?_, g2⟩
    unfold execOp; rw [ho]; exact val_of g1

theorem op_fn (hE : OpdOk P β E ρ) {f : Fn} {a b : Array Operand} (ho : o.op = .makeFunc f a b) (h : cOp P o = some (s, xs)) : OpOk P β ρ o (xs.map (Opd.ev E)) s := by
  unfold cOp at h; rw [ho] at h
  dsimp only at h
  split at h
  · cases h
  · rename_i hf
    obtain ⟨y1, h1, h⟩ := Option.bind_eq_some_iff.1 h
    obtain ⟨y2, h2, h⟩ := Option.bind_eq_some_iff.1 h
    cases h
    intro v w hv
    obtain ⟨v', g1, g2⟩ := fn_ok (P := P) (a := a.map ρ) (b := b.map ρ) (fun l e => hf l e) (by rw [List.map_append, Array.toList_map, Array.toList_map]; exact (opds_ok hE h1).append (opds_ok hE h2)) (by simp) hv w
    refine ⟨v', ?_, g2⟩
    unfold execOp; rw [ho]; exact val_of g1

theorem op_mmap {t : TypeId} {r : Option Operand} (hρ : ∀ v, ρ (.const v) = v) (ho : o.op = .makeMap t r) (h : cOp P o = some (s, xs)) : OpOk P β ρ o (xs.map (Opd.ev E)) s := by
  have key : (s, xs) = (.al aMap, []) ∧ (r.map ρ = none ∨ ∃ a b k n, P.underlying t = some (.map a b) ∧ r.map ρ = some (.int k n)) := by
    unfold cOp at h; rw [ho] at h
    dsimp only at h
    cases r with
    | none => cases h; exact ⟨rfl, .inl rfl⟩
    | some x =>
      cases x with
      | const c =>
        cases c with
        | int k n =>
          obtain ⟨d, h1, h⟩ := Option.bind_eq_some_iff.1 h
          split at h
          · cases h
            exact ⟨rfl, .inr ⟨_, _, k, n, h1, by simp [hρ]⟩⟩
          · cases h
        | _ => cases h
      | _ => cases h
  obtain ⟨e, hr⟩ := key
  cases e
  intro ob k w hv
  obtain ⟨v', w', i, co, g1, g2⟩ := amap_ok (P := P) (β := β) _ hr hv w
  refine ⟨v', w', i, co, ?_, g2⟩
  unfold execOp; rw [ho]; exact val_of g1

theorem op_mslice (hE : OpdOk P β E ρ) {t : TypeId} {l c : Operand} (ho : o.op = .makeSlice t l c) (h : cOp P o = some (s, xs)) : OpOk P β ρ o (xs.map (Opd.ev E)) s := by
  unfold cOp at h; rw [ho] at h
  obtain ⟨d, h1, h⟩ := Option.bind_eq_some_iff.1 h
  split at h
  · obtain ⟨b, h2, h⟩ := Option.bind_eq_some_iff.1 h
    obtain ⟨⟨zv, zs⟩, h3, h⟩ := Option.bind_eq_some_iff.1 h
    obtain ⟨y1, h4, h⟩ := Option.bind_eq_some_iff.1 h
    obtain ⟨y2, h5, h⟩ := Option.bind_eq_some_iff.1 h
    cases h
    intro ob k w hv
    obtain ⟨a1, a2, m, e, hv⟩ := g2_eq.1 hv
    cases e
    obtain ⟨v', w', i, co, g1, g2⟩ := make_ok (P := P) h1 h2 h3 (hE _ _ h4) (hE _ _ h5) hv w
    refine ⟨v', w', i, co, ?_, g2⟩
    unfold execOp; rw [ho]; exact val_of g1
  · cases h

theorem opdo_ok (hE : OpdOk P β E ρ) {x : Option Operand} {ys : List Opd} (h : cOpdo P x = some ys) (m : List AVal) : OptRel β x.isSome (ys.map (Opd.ev E) ++ m) m (x.map ρ) := by
  cases x with
  | none => cases h; exact .inl ⟨rfl, rfl, rfl⟩
  | some x =>
    obtain ⟨y, h1, h2⟩ := Option.map_eq_some_iff.1 h
    subst h2
    exact .inr ⟨rfl, _, _, rfl, rfl, hE _ _ h1⟩

theorem op_slice (hE : OpdOk P β E ρ) {t : TypeId} {x : Operand} {lo hi mx : Option Operand} (ho : o.op = .slice t x lo hi mx) (h : cOp P o = some (s, xs)) : OpOk P β ρ o (xs.map (Opd.ev E)) s := by
  unfold cOp at h; rw [ho] at h
  obtain ⟨y, h1, h⟩ := Option.bind_eq_some_iff.1 h
  obtain ⟨ym, h2, h⟩ := Option.bind_eq_some_iff.1 h
  obtain ⟨yh, h3, h⟩ := Option.bind_eq_some_iff.1 h
  obtain ⟨yl, h4, h⟩ := Option.bind_eq_some_iff.1 h
  dsimp only at h
  have e1 : ∀ l, (y :: (ym ++ yh ++ yl)).map (Opd.ev E) = l → l = y.ev E :: (ym.map (Opd.ev E) ++ (yh.map (Opd.ev E) ++ (yl.map (Opd.ev E) ++ []))) := by
    rintro _ rfl; simp
  have o0 := opdo_ok hE h2 (yh.map (Opd.ev E) ++ (yl.map (Opd.ev E) ++ []))
  have o1 := opdo_ok hE h3 (yl.map (Opd.ev E) ++ [])
  have o2 := opdo_ok hE h4 []
  have hx : ∀ {v' : Value} {w w' : World}, (Instr.sliceAt t (ρ x) (lo.map ρ) (hi.map ρ) (mx.map ρ)).run P w = .ok v' w' → (execOp ρ o).run P w = .ok (.value v') w' := by
    intro v' w w' g1
    unfold execOp; rw [ho]; exact val_of g1
  split at h
  · cases h
  rename_i hmh
  have hmh : mx.isSome = true → hi.isSome = true := by
    intro hm
    cases hi with
    | none => simp [hm] at hmh
    | some _ => rfl
  obtain ⟨d, h5, h⟩ := Option.bind_eq_some_iff.1 h
  have hsl : (∀ n e, d ≠ .array n e) → ∀ {v' : Value} {w w' : World}, (Instr.slice t (ρ x) (lo.map ρ) (hi.map ρ) (mx.map ρ)).run P w = .ok v' w' → (Instr.sliceAt t (ρ x) (lo.map ρ) (hi.map ρ) (mx.map ρ)).run P w = .ok v' w' := by
    intro hd v' w w' g1
    unfold Instr.sliceAt
    simp only [Sem.run_bind, run_underlying h5, Result.andThen_ok]
    cases d <;> first | exact g1 | exact absurd rfl (hd _ _)
  split at h
  · split at h
    · cases h
    rename_i hm
    cases h
    intro v w hv
    rw [e1 _ rfl] at hv
    have : mx = none := by cases mx <;> simp at hm ⊢
    subst this
    cases h2
    obtain ⟨v', g1, g2⟩ := slS_ok (P := P) h5 (hE _ _ h1) o1 o2 hv w
    exact ⟨v', hx (hsl nofun g1), g2⟩
  · obtain ⟨n, h6, h⟩ := Option.bind_eq_some_iff.1 h
    cases h
    intro v w hv
    rw [e1 _ rfl] at hv
    obtain ⟨v', g1, g2⟩ := slV_ok (P := P) h5 h6 (hE _ _ h1) o0 o1 o2 hmh hv w
    exact ⟨v', hx (hsl nofun g1), g2⟩
  · obtain ⟨n, h6, h⟩ := Option.bind_eq_some_iff.1 h
    cases h
    intro v w hv
    rw [e1 _ rfl] at hv
    obtain ⟨v', g1, g2⟩ := slA_ok (P := P) h5 h6 (hE _ _ h1) o0 o1 o2 hmh hv w
    exact ⟨v', hx g1, g2⟩
  · cases h

theorem op_fad (hE : OpdOk P β E ρ) {t : TypeId} {x : Operand} {i : Nat} (ho : o.op = .fieldAddr t x i) (h : cOp P o = some (s, xs)) : OpOk P β ρ o (xs.map (Opd.ev E)) s := by
  unfold cOp at h; rw [ho] at h
  obtain ⟨d, h1, h⟩ := Option.bind_eq_some_iff.1 h
  split at h
  · obtain ⟨f, h2, h⟩ := Option.bind_eq_some_iff.1 h
    obtain ⟨n, h3, h⟩ := Option.bind_eq_some_iff.1 h
    split at h
    · cases h
    rename_i hn
    obtain ⟨y, h4, h⟩ := Option.bind_eq_some_iff.1 h
    cases h
    intro v w hv
    obtain ⟨a1, m, e, hv⟩ := g1_eq.1 hv
    cases e
    obtain ⟨v', g1, g2⟩ := fad_ok (P := P) h1 h2 h3 hn (hE _ _ h4) hv w
    refine ⟨v', ?_, g2⟩
    unfold execOp; rw [ho]; exact val_of g1
  · cases h

theorem size_of_agg {t : TypeId} {b : Bool} (h : agg? P t = some b) : ∃ n, size? P t = some n := by
  unfold agg? at h
  obtain ⟨d, h1, _⟩ := Option.map_eq_some_iff.1 h
  unfold Program.underlying at h1
  unfold size?
  cases q : P.info? t with
  | none => rw [q] at h1; cases h1
  | some i => exact ⟨_, rfl⟩

theorem op_fld (hE : OpdOk P β E ρ) {t : TypeId} {x : Operand} {i : Nat} (ho : o.op = .field t x i) (h : cOp P o = some (s, xs)) : OpOk P β ρ o (xs.map (Opd.ev E)) s := by
  unfold cOp at h; rw [ho] at h
  obtain ⟨d, h1, h⟩ := Option.bind_eq_some_iff.1 h
  split at h
  · obtain ⟨f, h2, h⟩ := Option.bind_eq_some_iff.1 h
    obtain ⟨b, h3, h⟩ := Option.bind_eq_some_iff.1 h
    split at h
    · obtain ⟨n, h5, h⟩ := Option.bind_eq_some_iff.1 h
      obtain ⟨y, h4, h⟩ := Option.bind_eq_some_iff.1 h
      cases h
      intro v w hv
      obtain ⟨a1, m, e, hv⟩ := g1_eq.1 hv
      cases e
      obtain ⟨v', g1, g2⟩ := fld_ok (P := P) h1 h2 h3 h5 (hE _ _ h4) (by simpa using hv) w
      refine ⟨v', ?_, g2⟩
      unfold execOp; rw [ho]; exact val_of g1
    · obtain ⟨n, h5⟩ := size_of_agg h3
      obtain ⟨y, h4, h⟩ := Option.bind_eq_some_iff.1 h
      cases h
      intro v w hv
      obtain ⟨a1, m, e, hv⟩ := g1_eq.1 hv
      cases e
      obtain ⟨v', g1, g2⟩ := fld_ok (P := P) h1 h2 h3 h5 (hE _ _ h4) (by simpa using hv) w
      refine ⟨v', ?_, g2⟩
      unfold execOp; rw [ho]; exact val_of g1
  · cases h

theorem op_ia (hE : OpdOk P β E ρ) {t : TypeId} {x i : Operand} (ho : o.op = .indexAddr t x i) (h : cOp P o = some (s, xs)) : OpOk P β ρ o (xs.map (Opd.ev E)) s := by
  unfold cOp at h; rw [ho] at h
  obtain ⟨d, h1, h⟩ := Option.bind_eq_some_iff.1 h
  split at h
  · obtain ⟨n, h2, h⟩ := Option.bind_eq_some_iff.1 h
    obtain ⟨y1, h3, h⟩ := Option.bind_eq_some_iff.1 h
    obtain ⟨y2, h4, h⟩ := Option.bind_eq_some_iff.1 h
    cases h
    intro v w hv
    obtain ⟨a1, a2, m, e, hv⟩ := g2_eq.1 hv
    cases e
    obtain ⟨v', g1, g2⟩ := iaS_ok (P := P) h1 h2 (hE _ _ h3) (hE _ _ h4) hv w
    refine ⟨v', ?_, g2⟩
    unfold execOp; rw [ho]; exact val_of g1
  · obtain ⟨n, h2, h⟩ := Option.bind_eq_some_iff.1 h
    obtain ⟨y1, h3, h⟩ := Option.bind_eq_some_iff.1 h
    obtain ⟨y2, h4, h⟩ := Option.bind_eq_some_iff.1 h
    cases h
    intro v w hv
    obtain ⟨a1, a2, m, e, hv⟩ := g2_eq.1 hv
    cases e
    obtain ⟨v', g1, g2⟩ := iaA_ok (P := P) h1 h2 (hE _ _ h3) (hE _ _ h4) hv w
    refine ⟨v', ?_, g2⟩
    unfold execOp; rw [ho]; exact val_of g1
  · cases h

end
end Go.Am
