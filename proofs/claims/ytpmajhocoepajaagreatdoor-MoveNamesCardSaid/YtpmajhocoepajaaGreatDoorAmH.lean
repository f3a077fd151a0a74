/- A part of the library Am: an abstract machine for the model, that a kernel evaluates. -/
import Derived.Test.YtpmajhocoepajaaGreatDoorAmG
set_option linter.unusedVariables false
set_option linter.unusedSimpArgs false
namespace Go.Am

/-! ## constants -/
theorem mapM_some {α γ : Type} {f : α → Option γ} : ∀ {l : List α} {r : List γ}, l.mapM f = some r → l.length = r.length ∧ ∀ (i : Nat) (a : α), l[i]? = some a → ∃ b, r[i]? = some b ∧ f a = some b
  | [], r, h => by simp at h; subst h; simp
  | a :: l, r, h => by
    simp only [List.mapM_cons] at h
    cases h1 : f a with
    | none => rw [h1] at h; cases h
    | some b =>
      rw [h1] at h
      cases h2 : l.mapM f with
      | none => rw [h2] at h; cases h
      | some r' =>
        rw [h2] at h; cases h
        obtain ⟨h3, h4⟩ := mapM_some h2
        refine ⟨by simp [h3], fun i x hx => ?_⟩
        cases i with
        | zero => simp at hx; subst hx; exact ⟨b, rfl, h1⟩
        | succ i => obtain ⟨y, h5, h6⟩ := h4 i x (by simpa using hx); exact ⟨y, by simpa using h5, h6⟩

theorem LRel.of_mapM {β : Map} {f : Value → Option AVal} (hf : ∀ v a, f v = some a → VRel β a v) {l : List Value} {r : List AVal} (h : l.mapM f = some r) : LRel β r l := by
  obtain ⟨h1, h2⟩ := mapM_some h
  refine LRel.of_get h1.symm fun i a ha => ?_
  have hi : i < l.length := by
    have := (List.getElem?_eq_some_iff.1 ha).1; omega
  obtain ⟨b, h3, h4⟩ := h2 i l[i] (by simp [hi])
  rw [ha] at h3; cases h3
  exact ⟨l[i], by simp [hi], hf _ _ h4⟩

theorem conv_rel (β : Map) : ∀ (d : Nat) (v : Value) (a : AVal), conv d v = some a → VRel β a v := by
  intro d
  induction d with
  | zero => intro v a h; cases h
  | succ d ih =>
    intro v a h
    cases v with
    | bool b => cases h; exact .bool _
    | int k n => cases h; exact .int _ _
    | string s => cases h; exact .str (StrRel.of _)
    | pointer p => cases p with
      | none => cases h; exact .nilp
      | some p => cases h
    | slice p l c => cases p with
      | none => cases l with
        | zero => cases c with
          | zero => cases h; exact .nils
          | succ c => cases h
        | succ l => cases h
      | some p => cases h
    | map p => cases p with
      | none => cases h; exact .nilm
      | some p => cases h
    | nilFunc => cases h; exact .nilf
    | nilIface => cases h; exact .nili
    | float k b => cases h
    | complex k x y => cases h
    | chan c => cases h
    | iface t v =>
      change (match conv d v with | some a => some (AVal.ifc t a) | none => none) = some a at h
      cases h1 : conv d v with
      | none => rw [h1] at h; cases h
      | some x => rw [h1] at h; cases h; exact .ifc (ih _ _ h1)
    | tuple l =>
      change (match l.toList.mapM (conv d) with | some l => some (AVal.tup l) | none => none) = some a at h
      cases h1 : l.toList.mapM (conv d) with
      | none => rw [h1] at h; cases h
      | some x => rw [h1] at h; cases h; exact .tup (LRel.of_mapM ih h1)
    | agg l =>
      change (match l.toList.mapM (fun v : Value => match v with | .agg _ => none | .tuple _ => none | v => conv d v) with | some l => some (AVal.agg l) | none => none) = some a at h
      cases h1 : l.toList.mapM (fun v : Value => match v with | .agg _ => none | .tuple _ => none | v => conv d v) with
      | none => rw [h1] at h; cases h
      | some x =>
        rw [h1] at h; cases h
        refine .agg (LRel.of_mapM (fun v a hv => ?_) h1) fun v hv => ?_
        · cases v <;> first | exact ih _ _ hv | cases hv
        · obtain ⟨i, hi, e⟩ := List.getElem_of_mem hv
          obtain ⟨b, _, h3⟩ := (mapM_some h1).2 i v (by rw [← e]; exact List.getElem?_eq_getElem hi)
          cases v <;> first | trivial | cases h3
    | func f x y =>
      have key : ∀ g : Fn, (∀ l, g ≠ .yield l) → (match x.toList.mapM (conv d), y.toList.mapM (conv d) with | some a, some b => some (AVal.fn g a b) | _, _ => none) = some a → VRel β a (.func g x y) := by
        intro g hg h
        cases h1 : x.toList.mapM (conv d) with
        | none => rw [h1] at h; cases h
        | some p =>
          cases h2 : y.toList.mapM (conv d) with
          | none => rw [h1, h2] at h; cases h
          | some q => rw [h1, h2] at h; cases h; exact .fn hg (LRel.of_mapM ih h1) (LRel.of_mapM ih h2)
      cases f with
      | yield l => cases h
      | _ => exact key _ nofun h

/-! ## the cells of a value -/
theorem flat_of {β : Map} {v : AVal} {v' : Value} (h : VRel β v v') (h1 : ∀ l, v ≠ .agg l) (h2 : v ≠ .bad) (h3 : ∀ l, v ≠ .tup l) : Flat v' := by
  cases h <;> first | trivial | exact absurd rfl h2 | exact absurd rfl (h1 _) | exact absurd rfl (h3 _)
theorem cells_rel {β : Map} {γ : Type} {v : AVal} {v' : Value} (h : VRel β v v') {k : List AVal → Option γ} {r : γ} (hk : withCells v k = some r) :
    ∃ l, k l = some r ∧ LRel β l v'.cells.toList ∧ ∀ x ∈ v'.cells.toList, Flat x := by
  rcases withCells_eq.1 hk with ⟨l, e, h1⟩ | ⟨h1, h2, h3, h4⟩
  · subst e
    cases h with
    | agg hl hf => exact ⟨l, h1, hl, hf⟩
  · have hf := flat_of h h1 h2 h3
    have e : v'.cells = #[v'] := by cases v' <;> first | rfl | exact hf.elim
    refine ⟨[v], h4, ?_, ?_⟩
    · rw [e]; exact .cons h .nil
    · rw [e]; intro x hx; simp at hx; subst hx; exact hf

theorem zero_ok {P : Program} {t : TypeId} {v : AVal} {l : List AVal} (h : zero? P t = some (v, l)) :
    ∃ z, (∀ w, (zeroValue t).run P w = .ok z w) ∧ (∀ β, VRel β v z) ∧ (∀ β, LRel β l z.cells.toList) ∧ (∀ x ∈ z.cells.toList, Flat x) ∧ size? P t = some l.length := by
  unfold zero? at h
  split at h
  · cases h
  rename_i i hi
  split at h
  · cases h
  rename_i z hz
  split at h
  · cases h
  rename_i a ha
  obtain ⟨l', h1, _, hf⟩ := cells_rel (conv_rel (fun _ => none) 5 z a ha) h
  split at h1
  · rename_i hl
    cases h1
    refine ⟨z, fun w => by simp [zeroValue, run_typeInfo w hi, hz], fun β => conv_rel β 5 z v ha, fun β => ?_, hf, by unfold size?; rw [hi]; exact congrArg some hl.symm⟩
    obtain ⟨l'', h1, h2, _⟩ := cells_rel (conv_rel β 5 z v ha) h
    split at h1
    · cases h1; exact h2
    · cases h1
  · cases h1

theorem setAll (off : Nat) : ∀ (m : List Value) (j : Nat) (c : Array Value), off + j + m.length ≤ c.size →
    ((m.zipIdx j).foldl (fun (cs : Array Value) (p : Value × Nat) => cs.setIfInBounds (off + p.2) p.1) c).toList = c.toList.take (off + j) ++ m ++ c.toList.drop (off + j + m.length) := by
  intro m
  induction m with
  | nil => intro j c h; simp
  | cons a m ih =>
    intro j c h
    simp only [List.length_cons] at h
    simp only [List.zipIdx_cons, List.foldl_cons]
    rw [ih (j + 1) _ (by simp; omega)]
    have hlt : off + j < c.toList.length := by rw [Array.length_toList]; omega
    rw [Array.toList_setIfInBounds, List.set_eq_take_append_cons_drop, if_pos hlt]
    have e1 : (c.toList.take (off + j) ++ a :: c.toList.drop (off + j + 1)).take (off + (j + 1)) = c.toList.take (off + j) ++ [a] := by
      rw [List.take_append, List.length_take, Nat.min_eq_left (by omega), show off + (j + 1) - (off + j) = 1 by omega]
      rw [List.take_of_length_le (by rw [List.length_take]; omega)]; simp
    have e2 : (c.toList.take (off + j) ++ a :: c.toList.drop (off + j + 1)).drop (off + (j + 1) + m.length) = c.toList.drop (off + j + (a :: m).length) := by
      rw [List.drop_append, List.length_take, Nat.min_eq_left (by omega), show off + (j + 1) + m.length - (off + j) = m.length + 1 by omega]
      rw [List.drop_of_length_le (by rw [List.length_take]; omega)]
      simp only [List.nil_append, List.drop_succ_cons, List.drop_drop, List.length_cons]
      congr 1; omega
    rw [e1, e2]; simp

theorem fill_ok {β : Map} (pl : Nat → Option (Nat × Nat)) : ∀ (idx : List Nat) (pos : List (Nat × Nat)) (vals : List AVal) (cvals : List Value) (zs cs : List AVal) (c : Array Value),
    idx.length = cvals.length → (∀ (k i : Nat), idx[k]? = some i → ∃ p, pos[k]? = some p ∧ pl i = some p) → pos.length = idx.length → LRel β vals cvals → LRel β zs c.toList → (∀ x ∈ c.toList, Flat x) → oBuild zs pos vals = some cs →
    ∃ c', Instr.fill pl c (idx.zip cvals) = some c' ∧ LRel β cs c'.toList ∧ (∀ x ∈ c'.toList, Flat x) ∧ c'.size = c.size := by
  intro idx
  induction idx with
  | nil =>
    intro pos vals cvals zs cs c hlen hpos hpl hv hz hf h
    cases cvals with
    | cons => simp at hlen
    | nil =>
      cases pos with
      | cons => simp at hpl
      | nil =>
        cases hv
        cases h
        exact ⟨c, rfl, hz, hf, rfl⟩
  | cons i idx ih =>
    intro pos vals cvals zs cs c hlen hpos hpl hv hz hf h
    cases cvals with
    | nil => simp at hlen
    | cons v' cvals =>
      cases pos with
      | nil => simp at hpl
      | cons p pos =>
        cases hv with
        | @cons v _ vals _ hvv ht =>
          obtain ⟨l, h1, h2, h3⟩ := cells_rel hvv (show withCells v (fun cs => ifB (Nat.beq (lenL cs) p.2) (onOpt (lay p.1 cs zs) fun zs => oBuild zs pos vals)) = some cs from h)
          obtain ⟨h4, h5⟩ := ifB_eq.1 h1
          obtain ⟨zs', h6, h7⟩ := onOpt_eq.1 h5
          obtain ⟨h8, rfl⟩ := lay_eq.1 h6
          have h4 := Nat.eq_of_beq_eq_true h4
          rw [lenL_eq] at h4
          obtain ⟨q, hq1, hq2⟩ := hpos 0 i rfl
          simp at hq1; subst hq1
          have hl : l.length = v'.cells.size := h2.length
          have hzl : zs.length = c.size := hz.length
          have hset := setAll p.1 v'.cells.toList 0 c (by show p.1 + 0 + v'.cells.size ≤ c.size; omega)
          have hset : _ = c.toList.take p.1 ++ v'.cells.toList ++ c.toList.drop (p.1 + v'.cells.size) := hset
          have hsz : (v'.cells.zipIdx.foldl (fun cs (x : Value × Nat) => cs.setIfInBounds (p.1 + x.2) x.1) c).toList = c.toList.take p.1 ++ v'.cells.toList ++ c.toList.drop (p.1 + v'.cells.size) := by
            rw [← Array.foldl_toList, Array.toList_zipIdx]; exact hset
          obtain ⟨c', g1, g2, g3, g4⟩ := ih pos vals cvals _ cs _ (by simpa using hlen) (fun k j hk => by simpa using hpos (k + 1) j (by simpa using hk)) (by simpa using hpl) ht
            (show LRel β (zs.take p.1 ++ l ++ zs.drop (p.1 + l.length)) (v'.cells.zipIdx.foldl (fun cs (x : Value × Nat) => cs.setIfInBounds (p.1 + x.2) x.1) c).toList by
              rw [hsz, hl]; exact ((hz.take _).append h2).append (hz.drop _))
            (by
              rw [hsz]; intro x hx
              simp only [List.mem_append] at hx
              rcases hx with (hx | hx) | hx
              · exact hf x (List.take_subset _ _ hx)
              · exact h3 x hx
              · exact hf x (List.drop_subset _ _ hx)) h7
          refine ⟨c', ?_, g2, g3, ?_⟩
          · simp only [List.zip_cons_cons, Instr.fill, hq2]
            rw [if_neg]
            · exact g1
            · simp; omega
          · rw [g4, ← Array.length_toList, hsz]
            simp only [List.length_append, List.length_take, List.length_drop, Array.length_toList]
            omega

theorem cParts_ok {P : Program} {pl : Nat → Option (Nat × Nat)} : ∀ {l : List (Nat × Operand)} {pos : List (Nat × Nat)} {xs : List Opd}, cParts P pl l = some (pos, xs) →
    pos.length = l.length ∧ (∀ (k i : Nat), (l.map (·.1))[k]? = some i → ∃ p, pos[k]? = some p ∧ pl i = some p) ∧ (l.map (·.2)).mapM (cOpd P) = some xs
  | [], _, _, h => by cases h; simp
  | (i, x) :: l, pos, xs, h => by
    unfold cParts at h
    split at h
    · rename_i p y r h1 h2 h3
      cases h
      obtain ⟨g1, g2, g3⟩ := cParts_ok h3
      refine ⟨by simp [g1], fun k j hk => ?_, by simp [h2, g3]⟩
      cases k with
      | zero => simp at hk; subst hk; exact ⟨p, rfl, h1⟩
      | succ k => obtain ⟨q, g4, g5⟩ := g2 k j (by simpa using hk); exact ⟨q, by simpa using g4, g5⟩
    · cases h

theorem places_ok {P : Program} {fs : Array Field} {pl : List (Nat × Nat)} (h : places? P fs = some pl) (w : World) :
    (fs.mapM fun f => do pure (f.offset, ← sizeOf f.type) : Sem (Array (Nat × Nat))).run P w = .ok pl.toArray w := by
  unfold places? at h
  rw [Array.mapM_eq_mapM_toList]
  have key : ∀ (l : List Field) (r : List (Nat × Nat)), l.mapM (fun f => (size? P f.type).map fun n => (f.offset, n)) = some r →
      (l.mapM fun (f : Field) => (sizeOf f.type >>= fun x => pure (f.offset, x) : Sem (Nat × Nat))).run P w = .ok r w := by
    intro l
    induction l with
    | nil => intro r h; simp at h; subst h; rfl
    | cons f l ih =>
      intro r h
      simp only [List.mapM_cons] at h ⊢
      cases h1 : size? P f.type with
      | none => rw [h1] at h; cases h
      | some n =>
        rw [h1] at h
        cases h2 : l.mapM (fun f => (size? P f.type).map fun n => (f.offset, n)) with
        | none => rw [h2] at h; cases h
        | some r' =>
          rw [h2] at h; cases h
          simp only [Sem.run_bind, run_sizeOf' h1, Result.andThen_ok, Sem.run_pure, ih _ h2]
  simp only [Sem.run_map, key _ _ h, Result.andThen_ok]

theorem build_ok {P : Program} {β : Map} {t : TypeId} {zv : AVal} {zs : List AVal} (hz : zero? P t = some (zv, zs)) {ps : Array (Nat × Operand)} {pos : List (Nat × Nat)} {xs : List Opd}
    {pl : Nat → Option (Nat × Nat)} (hp : cParts P pl ps.toList = some (pos, xs))
    (hpl : (∃ fs l, P.underlying t = some (.struct fs) ∧ places? P fs = some l ∧ pl = (l[·]?)) ∨ (∃ n e s, P.underlying t = some (.array n e) ∧ size? P e = some s ∧ pl = fun i => some (i * s, s)))
    {vals : List AVal} {ρ : Operand → Value} (hv : LRel β vals (ps.toList.map fun p => ρ p.2)) {v : AVal} (h : oAgg zs pos vals = some v) (w : World) :
    ∃ v', (Instr.build t (ps.map fun (i, x) => (i, ρ x))).run P w = .ok v' w ∧ VRel β v v' := by
  obtain ⟨cs, h1, h2⟩ := onOpt_eq.1 h
  cases h2
  obtain ⟨z, z1, z2, z3, z4, z5⟩ := zero_ok hz
  obtain ⟨p1, p2, p3⟩ := cParts_ok hp
  obtain ⟨c', f1, f2, f3, f4⟩ := fill_ok pl (ps.toList.map (·.1)) pos vals _ zs cs z.cells (by simp) p2 (by simpa using p1) hv (z3 β) z4 h1
  have e : (ps.map fun (x : Nat × Operand) => (x.1, ρ x.2)).toList = (ps.toList.map (·.1)).zip (ps.toList.map fun p => ρ p.2) := by
    rw [Array.toList_map, List.zip_map']
  refine ⟨.agg c', ?_, .agg f2 f3⟩
  rcases hpl with ⟨fs, l, u1, u2, rfl⟩ | ⟨n, e', s, u1, u2, rfl⟩
  · simp only [Instr.build, Sem.run_bind, z1, Result.andThen_ok, run_underlying u1, places_ok u2]
    have e2 : (fun (i : Nat) => l.toArray[i]?) = (fun (i : Nat) => l[i]?) := funext fun i => List.getElem?_toArray
    rw [e2, e, f1]; rfl
  · simp only [Instr.build, Sem.run_bind, z1, Result.andThen_ok, run_underlying u1, run_sizeOf' u2]
    rw [e, f1]; rfl

end Go.Am
