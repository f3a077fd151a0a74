/- A part of the library Am: an abstract machine for the model, that a kernel evaluates. -/
import Derived.Test.YtpmajhocoepajaaGreatDoorAmAA
set_option linter.unusedVariables false
set_option linter.unusedSimpArgs false
namespace Go.Am

theorem above_bit (an : Nat → Nat) (x : Nat) : ∀ (l : List Nat) (m : Nat), (l.foldl (fun m j => Nat.lor m (Nat.lor (Nat.shiftLeft 1 j) (an j))) m).testBit x = (m.testBit x || l.any fun j => x == j || (an j).testBit x)
  | [], m => by simp
  | j :: l, m => by
    rw [List.foldl_cons, above_bit an x l]
    have h1 : (Nat.lor m (Nat.lor (Nat.shiftLeft 1 j) (an j))).testBit x = (m.testBit x || ((1 <<< j).testBit x || (an j).testBit x)) := by
      show (m ||| ((1 <<< j) ||| an j)).testBit x = _
      rw [Nat.testBit_or, Nat.testBit_or]
    have h2 : (1 <<< j).testBit x = (x == j) := by
      rw [Nat.one_shiftLeft, Nat.testBit_two_pow]
      by_cases e : j = x
      · subst e; simp
      · have : (x == j) = false := by simpa using fun h => e h.symm
        rw [this]; simp [e]
    rw [h1, h2, List.any_cons]
    cases m.testBit x <;> simp

theorem dirs_mem {o : Oper} {j : Nat} : j ∈ dirs o ↔ ∃ e ∈ o.after.toList, Region.binds .any e = true ∧ e.on = j := by
  unfold dirs
  rw [List.mem_filterMap]
  constructor
  · rintro ⟨e, h1, h2⟩
    split at h2
    · rename_i h; cases h2; exact ⟨e, h1, h, rfl⟩
    · cases h2
  · rintro ⟨e, h1, h2, h3⟩
    exact ⟨e, h1, by rw [if_pos h2, h3]⟩

def kindOf (sops : List (SOp × List Opd)) (j : Nat) : SK := ((sops[j]?).map (·.1.kind)).getD .pu
def pk (sops : List (SOp × List Opd)) (ord : List Nat) (k : Nat) : List (Nat × SK) := ((ord.take k).map fun j => (j, kindOf sops j)).reverse

theorem pk_mem {sops : List (SOp × List Opd)} {ord : List Nat} {p : Nat} {x : Nat × SK} : x ∈ pk sops ord p ↔ ∃ q, q < p ∧ ord[q]? = some x.1 ∧ x.2 = kindOf sops x.1 := by
  unfold pk
  rw [List.mem_reverse, List.mem_map]
  constructor
  · rintro ⟨j, h1, rfl⟩
    obtain ⟨q, hq, e⟩ := List.getElem_of_mem h1
    rw [List.length_take] at hq
    rw [List.getElem_take] at e
    exact ⟨q, by omega, by rw [List.getElem?_eq_getElem (by omega), e], rfl⟩
  · rintro ⟨q, h1, h2, h3⟩
    refine ⟨x.1, ?_, by rw [← h3]⟩
    have : (ord.take p)[q]? = some x.1 := by rw [List.getElem?_take, if_pos h1]; exact h2
    exact List.mem_of_getElem? this

def chkOf (ops : Array Oper) (sops : List (SOp × List Opd)) (plan : Plan) (pre : List (Nat × SK)) (i : Nat) (k : SK) : Option (List Chk) := match k with
  | .ef => (stale (plan.up i) pre).mapM fun r => match ops[r]?, sops[r]? with
    | some o, some s => cChk ops o s
    | _, _ => none
  | _ => some []

theorem walk_ok {nt : Nat} {ops : Array Oper} {sops : List (SOp × List Opd)} {plan : Plan} {dsts : List (Nat × Nat)} : ∀ (rest : List Nat) (pre : List (Nat × SK)) (l : List SOper), walk nt ops sops plan dsts rest pre = some l →
    l.length = rest.length ∧ ∀ (k i : Nat), rest[k]? = some i → ∃ o s so chk, ops[i]? = some o ∧ sops[i]? = some s ∧ l[k]? = some so ∧ stepOk plan dsts (pk sops rest k ++ pre) i o s = true ∧
      chkOf ops sops plan (pk sops rest k ++ pre) i s.1.kind = some chk ∧ cOper nt ops o s chk = some so
  | [], pre, l, h => by
    cases h
    exact ⟨rfl, fun k i h => by simp at h⟩
  | i :: rest, pre, l, h => by
    unfold walk at h
    split at h
    · rename_i o s ho hs
      split at h
      · rename_i hok
        have h : (match chkOf ops sops plan pre i s.1.kind with
          | none => none
          | some chk => match cOper nt ops o s chk with
            | none => none
            | some so => match walk nt ops sops plan dsts rest ((i, s.1.kind) :: pre) with
              | none => none
              | some l => some (so :: l)) = some l := h
        cases h1 : chkOf ops sops plan pre i s.1.kind with
        | none => rw [h1] at h; cases h
        | some chk =>
          rw [h1] at h
          dsimp only at h
          cases h2 : cOper nt ops o s chk with
          | none => rw [h2] at h; cases h
          | some so =>
            rw [h2] at h
            dsimp only at h
            cases h3 : walk nt ops sops plan dsts rest ((i, s.1.kind) :: pre) with
            | none => rw [h3] at h; cases h
            | some l' =>
              rw [h3] at h
              cases h
              obtain ⟨g1, g2⟩ := walk_ok rest _ _ h3
              refine ⟨by simp [g1], fun k j hk => ?_⟩
              cases k with
              | zero =>
                simp at hk; subst hk
                exact ⟨o, s, so, chk, ho, hs, rfl, hok, h1, h2⟩
              | succ k =>
                obtain ⟨o', s', so', chk', q1, q2, q3, q4, q5, q6⟩ := g2 k j (by simpa using hk)
                have e : pk sops (i :: rest) (k + 1) ++ pre = pk sops rest k ++ (i, s.1.kind) :: pre := by
                  unfold pk
                  have : kindOf sops i = s.1.kind := by unfold kindOf; rw [hs]; rfl
                  simp [this]
                exact ⟨o', s', so', chk', q1, q2, by simpa using q3, by rw [e]; exact q4, by rw [e]; exact q5, q6⟩
      · cases h
    · cases h

theorem apart_eq : ∀ {l : List (Nat × Nat)}, apart l = true → ∀ {a b}, a ∈ l → b ∈ l → a.1 = b.1 → a = b
  | [], _, a, _, h, _, _ => by cases h
  | c :: l, h, a, b, ha, hb, e => by
    have h : (l.all (fun b => !Nat.beq c.1 b.1) && apart l) = true := h
    rw [Bool.and_eq_true, List.all_eq_true] at h
    have no : ∀ x ∈ l, c.1 ≠ x.1 := by
      intro x hx e
      have := h.1 x hx
      rw [e, show Nat.beq x.1 x.1 = true from Nat.beq_refl _] at this
      cases this
    rcases List.mem_cons.1 ha with h1 | h1 <;> rcases List.mem_cons.1 hb with h2 | h2
    · rw [h1, h2]
    · subst h1; exact absurd e (no _ h2)
    · subst h2; exact absurd e.symm (no _ h1)
    · exact apart_eq h.2 h1 h2 e

theorem dsts_mem {ops : List Oper} {i t : Nat} {o : Oper} (h : ops[i]? = some o) (hd : o.dst = some t) : (t, i) ∈ dstsOf ops := by
  unfold dstsOf
  rw [List.mem_filterMap]
  exact ⟨(o, i), by rw [List.mk_mem_zipIdx_iff_getElem?]; exact h, by simp [hd]⟩


theorem cChk_ok {ops : Array Oper} {o : Oper} {s : SOp × List Opd} {c : Chk} (h : cChk ops o s = some c) : ∃ f t g, s.1 = .rd f ∧ o.dst = some t ∧ gdst ops o.guard = some g ∧ c = ⟨t, g, f, s.2⟩ := by
  unfold cChk at h
  split at h
  · rename_i f t g h1 h2 h3
    cases h
    refine ⟨f, t, g, ?_, h2, h3, rfl⟩
    cases hs : s.1 with
    | rd f' => rw [hs] at h1; cases h1; rfl
    | _ => rw [hs] at h1; cases h1
  · cases h

theorem rp_of {P : Program} {nt : Nat} {ops : Array Oper} {plan : Plan} {sops : List (SOp × List Opd)} {l : List SOper} (hs : ops.toList.mapM (cOp P) = some sops) (hap : apart (dstsOf ops.toList) = true)
    (hall : (List.range ops.size).all (fun i => plan.ord.any fun j => Nat.beq i j) = true) (hw : walk nt ops sops plan (dstsOf ops.toList) plan.ord [] = some l) (d0 : SOper) :
    l.length = plan.ord.length ∧ ∃ ix op s A, RP P nt ops l.length ix op (fun p => l.getD p d0) s A := by
  obtain ⟨hlen, hstep⟩ := walk_ok _ _ _ hw
  have hst : ∀ {p}, p < l.length → ∃ o s so chk, ops[plan.ord.getD p 0]? = some o ∧ sops[plan.ord.getD p 0]? = some s ∧ l[p]? = some so ∧ stepOk plan (dstsOf ops.toList) (pk sops plan.ord p) (plan.ord.getD p 0) o s = true ∧
      chkOf ops sops plan (pk sops plan.ord p) (plan.ord.getD p 0) s.1.kind = some chk ∧ cOper nt ops o s chk = some so ∧ plan.ord[p]? = some (plan.ord.getD p 0) := by
    intro p hp
    have hg : plan.ord[p]? = some (plan.ord.getD p 0) := by
      rw [List.getD_eq_getElem?_getD]
      have : p < plan.ord.length := by omega
      rw [List.getElem?_eq_getElem this]; rfl
    obtain ⟨o, s, so, chk, h1, h2, h3, h4, h5, h6⟩ := hstep p _ hg
    rw [List.append_nil] at h4 h5
    exact ⟨o, s, so, chk, h1, h2, h3, h4, h5, h6, hg⟩
  let ix : Nat → Nat := fun p => plan.ord.getD p 0
  let op : Nat → Oper := fun p => (ops[ix p]?).getD default
  let s : Nat → SOp × List Opd := fun p => (sops[ix p]?).getD (.callv, [])
  let A : Nat → Nat → Prop := fun p q => q < p ∧ (plan.up (ix p)).testBit (ix q) = true
  refine ⟨hlen, ix, op, s, A, ?_⟩
  -- all that is known of an operation
  have all : ∀ {p}, p < l.length → ∃ chk, ops[ix p]? = some (op p) ∧ sops[ix p]? = some (s p) ∧ l[p]? = some (l.getD p d0) ∧ stepOk plan (dstsOf ops.toList) (pk sops plan.ord p) (ix p) (op p) (s p) = true ∧
      chkOf ops sops plan (pk sops plan.ord p) (ix p) (s p).1.kind = some chk ∧ cOper nt ops (op p) (s p) chk = some (l.getD p d0) ∧ plan.ord[p]? = some (ix p) := by
    intro p hp
    obtain ⟨o, s', so, chk, h1, h2, h3, h4, h5, h6, h7⟩ := hst hp
    have e1 : op p = o := by show (ops[ix p]?).getD default = o; rw [show ops[ix p]? = some o from h1]; rfl
    have e2 : s p = s' := by show (sops[ix p]?).getD (.callv, []) = s'; rw [show sops[ix p]? = some s' from h2]; rfl
    have e3 : l.getD p d0 = so := by rw [List.getD_eq_getElem?_getD, h3]; rfl
    rw [e1, e2, e3]
    exact ⟨chk, h1, h2, h3, h4, h5, h6, h7⟩
  have kd : ∀ {p}, p < l.length → kindOf sops (ix p) = (s p).1.kind := by
    intro p hp
    obtain ⟨_, _, h2, _⟩ := all hp
    unfold kindOf; rw [h2]; rfl
  have inpk : ∀ {p q}, p < l.length → q < p → (ix q, (s q).1.kind) ∈ pk sops plan.ord p := by
    intro p q hp hq
    obtain ⟨_, _, _, _, _, _, _, h7⟩ := all (p := q) (by omega)
    exact pk_mem.2 ⟨q, hq, h7, (kd (by omega)).symm⟩
  have ofpk : ∀ {p x}, p < l.length → x ∈ pk sops plan.ord p → ∃ q, q < p ∧ ix q = x.1 ∧ x.2 = (s q).1.kind := by
    intro p x hp hx
    obtain ⟨q, h1, h2, h3⟩ := pk_mem.1 hx
    obtain ⟨_, _, _, _, _, _, _, h7⟩ := all (p := q) (by omega)
    rw [h7] at h2
    have e := Option.some.inj h2
    exact ⟨q, h1, e, by rw [h3, ← e, kd (by omega)]⟩
  have ok : ∀ {p}, p < l.length → (∀ x ∈ pk sops plan.ord p, x.1 ≠ ix p) ∧ (∀ j ∈ dirs (op p), ∃ x ∈ pk sops plan.ord p, x.1 = j) ∧ plan.up (ix p) = above plan.up (dirs (op p)) ∧
      preOk (s p).1.kind (plan.up (ix p)) (pk sops plan.ord p) = true ∧ (∀ t ∈ Opd.tmps (s p).2, ∀ x ∈ dstsOf ops.toList, x.1 = t → (plan.up (ix p)).testBit x.2 = true ∨ ((s p).1.notRd = true ∧ (plan.up x.2).testBit (ix p) = true)) ∧
      (∀ g b, (op p).guard = some (g, b) → (plan.up (ix p)).testBit g = true) := by
    intro p hp
    obtain ⟨_, _, _, _, h4, _, _, _⟩ := all hp
    unfold stepOk at h4
    simp only [Bool.and_eq_true] at h4
    obtain ⟨⟨⟨⟨⟨a1, a2⟩, a3⟩, a4⟩, a5⟩, a6⟩ := h4
    refine ⟨?_, ?_, Nat.eq_of_beq_eq_true a3, a4, ?_, ?_⟩
    · intro x hx e
      rw [Bool.not_eq_true', List.any_eq_false] at a1
      have := a1 x hx
      rw [e, show Nat.beq (ix p) (ix p) = true from Nat.beq_refl _] at this
      exact this rfl
    · intro j hj
      have := List.all_eq_true.1 a2 j hj
      obtain ⟨x, h1, h2⟩ := List.any_eq_true.1 this
      exact ⟨x, h1, Nat.eq_of_beq_eq_true h2⟩
    · intro t ht x hx e
      have := List.all_eq_true.1 (List.all_eq_true.1 a5 t ht) x hx
      rw [e, show Nat.beq t t = true from Nat.beq_refl _] at this
      simpa using this
    · intro g b e
      rw [e] at a6
      exact a6
  have inj' : ∀ {p q}, p < l.length → q < p → ix q ≠ ix p := by
    intro p q hp hq
    exact (ok hp).1 _ (inpk hp hq)
  have inj : ∀ {p q}, p < l.length → q < l.length → ix p = ix q → p = q := by
    intro p q hp hq e
    rcases Nat.lt_trichotomy p q with h | h | h
    · exact absurd e (inj' hq h)
    · exact h
    · exact absurd e.symm (inj' hp h)
  have bits : ∀ {p x}, p < l.length → ((plan.up (ix p)).testBit x = true ↔ ∃ j ∈ dirs (op p), x = j ∨ (plan.up j).testBit x = true) := by
    intro p x hp
    rw [(ok hp).2.2.1]
    unfold above
    rw [above_bit]
    simp
  have anc : ∀ (p : Nat), p < l.length → ∀ x, (plan.up (ix p)).testBit x = true → ∃ r, r < p ∧ ix r = x := by
    intro p
    induction p using Nat.strongRecOn with
    | _ p ih =>
      intro hp x hx
      obtain ⟨j, h1, h2⟩ := (bits hp).1 hx
      obtain ⟨y, h3, h4⟩ := (ok hp).2.1 j h1
      obtain ⟨r, h5, h6, _⟩ := ofpk hp h3
      rcases h2 with h2 | h2
      · exact ⟨r, h5, by rw [h6, h4, h2]⟩
      · rw [← h4, ← h6] at h2
        obtain ⟨r', h7, h8⟩ := ih r h5 (by omega) x h2
        exact ⟨r', by omega, h8⟩
  have toA : ∀ {p q}, p < l.length → q < l.length → (plan.up (ix p)).testBit (ix q) = true → A p q := by
    intro p q hp hq h
    obtain ⟨r, h1, h2⟩ := anc p hp _ h
    have := inj (by omega) hq h2
    exact ⟨by omega, h⟩
  have pre : ∀ {p q}, p < l.length → q < p → (match (s p).1.kind, (s q).1.kind with
      | .ef, .ef | .ef, .al | .rd, .ef => (plan.up (ix p)).testBit (ix q)
      | _, _ => true) = true := by
    intro p q hp hq
    exact List.all_eq_true.1 (ok hp).2.2.2.1 _ (inpk hp hq)
  constructor
  · intro p hp; obtain ⟨_, h, _⟩ := all hp; exact h
  · exact inj
  · intro i hi
    have := List.all_eq_true.1 hall i (List.mem_range.2 hi)
    obtain ⟨j, h1, h2⟩ := List.any_eq_true.1 this
    have := Nat.eq_of_beq_eq_true h2; subst this
    obtain ⟨p, hp, e⟩ := List.getElem_of_mem h1
    refine ⟨p, by omega, ?_⟩
    show plan.ord.getD p 0 = i
    rw [List.getD_eq_getElem?_getD, List.getElem?_eq_getElem hp, e]; rfl
  · intro p hp
    obtain ⟨_, h1, h2, _⟩ := all hp
    have h3 : ops.toList[ix p]? = some (op p) := by rw [Array.getElem?_toList]; exact h1
    obtain ⟨b, h4, h5⟩ := (mapM_some hs).2 _ _ h3
    rw [h2] at h4; cases h4; exact h5
  · intro p hp
    obtain ⟨_, _, _, _, _, _, h6, _⟩ := all hp
    obtain ⟨e1, e2, e3, e4, _, e6⟩ := cOper_ok h6
    exact ⟨e1, e2, e3, e4, e6⟩
  · intro p q _ h; exact h.1
  · intro p e hp he hb
    have hj : e.on ∈ dirs (op p) := dirs_mem.2 ⟨e, he, hb, rfl⟩
    obtain ⟨y, h3, h4⟩ := (ok hp).2.1 _ hj
    obtain ⟨r, h5, h6, _⟩ := ofpk hp h3
    refine ⟨r, toA hp (by omega) ((bits hp).2 ⟨_, hj, .inl (by rw [h6, h4])⟩), by rw [h6, h4]⟩
  · intro p q hp ha
    obtain ⟨j, h1, h2⟩ := (bits hp).1 ha.2
    obtain ⟨e, h3, h4, h5⟩ := dirs_mem.1 h1
    obtain ⟨y, h6, h7⟩ := (ok hp).2.1 j h1
    obtain ⟨r, h8, h9, _⟩ := ofpk hp h6
    have hq := ha.1
    refine ⟨e, h3, h4, r, h8, by rw [h9, h7, h5], ?_⟩
    rcases h2 with h2 | h2
    · left; exact inj (by omega) (by omega) (by rw [h2, h9, h7])
    · right; refine toA (by omega) (by omega) ?_
      rw [h9, h7]; exact h2
  · intro p q t hp ht hq hd
    obtain ⟨_, h1, _⟩ := all hq
    have hm := dsts_mem (ops := ops.toList) (i := ix q) (by rw [Array.getElem?_toList]; exact h1) hd
    exact ((ok hp).2.2.2.2.1 t ht _ hm rfl).imp (toA hp hq) fun h => ⟨h.1, toA hq hp h.2⟩
  · intro p g b hp hg
    have h := (ok hp).2.2.2.2.2 g b hg
    obtain ⟨r, h1, h2⟩ := anc p hp _ h
    exact ⟨r, ⟨h1, by rw [h2]; exact h⟩, h2⟩
  · intro p q t hp hq h1 h2
    obtain ⟨_, g1, _⟩ := all hp
    obtain ⟨_, g2, _⟩ := all hq
    have m1 := dsts_mem (ops := ops.toList) (i := ix p) (by rw [Array.getElem?_toList]; exact g1) h1
    have m2 := dsts_mem (ops := ops.toList) (i := ix q) (by rw [Array.getElem?_toList]; exact g2) h2
    have := apart_eq hap m1 m2 rfl
    exact inj hp hq (congrArg Prod.snd this)
  · intro p q hp hq h1 h2
    have := pre hp hq
    rw [h1, h2] at this
    exact ⟨hq, this⟩
  · intro p q hp hq h1 h2
    have := pre hp hq
    rw [h1, h2] at this
    exact ⟨hq, this⟩
  · intro p q hp hq h1 h2
    have := pre hp hq
    rw [h1, h2] at this
    exact ⟨hq, this⟩
  · intro p q hp hq h1 h2 hn
    have hq' : q < l.length := by omega
    obtain ⟨chk, _, _, _, _, h5, h6, _⟩ := all hp
    obtain ⟨_, g1, g2, _, _, _, g6, _⟩ := all hq'
    rw [h1] at h5
    have hst : ix q ∈ stale (plan.up (ix p)) (pk sops plan.ord p) := by
      unfold stale
      rw [List.mem_filterMap]
      refine ⟨_, inpk hp hq, ?_⟩
      rw [h2]
      dsimp only
      rw [if_neg]
      intro h; exact hn ⟨hq, h⟩
    obtain ⟨k, hk, e⟩ := List.getElem_of_mem hst
    obtain ⟨c, h7, h8⟩ := (mapM_some h5).2 k (ix q) (by rw [List.getElem?_eq_getElem hk, e])
    rw [g1, g2] at h8
    obtain ⟨f, t, g, i1, i2, i3, i4⟩ := cChk_ok h8
    obtain ⟨_, _, _, e4, _, _⟩ := cOper_ok g6
    obtain ⟨_, _, _, _, e5, _⟩ := cOper_ok h6
    refine ⟨f, t, i1, i2, ?_⟩
    show _ ∈ (l.getD p d0).chk
    rw [e5]
    have : g = (l.getD q d0).guard := by rw [i3] at e4; exact Option.some.inj e4
    rw [← this, ← i4]
    exact List.mem_of_getElem? h7

theorem region_ok {P : Program} (hm : P.follows .mixedOrders = true) {nt hi id : Nat} {ops : Array Oper} {draw : Bool} {plan : Option Plan} {Q : Exit → Act → World → Prop} {l : List SOper} {E : Env} {H : Heap} {E' : Env} {H' : Heap}
    (hc : cOpers P nt plan ops = some l) (hd : plan.isSome = draw) (ht : Tra P l E H E' H')
    {β : Map} {a : Act} {w : World} (hok : Ok P β H E nt hi a w) (hle : H'.next ≤ hi) (hQ : ∀ a' w', Left P β H nt hi a w E' H' a' w' → Q .normal a' w') : (Code.region id ops draw).wp P Q a w := by
  cases plan with
  | none => cases hd; exact seqRegion_ok hc ht hok hle hQ
  | some plan =>
    cases hd
    unfold cOpers at hc
    split at hc
    · cases hc
    rename_i sops hs
    dsimp only at hc
    split at hc
    · rename_i hb
      rw [Bool.and_eq_true] at hb
      have d0 : SOper := ⟨none, .callv, [], none, []⟩
      obtain ⟨hlen, ix, op, s, A, hR⟩ := rp_of hs hb.1 hb.2 hc d0
      obtain ⟨Es, Hs, vs, hT, e1, e2, e3, e4⟩ := ht.rt d0
      subst e1; subst e2; subst e3; subst e4
      exact drawRegion_rp hT hR hm hok hle hQ
    · cases hc

end Go.Am
