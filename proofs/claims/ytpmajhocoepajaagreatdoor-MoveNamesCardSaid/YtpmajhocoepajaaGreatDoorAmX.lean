/- A part of the library Am: an abstract machine for the model, that a kernel evaluates. -/
import Derived.Test.YtpmajhocoepajaaGreatDoorAmW
set_option linter.unusedVariables false
set_option linter.unusedSimpArgs false
namespace Go.Am

/-- a region's operations in an order: what the order must meet -/
structure RP (P : Program) (nt : Nat) (ops : Array Oper) (N : Nat) (ix : Nat → Nat) (op : Nat → Oper) (so : Nat → SOper) (s : Nat → SOp × List Opd) (A : Nat → Nat → Prop) : Prop where
  ix_op : ∀ {p}, p < N → ops[ix p]? = some (op p)
  inj : ∀ {p q}, p < N → q < N → ix p = ix q → p = q
  surj : ∀ {i}, i < ops.size → ∃ p, p < N ∧ ix p = i
  comp : ∀ {p}, p < N → cOp P (op p) = some (s p)
  oper : ∀ {p}, p < N → (so p).dst = (op p).dst ∧ (so p).op = (s p).1 ∧ (so p).args = (s p).2 ∧ gdst ops (op p).guard = some (so p).guard ∧ ∀ t, (op p).dst = some t → t < nt
  lt : ∀ {p q}, p < N → A p q → q < p
  dirA : ∀ {p e}, p < N → e ∈ (op p).after.toList → Region.binds .any e = true → ∃ r, A p r ∧ ix r = e.on
  Adir : ∀ {p q}, p < N → A p q → ∃ e, e ∈ (op p).after.toList ∧ Region.binds .any e = true ∧ ∃ r, r < p ∧ ix r = e.on ∧ (q = r ∨ A r q)
  tmps : ∀ {p q t}, p < N → t ∈ Opd.tmps (s p).2 → q < N → (op q).dst = some t → A p q ∨ ((s p).1.notRd = true ∧ A q p)
  guard : ∀ {p g b}, p < N → (op p).guard = some (g, b) → ∃ r, A p r ∧ ix r = g
  uniq : ∀ {p q t}, p < N → q < N → (op p).dst = some t → (op q).dst = some t → p = q
  eff : ∀ {p q}, p < N → q < p → (s p).1.kind = .ef → (s q).1.kind = .ef → A p q
  efa : ∀ {p q}, p < N → q < p → (s p).1.kind = .ef → (s q).1.kind = .al → A p q
  efr : ∀ {p q}, p < N → q < p → (s p).1.kind = .rd → (s q).1.kind = .ef → A p q
  chk : ∀ {p q}, p < N → q < p → (s p).1.kind = .ef → (s q).1.kind = .rd → ¬ A p q → ∃ f t, (s q).1 = .rd f ∧ (op q).dst = some t ∧ (⟨t, (so q).guard, f, (s q).2⟩ : Chk) ∈ (so p).chk

/-- a run in that order -/
structure RT (P : Program) (N : Nat) (so : Nat → SOper) (Es : Nat → Env) (Hs : Nat → Heap) (vs : Nat → AVal) : Prop where
  env : ∀ {p}, p < N → Es (p + 1) = put (Es p) (so p).dst (vs p)
  step : ∀ {p}, p < N → (gd (so p).guard (Es p) = some false ∧ vs p = .tup [] ∧ Hs (p + 1) = Hs p) ∨
    (gd (so p).guard (Es p) = some true ∧ Does P (so p).op ((so p).args.map (Opd.ev (Es p))) (Hs p) (vs p) (Hs (p + 1)) ∧ chks (Es (p + 1)) (Hs (p + 1)) (so p).chk)

theorem Tra.rt {P : Program} {l : List SOper} {E : Env} {H : Heap} {E' : Env} {H' : Heap} (h : Tra P l E H E' H') (d : SOper) :
    ∃ Es Hs vs, RT P l.length (fun p => l.getD p d) Es Hs vs ∧ Es 0 = E ∧ Hs 0 = H ∧ Es l.length = E' ∧ Hs l.length = H' := by
  induction h with
  | @nil E H => exact ⟨fun _ => E, fun _ => H, fun _ => .bad, ⟨fun h => by simp at h, fun h => by simp at h⟩, rfl, rfl, rfl, rfl⟩
  | @skp o l E H E' H' hg _ ih =>
    obtain ⟨Es, Hs, vs, h1, h2, h3, h4, h5⟩ := ih
    refine ⟨fun p => match p with | 0 => E | p + 1 => Es p, fun p => match p with | 0 => H | p + 1 => Hs p, fun p => match p with | 0 => .tup [] | p + 1 => vs p, ⟨?_, ?_⟩, rfl, rfl, h4, h5⟩
    · intro p hp
      cases p with
      | zero => exact h2
      | succ p => exact h1.env (by simpa using hp)
    · intro p hp
      cases p with
      | zero => exact .inl ⟨hg, rfl, h3⟩
      | succ p => exact h1.step (by simpa using hp)
  | @run o l E H v H1 E' H' hg hd hc _ ih =>
    obtain ⟨Es, Hs, vs, h1, h2, h3, h4, h5⟩ := ih
    refine ⟨fun p => match p with | 0 => E | p + 1 => Es p, fun p => match p with | 0 => H | p + 1 => Hs p, fun p => match p with | 0 => v | p + 1 => vs p, ⟨?_, ?_⟩, rfl, rfl, h4, h5⟩
    · intro p hp
      cases p with
      | zero => exact h2
      | succ p => exact h1.env (by simpa using hp)
    · intro p hp
      cases p with
      | zero =>
        refine .inr ⟨hg, ?_, ?_⟩
        · show Does P o.op (o.args.map (Opd.ev E)) H v (Hs 0); rw [h3]; exact hd
        · show chks (Es 0) (Hs 0) o.chk; rw [h2, h3]; exact hc
      | succ p => exact h1.step (by simpa using hp)

section
variable {P : Program} {nt : Nat} {ops : Array Oper} {N : Nat} {ix : Nat → Nat} {op : Nat → Oper} {so : Nat → SOper} {s : Nat → SOp × List Opd} {A : Nat → Nat → Prop}
variable {Es : Nat → Env} {Hs : Nat → Heap} {vs : Nat → AVal}

theorem RT.next (hT : RT P N so Es Hs vs) {p : Nat} : ∀ {k : Nat}, p + k ≤ N → (Hs p).next ≤ (Hs (p + k)).next
  | 0, _ => Nat.le_refl _
  | k + 1, h => by
    refine Nat.le_trans (RT.next hT (k := k) (by omega)) ?_
    rcases hT.step (p := p + k) (by omega) with ⟨_, _, h1⟩ | ⟨_, h1, _⟩
    · rw [show p + (k + 1) = p + k + 1 by omega, h1]; exact Nat.le_refl _
    · exact h1.mono
theorem RT.next' (hT : RT P N so Es Hs vs) {p q : Nat} (h : p ≤ q) (hq : q ≤ N) : (Hs p).next ≤ (Hs q).next := by
  obtain ⟨k, rfl⟩ : ∃ k, q = p + k := ⟨q - p, by omega⟩
  exact hT.next hq

theorem RT.stay (hT : RT P N so Es Hs vs) {t p : Nat} : ∀ {k : Nat}, p + k ≤ N → (∀ r, p ≤ r → r < p + k → (so r).dst ≠ some t) → Es (p + k) t = Es p t
  | 0, _, _ => rfl
  | k + 1, h, hn => by
    have ih := RT.stay hT (k := k) (by omega) (fun r h1 h2 => hn r h1 (by omega))
    have h1 := hT.env (p := p + k) (by omega)
    rw [show p + (k + 1) = p + k + 1 by omega, h1, ← ih]
    have h2 := hn (p + k) (by omega) (by omega)
    cases hd : (so (p + k)).dst with
    | none => rfl
    | some d =>
      have : t ≠ d := fun e => h2 (by rw [hd, e])
      show (if t = d then _ else _) = _
      rw [if_neg this]
theorem RT.stay' (hT : RT P N so Es Hs vs) {t p q : Nat} (h : p ≤ q) (hq : q ≤ N) (hn : ∀ r, p ≤ r → r < q → (so r).dst ≠ some t) : Es q t = Es p t := by
  obtain ⟨k, rfl⟩ : ∃ k, q = p + k := ⟨q - p, by omega⟩
  exact hT.stay hq hn

/-- what a tmp holds behind the operation that writes it -/
theorem RT.wrote (hT : RT P N so Es Hs vs) (hR : RP P nt ops N ix op so s A) {t p q : Nat} (hp : p < N) (hd : (op p).dst = some t) (hpq : p < q) (hq : q ≤ N) : Es q t = vs p := by
  have h1 : Es q t = Es (p + 1) t := hT.stay' (by omega) hq fun r h1 h2 e => by
    have hr : r < N := by omega
    rw [(hR.oper hr).1] at e
    have := hR.uniq hp hr hd e
    omega
  rw [h1, hT.env hp, (hR.oper hp).1, hd]
  simp [put]
theorem RT.unwrote (hT : RT P N so Es Hs vs) (hR : RP P nt ops N ix op so s A) {t q : Nat} (hq : q ≤ N) (hn : ∀ r, r < N → (op r).dst ≠ some t) : Es q t = Es 0 t :=
  hT.stay' (Nat.zero_le _) hq fun r _ h2 e => by
    have hr : r < N := by omega
    rw [(hR.oper hr).1] at e
    exact hn r hr e

open Classical in
/-- the tmps where some operations have run -/
noncomputable def Ecur (N : Nat) (op : Nat → Oper) (Es : Nat → Env) (D : Nat → Prop) : Env := fun t => if ∃ p, p < N ∧ D p ∧ (op p).dst = some t then Es N t else Es 0 t

theorem Ecur_eq (hT : RT P N so Es Hs vs) (hR : RP P nt ops N ix op so s A) {D : Nat → Prop} {p : Nat} (hp : p < N) (hA : ∀ q, A p q → D q) {t : Nat} (ht : ∀ q, q < N → (op q).dst = some t → A p q ∨ (A q p ∧ ¬ D q)) :
    Ecur N op Es D t = Es p t := by
  unfold Ecur
  by_cases h : ∃ q, q < N ∧ (op q).dst = some t
  · obtain ⟨q, hq, hd⟩ := h
    rcases ht q hq hd with ha | ⟨ha, hnd⟩
    rotate_left
    · rw [if_neg]
      · exact (hT.stay' (Nat.zero_le p) (Nat.le_of_lt hp) fun r _ h2 e => by
          have hr : r < N := by omega
          rw [(hR.oper hr).1] at e
          have := hR.uniq hr hq e hd
          have := hR.lt hq ha
          omega).symm
      · rintro ⟨r, h1, h2, h3⟩
        have := hR.uniq h1 hq h3 hd
        subst this
        exact hnd h2
    rw [if_pos ⟨q, hq, hA q ha, hd⟩, hT.wrote hR hq hd hq (Nat.le_refl N), hT.wrote hR hq hd (hR.lt hp ha) (by omega)]
  · rw [if_neg (fun ⟨q, h1, h2, h3⟩ => h ⟨q, h1, h3⟩)]
    exact (hT.unwrote hR (Nat.le_of_lt hp) fun r hr e => h ⟨r, hr, e⟩).symm

theorem ev_tmps {E E' : Env} : ∀ (l : List Opd), (∀ t ∈ Opd.tmps l, E t = E' t) → l.map (Opd.ev E) = l.map (Opd.ev E')
  | [], _ => rfl
  | .c v :: l, h => by
    simp only [List.map_cons, Opd.ev]; rw [ev_tmps l h]
  | .t i :: l, h => by
    simp only [List.map_cons, Opd.ev]; rw [ev_tmps l fun t ht => h t (by simp [Opd.tmps, ht]), h i (by simp [Opd.tmps])]

theorem gd_eq {g : Option (Nat × Bool)} {E E' : Env} (h : ∀ t b, g = some (t, b) → E t = E' t) : gd g E = gd g E' := by
  cases g with
  | none => rfl
  | some q =>
    obtain ⟨t, b⟩ := q
    show (match E t with
      | AVal.bool b' => some (b' == b)
      | AVal.tup [] => some false
      | _ => none) = _
    rw [h t b rfl]; rfl

/-- the guard's tmp: an operation ahead writes it -/
theorem RP.gtmp (hR : RP P nt ops N ix op so s A) {p t : Nat} {b : Bool} (hp : p < N) (h : (so p).guard = some (t, b)) : ∃ r, A p r ∧ (op r).dst = some t := by
  have hg := (hR.oper hp).2.2.2.1
  rw [h] at hg
  unfold gdst at hg
  cases ho : (op p).guard with
  | none => rw [ho] at hg; cases hg
  | some q =>
    obtain ⟨g, b'⟩ := q
    rw [ho] at hg
    obtain ⟨r, h1, h2⟩ := hR.guard hp ho
    have hr : r < N := Nat.lt_trans (hR.lt hp h1) hp
    dsimp only at hg
    rw [← h2, hR.ix_op hr] at hg
    refine ⟨r, h1, ?_⟩
    simp only [Option.bind_some] at hg
    cases hd : (op r).dst with
    | none => rw [hd] at hg; cases hg
    | some t' => rw [hd] at hg; cases hg; rfl

theorem gd_cur (hT : RT P N so Es Hs vs) (hR : RP P nt ops N ix op so s A) {D : Nat → Prop} {p : Nat} (hp : p < N) (hA : ∀ q, A p q → D q) : gd (so p).guard (Ecur N op Es D) = gd (so p).guard (Es p) := by
  refine gd_eq fun t b e => ?_
  obtain ⟨r, h1, h2⟩ := hR.gtmp hp e
  have hr : r < N := Nat.lt_trans (hR.lt hp h1) hp
  exact Ecur_eq hT hR hp hA fun q hq hd => by rw [hR.uniq hq hr hd h2]; exact .inl h1
theorem gd_at (hT : RT P N so Es Hs vs) (hR : RP P nt ops N ix op so s A) {p q : Nat} (hp : p < N) (hpq : p ≤ q) (hq : q ≤ N) : gd (so p).guard (Es q) = gd (so p).guard (Es p) := by
  refine gd_eq fun t b e => ?_
  obtain ⟨r, h1, h2⟩ := hR.gtmp hp e
  have hrp := hR.lt hp h1
  rw [hT.wrote hR (by omega) h2 (by omega) hq, hT.wrote hR (by omega) h2 hrp (by omega)]
theorem args_cur (hT : RT P N so Es Hs vs) (hR : RP P nt ops N ix op so s A) {D : Nat → Prop} {p : Nat} (hp : p < N) (hA : ∀ q, A p q → D q) (hB : ∀ q, q < N → A q p → ¬ D q) : (s p).2.map (Opd.ev (Ecur N op Es D)) = (s p).2.map (Opd.ev (Es p)) :=
  ev_tmps _ fun t ht => Ecur_eq hT hR hp hA fun q hq hd => (hR.tmps hp ht hq hd).imp id fun h => ⟨h.2, hB q hq h.2⟩
theorem args_at (hT : RT P N so Es Hs vs) (hR : RP P nt ops N ix op so s A) {p q : Nat} (hp : p < N) (hrd : (s p).1.notRd = false) (hpq : p ≤ q) (hq : q ≤ N) : (s p).2.map (Opd.ev (Es q)) = (s p).2.map (Opd.ev (Es p)) := by
  refine ev_tmps _ fun t ht => ?_
  by_cases h : ∃ r, r < N ∧ (op r).dst = some t
  · obtain ⟨r, hr, hd⟩ := h
    have h1 := hR.lt hp ((hR.tmps hp ht hr hd).resolve_right fun h => by rw [hrd] at h; cases h.1)
    rw [hT.wrote hR hr hd (by omega) hq, hT.wrote hR hr hd h1 (by omega)]
  · exact (hT.unwrote hR hq fun r hr e => h ⟨r, hr, e⟩).trans (hT.unwrote hR (Nat.le_of_lt hp) fun r hr e => h ⟨r, hr, e⟩).symm

end
end Go.Am
