/- A part of the library Am: an abstract machine for the model, that a kernel evaluates. -/
import Derived.Test.YtpmajhocoepajaaGreatDoorAmF1
set_option linter.unusedVariables false
set_option linter.unusedSimpArgs false
namespace Go.Am

abbrev R := Option (AVal × Heap)
abbrev KE := FEnv → Heap → R
abbrev KX := Ex → FEnv → Heap → R
abbrev FnC := List AVal → Heap → (AVal → Heap → R) → R
abbrev TT := Nat → FnC
abbrev CCl := TT → FEnv → Heap → KE → KX → R

noncomputable def fevs (E : FEnv) (l : List Opd) : List AVal := l.map (Opd.ev E.fn)

/-! ## equality of values that are read again -/
noncomputable def same0 (v u : AVal) : Bool :=
  match v, u with
  | .bool a, .bool b => a == b
  | .int k a, .int j b => keq k j && ieq a b
  | .str n a, .str m b => Nat.beq n m && Nat.beq a b
  | .ptr i a, .ptr j b => Nat.beq i j && Nat.beq a b
  | .nilp, .nilp => true
  | .slc a b c d e, .slc a' b' c' d' e' => Nat.beq a a' && (Nat.beq b b' && (Nat.beq c c' && (Nat.beq d d' && Nat.beq e e')))
  | .nils, .nils => true
  | .map a, .map b => Nat.beq a b
  | .nilm, .nilm => true
  | .nilf, .nilf => true
  | .nili, .nili => true
  | _, _ => false
theorem same0_eq {v u : AVal} (h : same0 v u = true) : v = u := by
  unfold same0 at h
  split at h
  · rename_i a b; have := eq_of_beq h; rw [this]
  · rename_i k a j b
    rw [Bool.and_eq_true] at h
    have h2 := h.2
    rw [ieq_eq] at h2
    rw [keq_eq.1 h.1, eq_of_beq h2]
  · rw [Bool.and_eq_true] at h; rw [Nat.eq_of_beq_eq_true h.1, Nat.eq_of_beq_eq_true h.2]
  · rw [Bool.and_eq_true] at h; rw [Nat.eq_of_beq_eq_true h.1, Nat.eq_of_beq_eq_true h.2]
  · rfl
  · simp only [Bool.and_eq_true] at h
    obtain ⟨h1, h2, h3, h4, h5⟩ := h
    rw [Nat.eq_of_beq_eq_true h1, Nat.eq_of_beq_eq_true h2, Nat.eq_of_beq_eq_true h3, Nat.eq_of_beq_eq_true h4, Nat.eq_of_beq_eq_true h5]
  · rfl
  · rw [Nat.eq_of_beq_eq_true h]
  · rfl
  · rfl
  · rfl
  · cases h
noncomputable def sameL0 : List AVal → List AVal → Bool
  | [], [] => true
  | a :: l, b :: m => same0 a b && sameL0 l m
  | _, _ => false
theorem sameL0_eq : ∀ {l m : List AVal}, sameL0 l m = true → l = m
  | [], [], _ => rfl
  | a :: l, b :: m, h => by
    have h : (same0 a b && sameL0 l m) = true := h
    rw [Bool.and_eq_true] at h
    rw [same0_eq h.1, sameL0_eq h.2]
  | [], _ :: _, h => by cases h
  | _ :: _, [], h => by cases h
noncomputable def same1 (v u : AVal) : Bool :=
  match v, u with
  | .fn (.func f) a b, .fn (.func g) a' b' => Nat.beq f g && (sameL0 a a' && sameL0 b b')
  | v, u => same0 v u
theorem same1_eq {v u : AVal} (h : same1 v u = true) : v = u := by
  unfold same1 at h
  split at h
  · simp only [Bool.and_eq_true] at h
    obtain ⟨h1, h2, h3⟩ := h
    rw [Nat.eq_of_beq_eq_true h1, sameL0_eq h2, sameL0_eq h3]
  · exact same0_eq h
noncomputable def sameL : List AVal → List AVal → Bool
  | [], [] => true
  | a :: l, b :: m => same1 a b && sameL l m
  | _, _ => false
theorem sameL_eq : ∀ {l m : List AVal}, sameL l m = true → l = m
  | [], [], _ => rfl
  | a :: l, b :: m, h => by
    have h : (same1 a b && sameL l m) = true := h
    rw [Bool.and_eq_true] at h
    rw [same1_eq h.1, sameL_eq h.2]
  | [], _ :: _, h => by cases h
  | _ :: _, [], h => by cases h
noncomputable def same (v u : AVal) : Bool :=
  match v, u with
  | .agg l, .agg m => sameL l m
  | .tup l, .tup m => sameL l m
  | .ifc t v, .ifc s u => Nat.beq t s && same1 v u
  | v, u => same1 v u
theorem same_eq {v u : AVal} (h : same v u = true) : v = u := by
  unfold same at h
  split at h
  · rw [sameL_eq h]
  · rw [sameL_eq h]
  · rw [Bool.and_eq_true] at h; rw [Nat.eq_of_beq_eq_true h.1, same1_eq h.2]
  · exact same1_eq h

/-! ## code as functions -/
noncomputable def beqB (a b : Bool) : Bool := Bool.rec (motive := fun _ => Bool) (Bool.rec (motive := fun _ => Bool) true false b) b a
theorem beqB_eq (a b : Bool) : beqB a b = (a == b) := by cases a <;> cases b <;> rfl
noncomputable def onGd1 (v : AVal) (b : Bool) (skip run : R) : R := @AVal.casesOn (fun _ => R) v none none none none (fun _ => none) (fun l => List.rec (motive := fun _ => R) skip (fun _ _ _ => none) l) (fun _ _ => none) (fun _ _ _ => none) none none (fun _ => none) (fun _ _ => none) (fun b' => Bool.rec (motive := fun _ => R) skip run (beqB b' b)) (fun _ _ _ _ _ => none) (fun _ _ => none) (fun _ _ => none)
noncomputable def onGd (g : Option (Nat × Bool)) (E : FEnv) (skip run : R) : R := match g with
  | none => run
  | some (t, b) => onGd1 (E.fn t) b skip run
theorem onGd1_eq {t : Nat} {b : Bool} {ρ : Env} {skip run : R} {r : AVal × Heap} (h : onGd1 (ρ t) b skip run = some r) : (gd (some (t, b)) ρ = some false ∧ skip = some r) ∨ (gd (some (t, b)) ρ = some true ∧ run = some r) := by
    show ((match ρ t with
      | .bool b' => some (b' == b)
      | .tup [] => some false
      | _ => none) = some false ∧ _) ∨ ((match ρ t with
      | .bool b' => some (b' == b)
      | .tup [] => some false
      | _ => none) = some true ∧ _)
    generalize ρ t = v at h ⊢
    cases v with
    | bool b' =>
      have h : Bool.rec (motive := fun _ => R) skip run (beqB b' b) = some r := h
      rw [beqB_eq] at h
      cases hb : b' == b with
      | true => rw [hb] at h; exact .inr ⟨by simp [hb], h⟩
      | false => rw [hb] at h; exact .inl ⟨by simp [hb], h⟩
    | tup l =>
      cases l with
      | nil => exact .inl ⟨rfl, h⟩
      | cons a l => cases h
    | _ => cases h
theorem onGd_eq {g : Option (Nat × Bool)} {E : FEnv} {skip run : R} {r : AVal × Heap} (h : onGd g E skip run = some r) : (gd g E.fn = some false ∧ skip = some r) ∨ (gd g E.fn = some true ∧ run = some r) := by
  cases g with
  | none => exact .inr ⟨rfl, h⟩
  | some q =>
    obtain ⟨t, b⟩ := q
    exact onGd1_eq (show onGd1 (E.fn t) b skip run = some r from h)

noncomputable def chkC : List Chk → FEnv → Heap → R → R
  | [], _, _, k => k
  | c :: l, E, H, k => onGd c.guard E (chkC l E H k) (onOpt (c.f (fevs E c.args) H) fun v => ifB (same v (E.fn c.t)) (chkC l E H k))
theorem chkC_eq {E : FEnv} {H : Heap} {k : R} {r : AVal × Heap} : ∀ {l : List Chk}, chkC l E H k = some r → chks E.fn H l ∧ k = some r
  | [], h => ⟨(fun c hc => absurd hc List.not_mem_nil), h⟩
  | c :: l, h => by
    rcases onGd_eq (show onGd c.guard E (chkC l E H k) _ = some r from h) with ⟨h1, h2⟩ | ⟨h1, h2⟩
    · obtain ⟨h3, h4⟩ := chkC_eq h2
      refine ⟨fun c' hc => ?_, h4⟩
      rcases List.mem_cons.1 hc with rfl | hc
      · exact .inl h1
      · exact h3 _ hc
    · obtain ⟨v, h5, h6⟩ := onOpt_eq.1 h2
      obtain ⟨h7, h8⟩ := ifB_eq.1 h6
      obtain ⟨h3, h4⟩ := chkC_eq h8
      refine ⟨fun c' hc => ?_, h4⟩
      rcases List.mem_cons.1 hc with rfl | hc
      · right; exact ⟨h1, by rw [← same_eq h7]; exact h5⟩
      · exact h3 _ hc

noncomputable def onFnV (l : List AVal) (k : FuncId → List AVal → R) : R := List.rec (motive := fun _ => R) none (fun a l _ => onFn a fun f b c => Fn.casesOn (motive := fun _ => R) f (fun f => k f (app b (app l c))) (fun _ => none) (fun _ _ => none) (fun _ _ _ _ => none) (fun _ => none)) l
theorem onFnV_eq {l : List AVal} {k : FuncId → List AVal → R} {r : AVal × Heap} (h : onFnV l k = some r) : ∃ f args, SOp.calls .callv l = some (f, args) ∧ k f args = some r := by
  cases l with
  | nil => cases h
  | cons a l =>
    obtain ⟨f, b, c, e_, h1⟩ := onFn_eq.1 (show onFn a (fun f b c => Fn.casesOn (motive := fun _ => R) f (fun f => k f (app b (app l c))) (fun _ => none) (fun _ _ => none) (fun _ _ _ _ => none) (fun _ => none)) = some r from h)
    subst e_
    cases f with
    | func f =>
      refine ⟨f, _, rfl, ?_⟩
      have h1 : k f (app b (app l c)) = some r := h1
      rw [app_eq, app_eq, ← List.append_assoc] at h1
      exact h1
    | _ => cases h1

noncomputable def denOp (o : SOper) (rest : CCl) : CCl := fun T E H k x =>
  onGd o.guard E (rest T (E.dst o.dst (.tup [])) H k x) (match o.op with
    | .pur f => onOpt (f (fevs E o.args)) fun v => chkC o.chk (E.dst o.dst v) H (rest T (E.dst o.dst v) H k x)
    | .rd f => onOpt (f (fevs E o.args) H) fun v => chkC o.chk (E.dst o.dst v) H (rest T (E.dst o.dst v) H k x)
    | .al f => onOpt (f (fevs E o.args)) fun p => chkC o.chk (E.dst o.dst (p.2 H.next)) (H.new p.1) (rest T (E.dst o.dst (p.2 H.next)) (H.new p.1) k x)
    | .ef f => onOpt (f (fevs E o.args) H) fun p => ifB (Nat.ble H.next p.2.next) (chkC o.chk (E.dst o.dst p.1) p.2 (rest T (E.dst o.dst p.1) p.2 k x))
    | .call f => T f (fevs E o.args) H fun v H => chkC o.chk (E.dst o.dst v) H (rest T (E.dst o.dst v) H k x)
    | .callv => onFnV (fevs E o.args) fun f l => T f l H fun v H => chkC o.chk (E.dst o.dst v) H (rest T (E.dst o.dst v) H k x))
noncomputable def skipC : CCl := fun _ E H k _ => k E H
noncomputable def denOps : List SOper → CCl
  | [] => skipC
  | o :: l => denOp o (denOps l)

section
variable (P : Program) (S : FuncId → List AVal → Heap → AVal → Heap → Prop)
def GoodT (T : TT) : Prop := ∀ f args H k r, T f args H k = some r → ∃ v H1, BS P S (.fn f args H) (.val v H1) ∧ k v H1 = some r
def GoodO (l : List SOper) (x : CCl) : Prop := ∀ T, GoodT P S T → ∀ E H k kx r, x T E H k kx = some r → ∃ E1 H1, BS P S (.ops l E.fn H) (.st .nrm E1.fn H1) ∧ k E1 H1 = some r
def GoodC (nt : Nat) (c : Code) (x : CCl) : Prop := ∀ T, GoodT P S T → ∀ E H k kx r, x T E H k kx = some r →
  ∃ e E1 H1, BS P S (.code nt c E.fn H) (.st e E1.fn H1) ∧ (match e with | .nrm => k E1 H1 | e => kx e E1 H1) = some r
def GoodF (f : FuncId) (x : TT → FnC) : Prop := ∀ T, GoodT P S T → ∀ args H k r, x T args H k = some r → ∃ v H1, BS P S (.fn f args H) (.val v H1) ∧ k v H1 = some r
end

section
variable {P : Program} {S : FuncId → List AVal → Heap → AVal → Heap → Prop}
theorem denOps_good : ∀ (l : List SOper), (∀ o ∈ l, ∀ t, o.dst = some t → t < 256) → GoodO P S l (denOps l)
  | [], _, T, hT, E, H, k, kx, r, h => ⟨E, H, .nil, h⟩
  | o :: l, hd, T, hT, E, H, k, kx, r, h => by
    have ih := denOps_good l (fun o ho => hd o (by simp [ho])) T hT
    have hdst := hd o (by simp)
    have h : onGd o.guard E _ _ = some r := h
    rcases onGd_eq h with ⟨h1, h2⟩ | ⟨h1, h2⟩
    · obtain ⟨E1, H1, g1, g2⟩ := ih _ _ _ _ _ h2
      rw [FEnv.fn_dst _ _ _ hdst] at g1
      exact ⟨E1, H1, .skp h1 g1, g2⟩
    · -- what runs and gives v, leaving H2
      have fin : ∀ v H2, chkC o.chk (E.dst o.dst v) H2 (denOps l T (E.dst o.dst v) H2 k kx) = some r → o.op.exec (o.args.map (Opd.ev E.fn)) H = some (v, H2) →
          ∃ E1 H1, BS P S (.ops (o :: l) E.fn H) (.st .nrm E1.fn H1) ∧ k E1 H1 = some r := by
        intro v H2 h3 h4
        obtain ⟨c1, c2⟩ := chkC_eq h3
        obtain ⟨E1, H1, g1, g2⟩ := ih _ _ _ _ _ c2
        rw [FEnv.fn_dst _ _ _ hdst] at g1 c1
        exact ⟨E1, H1, .run h1 h4 c1 g1, g2⟩
      have call : ∀ f args, o.op.calls (o.args.map (Opd.ev E.fn)) = some (f, args) → (T f args H fun v H => chkC o.chk (E.dst o.dst v) H (denOps l T (E.dst o.dst v) H k kx)) = some r →
          ∃ E1 H1, BS P S (.ops (o :: l) E.fn H) (.st .nrm E1.fn H1) ∧ k E1 H1 = some r := by
        intro f args h3 h4
        obtain ⟨v, H2, g0, h5⟩ := hT _ _ _ _ _ h4
        obtain ⟨c1, c2⟩ := chkC_eq h5
        obtain ⟨E1, H1, g1, g2⟩ := ih _ _ _ _ _ c2
        rw [FEnv.fn_dst _ _ _ hdst] at g1 c1
        exact ⟨E1, H1, .call h1 h3 g0 c1 g1, g2⟩
      cases hop : o.op with
      | pur f =>
        rw [hop] at h2
        obtain ⟨v, h3, h4⟩ := onOpt_eq.1 h2
        exact fin v H h4 (by rw [hop]; exact onOpt_eq.2 ⟨v, h3, rfl⟩)
      | rd f =>
        rw [hop] at h2
        obtain ⟨v, h3, h4⟩ := onOpt_eq.1 h2
        exact fin v H h4 (by rw [hop]; exact onOpt_eq.2 ⟨v, h3, rfl⟩)
      | al f =>
        rw [hop] at h2
        obtain ⟨p, h3, h4⟩ := onOpt_eq.1 h2
        exact fin _ _ h4 (by rw [hop]; exact onOpt_eq.2 ⟨p, h3, rfl⟩)
      | ef f =>
        rw [hop] at h2
        obtain ⟨p, h3, h4⟩ := onOpt_eq.1 h2
        obtain ⟨h5, h6⟩ := ifB_eq.1 h4
        exact fin _ _ h6 (by rw [hop]; exact onOpt_eq.2 ⟨p, h3, ifB_eq.2 ⟨h5, rfl⟩⟩)
      | call f =>
        rw [hop] at h2
        exact call f _ (by rw [hop]; rfl) h2
      | callv =>
        rw [hop] at h2
        obtain ⟨f, args, h3, h4⟩ := onFnV_eq h2
        exact call f args (by rw [hop]; exact h3) h4
end
end Go.Am
