/- A part of the library Am: an abstract machine for the model, that a kernel evaluates. -/
import Derived.Test.YtpmajhocoepajaaGreatDoorAmAB
import Derived.Scope
set_option linter.unusedVariables false
set_option linter.unusedSimpArgs false
namespace Go.Am

def Ex.out : Ex → Exit
  | .nrm => .normal
  | .exit id => .exit id
  | .ret => .ret

def LoopEntry (P : Program) (c : Code) (Q : Exit → Act → World → Prop) (a : Act) (w : World) : Prop :=
  ∀ (b : Frame) (k : List Item) (cs : List Frame), ∃ e a' w', Q e a' w' ∧ Arrives P (lone (b.at a (.code c :: .inLoop c :: k)) cs w) b k cs e a' w'

theorem LoopEntry.wp {P : Program} {c : Code} {Q : Exit → Act → World → Prop} {a : Act} {w : World} (h : LoopEntry P c Q a w) : (Code.loop c).wp P Q a w := by
  intro b k cs
  obtain ⟨e, a', w', hq, harr⟩ := h b k cs
  exact ⟨e, a', w', hq, .of_steps (.one step_loop) harr⟩

theorem Left.mask {P : Program} {β : Map} {H : Heap} {nt hi : Nat} {a : Act} {w : World} {E1 : Env} {H1 : Heap} {a' : Act} {w' : World} (h : Left P β H nt hi a w E1 H1 a' w') (loc : Nat → Bool) :
    Left P β H nt hi a w (fun t => if loc t then .bad else E1 t) H1 a' w' := by
  obtain ⟨β', h1, h2, h3⟩ := h
  refine ⟨β', ⟨h1.rel, h1.glob, fun t => ?_, h1.size, h1.free, h1.wf⟩, h2, h3⟩
  show VRel β' (if loc t then .bad else E1 t) _
  cases loc t with
  | true => exact .bad _
  | false => exact h1.env t

theorem Post.sub {β β' : Map} {O O0 O1 : Nat → Option AObj} {n n1 : Nat} {w w' : World} (h : Post β O0 n w β' O1 n1 w') (s : ∀ id o, O0 id = some o → O id = some o) : Post β O n w β' O1 n1 w' := by
  refine ⟨⟨h.ext, h.rel, h.still, fun b hb hno => h.frame b hb fun id i o h1 h2 => hno id i o h1 (s _ _ h2), ?_⟩, h.new, h.mono, ?_⟩
  · intro id i o h1 h2
    rcases h.wext h1 h2 with hge | ⟨id0, i0, o0, h3, h4, h5⟩
    · exact .inl hge
    · exact .inr ⟨id0, i0, o0, h3, s _ _ h4, h5⟩
  · intro hf
    refine h.wf fun id hid => ?_
    cases e : O0 id with
    | none => rfl
    | some o => have := s id o e; rw [hf id hid] at this; cases this
theorem CallOk.drop {P : Program} {f : FuncId} {args : List AVal} {H H' : Heap} {v : AVal} {H1 : Heap} (hn : H'.next = H.next) (s : ∀ id o, H'.obj id = some o → H.obj id = some o) (h : CallOk P f args H' v H1) : CallOk P f args H v H1 := by
  obtain ⟨h1, h2, h3⟩ := h
  refine ⟨h1, by omega, ?_⟩
  intro β args' w hr hg hf hw ha
  have hw' : ∀ id, H'.next ≤ id → H'.obj id = none := by
    intro id hid
    cases e : H'.obj id with
    | none => rfl
    | some o => have := s id o e; rw [hw id (by omega)] at this; cases this
  refine (h3 β args' w (hr.sub fun id i o _ ho => s id o ho) hg (by rw [hn]; exact hf) hw' ha).mono ?_
  rintro e w' ⟨β', v', h4, h5, h6⟩
  exact ⟨β', v', h4, h5, by rw [hn] at h6; exact h6.sub s⟩

/-- a big step's meaning -/
def Mot (P : Program) : Job → Fin → Prop
  | .code nt c E H, .st e E1 H1 => H.next ≤ H1.next ∧ ∀ (β : Map) (a : Act) (w : World) (hi : Nat) (Q : Exit → Act → World → Prop), Ok P β H E nt hi a w → H1.next ≤ hi →
      (∀ a' w', Left P β H nt hi a w E1 H1 a' w' → Q e.out a' w') → c.wp P Q a w ∧ ∀ b, c = .loop b → LoopEntry P b Q a w
  | .ops l E H, .st e E1 H1 => e = .nrm ∧ Tra P l E H E1 H1
  | .fn f args H, .val v H1 => CallOk P f args H v H1
  | _, _ => True

def resSem (tm : Array Value) : ResultVar → Sem Value
  | .tmp t => pure (tm.getD t undef)
  | .cell a t => do loadVar t (← asAddr (tm.getD a undef))
theorem results_eq (fn : Func) (tm : Array Value) : results fn tm = (do let vs ← fn.results.mapM (resSem tm); pure (if h : vs.size = 1 then vs[0] else .tuple vs)) := by
  unfold results
  congr 1

theorem resOf_ok {P : Program} {β : Map} {E : Env} {H : Heap} {tm : Array Value} {w : World} (hE : EnvRel β E tm) (hr : HRel β H.obj w) {r : ResultVar} {v : AVal} (h : resOf P E H r = some v) :
    ∃ v', (resSem tm r).run P w = .ok v' w ∧ VRel β v v' := by
  cases r with
  | tmp t => cases h; exact ⟨_, rfl, hE t⟩
  | cell a t =>
    have ha := hE a
    unfold resOf at h
    dsimp only at h
    show ∃ v', (do loadVar t (← asAddr (tm.getD a undef)) : Sem Value).run P w = .ok v' w ∧ VRel β v v'
    generalize tm.getD a undef = x at ha ⊢
    split at h
    · rename_i n id off e1 e2 e3
      rw [e3] at ha
      obtain ⟨l, h1, h2⟩ := onOpt_eq.1 h
      cases h2
      cases ha with
      | ptr hb =>
        obtain ⟨arr, g1, g2, g3⟩ := loadN_ok (P := P) hr hb h1
        exact ⟨.agg arr, by simp [asAddr, loadVar, run_isAgg e1, run_sizeOf' e2, g1], .agg g2 g3⟩
    · rename_i n id off e1 e3
      rw [e3] at ha
      cases ha with
      | ptr hb =>
        obtain ⟨v', g1, g2⟩ := load1_ok (P := P) hr hb h
        refine ⟨v', ?_, g2⟩
        simp only [asAddr, Sem.run_bind, Sem.run_pure, Result.andThen_ok, loadVar, run_isAgg e1, Bool.false_eq_true, if_false]
        exact g1
    · cases h

theorem results_ok {P : Program} {β : Map} {E : Env} {H : Heap} {tm : Array Value} {w : World} (hE : EnvRel β E tm) (hr : HRel β H.obj w) {fn : Func} {v : AVal} (h : resOfs P E H fn.results.toList = some v) :
    ∃ v', (results fn tm).run P w = .ok v' w ∧ VRel β v v' := by
  have key : ∀ (l : List ResultVar) (vs : List AVal), l.mapM (resOf P E H) = some vs →
      ∃ vs', (l.mapM (resSem tm)).run P w = .ok vs' w ∧ LRel β vs vs' := by
    intro l
    induction l with
    | nil => intro vs h; simp at h; subst h; exact ⟨[], rfl, .nil⟩
    | cons r l ih =>
      intro vs h
      simp only [List.mapM_cons] at h
      obtain ⟨v, h1, h⟩ := Option.bind_eq_some_iff.1 h
      obtain ⟨vs', h2, h⟩ := Option.bind_eq_some_iff.1 h
      cases h
      obtain ⟨v', g1, g2⟩ := resOf_ok hE hr h1
      obtain ⟨vs'', g3, g4⟩ := ih _ h2
      refine ⟨v' :: vs'', ?_, .cons g2 g4⟩
      simp only [List.mapM_cons, Sem.run_bind, Sem.run_pure]
      rw [g1]
      simp only [Result.andThen_ok, g3]
  unfold resOfs at h
  split at h
  · cases h
  · rename_i u e
    cases h
    obtain ⟨vs', g1, g2⟩ := key _ _ e
    obtain ⟨v', e2, g3⟩ := LRel.one g2
    subst e2
    refine ⟨v', ?_, g3⟩
    rw [results_eq, Array.mapM_eq_mapM_toList]
    simp only [Sem.run_bind, Sem.run_map]
    rw [g1]
    rfl
  · rename_i u hne e
    cases h
    obtain ⟨vs', g1, g2⟩ := key _ _ e
    refine ⟨.tuple vs'.toArray, ?_, .tup (by simpa using g2)⟩
    rw [results_eq, Array.mapM_eq_mapM_toList]
    simp only [Sem.run_bind, Sem.run_map]
    rw [g1]
    have hlen : vs'.length ≠ 1 := by
      rw [← g2.length]
      intro h1
      obtain ⟨a, e3⟩ := list1 h1
      exact hne a e3
    simp [hlen]

theorem start_ok {P : Program} {β : Map} {H : Heap} {w : World} {hi nt : Nat} (hr : HRel β H.obj w) (hg : GRel P β) (hf : FreeB β H.next hi) (hw : ∀ id, H.next ≤ id → H.obj id = none) {args : List AVal} {args' : Array Value} (ha : LRel β args args'.toList)
    (hn : args.length ≤ nt) : Ok P β H (envOf args) nt hi { tmps := args' ++ Array.replicate (nt - args'.size) undef, defers := [] } w := by
  have hlen := ha.length
  have hlen : args.length = args'.size := by simpa using hlen
  refine ⟨hr, hg, ?_, by rw [Array.size_append, Array.size_replicate]; have : args'.size = args.length := hlen.symm; omega, hf, hw⟩
  intro t
  unfold envOf
  cases h : args[t]? with
  | none => exact .bad _
  | some v =>
    obtain ⟨v', h1, h2⟩ := ha.get h
    rw [Array.getElem?_toList] at h1
    have : (args' ++ Array.replicate (nt - args'.size) undef).getD t undef = v' := by
      rw [Array.getD_eq_getD_getElem?, Array.getElem?_append_left (Array.getElem?_eq_some_iff.1 h1).1, h1]; rfl
    rw [this]; exact h2

section
variable {P : Program} (hm : P.follows .mixedOrders = true) (hNG : ∀ (f : FuncId) (fn : Func), P.funcs[f]? = some fn → fn.body.isSome = true → fn.name ≠ "runtime.NumGoroutine")
variable {S : FuncId → List AVal → Heap → AVal → Heap → Prop} (hS : ∀ f args H v H1, S f args H v H1 → CallOk P f args H v H1)
include hm hNG hS

theorem bs_ok {j : Job} {r : Fin} (h : BS P S j r) : Mot P j r := by
  induction h with
  | skip => exact ⟨Nat.le_refl _, fun β a w hi Q hok hle hQ => ⟨wp_skip (hQ _ _ (Left.refl hok)), nofun⟩⟩
  | label => exact ⟨Nat.le_refl _, fun β a w hi Q hok hle hQ => ⟨wp_label (hQ _ _ (Left.refl hok)), nofun⟩⟩
  | exit => exact ⟨Nat.le_refl _, fun β a w hi Q hok hle hQ => ⟨wp_exit (hQ _ _ (Left.refl hok)), nofun⟩⟩
  | ret => exact ⟨Nat.le_refl _, fun β a w hi Q hok hle hQ => ⟨wp_ret (hQ _ _ (Left.refl hok)), nofun⟩⟩
  | @reg nt id ops draw plan l E H e E1 H1 loc hc hd _ ih =>
    obtain ⟨rfl, ht⟩ := ih
    exact ⟨ht.mono, fun β a w hi Q hok hle hQ => ⟨region_ok hm hc hd ht hok hle fun a' w' hl => hQ a' w' (hl.mask loc), nofun⟩⟩
  | @seq nt a b E H E1 H1 r _ _ ih1 ih2 =>
    cases r with
    | val => trivial
    | st e E2 H2 =>
      refine ⟨Nat.le_trans ih1.1 ih2.1, fun β act w hi Q hok hle hQ => ⟨wp_seq ?_, nofun⟩⟩
      refine (ih1.2 β act w hi _ hok (Nat.le_trans ih2.1 hle) ?_).1
      rintro a' w' ⟨β', h1, h2, h3⟩
      exact (ih2.2 β' a' w' hi Q h1 hle fun a'' w'' hl => hQ _ _ (Left.trans h2 h3 hl)).1
  | @seqx nt a b E H e E1 H1 _ hne ih1 =>
    refine ⟨ih1.1, fun β act w hi Q hok hle hQ => ⟨wp_seq ?_, nofun⟩⟩
    refine (ih1.2 β act w hi _ hok hle ?_).1
    intro a' w' hl
    have := hQ a' w' hl
    cases e with
    | nrm => exact absurd rfl hne
    | exit id => exact this
    | ret => exact this
  | @cond nt c x a b E H t r hc hx _ ih =>
    cases r with
    | val => trivial
    | st e E1 H1 =>
      refine ⟨ih.1, fun β act w hi Q hok hle hQ => ⟨?_, nofun⟩⟩
      have hv := opd_ok hok.glob hok.env c x hc
      rw [hx] at hv
      have hev : act.eval c = .bool t := by
        have : ∀ u, VRel β (.bool t) u → u = .bool t := by intro u h; cases h; rfl
        exact this _ hv
      exact wp_cond hev (ih.2 β act w hi Q hok hle hQ).1
  | @block nt id b E H e E1 H1 _ hne ih =>
    refine ⟨ih.1, fun β act w hi Q hok hle hQ => ⟨wp_block ?_, nofun⟩⟩
    refine (ih.2 β act w hi _ hok hle ?_).1
    intro a' w' hl
    have := hQ a' w' hl
    cases e with
    | nrm => exact this
    | exit id' =>
      have hne' : ¬ id' = id := fun e => hne (by rw [e])
      show (if id' = id then _ else _)
      rw [if_neg hne']; exact this
    | ret => exact this
  | @blockx nt id b E H E1 H1 _ ih =>
    refine ⟨ih.1, fun β act w hi Q hok hle hQ => ⟨wp_block ?_, nofun⟩⟩
    refine (ih.2 β act w hi _ hok hle ?_).1
    intro a' w' hl
    show (if id = id then _ else _)
    rw [if_pos rfl]; exact hQ a' w' hl
  | @loop nt b E H E1 H1 r _ _ ih1 ih2 =>
    cases r with
    | val => trivial
    | st e E2 H2 =>
      refine ⟨Nat.le_trans ih1.1 ih2.1, fun β act w hi Q hok hle hQ => ?_⟩
      have entry : LoopEntry P b Q act w := by
        intro fb k cs
        have h1 := (ih1.2 β act w hi (fun ex a' w' => ex = .normal ∧ Left P β H nt hi act w E1 H1 a' w') hok (Nat.le_trans ih2.1 hle) fun a' w' hl => ⟨rfl, hl⟩).1
        obtain ⟨ex, a1, w1, ⟨rfl, β', h2, h3, h4⟩, harr⟩ := h1 fb (.inLoop b :: k) cs
        obtain ⟨e2, a2, w2, hq, harr2⟩ := (ih2.2 β' a1 w1 hi Q h2 hle fun a'' w'' hl => hQ _ _ (Left.trans h3 h4 hl)).2 b rfl fb k cs
        exact ⟨e2, a2, w2, hq, .of_steps (Steps.trans harr (.one step_inLoop)) harr2⟩
      exact ⟨entry.wp, fun b' e => by cases e; exact entry⟩
  | @loopx nt b E H e E1 H1 _ hne ih =>
    refine ⟨ih.1, fun β act w hi Q hok hle hQ => ?_⟩
    have entry : LoopEntry P b Q act w := by
      intro fb k cs
      have h1 := (ih.2 β act w hi (fun ex a' w' => ex = e.out ∧ Left P β H nt hi act w E1 H1 a' w') hok hle fun a' w' hl => ⟨rfl, hl⟩).1
      obtain ⟨ex, a1, w1, ⟨rfl, hl⟩, harr⟩ := h1 fb (.inLoop b :: k) cs
      refine ⟨_, a1, w1, hQ _ _ hl, .pass (x := .inLoop b) rfl (fun _ _ => .inl ?_) harr⟩
      cases e with
      | nrm => exact absurd rfl hne
      | exit id => exact nofun
      | ret => exact nofun
    exact ⟨entry.wp, fun b' e => by cases e; exact entry⟩
  | @scope nt b E H e E1 H1 _ ih =>
    refine ⟨ih.1, fun β act w hi Q hok hle hQ => ⟨wp_scope_straight ?_, nofun⟩⟩
    refine (ih.2 β act w hi _ hok hle ?_).1
    intro a' w' hl
    have := hQ a' w' hl
    cases e <;> exact this
  | nil => exact ⟨rfl, .nil⟩
  | @skp o l E H r hg _ ih =>
    cases r with
    | val => trivial
    | st e E1 H1 => exact ⟨ih.1, .skp hg ih.2⟩
  | @run o l E H v H1 r hg hx hc _ ih =>
    cases r with
    | val => trivial
    | st e E2 H2 => exact ⟨ih.1, .run hg (exec_does hx) hc ih.2⟩
  | @call o l E H f args v H1 r hg hx _ hc _ ih1 ih2 =>
    cases r with
    | val => trivial
    | st e E2 H2 => exact ⟨ih2.1, .run hg (.call hx ih1) hc ih2.2⟩
  | @fn f args H fn c e E1 H1 v hf hb hn _ he hres ih =>
    refine ⟨⟨fn, hf, by rw [hb]; rfl, hNG f fn hf (by rw [hb]; rfl)⟩, ih.1, ?_⟩
    intro β args' w hr hg hfr hwf ha
    refine calls_of_wp hf hb ?_
    refine (ih.2 β _ w H1.next _ (start_ok hr hg hfr hwf ha hn) (Nat.le_refl _) ?_).1
    rintro a' w' ⟨β', h1, h2, h3⟩
    obtain ⟨v', g1, g2⟩ := results_ok h1.env h1.rel hres
    have hpost : a'.defers = [] ∧ ∃ v, (results fn a'.tmps).run P w' = .ok v w' ∧ ∃ β' v', Ending.returned v = .returned v' ∧ VRel β' _ v' ∧ Post β H.obj H.next w β' H1.obj H1.next w' :=
      ⟨h3, v', g1, β', v', rfl, g2, h2⟩
    rcases he with rfl | rfl
    · exact hpost
    · exact hpost
  | sum h => exact hS _ _ _ _ _ h
  | drop hn s _ ih => exact CallOk.drop hn s ih

end
end Go.Am
