/- A part of the library Am: an abstract machine for the model, that a kernel evaluates. -/
import Derived.Test.YtpmajhocoepajaaGreatDoorAmY
set_option linter.unusedVariables false
set_option linter.unusedSimpArgs false
namespace Go.Am
section
variable {P : Program} {nt : Nat} {ops : Array Oper} {N : Nat} {ix : Nat → Nat} {op : Nat → Oper} {so : Nat → SOper} {s : Nat → SOp × List Opd} {A : Nat → Nat → Prop}
variable {Es : Nat → Env} {Hs : Nat → Heap} {vs : Nat → AVal}

theorem PW.congr {β β' : Map} {O O' O2 : Nat → Option AObj} {w w' : World} (h : PW β O w β' O' w') (hs : ∀ id i o, β' id = some i → O2 id = some o → O' id = some o) : PW β O w β' O2 w' :=
  ⟨h.ext, h.rel.sub hs, h.still, h.frame, fun hb ho => h.wext hb (hs _ _ _ hb ho)⟩

/-- what has run -/
def Dn (ix : Nat → Nat) (listed : Array Bool) (p : Nat) : Prop := listed.getD (ix p) false = true

structure Inv (P : Program) (nt : Nat) (ops : Array Oper) (N : Nat) (ix : Nat → Nat) (op : Nat → Oper) (so : Nat → SOper) (s : Nat → SOp × List Opd) (A : Nat → Nat → Prop)
    (Es : Nat → Env) (Hs : Nat → Heap) (β0 : Map) (w0 : World) (a0 : Act) (listed : Array Bool) (β : Map) (a : Act) (w : World) (c : Nat) : Prop where
  lsz : listed.size = ops.size
  cN : c ≤ N
  cl : ∀ {p q}, p < N → Dn ix listed p → A p q → Dn ix listed q
  cut : ∀ {p}, p < N → Eff so s Es p → (Dn ix listed p ↔ p < c)
  last : c = 0 ∨ Eff so s Es (c - 1)
  wf : Wf (Hs c)
  heap : HRel β (Wh so Es Hs c (N - c)) w
  glob : GRel P β
  env : EnvRel β (Ecur N op Es (Dn ix listed)) a.tmps
  size : a.tmps.size = nt
  dom0 : ∀ {id i}, β0 id = some i → id < (Hs 0).next ∨ (Hs N).next ≤ id
  dom : ∀ {id i}, β id = some i → β0 id = some i ∨ ∃ p, p < N ∧ Dn ix listed p ∧ (Hs p).next ≤ id ∧ id < (Hs (p + 1)).next
  pw : PW β0 (Hs 0).obj w0 β (Wh so Es Hs c (N - c)) w
  defers : a.defers = a0.defers

theorem Dn_set (hR : RP P nt ops N ix op so s A) {listed : Array Bool} (hsz : listed.size = ops.size) {p q : Nat} (hp : p < N) (hq : q < N) : Dn ix (listed.setIfInBounds (ix p) true) q ↔ Dn ix listed q ∨ q = p := by
  unfold Dn
  have hlt : ix p < listed.size := by
    rw [hsz]; exact (Array.getElem?_eq_some_iff.1 (hR.ix_op hp)).1
  rw [Array.getD_eq_getD_getElem?, Array.getElem?_setIfInBounds, Array.getD_eq_getD_getElem?]
  by_cases e : ix p = ix q
  · have := hR.inj hp hq e
    subst this
    simp [hlt]
  · rw [if_neg e]
    constructor
    · exact .inl
    · rintro (h | h)
      · exact h
      · exact absurd (by rw [h]) e

theorem env_set (hT : RT P N so Es Hs vs) (hR : RP P nt ops N ix op so s A) {listed : Array Bool} (hsz : listed.size = ops.size) {p : Nat} (hp : p < N) {β : Map} {a : Act} (hE : EnvRel β (Ecur N op Es (Dn ix listed)) a.tmps)
    (hnt : a.tmps.size = nt) {v' : Value} (hv : VRel β (vs p) v') : EnvRel β (Ecur N op Es (Dn ix (listed.setIfInBounds (ix p) true))) (a.put (op p).dst v').tmps := by
  have h := hE.put hnt (hR.oper hp).2.2.2.2 hv
  have e : Am.put (Ecur N op Es (Dn ix listed)) (op p).dst (vs p) = Ecur N op Es (Dn ix (listed.setIfInBounds (ix p) true)) := by
    funext t
    have hiff : (∃ q, q < N ∧ Dn ix (listed.setIfInBounds (ix p) true) q ∧ (op q).dst = some t) ↔ (∃ q, q < N ∧ Dn ix listed q ∧ (op q).dst = some t) ∨ (op p).dst = some t := by
      constructor
      · rintro ⟨q, h1, h2, h3⟩
        rcases (Dn_set hR hsz hp h1).1 h2 with h4 | h4
        · exact .inl ⟨q, h1, h4, h3⟩
        · subst h4; exact .inr h3
      · rintro (⟨q, h1, h2, h3⟩ | h)
        · exact ⟨q, h1, (Dn_set hR hsz hp h1).2 (.inl h2), h3⟩
        · exact ⟨p, hp, (Dn_set hR hsz hp hp).2 (.inr rfl), h⟩
    by_cases hd : (op p).dst = some t
    · unfold Ecur
      rw [if_pos (hiff.2 (.inr hd)), hT.wrote hR hp hd hp (Nat.le_refl N), hd]
      simp [Am.put]
    · have hpt : Am.put (Ecur N op Es (Dn ix listed)) (op p).dst (vs p) t = Ecur N op Es (Dn ix listed) t := by
        cases hdd : (op p).dst with
        | none => rfl
        | some d =>
          have : t ≠ d := fun e => hd (by rw [hdd, e])
          show (if t = d then _ else _) = _
          rw [if_neg this]
      rw [hpt]
      unfold Ecur
      by_cases hx : ∃ q, q < N ∧ Dn ix listed q ∧ (op q).dst = some t
      · rw [if_pos hx, if_pos (hiff.2 (.inl hx))]
      · rw [if_neg hx, if_neg (fun h => (hiff.1 h).elim hx hd)]
  rw [← e]; exact h

section
variable {β0 : Map} {w0 : World} {a0 : Act} {listed : Array Bool} {β : Map} {a : Act} {w : World} {c : Nat}

theorem Inv.early (hR : RP P nt ops N ix op so s A) (h : Inv P nt ops N ix op so s A Es Hs β0 w0 a0 listed β a w c) {p : Nat} (hp : p < N) (hnd : ¬ Dn ix listed p) (hk : ∀ q, q < N → p < q → (s q).1.kind = .ef → A q p) : c ≤ p := by
  rcases Nat.lt_or_ge p c with hlt | hge
  · exfalso
    rcases h.last with e | he
    · omega
    · have hcN := h.cN
      have hc1 : c - 1 < N := by omega
      have hd := (h.cut hc1 he).2 (by omega)
      rcases Nat.lt_or_ge p (c - 1) with h1 | h1
      · exact hnd (h.cl hc1 hd (hk _ hc1 h1 he.1))
      · have : p = c - 1 := by omega
        rw [this] at hnd; exact hnd hd
  · exact hge

theorem Inv.none_between (h : Inv P nt ops N ix op so s A Es Hs β0 w0 a0 listed β a w c) {p : Nat} (hp : p < N) (hA : ∀ q, A p q → Dn ix listed q) (hk : ∀ q, q < p → (s q).1.kind = .ef → A p q) :
    ∀ r, c ≤ r → r < p → ¬ Eff so s Es r := by
  intro r h1 h2 he
  have := (h.cut (by omega) he).1 (hA _ (hk r h2 he.1))
  omega

/-- memory as the operation at p sees it -/
theorem Inv.part (hT : RT P N so Es Hs vs) (hR : RP P nt ops N ix op so s A) (h : Inv P nt ops N ix op so s A Es Hs β0 w0 a0 listed β a w c) {p : Nat} (hp : p ≤ N) (hc : c ≤ p) (hno : ∀ r, c ≤ r → r < p → ¬ Eff so s Es r) :
    (∀ id, id < (Hs p).next → Wh so Es Hs c (N - c) id = (Hs p).obj id) ∧ Wf (Hs p) ∧ HRel β (Hs p).obj w := by
  have e1 : c + (p - c) = p := by omega
  have heq : ∀ id, Wh so Es Hs c (p - c) id = (Hs p).obj id := fun id => by
    have := Wh_eq hT hR (c := c) (k := p - c) (by omega) (by rw [e1]; exact hno) id
    rw [e1] at this; exact this
  have hlow : ∀ id, id < (Hs p).next → Wh so Es Hs c (N - c) id = (Hs p).obj id := by
    intro id hid
    have := Wh_low hT (c := c) (k := p - c) (j := N - p) (id := id) (by omega) (by rw [e1]; exact hid)
    rw [show p - c + (N - p) = N - c by omega] at this
    rw [this, heq]
  have hwf : Wf (Hs p) := by
    intro id hid
    rw [← heq]
    exact Wh_high hT hR h.wf (k := p - c) (by omega) id (by rw [e1]; exact hid)
  refine ⟨hlow, hwf, h.heap.sub ?_⟩
  intro id i o _ ho
  have hid : id < (Hs p).next := by
    rcases Nat.lt_or_ge id (Hs p).next with h' | h'
    · exact h'
    · rw [hwf id h'] at ho; cases ho
  rw [hlow id hid]; exact ho

theorem Inv.fresh (hT : RT P N so Es Hs vs) (h : Inv P nt ops N ix op so s A Es Hs β0 w0 a0 listed β a w c) {p : Nat} (hp : p < N) (hnd : ¬ Dn ix listed p) : FreeB β (Hs p).next (Hs (p + 1)).next := by
  intro id h1 h2
  cases hb : β id with
  | none => rfl
  | some i =>
    exfalso
    have m1 := hT.next' (Nat.zero_le p) (Nat.le_of_lt hp)
    have m2 := hT.next' (p := p + 1) (q := N) (by omega) (Nat.le_refl N)
    rcases h.dom hb with h3 | ⟨q, h3, h4, h5, h6⟩
    · rcases h.dom0 h3 with h3 | h3 <;> omega
    · rcases Nat.lt_trichotomy q p with h7 | h7 | h7
      · have := hT.next' (p := q + 1) (q := p) (by omega) (by omega); omega
      · subst h7; exact hnd h4
      · have := hT.next' (p := p + 1) (q := q) (by omega) (by omega); omega

theorem Inv.done (hR : RP P nt ops N ix op so s A) (h : Inv P nt ops N ix op so s A Es Hs β0 w0 a0 listed β a w c) {p : Nat} (hp : p < N) (hA : ∀ q, A p q → Dn ix listed q) :
    ∀ {q r}, q < N → Dn ix (listed.setIfInBounds (ix p) true) q → A q r → Dn ix (listed.setIfInBounds (ix p) true) r := by
  intro q r hq hd ha
  have hr : r < N := Nat.lt_trans (hR.lt hq ha) hq
  refine (Dn_set hR h.lsz hp hr).2 (.inl ?_)
  rcases (Dn_set hR h.lsz hp hq).1 hd with h1 | h1
  · exact h.cl hq h1 ha
  · subst h1; exact hA _ ha

/-- an operation has run that turned no memory that was there -/
theorem Inv.next (hT : RT P N so Es Hs vs) (hR : RP P nt ops N ix op so s A) (h : Inv P nt ops N ix op so s A Es Hs β0 w0 a0 listed β a w c) {p : Nat} (hp : p < N) (hA : ∀ q, A p q → Dn ix listed q) (hne : ¬ Eff so s Es p)
    {β' : Map} {w' : World} {v' : Value} (hv : VRel β' (vs p) v') (hpw : PW β (Wh so Es Hs c (N - c)) w β' (Wh so Es Hs c (N - c)) w')
    (hnew : ∀ {id i}, β' id = some i → β id = none → (Hs p).next ≤ id ∧ id < (Hs (p + 1)).next) :
    Inv P nt ops N ix op so s A Es Hs β0 w0 a0 (listed.setIfInBounds (ix p) true) β' (a.put (op p).dst v') w' c := by
  refine ⟨by simpa using h.lsz, h.cN, h.done hR hp hA, ?_, h.last, h.wf, hpw.rel, h.glob.mono hpw.ext, env_set hT hR h.lsz hp (h.env.mono hpw.ext) h.size hv, by rw [put_size]; exact h.size, h.dom0, ?_, h.pw.trans hpw, by rw [put_defers]; exact h.defers⟩
  · intro q hq he
    have : q ≠ p := fun e => hne (by rw [← e]; exact he)
    rw [Dn_set hR h.lsz hp hq, ← h.cut hq he]
    constructor
    · rintro (h1 | h1)
      · exact h1
      · exact absurd h1 this
    · exact .inl
  · intro id i hb
    cases h0 : β id with
    | none => exact .inr ⟨p, hp, (Dn_set hR h.lsz hp hp).2 (.inr rfl), hnew hb h0⟩
    | some j =>
      have e := hpw.ext _ _ h0
      rw [hb] at e; cases e
      rcases h.dom h0 with h1 | ⟨q, h1, h2, h3⟩
      · exact .inl h1
      · exact .inr ⟨q, h1, (Dn_set hR h.lsz hp h1).2 (.inl h2), h3⟩

theorem Inv.same (hT : RT P N so Es Hs vs) (hR : RP P nt ops N ix op so s A) (h : Inv P nt ops N ix op so s A Es Hs β0 w0 a0 listed β a w c) {p : Nat} (hp : p < N) (hA : ∀ q, A p q → Dn ix listed q) (hne : ¬ Eff so s Es p)
    {v' : Value} (hv : VRel β (vs p) v') : Inv P nt ops N ix op so s A Es Hs β0 w0 a0 (listed.setIfInBounds (ix p) true) β (a.put (op p).dst v') w c :=
  h.next hT hR hp hA hne hv (PW.refl h.heap) fun h1 h2 => by rw [h2] at h1; cases h1

/-- an operation that may run: it runs, and all stands as it must -/
theorem Inv.step (hT : RT P N so Es Hs vs) (hR : RP P nt ops N ix op so s A) (h : Inv P nt ops N ix op so s A Es Hs β0 w0 a0 listed β a w c) {p : Nat} (hp : p < N) (hnd : ¬ Dn ix listed p) (hA : ∀ q, A p q → Dn ix listed q)
    {K : Act → World → Prop} {Q : Exit → Act → World → Prop}
    (hK : ∀ β' a' w' c', Inv P nt ops N ix op so s A Es Hs β0 w0 a0 (listed.setIfInBounds (ix p) true) β' a' w' c' → K a' w') : wpOp P ops Q (ix p) K a w := by
  obtain ⟨e1, e2, e3, e4, e5⟩ := hR.oper hp
  unfold wpOp
  rw [hR.ix_op hp]
  dsimp only
  have hcur := gd_cur hT hR hp hA
  rcases hT.step hp with ⟨g1, g2, g3⟩ | ⟨g1, hd, hch⟩
  · rw [guard_ok h.env e4 (by rw [hcur]; exact g1), if_neg (by simp)]
    refine hK _ _ _ _ (h.same hT hR hp hA (fun he => ?_) (by rw [g2]; exact undef_rel β))
    have := he.2; rw [g1] at this; cases this
  · rw [guard_ok h.env e4 (by rw [hcur]; exact g1), if_pos rfl]
    left
    have hop := op_ok (opd_ok h.glob h.env) (fun _ => rfl) (fun _ => rfl) (hR.comp hp)
    have hargs := args_cur hT hR hp hA fun q hq ha hd => hnd (h.cl hq hd ha)
    rw [hargs] at hop
    have hd0 := hd
    rw [e2, e3] at hd
    generalize hHp : Hs (p + 1) = H1 at hd
    generalize hvp : vs p = v at hd
    have eff : (s p).1.kind = .ef → (op p).wp P a w K Q := by
      intro hk
      have hE : Eff so s Es p := ⟨hk, g1⟩
      have hc := h.early hR hp hnd fun q hq hpq hkq => hR.eff hq hpq hkq hk
      obtain ⟨p1, p2, p3⟩ := h.part hT hR (Nat.le_of_lt hp) hc (h.none_between hp hA fun q hq hkq => hR.eff hp hq hk hkq)
      have hfr := h.fresh hT hp hnd
      rw [e2, e3, ← hargs] at hd0
      refine does_wp h.glob h.env (hR.comp hp) hd0 p3 hfr p2 ?_
      intro β' v' w' hv hpost
      have hwf' : Wf (Hs (p + 1)) := hpost.wf p2
      have hpw : PW β (Wh so Es Hs c (N - c)) w β' (Wh so Es Hs (p + 1) (N - (p + 1))) w' := by
        refine PW.widen hpost p2 hfr h.heap p1 ?_ ?_
        · intro id hid
          have := Wh_low hT (c := p + 1) (k := 0) (j := N - (p + 1)) (id := id) (by omega) hid
          rw [Nat.zero_add] at this
          exact this
        · intro id hid
          have e : c + (p + 1 - c) = p + 1 := by omega
          have := Wh_two hT hR (c := c) (k := p + 1 - c) (id := id) h.wf (by rw [e]; exact hwf') (by rw [e]; exact hid) (j := N - (p + 1)) (by omega)
          rw [e, show p + 1 - c + (N - (p + 1)) = N - c by omega] at this
          exact this.symm
      refine hK β' _ w' (p + 1) ⟨by simpa using h.lsz, by omega, h.done hR hp hA, ?_, .inr hE, hwf', hpw.rel, h.glob.mono hpw.ext, env_set hT hR h.lsz hp (h.env.mono hpw.ext) h.size hv, by rw [put_size]; exact h.size, h.dom0, ?_, h.pw.trans hpw, by rw [put_defers]; exact h.defers⟩
      · intro q hq he
        rw [Dn_set hR h.lsz hp hq, h.cut hq he]
        constructor
        · rintro (h1 | h1) <;> omega
        · intro h1
          by_cases e : q = p
          · exact .inr e
          · left
            rcases Nat.lt_or_ge q c with h2 | h2
            · exact h2
            · exact absurd he (h.none_between hp hA (fun r hr hkr => hR.eff hp hr hk hkr) q h2 (by omega))
      · intro id i hb
        cases hb0 : β id with
        | none => exact .inr ⟨p, hp, (Dn_set hR h.lsz hp hp).2 (.inr rfl), hpost.new hb hb0⟩
        | some j =>
          have e := hpw.ext _ _ hb0
          rw [hb] at e; cases e
          rcases h.dom hb0 with h1 | ⟨q, h1, h2, h3⟩
          · exact .inl h1
          · exact .inr ⟨q, h1, (Dn_set hR h.lsz hp h1).2 (.inl h2), h3⟩
    cases hd with
    | @pu f _ e hf =>
      rw [e] at hop
      obtain ⟨v', q1, q2⟩ := hop v w hf
      unfold Oper.wp; rw [q1, Oper.upon_value]
      refine hK _ _ _ _ (h.same hT hR hp hA (fun he => ?_) (by rw [hvp]; exact q2))
      have := he.1; rw [e] at this; cases this
    | @rd f _ e hf =>
      have hkp : (s p).1.kind = .rd := by rw [e]; rfl
      have hop' := hop
      rw [e] at hop'
      have key : ∃ H, HRel β H.obj w ∧ f ((s p).2.map (Opd.ev (Es p))) H = some v := by
        rcases Nat.lt_or_ge p c with hlt | hge
        · rcases h.last with e0 | he
          · omega
          · have hcN := h.cN
            have hc1 : c - 1 < N := by omega
            have hdc := (h.cut hc1 he).2 (by omega)
            have hpc : p < c - 1 := by
              rcases Nat.lt_or_ge p (c - 1) with h1 | h1
              · exact h1
              · have : p = c - 1 := by omega
                have h2 := he.1; rw [← this, hkp] at h2; cases h2
            obtain ⟨f', t, q1, q2, q3⟩ := hR.chk hc1 hpc he.1 hkp (fun ha => hnd (h.cl hc1 hdc ha))
            rw [e] at q1; cases q1
            have hch' : chks (Es c) (Hs c) (so (c - 1)).chk := by
              rcases hT.step hc1 with ⟨x1, _, _⟩ | ⟨_, _, x3⟩
              · have := he.2; rw [x1] at this; cases this
              · rw [show c - 1 + 1 = c by omega] at x3; exact x3
            rcases hch' _ q3 with x | ⟨_, x⟩
            · dsimp only at x
              rw [gd_at hT hR hp (by omega) h.cN, g1] at x; cases x
            · dsimp only at x
              rw [args_at hT hR hp (by rw [e]; rfl) (by omega) h.cN, hT.wrote hR hp q2 hlt h.cN, hvp] at x
              exact ⟨Hs c, (h.part hT hR h.cN (Nat.le_refl c) (fun r h1 h2 => by omega)).2.2, x⟩
        · exact ⟨Hs p, (h.part hT hR (Nat.le_of_lt hp) hge (h.none_between hp hA fun q hq hkq => hR.efr hp hq hkp hkq)).2.2, hf⟩
      obtain ⟨H, k1, k2⟩ := key
      obtain ⟨v', q1, q2⟩ := hop' v w H k1 k2
      unfold Oper.wp; rw [q1, Oper.upon_value]
      refine hK _ _ _ _ (h.same hT hR hp hA (fun he => ?_) (by rw [hvp]; exact q2))
      have := he.1; rw [hkp] at this; cases this
    | @al f o k e hf =>
      have hkp : (s p).1.kind = .al := by rw [e]; rfl
      rw [e] at hop
      obtain ⟨v', w', i, co, q1, q2⟩ := hop _ _ w hf
      unfold Oper.wp; rw [q1, Oper.upon_value]
      have hc := h.early hR hp hnd fun q hq hpq hkq => hR.efa hq hpq hkq hkp
      have hnx : (Hs (p + 1)).next = (Hs p).next + 1 := by rw [hHp, Heap.new_next]
      have hn : β (Hs p).next = none := h.fresh hT hp hnd _ (Nat.le_refl _) (by omega)
      have hat : alAt (so p) (Es p) = some o := by
        unfold alAt
        rw [e2, g1, e, e3]
        dsimp only
        rw [hf]; rfl
      have hV : Wh so Es Hs c (N - c) (Hs p).next = some o := by
        have e9 : c + (p - c + 1) = p + 1 := by omega
        have := Wh_low hT (c := c) (k := p - c + 1) (j := N - (p + 1)) (id := (Hs p).next) (by omega) (by rw [e9]; omega)
        rw [show p - c + 1 + (N - (p + 1)) = N - c by omega] at this
        rw [this]
        show (match alAt (so (c + (p - c))) (Es (c + (p - c))) with
          | some o => if (Hs p).next = (Hs (c + (p - c))).next then some o else Wh so Es Hs c (p - c) (Hs p).next
          | none => Wh so Es Hs c (p - c) (Hs p).next) = some o
        rw [show c + (p - c) = p by omega, hat]
        simp
      refine hK (fun id => if id = (Hs p).next then some i else β id) _ w' c (h.next hT hR hp hA (fun he => ?_) ?_ ?_ ?_)
      · have := he.1; rw [hkp] at this; cases this
      · rw [hvp]; exact q2.val _ _ (by simp)
      · refine PW.alloc h.heap hn q2.blk q2.heap q2.rest q2.rel ?_
        intro id j _
        split
        · rename_i e; rw [e]; exact hV
        · rfl
      · intro id j hb h0
        by_cases e : id = (Hs p).next
        · omega
        · simp [e] at hb; rw [hb] at h0; cases h0
    | ef e _ _ => exact eff (by rw [e]; rfl)
    | call e _ =>
      refine eff ?_
      cases hs : (s p).1 with
      | call _ => rfl
      | callv => rfl
      | _ => rw [hs] at e; cases e

end
end
end Go.Am
