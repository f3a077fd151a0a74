/- A part of the library Am: an abstract machine for the model, that a kernel evaluates. -/
import Derived.Test.YtpmajhocoepajaaGreatDoorAmF4
set_option linter.unusedVariables false
set_option linter.unusedSimpArgs false
namespace Go.Am

noncomputable def seqC (a b : CCl) : CCl := fun T E H k x => a T E H (fun E H => b T E H k x) x
noncomputable def exitC (id : Nat) : CCl := fun _ E H _ x => x (.exit id) E H
noncomputable def retC : CCl := fun _ E H _ x => x .ret E H
noncomputable def blockC (id : Nat) (b : CCl) : CCl := fun T E H k x => b T E H k fun e E H => Ex.casesOn (motive := fun _ => R) e (x .nrm E H)
  (fun i => Bool.rec (motive := fun _ => R) (x (.exit i) E H) (k E H) (Nat.beq i id)) (x .ret E H)
noncomputable def loopC (b : CCl) : CCl := fun T E H k x => Nat.rec (motive := fun _ => FEnv → Heap → R) (fun _ _ => none) (fun _ ih E H => b T E H (fun E H => ih E H) x) 1000000 E H

section
variable (P : Program) (nt : Nat) (pl : Nat → Option Plan)
noncomputable def denCode : Code → Option CCl
  | .skip => some skipC
  | .label _ => some skipC
  | .exit id => some (exitC id)
  | .ret => some retC
  | .region id ops draw => match (match draw with | true => (match pl id with | some p => cOpers P nt (some p) ops | none => none) | false => cOpers P nt none ops) with
    | some l => some (denL l)
    | none => none
  | .seq a b => match denCode a, denCode b with
    | some a, some b => some (seqC a b)
    | _, _ => none
  | .cond c a b => match cOpd P c, denCode a, denCode b with
    | some c, some a, some b => some (condF (fun E => c.ev E.fn) a b)
    | _, _, _ => none
  | .block id b => match denCode b with
    | some b => some (blockC id b)
    | none => none
  | .loop b => match denCode b with
    | some b => some (loopC b)
    | none => none
  | .scope b => denCode b
  | _ => none

noncomputable def resD (r : ResultVar) : Option (FEnv → Heap → Option AVal) := match r with
  | .tmp t => some fun E _ => some (E.fn t)
  | .cell a t => match agg? P t, size? P t with
    | some true, some n => some fun E H => onPtr (E.fn a) fun id off => onOpt (loadN H id off n) fun l => some (.agg l)
    | some false, _ => some fun E H => onPtr (E.fn a) fun id off => load1 H id off
    | _, _ => none
noncomputable def resL : List (FEnv → Heap → Option AVal) → FEnv → Heap → (List AVal → R) → R
  | [], _, _, k => k []
  | f :: l, E, H, k => onOpt (f E H) fun v => resL l E H fun vs => k (v :: vs)
noncomputable def resK (l : List (FEnv → Heap → Option AVal)) (E : FEnv) (H : Heap) (k : AVal → R) : R := match l with
  | [f] => onOpt (f E H) k
  | l => resL l E H fun vs => k (.tup vs)

noncomputable def fnC (n : Nat) (c : CCl) (l : List (FEnv → Heap → Option AVal)) : TT → FnC := fun T args H k =>
  ifB (Nat.ble (lenL args) n) (c T (fenvOf args) H (fun E H => resK l E H fun v => k v H) (fun e E H => Ex.casesOn (motive := fun _ => R) e none (fun _ => none) (resK l E H fun v => k v H)))
end

noncomputable def denFun (P : Program) (pl : Nat → Option Plan) (f : FuncId) : Option (TT → FnC) := match P.funcs[f]? with
  | some fn => match fn.body with
    | some c => match denCode P fn.ntmps pl c, fn.results.toList.mapM (resD P) with
      | some c, some l => if Nat.ble fn.ntmps 256 then some (fnC (min 16 fn.ntmps) c l) else none
      | _, _ => none
    | none => none
  | none => none

section
variable {P : Program} {S : FuncId → List AVal → Heap → AVal → Heap → Prop}

theorem cOpers_dst {nt : Nat} {plan : Option Plan} {ops : Array Oper} {l : List SOper} (h : cOpers P nt plan ops = some l) : ∀ o ∈ l, ∀ t, o.dst = some t → t < nt := by
  intro o ho t ht
  obtain ⟨k, hk, e⟩ := List.getElem_of_mem ho
  unfold cOpers at h
  split at h
  · cases h
  rename_i sops hs
  cases plan with
  | none =>
    dsimp only at h
    have hz := mapM_some h
    have hk2 : k < (ops.toList.zip sops).length := by rw [hz.1]; exact hk
    obtain ⟨b, h1, h2⟩ := hz.2 k (ops.toList.zip sops)[k] (by rw [List.getElem?_eq_getElem])
    rw [List.getElem?_eq_getElem hk, e] at h1
    cases h1
    obtain ⟨e1, _, _, _, _, e6⟩ := cOper_ok h2
    rw [e1] at ht
    exact e6 t ht
  | some plan =>
    dsimp only at h
    split at h
    · obtain ⟨hlen, hst⟩ := walk_ok _ _ _ h
      have hk2 : k < plan.ord.length := by omega
      obtain ⟨o', s, so, chk, h1, h2, h3, h4, h5, h6⟩ := hst k plan.ord[k] (by rw [List.getElem?_eq_getElem])
      rw [List.getElem?_eq_getElem hk, e] at h3
      cases h3
      obtain ⟨e1, _, _, _, _, e6⟩ := cOper_ok h6
      rw [e1] at ht
      exact e6 t ht
    · cases h

theorem good_skip {nt : Nat} {c : Code} (hc : c = .skip ∨ ∃ l, c = .label l) : GoodC P S nt c skipC := by
  intro T hT E H k kx r h
  refine ⟨.nrm, E, H, ?_, h⟩
  rcases hc with rfl | ⟨l, rfl⟩
  · exact .skip
  · exact .label

theorem good_ops {nt : Nat} {id : Nat} {ops : Array Oper} {draw : Bool} {plan : Option Plan} {l : List SOper} (hnt : nt ≤ 256) (hc : cOpers P nt plan ops = some l) (hd : plan.isSome = draw) : GoodC P S nt (.region id ops draw) (denL l) := by
  intro T hT E H k kx r h
  rw [denL_eq] at h
  obtain ⟨E1, H1, h1, h2⟩ := denOps_good l (fun o ho t ht => Nat.lt_of_lt_of_le (cOpers_dst hc o ho t ht) hnt) T hT _ _ _ _ _ h
  exact ⟨.nrm, E1, H1, BS.reg (S := S) (nt := nt) (id := id) (fun _ => false) hc hd h1, h2⟩

theorem good_seq {nt : Nat} {a b : Code} {x y : CCl} (ha : GoodC P S nt a x) (hb : GoodC P S nt b y) : GoodC P S nt (.seq a b) (seqC x y) := by
  intro T hT E H k kx r h
  obtain ⟨e, E1, H1, h1, h2⟩ := ha T hT _ _ _ _ _ h
  cases e with
  | nrm =>
    obtain ⟨e2, E2, H2, h3, h4⟩ := hb T hT _ _ _ _ _ h2
    exact ⟨e2, E2, H2, .seq h1 h3, h4⟩
  | exit id => exact ⟨_, E1, H1, .seqx h1 nofun, h2⟩
  | ret => exact ⟨_, E1, H1, .seqx h1 nofun, h2⟩

theorem good_cond {nt : Nat} {c : Operand} {o : Opd} {a b : Code} {x y : CCl} (hc : cOpd P c = some o) (ha : GoodC P S nt a x) (hb : GoodC P S nt b y) : GoodC P S nt (.cond c a b) (condF (fun E => o.ev E.fn) x y) := by
  intro T hT E H k kx r h
  obtain ⟨t, h1, h2⟩ := onB_eq h
  cases t with
  | true =>
    obtain ⟨e, E1, H1, h3, h4⟩ := ha T hT _ _ _ _ _ h2
    exact ⟨e, E1, H1, .cond (t := true) hc h1 h3, h4⟩
  | false =>
    obtain ⟨e, E1, H1, h3, h4⟩ := hb T hT _ _ _ _ _ h2
    exact ⟨e, E1, H1, .cond (t := false) hc h1 h3, h4⟩

theorem good_block {nt id : Nat} {b : Code} {x : CCl} (hb : GoodC P S nt b x) : GoodC P S nt (.block id b) (blockC id x) := by
  intro T hT E H k kx r h
  obtain ⟨e, E1, H1, h1, h2⟩ := hb T hT _ _ _ _ _ h
  cases e with
  | nrm => exact ⟨.nrm, E1, H1, .block h1 nofun, h2⟩
  | ret => exact ⟨.ret, E1, H1, .block h1 nofun, h2⟩
  | exit i =>
    have h2 : Bool.rec (motive := fun _ => R) (kx (.exit i) E1 H1) (k E1 H1) (Nat.beq i id) = some r := h2
    cases hq : Nat.beq i id with
    | true =>
      have := Nat.eq_of_beq_eq_true hq; subst this
      rw [hq] at h2
      exact ⟨.nrm, E1, H1, .blockx h1, h2⟩
    | false =>
      rw [hq] at h2
      refine ⟨.exit i, E1, H1, .block h1 ?_, h2⟩
      intro e
      injection e with e
      rw [e, show Nat.beq id id = true from Nat.beq_refl _] at hq
      cases hq

theorem good_loop {nt : Nat} {b : Code} {x : CCl} (hb : GoodC P S nt b x) : GoodC P S nt (.loop b) (loopC x) := by
  intro T hT E H k kx r h
  have key : ∀ (n : Nat) E H, Nat.rec (motive := fun _ => FEnv → Heap → R) (fun _ _ => none) (fun _ ih E H => x T E H (fun E H => ih E H) kx) n E H = some r →
      ∃ e E1 H1, BS P S (.code nt (.loop b) E.fn H) (.st e E1.fn H1) ∧ (match e with | .nrm => k E1 H1 | e => kx e E1 H1) = some r := by
    intro n
    induction n with
    | zero => intro E H h; cases h
    | succ n ih =>
      intro E H h
      obtain ⟨e, E1, H1, h1, h2⟩ := hb T hT _ _ _ _ _ h
      cases e with
      | nrm =>
        obtain ⟨e2, E2, H2, h3, h4⟩ := ih _ _ h2
        exact ⟨e2, E2, H2, .loop h1 h3, h4⟩
      | exit id => exact ⟨_, E1, H1, .loopx h1 nofun, h2⟩
      | ret => exact ⟨_, E1, H1, .loopx h1 nofun, h2⟩
  exact key 1000000 _ _ h

theorem denCode_good {nt : Nat} {pl : Nat → Option Plan} (hnt : nt ≤ 256) : ∀ (c : Code) (x : CCl), denCode P nt pl c = some x → GoodC P S nt c x := by
  intro c
  induction c with
  | skip => intro x h; cases h; exact good_skip (.inl rfl)
  | label l => intro x h; cases h; exact good_skip (.inr ⟨l, rfl⟩)
  | exit id =>
    intro x h; cases h
    intro T hT E H k kx r h
    exact ⟨.exit id, E, H, .exit, h⟩
  | ret =>
    intro x h; cases h
    intro T hT E H k kx r h
    exact ⟨.ret, E, H, .ret, h⟩
  | region id ops draw =>
    intro x h
    unfold denCode at h
    split at h
    · rename_i l hl
      cases h
      cases draw with
      | true =>
        dsimp only at hl
        split at hl
        · exact good_ops hnt hl rfl
        · cases hl
      | false => exact good_ops hnt hl rfl
    · cases h
  | seq a b iha ihb =>
    intro x h
    unfold denCode at h
    split at h
    · rename_i y z h1 h2; cases h; exact good_seq (iha _ h1) (ihb _ h2)
    · cases h
  | cond c a b iha ihb =>
    intro x h
    unfold denCode at h
    split at h
    · rename_i o y z h1 h2 h3; cases h; exact good_cond h1 (iha _ h2) (ihb _ h3)
    · cases h
  | block id b ih =>
    intro x h
    unfold denCode at h
    split at h
    · rename_i y h1; cases h; exact good_block (ih _ h1)
    · cases h
  | loop b ih =>
    intro x h
    unfold denCode at h
    split at h
    · rename_i y h1; cases h; exact good_loop (ih _ h1)
    · cases h
  | scope b ih =>
    intro x h
    have hg := ih x h
    intro T hT E H k kx r h
    obtain ⟨e, E1, H1, h1, h2⟩ := hg T hT _ _ _ _ _ h
    exact ⟨e, E1, H1, .scope h1, h2⟩
  | _ => intro x h; cases h


theorem resL_eq {E : FEnv} {H : Heap} {r : AVal × Heap} : ∀ {l : List (FEnv → Heap → Option AVal)} {k : List AVal → R}, resL l E H k = some r → ∃ vs, l.mapM (fun f => f E H) = some vs ∧ k vs = some r
  | [], k, h => ⟨[], rfl, h⟩
  | f :: l, k, h => by
    have h : onOpt (f E H) (fun v => resL l E H fun vs => k (v :: vs)) = some r := h
    obtain ⟨v, h1, h2⟩ := onOpt_eq.1 h
    obtain ⟨vs, h3, h4⟩ := resL_eq (k := fun vs => k (v :: vs)) h2
    exact ⟨v :: vs, by simp [List.mapM_cons, h1, h3], h4⟩

theorem resD_ok {r : ResultVar} {f : FEnv → Heap → Option AVal} (h : resD P r = some f) {E : FEnv} {H : Heap} {v : AVal} (hv : f E H = some v) : resOf P E.fn H r = some v := by
  cases r with
  | tmp t => cases h; exact hv
  | cell a t =>
    unfold resD at h
    dsimp only at h
    unfold resOf
    dsimp only
    split at h
    · rename_i n h1 h2
      cases h
      obtain ⟨id, off, e, h3⟩ := onPtr_eq.1 hv
      rw [h1, h2, e]
      exact h3
    · rename_i h1
      cases h
      obtain ⟨id, off, e, h3⟩ := onPtr_eq.1 hv
      rw [h1, e]
      exact h3
    · cases h

theorem mapM_some' {α γ : Type} {f : α → Option γ} : ∀ {l : List α} {r : List γ}, l.length = r.length → (∀ (i : Nat) (a : α) (b : γ), l[i]? = some a → r[i]? = some b → f a = some b) → l.mapM f = some r
  | [], [], _, _ => rfl
  | a :: l, b :: r, h, hf => by
    rw [List.mapM_cons, hf 0 a b rfl rfl, mapM_some' (by simpa using h) fun i a b h1 h2 => hf (i + 1) a b (by simpa using h1) (by simpa using h2)]
    rfl
  | [], _ :: _, h, _ => by simp at h
  | _ :: _, [], h, _ => by simp at h

theorem resK_ok {rs : List ResultVar} {l : List (FEnv → Heap → Option AVal)} (h : rs.mapM (resD P) = some l) {E : FEnv} {H : Heap} {k : AVal → R} {r : AVal × Heap} (hk : resK l E H k = some r) : ∃ v, resOfs P E.fn H rs = some v ∧ k v = some r := by
  have hm := mapM_some h
  have all : ∀ {vs : List AVal}, l.mapM (fun f => f E H) = some vs → rs.mapM (resOf P E.fn H) = some vs := by
    intro vs hv
    have hm2 := mapM_some hv
    refine mapM_some' (by omega) fun i a b h1 h2 => ?_
    obtain ⟨f, h3, h4⟩ := hm.2 i a h1
    obtain ⟨b', h5, h6⟩ := hm2.2 i f h3
    rw [h2] at h5; cases h5
    exact resD_ok h4 h6
  unfold resOfs
  unfold resK at hk
  split at hk
  · rename_i f
    obtain ⟨v, h1, h2⟩ := onOpt_eq.1 hk
    rw [all (vs := [v]) (by simp [List.mapM_cons, h1])]
    exact ⟨v, rfl, h2⟩
  · rename_i hne
    obtain ⟨vs, h1, h2⟩ := resL_eq hk
    rw [all h1]
    have hl := (mapM_some h1).1
    cases vs with
    | nil => exact ⟨_, rfl, h2⟩
    | cons v vs =>
      cases vs with
      | nil =>
        obtain ⟨f, e⟩ := list1 (by simpa using hl)
        exact absurd e (hne f)
      | cons u vs => exact ⟨_, rfl, h2⟩

theorem denFun_good {pl : Nat → Option Plan} {f : FuncId} {x : TT → FnC} (h : denFun P pl f = some x) : GoodF P S f x := by
  unfold denFun at h
  split at h
  · rename_i fn hf
    split at h
    · rename_i c hc
      split at h
      · rename_i cc l h1 h2
        split at h
        · rename_i hnt
          cases h
          have hnt := Nat.le_of_ble_eq_true hnt
          intro T hT args H k r hr
          obtain ⟨h3, h4⟩ := ifB_eq.1 hr
          have h3 := Nat.le_of_ble_eq_true h3
          rw [lenL_eq] at h3
          obtain ⟨e, E1, H1, h5, h6⟩ := denCode_good hnt _ _ h1 T hT _ _ _ _ _ h4
          rw [fenvOf_fn _ (by omega)] at h5
          cases e with
          | nrm =>
            obtain ⟨v, h7, h8⟩ := resK_ok h2 h6
            exact ⟨v, H1, .fn hf hc (by omega) h5 (.inl rfl) h7, h8⟩
          | exit i => cases h6
          | ret =>
            obtain ⟨v, h7, h8⟩ := resK_ok h2 h6
            exact ⟨v, H1, .fn hf hc (by omega) h5 (.inr rfl) h7, h8⟩
        · cases h
      · cases h
    · cases h
  · cases h

/-- calls of calls: so deep -/
noncomputable def deepT (tab : TT → TT) (n : Nat) : TT := Nat.rec (motive := fun _ => TT) (fun _ _ _ _ => none) (fun _ ih => tab ih) n
theorem deepT_good {tab : TT → TT} (h : ∀ T, GoodT P S T → GoodT P S (tab T)) (n : Nat) : GoodT P S (deepT tab n) := by
  induction n with
  | zero => intro f args H k r h; cases h
  | succ n ih => exact h _ ih

end
end Go.Am
