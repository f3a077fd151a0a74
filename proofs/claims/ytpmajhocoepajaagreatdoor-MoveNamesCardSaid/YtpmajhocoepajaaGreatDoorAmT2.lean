/- A part of the library Am: an abstract machine for the model, that a kernel evaluates. -/
import Derived.Test.YtpmajhocoepajaaGreatDoorAmT1
import Derived.Test.YtpmajhocoepajaaGreatDoorAmF3
set_option linter.unusedVariables false
set_option linter.unusedSimpArgs false
/-
  Am, the fast level once more: an operation's value is bound, not put; only what is read outside its region is put.
-/
namespace Go.Am

noncomputable def cBinF (op : BinOp) (nn : Bool) (tk : TK) : AVal → AVal → Option AVal :=
  match op with
  | .add => fAdd | .sub => fSub | .mul => fMul | .quo => bQuo | .rem => bRem | .and => bAnd | .or => bOr | .xor => bXor | .andNot => bNot
  | .shl => bShl | .shr => bShr | .eql => fEql nn tk | .neq => fNeq nn tk | .lss => fLss | .leq => fLeq | .gtr => fGtr | .geq => fGeq

theorem cBinF_eq : cBinF = cBin := by
  funext op nn tk
  cases op <;> simp only [cBinF, cBin, fAdd_eq, fSub_eq, fMul_eq, fLss_eq, fLeq_eq, fGtr_eq, fGeq_eq, fEql_eq, fNeq_eq]
section
variable (P : Program)
noncomputable def cOpF (o : Oper) : Option (SOp × List Opd) :=
  match o.op with
  | .move x | .assign x => do some (.pur (g1 oMv), [← cOpd P x])
  | .pick c a b => do some (.pur (g3 fPick), [← cOpd P c, ← cOpd P a, ← cOpd P b])
  | .alloc e => do some (.al (fNew e (← zero? P e).2), [])
  | .box e x => do some (.al (g1 (fBox e (← size? P e))), [← cOpd P x])
  | .build t ps => do
    let z := (← zero? P t).2
    match ← P.underlying t with
    | .struct fields => do
      let pl ← places? P fields
      let l ← cParts P (pl[·]?) ps.toList
      some (.pur (fAgg z l.1), l.2)
    | .array _ e => do
      let s ← size? P e
      let l ← cParts P (fun i => some (i * s, s)) ps.toList
      some (.pur (fAgg z l.1), l.2)
    | _ => none
  | .buildSlice t len ps => do
    match ← P.underlying t with
    | .slice e => do
      let s ← size? P e
      let z ← zero? P e
      let l ← cParts P (fun i => some (i * s, s)) ps.toList
      if len * s > 2 ^ 24 then none else
      some (.al (fSlice e len (List.replicate len z.2).flatten l.1), l.2)
    | _ => none
  | .load t a => do
    match ← agg? P t with
    | true => some (.rd (h1 (fLdN (← size? P t))), [← cOpd P a])
    | false => some (.rd (h1 fLd1), [← cOpd P a])
  | .store t a v => do some (.ef (h2 (fSt (← size? P t))), [← cOpd P a, ← cOpd P v])
  | .nilCheck x => do some (.pur (g1 fNilchk), [← cOpd P x])
  | .binOp op t x y _ => do some (.pur (g2 (cBinF op (isC x || isC y) (← if op matches .eql | .neq then eqKind P t else some .b))), [← cOpd P x, ← cOpd P y])
  | .unOp op _ x => do
    match op with
    | .not => some (.pur (g1 fNot), [← cOpd P x])
    | .neg => some (.pur (g1 uNeg), [← cOpd P x])
    | .xor => some (.pur (g1 uXor), [← cOpd P x])
    | .plus => none
  | .convert s d x => do
    match ← P.underlying s, ← P.underlying d with
    | .int _, .int k => some (.pur (g1 (fInt k)), [← cOpd P x])
    | .int _, .string => some (.pur (g1 oI2s), [← cOpd P x])
    | .string, .slice e => match ← P.underlying e with
      | .int .u8 => some (.al (g1 (aBytes e)), [← cOpd P x])
      | _ => none
    | .slice e, .string => match ← P.underlying e with
      | .int .u8 => some (.rd (h1 fB2s), [← cOpd P x])
      | _ => none
    | .string, .string => some (.pur (g1 fun v => onStr v fun _ _ => some v), [← cOpd P x])
    | _, _ => none
  | .makeInterface t x => do
    match ← P.underlying t with
    | .interface _ => none
    | _ => some (.pur (g1 (oIfc t)), [← cOpd P x])
  | .makeFunc f a b => do
    match f with
    | .yield _ => none
    | f => some (.pur (oFn f a.size), (← cOpds P a) ++ (← cOpds P b))
  | .makeMap t none => do some (.al aMap, [])
  | .makeMap t (some (.const (.int ..))) => do
    match ← P.underlying t with
    | .map _ _ => some (.al aMap, [])
    | _ => none
  | .makeSlice t l c => do
    match ← P.underlying t with
    | .slice e => some (.al (g2 (fMake e (← bytes? P e) (← zero? P e).2)), [← cOpd P l, ← cOpd P c])
    | _ => none
  | .slice t x lo hi mx => do
    let l := (← cOpd P x) :: ((← cOpdo P mx) ++ (← cOpdo P hi) ++ (← cOpdo P lo))
    if mx.isSome && hi.isNone then none else
    match ← P.underlying t with
    | .string => if mx.isSome then none else some (.pur (oSlS lo.isSome hi.isSome), l)
    | .slice e => some (.pur (oSlV (← size? P e) lo.isSome hi.isSome mx.isSome), l)
    | .array n e => some (.pur (oSlA n (← size? P e) lo.isSome hi.isSome mx.isSome), l)
    | _ => none
  | .fieldAddr t x i => do
    match ← P.underlying t with
    | .struct fs => do
      let f ← fs[i]?
      if (← size? P f.type) = 0 then none else some (.pur (g1 (fFad f.offset)), [← cOpd P x])
    | _ => none
  | .field t x i => do
    match ← P.underlying t with
    | .struct fs => do
      let f ← fs[i]?
      match ← agg? P f.type with
      | true => some (.pur (g1 (fFldN f.offset (← size? P f.type))), [← cOpd P x])
      | false => some (.pur (g1 (fFld1 f.offset)), [← cOpd P x])
    | _ => none
  | .indexAddr t x i => do
    match ← P.underlying t with
    | .slice e => some (.pur (g2 (fIaS (← size? P e))), [← cOpd P x, ← cOpd P i])
    | .array n e => some (.pur (g2 (fIaA n (← size? P e))), [← cOpd P x, ← cOpd P i])
    | _ => none
  | .index t x i => do
    match ← P.underlying t with
    | .string => some (.pur (g2 fIxS), [← cOpd P x, ← cOpd P i])
    | .array n e => match ← agg? P e with
      | true => some (.pur (g2 (oIxN n (← size? P e))), [← cOpd P x, ← cOpd P i])
      | false => some (.pur (g2 (fIx1 n (← size? P e))), [← cOpd P x, ← cOpd P i])
    | _ => none
  | .lookup t m k ok => do
    match ← P.underlying t with
    | .map kt e => some (.rd (h2 (oLk (← keyKind P kt) (← zero? P e).1 ok)), [← cOpd P m, ← cOpd P k])
    | _ => none
  | .mapUpdate t m k v | .insert t m k v => do
    match ← P.underlying t with
    | .map kt _ => some (.ef (h3 (oMu (← keyKind P kt))), [← cOpd P m, ← cOpd P k, ← cOpd P v])
    | _ => none
  | .mapEntry t m k => do
    match ← P.underlying t with
    | .map kt e => some (.ef (h2 (oMe (← keyKind P kt) (← zero? P e).1)), [← cOpd P m, ← cOpd P k])
    | _ => none
  | .entryStore _ m s v => do some (.ef (h3 oEs), [← cOpd P m, ← cOpd P s, ← cOpd P v])
  | .range t x => do
    match ← P.underlying t with
    | .string => some (.al (g1 aIter), [← cOpd P x])
    | _ => none
  | .next it true => do some (.ef (h1 oNxt), [← cOpd P it])
  | .extract x i => do some (.pur (g1 (fExt i)), [← cOpd P x])
  | .call c => do
    let args ← cOpds P c.args
    match c.callee with
    | .value (.func f) => match P.funcs[f]? with
      | some fn => if fn.body.isNone || fn.name == "runtime.NumGoroutine" then none else some (.call f, args)
      | none => none
    | .value f => do some (.callv, (← cOpd P f) :: args)
    | .invoke .. => none
    | .builtin b => match b, c.args.size with
      | .append, 2 => do
        match ← (c.argTypes[0]?).bind P.underlying with
        | .slice e => match ← (c.argTypes[1]?).bind P.underlying with
          | .int _ => none
          | _ => do
            let z ← zero? P e
            let b ← bytes? P e
            if b = 0 then none else some (.ef (h2 (fApp e (← size? P e) b)), args)
        | _ => none
      | .len, 1 => do match ← (c.argTypes[0]?).bind P.underlying with
        | .string => some (.pur (g1 fLenS), args)
        | .slice _ => some (.pur (g1 fLenV), args)
        | .map .. => some (.rd (h1 oLenM), args)
        | .array n _ => some (.pur (oKst (.int .i64 n)), args)
        | .pointer a => do match ← P.underlying a with
          | .array n _ => some (.pur (oKst (.int .i64 n)), args)
          | _ => none
        | _ => none
      | .copy, 2 => do
        match ← (c.argTypes[0]?).bind P.underlying with
        | .slice e => some (.ef (h2 (fCpy (← size? P e))), args)
        | _ => none
      | .clear, 1 => do
        match ← (c.argTypes[0]?).bind P.underlying with
        | .slice e => some (.ef (h1 (fClr (← zero? P e).2)), args)
        | _ => none
      | .min, 2 => some (.pur (g2 oMin), args)
      | .max, 2 => some (.pur (g2 oMax), args)
      | .unsafeSliceData, 1 => some (.pur (g1 oSdata), args)
      | .unsafeString, 2 => do match ← (c.argTypes[0]?).bind P.underlying with
        | .pointer e => if size? P e = some 1 then some (.ef (h2 (oUstr e)), args) else none
        | _ => none
      | _, _ => none
  | _ => none

end
theorem cOpF_eq : cOpF = cOp := by
  funext P o
  unfold cOpF cOp
  simp only [cBinF_eq, fNot_eq, fPick_eq, fInt_eq, fExt_eq, fFad_eq, fFld1_eq, fFldN_eq, fIaS_eq, fIaA_eq, fIx1_eq, fIxS_eq, fLenS_eq, fLenV_eq, fNilchk_eq, fAgg_eq, fLd1_eq, fLdN_eq, fBox_eq, fSlice_eq, fSt_eq, fApp_eq, fCpy_eq, fClr_eq, fB2s_eq, fNew_eq, fMake_eq]
  rfl
section
variable (P : Program)
noncomputable def cOpersF (nt : Nat) (draw : Option Plan) (ops : Array Oper) : Option (List SOper) :=
  match ops.toList.mapM (cOpF P) with
  | none => none
  | some sops => match draw with
    | none => (ops.toList.zip sops).mapM fun p => cOper nt ops p.1 p.2 []
    | some plan =>
      if apart (dstsOf ops.toList) && (List.range ops.size).all (fun i => plan.ord.any fun j => Nat.beq i j) then walk nt ops sops plan (dstsOf ops.toList) plan.ord [] else none
end
theorem cOpersF_eq : cOpersF = cOpers := by
  funext P nt draw ops
  unfold cOpersF cOpers
  rw [cOpF_eq]
  rfl

/-! ## binding -/
noncomputable def bV (o : Option AVal) : (AVal → R) → R := Option.rec (motive := fun _ => (AVal → R) → R) (fun _ => none) (fun v g => g v) o
theorem bV_eq (o : Option AVal) (g : AVal → R) : bV o g = onOpt o g := by cases o <;> rfl
noncomputable def newF (H : Heap) (o : AObj) : Heap := Heap.rec (motive := fun _ => AObj → Heap) (fun next l ov ok o => ⟨Nat.succ next, l.new (some o), ov, SL.new_ok _ _ _ ok⟩) H o
theorem newF_eq (H : Heap) (o : AObj) : newF H o = H.new o := rfl
noncomputable def bM (o : Made) (H : Heap) (g : AVal → Heap → R) : R :=
  Option.rec (motive := fun _ => Heap → (AVal → Heap → R) → R) (fun _ _ => none) (fun p H g => g (p.2 H.next) (newF H p.1)) o H g
theorem bM_eq (o : Made) (H : Heap) (g : AVal → Heap → R) : bM o H g = onOpt o fun p => g (p.2 H.next) (H.new p.1) := by cases o <;> rfl
noncomputable def bE (o : Res) (H : Heap) (g : AVal → Heap → R) : R :=
  Option.rec (motive := fun _ => Heap → (AVal → Heap → R) → R) (fun _ _ => none) (fun p H g => Prod.rec (motive := fun _ => Heap → (AVal → Heap → R) → R)
    (fun v H' H g => Bool.rec (motive := fun _ => (AVal → Heap → R) → AVal → Heap → R) (fun _ _ _ => none) (fun g v H => g v H) (Nat.ble H.next H'.next) g v H') p H g) o H g
theorem bE_eq (o : Res) (H : Heap) (g : AVal → Heap → R) : bE o H g = onOpt o fun p => ifB (Nat.ble H.next p.2.next) (g p.1 p.2) := by
  cases o with
  | none => rfl
  | some p =>
    obtain ⟨v, H'⟩ := p
    show Bool.rec (motive := fun _ => (AVal → Heap → R) → AVal → Heap → R) (fun _ _ _ => none) (fun g v H => g v H) (Nat.ble H.next H'.next) g v H' = ifB (Nat.ble H.next H'.next) (g v H')
    cases Nat.ble H.next H'.next <;> rfl
noncomputable def gdH (v : AVal) (b : Bool) (H : Heap) (run : (AVal → Heap → R) → R) (rest : AVal → Heap → R) : R := onGd1 v b (rest (.tup []) H) (run rest)
/-- what is read again -/
noncomputable def agn (o : Option AVal) (u : AVal) (k : R) : R := onOpt o fun v => ifB (same v u) k
noncomputable def gdK (v : AVal) (b : Bool) (run : R → R) (k : R) : R := onGd1 v b k (run k)

noncomputable def putK (ρ : Env) (d : Option Nat) (v : AVal) : Env := Option.rec (motive := fun _ => Env → AVal → Env) (fun ρ _ => ρ) (fun d ρ v i => Bool.rec (motive := fun _ => AVal) (ρ i) v (Nat.beq i d)) d ρ v
theorem putK_eq (ρ : Env) (d : Option Nat) (v : AVal) : putK ρ d v = put ρ d v := by
  cases d with
  | none => rfl
  | some d =>
    funext i
    show Bool.rec (motive := fun _ => AVal) (ρ i) v (Nat.beq i d) = if i = d then v else ρ i
    by_cases e : i = d
    · subst e; rw [show Nat.beq i i = true from Nat.beq_refl i, if_pos rfl]
    · rw [if_neg e]
      cases h : Nat.beq i d with
      | true => exact absurd (Nat.eq_of_beq_eq_true h) e
      | false => rfl
noncomputable def gdR (g : Option (Nat × Bool)) (ρ : Env) (H : Heap) (run : (AVal → Heap → R) → R) (rest : AVal → Heap → R) : R := match g with
  | none => run rest
  | some (t, b) => gdH (ρ t) b H run rest
noncomputable def gdRK (g : Option (Nat × Bool)) (ρ : Env) (run : R → R) (k : R) : R := match g with
  | none => run k
  | some (t, b) => gdK (ρ t) b run k
noncomputable def chkR : List Chk → Env → Heap → R → R
  | [], _, _, k => k
  | c :: l, ρ, H, k => gdRK c.guard ρ (agn (c.f (c.args.map (Opd.ev ρ)) H) (ρ c.t)) (chkR l ρ H k)
noncomputable def dstL (loc : Nat → Bool) (E : FEnv) (d : Option Nat) (v : AVal) : FEnv := match d with
  | none => E
  | some i => if loc i then E else E.put i v
noncomputable def runR (o : SOper) (ρ : Env) (T : TT) (H : Heap) (g : AVal → Heap → R) : R := match o.op with
  | .pur f => bV (f (o.args.map (Opd.ev ρ))) fun v => g v H
  | .rd f => bV (f (o.args.map (Opd.ev ρ)) H) fun v => g v H
  | .al f => bM (f (o.args.map (Opd.ev ρ))) H g
  | .ef f => bE (f (o.args.map (Opd.ev ρ)) H) H g
  | .call f => T f (o.args.map (Opd.ev ρ)) H g
  | .callv => onFnV (o.args.map (Opd.ev ρ)) fun f l => T f l H g
noncomputable def stepR (loc : Nat → Bool) (T : TT) (o : SOper) (ih : Env → FEnv → Heap → R) (ρ : Env) (E : FEnv) (H : Heap) : R :=
  gdR o.guard ρ H (fun rest => runR o ρ T H fun v H => chkR o.chk (putK ρ o.dst v) H (rest v H)) fun v H => ih (putK ρ o.dst v) (dstL loc E o.dst v) H
noncomputable def denR (loc : Nat → Bool) (T : TT) (k : KE) (l : List SOper) : Env → FEnv → Heap → R :=
  List.rec (motive := fun _ => Env → FEnv → Heap → R) (fun _ E H => k E H) (fun o _ ih => stepR loc T o ih) l

/-- the tmps as a function, but for those that are never put -/
noncomputable def FEnv.fnL (loc : Nat → Bool) (E : FEnv) : Env := fun t => if loc t then .bad else E.fn t
noncomputable def regC (loc : Nat → Bool) (l : List SOper) : CCl := fun T E H k _ => denR loc T k l (E.fnL loc) E H
/-- the same, as it is printed -/
noncomputable def rg (f : TT → FEnv → Heap → KE → R) : CCl := fun T E H k _ => f T E H k

theorem fnL_put (loc : Nat → Bool) (E : FEnv) (d : Option Nat) (v : AVal) (hd : ∀ i, d = some i → i < 256) (ρ : Env) (h : ∀ t, E.fnL loc t = if loc t then .bad else ρ t) :
    ∀ t, (dstL loc E d v).fnL loc t = if loc t then .bad else Am.put ρ d v t := by
  intro t
  unfold FEnv.fnL
  cases hl : loc t with
  | true => rfl
  | false =>
    have ht := h t
    unfold FEnv.fnL at ht
    rw [hl] at ht
    show (dstL loc E d v).fn t = Am.put ρ d v t
    have ht : E.fn t = ρ t := ht
    cases d with
    | none => exact ht
    | some i =>
      show (if loc i then E else E.put i v).fn t = if t = i then v else ρ t
      cases hi : loc i with
      | true =>
        have : t ≠ i := by intro e; rw [e, hi] at hl; cases hl
        rw [if_neg this]; exact ht
      | false =>
        show (E.put i v).fn t = _
        rw [FEnv.fn_put _ _ _ (hd i rfl)]
        show (if t = i then v else E.fn t) = _
        rw [ht]

theorem gdR_eq {g : Option (Nat × Bool)} {ρ : Env} {H : Heap} {run : (AVal → Heap → R) → R} {rest : AVal → Heap → R} {r : AVal × Heap} (h : gdR g ρ H run rest = some r) :
    (gd g ρ = some false ∧ rest (.tup []) H = some r) ∨ (gd g ρ = some true ∧ run rest = some r) := by
  cases g with
  | none => exact .inr ⟨rfl, h⟩
  | some q =>
    obtain ⟨t, b⟩ := q
    exact onGd1_eq h
theorem gdRK_eq {g : Option (Nat × Bool)} {ρ : Env} {run : R → R} {k : R} {r : AVal × Heap} (h : gdRK g ρ run k = some r) :
    (gd g ρ = some false ∧ k = some r) ∨ (gd g ρ = some true ∧ run k = some r) := by
  cases g with
  | none => exact .inr ⟨rfl, h⟩
  | some q =>
    obtain ⟨t, b⟩ := q
    exact onGd1_eq h
theorem chkR_eq {ρ : Env} {H : Heap} {k : R} {r : AVal × Heap} : ∀ {l : List Chk}, chkR l ρ H k = some r → chks ρ H l ∧ k = some r
  | [], h => ⟨(fun c hc => absurd hc List.not_mem_nil), h⟩
  | c :: l, h => by
    rcases gdRK_eq (show gdRK c.guard ρ _ (chkR l ρ H k) = some r from h) with ⟨h1, h2⟩ | ⟨h1, h2⟩
    · obtain ⟨h3, h4⟩ := chkR_eq h2
      refine ⟨fun c' hc => ?_, h4⟩
      rcases List.mem_cons.1 hc with rfl | hc
      · exact .inl h1
      · exact h3 _ hc
    · obtain ⟨v, h5, h6⟩ := onOpt_eq.1 h2
      obtain ⟨h7, h8⟩ := ifB_eq.1 h6
      obtain ⟨h3, h4⟩ := chkR_eq h8
      refine ⟨fun c' hc => ?_, h4⟩
      rcases List.mem_cons.1 hc with rfl | hc
      · right; exact ⟨h1, by rw [← same_eq h7]; exact h5⟩
      · exact h3 _ hc

section
variable {P : Program} {S : FuncId → List AVal → Heap → AVal → Heap → Prop}

theorem denR_good (loc : Nat → Bool) (T : TT) (hT : GoodT P S T) (k : KE) : ∀ (l : List SOper), (∀ o ∈ l, ∀ t, o.dst = some t → t < 256) → ∀ (ρ : Env) (E : FEnv) (H : Heap) (r : AVal × Heap),
    (∀ t, E.fnL loc t = if loc t then .bad else ρ t) → denR loc T k l ρ E H = some r →
    ∃ ρ1 E1 H1, BS P S (.ops l ρ H) (.st .nrm ρ1 H1) ∧ (∀ t, E1.fnL loc t = if loc t then .bad else ρ1 t) ∧ k E1 H1 = some r := by
  intro l
  induction l with
  | nil => intro _ ρ E H r hE h; exact ⟨ρ, E, H, .nil, hE, h⟩
  | cons o l ih =>
    intro hd ρ E H r hE h
    have ih := ih (fun o ho => hd o (List.mem_cons_of_mem _ ho))
    have hdst : ∀ i, o.dst = some i → i < 256 := hd o List.mem_cons_self
    have h : gdR o.guard ρ H (fun rest => runR o ρ T H fun v H => chkR o.chk (put ρ o.dst v) H (rest v H)) (fun v H => denR loc T k l (put ρ o.dst v) (dstL loc E o.dst v) H) = some r := by
      have h : stepR loc T o (denR loc T k l) ρ E H = some r := h
      unfold stepR at h
      simp only [putK_eq] at h
      exact h
    rcases gdR_eq h with ⟨h1, h2⟩ | ⟨h1, h2⟩
    · obtain ⟨ρ1, E1, H1, g1, g2, g3⟩ := ih _ _ _ _ (fnL_put loc E o.dst _ hdst ρ hE) h2
      exact ⟨ρ1, E1, H1, .skp h1 g1, g2, g3⟩
    · have fin : ∀ v H2, chkR o.chk (put ρ o.dst v) H2 (denR loc T k l (put ρ o.dst v) (dstL loc E o.dst v) H2) = some r → o.op.exec (o.args.map (Opd.ev ρ)) H = some (v, H2) →
          ∃ ρ1 E1 H1, BS P S (.ops (o :: l) ρ H) (.st .nrm ρ1 H1) ∧ (∀ t, E1.fnL loc t = if loc t then .bad else ρ1 t) ∧ k E1 H1 = some r := by
        intro v H2 h3 h4
        obtain ⟨c1, c2⟩ := chkR_eq h3
        obtain ⟨ρ1, E1, H1, g1, g2, g3⟩ := ih _ _ _ _ (fnL_put loc E o.dst _ hdst ρ hE) c2
        exact ⟨ρ1, E1, H1, .run h1 h4 c1 g1, g2, g3⟩
      have call : ∀ f args, o.op.calls (o.args.map (Opd.ev ρ)) = some (f, args) → (T f args H fun v H => chkR o.chk (put ρ o.dst v) H (denR loc T k l (put ρ o.dst v) (dstL loc E o.dst v) H)) = some r →
          ∃ ρ1 E1 H1, BS P S (.ops (o :: l) ρ H) (.st .nrm ρ1 H1) ∧ (∀ t, E1.fnL loc t = if loc t then .bad else ρ1 t) ∧ k E1 H1 = some r := by
        intro f args h3 h4
        obtain ⟨v, H2, g0, h5⟩ := hT _ _ _ _ _ h4
        obtain ⟨c1, c2⟩ := chkR_eq h5
        obtain ⟨ρ1, E1, H1, g1, g2, g3⟩ := ih _ _ _ _ (fnL_put loc E o.dst _ hdst ρ hE) c2
        exact ⟨ρ1, E1, H1, .call h1 h3 g0 c1 g1, g2, g3⟩
      unfold runR at h2
      cases hop : o.op with
      | pur f =>
        rw [hop] at h2; dsimp only at h2; rw [bV_eq] at h2
        obtain ⟨v, h3, h4⟩ := onOpt_eq.1 h2
        exact fin v H h4 (by rw [hop]; exact onOpt_eq.2 ⟨v, h3, rfl⟩)
      | rd f =>
        rw [hop] at h2; dsimp only at h2; rw [bV_eq] at h2
        obtain ⟨v, h3, h4⟩ := onOpt_eq.1 h2
        exact fin v H h4 (by rw [hop]; exact onOpt_eq.2 ⟨v, h3, rfl⟩)
      | al f =>
        rw [hop] at h2; dsimp only at h2; rw [bM_eq] at h2
        obtain ⟨p, h3, h4⟩ := onOpt_eq.1 h2
        exact fin _ _ h4 (by rw [hop]; exact onOpt_eq.2 ⟨p, h3, rfl⟩)
      | ef f =>
        rw [hop] at h2; dsimp only at h2; rw [bE_eq] at h2
        obtain ⟨p, h3, h4⟩ := onOpt_eq.1 h2
        obtain ⟨h5, h6⟩ := ifB_eq.1 h4
        exact fin _ _ h6 (by rw [hop]; exact onOpt_eq.2 ⟨p, h3, ifB_eq.2 ⟨h5, rfl⟩⟩)
      | call f =>
        rw [hop] at h2
        exact call f _ (by rw [hop]; rfl) h2
      | callv =>
        rw [hop] at h2
        obtain ⟨f, args, h3, h4⟩ := onFnV_eq h2
        exact call f args (by rw [hop]; exact h3) h4

/-- what is said of code: the tmps without those that are never put -/
def GoodL (P : Program) (S : FuncId → List AVal → Heap → AVal → Heap → Prop) (loc : Nat → Bool) (nt : Nat) (c : Code) (x : CCl) : Prop := ∀ T, GoodT P S T → ∀ E H k kx r, x T E H k kx = some r →
  ∃ e E1 H1, BS P S (.code nt c (E.fnL loc) H) (.st e (E1.fnL loc) H1) ∧ (match e with | .nrm => k E1 H1 | e => kx e E1 H1) = some r

theorem goodL_reg {loc : Nat → Bool} {nt id : Nat} {ops : Array Oper} {draw : Bool} {plan : Option Plan} {l : List SOper} (hnt : nt ≤ 256) (hc : cOpers P nt plan ops = some l) (hd : plan.isSome = draw) : GoodL P S loc nt (.region id ops draw) (regC loc l) := by
  intro T hT E H k kx r h
  obtain ⟨ρ1, E1, H1, h1, h2, h3⟩ := denR_good loc T hT k l (fun o ho t ht => Nat.lt_of_lt_of_le (cOpers_dst hc o ho t ht) hnt) (E.fnL loc) E H r
    (fun t => by unfold FEnv.fnL; cases loc t <;> rfl) h
  refine ⟨.nrm, E1, H1, ?_, h3⟩
  have := BS.reg (S := S) (nt := nt) (id := id) loc hc hd h1
  rw [show E1.fnL loc = fun t => if loc t then .bad else ρ1 t from funext h2]
  exact this
end

section
variable (P : Program) (nt : Nat) (loc : Nat → Bool) (pl : Nat → Option Plan)
noncomputable def denS : Code → Option CCl
  | .skip => some skipC
  | .label _ => some skipC
  | .exit id => some (exitC id)
  | .ret => some retC
  | .region id ops draw => match (match draw with | true => (match pl id with | some p => cOpersF P nt (some p) ops | none => none) | false => cOpersF P nt none ops) with
    | some l => some (regC loc l)
    | none => none
  | .seq a b => match denS a, denS b with
    | some a, some b => some (seqC a b)
    | _, _ => none
  | .cond c a b => match cOpd P c, denS a, denS b with
    | some c, some a, some b => some (condF (fun E => c.ev (E.fnL loc)) a b)
    | _, _, _ => none
  | .block id b => match denS b with
    | some b => some (blockC id b)
    | none => none
  | .loop b => match denS b with
    | some b => some (loopC b)
    | none => none
  | .scope b => denS b
  | _ => none

noncomputable def resS (r : ResultVar) : Option (FEnv → Heap → Option AVal) := match r with
  | .tmp t => some fun E _ => some (E.fnL loc t)
  | .cell a t => match agg? P t, size? P t with
    | some true, some n => some fun E H => onPtr (E.fnL loc a) fun id off => onOpt (loadN H id off n) fun l => some (.agg l)
    | some false, _ => some fun E H => onPtr (E.fnL loc a) fun id off => load1 H id off
    | _, _ => none
end
def locOf (m : Nat) : Nat → Bool := fun t => Nat.testBit m t
/-- how many operands a call takes -/
def nArgs (fn : Func) : Nat := min (min 16 fn.ntmps) (fn.params.size + fn.nfree)
noncomputable def denFunS (P : Program) (m : Nat) (pl : Nat → Option Plan) (f : FuncId) : Option (TT → FnC) := match P.funcs[f]? with
  | some fn => match fn.body with
    | some c => match denS P fn.ntmps (locOf m) pl c, fn.results.toList.mapM (resS P (locOf m)) with
      | some c, some l => if Nat.ble fn.ntmps 256 && Nat.beq (Nat.land m (2 ^ nArgs fn - 1)) 0 then some (fnC (nArgs fn) c l) else none
      | _, _ => none
    | none => none
  | none => none

section
variable {P : Program} {S : FuncId → List AVal → Heap → AVal → Heap → Prop} {loc : Nat → Bool}

theorem goodL_seq {nt : Nat} {a b : Code} {x y : CCl} (ha : GoodL P S loc nt a x) (hb : GoodL P S loc nt b y) : GoodL P S loc nt (.seq a b) (seqC x y) := by
  intro T hT E H k kx r h
  obtain ⟨e, E1, H1, h1, h2⟩ := ha T hT _ _ _ _ _ h
  cases e with
  | nrm =>
    obtain ⟨e2, E2, H2, h3, h4⟩ := hb T hT _ _ _ _ _ h2
    exact ⟨e2, E2, H2, .seq h1 h3, h4⟩
  | exit id => exact ⟨_, E1, H1, .seqx h1 nofun, h2⟩
  | ret => exact ⟨_, E1, H1, .seqx h1 nofun, h2⟩
theorem goodL_cond {nt : Nat} {c : Operand} {o : Opd} {a b : Code} {x y : CCl} (hc : cOpd P c = some o) (ha : GoodL P S loc nt a x) (hb : GoodL P S loc nt b y) : GoodL P S loc nt (.cond c a b) (condF (fun E => o.ev (E.fnL loc)) x y) := by
  intro T hT E H k kx r h
  obtain ⟨t, h1, h2⟩ := onB_eq h
  cases t with
  | true =>
    obtain ⟨e, E1, H1, h3, h4⟩ := ha T hT _ _ _ _ _ h2
    exact ⟨e, E1, H1, .cond (t := true) hc h1 h3, h4⟩
  | false =>
    obtain ⟨e, E1, H1, h3, h4⟩ := hb T hT _ _ _ _ _ h2
    exact ⟨e, E1, H1, .cond (t := false) hc h1 h3, h4⟩
theorem goodL_block {nt id : Nat} {b : Code} {x : CCl} (hb : GoodL P S loc nt b x) : GoodL P S loc nt (.block id b) (blockC id x) := by
  intro T hT E H k kx r h
  obtain ⟨e, E1, H1, h1, h2⟩ := hb T hT _ _ _ _ _ h
  cases e with
  | nrm => exact ⟨.nrm, E1, H1, .block h1 nofun, h2⟩
  | ret => exact ⟨.ret, E1, H1, .block h1 nofun, h2⟩
  | exit i =>
    have h2 : Bool.rec (motive := fun _ => R) (kx (.exit i) E1 H1) (k E1 H1) (Nat.beq i id) = some r := h2
    cases hq : Nat.beq i id with
    | true =>
      have := Nat.eq_of_beq_eq_true hq; subst this
      rw [hq] at h2
      exact ⟨.nrm, E1, H1, .blockx h1, h2⟩
    | false =>
      rw [hq] at h2
      refine ⟨.exit i, E1, H1, .block h1 ?_, h2⟩
      intro e
      injection e with e
      rw [e, show Nat.beq id id = true from Nat.beq_refl _] at hq
      cases hq
theorem goodL_loop {nt : Nat} {b : Code} {x : CCl} (hb : GoodL P S loc nt b x) : GoodL P S loc nt (.loop b) (loopC x) := by
  intro T hT E H k kx r h
  have key : ∀ (n : Nat) E H, Nat.rec (motive := fun _ => FEnv → Heap → R) (fun _ _ => none) (fun _ ih E H => x T E H (fun E H => ih E H) kx) n E H = some r →
      ∃ e E1 H1, BS P S (.code nt (.loop b) (E.fnL loc) H) (.st e (E1.fnL loc) H1) ∧ (match e with | .nrm => k E1 H1 | e => kx e E1 H1) = some r := by
    intro n
    induction n with
    | zero => intro E H h; cases h
    | succ n ih =>
      intro E H h
      obtain ⟨e, E1, H1, h1, h2⟩ := hb T hT _ _ _ _ _ h
      cases e with
      | nrm =>
        obtain ⟨e2, E2, H2, h3, h4⟩ := ih _ _ h2
        exact ⟨e2, E2, H2, .loop h1 h3, h4⟩
      | exit id => exact ⟨_, E1, H1, .loopx h1 nofun, h2⟩
      | ret => exact ⟨_, E1, H1, .loopx h1 nofun, h2⟩
  exact key 1000000 _ _ h

theorem denS_good {nt : Nat} {pl : Nat → Option Plan} (hnt : nt ≤ 256) : ∀ (c : Code) (x : CCl), denS P nt loc pl c = some x → GoodL P S loc nt c x := by
  intro c
  induction c with
  | skip => intro x h; cases h; intro T hT E H k kx r h; exact ⟨.nrm, E, H, .skip, h⟩
  | label l => intro x h; cases h; intro T hT E H k kx r h; exact ⟨.nrm, E, H, .label, h⟩
  | exit id => intro x h; cases h; intro T hT E H k kx r h; exact ⟨.exit id, E, H, .exit, h⟩
  | ret => intro x h; cases h; intro T hT E H k kx r h; exact ⟨.ret, E, H, .ret, h⟩
  | region id ops draw =>
    intro x h
    unfold denS at h
    rw [cOpersF_eq] at h
    split at h
    · rename_i l hl
      cases h
      cases draw with
      | true =>
        dsimp only at hl
        split at hl
        · exact goodL_reg hnt hl rfl
        · cases hl
      | false => exact goodL_reg hnt hl rfl
    · cases h
  | seq a b iha ihb =>
    intro x h
    unfold denS at h
    split at h
    · rename_i y z h1 h2; cases h; exact goodL_seq (iha _ h1) (ihb _ h2)
    · cases h
  | cond c a b iha ihb =>
    intro x h
    unfold denS at h
    split at h
    · rename_i o y z h1 h2 h3; cases h; exact goodL_cond h1 (iha _ h2) (ihb _ h3)
    · cases h
  | block id b ih =>
    intro x h
    unfold denS at h
    split at h
    · rename_i y h1; cases h; exact goodL_block (ih _ h1)
    · cases h
  | loop b ih =>
    intro x h
    unfold denS at h
    split at h
    · rename_i y h1; cases h; exact goodL_loop (ih _ h1)
    · cases h
  | scope b ih =>
    intro x h
    have hg := ih x h
    intro T hT E H k kx r h
    obtain ⟨e, E1, H1, h1, h2⟩ := hg T hT _ _ _ _ _ h
    exact ⟨e, E1, H1, .scope h1, h2⟩
  | _ => intro x h; cases h

theorem resS_ok {r : ResultVar} {f : FEnv → Heap → Option AVal} (h : resS P loc r = some f) {E : FEnv} {H : Heap} {v : AVal} (hv : f E H = some v) : resOf P (E.fnL loc) H r = some v := by
  cases r with
  | tmp t => cases h; exact hv
  | cell a t =>
    unfold resS at h
    dsimp only at h
    unfold resOf
    dsimp only
    split at h
    · rename_i n h1 h2
      cases h
      obtain ⟨id, off, e, h3⟩ := onPtr_eq.1 hv
      rw [h1, h2, e]
      exact h3
    · rename_i h1
      cases h
      obtain ⟨id, off, e, h3⟩ := onPtr_eq.1 hv
      rw [h1, e]
      exact h3
    · cases h
theorem resKS_ok {rs : List ResultVar} {l : List (FEnv → Heap → Option AVal)} (h : rs.mapM (resS P loc) = some l) {E : FEnv} {H : Heap} {k : AVal → R} {r : AVal × Heap} (hk : resK l E H k = some r) : ∃ v, resOfs P (E.fnL loc) H rs = some v ∧ k v = some r := by
  have hm := mapM_some h
  have all : ∀ {vs : List AVal}, l.mapM (fun f => f E H) = some vs → rs.mapM (resOf P (E.fnL loc) H) = some vs := by
    intro vs hv
    have hm2 := mapM_some hv
    refine mapM_some' (by omega) fun i a b h1 h2 => ?_
    obtain ⟨f, h3, h4⟩ := hm.2 i a h1
    obtain ⟨b', h5, h6⟩ := hm2.2 i f h3
    rw [h2] at h5; cases h5
    exact resS_ok h4 h6
  unfold resOfs
  unfold resK at hk
  split at hk
  · rename_i f
    obtain ⟨v, h1, h2⟩ := onOpt_eq.1 hk
    rw [all (vs := [v]) (by simp [List.mapM_cons, h1])]
    exact ⟨v, rfl, h2⟩
  · rename_i hne
    obtain ⟨vs, h1, h2⟩ := resL_eq hk
    rw [all h1]
    have hl := (mapM_some h1).1
    cases vs with
    | nil => exact ⟨_, rfl, h2⟩
    | cons v vs =>
      cases vs with
      | nil =>
        obtain ⟨f, e⟩ := list1 (by simpa using hl)
        exact absurd e (hne f)
      | cons u vs => exact ⟨_, rfl, h2⟩

theorem land_bit {m n t : Nat} (h : Nat.land m (2 ^ n - 1) = 0) (ht : t < n) : Nat.testBit m t = false := by
  have h2 : (m &&& (2 ^ n - 1)).testBit t = false := by rw [show m &&& (2 ^ n - 1) = 0 from h]; simp
  rw [Nat.testBit_and, Nat.testBit_two_pow_sub_one] at h2
  simpa [ht] using h2
theorem denFunS_good {m : Nat} {pl : Nat → Option Plan} {f : FuncId} {x : TT → FnC} (h : denFunS P m pl f = some x) : GoodF P S f x := by
  unfold denFunS at h
  split at h
  · rename_i fn hf
    split at h
    · rename_i c hc
      split at h
      · rename_i cc l h1 h2
        split at h
        · rename_i hnt
          cases h
          rw [Bool.and_eq_true] at hnt
          have hm := Nat.eq_of_beq_eq_true hnt.2
          have hnt := Nat.le_of_ble_eq_true hnt.1
          intro T hT args H k r hr
          obtain ⟨h3, h4⟩ := ifB_eq.1 hr
          have h3 := Nat.le_of_ble_eq_true h3
          rw [lenL_eq] at h3
          have hn16 : nArgs fn ≤ 16 := by unfold nArgs; omega
          have hnt2 : nArgs fn ≤ fn.ntmps := by unfold nArgs; omega
          obtain ⟨e, E1, H1, h5, h6⟩ := denS_good hnt _ _ h1 T hT _ _ _ _ _ h4
          have he : (fenvOf args).fnL (locOf m) = envOf args := by
            funext t
            unfold FEnv.fnL
            rw [fenvOf_fn _ (by omega)]
            by_cases ht : t < nArgs fn
            · rw [show locOf m t = false from land_bit hm ht]; rfl
            · have hb : envOf args t = .bad := by
                unfold envOf
                rw [List.getElem?_eq_none (by omega)]; rfl
              rw [hb]; cases locOf m t <;> rfl
          rw [he] at h5
          cases e with
          | nrm =>
            obtain ⟨v, h7, h8⟩ := resKS_ok h2 h6
            exact ⟨v, H1, .fn hf hc (by omega) h5 (.inl rfl) h7, h8⟩
          | exit i => cases h6
          | ret =>
            obtain ⟨v, h7, h8⟩ := resKS_ok h2 h6
            exact ⟨v, H1, .fn hf hc (by omega) h5 (.inr rfl) h7, h8⟩
        · cases h
      · cases h
    · cases h
  · cases h
end
end Go.Am
