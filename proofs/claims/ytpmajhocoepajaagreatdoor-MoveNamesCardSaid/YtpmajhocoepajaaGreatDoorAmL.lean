/- A part of the library Am: an abstract machine for the model, that a kernel evaluates. -/
import Derived.Test.YtpmajhocoepajaaGreatDoorAmK
set_option linter.unusedVariables false
set_option linter.unusedSimpArgs false
namespace Go.Am

/-- what an operation does that writes -/
def EfOk (P : Program) (β : Map) (H : Heap) (s : Sem Value) (w : World) (v : AVal) (H' : Heap) : Prop :=
  ∃ v' w' β', s.run P w = .ok v' w' ∧ Post β H.obj H.next w β' H'.obj H'.next w' ∧ VRel β' v v'
def EfU (P : Program) (β : Map) (H : Heap) (s : Sem Unit) (w : World) (v : AVal) (H' : Heap) : Prop :=
  v = .tup [] ∧ ∃ w' β', s.run P w = .ok () w' ∧ Post β H.obj H.next w β' H'.obj H'.next w'

theorem cells_size {β : Map} {l : List AVal} {v : Value} (h : LRel β l v.cells.toList) : v.cells.size = l.length := by have := h.length; simp at this; exact this.symm

theorem st_ok {P : Program} {β : Map} {H H' : Heap} {w : World} (hr : HRel β H.obj w) {t : TypeId} {n : Nat} (hs : size? P t = some n) {a x v : AVal} {a' x' : Value} (ha : VRel β a a') (hx : VRel β x x')
    (h : oSt n a x H = some (v, H')) : EfU P β H (Instr.storeAt t a' x') w v H' := by
  obtain ⟨id, off, e_, h1⟩ := onPtr_eq.1 h
  subst e_
  obtain ⟨l, h2, h3, h4⟩ := cells_rel hx h1
  obtain ⟨h5, h6⟩ := ifB_eq.1 h2
  have h5 := Nat.eq_of_beq_eq_true h5
  rw [lenL_eq] at h5
  obtain ⟨H1, h7, h8⟩ := onOpt_eq.1 h6
  cases h8
  cases ha with
  | ptr hb =>
    obtain ⟨w', g1, g2⟩ := storeN_ok (P := P) hr hb h3 h4 h7
    refine ⟨rfl, w', β, ?_, g2⟩
    have : ¬ x'.cells.size ≠ n := by rw [cells_size h3, h5]; simp
    simp only [Instr.storeAt, Instr.sureAddr, Sem.run_bind, Sem.run_pure, Result.andThen_ok, storeVar, run_sizeOf' hs, this, if_false]
    exact g1

/-! ## maps -/
theorem run_setObj_map {P : Program} {w : World} {b : Nat} {es : Array MapEntry} {cl : Nat} (h : w.heap[b]? = some (.map es cl)) (o : Obj) :
    (setObj b o).run P w = .ok () { w with heap := w.heap.setIfInBounds b o } := by simp [setObj, Sem.run, h]

theorem Post.setMap {β : Map} {H : Heap} {w : World} (hr : HRel β H.obj w) {id : Nat} {i : Info} (hb : β id = some i) {es : List (AVal × AVal × Nat)} {cl : Nat} (ho : H.obj id = some (.map es cl))
    {es' : List (AVal × AVal × Nat)} {cl' : Nat} {ces : Array MapEntry} (hm : MRel β es' ces.toList) :
    Post β H.obj H.next w β (H.set id (some (.map es' cl'))).obj (H.set id (some (.map es' cl'))).next { w with heap := w.heap.setIfInBounds i.blk (.map ces cl') } := by
  rw [Heap.set_next]
  have hlt := hr.lt hb
  refine Post.write (w' := { w with heap := w.heap.setIfInBounds i.blk (.map ces cl') }) (o' := .map es' cl') (co := .map ces cl') hr hb ho trivial (fun b => ?_) (by simp) ⟨rfl, rfl, rfl⟩ (.map hm) trivial (fun x => Heap.obj_set _ _ _ _)
  show (w.heap.setIfInBounds _ _)[b]? = _
  rw [Array.getElem?_setIfInBounds]
  by_cases e : i.blk = b
  · subst e; simp [hlt]
  · simp [e, Ne.symm e]

theorem MRel.push {β : Map} {es : List (AVal × AVal × Nat)} {ces : List MapEntry} (h : MRel β es ces) {k v : AVal} {k' v' : Value} {b : Nat} (hk : VRel β k k') (hv : VRel β v v') :
    MRel β (es ++ [(k, v, b)]) (ces ++ [⟨k', v', b⟩]) := by
  induction h with
  | nil => exact .cons hk hv .nil
  | cons a c _ ih => exact .cons a c ih
theorem setAt_succ (a : AVal × AVal × Nat) (l : List (AVal × AVal × Nat)) (i : Nat) (e : AVal × AVal × Nat) : setAt (a :: l) (i + 1) e = a :: setAt l i e := rfl
theorem MRel.setAt {β : Map} {es : List (AVal × AVal × Nat)} {ces : List MapEntry} (h : MRel β es ces) {k v : AVal} {b : Nat} : ∀ {p : Nat} {e' : MapEntry}, (∃ e0, ces[p]? = some e0) → VRel β k e'.key → VRel β v e'.val → e'.born = b →
    MRel β (Am.setAt es p (k, v, b)) (ces.set p e') := by
  induction h with
  | nil => rintro p e' ⟨e0, h0⟩; simp at h0
  | @cons k0 v0 b0 k1 v1 es es' hk hv t ih =>
    intro p e' h0 h1 h2 h3
    cases p with
    | zero =>
      obtain ⟨key, val, born⟩ := e'
      subst h3
      exact .cons h1 h2 t
    | succ p => exact .cons hk hv (ih (by simpa using h0) h1 h2 h3)
theorem modify_list (es : Array MapEntry) (p : Nat) (f : MapEntry → MapEntry) {e0 : MapEntry} (h : es.toList[p]? = some e0) : (es.modify p f).toList = es.toList.set p (f e0) := by
  rw [Array.toList_modify]
  apply List.ext_getElem?
  intro j
  rw [List.getElem?_modify, List.getElem?_set]
  have hlt := (List.getElem?_eq_some_iff.1 h).1
  by_cases e : p = j
  · subst e; simp [h, hlt]; simp at hlt; exact hlt
  · simp [e]

theorem keeps {P : Program} {w : World} {old new : Value} (h : Instr.sameBits 10000 old new = true) : (Instr.keyThatStays old new).run P w = .ok new w := by
  unfold Instr.keyThatStays; rw [if_pos h]; rfl

theorem mu_ok {P : Program} {β : Map} {H H' : Heap} {w : World} (hr : HRel β H.obj w) {t kt e : TypeId} (ht : P.underlying t = some (.map kt e)) {tk : TK} (hk : keyKind P kt = some tk)
    {m k x v : AVal} {m' k' x' : Value} (hm : VRel β m m') (hkk : VRel β k k') (hx : VRel β x x') (h : oMu tk m k x H = some (v, H')) : EfU P β H (Instr.mapUpdate t m' k' x') w v H' := by
  have hK := hasK_key hk
  rcases onMap_eq.1 h with ⟨e_, h1⟩ | ⟨id, e_, h1⟩
  · cases h1
  subst e_
  obtain ⟨o, h2, h3⟩ := onOpt_eq.1 h1
  obtain ⟨es, cl, e_, h4⟩ := onEnts_eq.1 h3
  subst e_
  obtain ⟨r, h5, h6⟩ := onOpt_eq.1 h4
  cases hm with
  | @map _ i hb =>
    obtain ⟨co, g1, g2⟩ := hr.obj hb h2
    cases g2 with
    | @map _ _ _ ces hmr =>
      have hf := findKey_ok (P := P) hK hkk hmr h5 w
      cases r with
      | none =>
        cases h6
        refine ⟨rfl, { w with heap := w.heap.setIfInBounds i.blk (.map (ces.push ⟨k', x', cl⟩) (cl + 1)) }, β, ?_, ?_⟩
        · simp only [Instr.mapUpdate, Sem.run_bind, run_underlying ht, Result.andThen_ok, run_getObj_map g1, checkKey_ok hK, show (Instr.findKey kt k' ces.toList).run P w = _ from hf]
          exact run_setObj_map g1 _
        · refine Post.setMap hr hb h2 ?_
          rw [app_eq, Array.toList_push]
          exact hmr.push hkk hx
      | some q =>
        obtain ⟨p, vv, b⟩ := q
        cases h6
        obtain ⟨ka, e', q1, q2, q3, q4, q5, q6⟩ := hf
        have q2' : ces[p]? = some e' := by rw [← Array.getElem?_toList]; exact q2
        have hkp : (Instr.keyThatStays (((ces[p]?).map (·.key)).getD k') k').run P w = .ok k' w := keeps (by rw [q2']; exact q6)
        refine ⟨rfl, { w with heap := w.heap.setIfInBounds i.blk (.map (ces.modify p fun e => { e with key := k', val := x' }) cl) }, β, ?_, ?_⟩
        · simp only [Instr.mapUpdate, Sem.run_bind, run_underlying ht, Result.andThen_ok, run_getObj_map g1, checkKey_ok hK, q5, hkp]
          exact run_setObj_map g1 _
        · refine Post.setMap hr hb h2 ?_
          rw [modify_list _ _ _ q2]
          exact hmr.setAt ⟨_, q2⟩ hkk hx q3

theorem me_ok {P : Program} {β : Map} {H H' : Heap} {w : World} (hr : HRel β H.obj w) {t kt e : TypeId} (ht : P.underlying t = some (.map kt e)) {tk : TK} (hk : keyKind P kt = some tk) {z : AVal} {zl : List AVal}
    (hz : zero? P e = some (z, zl)) {m k v : AVal} {m' k' : Value} (hm : VRel β m m') (hkk : VRel β k k') (h : oMe tk z m k H = some (v, H')) : EfOk P β H (Instr.mapEntry t m' k') w v H' := by
  have hK := hasK_key hk
  obtain ⟨zv, z1, z2, _⟩ := zero_ok hz
  rcases onMap_eq.1 h with ⟨e_, h1⟩ | ⟨id, e_, h1⟩
  · cases h1
  subst e_
  obtain ⟨o, h2, h3⟩ := onOpt_eq.1 h1
  obtain ⟨es, cl, e_, h4⟩ := onEnts_eq.1 h3
  subst e_
  obtain ⟨r, h5, h6⟩ := onOpt_eq.1 h4
  cases hm with
  | @map _ i hb =>
    obtain ⟨co, g1, g2⟩ := hr.obj hb h2
    cases g2 with
    | @map _ _ _ ces hmr =>
      have hf := findKey_ok (P := P) hK hkk hmr h5 w
      cases r with
      | none =>
        cases h6
        refine ⟨.tuple #[zv, .int .i64 (Int.ofNat cl)], { w with heap := w.heap.setIfInBounds i.blk (.map (ces.push ⟨k', zv, cl⟩) (cl + 1)) }, β, ?_, ?_, .tup (.cons (z2 β) (.cons (.int _ _) .nil))⟩
        · simp only [Instr.mapEntry, Sem.run_bind, run_underlying ht, Result.andThen_ok, run_getObj_map g1, checkKey_ok hK, show (Instr.findKey kt k' ces.toList).run P w = _ from hf, z1, run_setObj_map g1]
          rfl
        · refine Post.setMap hr hb h2 ?_
          rw [app_eq, Array.toList_push]
          exact hmr.push hkk (z2 β)
      | some q =>
        obtain ⟨p, vv, b⟩ := q
        cases h6
        obtain ⟨ka, e', q1, q2, q3, q4, q5, q6⟩ := hf
        have q2' : ces[p]? = some e' := by rw [← Array.getElem?_toList]; exact q2
        have hkp : (Instr.keyThatStays (((ces[p]?).map (·.key)).getD k') k').run P w = .ok k' w := keeps (by rw [q2']; exact q6)
        have q3' : ((ces[p]?).map (fun e => (e.born : Int))).getD 0 = Int.ofNat b := by rw [q2']; exact congrArg Int.ofNat q3
        refine ⟨.tuple #[e'.val, .int .i64 (Int.ofNat b)], { w with heap := w.heap.setIfInBounds i.blk (.map (ces.modify p fun e => { e with key := k' }) cl) }, β, ?_, ?_, .tup (.cons q4 (.cons (.int .i64 (Int.ofNat b)) .nil))⟩
        · simp only [Instr.mapEntry, Sem.run_bind, run_underlying ht, Result.andThen_ok, run_getObj_map g1, checkKey_ok hK, q5, hkp, run_setObj_map g1, q3']
          rfl
        · refine Post.setMap hr hb h2 ?_
          rw [modify_list _ _ _ q2]
          exact hmr.setAt ⟨_, q2⟩ hkk q4 q3


noncomputable def bornF (b : Nat) : List (AVal × AVal × Nat) → Nat → Option (Nat × AVal)
  | [], _ => none
  | e :: es, i => iteB (Nat.beq e.2.2 b) (some (i, e.1)) (bornF b es (i + 1))
theorem findBorn_eq (b : Nat) (es : List (AVal × AVal × Nat)) : findBorn b es = bornF b es 0 := by
  have : ∀ (es : List (AVal × AVal × Nat)) (i : Nat), List.rec (motive := fun _ => Nat → Option (Nat × AVal)) (fun _ => none) (fun e _ ih i => iteB (Nat.beq e.2.2 b) (some (i, e.1)) (ih (Nat.succ i))) es i = bornF b es i := by
    intro es
    induction es with
    | nil => intro i; rfl
    | cons e es ih =>
      intro i
      show iteB _ _ _ = iteB _ _ _
      rw [← ih]
  exact this es 0
theorem bornF_ok {β : Map} {b : Nat} : ∀ (es : List (AVal × AVal × Nat)) (ces : List MapEntry), MRel β es ces → ∀ (i p : Nat) (k : AVal), bornF b es i = some (p, k) →
    i ≤ p ∧ ∃ e', ces[p - i]? = some e' ∧ e'.born = b ∧ VRel β k e'.key ∧ ces.findIdx? (fun e => (e.born : Int) == Int.ofNat b) = some (p - i) := by
  intro es ces hm
  induction hm with
  | nil => intro i p k h; cases h
  | @cons k0 v0 b0 k1 v1 es es' hk hv t ih =>
    intro i p k h
    have h : iteB (Nat.beq b0 b) (some (i, k0)) (bornF b es (i + 1)) = some (p, k) := h
    cases h1 : Nat.beq b0 b
    all_goals rw [h1] at h
    rotate_left
    · cases h
      have := Nat.eq_of_beq_eq_true h1; subst this
      exact ⟨Nat.le_refl _, ⟨k1, v1, b0⟩, by simp, rfl, hk, by simp [List.findIdx?_cons]⟩
    · obtain ⟨h3, e', h4, h5, h6, h7⟩ := ih _ _ _ (show bornF b es (i + 1) = some (p, k) from h)
      have e1 : p - i = (p - (i + 1)) + 1 := by omega
      have hne : ¬ ((b0 : Int) == Int.ofNat b) = true := by
        intro q
        have : b0 = b := Int.ofNat.inj (eq_of_beq q)
        subst this; simp at h1
      refine ⟨by omega, e', by rw [e1]; simpa using h4, h5, h6, ?_⟩
      rw [List.findIdx?_cons, h7, e1]
      simp only [hne]; rfl

theorem es_ok {P : Program} {β : Map} {H H' : Heap} {w : World} (hr : HRel β H.obj w) {t : TypeId} {m s x v : AVal} {m' s' x' : Value} (hm : VRel β m m') (hs : VRel β s s') (hx : VRel β x x') (h : oEs m s x H = some (v, H')) :
    EfU P β H (Instr.entryStore t m' s' x') w v H' := by
  rcases onMap_eq.1 h with ⟨e_, h1⟩ | ⟨id, e_, h1⟩
  · cases h1
  subst e_
  obtain ⟨ks, b, e_s, h1⟩ := onNat_eq.1 h1
  subst e_s
  obtain ⟨o, h2, h3⟩ := onOpt_eq.1 h1
  obtain ⟨es, cl, e_, h4⟩ := onEnts_eq.1 h3
  subst e_
  obtain ⟨r, h5, h6⟩ := onOpt_eq.1 h4
  obtain ⟨p, k⟩ := r
  cases h6
  cases hs
  cases hm with
  | @map _ i hb =>
    obtain ⟨co, g1, g2⟩ := hr.obj hb h2
    cases g2 with
    | @map _ _ _ ces hmr =>
      rw [findBorn_eq] at h5
      obtain ⟨_, e', q1, q2, q3, q4⟩ := bornF_ok _ _ hmr 0 p k h5
      rw [Nat.sub_zero] at q1 q4
      have q5 : ces.findIdx? (fun e => (e.born : Int) == Int.ofNat b) = some p := by rw [← List.findIdx?_toArray] at q4; exact q4
      refine ⟨rfl, { w with heap := w.heap.setIfInBounds i.blk (.map (ces.modify p fun e => { e with val := x' }) cl) }, β, ?_, ?_⟩
      · simp only [Instr.entryStore, Sem.run_bind, Result.andThen_ok, run_getObj_map g1, asInt, asIntOf, Sem.run_pure, q5]
        exact run_setObj_map g1 _
      · refine Post.setMap hr hb h2 ?_
        rw [modify_list _ _ _ q1]
        exact hmr.setAt ⟨_, q1⟩ q3 hx q2

end Go.Am
