/- A part of the library Am: an abstract machine for the model, that a kernel evaluates. -/
import Derived.Test.YtpmajhocoepajaaGreatDoorAmV
set_option linter.unusedVariables false
set_option linter.unusedSimpArgs false
namespace Go.Am

inductive Tra (P : Program) : List SOper → Env → Heap → Env → Heap → Prop where
  | nil {E H} : Tra P [] E H E H
  | skp {o l E H E' H'} : gd o.guard E = some false → Tra P l (put E o.dst (.tup [])) H E' H' → Tra P (o :: l) E H E' H'
  | run {o l E H v H1 E' H'} : gd o.guard E = some true → Does P o.op (o.args.map (Opd.ev E)) H v H1 → chks (put E o.dst v) H1 o.chk → Tra P l (put E o.dst v) H1 E' H' → Tra P (o :: l) E H E' H'

theorem Tra.mono {P : Program} {l : List SOper} {E : Env} {H : Heap} {E' : Env} {H' : Heap} (h : Tra P l E H E' H') : H.next ≤ H'.next := by
  induction h with
  | nil => exact Nat.le_refl _
  | skp _ _ ih => exact ih
  | run _ h _ _ ih => exact Nat.le_trans h.mono ih

structure Ok (P : Program) (β : Map) (H : Heap) (E : Env) (nt hi : Nat) (a : Act) (w : World) : Prop where
  rel : HRel β H.obj w
  glob : GRel P β
  env : EnvRel β E a.tmps
  size : a.tmps.size = nt
  free : FreeB β H.next hi
  wf : ∀ id, H.next ≤ id → H.obj id = none

/-- how a piece of code leaves things -/
def Left (P : Program) (β : Map) (H : Heap) (nt hi : Nat) (a : Act) (w : World) (E1 : Env) (H1 : Heap) (a' : Act) (w' : World) : Prop :=
  ∃ β', Ok P β' H1 E1 nt hi a' w' ∧ Post β H.obj H.next w β' H1.obj H1.next w' ∧ a'.defers = a.defers

theorem Left.refl {P : Program} {β : Map} {H : Heap} {E : Env} {nt hi : Nat} {a : Act} {w : World} (h : Ok P β H E nt hi a w) : Left P β H nt hi a w E H a w := ⟨β, h, Post.refl h.rel, rfl⟩
theorem Left.trans {P : Program} {β β1 : Map} {H H1 : Heap} {nt hi : Nat} {a a1 a2 : Act} {w w1 w2 : World} {E2 : Env} {H2 : Heap} (h1 : Post β H.obj H.next w β1 H1.obj H1.next w1) (hd : a1.defers = a.defers)
    (h : Left P β1 H1 nt hi a1 w1 E2 H2 a2 w2) : Left P β H nt hi a w E2 H2 a2 w2 := by
  obtain ⟨β2, g1, g2, g3⟩ := h
  exact ⟨β2, g1, h1.trans g2, g3.trans hd⟩

theorem free_le {β : Map} {n m hi : Nat} (h : FreeB β n hi) (hle : m ≤ hi) : FreeB β n m := fun id h1 h2 => h id h1 (by omega)

theorem Ok.step {P : Program} {β β' : Map} {H H1 : Heap} {E : Env} {nt hi : Nat} {a : Act} {w w' : World} (h : Ok P β H E nt hi a w) (hp : Post β H.obj H.next w β' H1.obj H1.next w') {d : Option Nat} (hd : ∀ t, d = some t → t < nt)
    {v : AVal} {v' : Value} (hv : VRel β' v v') : Ok P β' H1 (put E d v) nt hi (a.put d v') w' :=
  ⟨hp.rel, h.glob.mono hp.ext, (h.env.mono hp.ext).put h.size hd hv, by rw [put_size]; exact h.size, hp.free h.free, hp.wf h.wf⟩

theorem cOper_ok {nt : Nat} {ops : Array Oper} {o : Oper} {s : SOp × List Opd} {chk : List Chk} {so : SOper} (h : cOper nt ops o s chk = some so) :
    so.dst = o.dst ∧ so.op = s.1 ∧ so.args = s.2 ∧ gdst ops o.guard = some so.guard ∧ so.chk = chk ∧ ∀ t, o.dst = some t → t < nt := by
  unfold cOper at h
  split at h
  · cases h
  · rename_i g hg
    split at h
    · rename_i hd
      cases h
      refine ⟨rfl, rfl, rfl, hg, rfl, ?_⟩
      intro t ht
      rw [ht] at hd
      exact Nat.le_of_ble_eq_true (by simpa using hd)
    · cases h

theorem seq_ok {P : Program} {nt hi : Nat} {ops : Array Oper} {Q : Exit → Act → World → Prop} {l : List SOper} {E : Env} {H : Heap} {E' : Env} {H' : Heap} (ht : Tra P l E H E' H') :
    ∀ (zs : List (Oper × (SOp × List Opd))), zs.mapM (fun p => cOper nt ops p.1 p.2 []) = some l → (∀ p ∈ zs, cOp P p.1 = some p.2) → ∀ (β : Map) (a : Act) (w : World), Ok P β H E nt hi a w → H'.next ≤ hi →
      (∀ a' w', Left P β H nt hi a w E' H' a' w' → Q .normal a' w') → wpList P ops Q (zs.map (·.1)) a w := by
  induction ht with
  | nil =>
    intro zs hz hc β a w hok hle hQ
    have hlen := (mapM_some hz).1
    have : zs = [] := List.eq_nil_of_length_eq_zero (by simpa using hlen)
    subst this
    exact hQ _ _ (Left.refl hok)
  | @skp o l E H E' H' hg ht ih =>
    intro zs hz hc β a w hok hle hQ
    cases zs with
    | nil => simp at hz
    | cons z zs =>
      simp only [List.mapM_cons] at hz
      obtain ⟨so, h1, hz⟩ := Option.bind_eq_some_iff.1 hz
      obtain ⟨ls, h2, hz⟩ := Option.bind_eq_some_iff.1 hz
      cases hz
      obtain ⟨e1, e2, e3, e4, e5, e6⟩ := cOper_ok h1
      rw [List.map_cons]
      refine wpList_step fun K hK => ?_
      rw [guard_ok hok.env e4 hg, if_neg (by simp)]
      refine hK _ _ (ih zs h2 (fun p hp => hc p (by simp [hp])) β _ w ?_ hle ?_)
      · have := hok.step (Post.refl hok.rel) e6 (undef_rel β)
        rw [e1]; exact this
      · intro a' w' hl
        exact hQ _ _ (Left.trans (Post.refl hok.rel) (put_defers _ _ _) hl)
  | @run o l E H v H1 E' H' hg hd hch ht ih =>
    intro zs hz hc β a w hok hle hQ
    cases zs with
    | nil => simp at hz
    | cons z zs =>
      simp only [List.mapM_cons] at hz
      obtain ⟨so, h1, hz⟩ := Option.bind_eq_some_iff.1 hz
      obtain ⟨ls, h2, hz⟩ := Option.bind_eq_some_iff.1 hz
      cases hz
      obtain ⟨e1, e2, e3, e4, e5, e6⟩ := cOper_ok h1
      rw [List.map_cons]
      refine wpList_step fun K hK => ?_
      rw [guard_ok hok.env e4 hg, if_pos rfl]
      rw [e2, e3] at hd
      have hle1 : H1.next ≤ hi := Nat.le_trans ht.mono hle
      refine does_wp hok.glob hok.env (hc z (by simp)) hd hok.rel (free_le hok.free hle1) hok.wf ?_
      intro β' v' w' hv hp
      refine hK _ _ (ih zs h2 (fun p hp => hc p (by simp [hp])) β' _ w' ?_ hle ?_)
      · rw [e1]; exact hok.step hp e6 hv
      · intro a' w'' hl
        exact hQ _ _ (Left.trans hp (put_defers _ _ _) hl)

theorem seqRegion_ok {P : Program} {nt hi id : Nat} {ops : Array Oper} {Q : Exit → Act → World → Prop} {l : List SOper} {E : Env} {H : Heap} {E' : Env} {H' : Heap} (hc : cOpers P nt none ops = some l) (ht : Tra P l E H E' H')
    {β : Map} {a : Act} {w : World} (hok : Ok P β H E nt hi a w) (hle : H'.next ≤ hi) (hQ : ∀ a' w', Left P β H nt hi a w E' H' a' w' → Q .normal a' w') : (Code.region id ops false).wp P Q a w := by
  unfold cOpers at hc
  split at hc
  · cases hc
  rename_i sops hs
  obtain ⟨hlen, hs⟩ := mapM_some hs
  have e : (ops.toList.zip sops).map (·.1) = ops.toList := List.map_fst_zip (by omega)
  refine wp_region_list ?_
  rw [← e]
  refine seq_ok ht _ hc ?_ β a w hok hle hQ
  intro p hp
  obtain ⟨k, hk, e2⟩ := List.getElem_of_mem hp
  rw [List.length_zip] at hk
  rw [List.getElem_zip] at e2
  obtain ⟨b, h1, h2⟩ := hs k ops.toList[k] (by rw [List.getElem?_eq_getElem])
  have : sops[k] = b := by
    have := List.getElem?_eq_getElem (l := sops) (i := k) (by omega)
    rw [this] at h1; exact Option.some.inj h1
  rw [← e2, this]; exact h2

end Go.Am
