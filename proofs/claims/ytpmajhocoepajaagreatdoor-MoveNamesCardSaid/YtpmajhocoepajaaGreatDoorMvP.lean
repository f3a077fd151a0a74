/- MoveNames returns true, whatever the world. -/
import Derived.Test.YtpmajhocoepajaaGreatDoorMvE
import Derived.Test.YtpmajhocoepajaaGreatDoorMvF
import Derived.Test.YtpmajhocoepajaaGreatDoorMvG
import Derived.Test.YtpmajhocoepajaaGreatDoorMvH
import Derived.Test.YtpmajhocoepajaaGreatDoorRows
import Derived.Test.YtpmajhocoepajaaGreatDoorTie
import Derived.Test.YtpmajhocoepajaaGreatDoorCards
import Derived.ProofKit
import Derived.OpenShut
import Derived.LaidMore
import Derived.Lay
import Derived.SevenTiedAt
import Derived.Stop.Joined
import Derived.Below
import Derived.ChangeSame
import Derived.Handed
set_option maxRecDepth 100000
set_option linter.unusedVariables false
set_option linter.unusedSimpArgs false
namespace Go.Am
open Go.Proofs Go.RowKit

theorem mNo : ∀ (f : FuncId) (fn : Func), Tryz.prog.funcs[f]? = some fn → fn.body.isSome = true → fn.name ≠ "runtime.NumGoroutine" := by
  have h : (Tryz.prog.funcs.toList.all fun fn => !(fn.name == "runtime.NumGoroutine")) = true := by kernel_rfl
  intro f fn hf _ e
  have hm : fn ∈ Tryz.prog.funcs.toList := by
    rw [← Array.getElem?_toList] at hf
    exact List.mem_of_getElem? hf
  have := List.all_eq_true.1 h fn hm
  rw [e] at this
  simp at this
theorem mMix : Tryz.prog.follows .mixedOrders = true := by kernel_rfl
theorem mGlob : Tryz.prog.globals.size = 8 := by kernel_rfl

def S0 : FuncId → List AVal → Heap → AVal → Heap → Prop := fun _ _ _ _ _ => False
theorem ok0 (j : Job) (r : Fin) (h : BS Tryz.prog S0 j r) : Mot Tryz.prog j r := bs_ok mMix mNo (fun _ _ _ _ _ h => h.elim) h
theorem good0 : GoodT Tryz.prog S0 (deepT tab 60) := deepT_good gsTop 60
theorem any0 {f : Nat} {args : List AVal} {v : AVal} (h : isV v (deepT tab 60 f args (Heap.blank 8) kEnd) = true) (ha : ∀ a ∈ args, Scal a) (hv : Scal v) (H : Heap) : CallOk Tryz.prog f args H v H := by
  obtain ⟨H1, h1⟩ := callOk_of_isV ok0 good0 h
  rw [← mGlob] at h1
  exact h1.anywhere ha hv H
theorem known_ok (f : Nat) (args : List AVal) (v : AVal) (h : (f, args, v) ∈ known) (H : Heap) : CallOk Tryz.prog f args H v H := by
  simp only [known, List.mem_cons, List.mem_nil_iff, or_false, Prod.mk.injEq] at h
  rcases h with ⟨rfl, rfl, rfl⟩ | ⟨rfl, rfl, rfl⟩ | ⟨rfl, rfl, rfl⟩ | ⟨rfl, rfl, rfl⟩ | ⟨rfl, rfl, rfl⟩ | ⟨rfl, rfl, rfl⟩ | ⟨rfl, rfl, rfl⟩
  · exact any0 f4 (by intro a ha; cases ha) trivial H
  · exact any0 f13 (by intro a ha; cases ha) trivial H
  · exact any0 f14 (by intro a ha; cases ha) trivial H
  · exact any0 f15 (by intro a ha; cases ha) trivial H
  · exact any0 f16 (by intro a ha; cases ha) trivial H
  · exact any0 f17a (by intro a ha; rw [List.mem_singleton] at ha; subst ha; trivial) trivial H
  · exact any0 f17b (by intro a ha; rw [List.mem_singleton] at ha; subst ha; trivial) trivial H
def S1 : FuncId → List AVal → Heap → AVal → Heap → Prop := fun f args H v H1 => (f, args, v) ∈ known ∧ H1 = H
theorem ok1 (j : Job) (r : Fin) (h : BS Tryz.prog S1 j r) : Mot Tryz.prog j r :=
  bs_ok mMix mNo (fun f args H v H1 ⟨h, e⟩ => by subst e; exact known_ok f args v h _) h
theorem good1 : GoodT Tryz.prog S1 (tab (sumT (look known) (deepT tab 60))) :=
  gsTop _ (sumT_good (deepT_good gsTop 60) fun f args v h H => ⟨look_mem h, rfl⟩)
theorem main_ok (H : Heap) : CallOk Tryz.prog 3 [] H (.bool true) H := by
  obtain ⟨H1, h1⟩ := callOk_of_isV ok1 good1 f3
  rw [← mGlob] at h1
  exact h1.anywhere (by intro a ha; cases ha) trivial H

/-- the call, in each world that has its variables' blocks -/
theorem main_calls (W : World) (h8 : 8 ≤ W.heap.size) : Calls Tryz.prog 3 #[] W fun e W' => e = .returned (.bool true) ∧ Below W.heap.size W W' := by
  obtain ⟨_, _, h⟩ := main_ok (Heap.blank 8)
  refine (h (fun g => if g < 8 then some ⟨g, 0, false, 0, 0⟩ else none) #[] W ⟨?_, ?_, ?_⟩ ?_ ?_ (fun id _ => Heap.blank_obj _ _) .nil).mono ?_
  · intro id i o _ ho; rw [Heap.blank_obj] at ho; cases ho
  · intro id id' i i' o o' _ _ _ ho; rw [Heap.blank_obj] at ho; cases ho
  · intro id i hi
    have hi : (if id < 8 then some (⟨id, 0, false, 0, 0⟩ : Info) else none) = some i := hi
    split at hi
    · cases hi; show id < _; omega
    · cases hi
  · intro g hg
    rw [mGlob] at hg
    exact ⟨⟨g, 0, false, 0, 0⟩, if_pos hg, rfl, rfl⟩
  · intro id h1 h2
    rw [Heap.blank_next] at h1
    exact if_neg (by omega)
  · rintro e W' ⟨β', v', rfl, hv, hp⟩
    have e2 : v' = .bool true := by cases hv; rfl
    subst e2
    refine ⟨rfl, hp.still.os, hp.still.tape, hp.still.output, hp.still.size, fun k hk => hp.frame k hk fun id i o _ ho => ?_⟩
    rw [Heap.blank_obj] at ho; cases ho
end Go.Am

namespace Go.Proofs.YtpmajhocoepajaaGreatDoor
open Go.ChangeShapes Go.WideShapes Go.ChangeAt Go.RowKit
section
variable {H : Type} {enc : TypeId × Value → H} {P : Program}
theorem post_of_below {f : Func} {s : ChangeSpec} {apart fresh handsOn again : Bool} {W W' : World} {args : Array Value} {v : Value} {ds gs : List (DataW H)} {before pa pv : List MemPlace}
    (hW : DataW.Whole enc P f.params.toList s.vars apart W args.toList ds gs before)
    (hres : ∀ (b : Nat) (sp : Nat → Bool) (hd : Bool), DataW.TrodAll enc P W' b sp hd f.resultTypes.toList (v.resultList f.resultTypes.size) (s.fn H (ds ++ gs)).results [])
    (hargs : ∀ sp : Nat → Bool, (∀ p ∈ before, sp p.block = true) → DataW.TrodAll enc P W' 0 sp true f.params.toList args.toList (s.fn H (ds ++ gs)).args pa)
    (hvars : ∀ sp : Nat → Bool, (∀ p ∈ before, sp p.block = true) → DataW.TrodVars enc P W' sp s.vars (s.fn H (ds ++ gs)).vars pv)
    (hps : before = pa ++ pv) (hb : Below W.heap.size W W')
    (hok : ∀ (j : Nat) (t : TypeId) (r : Value), f.resultTypes[j]? = some t → (v.resultList f.resultTypes.size)[j]? = some r → Value.okWide P W' .any 0 t r) :
    s.post enc P f apart fresh handsOn again W args v W' := by
  have hlt : ∀ p ∈ before, p.block < W.heap.size := fun p hp => hW.lt p hp
  have hold : ∀ p ∈ before, (fun b => decide (b < W.heap.size)) p.block = true := fun p hp => by simpa using hlt p hp
  refine ⟨ds, gs, before, [], pa, pv, hW, hres _ _ _, hargs _ hold, hvars _ hold, World.keptBut_mono (fun p hp => ⟨hp, ?_⟩) (hb.frame (· ∈ before)), fun _ => ?_⟩
  · rw [hps, List.mem_append] at hp
    exact Or.inr hp
  · obtain ⟨_, _, _, _, _, hz, hn⟩ := hW
    refine ⟨hok, _, _, ([] ++ pa) ++ pv, ⟨[] ++ pa, pv, trodAll_append (hargs _ (fun _ _ => rfl)) (hres _ _ _), hvars _ (fun _ _ => rfl), rfl, ?_, ?_⟩, ?_⟩
    · intro b off hp
      have hin : MemPlace.cell b off ∈ before := by rw [hps]; simpa using hp
      rw [hb.frozen (hlt _ hin)]
      exact hz b off hin
    · intro ha
      have := hn ha
      rw [hps] at this
      simpa using this
    · intro p hp _
      rw [hps]
      simpa using hp
end
theorem own : ownKnob Tryz.prog.godebug = none := by kernel_rfl
theorem shape7 : ((((begin Tryz.prog (fun _ _ => 0) default).world.heap[7]?).bind Obj.row?).map (·.2)).isSome = true := by kernel_rfl
theorem size8 {W : World} (h : W.ShapedOpen Tryz.prog) : 8 ≤ W.heap.size := by
  have hs := shape7
  cases hr : ((begin Tryz.prog (fun _ _ => 0) default).world.heap[7]?).bind Obj.row? with
  | none => rw [hr] at hs; cases hs
  | some x =>
    obtain ⟨cs, h1, _⟩ := h.1 7 x.1 x.2 (by rw [Go.Am.mGlob]; omega) hr
    have := (Array.getElem?_eq_some_iff.1 h1).1
    omega
theorem lifted (os : Os) (started : os.Started) (H : Type) (enc : TypeId × Value → H) :
    ReturnsInHanded {} Tryz.checked os 3 .any (fun w args => (Rows.moveNamesSpec.pre enc Tryz.prog Tryz.f3 [] false w args ∧ laidMetH Tryz.prog Rows.moveNamesRow.laid w) ∧ sizedMet enc Tryz.prog Tryz.f3 (OpenSpec.ofChange Rows.moveNamesSpec) false w args)
      (Rows.moveNamesSpec.post enc Tryz.prog Tryz.f3 false true false false) := by
  refine returnsInHanded_of_calls (C := Tryz.checked) own started (by kernel_rfl)
    (ChangeSpec.witness_shaped (enc := enc) (C := Tryz.checked) (os := os) (X := fun w _ => laidMetH Tryz.prog Rows.moveNamesRow.laid w) false (World.laidAll Tryz.prog os Rows.moveNamesRow.laid) #[] 8 (World.laidAll_os _ _ _)
      (World.shaped_of_ZipB (by kernel_rfl) (by kernel_rfl)) (by kernel_rfl) (by kernel_rfl) (by kernel_rfl)
      (by rw [MakeChecks.laidMetH_plain _ _ _ (by kernel_rfl)]; exact laidMet_laidAll _ (by kernel_rfl) (by kernel_rfl))) ?_
  intro w tape i _ hsh _ hok hpre _
  obtain ⟨⟨⟨ds, gs, before, hw, hc⟩, hx⟩, hz⟩ := hpre
  have hW := DataW.Whole.of_heap (w' := w.forCall tape i) (by rfl) hw
  have hsz := size8 hsh
  generalize w.forCall tape i = W at hW hsz ⊢
  generalize i.args = args at hW ⊢
  have hW' := hW
  obtain ⟨p, q, hA0, hV, rfl, _, _⟩ := hW
  have hA : DataW.TrodAll enc Tryz.prog W 0 (fun _ => true) true Tryz.f3.params.toList args.toList ds p := hA0
  rw [Tryz.params3] at hA
  obtain ⟨rfl, rfl, rfl⟩ := trodAll_none hA
  obtain ⟨rfl, rfl⟩ := trodVars_none hV
  simp only [List.append_nil] at hW'
  refine (Go.Am.main_calls W hsz).mono fun e W' ⟨he, hb⟩ => ?_
  subst he
  exact ChangeSpec.post_blind (post_of_below (pa := []) (pv := []) hW' (fun _ _ _ => trodAll_mk1 (shut_bool Tryz.underlying4 _)) (fun sp _ => rfl) (fun _ _ => rfl) rfl hb
    (ok_one (by kernel_rfl) rfl (okWide_bool_mk Tryz.underlying4 _)))

theorem said : Rows.MoveNamesSaid :=
  OpenClaim.holds_of_wide 3 Tryz.f3 rfl rfl rfl rfl rfl rfl rfl ⟨rfl, rfl, rfl, rfl, rfl⟩ rfl rfl rfl rfl rfl (by kernel_rfl) Tryz.func3 (by kernel_rfl)
    (of_decide_eq_true (by kernel_rfl)) (by unfold Func.isWrapper; first | (rw [if_pos (by decide +kernel)]; kernel_rfl) | (rw [if_neg (by decide +kernel)]; exact ⟨rfl, rfl⟩))
    (fun os started H enc _ => lifted os started H enc)
theorem moveNames : Rows.MoveNamesCardSaid :=
  Claim7.holds_tied_plain_at .later [] [.data, .data, .data, .data, .sentinel, .sentinel, .pinned] true (true, "f9e677a9254d2ba6871b92d0ff5ad1a6b482c3080b5e700f727e76378b2c7d4c") true said (fun _ h => by cases h) (by kernel_rfl) (fun _ h => by cases h) moveNames_row_tie rfl ⟨rfl, rfl⟩ (by kernel_rfl) rfl
    (fun f fn hf hfn => by
      obtain rfl : f = 3 := Option.some.inj ((show Tryz.prog.funcNamed "tollgate/tollgatelaw21.MoveNames" = some 3 by kernel_rfl).symm.trans hf) |>.symm
      obtain rfl : fn = Tryz.f3 := (Option.some.inj (Tryz.func3.symm.trans hfn)).symm
      exact ⟨by kernel_rfl, fun j t ht => by
        rw [Tryz.params3] at ht
        simp at ht⟩)
    (by kernel_rfl)
end Go.Proofs.YtpmajhocoepajaaGreatDoor
