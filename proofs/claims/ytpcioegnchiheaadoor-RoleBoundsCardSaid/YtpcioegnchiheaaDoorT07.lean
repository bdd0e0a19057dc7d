/- The law RoleForms (entaillaw13) answers true at every input, without a panic, and its argument reads as it did; there are no conditions beyond those of the given card. -/
import Derived.Test.YtpcioegnchiheaaDoorT06
import Derived.Test.YtpcioegnchiheaaDoorT03
import Derived.Test.YtpcioegnchiheaaDoorCards
import Derived.Test.YtpcioegnchiheaaDoorTie
set_option linter.unusedSimpArgs false
set_option linter.unusedVariables false
set_option linter.constructorNameAsVariable false
set_option linter.unnecessarySimpa false
section
/- The law RoleForms (entaillaw13) answers true at every input, without a panic, and its argument reads as it did; there are no conditions beyond those of the given card. -/
namespace Go.Proofs.YtpcioegnchiheaaDoor
open Go Go.Fw Go.ChangeShapes Go.WideShapes Go.ChangeAt Go.RowKit
theorem own : ownKnob Tryd.prog.godebug = none := by kernel_rfl
theorem laidOut : laidOutB Tryd.prog = true := by kernel_rfl
theorem draws_ok : DregOK Tryd.prog Ro.S.dr := drAB_ok (by kernel_rfl)
theorem forms_walk (a : Int) (W : World) : Calls Tryd.prog 3 #[.int .i64 a] W fun e W' => e = .returned (.bool true) ∧ Below W.heap.size W W' := by
  refine (close0 (S := Ro.S) (f := 3) (args := [.i .i64 a]) (us := #[.int .i64 a]) (w := W) (K := fun v _ => v = .b true) draws_ok (fun _ _ => Ro.X_ok) Ro.F_ok rfl (Ro.Forms_run ?_ fun _ _ => rfl) ?_).mono ?_
  · exact wf_mem0 _
  · exact ⟨.int .i64 a, [], rfl, rfl, rfl⟩
  · rintro e W' ⟨c, μ', v, H', rfl, hv, rfl, hb⟩
    simp only [VR] at hv
    subst hv
    exact ⟨rfl, hb⟩
abbrev laid0 := Rows.roleFormsRow.laid
set_option maxRecDepth 100000 in
theorem forms_lifted (os : Os) (started : os.Started) (H : Type) (enc : TypeId × Value → H) :
    ReturnsInHanded {} Tryd.checked os 3 .any (fun w args => (Rows.roleFormsSpec.pre enc Tryd.prog Tryd.f3 [] false w args ∧ laidMetH Tryd.prog laid0 w) ∧ sizedMet enc Tryd.prog Tryd.f3 (OpenSpec.ofChange Rows.roleFormsSpec) false w args)
      (Rows.roleFormsSpec.post enc Tryd.prog Tryd.f3 false true false false) := by
  refine returnsInHanded_of_change_and (C := Tryd.checked) (X := fun w _ => laidMetH Tryd.prog laid0 w) (fun _ _ _ hh h => h.of_heap hh) own started (by kernel_rfl) Tryd.func3
    (ChangeSpec.witness_shaped (enc := enc) (C := Tryd.checked) (os := os) (X := fun w _ => laidMetH Tryd.prog laid0 w) false (World.laidAll Tryd.prog os laid0) #[.int .i64 0] 8 (World.laidAll_os _ _ _)
      (World.shaped_of_ZipB (by kernel_rfl) (by kernel_rfl)) (by kernel_rfl) (by kernel_rfl) (by kernel_rfl)
      (by rw [MakeChecks.laidMetH_plain _ _ _ (by kernel_rfl)]; exact laidMet_laidAll _ (by kernel_rfl) (by kernel_rfl))) ?_
  intro W base args ds gs before hval0 hW _ _ _ _
  have hval : ∀ (j : Nat) t v, Tryd.f3.params[j]? = some t → args[j]? = some v → Value.okWide Tryd.prog W .any base t v := hval0
  have hW' := hW
  obtain ⟨p, q, hA0, hV, rfl, _, _⟩ := hW
  have hA : DataW.TrodAll enc Tryd.prog W 0 (fun _ => true) true Tryd.f3.params.toList args.toList ds p := hA0
  rw [Tryd.params3] at hA hval
  obtain ⟨v0, d0, rfl, rfl, h0⟩ := trodAll_one hA
  obtain ⟨x, rfl, rfl, rfl, wx⟩ := open_int Tryd.underlying3 (hval 0 3 v0 rfl rfl) h0
  refine (forms_walk x W).mono fun e W' ⟨he, hw⟩ => ?_
  subst he
  exact ⟨_, rfl, post_true laidOut (f := Tryd.f3) (tb := 4) (by kernel_rfl) rfl Tryd.underlying4 rfl (fun d hd => by
    rw [Tryd.params3] at hd
    match d, hd with
    | [d], _ => rfl) hW' hw⟩
theorem forms_holds : Rows.RoleFormsSaid :=
  OpenClaim.holds_of_wide 3 Tryd.f3 rfl rfl rfl rfl rfl rfl rfl ⟨rfl, rfl, rfl, rfl, rfl⟩ rfl rfl rfl rfl rfl (by kernel_rfl) Tryd.func3 (by kernel_rfl)
    (of_decide_eq_true (by kernel_rfl)) (by unfold Func.isWrapper; first | (rw [if_pos (by decide +kernel)]; kernel_rfl) | (rw [if_neg (by decide +kernel)]; exact ⟨rfl, rfl⟩))
    (fun os started H enc _ => forms_lifted os started H enc)
theorem roleForms_card : Rows.RoleFormsCardSaid :=
  Claim7.holds_tied_plain_at .later [] [.data, .data, .data, .data, .sentinel, .sentinel, .pinned] true (true, "0ce3dd3f10d0f5c8a6b54770681b387ecdc1e92a535efb9f9cf58ddd55e28cb3") true forms_holds (fun _ h => by cases h) (by kernel_rfl) (fun _ h => by cases h) roleForms_row_tie rfl ⟨rfl, rfl⟩ (by kernel_rfl) rfl
    (fun f fn hf hfn => by
      obtain rfl : f = 3 := Option.some.inj ((show Tryd.prog.funcNamed "entail/entaillaw13.RoleForms" = some 3 by kernel_rfl).symm.trans hf) |>.symm
      obtain rfl : fn = Tryd.f3 := (Option.some.inj (Tryd.func3.symm.trans hfn)).symm
      exact ⟨by kernel_rfl, fun j t ht => by
        rw [Tryd.params3] at ht
        have hm : t ∈ [3] := by simpa using Array.mem_of_getElem? ht
        have hall : ([3].all fun u => !Tryd.prog.wantsStandIn u) = true := by kernel_rfl
        exact (show Tryd.prog.wantsStandIn t = false by simpa using List.all_eq_true.1 hall t hm)⟩)
    (by kernel_rfl)
#print axioms roleForms_card
end Go.Proofs.YtpcioegnchiheaaDoor
end
