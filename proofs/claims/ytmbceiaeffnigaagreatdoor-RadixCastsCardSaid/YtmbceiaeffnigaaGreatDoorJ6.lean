/- RadixCasts answers true at every input and leaves what it was given as it was. No condition on the input; the package's variable 'none' is as the program's text lays it (the card ties that). -/
import Derived.Test.YtmbceiaeffnigaaGreatDoorF0
import Derived.Test.YtmbceiaeffnigaaGreatDoorJ5
import Derived.Test.YtmbceiaeffnigaaGreatDoorTie
import Derived.Test.YtmbceiaeffnigaaGreatDoorCards
import Derived.SevenTiedAt
namespace Go.Proofs.YtmbceiaeffnigaaGreatDoor
open Go.ChangeShapes Go.WideShapes Go.ChangeAt Go.WideMaps Go.WideElems Go.RowKit Go.ChangeMaps

set_option maxRecDepth 100000
theorem casts_lifted (os : Os) (started : os.Started) (H : Type) (enc : TypeId × Value → H) :
    ReturnsInHanded {} Tryz.checked os 4 .any (fun w args => (Rows.radixCastsSpec.pre enc Tryz.prog Tryz.f4 [] false w args ∧ laidMetH Tryz.prog [("reckoner/radix.none", Rows.laid_reckoner_radix_none)] w) ∧ sizedMet enc Tryz.prog Tryz.f4 (OpenSpec.ofChange Rows.radixCastsSpec) false w args)
      (Rows.radixCastsSpec.post enc Tryz.prog Tryz.f4 false true false false) := by
  refine returnsInHanded_of_change_and (C := Tryz.checked) (X := fun w _ => laidMetH Tryz.prog [("reckoner/radix.none", Rows.laid_reckoner_radix_none)] w) (fun _ _ _ hh h => h.of_heap hh) prog_own started (by kernel_rfl) Tryz.func4
    (ChangeSpec.witness_shaped (enc := enc) (C := Tryz.checked) (os := os) (X := fun w _ => laidMetH Tryz.prog [("reckoner/radix.none", Rows.laid_reckoner_radix_none)] w) false (World.doorLaid Tryz.prog 400 os) #[.slice none 0 0, .int .i64 0] 8 rfl (World.shaped_of_RefB (by kernel_rfl) (by kernel_rfl)) (by kernel_rfl) (by kernel_rfl) (by kernel_rfl) (door_met os _)) ?_
  intro W base args ds gs before hval0 hW _ _ hL _
  have hval : ∀ (j : Nat) t v, Tryz.f4.params[j]? = some t → args[j]? = some v → Value.okWide Tryz.prog W .any base t v := hval0
  have hW' := hW
  obtain ⟨p, q, hA0, hV, rfl, hfz, hnd⟩ := hW
  have hA : DataW.TrodAll enc Tryz.prog W 0 (fun _ => true) true Tryz.f4.params.toList args.toList ds p := hA0
  rw [Tryz.params4] at hA hval
  obtain ⟨v0, v1, d0, d1, p0, p1, rfl, rfl, rfl, h0, h1⟩ := trodAll_two hA
  obtain ⟨xs, hs, hxl, hwf⟩ := si_of Tryz.underlying23 Tryz.underlying46 (by kernel_rfl) (hval 0 _ v0 rfl rfl) h0
  obtain ⟨b, rfl, rfl, rfl, hwb⟩ := open_int Tryz.underlying3 (hval 1 _ v1 rfl rfl) h1
  clear hA0 hval0
  refine (casts_calls v0 xs b W hs (u64_wf hwf) hxl (none_of hL)).mono fun e W' ⟨he, hw⟩ => ?_
  exact ⟨_, he, law_post prog_laid (by kernel_rfl) (by kernel_rfl) rfl hW' rfl hw⟩

theorem casts_row : Rows.RadixCastsSaid :=
  OpenClaim.holds_of_wide 4 Tryz.f4 rfl rfl rfl rfl rfl rfl rfl ⟨rfl, rfl, rfl, rfl, rfl⟩ rfl rfl rfl rfl rfl (by kernel_rfl) Tryz.func4 (by kernel_rfl)
    (of_decide_eq_true (by kernel_rfl)) (by unfold Func.isWrapper; first | (rw [if_pos (by decide +kernel)]; kernel_rfl) | (rw [if_neg (by decide +kernel)]; exact ⟨rfl, rfl⟩))
    (fun os started H enc _ => casts_lifted os started H enc)

theorem casts_card : Rows.RadixCastsCardSaid :=
  Claim7.holds_tied_plain_at .later [] [.data] true Rows.radixCastsCard.stood.harness false
    casts_row (fun _ h => by cases h) (by kernel_rfl) (fun _ h => by cases h) radixCasts_row_tie rfl ⟨rfl, rfl⟩ (by kernel_rfl) rfl
    (fun f fn hf hfn => by
      obtain rfl : f = 4 := Option.some.inj ((show Tryz.prog.funcNamed "reckoner/reckonerlaw10.RadixCasts" = some 4 by kernel_rfl).symm.trans hf) |>.symm
      obtain rfl : fn = Tryz.f4 := (Option.some.inj (Tryz.func4.symm.trans hfn)).symm
      exact ⟨by kernel_rfl, fun j t ht => by
        have hall : (Tryz.f4.params.toList.all fun u => !Tryz.prog.wantsStandIn u) = true := by kernel_rfl
        have := List.all_eq_true.1 hall t (Array.mem_toList_iff.2 (Array.mem_of_getElem? ht))
        exact (show Tryz.prog.wantsStandIn t = false by simpa using this)⟩)
    (by kernel_rfl)
end Go.Proofs.YtmbceiaeffnigaaGreatDoor
#print axioms Go.Proofs.YtmbceiaeffnigaaGreatDoor.casts_card
