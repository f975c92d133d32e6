/- RadixDigits answers true at every input and leaves what it was given as it was. No condition on the input; the package's variable 'none' is as the program's text lays it (the card ties that). -/
import Derived.Test.YtmbceiaeffnigaaGreatDoorF0
import Derived.Test.YtmbceiaeffnigaaGreatDoorH4
import Derived.Test.YtmbceiaeffnigaaGreatDoorTie
import Derived.Test.YtmbceiaeffnigaaGreatDoorCards
import Derived.SevenTiedAt
namespace Go.Proofs.YtmbceiaeffnigaaGreatDoor
open Go.ChangeShapes Go.WideShapes Go.ChangeAt Go.WideMaps Go.WideElems Go.RowKit Go.ChangeMaps

set_option maxRecDepth 100000
theorem digits_lifted (os : Os) (started : os.Started) (H : Type) (enc : TypeId × Value → H) :
    ReturnsInHanded {} Tryz.checked os 3 .any (fun w args => (Rows.radixDigitsSpec.pre enc Tryz.prog Tryz.f3 [] false w args ∧ laidMetH Tryz.prog [("reckoner/radix.none", Rows.laid_reckoner_radix_none)] w) ∧ sizedMet enc Tryz.prog Tryz.f3 (OpenSpec.ofChange Rows.radixDigitsSpec) false w args)
      (Rows.radixDigitsSpec.post enc Tryz.prog Tryz.f3 false true false false) := by
  refine returnsInHanded_of_change_and (C := Tryz.checked) (X := fun w _ => laidMetH Tryz.prog [("reckoner/radix.none", Rows.laid_reckoner_radix_none)] w) (fun _ _ _ hh h => h.of_heap hh) prog_own started (by kernel_rfl) Tryz.func3
    (ChangeSpec.witness_shaped (enc := enc) (C := Tryz.checked) (os := os) (X := fun w _ => laidMetH Tryz.prog [("reckoner/radix.none", Rows.laid_reckoner_radix_none)] w) false (World.doorLaid Tryz.prog 400 os) #[.slice none 0 0, .slice none 0 0, .int .i64 0] 8 rfl (World.shaped_of_RefB (by kernel_rfl) (by kernel_rfl)) (by kernel_rfl) (by kernel_rfl) (by kernel_rfl) (door_met os _)) ?_
  intro W base args ds gs before hval0 hW _ _ hL _
  have hval : ∀ (j : Nat) t v, Tryz.f3.params[j]? = some t → args[j]? = some v → Value.okWide Tryz.prog W .any base t v := hval0
  have hW' := hW
  obtain ⟨p, q, hA0, hV, rfl, hfz, hnd⟩ := hW
  have hA : DataW.TrodAll enc Tryz.prog W 0 (fun _ => true) true Tryz.f3.params.toList args.toList ds p := hA0
  rw [Tryz.params3] at hA hval
  obtain ⟨v0, v1, v2, d0, d1, d2, p0, p1, p2, rfl, rfl, rfl, h0, h1, h2⟩ := trodAll_three hA
  obtain ⟨xs, hs, hxl, hwf⟩ := si_of Tryz.underlying23 Tryz.underlying46 (by kernel_rfl) (hval 0 _ v0 rfl rfl) h0
  obtain ⟨ys, ht, hyl, hwf2⟩ := si_of Tryz.underlying24 Tryz.underlying3 (by kernel_rfl) (hval 1 _ v1 rfl rfl) h1
  obtain ⟨b, rfl, rfl, rfl, hwb⟩ := open_int Tryz.underlying3 (hval 2 _ v2 rfl rfl) h2
  clear hA0 hval0
  refine (digits_calls v0 v1 xs ys b W hs (u64_wf hwf) hxl ht hyl (none_of hL) (i64_wf hwb)).mono fun e W' ⟨he, hw⟩ => ?_
  exact ⟨_, he, law_post prog_laid (by kernel_rfl) (by kernel_rfl) rfl hW' rfl hw⟩

theorem digits_row : Rows.RadixDigitsSaid :=
  OpenClaim.holds_of_wide 3 Tryz.f3 rfl rfl rfl rfl rfl rfl rfl ⟨rfl, rfl, rfl, rfl, rfl⟩ rfl rfl rfl rfl rfl (by kernel_rfl) Tryz.func3 (by kernel_rfl)
    (of_decide_eq_true (by kernel_rfl)) (by unfold Func.isWrapper; first | (rw [if_pos (by decide +kernel)]; kernel_rfl) | (rw [if_neg (by decide +kernel)]; exact ⟨rfl, rfl⟩))
    (fun os started H enc _ => digits_lifted os started H enc)

theorem digits_card : Rows.RadixDigitsCardSaid :=
  Claim7.holds_tied_plain_at .later [] [.data] true Rows.radixDigitsCard.stood.harness false
    digits_row (fun _ h => by cases h) (by kernel_rfl) (fun _ h => by cases h) radixDigits_row_tie rfl ⟨rfl, rfl⟩ (by kernel_rfl) rfl
    (fun f fn hf hfn => by
      obtain rfl : f = 3 := Option.some.inj ((show Tryz.prog.funcNamed "reckoner/reckonerlaw10.RadixDigits" = some 3 by kernel_rfl).symm.trans hf) |>.symm
      obtain rfl : fn = Tryz.f3 := (Option.some.inj (Tryz.func3.symm.trans hfn)).symm
      exact ⟨by kernel_rfl, fun j t ht => by
        have hall : (Tryz.f3.params.toList.all fun u => !Tryz.prog.wantsStandIn u) = true := by kernel_rfl
        have := List.all_eq_true.1 hall t (Array.mem_toList_iff.2 (Array.mem_of_getElem? ht))
        exact (show Tryz.prog.wantsStandIn t = false by simpa using this)⟩)
    (by kernel_rfl)
end Go.Proofs.YtmbceiaeffnigaaGreatDoor
#print axioms Go.Proofs.YtmbceiaeffnigaaGreatDoor.digits_card
