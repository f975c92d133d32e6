/- RadixLiterals answers true at every input and leaves what it was given as it was. No condition on the input; the package's variable 'none' is as the program's text lays it (the card ties that). -/
import Derived.Test.YtmbceiaeffnigaaDoorF0
import Derived.Test.YtmbceiaeffnigaaDoorG4
import Derived.Test.YtmbceiaeffnigaaDoorTie
import Derived.Test.YtmbceiaeffnigaaDoorCards
import Derived.SevenTiedAt
namespace Go.Proofs.YtmbceiaeffnigaaDoor
open Go.ChangeShapes Go.WideShapes Go.ChangeAt Go.WideMaps Go.WideElems Go.RowKit Go.ChangeMaps

set_option maxRecDepth 100000
theorem literals_lifted (os : Os) (started : os.Started) (H : Type) (enc : TypeId × Value → H) :
    ReturnsInHanded {} Tryd.checked os 5 .any (fun w args => (Rows.radixLiteralsSpec.pre enc Tryd.prog Tryd.f5 [] false w args ∧ laidMetH Tryd.prog [("reckoner/radix.none", Rows.laid_reckoner_radix_none)] w) ∧ sizedMet enc Tryd.prog Tryd.f5 (OpenSpec.ofChange Rows.radixLiteralsSpec) false w args)
      (Rows.radixLiteralsSpec.post enc Tryd.prog Tryd.f5 false true false false) := by
  refine returnsInHanded_of_change_and (C := Tryd.checked) (X := fun w _ => laidMetH Tryd.prog [("reckoner/radix.none", Rows.laid_reckoner_radix_none)] w) (fun _ _ _ hh h => h.of_heap hh) prog_own started (by kernel_rfl) Tryd.func5
    (ChangeSpec.witness_shaped (enc := enc) (C := Tryd.checked) (os := os) (X := fun w _ => laidMetH Tryd.prog [("reckoner/radix.none", Rows.laid_reckoner_radix_none)] w) false (World.doorLaid Tryd.prog 400 os) #[.string ⟨#[]⟩] 8 rfl (World.shaped_of_RefB (by kernel_rfl) (by kernel_rfl)) (by kernel_rfl) (by kernel_rfl) (by kernel_rfl) (door_met os _)) ?_
  intro W base args ds gs before hval0 hW _ _ hL _
  have hval : ∀ (j : Nat) t v, Tryd.f5.params[j]? = some t → args[j]? = some v → Value.okWide Tryd.prog W .any base t v := hval0
  have hW' := hW
  obtain ⟨p, q, hA0, hV, rfl, hfz, hnd⟩ := hW
  have hA : DataW.TrodAll enc Tryd.prog W 0 (fun _ => true) true Tryd.f5.params.toList args.toList ds p := hA0
  rw [Tryd.params5] at hA hval
  obtain ⟨v0, d0, rfl, rfl, h0⟩ := trodAll_one hA
  obtain ⟨s, rfl, rfl, hp, hsz⟩ := open_string Tryd.underlying9 (hval 0 _ v0 rfl rfl) h0
  clear hA0 hval0
  refine (literals_calls s W (by simp only [maxLen] at hsz; omega) (none_of hL)).mono fun e W' ⟨he, hw⟩ => ?_
  exact ⟨_, he, law_post prog_laid (by kernel_rfl) (by kernel_rfl) rfl hW' rfl hw⟩

theorem literals_row : Rows.RadixLiteralsSaid :=
  OpenClaim.holds_of_wide 5 Tryd.f5 rfl rfl rfl rfl rfl rfl rfl ⟨rfl, rfl, rfl, rfl, rfl⟩ rfl rfl rfl rfl rfl (by kernel_rfl) Tryd.func5 (by kernel_rfl)
    (of_decide_eq_true (by kernel_rfl)) (by unfold Func.isWrapper; first | (rw [if_pos (by decide +kernel)]; kernel_rfl) | (rw [if_neg (by decide +kernel)]; exact ⟨rfl, rfl⟩))
    (fun os started H enc _ => literals_lifted os started H enc)

theorem literals_card : Rows.RadixLiteralsCardSaid :=
  Claim7.holds_tied_plain_at .later [] [.data] true Rows.radixLiteralsCard.stood.harness false
    literals_row (fun _ h => by cases h) (by kernel_rfl) (fun _ h => by cases h) radixLiterals_row_tie rfl ⟨rfl, rfl⟩ (by kernel_rfl) rfl
    (fun f fn hf hfn => by
      obtain rfl : f = 5 := Option.some.inj ((show Tryd.prog.funcNamed "reckoner/reckonerlaw10.RadixLiterals" = some 5 by kernel_rfl).symm.trans hf) |>.symm
      obtain rfl : fn = Tryd.f5 := (Option.some.inj (Tryd.func5.symm.trans hfn)).symm
      exact ⟨by kernel_rfl, fun j t ht => by
        have hall : (Tryd.f5.params.toList.all fun u => !Tryd.prog.wantsStandIn u) = true := by kernel_rfl
        have := List.all_eq_true.1 hall t (Array.mem_toList_iff.2 (Array.mem_of_getElem? ht))
        exact (show Tryd.prog.wantsStandIn t = false by simpa using this)⟩)
    (by kernel_rfl)
end Go.Proofs.YtmbceiaeffnigaaDoor
#print axioms Go.Proofs.YtmbceiaeffnigaaDoor.literals_card
