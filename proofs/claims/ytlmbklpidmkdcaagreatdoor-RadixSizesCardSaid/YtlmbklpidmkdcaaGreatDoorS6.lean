/- RadixSizes answers true at every input and leaves what it was given as it was. No condition on the input; the package's variable divide.ways is left open (any value); the world is calm and time may pass (the row's cells 'calm', 'outside'); the package's variable 'none', and the two tables of unicode/utf8 that the row lists, are as the program's text lays them (the card ties that). -/
import Derived.Test.YtlmbklpidmkdcaaGreatDoorF0
import Derived.Test.YtlmbklpidmkdcaaGreatDoorS5
import Derived.Test.YtlmbklpidmkdcaaGreatDoorTie
import Derived.Test.YtlmbklpidmkdcaaGreatDoorCards
import Derived.SevenTiedAt
import Derived.Lay
import Derived.Clock
namespace Go.Proofs.YtlmbklpidmkdcaaGreatDoor
open Go.ChangeShapes Go.WideShapes Go.ChangeAt Go.WideMaps Go.WideElems Go.RowKit Go.ChangeMaps

set_option maxRecDepth 100000
/-- The listed variable 'none' reads as laid. -/
theorem none_of3 {W : World} (h : laidMetH Tryz.prog Rows.radixSizesRow.laid W) : NoneAt W := by
  rw [MakeChecks.laidMetH_plain _ _ _ (by kernel_rfl)] at h
  obtain ⟨ps, ⟨ga, ta, csa, fa, pa, qa, _, _, _, _, ⟨g0, t0, cs0, f0, p0, q0, hg0, ht0, hv0, hd0, _, _⟩, _⟩, _, _⟩ := h
  obtain rfl := Option.some.inj (gNone.symm.trans hg0)
  obtain rfl := Option.some.inj (tNone.symm.trans ht0)
  obtain ⟨y0, y1, n, hx, hl, h0, h1⟩ := trod_struct2 Tryz.underlying123 hd0
  obtain ⟨l⟩ := cs0
  have hc : Tryz.prog.cellsOf 123 = 2 := by kernel_rfl
  have hci : Tryz.prog.cellsOf 3 = 1 := by kernel_rfl
  have hcs : Tryz.prog.cellsOf 9 = 1 := by kernel_rfl
  rw [hc] at hl
  match l, hl with
  | [c0, c1], _ =>
    simp only [hci, hcs] at h0 h1
    obtain ⟨a, e0, r0, _⟩ := DataW.trod_int Tryz.underlying3 h0
    obtain ⟨b, e1, r1, _⟩ := DataW.trod_string Tryz.underlying9 h1
    simp at e0 e1
    subst e0; subst e1
    rw [r0, r1] at hx
    simp [Rows.laid_reckoner_radix_none] at hx
    obtain ⟨⟨ha, hb⟩, _⟩ := hx
    have hbb : b = ⟨#[]⟩ := by
      apply ByteArray.ext
      exact hb
    subst ha; subst hbb
    exact ⟨by simpa using World.var?_cell gNone hv0 0, by simpa using World.var?_cell gNone hv0 1⟩

theorem sizes_lifted (os : Os) (started : os.Started) (H : Type) (enc : TypeId × Value → H) (F : Stop.Interp) :
    ReturnsInHanded { calm := true } Tryz.checked os 3 .any (fun w args => (Rows.radixSizesSpec.pre enc Tryz.prog Tryz.f3 [] false w args ∧ laidMetH Tryz.prog Rows.radixSizesRow.laid w) ∧ sizedMet enc Tryz.prog Tryz.f3 (OpenSpec.ofChange Rows.radixSizesSpec) false w args)
      ((OpenSpec.ofChange Rows.radixSizesSpec).postWith enc Tryz.prog Tryz.f3 F (outsideKept [.timePasses]) false true false) := by
  refine Clock.returns_of_change (C := Tryz.checked) (X := fun w _ => laidMetH Tryz.prog Rows.radixSizesRow.laid w) (fun _ _ _ hh h => h.of_heap hh) prog_own started (by kernel_rfl) Tryz.func3
    (Clock.witness_at (enc := enc) (C := Tryz.checked) (X := fun w _ => laidMetH Tryz.prog Rows.radixSizesRow.laid w) (World.laidAll Tryz.prog os Rows.radixSizesRow.laid) #[.int .i64 0, .string ⟨#[]⟩] 8 (World.laidAll_os _ _ _) (World.shaped_of_ZipB (by kernel_rfl) (by kernel_rfl)) (by kernel_rfl) (by kernel_rfl) (by kernel_rfl)
      (by rw [MakeChecks.laidMetH_plain _ _ _ (by kernel_rfl)]; exact laidMet_laidAll _ (by kernel_rfl) (by kernel_rfl))) ?_
  intro W base args ds gs before hval0 hW _ _ hL _
  have hval : ∀ (j : Nat) t v, Tryz.f3.params[j]? = some t → args[j]? = some v → Value.okWide Tryz.prog W .any base t v := hval0
  have hW' := hW
  obtain ⟨p, q, hA0, hV, rfl, hfz, hnd⟩ := hW
  have hA : DataW.TrodAll enc Tryz.prog W 0 (fun _ => true) true Tryz.f3.params.toList args.toList ds p := hA0
  rw [Tryz.params3] at hA hval
  obtain ⟨v0, v1, d0, d1, p0, p1, rfl, rfl, rfl, h0, h1⟩ := trodAll_two hA
  obtain ⟨b, rfl, rfl, rfl, hwb⟩ := open_int Tryz.underlying3 (hval 0 _ v0 rfl rfl) h0
  clear hA0 hval0
  refine (sizes_calls b v1 W (none_of3 hL) (i64_wf hwb)).mono fun e W' ⟨he, hw⟩ => ?_
  have hs := Clock.Since.of_below hw
  exact ⟨_, he, law_post prog_laid (by kernel_rfl) (by kernel_rfl) rfl hW' rfl hs.2, hs.1⟩

theorem sizes_row : Rows.RadixSizesSaid :=
  Clock.holds_of_wide_time 3 Tryz.f3 rfl rfl rfl rfl rfl rfl rfl ⟨rfl, rfl, rfl, rfl, rfl⟩ rfl rfl rfl rfl rfl (by kernel_rfl) Tryz.func3 (by kernel_rfl)
    (of_decide_eq_true (by kernel_rfl)) (by unfold Func.isWrapper; first | (rw [if_pos (by decide +kernel)]; kernel_rfl) | (rw [if_neg (by decide +kernel)]; exact ⟨rfl, rfl⟩))
    (fun os started H enc _ F => sizes_lifted os started H enc F)

theorem sizes_card : Rows.RadixSizesCardSaid :=
  Claim7.holds_tied_plain_at .later [] [.data, .data, .pinned] true Rows.radixSizesCard.stood.harness false
    sizes_row (fun _ h => by cases h) (by kernel_rfl) (fun _ h => by cases h) radixSizes_row_tie rfl ⟨rfl, rfl⟩ (by kernel_rfl) rfl
    (fun f fn hf hfn => by
      obtain rfl : f = 3 := Option.some.inj ((show Tryz.prog.funcNamed "reckoner/reckonerlaw10.RadixSizes" = some 3 by kernel_rfl).symm.trans hf) |>.symm
      obtain rfl : fn = Tryz.f3 := (Option.some.inj (Tryz.func3.symm.trans hfn)).symm
      exact ⟨by kernel_rfl, fun j t ht => by
        have hall : (Tryz.f3.params.toList.all fun u => !Tryz.prog.wantsStandIn u) = true := by kernel_rfl
        have := List.all_eq_true.1 hall t (Array.mem_toList_iff.2 (Array.mem_of_getElem? ht))
        exact (show Tryz.prog.wantsStandIn t = false by simpa using this)⟩)
    (by kernel_rfl)
end Go.Proofs.YtlmbklpidmkdcaaGreatDoor
#print axioms Go.Proofs.YtlmbklpidmkdcaaGreatDoor.sizes_card
