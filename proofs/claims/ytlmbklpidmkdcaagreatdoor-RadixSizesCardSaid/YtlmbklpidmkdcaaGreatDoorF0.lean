/- What the rows of this seat's laws share: arguments that were there before the call read behind it as they did; the listed variable; slices and arrays that came in. -/
import Derived.Test.YtlmbklpidmkdcaaGreatDoorRows
import Derived.Test.YtlmbklpidmkdcaaGreatDoorE7
import Derived.ChangeSame
import Derived.ChangeSlices
import Derived.JoinedOf
import Derived.ProofKit
import Derived.LaidMore
import Derived.OpenShut
import Derived.Carry
import Derived.Laws.IdiomArrays
import Derived.Stop.Joined
namespace Go.Proofs.YtlmbklpidmkdcaaGreatDoor
open Go.ChangeShapes Go.WideShapes Go.ChangeAt Go.WideMaps Go.WideElems Go.RowKit Go.ChangeMaps

set_option maxRecDepth 100000
section
variable {H : Type} {enc : TypeId × Value → H}
theorem trodAll_old (hl : laidOutB Tryz.prog = true) {W W' : World} (hb : Below W.heap.size W W') (sp : Nat → Bool) : ∀ {ts : List TypeId} {vs : List Value} {ds : List (DataW H)} {ps : List MemPlace},
    (∀ t ∈ ts, Tryz.prog.readableRec t = true ∧ t < Tryz.prog.types.size) → DataW.TrodAll enc Tryz.prog W 0 (fun _ => true) true ts vs ds ps → (∀ p ∈ ps, p.block < W.heap.size) → (∀ p ∈ ps, sp p.block = true) →
    DataW.TrodAll enc Tryz.prog W' 0 sp true ts vs ds ps
  | [], [], [], ps, _, h, _, _ => h
  | t :: ts, v :: vs, d :: ds, ps, hr, h, hlt, hs => by
    obtain ⟨p, q, h1, h2, rfl⟩ := h
    have ht := hr t (List.mem_cons_self)
    exact ⟨p, q, WideElems.Trod_stays hl ht.1 ht.2 h1 (fun x hx => hb.same (hlt x (List.mem_append_left _ hx))) (fun x hx => hs x (List.mem_append_left _ hx)),
      trodAll_old hl hb sp (fun t' ht' => hr t' (List.mem_cons_of_mem _ ht')) h2 (fun x hx => hlt x (List.mem_append_right _ hx)) (fun x hx => hs x (List.mem_append_right _ hx)), rfl⟩
  | [], _ :: _, _, _, _, h, _, _ => h.elim
  | [], [], _ :: _, _, _, h, _, _ => h.elim
  | _ :: _, [], _, _, _, h, _, _ => h.elim
  | _ :: _, _ :: _, [], _, _, h, _, _ => h.elim

/-- A law that returns true and has turned nothing. -/
theorem law_post (hl : laidOutB Tryz.prog = true) {f : Func} {s : ChangeSpec} {apart : Bool} {W W' : World} {args : Array Value} {ds gs : List (DataW H)} {before : List MemPlace} (hres : f.resultTypes = #[4])
    (hrB : (f.params.toList.all fun t => Tryz.prog.readableRec t && decide (t < Tryz.prog.types.size)) = true) (hv : s.vars = []) (hW : DataW.Whole enc Tryz.prog f.params.toList s.vars apart W args.toList ds gs before)
    (hfn : s.fn H (ds ++ []) = { results := [.lit (.bool true)], args := ds }) (hb : Below W.heap.size W W') : s.post enc Tryz.prog f apart true false false W args (.bool true) W' := by
  have hr : ∀ t ∈ f.params.toList, Tryz.prog.readableRec t = true ∧ t < Tryz.prog.types.size := fun t ht => by
    have := List.all_eq_true.1 hrB t ht
    rw [Bool.and_eq_true] at this
    exact ⟨this.1, of_decide_eq_true this.2⟩
  have hW' := hW
  have hlt : ∀ p ∈ before, p.block < W.heap.size := fun p hp => hW.lt p hp
  obtain ⟨p, q, hA, hV, rfl, hz, hn⟩ := hW
  rw [hv] at hV
  have hgs : gs = [] ∧ q = [] := by
    cases gs with
    | nil => exact ⟨rfl, hV⟩
    | cons g r => exact absurd hV (by intro h; cases h)
  obtain ⟨rfl, rfl⟩ := hgs
  refine ⟨ds, [], p ++ [], [], p, [], hW', ?_, ?_, ?_, ?_, fun h => by cases h⟩
  · rw [hfn, hres]
    exact trodAll_mk1 (shut_bool Tryz.underlying4 true)
  · rw [hfn]
    exact trodAll_old hl hb _ hr hA (fun x hx => hlt x (List.mem_append_left _ hx)) (fun x hx => by simpa using hlt x (List.mem_append_left _ hx))
  · rw [hfn, hv]
    exact rfl
  · exact World.keptBut_mono (fun x hx => ⟨hx, by simp at hx; exact Or.inr (Or.inl hx)⟩) (hb.frame (· ∈ p ++ []))

/-- A slice of words that came in. -/
theorem si_of {T e : TypeId} {k : IntKind} {W : World} {base b0 : Nat} {r : Reach} {v : Value} {d : DataW H} {ps : List MemPlace} (ht : Tryz.prog.underlying T = some (.slice e)) (he : Tryz.prog.underlying e = some (.int k)) (hc : Tryz.prog.cellsOf e = 1)
    (hval : Value.okWide Tryz.prog W r b0 T v) (h : DataW.Trod enc Tryz.prog W base (fun _ => true) true T v d ps) : ∃ xs : List Int, SI W k v xs ∧ xs.length ≤ 9223372036854775807 ∧ ∀ n ∈ xs, (Lit.int k n).wf = true := by
  obtain ⟨A, len, cap, rfl⟩ := okWide_slice ht hval
  obtain ⟨fuel, hf⟩ := h
  rcases open_ints ht he hc hf with ⟨h1, _⟩ | ⟨a, len', cap', zs, h1, hb, hlc, hm, hzl, _, hcell, hwf⟩
  · simp [Value.cells] at h1
    obtain ⟨rfl, rfl, rfl⟩ := h1
    exact ⟨[], SI.nil _ _, by simp, fun n hn => absurd hn (by simp)⟩
  · simp [Value.cells] at h1
    obtain ⟨rfl, rfl, rfl⟩ := h1
    simp at hzl
    have hl : (zs.take len).length = len := by simp; omega
    refine ⟨zs.take len, ⟨some a, cap, by rw [hl], ⟨by omega, fun h => by cases h⟩, fun j hj => ⟨a, rfl, ?_⟩⟩, by rw [hl]; simp only [maxLen] at hm; omega, fun n hn => hwf n (List.mem_of_mem_take hn)⟩
    rw [hcell j (by omega)]
    simp only [List.getD_eq_getElem?_getD]
    rw [List.getElem?_take_of_lt (by omega)]
theorem u64_wf {xs : List Int} (h : ∀ n ∈ xs, (Lit.int .u64 n).wf = true) : U64 xs := by
  intro j hj
  have := h _ (List.getElem_mem hj)
  rw [List.getElem?_eq_getElem hj]
  simp [Lit.wf, IntKind.min, IntKind.max, IntKind.bits, IntKind.signed] at this
  simp
  omega
theorem i64_wf {n : Int} (h : (Lit.int .i64 n).wf = true) : -9223372036854775808 ≤ n ∧ n < 9223372036854775808 := by
  simp [Lit.wf, IntKind.min, IntKind.max, IntKind.bits, IntKind.signed] at h
  omega
/-- An array of three that came in. -/
theorem arr3_of {T e : TypeId} {k : IntKind} {W : World} {base b0 : Nat} {r : Reach} {v : Value} {d : DataW H} {ps : List MemPlace} (ht : Tryz.prog.underlying T = some (.array 3 e)) (he : Tryz.prog.underlying e = some (.int k)) (hc : Tryz.prog.cellsOf e = 1) (hcT : Tryz.prog.cellsOf T = 3)
    (hval : Value.okWide Tryz.prog W r b0 T v) (h : DataW.Trod enc Tryz.prog W base (fun _ => true) true T v d ps) : ∃ a b c : Int, v = .agg #[.int k a, .int k b, .int k c] ∧ (Lit.int k a).wf = true ∧ (Lit.int k b).wf = true ∧ (Lit.int k c).wf = true := by
  unfold Value.okWide at hval
  rw [ht] at hval
  obtain ⟨cs, rfl, hsz, _⟩ := hval
  rw [hcT] at hsz
  obtain ⟨fuel, hf⟩ := h
  obtain ⟨l⟩ := cs
  match l, hsz with
  | [c0, c1, c2], _ =>
    obtain ⟨y0, y1, y2, n, _, h0, h1, h2⟩ := trod_array3 ht hc (show DataW.trod enc Tryz.prog W base (fun _ => true) true fuel T [c0, c1, c2] = some (d, ps) from hf)
    obtain ⟨a, e1, _, wa⟩ := DataW.trod_int he h0
    obtain ⟨b, e2, _, wb⟩ := DataW.trod_int he h1
    obtain ⟨c, e3, _, wc⟩ := DataW.trod_int he h2
    simp at e1 e2 e3
    subst e1; subst e2; subst e3
    exact ⟨a, b, c, rfl, wa, wb, wc⟩
end

theorem prog_own : ownKnob Tryz.prog.godebug = none := by kernel_rfl
theorem prog_laid : laidOutB Tryz.prog = true := by kernel_rfl
theorem gNone : Tryz.prog.globalNamed "reckoner/radix.none" = some 0 := by kernel_rfl
theorem tNone : (Tryz.prog.globals[0]?).map (·.type) = some 123 := by kernel_rfl
theorem door_met (os : Os) (args : Array Value) : laidMetH Tryz.prog [("reckoner/radix.none", Rows.laid_reckoner_radix_none)] ((World.doorLaid Tryz.prog 400 os).forCall (fun _ _ => 0) ⟨#[], args, []⟩).memory :=
  laidMetH_of_parts3 (fuel := 8) (laidMet_of_run' 8 (by kernel_rfl) (by kernel_rfl)) (by kernel_rfl) (by kernel_rfl)
theorem none_of {W : World} (h : laidMetH Tryz.prog [("reckoner/radix.none", Rows.laid_reckoner_radix_none)] W) : NoneAt W := by
  rw [MakeChecks.laidMetH_plain _ _ _ (by kernel_rfl)] at h
  obtain ⟨ps, ⟨g0, t0, cs0, f0, p0, q0, hg0, ht0, hv0, hd0, _, _⟩, _, _⟩ := h
  obtain rfl := Option.some.inj (gNone.symm.trans hg0)
  obtain rfl := Option.some.inj (tNone.symm.trans ht0)
  obtain ⟨y0, y1, n, hx, hl, h0, h1⟩ := trod_struct2 Tryz.underlying123 hd0
  obtain ⟨l⟩ := cs0
  have hc : Tryz.prog.cellsOf 123 = 2 := by kernel_rfl
  have hci : Tryz.prog.cellsOf 3 = 1 := by kernel_rfl
  have hcs : Tryz.prog.cellsOf 9 = 1 := by kernel_rfl
  rw [hc] at hl
  match l, hl with
  | [c0, c1], _ =>
    simp only [hci, hcs] at h0 h1
    obtain ⟨a, e0, r0, _⟩ := DataW.trod_int Tryz.underlying3 h0
    obtain ⟨b, e1, r1, _⟩ := DataW.trod_string Tryz.underlying9 h1
    simp at e0 e1
    subst e0; subst e1
    rw [r0, r1] at hx
    simp [Rows.laid_reckoner_radix_none] at hx
    obtain ⟨⟨ha, hb⟩, _⟩ := hx
    have hbb : b = ⟨#[]⟩ := by
      apply ByteArray.ext
      exact hb
    subst ha; subst hbb
    exact ⟨by simpa using World.var?_cell gNone hv0 0, by simpa using World.var?_cell gNone hv0 1⟩
end Go.Proofs.YtlmbklpidmkdcaaGreatDoor
