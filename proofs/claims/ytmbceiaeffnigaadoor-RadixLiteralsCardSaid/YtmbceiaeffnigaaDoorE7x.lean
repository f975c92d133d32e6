/- radix.IsLiteral. -/
import Derived.Test.YtmbceiaeffnigaaDoorE7
import Derived.Deep.RegionHeld3
namespace Go.Proofs.YtmbceiaeffnigaaDoor
open Go.RowKit

/-- It is a literal. -/
def isLit (s : ByteArray) : Bool := decide (litP (bytes s) ≠ (0, []))
theorem isLit_eq (s : ByteArray) : (!((litP (bytes s)).1 == 0 && decide (strOf (litP (bytes s)).2 = ⟨#[]⟩))) = isLit s := by
  unfold isLit
  obtain ⟨p, ds⟩ := litP (bytes s)
  dsimp only
  by_cases h1 : p = 0
  · subst h1
    by_cases h2 : ds = []
    · subst h2; rfl
    · have h3 : ¬ strOf ds = ⟨#[]⟩ := fun h => h2 ((strOf_nil_iff ds).1 h)
      simp [h2, h3]
  · simp [h1]
set_option maxHeartbeats 1000000 in
theorem isLiteralR_calls (s : ByteArray) (w : World) (hn : s.size ≤ 65536) (hN : NoneAt w) :
    Calls Tryd.prog 20 #[.string s] w (RetB w (.bool (isLit s))) := by
  have hcall := fun W (hW : NoneAt W) => readR_calls s W hn hW
  have hil := isLit_eq s
  generalize (litP (bytes s)).1 = p at hcall hil
  generalize strOf (litP (bytes s)).2 = d at hcall hil
  have HC := Lib.hid hcall
  have HN := Lib.hid hN
  have hce := fun w => parts_neq w p 0 d ⟨#[]⟩
  rw [hil] at hce
  generalize isLit s = il at hce
  have hcg := fun w op x y xs ys => parts_guard w op x y xs ys
  have hle : decide ((s.size : Int) ≤ 65536) = true := decide_eq_true (by omega)
  clear hcall hN hil
  obtain ⟨m0, m1⟩ := HN.out
  go_enter Tryd.func20, Tryd.ntmps20
  go_wp2
  go_region_held3 (fun w' => w'.cell? ⟨0, 0, none⟩ = some (.int .i64 0) ∧ w'.cell? ⟨0, 1, none⟩ = some (.string ⟨#[]⟩) ∧ Below w.heap.size w w') (first | exact ⟨m0, m1, below_drewN (Below.refl _ w) 1⟩ | exact ⟨kd.1, kd.2, ke⟩) (first
    | (go_at_call 33; have hs := ‹_ ∧ _ ∧ Below w.heap.size w _›; refine (HC.out _ ⟨hs.1, hs.2.1⟩).mono ?_; rintro e w2 ⟨rfl, a2⟩
       have ke : Below w.heap.size w w2 := hs.2.2.trans (a2.mono hs.2.2.size)
       have kd : NoneAt w2 := HN.out.below ke HN.out.pos))
  go_wp2
  go_ret
  exact ⟨rfl, ke⟩
end Go.Proofs.YtmbceiaeffnigaaDoor
