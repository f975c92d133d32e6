/- What a literal is. Plain. -/
import Derived.Test.YtlmbklpidmkdcaaGreatDoorE4
import Derived.Maps.OwnSet
namespace Go.Proofs.YtlmbklpidmkdcaaGreatDoor
open Go.RowKit Go.Maps

/-- The base that a letter behind a 0 stands for; 0: none. -/
def bas (q : Nat) : Nat := if q = 98 ∨ q = 66 then 2 else if q = 111 ∨ q = 79 then 8 else if q = 120 ∨ q = 88 then 16 else 0
theorem bas_cases (q : Nat) : bas q = 0 ∨ bas q = 2 ∨ bas q = 8 ∨ bas q = 16 := by
  unfold bas
  repeat' split
  all_goals simp
def basM : DataW Unit := ((((((DataW.map []).put (Lit.int IntKind.u8 98) (DataW.lit (Lit.int IntKind.i64 2))).put
                                (Lit.int IntKind.u8 111) (DataW.lit (Lit.int IntKind.i64 8))).put
                            (Lit.int IntKind.u8 120) (DataW.lit (Lit.int IntKind.i64 16))).put
                        (Lit.int IntKind.u8 66) (DataW.lit (Lit.int IntKind.i64 2))).put
                    (Lit.int IntKind.u8 79) (DataW.lit (Lit.int IntKind.i64 8))).put
                (Lit.int IntKind.u8 88) (DataW.lit (Lit.int IntKind.i64 16))
theorem bas_has (q : Nat) (h : q < 256) : has basM (Lit.int IntKind.u8 (q : Int)) = decide (bas q ≠ 0) := by
  have : ∀ q : Fin 256, has basM (Lit.int IntKind.u8 (q.val : Int)) = decide (bas q.val ≠ 0) := by decide +kernel
  exact this ⟨q, h⟩
theorem bas_at (q : Nat) (hb : bas q ≠ 0) (c : Int) (h : basM.atKey (Lit.int IntKind.u8 (q : Int)) (.lit (.int .i64 0)) = .lit (.int .i64 c)) : c = (bas q : Int) := by
  have h6 : q = 98 ∨ q = 66 ∨ q = 111 ∨ q = 79 ∨ q = 120 ∨ q = 88 := by
    unfold bas at hb
    repeat' split at hb
    all_goals omega
  have g : ∀ x : Int, (DataW.lit (Lit.int IntKind.i64 x) : DataW Unit) = .lit (.int .i64 c) → c = x := by
    intro x hx
    injection hx with hx
    injection hx with _ hx
    exact hx.symm
  rcases h6 with rfl | rfl | rfl | rfl | rfl | rfl
  · exact g 2 h
  · exact g 2 h
  · exact g 8 h
  · exact g 8 h
  · exact g 16 h
  · exact g 16 h

/-- Digits of a base, with a _ before some. -/
def LOK (b : Nat) (L : List Int) : Prop :=
  (∀ i, i < L.length → (L[i]?.getD 0 = 95 → 0 < i → L[i - 1]?.getD 0 ≠ 95) ∧ (L[i]?.getD 0 ≠ 95 → dig10 (L[i]?.getD 0) < (b : Int))) ∧ (0 < L.length → L[L.length - 1]?.getD 0 ≠ 95) ∧ L.filter (· ≠ 95) ≠ []
instance (b : Nat) (L : List Int) : Decidable (LOK b L) := inferInstanceAs (Decidable (_ ∧ _ ∧ _))
/-- What the program reads: the base and the digits; 0: none. -/
def litS (b : Nat) (L : List Int) : Int × List Int := if LOK b L then ((b : Int), L.filter (· ≠ 95)) else (0, [])
def litP (L : List Int) : Int × List Int :=
  if 1 < L.length ∧ L[0]?.getD 0 = 48 then (if bas (L[1]?.getD 0).toNat = 0 then (0, []) else litS (bas (L[1]?.getD 0).toNat) (L.drop 2))
  else if L = [] ∨ L[0]?.getD 0 = 95 then (0, []) else litS 10 L

theorem enc_ascii (c : Int) (h0 : 0 ≤ c) (h1 : c < 128) : Utf8.encode c = strOf [c] := by
  have hv : Utf8.valid c = true := by
    unfold Utf8.valid
    simp; omega
  unfold Utf8.encode
  simp only [hv, if_true]
  rw [if_pos (by omega)]
  rfl
theorem strOf_app (l m : List Int) : strOf l ++ strOf m = strOf (l ++ m) := by
  apply ByteArray.ext
  unfold strOf strOfNums
  simp
theorem strOf_push (l : List Int) (c : Int) (h0 : 0 ≤ c) (h1 : c < 128) : strOf l ++ Utf8.encode c = strOf (l ++ [c]) := by
  rw [enc_ascii c h0 h1, strOf_app]
theorem strOf_nil_iff (l : List Int) : strOf l = ⟨#[]⟩ ↔ l = [] := by
  constructor
  · intro h
    have h1 := strOf_size l
    rw [h] at h1
    exact List.eq_nil_of_length_eq_zero h1.symm
  · rintro rfl; rfl

/-! ### the round -/
/-- The first k are as they should be. -/
def LPre (b : Nat) (L : List Int) (k : Nat) : Prop := ∀ i, i < k → (L[i]?.getD 0 = 95 → 0 < i → L[i - 1]?.getD 0 ≠ 95) ∧ (L[i]?.getD 0 ≠ 95 → dig10 (L[i]?.getD 0) < (b : Int))
/-- The last one was a _. -/
def Lu (L : List Int) (k : Nat) : Prop := 0 < k ∧ L[k - 1]?.getD 0 = 95
def Lf (L : List Int) (k : Nat) : List Int := (L.take k).filter (· ≠ 95)
theorem Lf_zero (L : List Int) : Lf L 0 = [] := by simp [Lf]
theorem Lf_skip {L : List Int} {k : Nat} (hk : k < L.length) (h : L[k]?.getD 0 = 95) : Lf L (k + 1) = Lf L k := by
  unfold Lf
  rw [take_succ hk, List.filter_append, h]
  simp
theorem Lf_push {L : List Int} {k : Nat} (hk : k < L.length) (h : L[k]?.getD 0 ≠ 95) : Lf L (k + 1) = Lf L k ++ [L[k]?.getD 0] := by
  unfold Lf
  rw [take_succ hk, List.filter_append]
  simp [h]
theorem Lf_len (L : List Int) (k : Nat) : (Lf L k).length ≤ L.length := Nat.le_trans (List.length_filter_le _ _) (by simp; omega)
theorem LPre.skip {b : Nat} {L : List Int} {k : Nat} (h : LPre b L k) (hc : L[k]?.getD 0 = 95) (hu : ¬ Lu L k) : LPre b L (k + 1) := by
  intro i hi
  by_cases e : i = k
  · subst e
    exact ⟨fun _ h0 h1 => hu ⟨h0, h1⟩, fun h1 => absurd hc h1⟩
  · exact h i (by omega)
theorem LPre.push {b : Nat} {L : List Int} {k : Nat} (h : LPre b L k) (hc : L[k]?.getD 0 ≠ 95) (hd : dig10 (L[k]?.getD 0) < (b : Int)) : LPre b L (k + 1) := by
  intro i hi
  by_cases e : i = k
  · subst e
    exact ⟨fun h1 => absurd h1 hc, fun _ => hd⟩
  · exact h i (by omega)
theorem Lu_succ (L : List Int) (k : Nat) : Lu L (k + 1) ↔ L[k]?.getD 0 = 95 := by
  unfold Lu
  simp
theorem litS_bad {b : Nat} {L : List Int} (h : ¬ LOK b L) : litS b L = (0, []) := by unfold litS; rw [if_neg h]
theorem LOK_bad1 {b : Nat} {L : List Int} {k : Nat} (hk : k < L.length) (hc : L[k]?.getD 0 = 95) (hu : Lu L k) : litS b L = (0, []) :=
  litS_bad fun h => (h.1 k hk).1 hc hu.1 hu.2
theorem LOK_bad2 {b : Nat} {L : List Int} {k : Nat} (hk : k < L.length) (hc : L[k]?.getD 0 ≠ 95) (hd : ¬ dig10 (L[k]?.getD 0) < (b : Int)) : litS b L = (0, []) :=
  litS_bad fun h => hd ((h.1 k hk).2 hc)
theorem LOK_bad3 {b : Nat} {L : List Int} (hu : Lu L L.length) : litS b L = (0, []) :=
  litS_bad fun h => h.2.1 hu.1 hu.2
theorem LOK_bad4 {b : Nat} {L : List Int} (hf : Lf L L.length = []) : litS b L = (0, []) :=
  litS_bad fun h => h.2.2 (by unfold Lf at hf; rw [List.take_length] at hf; exact hf)
theorem LOK_good {b : Nat} {L : List Int} (hp : LPre b L L.length) (hu : ¬ Lu L L.length) (hf : Lf L L.length ≠ []) : litS b L = ((b : Int), Lf L L.length) := by
  unfold Lf at hf ⊢
  rw [List.take_length] at hf ⊢
  unfold litS
  rw [if_pos ⟨hp, fun h0 h1 => hu ⟨h0, h1⟩, hf⟩]
end Go.Proofs.YtlmbklpidmkdcaaGreatDoor
