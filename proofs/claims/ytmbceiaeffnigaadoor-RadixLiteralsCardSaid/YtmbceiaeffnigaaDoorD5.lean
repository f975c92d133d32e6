/- The reference's Literal: what it computes. Plain. -/
import Derived.Test.YtmbceiaeffnigaaDoorD4
import Derived.Test.YtmbceiaeffnigaaDoorE7
namespace Go.Proofs.YtmbceiaeffnigaaDoor
open Go.RowKit

/-- The _ stand where they may: the first k. -/
def UPre (L : List Int) (k : Nat) : Prop := ∀ i, i < k → L[i]?.getD 0 = 95 → 0 < i ∧ i + 1 < L.length ∧ L[i - 1]?.getD 0 ≠ 95
def ROK (b : Nat) (L : List Int) : Prop := UPre L L.length ∧ (∀ x ∈ L.filter (· ≠ 95), dig10 x < (b : Int)) ∧ L.filter (· ≠ 95) ≠ []
open Classical in
noncomputable def refS (b : Nat) (L : List Int) : Int × List Int := if ROK b L then ((b : Int), L.filter (· ≠ 95)) else (0, [])
def strip (L : List Int) : List Int := if L[0]?.getD 0 = 95 then L.drop 1 else L
theorem refS_yes {b : Nat} {L : List Int} (h : ROK b L) : refS b L = ((b : Int), L.filter (· ≠ 95)) := by unfold refS; rw [if_pos h]
theorem refS_no {b : Nat} {L : List Int} (h : ¬ ROK b L) : refS b L = (0, []) := by unfold refS; rw [if_neg h]
theorem mem_at {L : List Int} {x : Int} (h : x ∈ L) : ∃ i, i < L.length ∧ L[i]?.getD 0 = x := by
  obtain ⟨i, hi, rfl⟩ := List.mem_iff_getElem.1 h
  exact ⟨i, hi, by rw [List.getElem?_eq_getElem hi]; rfl⟩
theorem at_mem {L : List Int} {i : Nat} (h : i < L.length) : L[i]?.getD 0 ∈ L := by
  rw [List.getElem?_eq_getElem h]
  exact List.getElem_mem h
theorem ROK_LOK {b : Nat} {L : List Int} (h0 : L[0]?.getD 0 ≠ 95) : ROK b L ↔ LOK b L := by
  constructor
  · rintro ⟨h1, h2, h3⟩
    refine ⟨fun i hi => ⟨fun he _ => (h1 i hi he).2.2, fun hne => h2 _ (List.mem_filter.2 ⟨at_mem hi, by simpa using hne⟩)⟩, fun hp he => ?_, h3⟩
    have := (h1 (L.length - 1) (by omega) he).2.1
    omega
  · rintro ⟨h1, h2, h3⟩
    refine ⟨fun i hi he => ?_, fun x hx => ?_, h3⟩
    · have hi0 : 0 < i := by
        rcases Nat.eq_zero_or_pos i with h | h
        · subst h; exact absurd he h0
        · exact h
      refine ⟨hi0, ?_, (h1 i hi).1 he hi0⟩
      by_cases hl : i + 1 < L.length
      · exact hl
      · have : i = L.length - 1 := by omega
        subst this
        exact absurd he (h2 (by omega))
    · obtain ⟨hm, hne⟩ := List.mem_filter.1 hx
      obtain ⟨i, hi, rfl⟩ := mem_at hm
      exact (h1 i hi).2 (by simpa using hne)
theorem ROK_under {b : Nat} {L : List Int} : ROK b L ↔ LOK b (95 :: L) := by
  have hf : (95 :: L).filter (· ≠ 95) = L.filter (· ≠ 95) := by simp
  constructor
  · rintro ⟨h1, h2, h3⟩
    refine ⟨fun i hi => ?_, fun hp => ?_, by rw [hf]; exact h3⟩
    · cases i with
      | zero => exact ⟨fun _ h => absurd h (by omega), fun h => absurd rfl h⟩
      | succ i =>
        have hi' : i < L.length := by simpa using hi
        rw [List.getElem?_cons_succ, Nat.add_sub_cancel]
        refine ⟨fun he _ => ?_, fun hne => h2 _ (List.mem_filter.2 ⟨at_mem hi', by simpa using hne⟩)⟩
        obtain ⟨a1, a2, a3⟩ := h1 i hi' he
        obtain ⟨j, rfl⟩ : ∃ j, i = j + 1 := ⟨i - 1, by omega⟩
        rw [List.getElem?_cons_succ]
        rwa [Nat.add_sub_cancel] at a3
    · rw [List.length_cons, Nat.add_sub_cancel]
      cases hL : L.length with
      | zero =>
        have : L = [] := List.eq_nil_of_length_eq_zero hL
        subst this
        exact absurd rfl h3
      | succ n =>
        rw [List.getElem?_cons_succ]
        intro he
        have := (h1 n (by omega) he).2.1
        omega
  · rintro ⟨h1, h2, h3⟩
    rw [hf] at h3
    have hat : ∀ i, i < L.length → (L[i]?.getD 0 = 95 → (95 :: L)[i]?.getD 0 ≠ 95) ∧ (L[i]?.getD 0 ≠ 95 → dig10 (L[i]?.getD 0) < (b : Int)) := fun i hi => by
      have := h1 (i + 1) (by simpa using hi)
      rw [List.getElem?_cons_succ, Nat.add_sub_cancel] at this
      exact ⟨fun he => this.1 he (by omega), this.2⟩
    refine ⟨fun i hi he => ?_, fun x hx => ?_, h3⟩
    · have h4 := (hat i hi).1 he
      have hi0 : 0 < i := by
        rcases Nat.eq_zero_or_pos i with h | h
        · subst h; exact absurd rfl h4
        · exact h
      obtain ⟨j, rfl⟩ : ∃ j, i = j + 1 := ⟨i - 1, by omega⟩
      rw [List.getElem?_cons_succ] at h4
      refine ⟨hi0, ?_, by rwa [Nat.add_sub_cancel]⟩
      by_cases hl : j + 1 + 1 < L.length
      · exact hl
      · have h5 := h2 (by simp)
        rw [List.length_cons, Nat.add_sub_cancel, show L.length = j + 1 + 1 by omega, List.getElem?_cons_succ] at h5
        exact absurd he h5
    · obtain ⟨hm, hne⟩ := List.mem_filter.1 hx
      obtain ⟨i, hi, rfl⟩ := mem_at hm
      exact (hat i hi).2 (by simpa using hne)
theorem litS_ref (b : Nat) (L : List Int) : litS b L = refS b (strip L) := by
  unfold strip
  by_cases h0 : L[0]?.getD 0 = 95
  · rw [if_pos h0]
    cases L with
    | nil => exact absurd h0 (by simp)
    | cons c L =>
      have hc : c = 95 := by simpa using h0
      subst hc
      rw [List.drop_succ_cons, List.drop_zero]
      have hf : (95 :: L).filter (· ≠ 95) = L.filter (· ≠ 95) := by simp
      unfold litS refS
      by_cases h : LOK b (95 :: L)
      · rw [if_pos h, if_pos (ROK_under.2 h), hf]
      · rw [if_neg h, if_neg (fun h2 => h (ROK_under.1 h2))]
  · rw [if_neg h0]
    unfold litS refS
    by_cases h : LOK b L
    · rw [if_pos h, if_pos ((ROK_LOK h0).2 h)]
    · rw [if_neg h, if_neg (fun h2 => h ((ROK_LOK h0).1 h2))]
theorem litP_ref (L : List Int) : litP L = if 1 < L.length ∧ L[0]?.getD 0 = 48 then (if bas (L[1]?.getD 0).toNat = 0 then (0, []) else refS (bas (L[1]?.getD 0).toNat) (strip (L.drop 2))) else refS 10 L := by
  unfold litP
  by_cases hp : 1 < L.length ∧ L[0]?.getD 0 = 48
  · rw [if_pos hp, if_pos hp, litS_ref]
  · rw [if_neg hp, if_neg hp]
    by_cases he : L = [] ∨ L[0]?.getD 0 = 95
    · rw [if_pos he]
      refine (refS_no fun h => ?_).symm
      rcases he with he | he
      · subst he; exact h.2.2 rfl
      · by_cases hl : 0 < L.length
        · have := (h.1 0 hl he).1; omega
        · have : L = [] := List.eq_nil_of_length_eq_zero (by omega)
          subst this
          exact h.2.2 rfl
    · rw [if_neg he, litS_ref]
      unfold strip
      rw [if_neg (fun h => he (.inr h))]

/-- What the reference's Literal leaves. -/
def LitPost (w : World) (r : Int × List Int) (e : Ending) (w' : World) : Prop :=
  (r = (0, []) ∧ e = .returned (.tuple #[.slice none 0 0, .int .i64 0, .bool false]) ∧ Below w.heap.size w w') ∨
  ∃ b : Nat, 0 < b ∧ r.1 = (b : Int) ∧ ∃ v', e = .returned (.tuple #[v', .int .i64 (b : Int), .bool true]) ∧ SI w' .u64 v' (wordsOf (dval b r.2)) ∧ Below w.heap.size w w'
theorem UPre.step {L : List Int} {k : Nat} (h : UPre L k) (hc : L[k]?.getD 0 = 95 → 0 < k ∧ k + 1 < L.length ∧ L[k - 1]?.getD 0 ≠ 95) : UPre L (k + 1) := by
  intro i hi he
  by_cases e : i = k
  · subst e; exact hc he
  · exact h i (by omega) he
theorem refS_bad {b : Nat} {L : List Int} {k : Nat} (hk : k < L.length) (hc : L[k]?.getD 0 = 95) (h : ¬ (0 < k ∧ k + 1 < L.length ∧ L[k - 1]?.getD 0 ≠ 95)) : refS b L = (0, []) :=
  refS_no fun hr => h (hr.1 k hk hc)
end Go.Proofs.YtmbceiaeffnigaaDoor
