/- nat.mul: the plain law; nat.rows. -/
import Derived.Test.YtmbceiaeffnigaaGreatDoorK4
namespace Go.Proofs.YtmbceiaeffnigaaGreatDoor
open Go.RowKit

/-- What holds while a row is added. -/
structure AddIn (out0 out row : List Int) (L i j c : Nat) : Prop where
  len : out.length = L
  u64 : U64 out
  cl : c ≤ 1
  vv : val 18446744073709551616 out + 18446744073709551616 ^ (i + j) * c = val 18446744073709551616 out0 + 18446744073709551616 ^ i * val 18446744073709551616 (row.take j)
theorem AddIn.start {out : List Int} {L : Nat} (row : List Int) (i : Nat) (hl : out.length = L) (hu : U64 out) : AddIn out out row L i 0 0 := ⟨hl, hu, by omega, by simp [val]⟩
theorem AddIn.step {out0 out row : List Int} {L i j c o r s q : Nat} (h : AddIn out0 out row L i j c) (hi : i + j < L) (ho : out[i + j]?.getD 0 = (o : Int)) (hr : row[j]?.getD 0 = (r : Int)) (hs : s < 18446744073709551616) (hq : q ≤ 1) (he : s + 18446744073709551616 * q = o + r + c) :
    AddIn out0 (out.set (i + j) (s : Int)) row L i (j + 1) q := by
  refine ⟨by simp [h.len], h.u64.set _ (by omega) (by omega), hq, ?_⟩
  have hv := h.vv
  have hs2 := val_set 18446744073709551616 out (i + j) (s : Int) (by rw [h.len]; exact hi)
  rw [ho, Int.toNat_natCast, Int.toNat_natCast] at hs2
  rw [val_take_succ, hr, Int.toNat_natCast, show i + (j + 1) = i + j + 1 from rfl, Nat.pow_succ]
  rw [Nat.pow_add] at hs2 hv ⊢
  generalize val 18446744073709551616 (out.set (i + j) (s : Int)) = n1 at *
  generalize val 18446744073709551616 out = n2 at *
  generalize val 18446744073709551616 out0 = n3 at *
  generalize val 18446744073709551616 (row.take j) = n4 at *
  generalize 18446744073709551616 ^ i = p at *
  generalize 18446744073709551616 ^ j = t at *
  have : p * t * (s + 18446744073709551616 * q) = p * t * (o + r + c) := by rw [he]
  grind
/-- What holds between the rows. -/
structure MulAt (xs ys out : List Int) (i : Nat) : Prop where
  len : out.length = xs.length + ys.length
  u64 : U64 out
  vv : val 18446744073709551616 out = val 18446744073709551616 xs * val 18446744073709551616 (ys.take i)
theorem MulAt.start (xs ys : List Int) : MulAt xs ys (List.replicate (xs.length + ys.length) 0) 0 := ⟨by simp, U64.zeros _, by rw [val_replicate]; simp [val]⟩
theorem MulAt.step {xs ys out0 out row : List Int} {i c : Nat} (h : MulAt xs ys out0 i) (hx : U64 xs) (hy : U64 ys) (hi : i < ys.length) (hrl : row.length = xs.length + 1) (hrv : val 18446744073709551616 row = val 18446744073709551616 xs * (ys[i]?.getD 0).toNat)
    (ha : AddIn out0 out row (xs.length + ys.length) i (xs.length + 1) c) : MulAt xs ys out (i + 1) := by
  have hv := ha.vv
  rw [List.take_of_length_le (by omega), hrv, h.vv] at hv
  have e1 : val 18446744073709551616 xs * val 18446744073709551616 (ys.take i) + 18446744073709551616 ^ i * (val 18446744073709551616 xs * (ys[i]?.getD 0).toNat) = val 18446744073709551616 xs * val 18446744073709551616 (ys.take (i + 1)) := by
    rw [val_take_succ, Nat.mul_add, Nat.mul_left_comm]
  rw [e1] at hv
  have h1 := val_lt64 xs hx
  have h2 := val_lt64 _ (hy.take (i + 1))
  rw [List.length_take, Nat.min_eq_left (by omega)] at h2
  have h3 : val 18446744073709551616 xs * val 18446744073709551616 (ys.take (i + 1)) < 18446744073709551616 ^ (i + (xs.length + 1)) := by
    have h4 := Nat.mul_lt_mul'' h1 h2
    rw [← Nat.pow_add, show xs.length + (i + 1) = i + (xs.length + 1) by omega] at h4
    exact h4
  have hl := ha.len
  have hu := ha.u64
  clear ha h hx hy h1 h2 e1
  generalize 18446744073709551616 ^ (i + (xs.length + 1)) = E at hv h3
  have hc : c = 0 := by
    rcases Nat.eq_zero_or_pos c with h5 | h5
    · exact h5
    · have h6 : E * 1 ≤ E * c := Nat.mul_le_mul_left _ h5
      omega
  rw [hc, Nat.mul_zero, Nat.add_zero] at hv
  exact ⟨hl, hu, hv⟩

theorem rows_calls (Ax Ay : Option Addr) (nx ny cx cy : Nat) (w : World) : Calls Tryz.prog 135 #[.slice Ax nx cx, .slice Ay ny cy] w fun e w' =>
    e = .returned (.func (.func 143) #[] #[.pointer (some ⟨w.heap.size + 1, 0, none⟩), .pointer (some ⟨w.heap.size, 0, none⟩)]) ∧ w' = (w.alloc (.cells #[.slice Ax nx cx] 23)).alloc (.cells #[.slice Ay ny cy] 23) := by
  go_enter Tryz.func135, Tryz.ntmps135
  go_wp2
  go_ret
  exact ⟨rfl, rfl⟩
end Go.Proofs.YtmbceiaeffnigaaGreatDoor
