/- Numbers of texts. Plain. -/
import Derived.Test.YtlmbklpidmkdcaaGreatDoorD3
namespace Go.Proofs.YtlmbklpidmkdcaaGreatDoor

/-- The number of the first k digits. -/
def pre (b : Nat) (s : ByteArray) (k : Nat) : Nat := val b (((bytes s).take k).map dig10).reverse
theorem pre_zero (b : Nat) (s : ByteArray) : pre b s 0 = 0 := by simp [pre, val]
theorem pre_succ (b : Nat) (s : ByteArray) (k : Nat) (h : k < s.size) : pre b s (k + 1) = pre b s k * b + (dig10 ((bytes s)[k]?.getD 0)).toNat := by
  unfold pre
  have h' : k < (bytes s).length := by rw [bytes_length]; exact h
  rw [take_succ h', List.map_append, List.reverse_append, List.map_cons, List.map_nil, List.reverse_cons, List.reverse_nil, List.nil_append, List.cons_append, List.nil_append, val_cons, Nat.mul_comm, Nat.add_comm]
theorem pre_all (b : Nat) (s : ByteArray) : pre b s s.size = val b (txtD s 0) := by
  unfold pre txtD
  rw [List.take_of_length_le (by rw [bytes_length]; exact Nat.le_refl _), List.drop_zero]
/-- Its digits are digits of the base. -/
def Txt (s : ByteArray) (b : Nat) : Prop := ∀ j, j < s.size → dig10 ((bytes s)[j]?.getD 0) < (b : Int)
theorem pre_lt {b : Nat} {s : ByteArray} (hb : 2 ≤ b) (h : Txt s b) : ∀ k, k ≤ s.size → pre b s k < b ^ k
  | 0, _ => by rw [pre_zero]; simp
  | k + 1, hk => by
    have ih := pre_lt hb h k (by omega)
    have h1 := h k (by omega)
    have h2 := dig10_pos _ (bytes_range s k).1
    rw [pre_succ b s k (by omega), Nat.pow_succ]
    generalize dig10 ((bytes s)[k]?.getD 0) = d at *
    have h3 : (pre b s k + 1) * b ≤ b ^ k * b := Nat.mul_le_mul_right b ih
    rw [Nat.add_mul] at h3
    omega

/-- A step of the reading by chunks. -/
theorem num_step {b j V lo d p : Nat} (hd : d < b) (hlo : lo < b ^ j) (hp : p = V * b ^ j + lo) : p * b + d = V * b ^ (j + 1) + (lo * b + d) ∧ lo * b + d < b ^ (j + 1) := by
  subst hp
  rw [Nat.pow_succ]
  constructor
  · grind
  · have h3 : (lo + 1) * b ≤ b ^ j * b := Nat.mul_le_mul_right b hlo
    rw [Nat.add_mul] at h3
    omega
theorem dig10_lt (c : Int) {b : Int} (hb : b ≤ 36) (h : dig10 c < b) : c < 128 ∧ 48 ≤ c := by
  unfold dig10 at h
  repeat' split at h
  all_goals omega
theorem pow_lt_of {b k V : Nat} (hb : b ≤ 36) (h : V < b ^ k) : (wordsOf V).length ≤ k :=
  wordsOf_len k V (Nat.lt_of_lt_of_le h (Nat.pow_le_pow_left (by omega) k))
/-- V is less than what it is the beginning of. -/
theorem num_le {b j V lo p k : Nat} (hb : 0 < b) (hp : p = V * b ^ j + lo) (hk : p < b ^ k) : V < b ^ k := by
  have h1 : 0 < b ^ j := Nat.pow_pos hb
  have h2 : V ≤ V * b ^ j := Nat.le_mul_of_pos_right V h1
  omega
theorem pow_lt_pow' {b i j : Nat} (hb : 2 ≤ b) (h : i ≤ j) : b ^ i ≤ b ^ j := Nat.pow_le_pow_right (by omega) h
end Go.Proofs.YtlmbklpidmkdcaaGreatDoor
