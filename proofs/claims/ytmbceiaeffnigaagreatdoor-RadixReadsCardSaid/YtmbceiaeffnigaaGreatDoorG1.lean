/- Strings of numbers: their order, their groups, their digits. Plain. -/
import Derived.Test.YtmbceiaeffnigaaGreatDoorE7
namespace Go.Proofs.YtmbceiaeffnigaaGreatDoor
open Go.RowKit

/-! ### digits -/
theorem digs_get (b : Nat) (hb : 2 ≤ b) : ∀ (i n : Nat), (digs b n)[i]?.getD 0 = ((n / b ^ i % b : Nat) : Int)
  | i, n => by
    induction i generalizing n with
    | zero =>
      by_cases h : n = 0
      · subst h; rw [digs_zero]; simp
      · rw [digs_pos h hb]; simp
    | succ i ih =>
      by_cases h : n = 0
      · subst h; rw [digs_zero]; simp
      · rw [digs_pos h hb, List.getElem?_cons_succ, ih, Nat.pow_succ, Nat.mul_comm, Nat.div_div_eq_div_mul]
theorem digs_hi (b : Nat) (hb : 2 ≤ b) (n : Nat) : n < b ^ (digs b n).length := by
  have h := val_lt b (by omega) (digs b n) (fun x hx => by
    obtain ⟨j, hj, rfl⟩ := List.mem_iff_getElem.1 hx
    have := digs_dig b hb n j hj
    rw [List.getElem?_eq_getElem hj] at this
    simp at this
    omega)
  rwa [digs_val b hb n] at h
theorem digs_lo (b : Nat) (hb : 2 ≤ b) : ∀ n, n ≠ 0 → b ^ ((digs b n).length - 1) ≤ n := by
  intro n
  induction n using Nat.strongRecOn with
  | _ n ih =>
    intro h
    rw [digs_pos h hb, List.length_cons, Nat.add_sub_cancel]
    by_cases h2 : n / b = 0
    · rw [h2, digs_zero]; simp; omega
    · have h3 := ih (n / b) (Nat.div_lt_self (by omega) (by omega)) h2
      have h4 : 0 < (digs b (n / b)).length := List.length_pos_iff.2 (digs_ne h2 hb)
      obtain ⟨k, hk⟩ : ∃ k, (digs b (n / b)).length = k + 1 := ⟨_, (Nat.succ_pred_eq_of_pos h4).symm⟩
      rw [hk, Nat.add_sub_cancel] at h3
      rw [hk, Nat.pow_succ]
      exact Nat.le_trans (Nat.mul_le_mul_right b h3) (Nat.div_mul_le_self n b)
/-- How many digits the string has. -/
def flen (b n : Nat) : Nat := (fmt b n).length
theorem flen_eq (b n : Nat) : flen b n = if n = 0 then 1 else (digs b n).length := by
  unfold flen fmt
  split <;> simp
theorem flen_pos {b n : Nat} (hb : 2 ≤ b) : 0 < flen b n := by
  rw [flen_eq]
  split
  · omega
  · rename_i h; exact List.length_pos_iff.2 (digs_ne h hb)
theorem flen_hi {b n : Nat} (hb : 2 ≤ b) : n < b ^ flen b n := by
  rw [flen_eq]
  split
  · rename_i h; subst h; exact Nat.pow_pos (by omega)
  · exact digs_hi b hb n
theorem flen_lo {b n : Nat} (hb : 2 ≤ b) (h : n ≠ 0) : b ^ (flen b n - 1) ≤ n := by
  rw [flen_eq, if_neg h]
  exact digs_lo b hb n h
theorem flen_lt {b n m : Nat} (hb : 2 ≤ b) (h : flen b n < flen b m) : n < m := by
  by_cases hm : m = 0
  · have h1 : flen b m = 1 := by rw [flen_eq, if_pos hm]
    have := flen_pos (n := n) hb
    omega
  · have h1 := flen_hi (n := n) hb
    have h2 := flen_lo hb hm
    have h3 : b ^ flen b n ≤ b ^ (flen b m - 1) := Nat.pow_le_pow_right (by omega) (by omega)
    omega
/-- The string, character by character. -/
theorem fmt_at {b n : Nat} (hb : 2 ≤ b) (j : Nat) (h : j < flen b n) : (fmt b n)[j]?.getD 0 = chr ((n / b ^ (flen b n - 1 - j) % b : Nat) : Int) := by
  by_cases hn : n = 0
  · subst hn
    have h1 : flen b 0 = 1 := by rw [flen_eq, if_pos rfl]
    have h2 : j = 0 := by omega
    subst h2
    simp [fmt, chr]
  · have hl : flen b n = (digs b n).length := by rw [flen_eq, if_neg hn]
    unfold fmt
    rw [if_neg hn, hl]
    rw [hl] at h
    have h2 : j < (digs b n).reverse.length := by simpa using h
    rw [List.getElem?_map, List.getElem?_eq_getElem h2, Option.map_some, Option.getD_some, List.getElem_reverse]
    have h3 := digs_get b hb ((digs b n).length - 1 - j) n
    rw [List.getElem?_eq_getElem (by omega)] at h3
    rw [← h3]
    rfl
theorem padL_len (w b n : Nat) : (padL w (fmt b n)).length = max w (flen b n) := by
  unfold padL flen
  simp
  omega
theorem padL_at {b n w : Nat} (hb : 2 ≤ b) (hw : flen b n ≤ w) (j : Nat) (h : j < w) : (padL w (fmt b n))[j]?.getD 0 = chr ((n / b ^ (w - 1 - j) % b : Nat) : Int) := by
  unfold padL
  have hfl : (fmt b n).length = flen b n := rfl
  rw [List.getElem?_append, List.length_replicate, hfl]
  split
  · rename_i hj
    have h1 : n / b ^ (w - 1 - j) = 0 := Nat.div_eq_of_lt (Nat.lt_of_lt_of_le (flen_hi hb) (Nat.pow_le_pow_right (by omega) (by omega)))
    rw [h1]
    simp [List.getElem?_replicate, hj, chr]
  · rename_i hj
    rw [fmt_at hb _ (by omega)]
    rw [show flen b n - 1 - (j - (w - flen b n)) = w - 1 - j by omega]
theorem chr_dig {d : Int} (h0 : 0 ≤ d) (h1 : d < 36) : dig10 (chr d) = d := by
  unfold chr dig10
  repeat' split
  all_goals omega
theorem chr_range {d : Int} (h0 : 0 ≤ d) (h1 : d < 36) : 48 ≤ chr d ∧ chr d < 123 ∧ chr d ≠ 95 := by
  unfold chr
  split <;> omega
theorem fmt_mem {b n : Nat} (hb : 2 ≤ b) (hb2 : b ≤ 36) : ∀ x ∈ fmt b n, ∃ d : Int, 0 ≤ d ∧ d < b ∧ x = chr d := by
  intro x hx
  unfold fmt at hx
  split at hx
  · simp at hx; exact ⟨0, by omega, by omega, by rw [hx]; rfl⟩
  · rw [List.mem_map] at hx
    obtain ⟨d, hd, rfl⟩ := hx
    rw [List.mem_reverse] at hd
    obtain ⟨j, hj, rfl⟩ := List.mem_iff_getElem.1 hd
    have := digs_dig b hb n j hj
    rw [List.getElem?_eq_getElem hj] at this
    exact ⟨_, this.1, this.2, rfl⟩
theorem dval_fmt {b n : Nat} (hb : 2 ≤ b) (hb2 : b ≤ 36) : dval b (fmt b n) = n := by
  unfold dval fmt
  split
  · rename_i h; subst h; simp [val, dig10]
  · rw [List.map_map, ← List.map_reverse, List.reverse_reverse]
    have h1 : (digs b n).map (dig10 ∘ chr) = digs b n := by
      conv => rhs; rw [← List.map_id (digs b n)]
      refine List.map_congr_left fun x hx => ?_
      obtain ⟨j, hj, rfl⟩ := List.mem_iff_getElem.1 hx
      have := digs_dig b hb n j hj
      rw [List.getElem?_eq_getElem hj] at this
      exact chr_dig this.1 (by have := this.2; simp at this; omega)
    rw [h1, digs_val b hb]

/-! ### the order of strings -/
def lexB : List Int → List Int → Bool
  | _, [] => false
  | [], _ :: _ => true
  | a :: x, b :: y => decide (a < b) || (decide (a = b) && lexB x y)
theorem bytesLess_strOf : ∀ (x y : List Int), (∀ a ∈ x, 0 ≤ a ∧ a < 256) → (∀ a ∈ y, 0 ≤ a ∧ a < 256) → Op.bytesLess (strOf x).toList (strOf y).toList = lexB x y := by
  intro x y hx hy
  rw [ByteArray.toList_eq, ByteArray.toList_eq]
  show Op.bytesLess (strOfNums x).data.toList (strOfNums y).data.toList = _
  rw [strOfNums_data, strOfNums_data]
  induction x generalizing y with
  | nil => cases y <;> simp [Op.bytesLess, lexB]
  | cons a x ih =>
    cases y with
    | nil => simp [Op.bytesLess, lexB]
    | cons b y =>
      have ha := hx a (List.mem_cons_self)
      have hb := hy b (List.mem_cons_self)
      have h1 := ih y (fun c hc => hx c (List.mem_cons_of_mem _ hc)) (fun c hc => hy c (List.mem_cons_of_mem _ hc))
      simp only [List.map_cons, Op.bytesLess, lexB, h1]
      have e1 : (decide (UInt8.ofNat a.toNat < UInt8.ofNat b.toNat)) = decide (a < b) := by
        refine decide_eq_decide.2 ?_
        rw [UInt8.lt_iff_toNat_lt]
        simp
        omega
      have e2 : (UInt8.ofNat a.toNat == UInt8.ofNat b.toNat) = decide (a = b) := by
        rw [Bool.eq_iff_iff]
        simp
        constructor
        · intro h
          have := congrArg UInt8.toNat h
          simp at this
          omega
        · intro h; rw [h]
      rw [e1, e2]
theorem chr_lt {a b : Int} (a0 : 0 ≤ a) (a1 : a < 36) (b0 : 0 ≤ b) (b1 : b < 36) : (chr a < chr b ↔ a < b) ∧ (chr a = chr b ↔ a = b) := by
  unfold chr
  repeat' split
  all_goals omega
theorem lex_chr (b : Nat) (hb : 2 ≤ b) (hb2 : b ≤ 36) : ∀ (x y : List Int), x.length = y.length → (∀ a ∈ x, 0 ≤ a ∧ a < (b : Int)) → (∀ a ∈ y, 0 ≤ a ∧ a < (b : Int)) →
    lexB (x.map chr) (y.map chr) = decide (val b x.reverse < val b y.reverse) := by
  intro x y hl hx hy
  induction x generalizing y with
  | nil =>
    cases y with
    | nil => simp [lexB]
    | cons _ _ => simp at hl
  | cons a x ih =>
    cases y with
    | nil => simp at hl
    | cons c y =>
      have ha := hx a (List.mem_cons_self)
      have hc := hy c (List.mem_cons_self)
      have h1 := ih y (by simpa using hl) (fun d hd => hx d (List.mem_cons_of_mem _ hd)) (fun d hd => hy d (List.mem_cons_of_mem _ hd))
      have hlt : ∀ z : List Int, (∀ d ∈ z, 0 ≤ d ∧ d < (b : Int)) → val b z.reverse < b ^ z.length := by
        intro z hz
        have := val_lt b (by omega) z.reverse (fun d hd => by have := hz d (List.mem_reverse.1 hd); omega)
        rwa [List.length_reverse] at this
      have hvx := hlt x (fun d hd => hx d (List.mem_cons_of_mem _ hd))
      have hvy := hlt y (fun d hd => hy d (List.mem_cons_of_mem _ hd))
      have hll : x.length = y.length := by simpa using hl
      obtain ⟨k1, k2⟩ := chr_lt (a := a) (b := c) ha.1 (by omega) hc.1 (by omega)
      simp only [List.map_cons, lexB, h1, List.reverse_cons, val_snoc, List.length_reverse]
      rw [← hll] at hvy
      rw [← hll]
      generalize val b x.reverse = X at *
      generalize val b y.reverse = Y at *
      generalize b ^ x.length = E at *
      rw [Bool.eq_iff_iff]
      simp only [Bool.or_eq_true, Bool.and_eq_true, decide_eq_true_eq, k1, k2]
      rcases Int.lt_trichotomy a c with h | h | h
      · have : (a.toNat + 1) * E ≤ c.toNat * E := Nat.mul_le_mul_right E (by omega)
        rw [Nat.add_mul] at this
        rw [Nat.mul_comm E, Nat.mul_comm E]
        constructor
        · intro _; omega
        · intro _; exact .inl h
      · subst h
        constructor
        · intro h2; rcases h2 with h2 | h2 <;> omega
        · intro h2; exact .inr ⟨rfl, by omega⟩
      · have : (c.toNat + 1) * E ≤ a.toNat * E := Nat.mul_le_mul_right E (by omega)
        rw [Nat.add_mul] at this
        rw [Nat.mul_comm E, Nat.mul_comm E]
        constructor
        · intro h2; rcases h2 with h2 | h2 <;> omega
        · intro h2; exfalso; omega
/-- The digits, the highest first. -/
def topD (b n : Nat) : List Int := if n = 0 then [0] else (digs b n).reverse
theorem fmt_topD (b n : Nat) : fmt b n = (topD b n).map chr := by
  unfold fmt topD
  split
  · rfl
  · rfl
theorem topD_val {b n : Nat} (hb : 2 ≤ b) : val b (topD b n).reverse = n := by
  unfold topD
  split
  · rename_i h; subst h; simp [val]
  · rw [List.reverse_reverse, digs_val b hb]
theorem topD_dig {b n : Nat} (hb : 2 ≤ b) : ∀ a ∈ topD b n, 0 ≤ a ∧ a < (b : Int) := by
  intro a ha
  unfold topD at ha
  split at ha
  · simp at ha; omega
  · rw [List.mem_reverse] at ha
    obtain ⟨j, hj, rfl⟩ := List.mem_iff_getElem.1 ha
    have := digs_dig b hb n j hj
    rw [List.getElem?_eq_getElem hj] at this
    exact this
theorem fmt_byte {b n : Nat} (hb : 2 ≤ b) (hb2 : b ≤ 36) : ∀ a ∈ fmt b n, 0 ≤ a ∧ a < 256 := by
  intro a ha
  obtain ⟨d, h0, h1, rfl⟩ := fmt_mem hb hb2 a ha
  have := chr_range h0 (by omega)
  omega
theorem fmt_less {b n m : Nat} (hb : 2 ≤ b) (hb2 : b ≤ 36) (h : flen b n = flen b m) : Op.bytesLess (strOf (fmt b n)).toList (strOf (fmt b m)).toList = decide (n < m) := by
  rw [bytesLess_strOf _ _ (fmt_byte hb hb2) (fmt_byte hb hb2), fmt_topD, fmt_topD, lex_chr b hb hb2 _ _ ?_ (topD_dig hb) (topD_dig hb), topD_val hb, topD_val hb]
  unfold flen at h
  rw [fmt_topD, fmt_topD] at h
  simpa using h
theorem fmt_inj {b n m : Nat} (hb : 2 ≤ b) (hb2 : b ≤ 36) (h : fmt b n = fmt b m) : n = m := by
  rw [← dval_fmt (n := n) hb hb2, h, dval_fmt hb hb2]
theorem strOf_inj {x y : List Int} (hx : ∀ a ∈ x, 0 ≤ a ∧ a < 256) (hy : ∀ a ∈ y, 0 ≤ a ∧ a < 256) (h : strOf x = strOf y) : x = y := by
  rw [← bytes_strOf hx, h, bytes_strOf hy]
end Go.Proofs.YtmbceiaeffnigaaGreatDoor
