/- Groups of decimal digits are a literal; the string in base 16 and that in base 2. Plain. -/
import Derived.Test.YtmbceiaeffnigaaDoorG1
namespace Go.Proofs.YtmbceiaeffnigaaDoor
open Go.RowKit

/-! ### groups -/
theorem LPre.cons {b : Nat} {c : Int} {G : List Int} (h : LPre b G G.length) (hc : c ≠ 95) (hd : dig10 c < (b : Int)) : LPre b (c :: G) (c :: G).length := by
  intro i hi
  cases i with
  | zero => exact ⟨fun h1 => absurd h1 (by simpa using hc), fun _ => by simpa using hd⟩
  | succ i =>
    have h1 := h i (by simpa using hi)
    rw [List.getElem?_cons_succ, Nat.add_sub_cancel]
    refine ⟨fun h2 _ => ?_, h1.2⟩
    cases i with
    | zero => simpa using hc
    | succ i =>
      rw [List.getElem?_cons_succ]
      have := h1.1 h2 (by omega)
      rwa [Nat.add_sub_cancel] at this
theorem LPre.under {b : Nat} {c : Int} {G : List Int} (h : LPre b (c :: G) (c :: G).length) (hc : c ≠ 95) : LPre b (95 :: c :: G) (95 :: c :: G).length := by
  intro i hi
  cases i with
  | zero => exact ⟨fun _ h2 => absurd h2 (by omega), fun h1 => absurd rfl h1⟩
  | succ i =>
    have h1 := h i (by simpa using hi)
    rw [List.getElem?_cons_succ, Nat.add_sub_cancel]
    refine ⟨fun h2 _ => ?_, h1.2⟩
    cases i with
    | zero => exact absurd h2 (by simpa using hc)
    | succ i =>
      rw [List.getElem?_cons_succ]
      have := h1.1 h2 (by omega)
      rwa [Nat.add_sub_cancel] at this
/-- The last one is no _. -/
def Lst (L : List Int) : Prop := 0 < L.length → L[L.length - 1]?.getD 0 ≠ 95
theorem Lst.cons {c : Int} {G : List Int} (h : Lst G) (hc : c ≠ 95) : Lst (c :: G) := by
  intro _
  rw [List.length_cons, Nat.add_sub_cancel]
  cases G with
  | nil => simpa using hc
  | cons x G =>
    have := h (by simp)
    rw [List.length_cons, Nat.add_sub_cancel] at this
    rw [List.length_cons, List.getElem?_cons_succ]
    exact this
theorem grpT_lit {b : Nat} (e : Nat) : ∀ l : List Int, (∀ c ∈ l, c ≠ 95 ∧ dig10 c < (b : Int)) → LPre b (grpT e l) (grpT e l).length ∧ Lst (grpT e l) ∧ (grpT e l).filter (· ≠ 95) = l
  | [], _ => ⟨fun i hi => absurd hi (by simp [grpT]), fun h => absurd h (by simp [grpT]), by simp [grpT]⟩
  | c :: cs, h => by
    obtain ⟨h1, h2, h3⟩ := grpT_lit e cs (fun x hx => h x (List.mem_cons_of_mem _ hx))
    obtain ⟨hc, hd⟩ := h c (List.mem_cons_self)
    have k1 := h1.cons hc hd
    have k2 := h2.cons hc
    unfold grpT
    split
    · refine ⟨k1.under hc, ?_, ?_⟩
      · intro _
        have := k2 (by simp)
        simp only [List.cons_append, List.nil_append, List.length_cons, Nat.add_sub_cancel, List.getElem?_cons_succ] at this ⊢
        exact this
      · simp [hc] at h3 ⊢
        exact h3
    · refine ⟨k1, k2, ?_⟩
      simp [hc] at h3 ⊢
      exact h3
theorem grp_lit {b : Nat} (e : Nat) {l : List Int} (hne : l ≠ []) (h : ∀ c ∈ l, c ≠ 95 ∧ dig10 c < (b : Int)) : litS b (grp e l) = ((b : Int), l) := by
  cases l with
  | nil => exact absurd rfl hne
  | cons c cs =>
    obtain ⟨h1, h2, h3⟩ := grpT_lit (b := b) e cs (fun x hx => h x (List.mem_cons_of_mem _ hx))
    obtain ⟨hc, hd⟩ := h c (List.mem_cons_self)
    have hf : (grp e (c :: cs)).filter (· ≠ 95) = c :: cs := by
      show (c :: grpT e cs).filter (· ≠ 95) = _
      rw [List.filter_cons, if_pos (by simpa using hc), h3]
    unfold litS
    rw [if_pos ⟨h1.cons hc hd, h2.cons hc, by rw [hf]; simp⟩, hf]
/-- Grouped decimal digits are a literal. -/
theorem grp_fmt (e n : Nat) : litP (grp e (fmt 10 n)) = (((10 : Nat) : Int), fmt 10 n) := by
  have hm : ∀ c ∈ fmt 10 n, c ≠ 95 ∧ dig10 c < ((10 : Nat) : Int) := by
    intro c hc
    obtain ⟨d, h0, h1, rfl⟩ := fmt_mem (b := 10) (by omega) (by omega) c hc
    exact ⟨(chr_range h0 (by omega)).2.2, by rw [chr_dig h0 (by omega)]; exact h1⟩
  have hne : fmt 10 n ≠ [] := List.length_pos_iff.1 (flen_pos (b := 10) (n := n) (by omega))
  have hlit := grp_lit (b := 10) e hne hm
  obtain ⟨c, cs, hcs⟩ : ∃ c cs, fmt 10 n = c :: cs := by
    cases h : fmt 10 n with
    | nil => exact absurd h hne
    | cons c cs => exact ⟨c, cs, rfl⟩
  have hg : grp e (fmt 10 n) = c :: grpT e cs := by rw [hcs]; rfl
  have hc := hm c (by rw [hcs]; exact List.mem_cons_self)
  have hcs1 : 1 < (c :: grpT e cs).length → c ≠ 48 := by
    intro h1 h48
    have hlen : 1 < flen 10 n := by
      unfold flen
      rw [hcs]
      cases cs with
      | nil => simp [grpT] at h1
      | cons x xs => simp
    have hn : n ≠ 0 := by
      intro h
      rw [flen_eq, if_pos h] at hlen
      omega
    have h2 := fmt_at (b := 10) (n := n) (by omega) 0 (by omega)
    rw [hcs] at h2
    simp only [List.getElem?_cons_zero, Option.getD_some, Nat.sub_zero] at h2
    have h3 := flen_lo (b := 10) (by omega) hn
    have h4 := flen_hi (b := 10) (n := n) (by omega)
    obtain ⟨k, hk⟩ : ∃ k, flen 10 n = k + 1 := ⟨flen 10 n - 1, by omega⟩
    rw [hk, Nat.add_sub_cancel] at h2 h3
    rw [hk, Nat.pow_succ] at h4
    have h5 : n / 10 ^ k < 10 := Nat.div_lt_of_lt_mul h4
    have h6 : 0 < n / 10 ^ k := Nat.div_pos h3 (Nat.pow_pos (by omega))
    rw [Nat.mod_eq_of_lt h5] at h2
    rw [h48] at h2
    unfold chr at h2
    split at h2 <;> omega
  unfold litP
  rw [hg]
  rw [if_neg (fun h => hcs1 h.1 (by simpa using h.2)), if_neg (fun h => by
    rcases h with h | h
    · cases h
    · exact hc.1 (by simpa using h)), ← hg]
  exact hlit

/-! ### base 16 and base 2 -/
theorem flen_hex (n : Nat) : flen 2 n ≤ 4 * flen 16 n := by
  by_cases h : n = 0
  · rw [flen_eq, flen_eq, if_pos h, if_pos h]; omega
  · have h1 := flen_hi (b := 16) (n := n) (by omega)
    rw [show 16 = 2 ^ 4 from rfl, ← Nat.pow_mul] at h1
    have h2 := digs_len 2 (by omega) _ _ h1
    rw [flen_eq, if_neg h]
    exact h2
theorem nibble (q : Nat) : ((0 * 2 + q / 8 % 2) * 2 + q / 4 % 2) * 2 * 2 + q / 2 % 2 * 2 + q % 2 = q % 16 := by omega
/-- A piece of a text. -/
theorem bytes_piece (L : List Int) (hL : ∀ a ∈ L, 0 ≤ a ∧ a < 256) (a c : Nat) : bytes ((strOf L).extract a c) = (L.drop a).take (c - a) := by
  unfold bytes
  rw [ByteArray.data_extract, Array.toList_extract]
  unfold List.extract
  rw [List.map_take, List.map_drop]
  have := bytes_strOf hL
  unfold bytes at this
  rw [this]
theorem pre_list {b : Nat} {s : ByteArray} {l : List Int} (h : bytes s = l) (hs : s.size = l.length) : pre b s s.size = dval b l := by
  unfold pre dval
  rw [h, hs, List.take_length]
theorem areB_list {b : Nat} {s : ByteArray} {l : List Int} (h : bytes s = l) (h0 : l ≠ []) (hd : ∀ c ∈ l, dig10 c < (b : Int)) : areB s b = true := by
  have hs := bytes_length s
  rw [h] at hs
  unfold areB
  refine decide_eq_true ⟨by rw [← hs]; exact List.length_pos_iff.2 h0, fun j hj => ?_⟩
  rw [h]
  rw [List.getElem?_eq_getElem (by omega)]
  exact hd _ (List.getElem_mem _)
theorem four_of {L : List Int} {k : Nat} (h : k + 4 ≤ L.length) : (L.drop k).take 4 = [L[k]?.getD 0, L[k + 1]?.getD 0, L[k + 2]?.getD 0, L[k + 3]?.getD 0] := by
  rw [List.drop_eq_getElem_cons (by omega), List.drop_eq_getElem_cons (by omega), List.drop_eq_getElem_cons (by omega), List.drop_eq_getElem_cons (by omega)]
  rw [List.getElem?_eq_getElem (by omega), List.getElem?_eq_getElem (by omega), List.getElem?_eq_getElem (by omega), List.getElem?_eq_getElem (by omega)]
  rfl
theorem one_of {L : List Int} {k : Nat} (h : k < L.length) : (L.drop k).take 1 = [L[k]?.getD 0] := by
  rw [List.drop_eq_getElem_cons h, List.getElem?_eq_getElem h]
  rfl
theorem padL_byte {b n w : Nat} (hb : 2 ≤ b) (hb2 : b ≤ 36) : ∀ a ∈ padL w (fmt b n), 0 ≤ a ∧ a < 256 := by
  intro a ha
  unfold padL at ha
  rw [List.mem_append, List.mem_replicate] at ha
  rcases ha with ⟨_, rfl⟩ | ha
  · omega
  · exact fmt_byte hb hb2 a ha
/-- Four digits of base 2 are one of base 16. -/
theorem hex_four (n m : Nat) (h : m < flen 16 n) :
    areB ((strOf (padL (4 * flen 16 n) (fmt 2 n))).extract (4 * m) (4 * m + 4)) 2 = true ∧ areB ((strOf (fmt 16 n)).extract m (m + 1)) 16 = true ∧
    ((strOf (padL (4 * flen 16 n) (fmt 2 n))).extract (4 * m) (4 * m + 4)).size = 4 ∧ ((strOf (fmt 16 n)).extract m (m + 1)).size = 1 ∧
    pre 2 ((strOf (padL (4 * flen 16 n) (fmt 2 n))).extract (4 * m) (4 * m + 4)) 4 = n / 16 ^ (flen 16 n - 1 - m) % 16 ∧
    pre 16 ((strOf (fmt 16 n)).extract m (m + 1)) 1 = n / 16 ^ (flen 16 n - 1 - m) % 16 := by
  obtain ⟨B, hB⟩ : ∃ B, B = padL (4 * flen 16 n) (fmt 2 n) := ⟨_, rfl⟩
  have hBl : B.length = 4 * flen 16 n := by rw [hB, padL_len, Nat.max_eq_left (flen_hex n)]
  have hBb : ∀ a ∈ B, 0 ≤ a ∧ a < 256 := by rw [hB]; exact padL_byte (by omega) (by omega)
  have hBat : ∀ j, j < 4 * flen 16 n → B[j]?.getD 0 = chr ((n / 2 ^ (4 * flen 16 n - 1 - j) % 2 : Nat) : Int) := by
    intro j hj
    rw [hB]
    exact padL_at (by omega) (flen_hex n) j hj
  rw [← hB]
  obtain ⟨k, hk⟩ : ∃ k, k = flen 16 n - 1 - m := ⟨_, rfl⟩
  have hw : 4 * flen 16 n = 4 * k + 4 + 4 * m := by omega
  have hp : (2 : Nat) ^ (4 * k) = 16 ^ k := by rw [show 16 = 2 ^ 4 from rfl, ← Nat.pow_mul]
  obtain ⟨Q, hQ⟩ : ∃ Q, Q = n / 16 ^ k := ⟨_, rfl⟩
  have b0 : B[4 * m]?.getD 0 = chr ((Q / 8 % 2 : Nat) : Int) := by
    rw [hBat _ (by omega), hw, show 4 * k + 4 + 4 * m - 1 - 4 * m = 4 * k + 3 by omega, Nat.pow_add, hp, ← Nat.div_div_eq_div_mul, ← hQ]
  have b1 : B[4 * m + 1]?.getD 0 = chr ((Q / 4 % 2 : Nat) : Int) := by
    rw [hBat _ (by omega), hw, show 4 * k + 4 + 4 * m - 1 - (4 * m + 1) = 4 * k + 2 by omega, Nat.pow_add, hp, ← Nat.div_div_eq_div_mul, ← hQ]
  have b2 : B[4 * m + 2]?.getD 0 = chr ((Q / 2 % 2 : Nat) : Int) := by
    rw [hBat _ (by omega), hw, show 4 * k + 4 + 4 * m - 1 - (4 * m + 2) = 4 * k + 1 by omega, Nat.pow_add, hp, ← Nat.div_div_eq_div_mul, ← hQ]
  have b3 : B[4 * m + 3]?.getD 0 = chr ((Q % 2 : Nat) : Int) := by
    rw [hBat _ (by omega), hw, show 4 * k + 4 + 4 * m - 1 - (4 * m + 3) = 4 * k by omega, hp, ← hQ]
  have hx : (fmt 16 n)[m]?.getD 0 = chr ((Q % 16 : Nat) : Int) := by rw [fmt_at (by omega) m h, ← hk, ← hQ]
  have l4 : bytes ((strOf B).extract (4 * m) (4 * m + 4)) = [chr ((Q / 8 % 2 : Nat) : Int), chr ((Q / 4 % 2 : Nat) : Int), chr ((Q / 2 % 2 : Nat) : Int), chr ((Q % 2 : Nat) : Int)] := by
    rw [bytes_piece B hBb, show 4 * m + 4 - 4 * m = 4 by omega, four_of (by omega), b0, b1, b2, b3]
  have l1 : bytes ((strOf (fmt 16 n)).extract m (m + 1)) = [chr ((Q % 16 : Nat) : Int)] := by
    rw [bytes_piece _ (fmt_byte (by omega) (by omega)), show m + 1 - m = 1 by omega, one_of (by unfold flen at h; exact h), hx]
  have s4 : ((strOf B).extract (4 * m) (4 * m + 4)).size = 4 := by rw [← bytes_length, l4]; rfl
  have s1 : ((strOf (fmt 16 n)).extract m (m + 1)).size = 1 := by rw [← bytes_length, l1]; rfl
  have p4 := pre_list (b := 2) l4 s4
  have p1 := pre_list (b := 16) l1 s1
  rw [s4] at p4
  rw [s1] at p1
  rw [← hk, ← hQ]
  refine ⟨areB_list l4 (by simp) ?_, areB_list l1 (by simp) ?_, s4, s1, ?_, ?_⟩
  · intro c hc
    simp only [List.mem_cons, List.not_mem_nil, or_false] at hc
    rcases hc with rfl | rfl | rfl | rfl
    all_goals
      rw [chr_dig (by omega) (by omega)]
      omega
  · intro c hc
    simp only [List.mem_cons, List.not_mem_nil, or_false] at hc
    subst hc
    rw [chr_dig (by omega) (by omega)]
    omega
  · rw [p4]
    unfold dval
    simp only [List.map_cons, List.map_nil, List.reverse_cons, List.reverse_nil, List.nil_append, List.cons_append, val]
    rw [chr_dig (by omega) (by omega), chr_dig (by omega) (by omega), chr_dig (by omega) (by omega), chr_dig (by omega) (by omega)]
    simp only [Int.toNat_natCast]
    omega
  · rw [p1]
    unfold dval
    simp only [List.map_cons, List.map_nil, List.reverse_cons, List.reverse_nil, List.nil_append, val]
    rw [chr_dig (by omega) (by omega)]
    omega
end Go.Proofs.YtmbceiaeffnigaaDoor
