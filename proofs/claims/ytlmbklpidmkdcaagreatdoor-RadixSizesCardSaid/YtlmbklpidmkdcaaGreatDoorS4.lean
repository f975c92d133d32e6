/- Results that are too large, and those that are not quite. -/
import Derived.Test.YtlmbklpidmkdcaaGreatDoorS2
namespace Go.Proofs.YtlmbklpidmkdcaaGreatDoor
open Go.RowKit Go.Shelf

theorem shortR_no (s : ByteArray) (w : World) (hs : 65536 < s.size) : Calls Tryz.prog 19 #[.string s] w (RetV w (.tuple #[.string ⟨#[]⟩, .int .i64 2])) := by
  have hd : decide ((65536 : Int) < (s.size : Int)) = true := decide_eq_true (by omega)
  go_enter Tryz.func19, Tryz.ntmps19
  go_wp2
  go_ret2
  exact ⟨rfl, rfl⟩
theorem fitR_no (A : Option Addr) (n c : Nat) (w : World) (hn : 4096 < n) : Calls Tryz.prog 22 #[.slice A n c] w (RetV w (.tuple #[.slice none 0 0, .int .i64 2])) := by
  go_enter Tryz.func22, Tryz.ntmps22
  go_wp2_with (go_at_call 17; refine (largeR_yes _ _ _ _ hn).mono ?_; rintro e w' ⟨rfl, rfl⟩)
  go_ret2
  exact ⟨rfl, rfl⟩
set_option maxHeartbeats 1000000 in
theorem formatR_fit (v : Value) (xs : List Int) (b : Nat) (w : World) (hr : SI w .u64 v xs) (hu : U64 xs) (hn : xs.length ≤ 4096) (hb : 2 ≤ b) (hb2 : b ≤ 36) (hf : (fmt b (val 18446744073709551616 xs)).length ≤ 65536) :
    Calls Tryz.prog 4 #[v, .int .i64 (b : Int)] w (RetB w (.tuple #[.string (strOf (fmt b (val 18446744073709551616 xs))), .int .i64 0])) := by
  obtain ⟨A, c, rfl, hc, _⟩ := hr.form
  obtain ⟨s, hs⟩ : ∃ s, s = strOf (fmt b (val 18446744073709551616 xs)) := ⟨_, rfl⟩
  have hsz : s.size ≤ 65536 := by rw [hs, strOf_size]; omega
  rw [← hs]
  have HS := Lib.hid hs
  have HR := Lib.hid hr
  have HU := Lib.hid hu
  have hB : isB (b : Int) = true := isB_yes (by omega) (by omega)
  clear hs hr hu hf
  go_enter Tryz.func4, Tryz.ntmps4
  go_wp2_with (first
    | (go_at_call 17; refine (largeR_calls _ _ _ _ (by omega)).mono ?_; rintro e w' ⟨rfl, rfl⟩)
    | (go_at_call 18; refine (isBaseR_calls _ _).mono ?_; rintro e w' ⟨rfl, rfl⟩; rw [hB])
    | (go_at_call 20; refine (textR_calls _ xs b _ HR.out HU.out (by omega) hb hb2).mono ?_; rintro e w1 ⟨rfl, hb1⟩; rw [← HS.out]; have HB1 := Lib.hid hb1; clear hb1)
    | (go_at_call 19; refine (shortR_calls _ _ hsz).mono ?_; rintro e w' ⟨rfl, rfl⟩))
  go_ret2
  exact ⟨rfl, HB1.out⟩
set_option maxHeartbeats 1000000 in
theorem formatR_over (v : Value) (xs : List Int) (b : Nat) (w : World) (hr : SI w .u64 v xs) (hu : U64 xs) (hn : xs.length ≤ 4096) (hb : 2 ≤ b) (hb2 : b ≤ 36) (hf : 65536 < (fmt b (val 18446744073709551616 xs)).length) :
    Calls Tryz.prog 4 #[v, .int .i64 (b : Int)] w (RetB w (.tuple #[.string ⟨#[]⟩, .int .i64 2])) := by
  obtain ⟨A, c, rfl, hc, _⟩ := hr.form
  obtain ⟨s, hs⟩ : ∃ s, s = strOf (fmt b (val 18446744073709551616 xs)) := ⟨_, rfl⟩
  have hsz : 65536 < s.size := by rw [hs, strOf_size]; omega
  have HS := Lib.hid hs
  have HR := Lib.hid hr
  have HU := Lib.hid hu
  have hB : isB (b : Int) = true := isB_yes (by omega) (by omega)
  clear hs hr hu hf
  go_enter Tryz.func4, Tryz.ntmps4
  go_wp2_with (first
    | (go_at_call 17; refine (largeR_calls _ _ _ _ (by omega)).mono ?_; rintro e w' ⟨rfl, rfl⟩)
    | (go_at_call 18; refine (isBaseR_calls _ _).mono ?_; rintro e w' ⟨rfl, rfl⟩; rw [hB])
    | (go_at_call 20; refine (textR_calls _ xs b _ HR.out HU.out (by omega) hb hb2).mono ?_; rintro e w1 ⟨rfl, hb1⟩; rw [← HS.out]; have HB1 := Lib.hid hb1; clear hb1)
    | (go_at_call 19; refine (shortR_no _ _ hsz).mono ?_; rintro e w' ⟨rfl, rfl⟩))
  go_ret2
  exact ⟨rfl, HB1.out⟩
set_option maxHeartbeats 1000000 in
theorem parseR_over (s : ByteArray) (b : Nat) (w : World) (hb : 2 ≤ b) (hb2 : b ≤ 36) (hn : s.size ≤ 65536) (hw : 4096 < (wordsOf (pre b s s.size)).length) (h : areB s b = true) :
    Calls Tryz.prog 5 #[.string s, .int .i64 (b : Int)] w (RetB w (.tuple #[.slice none 0 0, .int .i64 2])) := by
  have ht : Txt s b := (of_decide_eq_true h).2
  have hbb := isB_yes (b := (b : Int)) (by omega) (by omega)
  have H := Lib.hid h
  have HBB := Lib.hid hbb
  obtain ⟨N, hN⟩ : ∃ N, N = pre b s s.size := ⟨_, rfl⟩
  rw [← hN] at hw
  have HN := Lib.hid hN
  have HT := Lib.hid ht
  have HW := Lib.hid hw
  clear h hbb hN ht hw
  go_enter Tryz.func5, Tryz.ntmps5
  go_wp2_with (first
    | (go_at_call 18; refine (isBaseR_calls _ _).mono ?_; rintro e w' ⟨rfl, rfl⟩; rw [HBB.out])
    | (go_at_call 21; refine (areR_calls s b _ hb hb2).mono ?_; rintro e w1 ⟨rfl, q1⟩; rw [H.out]; have G1 := Lib.hid q1; clear q1)
    | (go_at_call 23; refine (numberR_calls s b _ hb hb2 hn HT.out).mono ?_; rintro e w2 ⟨v2, rfl, q2, q3⟩; rw [← HN.out] at q2; obtain ⟨A, c, rfl, _, _⟩ := q2.form; have G3 := Lib.hid q3; clear q2 q3)
    | (go_at_call 22; refine (fitR_no _ _ _ _ HW.out).mono ?_; rintro e w' ⟨rfl, rfl⟩))
  go_ret2
  exact ⟨rfl, G1.out.trans (G3.out.mono G1.out.size)⟩

set_option maxHeartbeats 1000000 in
set_option maxRecDepth 100000 in
theorem groupR_over (s : ByteArray) (e : Nat) (w : World) (he : 1 ≤ e) (he2 : e ≤ 100) (hn : s.size ≤ 65536) (hbig : 65536 < (grp e (bytes s)).length) :
    Calls Tryz.prog 11 #[.string s, .int .i64 (e : Int)] w (RetB w (.tuple #[.string ⟨#[]⟩, .int .i64 2])) := by
  obtain ⟨out, hout⟩ : ∃ out, out = strOf (grp e (bytes s)) := ⟨_, rfl⟩
  have hos : 65536 < out.size := by rw [hout, strOf_size]; exact hbig
  have HOUT := Lib.hid hout
  have HBIG := Lib.hid hbig
  clear hbig
  clear hout
  go_enter Tryz.func11, Tryz.ntmps11
  go_wp2
  go_loopw [6, 7] (fun o i wr => ∃ (gs : List ByteArray) (z : Int), i = .int .i64 z ∧ z ≤ (s.size : Int) ∧ -100 ≤ z ∧ GrpOr e s gs z ∧ OwnS w.heap.size wr o gs ∧ Below w.heap.size w wr) (fun o i wr => (intOf i).toNat)
  case atStart => exact ⟨[], (s.size : Int), rfl, Int.le_refl _, by omega, GrpOr.start e s, World.ownsRow_nil w _ _ _, Below.refl _ _⟩
  case round =>
    obtain ⟨gs, z, rfl, hz1, hz2, hG, ho, hB⟩ := hrel
    by_cases hz : 0 < z
    · obtain ⟨a, rfl⟩ : ∃ a : Nat, z = (a : Int) := ⟨z.toNat, by omega⟩
      have hst := hG.step he he2 (by omega)
      have hgl := hG.1
      have hmx : max (0 : Int) ((a : Int) - (e : Int)) = ((a - e : Nat) : Int) := by omega
      have HST := Lib.hid hst
      have HO := Lib.hid ho
      have HB := Lib.hid hB
      clear hst hG ho hB
      have hle : a - e ≤ a := by omega
      have hle2 : a ≤ s.size := by omega
      go_wp2_with (at_builtin; refine wpList_appS (W0 := w) rfl (.tmp 24) (.tmp 32) 80 rfl w.heap.size Tryz.underlying80 _ gs (s.extract (a - e) a) rfl rfl HO.out (by omega) HB.out HB.out.size ?_; intro v5 w5 g1 g2; have G1 := Lib.hid g1; have G2 := Lib.hid g2; clear g1 g2 HO)
      exact ⟨⟨_, _, rfl, by omega, by omega, HST.out, G1.out, G2.out⟩, by simp [intOf]; omega⟩
    · have hzd : decide ((0 : Int) < z) = false := decide_eq_false hz
      have hj : ints (Lib.join (gs.reverse.map (·.data.toList)) [95]) = grp e (bytes s) := by
        rcases hG.2 with h | h
        · omega
        · exact h.2.2
      have hjl : (Lib.join (gs.reverse.map (·.data.toList)) [95]).length ≤ 131072 := by
        have h1 := grp_len e (bytes s)
        rw [← hj, bytes_length] at h1
        unfold ints at h1
        rw [List.length_map] at h1
        omega
      have hjo : (⟨(Lib.join (gs.reverse.map (·.data.toList)) [95]).toArray⟩ : ByteArray) = out := by rw [HOUT.out, ← hj, strOf_ints]
      have hgl := hG.1
      have HB := Lib.hid hB
      have HJO := Lib.hid hjo
      have HJL := Lib.hid hjl
      by_cases h0 : gs = []
      · have hv : ∃ a c, u6 = .slice a 0 c := by
          rcases ho.2 with ⟨h1, _⟩ | ⟨g', cap, cur, h1, _⟩
          · exact ⟨_, _, h1⟩
          · rw [h0] at h1; exact ⟨_, _, h1⟩
        exfalso
        have he : out = ⟨#[]⟩ := by rw [← hjo, h0]; rfl
        rw [he] at hos
        exact absurd hos (by decide)
      · obtain ⟨g, cap, hv, hc⟩ : ∃ g cap, u6 = .slice (some ⟨g, 0, none⟩) gs.length cap ∧ gs.length ≤ cap := by
          rcases ho.2 with ⟨_, h1⟩ | ⟨g', cap, cur, h1, _, _, h2, _⟩
          · exact absurd (List.eq_nil_of_length_eq_zero h1) h0
          · exact ⟨_, _, h1, h2⟩
        subst hv
        have HO := Lib.hid ho
        obtain ⟨n, hn'⟩ : ∃ n, n = gs.length := ⟨_, rfl⟩
        have hrl : gs.reverse.length = n := by rw [List.length_reverse, hn']
        have hrev := revS_calls g cap gs w.heap.size wr ho (by omega)
        rw [← hn'] at hrev hgl hc ⊢
        have HREV := Lib.hid hrev
        have hjoin : ∀ w1 : World, (∀ (j : Nat) (x : ByteArray), gs.reverse[j]? = some x → w1.cell? ⟨g, 0 + j, none⟩ = some (.string x)) → g < w1.heap.size → Calls Tryz.prog 40 #[.slice (some ⟨g, 0, none⟩) n cap, .string ⟨#[95]⟩] w1 (RetB w1 (.string out)) := by
          intro w1 h1 h2
          have := Tryz.strings_Join g 0 cap gs.reverse ⟨#[95]⟩ w1 h1 h2 (by rw [hrl]; omega) (by rw [hrl]; exact hc) (by have := hjl; show (Lib.join (gs.reverse.map (·.data.toList)) [95]).length ≤ _; omega)
          rw [hrl] at this
          rw [← hjo]
          exact this
        have HJOIN := Lib.hid hjoin
        clear hj hjl hjo hG ho hB h0 hrev hjoin hrl hn'
        go_wp2_with (first
          | (go_at_call 39; refine HREV.out.mono ?_; rintro e w1 ⟨rfl, h1, h2, h3⟩; have G1 := Lib.hid h1; have G2 := Lib.hid h2; have G3 := Lib.hid h3; clear h1 h2 h3)
          | (go_at_call 40; refine (HJOIN.out _ G1.out G3.out).mono ?_; rintro e w2 ⟨rfl, h4⟩; have G4 := Lib.hid h4; clear h4)
          | (go_at_call 19; refine (shortR_no _ _ hos).mono ?_; rintro e w' ⟨rfl, rfl⟩))
        go_ret2
        exact ⟨rfl, (HB.out.trans G2.out).trans (G4.out.mono (HB.out.trans G2.out).size)⟩

/-! Plain: how long these texts and numbers are. -/
theorem digs_pow2 : ∀ n : Nat, (digs 2 (2 ^ n)).length = n + 1
  | 0 => by rw [Nat.pow_zero, digs_pos (by omega) (by omega)]; simp [digs_zero]
  | n + 1 => by
    have h1 : 2 ^ (n + 1) / 2 = 2 ^ n := by rw [Nat.pow_succ]; omega
    rw [digs_pos (Nat.ne_of_gt (Nat.pow_pos (by omega))) (by omega), List.length_cons, h1, digs_pow2 n]
theorem fmt_pow2 (n : Nat) : (fmt 2 (2 ^ n)).length = n + 1 := by
  unfold fmt
  rw [if_neg (Nat.ne_of_gt (Nat.pow_pos (by omega))), List.length_map, List.length_reverse, digs_pow2]
theorem word_pow2 (L : Nat) : 18446744073709551616 ^ L = 2 ^ (64 * L) := by
  rw [Nat.pow_mul, show (2 : Nat) ^ 64 = 18446744073709551616 by decide]
theorem half_pow2 (L : Nat) (hL : 1 ≤ L) : 18446744073709551616 ^ L / 2 = 2 ^ (64 * L - 1) := by
  rw [word_pow2, show 64 * L = (64 * L - 1) + 1 by omega, Nat.pow_succ]
  rw [show 64 * L - 1 + 1 - 1 = 64 * L - 1 by omega]
  omega
/-- A number that is not less than a power of 2^64 has more words. -/
theorem words_ge (L N : Nat) (h : 18446744073709551616 ^ L ≤ N) : L < (wordsOf N).length := by
  have h1 := val_lt64 (wordsOf N) (wordsOf_u64 N)
  rw [wordsOf_val] at h1
  rcases Nat.lt_or_ge L (wordsOf N).length with h2 | h2
  · exact h2
  · have h3 : 18446744073709551616 ^ (wordsOf N).length ≤ 18446744073709551616 ^ L := Nat.pow_le_pow_right (by omega) h2
    exact absurd (Nat.lt_of_lt_of_le h1 h3) (by omega)
theorem pre_ge {b : Nat} {s : ByteArray} (hb : 1 ≤ b) (h : ∀ j, j < s.size → 1 ≤ dig10 ((bytes s)[j]?.getD 0)) : ∀ k, k + 1 ≤ s.size → b ^ k ≤ pre b s (k + 1)
  | 0, hk => by
    have h1 := h 0 (by omega)
    rw [pre_succ b s 0 (by omega), pre_zero, Nat.pow_zero]
    omega
  | k + 1, hk => by
    have ih := pre_ge hb h k (by omega)
    rw [pre_succ b s (k + 1) (by omega), Nat.pow_succ]
    have := Nat.mul_le_mul_right b ih
    omega
theorem pow36_ge (L k : Nat) (h : 64 * L ≤ 5 * k) : 18446744073709551616 ^ L ≤ 36 ^ k := by
  rw [word_pow2]
  have h1 : (2 : Nat) ^ (64 * L) ≤ 2 ^ (5 * k) := Nat.pow_le_pow_right (by omega) h
  rw [Nat.pow_mul 2 5 k] at h1
  exact Nat.le_trans h1 (Nat.pow_le_pow_left (by decide) k)
theorem grpT_one : ∀ l : List Int, (grpT 1 l).length = 2 * l.length
  | [] => rfl
  | c :: cs => by
    have := grpT_one cs
    simp only [grpT, Nat.mod_one, if_true, List.length_append, List.length_cons, List.length_nil]
    omega
theorem grp_one (l : List Int) (h : 0 < l.length) : (grp 1 l).length + 1 = 2 * l.length := by
  cases l with
  | nil => cases h
  | cons c cs =>
    have := grpT_one cs
    simp only [grp, List.length_cons]
    omega
end Go.Proofs.YtlmbklpidmkdcaaGreatDoor
