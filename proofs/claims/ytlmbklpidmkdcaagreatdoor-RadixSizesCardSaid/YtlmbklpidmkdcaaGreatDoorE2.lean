/- radix.number. -/
import Derived.Test.YtlmbklpidmkdcaaGreatDoorC
import Derived.Test.YtlmbklpidmkdcaaGreatDoorE1
import Derived.Test.YtlmbklpidmkdcaaGreatDoorE0
import Derived.Lib.OthersKept
namespace Go.Proofs.YtlmbklpidmkdcaaGreatDoor
open Go.RowKit

theorem valC_of {c : Int} {b : Int} (h0 : 0 ≤ c) (hb2 : b ≤ 36) : valC c b = if dig10 c < b then dig10 c else -1 := by
  unfold valC digC lowC dig10
  repeat' split
  all_goals omega
def RetSI (w : World) (xs : List Int) (e : Ending) (w' : World) : Prop := ∃ v', e = .returned v' ∧ SI w' .u64 v' xs ∧ Below w.heap.size w w'

/-- An owned row is kept where its own block is. -/
theorem Own.iterAt {B e : Nat} {w : World} {k : IntKind} {v : Value} {xs : List Int} (h : Own B e w k v xs) {K : Nat} (hK : K < B) (s : ByteArray) (pos : Nat) : Own B e (w.iterAt K s pos) k v xs :=
  h.foot (fun g e1 => Lib.iterAt_other _ _ _ _ _ (by have := (World.ownsRow.lt h g e1).1; omega))
theorem Own.set2 {B e : Nat} {w : World} {k : IntKind} {v : Value} {xs : List Int} (h : Own B e w k v xs) {g : Nat} (hg : g < B) (x y : Value) : Own B e ((w.setCell ⟨g, 0, none⟩ x).setCell ⟨g, 1, none⟩ y) k v xs :=
  h.foot (fun g' e1 => heap_set2_other _ _ _ _ _ (by have := (World.ownsRow.lt h g' e1).1; omega))
theorem cells2 {w : World} {g : Nat} {a b : Value} {e : Nat} (h : w.heap[g]? = some (.cells #[a, b] e)) : w.cell? ⟨g, 0, none⟩ = some a ∧ w.cell? ⟨g, 1, none⟩ = some b ∧ w.frozen? ⟨g, 0, none⟩ = false ∧ w.frozen? ⟨g, 1, none⟩ = false := by
  refine ⟨?_, ?_, ?_, ?_⟩
  · unfold World.cell?; simp only [h]; rfl
  · unfold World.cell?; simp only [h]; rfl
  · unfold World.frozen?; simp only [h]; rfl
  · unfold World.frozen?; simp only [h]; rfl

set_option maxHeartbeats 1000000 in
set_option maxRecDepth 100000 in
theorem numberR_calls (s : ByteArray) (b : Nat) (w : World) (hb : 2 ≤ b) (hb2 : b ≤ 36) (hn : s.size ≤ 65536) (ht : Txt s b) :
    Calls Tryz.prog 23 #[.string s, .int .i64 (b : Int)] w (RetSI w (wordsOf (pre b s s.size))) := by
  obtain ⟨N, hN⟩ : ∃ N, N = pre b s s.size := ⟨_, rfl⟩
  rw [← hN]
  have HN := Lib.hid hN
  have HT := Lib.hid ht
  clear hN ht
  go_enter Tryz.func23, Tryz.ntmps23
  go_upto_region 6 with (go_at_call 24; refine (chunkOf_calls b _ hb hb2).mono ?_; rintro e w1 ⟨n, rfl, hch, hn63, hB1⟩; obtain ⟨pw, hpw⟩ : ∃ pw, pw = b ^ n := ⟨_, rfl⟩; rw [← hpw]; have HPW := Lib.hid hpw; have HCH := Lib.hid hch; have HB1 := Lib.hid hB1; clear hpw hch hB1)
  have hz1 : w.heap.size < w1.heap.size := by have := HB1.out.size; simp at this; omega
  obtain ⟨W0, hW0⟩ : ∃ W0, W0 = (w1.alloc (.cells #[.int .u64 (pw : Int), .int .i64 (n : Int)] 55)).iter s 0 := ⟨_, rfl⟩
  rw [← hW0]
  have bA : Below w1.heap.size w1 W0 := by rw [hW0]; exact (below_new _ _).trans ((below_new _ _).mono (by simp))
  have c1 : W0.heap[w.heap.size]? = some (.cells #[.int .u64 ((b ^ 0 : Nat) : Int), .int .i64 ((0 : Nat) : Int)] 55) := by
    rw [bA.block _ hz1, HB1.out.block _ (by simp), World.alloc_heap_new]
    simp
  have c2 : W0.heap[w1.heap.size]? = some (.cells #[.int .u64 (pw : Int), .int .i64 (n : Int)] 55) := by
    rw [hW0]; exact ((below_new _ _).block _ (by simp)).trans (World.alloc_heap_new _ _)
  have c3 : W0.heap[w1.heap.size + 1]? = some (.stringIter s 0) := by
    rw [hW0]
    have := World.iter_heap (w1.alloc (.cells #[.int .u64 (pw : Int), .int .i64 (n : Int)] 55)) s 0
    rwa [World.size_alloc] at this
  have B0 : Below w.heap.size w W0 := ((below_new w _).trans (HB1.out.mono (by simp))).trans (bA.mono (by omega))
  have c4 : W0.heap.size = w1.heap.size + 2 := by rw [hW0]; simp [World.iter]
  have n1 : 1 ≤ n := by
    rcases Nat.eq_zero_or_pos n with h | h
    · exfalso
      have h2 := HCH.out.2
      rw [h] at h2
      simp at h2
      omega
    · exact h
  have C4 := Lib.hid c4
  clear hW0 c4
  go_loopg [5, 7] s.size (fun m o lo wr => ∃ k j V l : Nat, m + k = s.size ∧ j < n ∧ j ≤ k ∧ lo = .int .u64 (l : Int) ∧ l < b ^ j ∧ pre b s k = V * b ^ j + l ∧ Own (w1.heap.size + 2) 42 wr .u64 o (wordsOf V) ∧ Below w.heap.size w wr ∧ w1.heap.size + 2 ≤ wr.heap.size ∧ wr.heap[w.heap.size]? = some (.cells #[.int .u64 ((b ^ j : Nat) : Int), .int .i64 (j : Int)] 55) ∧ wr.heap[w1.heap.size]? = some (.cells #[.int .u64 (pw : Int), .int .i64 (n : Int)] 55) ∧ wr.heap[w1.heap.size + 1]? = some (.stringIter s k))
  case atStart => exact ⟨0, 0, 0, 0, rfl, n1, Nat.le_refl _, rfl, by simp, by rw [pre_zero]; simp, by rw [wordsOf_zero]; exact Own.nil _ _ _ _, B0, by rw [C4.out]; exact Nat.le_refl _, c1, c2, c3⟩
  case round =>
    obtain ⟨k, j, V, l, hk, hj, hjk, rfl, hl, hv, ho, hB, hz, hc, hw, hi⟩ := hrel
    have hks : k ≤ s.size := by omega
    have hpl := pre_lt hb HT.out k hks
    have hVl := pow_lt_of hb2 (num_le (by omega) hv hpl)
    obtain ⟨p, hp⟩ : ∃ p, p = b ^ j := ⟨_, rfl⟩
    rw [← hp] at hl hc
    have hpw2 : b ^ (j + 1) ≤ b ^ n := pow_lt_pow' hb (by omega)
    have hpn := HCH.out.1
    have hp64 : p < 18446744073709551616 := by rw [hp]; exact Nat.lt_of_le_of_lt (pow_lt_pow' hb (by omega)) hpn
    have hl64 : l < 18446744073709551616 := by omega
    have HV := Lib.hid hv
    have HO := Lib.hid ho
    have HB := Lib.hid hB
    have HC := Lib.hid hc
    have HW := Lib.hid hw
    have HI := Lib.hid hi
    have HP := Lib.hid hp
    have HVL := Lib.hid hVl
    have HPL := Lib.hid hpl
    have HPN := Lib.hid (And.intro hpw2 hpn)
    obtain ⟨x0, x1, x2, x3⟩ := cells2 hc
    clear hv ho hB hc hw hi hp hVl hpl hpw2 hpn
    by_cases hlt : k < s.size
    · have hd := HT.out k hlt
      have hat := bytes_at s k hlt
      have hrg := bytes_range s k
      have hps := pre_succ b s k hlt
      have hpl2 := pre_lt hb HT.out (k + 1) (by omega)
      obtain ⟨c, hcc⟩ : ∃ c, c = (bytes s)[k]?.getD 0 := ⟨_, rfl⟩
      rw [← hcc] at hd hat hrg hps
      have hc128 := dig10_lt c (b := (b : Int)) (by omega) hd
      have hd0 := dig10_pos c hrg.1
      obtain ⟨d, hdd⟩ : ∃ d : Nat, dig10 c = (d : Int) := ⟨(dig10 c).toNat, by omega⟩
      have hvc : valC c (b : Int) = (d : Int) := by rw [valC_of hrg.1 (by omega), if_pos hd, hdd]
      rw [hdd, Int.toNat_natCast] at hps
      rw [hdd] at hd
      have hdb : d < b := by omega
      obtain ⟨st1, st2⟩ := num_step (b := b) (j := j) (V := V) (lo := l) (d := d) (p := pre b s k) hdb (by rw [← HP.out]; exact hl) HV.out
      obtain ⟨r, hr⟩ : ∃ r, r = l * b + d := ⟨_, rfl⟩
      obtain ⟨p', hp'⟩ : ∃ p', p' = b ^ (j + 1) := ⟨_, rfl⟩
      rw [← hr] at st1 st2
      rw [← hp'] at st1 st2
      rw [← hps] at st1
      have hpp : p * b = p' := by rw [hp', HP.out, Nat.pow_succ]
      have hp'64 : p' < 18446744073709551616 := by rw [hp']; exact Nat.lt_of_le_of_lt HPN.out.1 HPN.out.2
      have m1 : IntKind.u64.wrap (b : Int) = (b : Int) := wrap_u64 _ (by omega) (by omega)
      have m2 : IntKind.u64.wrap ((p : Int) * (b : Int)) = (p' : Int) := by
        rw [← Int.natCast_mul, hpp]
        exact wrap_u64 _ (by omega) (by omega)
      have m3 : IntKind.u64.wrap ((l : Int) * (b : Int)) = ((l * b : Nat) : Int) := by
        rw [← Int.natCast_mul]
        exact wrap_u64 _ (by omega) (by omega)
      have m4 : IntKind.u64.wrap (IntKind.u64.wrap ((l : Int) * (b : Int)) + (d : Int)) = (r : Int) := by
        rw [m3, ← Int.natCast_add, ← hr]
        exact wrap_u64 _ (by omega) (by omega)
      have m5 : IntKind.u64.wrap (d : Int) = (d : Int) := wrap_u64 _ (by omega) (by omega)
      clear m3
      obtain ⟨W1, hW1⟩ : ∃ W1, W1 = wr.iterAt (w1.heap.size + 1) s (k + 1) := ⟨_, rfl⟩
      have hnx : ∀ ty, (Instr.next (.pointer (some ⟨w1.heap.size + 1, 0, none⟩)) true ty).run Tryz.prog wr = .ok (.tuple #[.bool true, .int .i64 (k : Int), .int .i32 c]) W1 := fun ty => by
        rw [hat, hW1]
        exact Lib.run_next_ascii_at _ _ _ _ _ HI.out hlt (by omega)
      have i1 : W1.heap[w.heap.size]? = some (.cells #[.int .u64 (p : Int), .int .i64 (j : Int)] 55) := by rw [hW1]; exact (Lib.iterAt_other _ _ _ _ _ (by omega)).trans HC.out
      have i2 : W1.heap[w1.heap.size]? = some (.cells #[.int .u64 (pw : Int), .int .i64 (n : Int)] 55) := by rw [hW1]; exact (Lib.iterAt_other _ _ _ _ _ (by omega)).trans HW.out
      have i3 : W1.heap[w1.heap.size + 1]? = some (.stringIter s (k + 1)) := by rw [hW1]; exact Lib.iterAt_heap _ _ _ _ _ HI.out
      have i4 : Own (w1.heap.size + 2) 42 W1 .u64 u5 (wordsOf V) := by rw [hW1]; exact HO.out.iterAt (by omega) _ _
      have i5 : Below w.heap.size w W1 := by rw [hW1]; exact Lib.below_iterAt HB.out (by omega) _ _
      have i6 : W1.heap.size = wr.heap.size := by rw [hW1]; exact Lib.iterAt_size _ _ _ _
      obtain ⟨y0, y1, y2, y3⟩ := cells2 i1
      have HH := Lib.hid (And.intro i1 (And.intro i2 (And.intro i3 (And.intro i4 (And.intro i5 i6)))))
      have HS := Lib.hid (And.intro st1 (And.intro st2 (And.intro hps (And.intro hp' hr))))
      have HVC := Lib.hid hvc
      clear st1 st2 hps hp' hr hpp hW1 i1 i2 i3 i4 i5 i6 hvc hat hcc hdd hd
      go_upto_region 10 with (go_at_call 48; refine (valueR_ascii c (b : Int) _ hrg.1 hc128.1 (by omega) (by omega)).mono ?_; rintro e w' ⟨rfl, rfl⟩; rw [HVC.out])
      obtain ⟨W2, hW2⟩ : ∃ W2, W2 = (W1.setCell ⟨w.heap.size, 0, none⟩ (.int .u64 (p' : Int))).setCell ⟨w.heap.size, 1, none⟩ (.int .i64 ((j : Int) + 1)) := ⟨_, rfl⟩
      rw [← hW2]
      obtain ⟨i1, i2, i3, i4, i5, i6⟩ := HH.out
      have j1 : W2.heap[w.heap.size]? = some (.cells #[.int .u64 (p' : Int), .int .i64 ((j : Int) + 1)] 55) := by rw [hW2]; exact heap_set2 _ _ _ _ _ _ _ i1
      have j2 : W2.heap[w1.heap.size]? = some (.cells #[.int .u64 (pw : Int), .int .i64 (n : Int)] 55) := by rw [hW2]; exact (heap_set2_other _ _ _ _ _ (by omega)).trans i2
      have j3 : W2.heap[w1.heap.size + 1]? = some (.stringIter s (k + 1)) := by rw [hW2]; exact (heap_set2_other _ _ _ _ _ (by omega)).trans i3
      have j4 : Own (w1.heap.size + 2) 42 W2 .u64 u5 (wordsOf V) := by rw [hW2]; exact i4.set2 (by omega) _ _
      have j5 : Below w.heap.size w W2 := by rw [hW2]; exact (i5.setCell (p := ⟨w.heap.size, 0, none⟩) (by simp) _).setCell (p := ⟨w.heap.size, 1, none⟩) (by simp) _
      have j6 : w1.heap.size + 2 ≤ W2.heap.size := by rw [hW2]; simp; omega
      obtain ⟨z0, z1, z2, z3⟩ := cells2 j1
      obtain ⟨z4, z5, _, _⟩ := cells2 j2
      have HJ := Lib.hid (And.intro j1 (And.intro j2 (And.intro j3 (And.intro j4 j5))))
      clear hW2 i1 i2 i3 i4 i5 i6 j1 j2 j3 j4 j5 y0 y1 y2 y3 x0 x1 x2 x3 m1 m2 m4 m5 hnx
      have hce := fun w p j p' j' => chunk_eql w p j p' j'
      have hcg := fun w x y xs ys => chunk_guard w x y xs ys
      by_cases hjn : j + 1 = n
      · have hpw3 : pw = p' := by rw [HPW.out, HS.out.2.2.2.1, hjn]
        have q1 : ((p' : Int) == (pw : Int)) = true := by rw [hpw3]; simp
        have q2 : ((j : Int) + 1 == (n : Int)) = true := by rw [← hjn]; simp
        have HJN := Lib.hid hjn
        have HPW3 := Lib.hid hpw3
        clear hjn hpw3
        have hr64 : r < 18446744073709551616 := by have := HS.out.2.1; omega
        have hnew : V * p' + r = pre b s (k + 1) := HS.out.1.symm
        have HNW := Lib.hid hnew
        clear hnew
        go_wp2_with (go_at_call 49; refine (moreR_calls _ (wordsOf V) p' r _ HJ.out.2.2.2.1.si (wordsOf_u64 _) (by have := HVL.out; omega) hp'64 hr64).mono ?_; rintro e w5 ⟨v5, rfl, q5, q6⟩; rw [wordsOf_val, HNW.out] at q5; have G1 := Lib.hid q5; have G2 := Lib.hid q6; obtain ⟨z6, z7, z8, z9⟩ := cells2 ((q6.block _ (show w.heap.size < W2.heap.size by omega)).trans HJ.out.1); clear q5 q6)
        go_roundg (gk - 1)
        case rel => exact ⟨k + 1, 0, pre b s (k + 1), 0, by omega, n1, by omega, rfl, by simp, by simp, (G1.out.base j6).set2 (by omega) _ _, ((HJ.out.2.2.2.2.trans (G2.out.mono (by omega))).setCell (p := ⟨w.heap.size, 0, none⟩) (by simp) _).setCell (p := ⟨w.heap.size, 1, none⟩) (by simp) _, by have := G2.out.size; simp; omega, heap_set2 _ _ _ _ _ _ _ ((G2.out.block _ (by omega)).trans HJ.out.1), (heap_set2_other _ _ _ _ _ (by omega)).trans ((G2.out.block _ (by omega)).trans HJ.out.2.1), (heap_set2_other _ _ _ _ _ (by omega)).trans ((G2.out.block _ (by omega)).trans HJ.out.2.2.1)⟩
        case measure => omega
      · have q2 : ((j : Int) + 1 == (n : Int)) = false := beq_eq_false_iff_ne.2 (by omega)
        go_wp2
        go_roundg (gk - 1)
        case rel => exact ⟨k + 1, j + 1, V, r, by omega, by omega, by omega, rfl, by rw [← HS.out.2.2.2.1]; exact HS.out.2.1, by rw [← HS.out.2.2.2.1]; exact HS.out.1, HJ.out.2.2.2.1, HJ.out.2.2.2.2, j6, by rw [← HS.out.2.2.2.1]; exact HJ.out.1, HJ.out.2.1, HJ.out.2.2.1⟩
        case measure => omega
    · have hkk : k = s.size := by omega
      have hnx : ∀ ty, (Instr.next (.pointer (some ⟨w1.heap.size + 1, 0, none⟩)) true ty).run Tryz.prog wr = .ok (.tuple #[.bool false]) wr := fun ty => Lib.run_next_end_at _ _ _ _ _ HI.out hlt
      have hYtlmbklpidmkdcaaGreatDoor : N = V * p + l := by rw [HN.out, ← hkk, HV.out, HP.out]
      have HYtlmbklpidmkdcaaGreatDoor := Lib.hid hYtlmbklpidmkdcaaGreatDoor
      have HKK := Lib.hid hkk
      clear hkk hYtlmbklpidmkdcaaGreatDoor
      go_wp2_with (go_at_call 49; refine (moreR_calls _ (wordsOf V) p l _ HO.out.si (wordsOf_u64 _) (by have := HVL.out; omega) hp64 hl64).mono ?_; rintro e w5 ⟨v5, rfl, q1, q2⟩; rw [wordsOf_val, ← HYtlmbklpidmkdcaaGreatDoor.out] at q1; have G1 := Lib.hid q1; have G2 := Lib.hid q2; clear q1 q2)
      go_ret
      exact ⟨_, rfl, G1.out.si, HB.out.trans (G2.out.mono HB.out.size)⟩
end Go.Proofs.YtlmbklpidmkdcaaGreatDoor
