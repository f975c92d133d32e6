/- radix.FastParse: its closure. -/
import Derived.Test.YtmbceiaeffnigaaGreatDoorK11
namespace Go.Proofs.YtmbceiaeffnigaaGreatDoor
open Go.RowKit

/-! Plain: the number of a text that is taken apart. -/
theorem num_eq (b : Nat) (s : ByteArray) : pre b s s.size = val b ((bytes s).map dig10).reverse := by
  unfold pre
  rw [List.take_of_length_le (by rw [bytes_length]; exact Nat.le_refl _)]
theorem cut_size (s : ByteArray) (i j : Nat) (h1 : i ≤ j) (h2 : j ≤ s.size) : (s.extract i j).size = j - i := by
  rw [ByteArray.size_extract, Nat.min_eq_left h2]
theorem num_split (b : Nat) (s : ByteArray) (h : Nat) (hh : h ≤ s.size) :
    pre b s s.size = pre b (s.extract 0 h) (s.extract 0 h).size * b ^ (s.size - h) + pre b (s.extract h s.size) (s.extract h s.size).size := by
  rw [num_eq, num_eq, num_eq, bytes_extract, bytes_extract, List.drop_zero]
  have e1 : (bytes s).take s.size = bytes s := List.take_of_length_le (by rw [bytes_length]; exact Nat.le_refl _)
  rw [e1]
  have e2 : ((bytes s).drop h).length = s.size - h := by rw [List.length_drop, bytes_length]
  have e3 := List.take_append_drop h (bytes s)
  have e4 : ((bytes s).map dig10).reverse = (((bytes s).drop h).map dig10).reverse ++ (((bytes s).take h).map dig10).reverse := by
    rw [← List.reverse_append, ← List.map_append, e3]
  rw [e4, val_append, List.length_reverse, List.length_map, e2, Nat.mul_comm, Nat.add_comm]
theorem Txt.cut {s : ByteArray} {b : Nat} (h : Txt s b) (i j : Nat) (h1 : i ≤ j) (h2 : j ≤ s.size) : Txt (s.extract i j) b := by
  intro k hk
  rw [cut_size s i j h1 h2] at hk
  rw [bytes_extract, List.getElem?_drop, List.getElem?_take_of_lt (by omega)]
  exact h (i + k) (by omega)
/-- So many words a text's number has. -/
theorem num_words {s : ByteArray} {b : Nat} (hb : 2 ≤ b) (hb2 : b ≤ 36) (h : Txt s b) (hn : s.size ≤ 300) : (wordsOf (pre b s s.size)).length ≤ 29 := by
  have h1 := pre_lt hb h s.size (Nat.le_refl _)
  exact wordsOf_len _ _ (Nat.lt_trans h1 (pow_small (p := b) (by omega) 29 (by omega)))

/-- What the closure's captured boxes hold. -/
structure ReadS (pl pb pr pp m b least : Nat) (w : World) : Prop where
  cl : w.cell? ⟨pl, 0, none⟩ = some (.int .i64 (least : Int))
  cb : w.cell? ⟨pb, 0, none⟩ = some (.int .i64 (b : Int))
  cr : w.cell? ⟨pr, 0, none⟩ = some (.func (.func 61) #[] #[.pointer (some ⟨pl, 0, none⟩), .pointer (some ⟨pb, 0, none⟩), .pointer (some ⟨pr, 0, none⟩), .pointer (some ⟨pp, 0, none⟩)])
  c0 : w.cell? ⟨pp, 0, none⟩ = some (.int .i64 (b : Int))
  c1 : w.cell? ⟨pp, 1, none⟩ = some (.map (some m))
theorem cell_notmap {w : World} {p : Addr} {v : Value} {m : Nat} {es : Array MapEntry} {cl : Nat} (h : w.cell? p = some v) (hm : w.heap[m]? = some (.map es cl)) : some p.block ≠ some m := by
  intro e
  injection e with e
  unfold World.cell? at h
  rw [e, hm] at h
  simp at h
theorem ReadS.grown {pl pb pr pp m b least n : Nat} {w w' : World} (h : ReadS pl pb pr pp m b least w) (hp : PowMap w m b n) (hg : w.grownBy w' (some m)) : ReadS pl pb pr pp m b least w' := by
  obtain ⟨es, cl, hm, _⟩ := hp
  exact ⟨hg.cell h.cl (cell_notmap h.cl hm), hg.cell h.cb (cell_notmap h.cb hm), hg.cell h.cr (cell_notmap h.cr hm), hg.cell h.c0 (cell_notmap h.c0 hm), hg.cell h.c1 (cell_notmap h.c1 hm)⟩
theorem SI.powmap {w w' : World} {v : Value} {xs : List Int} {m b n : Nat} (h : SI w .u64 v xs) (hp : PowMap w m b n) (hg : w.grownBy w' (some m)) : SI w' .u64 v xs := by
  obtain ⟨es, cl, hm, _⟩ := hp
  exact h.grown hg (h.notmap hm)

theorem nopanic {P : Program} {f : Func} {K : Act → World → Prop} {w w' : World} {m b n : Nat} {xs : List Int} {c : _} {a : Act} (h : Exit.then K (bodyPost P f (RetPow w m b n xs)) (.panic c) a w') : False := by
  simp [Exit.then, bodyPost, RetPow] at h

set_option maxHeartbeats 2000000 in
set_option maxRecDepth 100000 in
theorem readC_calls (pl pb pr pp m b least : Nat) (hb : 2 ≤ b) (hb2 : b ≤ 36) (hl : 2 ≤ least) (hl2 : least ≤ 64) : ∀ (N : Nat) (s : ByteArray) (n : Nat) (w : World), s.size ≤ N → s.size ≤ 300 → Txt s b → n + s.size ≤ 100000 → ReadS pl pb pr pp m b least w → PowMap w m b n →
    Calls Tryz.prog 61 #[.string s, .pointer (some ⟨pl, 0, none⟩), .pointer (some ⟨pb, 0, none⟩), .pointer (some ⟨pr, 0, none⟩), .pointer (some ⟨pp, 0, none⟩)] w (RetPow w m b (n + (s.size - 1)) (wordsOf (pre b s s.size)))
  | N, s, n, w, hN, hs, ht, hn, hR, hP => by
    have HR := Lib.hid hR
    have HP := Lib.hid hP
    have HT := Lib.hid ht
    obtain ⟨r1, r2, r3, r4, r5⟩ := hR
    clear hP ht
    by_cases hlt : s.size < least
    · have HNUM := Lib.hid (numberR_calls s b w hb hb2 (by omega) HT.out)
      have hd : decide ((s.size : Int) < (least : Int)) = true := decide_eq_true (by omega)
      go_enter Tryz.func61, Tryz.ntmps61
      go_wp2_with (go_at_call 42; refine HNUM.out.mono ?_; rintro e w3 ⟨v3, rfl, q1, q2⟩; have G3 := Lib.hid q1; have B3 := Lib.hid q2; clear q1 q2)
      go_ret
      exact ⟨_, rfl, G3.out, (HP.out.below B3.out).mono (by omega), grown_below B3.out⟩
    · obtain ⟨N, rfl⟩ : ∃ M, N = M + 1 := ⟨N - 1, by omega⟩
      have hd : decide ((s.size : Int) < (least : Int)) = false := decide_eq_false (by omega)
      obtain ⟨k, hk⟩ : ∃ k, k = s.size / 2 := ⟨_, rfl⟩
      have hk1 : 1 ≤ k := by omega
      have hk2 : k + 1 ≤ s.size := by omega
      have hkq : (s.size : Int).tdiv 2 = (k : Int) := by rw [hk]; rfl
      obtain ⟨h, hh⟩ : ∃ h, h + k = s.size := ⟨s.size - k, by omega⟩
      have hks : (s.size : Int) - (k : Int) = (h : Int) := by omega
      have HH := Lib.hid hh
      have hhs : h ≤ s.size := by omega
      have hh1 : 1 ≤ h := by omega
      have hhN : h ≤ N := by omega
      have hkN : k ≤ N := by omega
      clear hh
      have HKQ := Lib.hid hk
      clear hk
      go_enter Tryz.func61, Tryz.ntmps61
      go_upto_region 4 with (fail)
      refine wp_region_held (S := fun w' => w'.cell? ⟨pr, 0, none⟩ = some (.func (.func 61) #[] #[.pointer (some ⟨pl, 0, none⟩), .pointer (some ⟨pb, 0, none⟩), .pointer (some ⟨pr, 0, none⟩), .pointer (some ⟨pp, 0, none⟩)])) (by kernel_rfl) ?_
      have hS : w.drew.cell? ⟨pr, 0, none⟩ = some (.func (.func 61) #[] #[.pointer (some ⟨pl, 0, none⟩), .pointer (some ⟨pb, 0, none⟩), .pointer (some ⟨pr, 0, none⟩), .pointer (some ⟨pp, 0, none⟩)]) := r3
      show wpAnyH _ _ _ _ _ _ _ _ w.drew
      have hw1 : IntKind.i64.wrap (h : Int) = (h : Int) := IntWalk.i64_in _ (by omega)
      refine held_take 0 (.func (.func 61) #[] #[.pointer (some ⟨pl, 0, none⟩), .pointer (some ⟨pb, 0, none⟩), .pointer (some ⟨pr, 0, none⟩), .pointer (some ⟨pp, 0, none⟩)]) rfl (by kernel_rfl) (by kernel_rfl) (by kernel_rfl) (fun _ _ _ h => nopanic h) (by rfl) (fun w' hSw => by (try dsimp only at hSw); go_simp) hS ?_
      (try simp only [Act.put, List.setIfInBounds_toArray, List.set_cons_zero, List.set_cons_succ])
      refine held_take 1 (.string s) rfl (by kernel_rfl) (by kernel_rfl) (by kernel_rfl) (fun _ _ _ h => nopanic h) (by rfl) (fun w' hSw => by (try dsimp only at hSw); go_simp) hS ?_
      (try simp only [Act.put, List.setIfInBounds_toArray, List.set_cons_zero, List.set_cons_succ])
      refine held_take 2 (.string s) rfl (by kernel_rfl) (by kernel_rfl) (by kernel_rfl) (fun _ _ _ h => nopanic h) (by rfl) (fun w' hSw => by (try dsimp only at hSw); go_simp) hS ?_
      (try simp only [Act.put, List.setIfInBounds_toArray, List.set_cons_zero, List.set_cons_succ])
      refine held_take 3 (.int .i64 (s.size : Int)) rfl (by kernel_rfl) (by kernel_rfl) (by kernel_rfl) (fun _ _ _ h => nopanic h) (by rfl) (fun w' hSw => by (try dsimp only at hSw); go_simp) hS ?_
      (try simp only [Act.put, List.setIfInBounds_toArray, List.set_cons_zero, List.set_cons_succ])
      refine held_take 4 (.int .i64 (k : Int)) rfl (by kernel_rfl) (by kernel_rfl) (by kernel_rfl) (fun _ _ _ h => nopanic h) (by rfl) (fun w' hSw => by (try dsimp only at hSw); go_simp) hS ?_
      (try simp only [Act.put, List.setIfInBounds_toArray, List.set_cons_zero, List.set_cons_succ])
      refine held_take 5 (.int .i64 (h : Int)) rfl (by kernel_rfl) (by kernel_rfl) (by kernel_rfl) (fun _ _ _ h => nopanic h) (by rfl) (fun w' hSw => by (try dsimp only at hSw); go_simp) hS ?_
      (try simp only [Act.put, List.setIfInBounds_toArray, List.set_cons_zero, List.set_cons_succ])
      refine held_take 6 (.string (s.extract 0 h)) rfl (by kernel_rfl) (by kernel_rfl) (by kernel_rfl) (fun _ _ _ h => nopanic h) (by rfl) (fun w' hSw => by (try dsimp only at hSw); go_simp) hS ?_
      (try simp only [Act.put, List.setIfInBounds_toArray, List.set_cons_zero, List.set_cons_succ])
      refine held_take 8 (.func (.func 61) #[] #[.pointer (some ⟨pl, 0, none⟩), .pointer (some ⟨pb, 0, none⟩), .pointer (some ⟨pr, 0, none⟩), .pointer (some ⟨pp, 0, none⟩)]) rfl (by kernel_rfl) (by kernel_rfl) (by kernel_rfl) (fun _ _ _ h => nopanic h) (by rfl) (fun w' hSw => by (try dsimp only at hSw); go_simp) hS ?_
      (try simp only [Act.put, List.setIfInBounds_toArray, List.set_cons_zero, List.set_cons_succ])
      refine held_take 9 (.string s) rfl (by kernel_rfl) (by kernel_rfl) (by kernel_rfl) (fun _ _ _ h => nopanic h) (by rfl) (fun w' hSw => by (try dsimp only at hSw); go_simp) hS ?_
      (try simp only [Act.put, List.setIfInBounds_toArray, List.set_cons_zero, List.set_cons_succ])
      refine held_take 10 (.string s) rfl (by kernel_rfl) (by kernel_rfl) (by kernel_rfl) (fun _ _ _ h => nopanic h) (by rfl) (fun w' hSw => by (try dsimp only at hSw); go_simp) hS ?_
      (try simp only [Act.put, List.setIfInBounds_toArray, List.set_cons_zero, List.set_cons_succ])
      refine held_take 11 (.int .i64 (s.size : Int)) rfl (by kernel_rfl) (by kernel_rfl) (by kernel_rfl) (fun _ _ _ h => nopanic h) (by rfl) (fun w' hSw => by (try dsimp only at hSw); go_simp) hS ?_
      (try simp only [Act.put, List.setIfInBounds_toArray, List.set_cons_zero, List.set_cons_succ])
      refine held_take 12 (.int .i64 (k : Int)) rfl (by kernel_rfl) (by kernel_rfl) (by kernel_rfl) (fun _ _ _ h => nopanic h) (by rfl) (fun w' hSw => by (try dsimp only at hSw); go_simp) hS ?_
      (try simp only [Act.put, List.setIfInBounds_toArray, List.set_cons_zero, List.set_cons_succ])
      refine held_take 13 (.int .i64 (h : Int)) rfl (by kernel_rfl) (by kernel_rfl) (by kernel_rfl) (fun _ _ _ h => nopanic h) (by rfl) (fun w' hSw => by (try dsimp only at hSw); go_simp) hS ?_
      (try simp only [Act.put, List.setIfInBounds_toArray, List.set_cons_zero, List.set_cons_succ])
      refine held_take 14 (.string (s.extract h s.size)) rfl (by kernel_rfl) (by kernel_rfl) (by kernel_rfl) (fun _ _ _ h => nopanic h) (by rfl) (fun w' hSw => by (try dsimp only at hSw); go_simp) hS ?_
      (try simp only [Act.put, List.setIfInBounds_toArray, List.set_cons_zero, List.set_cons_succ])
      have sz1 : (s.extract 0 h).size = h := by rw [cut_size s 0 h (by omega) hhs]; omega
      have sz2 : (s.extract h s.size).size = k := by rw [cut_size s h s.size hhs (Nat.le_refl _)]; have := HH.out; omega
      have HSZ := Lib.hid (And.intro sz1 sz2)
      have IH1 := Lib.hid (readC_calls pl pb pr pp m b least hb hb2 hl hl2 N (s.extract 0 h) n w.drew (by omega) (by omega) (HT.out.cut 0 h (by omega) hhs) (by omega) ⟨r1, r2, r3, r4, r5⟩ HP.out)
      refine held_one 7 rfl (by kernel_rfl) (by rfl) (fun K hK => ?_)
      clear sz1 sz2 hS
      go_simp
      refine IH1.out.mono ?_
      rintro e w3 ⟨v3, rfl, g1, g2, g3⟩
      have R3 : ReadS pl pb pr pp m b least w3 := ReadS.grown (w := w.drew) ⟨r1, r2, r3, r4, r5⟩ HP.out g3
      dsimp only
      refine hK.out _ _ R3.cr (fun hS => ?_)
      clear hK K r1 r2 r3 r4 r5 IH1
      (try simp only [Act.put, List.setIfInBounds_toArray, List.set_cons_zero, List.set_cons_succ])
      have IH2 := Lib.hid (readC_calls pl pb pr pp m b least hb hb2 hl hl2 N (s.extract h s.size) _ w3 (by have := HSZ.out.2; omega) (by have := HSZ.out.2; omega) (HT.out.cut h s.size hhs (Nat.le_refl _)) (by have := HSZ.out; omega) R3 g2)
      have G3 := Lib.hid (And.intro g1 (And.intro g2 g3))
      have HR3 := Lib.hid R3
      clear g1 g2 g3 R3
      refine held_one 15 rfl (by kernel_rfl) (by rfl) (fun K hK => ?_)
      clear hS
      go_simp
      refine IH2.out.mono ?_
      rintro e w4 ⟨v4, rfl, g1, g2, g3⟩
      have R4 : ReadS pl pb pr pp m b least w4 := ReadS.grown HR3.out G3.out.2.1 g3
      dsimp only
      refine hK.out _ _ R4.cr (fun hS => ?_)
      clear hK K IH2
      (try simp only [Act.put, List.setIfInBounds_toArray, List.set_cons_zero, List.set_cons_succ])
      refine held_take 16 v3 rfl (by kernel_rfl) (by kernel_rfl) (by kernel_rfl) (fun _ _ _ h => nopanic h) (by rfl) (fun w' hSw => by (try dsimp only at hSw); go_simp) hS ?_
      (try simp only [Act.put, List.setIfInBounds_toArray, List.set_cons_zero, List.set_cons_succ])
      refine held_take 17 v4 rfl (by kernel_rfl) (by kernel_rfl) (by kernel_rfl) (fun _ _ _ h => nopanic h) (by rfl) (fun w' hSw => by (try dsimp only at hSw); go_simp) hS ?_
      (try simp only [Act.put, List.setIfInBounds_toArray, List.set_cons_zero, List.set_cons_succ])
      refine wpAnyH_done (by kernel_rfl) ?_ _
      have h34 : SI w4 .u64 v3 _ := SI.powmap G3.out.1 G3.out.2.1 g3
      have hP4 : PowMap w4 m b (n + (s.size - 2)) := g2.mono (by have := HSZ.out; have := HH.out; omega)
      have hg4 : w.grownBy w4 (some m) := World.grownBy.trans (World.grownBy.trans (grown_below (below_drewN (Below.refl _ w) 1)) G3.out.2.2) g3
      have HF4 := Lib.hid (And.intro h34 (And.intro g1 hg4))
      have HP4 := Lib.hid hP4
      clear h34 g1 g2 g3 hP4 hg4 G3 HR3 hS
      obtain ⟨r1, r2, r3, r4, r5⟩ := R4
      have HOF := Lib.hid (ofR_calls b k m (n + (s.size - 2)) w4 HP4.out (by omega) hb hb2 hk1 (by omega))
      go_simp
      go_wp2_with (go_at_call 64; refine HOF.out.mono ?_; rintro e w5 ⟨v5, rfl, q1, q2, q3⟩; obtain ⟨A5, c5, rfl, _, _⟩ := q1.form; have G5 := Lib.hid (And.intro q1 (And.intro q2 q3)); clear q1 q2 q3)
      obtain ⟨w6, hw6⟩ : ∃ w6, w6 = w5.alloc (.cells #[.slice A5 (wordsOf (b ^ k)).length c5] 23) := ⟨_, rfl⟩
      have c6 : w6.cell? ⟨w5.heap.size, 0, none⟩ = some (.slice A5 (wordsOf (b ^ k)).length c5) := by rw [hw6]; simp [go_sem]
      have B6 : Below w5.heap.size w5 w6 := by rw [hw6]; exact below_new _ _
      rw [← hw6]
      clear hw6
      have S3 : SI w6 .u64 v3 _ := (SI.powmap HF4.out.1 HP4.out G5.out.2.2).below B6
      have S4 : SI w6 .u64 v4 _ := (SI.powmap HF4.out.2.1 HP4.out G5.out.2.2).below B6
      have n1 := num_words hb hb2 (HT.out.cut 0 h (by omega) hhs) (by have := HSZ.out.1; omega)
      have n2 := num_words hb hb2 (HT.out.cut h s.size hhs (Nat.le_refl _)) (by have := HSZ.out.2; omega)
      have n3 := pow_words (p := b) (k := k) (by omega) (by omega)
      have hnum := num_split b s h hhs
      rw [show s.size - h = k by have := HH.out; omega] at hnum
      obtain ⟨X, hX⟩ : ∃ X, X = pre b (s.extract 0 h) (s.extract 0 h).size := ⟨_, rfl⟩
      obtain ⟨Y, hY⟩ : ∃ Y, Y = pre b (s.extract h s.size) (s.extract h s.size).size := ⟨_, rfl⟩
      rw [← hX] at n1 hnum S3
      rw [← hY] at n2 hnum S4
      have HPR := Lib.hid (productR_calls v3 _ _ _ w5.heap.size w6 c6 S3 (G5.out.1.below B6) (wordsOf_u64 _) (wordsOf_u64 _) (by omega) (by omega))
      rw [wordsOf_val, wordsOf_val] at HPR
      have n4 := val_words_len (wordsOf_u64 X) (wordsOf_u64 (b ^ k))
      rw [wordsOf_val, wordsOf_val] at n4
      have HNUM := Lib.hid hnum
      have HS4 := Lib.hid S4
      have HB6 := Lib.hid B6
      have n5 : (wordsOf (X * b ^ k)).length ≤ 1000 := by omega
      have n6 : (wordsOf Y).length ≤ 1000 := by omega
      clear hX hY S3 S4 hnum c6 B6 n1 n2 n3 n4
      refine HPR.out.mono ?_
      rintro e w7 ⟨v7, rfl, q1, q2⟩
      have HPL := Lib.hid (plusR_calls v7 v4 _ _ w7 q1 (HS4.out.below q2) (wordsOf_u64 _) (wordsOf_u64 _) n5 n6)
      rw [wordsOf_val, wordsOf_val, ← HNUM.out] at HPL
      have B7 := Lib.hid q2
      clear q1 q2 HPR
      go_wp2_with (go_at_call 62; refine HPL.out.mono ?_; rintro e w8 ⟨v8, rfl, q1, q2⟩; have G8 := Lib.hid q1; have B8 := Lib.hid q2; clear q1 q2)
      go_ret
      have hB : Below w5.heap.size w5 w8 := bnx2 (bnx2 HB6.out B7.out) B8.out
      refine ⟨_, rfl, G8.out, (G5.out.2.1.below hB).mono (by have := HSZ.out; have := HH.out; omega), ?_⟩
      exact World.grownBy.trans (World.grownBy.trans HF4.out.2.2 G5.out.2.2) (grown_below hB)
end Go.Proofs.YtmbceiaeffnigaaGreatDoor
