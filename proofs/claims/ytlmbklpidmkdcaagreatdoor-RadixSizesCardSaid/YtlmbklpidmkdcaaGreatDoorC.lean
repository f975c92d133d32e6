/- radix.digits and radix.text. radix.large, isBase, short, Format. radix.Pad. The law's own helpers. Groups of a text, joined. Plain. radix.Group. slices.AppendSeq, slices.Collect. slices.Collect, radix.Digits, radix.Tail. radix.more. radix.fit, radix.value at ASCII. -/
import Derived.Test.YtlmbklpidmkdcaaGreatDoorB
import Derived.Test.YtlmbklpidmkdcaaGreatDoorA
import Derived.Lib.Repeat
import Derived.Lib.Join
import Derived.Sort.CutIn
import Derived.Shelf.Spec.BitsCarry
namespace Go.Proofs.YtlmbklpidmkdcaaGreatDoor
open Go.RowKit Go.Shelf
attribute [local go_sem] Oper.semAt_some wide_fn wide_depth

theorem digitsR_calls (A : Option Addr) (n c : Nat) (b : Nat) (w : World) : Calls Tryz.prog 38 #[.slice A n c, .int .i64 (b : Int)] w fun e w' => e = .returned (.func (.func 70) #[] #[.pointer (some ⟨w.heap.size + 1, 0, none⟩), .pointer (some ⟨w.heap.size, 0, none⟩)]) ∧ w' = (w.alloc (.cells #[.slice A n c] 23)).alloc (.cells #[.int .i64 (b : Int)] 3) := by
  go_enter Tryz.func38, Tryz.ntmps38
  go_wp2
  go_ret
  exact ⟨rfl, rfl⟩

/-- 'append(out, ys...)' at an operation, out the call's own: the raw word. -/
theorem wp_app_raw {P : Program} {w W0 : World} {o : Oper} {a : Act} {K : Act → World → Prop} {Q : Exit → Act → World → Prop} (s x : Operand) (t : TypeId)
    (ho : o.op = .call { callee := .builtin .append, args := #[s, x], argTypes := #[t, t] })
    (B e bytes : Nat) (k : IntKind) (ht : P.underlying t = some (.slice e)) (hinfo : (P.info? e).map (fun i => (i.zero, i.size, i.bytes)) = some (some (.int k 0), 1, bytes))
    (v : Value) (xs : List Int) (q : Int) (hs : a.eval s = v) (hx : a.eval x = .slice (some ⟨w.heap.size, 0, none⟩) 1 1) (hown : Own B e w k v xs)
    (h63 : xs.length + 1 ≤ 1099511627776) (hbytes : bytes ≤ 16) (hB : Below B W0 w) (hBw : B ≤ w.heap.size)
    (hK : ∀ v' w', Own B e w' k v' (xs ++ [q]) → Below B W0 w' → w.grownBy w' v.ownBlock → (v'.ownBlock = v.ownBlock ∨ ∃ g, v'.ownBlock = some g ∧ w.heap.size ≤ g) → K (a.put o.dst v') w') : o.wp P a (w.alloc (.cells #[.int k q] e)) K Q := by
  obtain ⟨i, hi, hz, hsz, hby⟩ := info_parts hinfo
  have hbl : ∀ j, v.ownBlock = some j → B ≤ j := fun j hj => (World.ownsRow.lt hown j hj).1
  have hu : SI (w.alloc (.cells #[.int k q] e)) k (.slice (some ⟨w.heap.size, 0, none⟩) 1 1) [q] := SI.one w k q e
  obtain ⟨hn, hnews⟩ := hu.news
  obtain ⟨v', w', hr, h2, h3, _, h5⟩ := run_append_own_at (P := P) (w.alloc (.cells #[.int k q] e)) B t o.type e i (.int k 0) 1 bytes ht hi hz hsz hby (by rfl) (by decide) v xs.length (xs.map (Value.int k)) (Own.alloc hown _) ⟨w.heap.size, 0, none⟩ 1 1 ([q].map (Value.int k)) (by simp) hnews (ints_one k [q]) (by simp only [maxLen]; omega)
    (by have : (xs.length + 1) * bytes ≤ 1099511627776 * 16 := Nat.mul_le_mul h63 hbytes
        omega) (by simp; omega)
  unfold Oper.wp execOp
  simp only [ho, resolve, invoke, builtin, Sem.run_bind, Sem.run_pure, Result.andThen_ok, List.map_toArray, List.map_cons, List.map_nil, hs, hx, hr]
  have hg0 := World.grownBy_alloc w (.cells #[.int k q] e) v.ownBlock
  refine hK v' w' (Own.app h2) ((hB.alloc hBw _).grown h3 (by simp; omega) hbl) (hg0.trans h3) ?_
  rcases h5 with h5 | h5
  · exact .inl h5
  · exact .inr ⟨_, h5, by simp⟩


theorem fmt_zero_iff {b n : Nat} (hb : 2 ≤ b) : (digs b n).length = 0 ↔ n = 0 := by
  constructor
  · intro h
    rcases Nat.eq_zero_or_pos n with h0 | h0
    · exact h0
    · exact absurd (List.eq_nil_of_length_eq_zero h) (digs_ne (by omega) hb)
  · intro h; subst h; rw [digs_zero]; rfl

set_option maxHeartbeats 1000000 in
set_option maxRecDepth 100000 in
theorem textR_calls (v : Value) (xs : List Int) (b : Nat) (w : World) (hr : SI w .u64 v xs) (hu : U64 xs) (hn : xs.length ≤ 4096) (hb : 2 ≤ b) (hb2 : b ≤ 36) :
    Calls Tryz.prog 20 #[v, .int .i64 (b : Int)] w (RetB w (.string (strOf (fmt b (val 18446744073709551616 xs))))) := by
  obtain ⟨A, c, rfl, hcc, hcell⟩ := hr.form
  obtain ⟨n, hn'⟩ : ∃ n, n = xs.length := ⟨_, rfl⟩
  rw [← hn'] at hr hcc ⊢
  have HLN := Lib.hid hn'
  have HU := Lib.hid hu
  have HR := Lib.hid hr
  have hlen := digs_words hb xs hu
  obtain ⟨N, hN⟩ : ∃ N, N = val 18446744073709551616 xs := ⟨_, rfl⟩
  rw [← hN] at hlen ⊢
  have HN := Lib.hid hN
  obtain ⟨R, hR⟩ : ∃ R, R = RetB w (.string (strOf (fmt b N))) := ⟨_, rfl⟩
  rw [← hR]
  have HRet := Lib.hid hR
  clear hr hcell hN hR hn' hu
  refine (callsIn_wide (n := 1)).1 ?_
  refine callsIn_of_wp_marks Tryz.func20 rfl trivial ?_ rfl
  simp only [Tryz.ntmps20, List.size_toArray, List.length_cons, List.length_nil, Nat.reduceAdd, Nat.reduceSub, Array.replicate_succ, Array.replicate_zero, List.push_toArray, List.append_toArray, List.nil_append, List.cons_append]
  refine wpIn_wide.2 ?_
  go_wp2_with (go_at_call 38; refine (digitsR_calls _ _ _ _ _).mono ?_; rintro e w' ⟨rfl, rfl⟩)
  rename_i hKa
  have hA : n ≠ 0 → ∀ i, (Value.slice A n 0).ownBlock = some i → i < w.heap.size := by
    intro hne i hi
    have hx : xs ≠ [] := fun e => by have := HLN.out; rw [e] at this; exact hne this
    obtain ⟨g', e, hlt⟩ := HR.out.block hx
    have e' : (Value.slice A n 0).ownBlock = some g' := by cases A <;> exact e
    rw [e'] at hi
    injection hi with hi
    omega
  obtain ⟨w5, hw5⟩ : ∃ w5, w5 = ((w.alloc (.cells #[.slice none 0 0] 25)).alloc (.cells #[.slice A n c] 23)).alloc (.cells #[.int .i64 (b : Int)] 3) := ⟨_, rfl⟩
  have f1 : w5.cell? ⟨w.heap.size, 0, none⟩ = some (.slice none 0 0) := by rw [hw5]; simp [go_sem]
  have f2 : w5.cell? ⟨w.heap.size + 1, 0, none⟩ = some (.slice A n c) := by rw [hw5]; simp [go_sem]
  have f3 : w5.cell? ⟨w.heap.size + 1 + 1, 0, none⟩ = some (.int .i64 (b : Int)) := by rw [hw5]; simp [go_sem]
  have f4 : w5.frozen? ⟨w.heap.size, 0, none⟩ = false := by rw [hw5]; simp [go_sem]
  have f5 : w5.frozen? ⟨w.heap.size + 1, 0, none⟩ = false := by rw [hw5]; simp [go_sem]
  have f6 : w5.heap.size = w.heap.size + 1 + 1 + 1 := by rw [hw5]; simp
  have f7 : Below w.heap.size w w5 := by rw [hw5]; exact ((below_new _ _).trans ((below_new _ _).mono (by simp))).trans ((below_new _ _).mono (by simp; omega))
  rw [← hw5]
  have HIT := Lib.hid (digits1_iter (w.heap.size + 1 + 1) (w.heap.size + 1) A n c xs b w.heap.size w5 f3 f2 f5 (HR.out.below f7) HU.out hn hb hb2 (by omega) (by omega))
  rw [← HN.out] at HIT
  have HDG := Lib.hid (digs_dig b hb N)
  clear hw5 f2 f3 f5
  refine (wpIn_wide (n := 0)).1 (wpIn_range (gf := 70) (lb := #[.pointer (some ⟨w.heap.size + 1 + 1, 0, none⟩), .pointer (some ⟨w.heap.size + 1, 0, none⟩)]) rfl (enters_of Tryz.func70 (by kernel_rfl) rfl) HIT.out (by intro x; rfl) (by omega)
    (fun k C W => ∃ (ov : Value), k ≤ (digs b N).length ∧ Own (w.heap.size + 1) 5 W .u8 ov (((digs b N).take k).map chr) ∧ W.cell? ⟨w.heap.size, 0, none⟩ = some ov ∧ W.frozen? ⟨w.heap.size, 0, none⟩ = false ∧ Below w.heap.size w W ∧
      (∀ i, C i ↔ i = w.heap.size ∨ ov.ownBlock = some i))
    (fun i => i = w.heap.size ∨ (Value.slice none 0 0).ownBlock = some i) ?lt ?step ?start ?sep ?foot (fun x => { tmps := #[.slice A n c, .int .i64 (b : Int), undef, undef, .string ⟨#[]⟩, .pointer (some ⟨w.heap.size, 0, none⟩), .int .i64 x, .slice A n c, .int .i64 (b : Int), .func (.func 70) #[] #[.pointer (some ⟨w.heap.size + 1 + 1, 0, none⟩), .pointer (some ⟨w.heap.size + 1, 0, none⟩)], .int .i64 x, undef, undef, undef, undef, undef, undef, undef, undef, undef, undef, undef, undef], defers := [] }) ?assign ?body ?done)
  case lt =>
    rintro k C W ⟨ov, g1, g2, g3, g4, g5, g6⟩ i hi
    rcases (g6 i).1 hi with h | h
    · subst h; exact World.block_lt_of_cell? W _ g3
    · exact (World.ownsRow.lt g2 i h).2
  case step =>
    rintro k C W W' ⟨ov, g1, g2, g3, g4, g5, g6⟩ hB hs
    exact ⟨ov, g1, g2.foot (fun g' e => hs _ ((g6 _).2 (.inr e))), cell_foot g3 (hs _ ((g6 _).2 (.inl rfl))), frozen_foot g4 (hs _ ((g6 _).2 (.inl rfl))), g5.trans hB, g6⟩
  case start => exact ⟨.slice none 0 0, Nat.zero_le _, Own.nil _ _ _ _, f1, f4, f7, fun i => Iff.rfl⟩
  case sep =>
    rintro i (h | h) hd
    · subst h
      rcases hd with h | h | ⟨h1, h2⟩
      · omega
      · omega
      · have := hA h1 _ h2; omega
    · cases h
  case foot =>
    rintro i (h | h | ⟨h1, h2⟩)
    · omega
    · omega
    · have := hA h1 i h2; omega
  case assign =>
    intro l x W K hK
    gi_wp2
    exact hK
  case body =>
    rintro l k hk C W ⟨ov, g1, g2, g3, g4, g5, g6⟩
    have hd := HDG.out k hk
    have hx : (digs b N)[k] = (digs b N)[k]?.getD 0 := by rw [List.getElem?_eq_getElem hk]; rfl
    have htk : ((digs b N).take (k + 1)).map chr = ((digs b N).take k).map chr ++ [chr ((digs b N)[k]?.getD 0)] := by rw [take_succ hk, List.map_append]; rfl
    rw [hx]
    generalize (digs b N)[k]?.getD 0 = x at hd htk ⊢
    obtain ⟨d0, d1⟩ := hd
    have d2 : x < 36 := by omega
    have hlk : (((digs b N).take k).map chr).length ≤ 262144 := by simp; omega
    have HTK := Lib.hid htk
    have HO := Lib.hid g2
    have HB5 := Lib.hid g5
    have HC := Lib.hid g6
    have HLA := Lib.hid (letters_at x d0 d2)
    have lo := World.block_lt_of_cell? W _ g3
    obtain ⟨oA, oc, rfl, ohc⟩ := g2.slice
    obtain ⟨on, hon⟩ : ∃ on, on = (((digs b N).take k).map chr).length := ⟨_, rfl⟩
    rw [← hon] at HO HC g3
    have HON := Lib.hid hon
    rw [← hon] at hlk
    clear htk g2 g5 g6 hx ohc hon hKa HIT f1 f4 f6 f7 hA HR HU HRet HN hlen HDG
    gi_wp2
    refine wpIn_region_held l (fun _ => True) (by kernel_rfl) (by kernel_rfl) (by rintro ⟨a, w', h⟩; exact h) trivial (fun hS => ?_)
    refine held_take 1 (.int .i64 x) rfl (by kernel_rfl) (by kernel_rfl) (by kernel_rfl) (fun _ _ _ h => h) (by rfl) (fun w' hSw => by (try dsimp only at hSw); go_simp) hS ?_
    (try simp only [Act.put, List.setIfInBounds_toArray, List.set_cons_zero, List.set_cons_succ])
    refine held_take 2 (.int .u8 (chr x)) rfl (by kernel_rfl) (by kernel_rfl) (by kernel_rfl) (fun _ _ _ h => h) (by rfl) (fun w' hSw => by go_simp; rw [HLA.out]) hS ?_
    (try simp only [Act.put, List.setIfInBounds_toArray, List.set_cons_zero, List.set_cons_succ])
    have s0 : ∀ o, (W.alloc o).cell? ⟨w.heap.size, 0, none⟩ = some (.slice oA on oc) := fun o => ((below_new W o).cell (p := ⟨w.heap.size, 0, none⟩) lo).trans g3
    refine held_two 0 3 rfl rfl (by kernel_rfl) (by rfl) (by rfl) (fun K hK => ?_) (fun K hK => ?_)
    · go_simp
      refine hK.out _ _ trivial (fun hS => ?_)
      clear hK K
      (try simp only [Act.put, List.setIfInBounds_toArray, List.set_cons_zero, List.set_cons_succ])
      refine held_one 3 rfl (by kernel_rfl) (by rfl) (fun K hK => ?_)
      go_simp
      refine hK.out _ _ trivial (fun hS => ?_)
      clear hK K
      (try simp only [Act.put, List.setIfInBounds_toArray, List.set_cons_zero, List.set_cons_succ])
      refine held_one 4 rfl (by kernel_rfl) (by rfl) (fun K hK => ?_)
      have HOd : Hid (Own (w.heap.size + 1) 5 W.drew .u8 (.slice oA on oc) (((digs b N).take k).map chr)) := HO.out.foot (fun _ _ => rfl)
      refine wp_app_raw (w := W.drew) (W0 := W) (.tmp 11) (.tmp 14) 25 rfl (w.heap.size + 1) 5 1 .u8 Tryz.underlying25 infoB (.slice oA on oc) _ _ rfl rfl HOd.out (by rw [← HON.out]; omega) (by omega) (below_drewN (Below.refl _ W) 1) (by show w.heap.size + 1 ≤ W.heap.size; omega) ?_
      intro v' w' h1 h2 h3 h4
      rw [← HTK.out] at h1
      obtain ⟨A', c', rfl, hc'⟩ := h1.slice
      have s1 : w'.cell? ⟨w.heap.size, 0, none⟩ = some (.slice oA on oc) := (h2.cell (p := ⟨w.heap.size, 0, none⟩) (by simp)).trans g3
      have s2 : w'.frozen? ⟨w.heap.size, 0, none⟩ = false := frozen_foot g4 (h2.block _ (by simp))
      obtain ⟨on', hon'⟩ : ∃ on', on' = (((digs b N).take (k + 1)).map chr).length := ⟨_, rfl⟩
      rw [← hon'] at h1 hc' h4 ⊢
      have G1 := Lib.hid h1
      have G2 := Lib.hid (And.intro h2 (And.intro h3 h4))
      clear h1 h2 h3 h4 hc' hon'
      refine hK.out _ _ trivial (fun hS => ?_)
      clear hK K
      (try simp only [Act.put, List.setIfInBounds_toArray, List.set_cons_zero, List.set_cons_succ])
      refine held_one 5 rfl (by kernel_rfl) (by rfl) (fun K hK => ?_)
      go_simp
      refine hK.out _ _ trivial (fun hS => ?_)
      clear hK K
      refine wpAnyH_done (by kernel_rfl) ?_ _
      go_simp
      show Below w.heap.size W (w'.setCell ⟨w.heap.size, 0, none⟩ (.slice A' on' c')) ∧ _
      obtain ⟨h2, h3, h4⟩ := G2.out
      have hb6 : Below w.heap.size W (w'.setCell ⟨w.heap.size, 0, none⟩ (.slice A' on' c')) := (h2.mono (Nat.le_succ _)).setCell (p := ⟨w.heap.size, 0, none⟩) (Nat.le_refl _) _
      have hown : Own (w.heap.size + 1) 5 (w'.setCell ⟨w.heap.size, 0, none⟩ (.slice A' on' c')) .u8 (.slice A' on' c') (((digs b N).take (k + 1)).map chr) := G1.out.foot (fun g' e => Below.heap_setCell _ _ _ _ (by have := (World.ownsRow.lt G1.out g' e).1; simp; omega))
      refine ⟨hb6, fun i => i = w.heap.size ∨ (Value.slice A' on' c').ownBlock = some i, ⟨hb6.size, fun i hi hc => ?_, fun i hi => ?_⟩, .slice A' on' c', by omega, hown, World.cell?_setCell_same' _ _ _ (by rw [s1]; rfl), by rw [World.frozen?_setCell]; exact s2, HB5.out.trans hb6, fun i => Iff.rfl⟩
      · have hc2 := fun h => hc ((HC.out i).2 h)
        rw [Below.heap_setCell _ _ _ _ (fun e => hc2 (.inl e))]
        exact h3.block i hi (fun e => hc2 (.inr e.symm))
      · rcases hi with h | h
        · exact .inl ((HC.out i).2 (.inl h))
        · rcases h4 with h5 | ⟨g, h5, h6⟩
          · exact .inl ((HC.out i).2 (.inr (h5 ▸ h)))
          · right
            rw [h] at h5
            injection h5 with h5
            have h6' : W.heap.size ≤ g := h6
            omega
    · go_simp
      refine hK.out _ _ trivial (fun hS => ?_)
      clear hK K
      (try simp only [Act.put, List.setIfInBounds_toArray, List.set_cons_zero, List.set_cons_succ])
      refine held_one 0 rfl (by kernel_rfl) (by rfl) (fun K hK => ?_)
      go_simp
      refine hK.out _ _ trivial (fun hS => ?_)
      clear hK K
      (try simp only [Act.put, List.setIfInBounds_toArray, List.set_cons_zero, List.set_cons_succ])
      refine held_one 4 rfl (by kernel_rfl) (by rfl) (fun K hK => ?_)
      have HOd : Hid (Own (w.heap.size + 1) 5 W.drew .u8 (.slice oA on oc) (((digs b N).take k).map chr)) := HO.out.foot (fun _ _ => rfl)
      refine wp_app_raw (w := W.drew) (W0 := W) (.tmp 11) (.tmp 14) 25 rfl (w.heap.size + 1) 5 1 .u8 Tryz.underlying25 infoB (.slice oA on oc) _ _ rfl rfl HOd.out (by rw [← HON.out]; omega) (by omega) (below_drewN (Below.refl _ W) 1) (by show w.heap.size + 1 ≤ W.heap.size; omega) ?_
      intro v' w' h1 h2 h3 h4
      rw [← HTK.out] at h1
      obtain ⟨A', c', rfl, hc'⟩ := h1.slice
      have s1 : w'.cell? ⟨w.heap.size, 0, none⟩ = some (.slice oA on oc) := (h2.cell (p := ⟨w.heap.size, 0, none⟩) (by simp)).trans g3
      have s2 : w'.frozen? ⟨w.heap.size, 0, none⟩ = false := frozen_foot g4 (h2.block _ (by simp))
      obtain ⟨on', hon'⟩ : ∃ on', on' = (((digs b N).take (k + 1)).map chr).length := ⟨_, rfl⟩
      rw [← hon'] at h1 hc' h4 ⊢
      have G1 := Lib.hid h1
      have G2 := Lib.hid (And.intro h2 (And.intro h3 h4))
      clear h1 h2 h3 h4 hc' hon'
      refine hK.out _ _ trivial (fun hS => ?_)
      clear hK K
      (try simp only [Act.put, List.setIfInBounds_toArray, List.set_cons_zero, List.set_cons_succ])
      refine held_one 5 rfl (by kernel_rfl) (by rfl) (fun K hK => ?_)
      go_simp
      refine hK.out _ _ trivial (fun hS => ?_)
      clear hK K
      refine wpAnyH_done (by kernel_rfl) ?_ _
      go_simp
      show Below w.heap.size W (w'.setCell ⟨w.heap.size, 0, none⟩ (.slice A' on' c')) ∧ _
      obtain ⟨h2, h3, h4⟩ := G2.out
      have hb6 : Below w.heap.size W (w'.setCell ⟨w.heap.size, 0, none⟩ (.slice A' on' c')) := (h2.mono (Nat.le_succ _)).setCell (p := ⟨w.heap.size, 0, none⟩) (Nat.le_refl _) _
      have hown : Own (w.heap.size + 1) 5 (w'.setCell ⟨w.heap.size, 0, none⟩ (.slice A' on' c')) .u8 (.slice A' on' c') (((digs b N).take (k + 1)).map chr) := G1.out.foot (fun g' e => Below.heap_setCell _ _ _ _ (by have := (World.ownsRow.lt G1.out g' e).1; simp; omega))
      refine ⟨hb6, fun i => i = w.heap.size ∨ (Value.slice A' on' c').ownBlock = some i, ⟨hb6.size, fun i hi hc => ?_, fun i hi => ?_⟩, .slice A' on' c', by omega, hown, World.cell?_setCell_same' _ _ _ (by rw [s1]; rfl), by rw [World.frozen?_setCell]; exact s2, HB5.out.trans hb6, fun i => Iff.rfl⟩
      · have hc2 := fun h => hc ((HC.out i).2 h)
        rw [Below.heap_setCell _ _ _ _ (fun e => hc2 (.inl e))]
        exact h3.block i hi (fun e => hc2 (.inr e.symm))
      · rcases hi with h | h
        · exact .inl ((HC.out i).2 (.inl h))
        · rcases h4 with h5 | ⟨g, h5, h6⟩
          · exact .inl ((HC.out i).2 (.inr (h5 ▸ h)))
          · right
            rw [h] at h5
            injection h5 with h5
            have h6' : W.heap.size ≤ g := h6
            omega
  case done =>
    rintro Dd C W hDd ⟨ov, g1, g2, g3, g4, g5, g6⟩ hK
    rw [List.take_length] at g2
    have hlk : ((digs b N).map chr).length ≤ 262144 := by simp; omega
    obtain ⟨oA, oc, rfl, ohc⟩ := g2.slice
    obtain ⟨on, hon⟩ : ∃ on, on = ((digs b N).map chr).length := ⟨_, rfl⟩
    rw [← hon] at g2 g3 g6 hlk ohc
    have HON := Lib.hid hon
    have HO := Lib.hid g2
    have HB5 := Lib.hid g5
    have F6 := Lib.hid f6
    have lo := World.block_lt_of_cell? W _ g3
    clear g2 g5 g6 HIT f1 f4 f6 f7 hA HR HU HN hlen HDG hon
    by_cases h0 : on = 0
    · subst h0
      have hz : N = 0 := (fmt_zero_iff hb).1 (by have := HON.out; simp at this; exact this.symm)
      go_wp2
      refine ⟨by simp, .inl ⟨_, _, rfl, run_takeDeferred hK, ?_⟩⟩
      refine ⟨_, results_tmp rfl _ _ _, ?_⟩
      rw [HRet.out]
      refine ⟨?_, HB5.out.trans (below_putObj _ (by have := F6.out; omega))⟩
      unfold fmt
      rw [if_pos hz]
      rfl
    · go_wp2_with (go_at_call 47; refine (revB_calls _ _ _ _ HO.out (by rw [← HON.out]; omega)).mono ?_; rintro e w2 ⟨rfl, q1, q2, q3⟩; have G3 := Lib.hid q3; have G1 := Lib.hid q1; have G2 := Lib.hid q2; have k3 : w2.cell? ⟨w.heap.size, 0, none⟩ = some (.slice oA on oc) := (q2.cell (p := ⟨w.heap.size, 0, none⟩) (by simp)).trans g3; have hconv := conv_bytes (P := Tryz.prog) 25 9 5 Tryz.underlying25 Tryz.underlying5 Tryz.underlying9 q1.si; clear q1 q2 q3)
      have hne : (Value.slice oA on oc).ownBlock ≠ some Dd := by
        intro e
        rcases HO.out.2 with ⟨h1, _⟩ | ⟨g', cap, cur, hv, hgb, hh, _⟩
        · rw [h1] at e; cases e
        · rw [hv] at e; injection e with e; have e' : g' = Dd := e; subst e'; rw [hK] at hh; cases hh
      refine ⟨by simp, .inl ⟨_, _, rfl, run_takeDeferred ((G3.out Dd hne).trans hK), ?_⟩⟩
      refine ⟨_, results_tmp rfl _ _ _, ?_⟩
      rw [HRet.out]
      refine ⟨?_, (HB5.out.trans (G2.out.mono (Nat.le_succ _))).trans (below_putObj _ (by have := F6.out; omega))⟩
      have hz : N ≠ 0 := fun e => h0 (by rw [HON.out, List.length_map]; exact (fmt_zero_iff hb).2 e)
      unfold fmt
      rw [if_neg hz, List.map_reverse]
      rfl
end Go.Proofs.YtlmbklpidmkdcaaGreatDoor
namespace Go.Proofs.YtlmbklpidmkdcaaGreatDoor
open Go.RowKit

theorem largeR_calls (A : Option Addr) (n c : Nat) (w : World) (hn : n ≤ 4096) : Calls Tryz.prog 17 #[.slice A n c] w (RetV w (.bool false)) := by
  have hd : decide ((4096 : Int) < (n : Int)) = false := decide_eq_false (by omega)
  go_enter Tryz.func17, Tryz.ntmps17
  go_wp2
  go_ret
  exact ⟨ret_of (by first | rfl | (rw [hd]; rfl)), rfl⟩
theorem isBaseR_calls (b : Int) (w : World) : Calls Tryz.prog 18 #[.int .i64 b] w (RetV w (.bool (isB b))) := by
  obtain ⟨v, hv⟩ : ∃ v, v = isB b := ⟨_, rfl⟩
  rw [← hv]
  have HV := Lib.hid hv
  clear hv
  by_cases h1 : 2 ≤ b
  · by_cases h2 : b ≤ 36
    · go_enter Tryz.func18, Tryz.ntmps18
      go_wp2
      go_ret
      exact ⟨ret_of (by rw [HV.out, isB_yes h1 h2]; simp [h1, h2]), rfl⟩
    · go_enter Tryz.func18, Tryz.ntmps18
      go_wp2
      go_ret
      exact ⟨ret_of (by rw [HV.out, isB_no (by omega)]; simp [h1, h2]), rfl⟩
  · go_enter Tryz.func18, Tryz.ntmps18
    go_wp2
    go_ret
    exact ⟨ret_of (by rw [HV.out, isB_no (by omega)]; simp [h1]), rfl⟩
theorem shortR_calls (s : ByteArray) (w : World) (hs : s.size ≤ 65536) : Calls Tryz.prog 19 #[.string s] w (RetV w (.tuple #[.string s, .int .i64 0])) := by
  go_enter Tryz.func19, Tryz.ntmps19
  go_wp2
  go_ret2
  exact ⟨rfl, rfl⟩

set_option maxHeartbeats 1000000 in
theorem formatR_yes (v : Value) (xs : List Int) (b : Nat) (w : World) (hr : SI w .u64 v xs) (hu : U64 xs) (hn : xs.length ≤ 1000) (hb : 2 ≤ b) (hb2 : b ≤ 36) :
    Calls Tryz.prog 4 #[v, .int .i64 (b : Int)] w (RetB w (.tuple #[.string (strOf (fmt b (val 18446744073709551616 xs))), .int .i64 0])) := by
  obtain ⟨A, c, rfl, hc, _⟩ := hr.form
  have hfl := fmt_len hb xs hu
  obtain ⟨s, hs⟩ : ∃ s, s = strOf (fmt b (val 18446744073709551616 xs)) := ⟨_, rfl⟩
  have hsz : s.size ≤ 65536 := by rw [hs, strOf_size]; omega
  rw [← hs]
  have HS := Lib.hid hs
  have HR := Lib.hid hr
  have HU := Lib.hid hu
  have hB : isB (b : Int) = true := isB_yes (by omega) (by omega)
  clear hs hr hu hfl
  go_enter Tryz.func4, Tryz.ntmps4
  go_wp2_with (first
    | (go_at_call 17; refine (largeR_calls _ _ _ _ (by omega)).mono ?_; rintro e w' ⟨rfl, rfl⟩)
    | (go_at_call 18; refine (isBaseR_calls _ _).mono ?_; rintro e w' ⟨rfl, rfl⟩; rw [hB])
    | (go_at_call 20; refine (textR_calls _ xs b _ HR.out HU.out (by omega) hb hb2).mono ?_; rintro e w1 ⟨rfl, hb1⟩; rw [← HS.out]; have HB1 := Lib.hid hb1; clear hb1)
    | (go_at_call 19; refine (shortR_calls _ _ hsz).mono ?_; rintro e w' ⟨rfl, rfl⟩))
  go_ret2
  exact ⟨rfl, HB1.out⟩
theorem formatR_no (v : Value) (xs : List Int) (b : Int) (w : World) (hr : SI w .u64 v xs) (hn : xs.length ≤ 1000) (hb : isB b = false) :
    Calls Tryz.prog 4 #[v, .int .i64 b] w (RetB w (.tuple #[.string ⟨#[]⟩, .int .i64 1])) := by
  obtain ⟨A, c, rfl, hc, _⟩ := hr.form
  clear hr
  go_enter Tryz.func4, Tryz.ntmps4
  go_wp2_with (first
    | (go_at_call 17; refine (largeR_calls _ _ _ _ (by omega)).mono ?_; rintro e w' ⟨rfl, rfl⟩)
    | (go_at_call 18; refine (isBaseR_calls _ _).mono ?_; rintro e w' ⟨rfl, rfl⟩; rw [hb]))
  go_ret2
  exact ⟨rfl, Below.refl _ _⟩
end Go.Proofs.YtlmbklpidmkdcaaGreatDoor
namespace Go.Proofs.YtlmbklpidmkdcaaGreatDoor
open Go.RowKit

theorem repeat_zeros : ∀ c : Nat, (⟨(Lib.repeatL (⟨#[48]⟩ : ByteArray).data.toList c).toArray⟩ : ByteArray) = strOf (List.replicate c 48) := by
  have h : ∀ c : Nat, Lib.repeatL (⟨#[48]⟩ : ByteArray).data.toList c = (List.replicate c (48 : Int)).map (fun x => x.toNat.toUInt8) := by
    intro c
    induction c with
    | zero => rfl
    | succ c ih => rw [List.replicate_succ, List.map_cons, ← ih]; rfl
  intro c
  rw [h c]
  rfl

set_option maxHeartbeats 1000000 in
theorem padR_yes (v : Value) (xs : List Int) (b width : Nat) (w : World) (hr : SI w .u64 v xs) (hu : U64 xs) (hn : xs.length ≤ 1000) (hb : 2 ≤ b) (hb2 : b ≤ 36) (hwd : width ≤ 65536) :
    Calls Tryz.prog 10 #[v, .int .i64 (b : Int), .int .i64 (width : Int)] w (RetB w (.tuple #[.string (strOf (padL width (fmt b (val 18446744073709551616 xs)))), .int .i64 0])) := by
  obtain ⟨A, c, rfl, hc, _⟩ := hr.form
  have hfl := fmt_len hb xs hu
  obtain ⟨l, hl⟩ : ∃ l, l = fmt b (val 18446744073709551616 xs) := ⟨_, rfl⟩
  rw [← hl] at hfl ⊢
  obtain ⟨s, hs⟩ : ∃ s, s = strOf l := ⟨_, rfl⟩
  have hsz : s.size = l.length := by rw [hs, strOf_size]
  have HL := Lib.hid hl
  have HS := Lib.hid hs
  have HR := Lib.hid hr
  have HU := Lib.hid hu
  have hB : isB (b : Int) = true := isB_yes (by omega) (by omega)
  obtain ⟨m, hm⟩ : ∃ m : Nat, m = width - l.length := ⟨_, rfl⟩
  have hmx : max (0 : Int) ((width : Int) - (s.size : Int)) = (m : Int) := by rw [hsz, hm]; omega
  obtain ⟨z, hz⟩ : ∃ z, z = strOf (List.replicate m 48) := ⟨_, rfl⟩
  have hzs : z.size = m := by rw [hz, strOf_size, List.length_replicate]
  have hfin : z ++ s = strOf (padL width l) := by rw [hz, hs, strOf_append, hm]; rfl
  have hfs : (z ++ s).size ≤ 65536 := by rw [hfin, strOf_size]; unfold padL; simp; omega
  rw [← hfin]
  have hm2 : m ≤ 65536 := by omega
  have hrep := Tryz.strings_Repeat ⟨#[48]⟩ m
  rw [repeat_zeros, ← hz] at hrep
  have HREP := Lib.hid hrep
  have HSZ := Lib.hid hsz
  have hs2 : s.size ≤ 65536 := by omega
  have hz2 : z.size ≤ 65536 := by omega
  have HMX := Lib.hid hmx
  have h26a : m ≤ 9223372036854775807 := by omega
  have h26b : (⟨#[48]⟩ : ByteArray).size * m ≤ 140737488355328 := by show 1 * m ≤ _; omega
  clear hl hs hr hu hz hzs hfin hrep hm hsz hfl hmx
  go_enter Tryz.func10, Tryz.ntmps10
  go_wp2_with (first
    | (go_at_call 17; refine (largeR_calls _ _ _ _ (by omega)).mono ?_; rintro e w' ⟨rfl, rfl⟩)
    | (go_at_call 18; refine (isBaseR_calls _ _).mono ?_; rintro e w' ⟨rfl, rfl⟩; rw [hB])
    | (go_at_call 20; refine (textR_calls _ xs b _ HR.out HU.out (by omega) hb hb2).mono ?_; rintro e w1 ⟨rfl, hb1⟩; rw [← HL.out, ← HS.out]; have HB1 := Lib.hid hb1; clear hb1)
    | (go_at_call 26; rw [HMX.out]; refine (HREP.out _ h26a h26b).mono ?_; rintro e w2 ⟨rfl, hb2⟩; have HB2 := Lib.hid hb2; clear hb2)
    | (go_at_call 19; refine (shortR_calls _ _ hfs).mono ?_; rintro e w' ⟨rfl, rfl⟩))
  go_ret2
  exact ⟨rfl, HB1.out.trans (HB2.out.mono HB1.out.size)⟩
theorem padR_no (v : Value) (xs : List Int) (b width : Int) (w : World) (hr : SI w .u64 v xs) (hn : xs.length ≤ 1000) (h : ¬ (isB b = true ∧ 0 ≤ width ∧ width ≤ 65536)) :
    Calls Tryz.prog 10 #[v, .int .i64 b, .int .i64 width] w (RetB w (.tuple #[.string ⟨#[]⟩, .int .i64 1])) := by
  obtain ⟨A, c, rfl, hc, _⟩ := hr.form
  clear hr
  rcases Bool.eq_false_or_eq_true (isB b) with hB | hB
  · by_cases h1 : width < 0
    · clear h
      go_enter Tryz.func10, Tryz.ntmps10
      go_wp2_with (first
        | (go_at_call 17; refine (largeR_calls _ _ _ _ (by omega)).mono ?_; rintro e w' ⟨rfl, rfl⟩)
        | (go_at_call 18; refine (isBaseR_calls _ _).mono ?_; rintro e w' ⟨rfl, rfl⟩; rw [hB]))
      go_ret2
      exact ⟨rfl, Below.refl _ _⟩
    · have h2 : 65536 < width := by
        rcases Int.lt_or_le 65536 width with h2 | h2
        · exact h2
        · exact absurd ⟨hB, by omega, h2⟩ h
      clear h
      go_enter Tryz.func10, Tryz.ntmps10
      go_wp2_with (first
        | (go_at_call 17; refine (largeR_calls _ _ _ _ (by omega)).mono ?_; rintro e w' ⟨rfl, rfl⟩)
        | (go_at_call 18; refine (isBaseR_calls _ _).mono ?_; rintro e w' ⟨rfl, rfl⟩; rw [hB]))
      go_ret2
      exact ⟨rfl, Below.refl _ _⟩
  · clear h
    go_enter Tryz.func10, Tryz.ntmps10
    go_wp2_with (first
      | (go_at_call 17; refine (largeR_calls _ _ _ _ (by omega)).mono ?_; rintro e w' ⟨rfl, rfl⟩)
      | (go_at_call 18; refine (isBaseR_calls _ _).mono ?_; rintro e w' ⟨rfl, rfl⟩; rw [hB]))
    go_ret2
    exact ⟨rfl, Below.refl _ _⟩
end Go.Proofs.YtlmbklpidmkdcaaGreatDoor
namespace Go.Proofs.YtlmbklpidmkdcaaGreatDoor
open Go.RowKit

/-- The base of any integer. -/
def lawB (b : Int) : Int := 2 + (b % 18446744073709551616) % 35
theorem lawB_range (b : Int) : 2 ≤ lawB b ∧ lawB b ≤ 36 := by unfold lawB; omega
end Go.Proofs.YtlmbklpidmkdcaaGreatDoor
namespace Go.Proofs.YtlmbklpidmkdcaaGreatDoor
open Go

def ints (l : List UInt8) : List Int := l.map fun c => (c.toNat : Int)
theorem ints_bytes (s : ByteArray) : bytes s = ints s.data.toList := rfl

theorem grpT_short {e : Nat} : ∀ (cs r : List Int), cs.length < e → r.length % e = 0 → grpT e (cs ++ r) = cs ++ grpT e r
  | [], r, _, _ => rfl
  | c :: cs, r, h, hr => by
    simp only [List.length_cons] at h
    have ih := grpT_short cs r (by omega) hr
    simp only [List.cons_append, grpT]
    have h1 : ((cs ++ r).length + 1) % e ≠ 0 := by
      rw [List.length_append, show cs.length + r.length + 1 = (cs.length + 1) + r.length by omega, Nat.add_mod, hr, Nat.add_zero, Nat.mod_mod, Nat.mod_eq_of_lt (by omega)]
      omega
    rw [if_neg h1, ih]
    rfl
theorem grpT_full {e : Nat} {r : List Int} (h0 : r ≠ []) (hr : r.length % e = 0) : grpT e r = 95 :: grp e r := by
  cases r with
  | nil => exact absurd rfl h0
  | cons d ds =>
    simp only [List.length_cons] at hr
    simp only [grpT, grp]
    rw [if_pos hr]
    rfl
/-- A group before what is grouped already. -/
theorem grp_group {e : Nat} {g r : List Int} (hg : g ≠ []) (hl : g.length ≤ e) (hr : r.length % e = 0) : grp e (g ++ r) = g ++ (if r = [] then [] else 95 :: grp e r) := by
  cases g with
  | nil => exact absurd rfl hg
  | cons c cs =>
    simp only [List.length_cons] at hl
    show c :: grpT e (cs ++ r) = _
    rw [grpT_short cs r (by omega) hr]
    by_cases h0 : r = []
    · subst h0; rw [if_pos rfl]; rfl
    · rw [if_neg h0, grpT_full h0 hr]
      rfl

/-- The groups from the last one on, joined in their order, are the text from 'at' on, grouped. -/
def GrpAt (e : Nat) (s : ByteArray) (gs : List ByteArray) (at' : Nat) : Prop :=
  ints (Lib.join (gs.reverse.map (·.data.toList)) [95]) = grp e ((bytes s).drop at') ∧ (s.size - at') % e = 0 ∧ at' ≤ s.size ∧ (gs = [] ↔ at' = s.size) ∧ gs.length ≤ s.size - at'
theorem GrpAt.start (e : Nat) (s : ByteArray) : GrpAt e s [] s.size := by
  refine ⟨?_, by simp, Nat.le_refl _, by simp, by simp⟩
  rw [List.drop_eq_nil_of_le (by rw [bytes_length]; exact Nat.le_refl _)]
  rfl
theorem bytes_extract (s : ByteArray) (a b : Nat) : bytes (s.extract a b) = ((bytes s).take b).drop a := by
  unfold bytes
  rw [ByteArray.data_extract, Array.toList_extract, ← List.map_take, ← List.map_drop, List.drop_take]
theorem GrpAt.step {e : Nat} {s : ByteArray} {gs : List ByteArray} {at' : Nat} (h : GrpAt e s gs at') (he : 1 ≤ e) (h0 : 0 < at') :
    ints (Lib.join ((gs ++ [s.extract (at' - e) at']).reverse.map (·.data.toList)) [95]) = grp e ((bytes s).drop (at' - e)) ∧ (e ≤ at' → (s.size - (at' - e)) % e = 0) := by
  obtain ⟨h1, h2, h3, h4, _⟩ := h
  have hg : ints (s.extract (at' - e) at').data.toList = ((bytes s).take at').drop (at' - e) := bytes_extract s _ _
  have hsp : (bytes s).drop (at' - e) = ((bytes s).take at').drop (at' - e) ++ (bytes s).drop at' := by
    have e1 : (bytes s).drop (at' - e) = ((bytes s).take at' ++ (bytes s).drop at').drop (at' - e) := by rw [List.take_append_drop]
    rw [e1, List.drop_append_of_le_length (by rw [List.length_take, bytes_length]; omega)]
  have hgl : (((bytes s).take at').drop (at' - e)).length = at' - (at' - e) := by rw [List.length_drop, List.length_take, bytes_length]; omega
  have hrl : ((bytes s).drop at').length = s.size - at' := by rw [List.length_drop, bytes_length]
  have hgg := grp_group (e := e) (g := ((bytes s).take at').drop (at' - e)) (r := (bytes s).drop at') (fun h => by rw [h] at hgl; simp at hgl; omega) (by rw [hgl]; omega) (by rw [hrl]; exact h2)
  refine ⟨?_, fun hle => ?_⟩
  · rw [hsp, hgg]
    rw [List.reverse_append, List.reverse_singleton, List.singleton_append, List.map_cons, Lib.join_cons]
    show ints (_ ++ _) = _
    unfold ints at hg h1 ⊢
    rw [List.map_append, hg]
    congr 1
    by_cases hz : at' = s.size
    · have : gs = [] := h4.2 hz
      subst this
      rw [if_pos (by rw [hz]; exact List.drop_eq_nil_of_le (by rw [bytes_length]; exact Nat.le_refl _))]
      rfl
    · have hne : gs ≠ [] := fun h => hz (h4.1 h)
      rw [if_neg (fun h => by rw [h] at hrl; simp at hrl; omega), ← h1]
      cases hrv : gs.reverse with
      | nil => exact absurd (List.reverse_eq_nil_iff.1 hrv) hne
      | cons y ys =>
        rw [List.map_cons, Lib.join_cons]
        simp [Lib.joinTail]
  · rw [show s.size - (at' - e) = (s.size - at') + e by omega, Nat.add_mod_right]
    exact h2
end Go.Proofs.YtlmbklpidmkdcaaGreatDoor
namespace Go.Proofs.YtlmbklpidmkdcaaGreatDoor
open Go.RowKit

theorem infoS : (Tryz.prog.info? 9).map (fun i => (i.zero, i.size, i.bytes)) = some (some (.string ⟨#[]⟩), 1, 16) := by kernel_rfl

/-- A row of strings of the call's own. -/
def OwnS (B : Nat) (w : World) (v : Value) (ss : List ByteArray) : Prop := w.ownsRow B 9 1 v ss.length (ss.map Value.string)

/-- 'append(out, s)', out a row of strings. -/
theorem wpList_appS {w W0 : World} {ops : Array Oper} {rest : List Oper} {o : Oper} {a : Act} {Q : Exit → Act → World → Prop} (hgd : o.guard = none) (s x : Operand) (t : TypeId)
    (ho : o.op = .call { callee := .builtin .append, args := #[s, x], argTypes := #[t, t] })
    (B : Nat) (ht : Tryz.prog.underlying t = some (.slice 9)) (v : Value) (ss : List ByteArray) (q : ByteArray) (hs : a.eval s = v) (hx : a.eval x = .slice (some ⟨w.heap.size, 0, none⟩) 1 1) (hown : OwnS B w v ss)
    (h63 : ss.length + 1 ≤ 1099511627776) (hB : Below B W0 w) (hBw : B ≤ w.heap.size)
    (hK : ∀ v' w', OwnS B w' v' (ss ++ [q]) → Below B W0 w' → wpList Tryz.prog ops Q rest (a.put o.dst v') w') : wpList Tryz.prog ops Q (o :: rest) a (w.alloc (.cells #[.string q] 9)) := by
  refine wpList_plain hgd fun K hK' => ?_
  obtain ⟨i, hi, hz, hsz, hby⟩ := info_parts infoS
  have hbl : ∀ j, v.ownBlock = some j → B ≤ j := fun j hj => (World.ownsRow.lt hown j hj).1
  have hc : ∀ j u, ([q].map Value.string)[j]? = some u → (w.alloc (.cells #[.string q] 9)).cell? ((⟨w.heap.size, 0, none⟩ : Addr).add j) = some u := by
    intro j u hu
    have hj : j = 0 := by
      have := (List.getElem?_eq_some_iff.1 hu).1
      simp at this
      exact this
    subst hj
    rw [add_plain]
    unfold World.cell?; simp only [heap_alloc_new]
    simp at hu
    subst hu
    rfl
  have hone : ∀ u ∈ [q].map Value.string, u.oneCell' = true := by
    intro u hu
    simp at hu
    subst hu
    rfl
  obtain ⟨v', w', hr, h2, h3, _, h5⟩ := run_append_own_at (P := Tryz.prog) (w.alloc (.cells #[.string q] 9)) B t o.type 9 i (.string ⟨#[]⟩) 1 16 ht hi hz hsz hby (by rfl) (by decide) v ss.length (ss.map Value.string) (World.ownsRow.alloc hown _) ⟨w.heap.size, 0, none⟩ 1 1 ([q].map Value.string) (by simp) hc hone (by simp only [maxLen]; omega)
    (by omega) (by simp; omega)
  unfold Oper.wp execOp
  simp only [ho, resolve, invoke, builtin, Sem.run_bind, Sem.run_pure, Result.andThen_ok, List.map_toArray, List.map_cons, List.map_nil, hs, hx, hr]
  refine hK' _ _ (hK v' w' ?_ ((hB.alloc hBw _).grown h3 (by simp; omega) hbl))
  unfold OwnS
  rw [List.length_append, List.map_append]
  exact h2
theorem Below.setCells {B : Nat} {a : World} {b : Nat} (hb : B ≤ b) : ∀ (vs : List Value) (o : Nat) (w : World), Below B a w → Below B a (w.setCells b o vs)
  | [], _, _, h => h
  | v :: r, o, w, h => Below.setCells hb r (o + 1) _ (h.setCell (p := ⟨b, o, none⟩) hb v)
theorem revS_calls (g cap : Nat) (gs : List ByteArray) (B : Nat) (w : World) (h : OwnS B w (.slice (some ⟨g, 0, none⟩) gs.length cap) gs) (hn : gs.length ≤ 1099511627776) :
    Calls Tryz.prog 39 #[.slice (some ⟨g, 0, none⟩) gs.length cap] w fun e w' => e = .returned (.tuple #[]) ∧ (∀ (j : Nat) x, gs.reverse[j]? = some x → w'.cell? ⟨g, 0 + j, none⟩ = some (.string x)) ∧ Below B w w' ∧ g < w'.heap.size := by
  have hlt := World.ownsRow.lt h g rfl
  have hget : ∀ i, i < gs.length → gs[i]? = some (gs[i]?.getD ⟨#[]⟩) := fun i hi => by rw [List.getElem?_eq_getElem hi]; rfl
  have hc : ∀ i, i < gs.length → w.cell? ⟨g, 0 + i, none⟩ = some (.string (gs[i]?.getD ⟨#[]⟩)) := by
    intro i hi
    rw [Nat.zero_add, World.ownsRow.cellAt h i (by omega), List.getElem?_map, hget i hi]
    rfl
  refine (Tryz.slices_Reverse_string_cells g 0 gs.length cap (fun i => gs[i]?.getD ⟨#[]⟩) w (by omega) hc (fun j _ => by rw [Nat.zero_add]; exact World.ownsRow.frozenAt h j)).mono ?_
  rintro e w' ⟨rfl, q, rfl⟩
  have hb : Below B w ((w.drewN q).setCells g 0 ((Lib.strsOf (fun i => gs[i]?.getD ⟨#[]⟩) gs.length).reverse.map encStr)) := Below.setCells hlt.1 _ _ _ (below_drewN (Below.refl _ _) q)
  refine ⟨rfl, fun j x hx => ?_, hb, Nat.lt_of_lt_of_le hlt.2 hb.size⟩
  have hj : j < gs.length := by
    have := (List.getElem?_eq_some_iff.1 hx).1
    simpa using this
  have hlen : ((Lib.strsOf (fun i => gs[i]?.getD ⟨#[]⟩) gs.length).reverse.map encStr).length = gs.length := by simp [Lib.strsOf_length]
  have hin := World.cell?_setCells_in g ((Lib.strsOf (fun i => gs[i]?.getD ⟨#[]⟩) gs.length).reverse.map encStr) 0 (w.drewN q) (fun i hi => by
    have := hc i (by omega)
    have e : (w.drewN q).cell? ⟨g, 0 + i, none⟩ = w.cell? ⟨g, 0 + i, none⟩ := rfl
    rw [e, this]; rfl) j (by omega)
  rw [hin]
  congr 1
  rw [List.getElem_map, List.getElem_reverse]
  simp only [Lib.strsOf, List.getElem_map, List.getElem_range, List.length_map, List.length_range]
  rw [List.getElem?_reverse hj] at hx
  rw [hx]
  rfl
theorem strOf_ints (l : List UInt8) : strOf (ints l) = ⟨l.toArray⟩ := by
  apply ByteArray.ext
  apply Array.ext'
  simp [strOf, strOfNums, ints, Function.comp_def]

def GrpOr (e : Nat) (s : ByteArray) (gs : List ByteArray) (z : Int) : Prop :=
  gs.length ≤ s.size ∧ ((0 < z ∧ GrpAt e s gs z.toNat) ∨ (z ≤ 0 ∧ -100 ≤ z ∧ ints (Lib.join (gs.reverse.map (·.data.toList)) [95]) = grp e (bytes s)))
theorem GrpOr.start (e : Nat) (s : ByteArray) : GrpOr e s [] (s.size : Int) := by
  refine ⟨by simp, ?_⟩
  by_cases h : s.size = 0
  · refine .inr ⟨by omega, by omega, ?_⟩
    have : bytes s = [] := List.eq_nil_of_length_eq_zero (by rw [bytes_length]; exact h)
    rw [this]
    rfl
  · exact .inl ⟨by omega, by rw [Int.toNat_natCast]; exact GrpAt.start e s⟩
theorem GrpOr.step {e : Nat} {s : ByteArray} {gs : List ByteArray} {a : Nat} (h : GrpOr e s gs (a : Int)) (he : 1 ≤ e) (he2 : e ≤ 100) (h0 : 0 < a) : GrpOr e s (gs ++ [s.extract (a - e) a]) ((a : Int) - (e : Int)) := by
  obtain ⟨h1, h2 | h2⟩ := h
  · obtain ⟨_, h3⟩ := h2
    rw [Int.toNat_natCast] at h3
    have hst := h3.step he h0
    obtain ⟨g1, g2, g3, g4, g5⟩ := h3
    have hl : (gs ++ [s.extract (a - e) a]).length ≤ s.size - (a - e) := by simp; omega
    refine ⟨by omega, ?_⟩
    by_cases hz : e < a
    · refine .inl ⟨by omega, ?_⟩
      rw [show ((a : Int) - (e : Int)).toNat = a - e by omega]
      exact ⟨hst.1, hst.2 (by omega), by omega, ⟨fun h => by simp at h, fun h => by omega⟩, hl⟩
    · refine .inr ⟨by omega, by omega, ?_⟩
      have := hst.1
      rw [show a - e = 0 by omega, List.drop_zero] at this
      rw [show a - e = 0 by omega]
      exact this
  · omega

set_option maxHeartbeats 1000000 in
set_option maxRecDepth 100000 in
theorem groupR_calls (s : ByteArray) (e : Nat) (w : World) (he : 1 ≤ e) (he2 : e ≤ 100) (hn : s.size ≤ 30000) :
    Calls Tryz.prog 11 #[.string s, .int .i64 (e : Int)] w (RetB w (.tuple #[.string (strOf (grp e (bytes s))), .int .i64 0])) := by
  obtain ⟨out, hout⟩ : ∃ out, out = strOf (grp e (bytes s)) := ⟨_, rfl⟩
  rw [← hout]
  have HOUT := Lib.hid hout
  clear hout
  go_enter Tryz.func11, Tryz.ntmps11
  go_wp2
  go_loopw [6, 7] (fun o i wr => ∃ (gs : List ByteArray) (z : Int), i = .int .i64 z ∧ z ≤ (s.size : Int) ∧ -100 ≤ z ∧ GrpOr e s gs z ∧ OwnS w.heap.size wr o gs ∧ Below w.heap.size w wr) (fun o i wr => (intOf i).toNat)
  case atStart => exact ⟨[], (s.size : Int), rfl, Int.le_refl _, by omega, GrpOr.start e s, World.ownsRow_nil w _ _ _, Below.refl _ _⟩
  case round =>
    obtain ⟨gs, z, rfl, hz1, hz2, hG, ho, hB⟩ := hrel
    by_cases hz : 0 < z
    · obtain ⟨a, rfl⟩ : ∃ a : Nat, z = (a : Int) := ⟨z.toNat, by omega⟩
      have hst := hG.step he he2 (by omega)
      have hgl := hG.1
      have hmx : max (0 : Int) ((a : Int) - (e : Int)) = ((a - e : Nat) : Int) := by omega
      have HST := Lib.hid hst
      have HO := Lib.hid ho
      have HB := Lib.hid hB
      clear hst hG ho hB
      have hle : a - e ≤ a := by omega
      have hle2 : a ≤ s.size := by omega
      go_wp2_with (at_builtin; refine wpList_appS (W0 := w) rfl (.tmp 24) (.tmp 32) 80 rfl w.heap.size Tryz.underlying80 _ gs (s.extract (a - e) a) rfl rfl HO.out (by omega) HB.out HB.out.size ?_; intro v5 w5 g1 g2; have G1 := Lib.hid g1; have G2 := Lib.hid g2; clear g1 g2 HO)
      exact ⟨⟨_, _, rfl, by omega, by omega, HST.out, G1.out, G2.out⟩, by simp [intOf]; omega⟩
    · have hzd : decide ((0 : Int) < z) = false := decide_eq_false hz
      have hj : ints (Lib.join (gs.reverse.map (·.data.toList)) [95]) = grp e (bytes s) := by
        rcases hG.2 with h | h
        · omega
        · exact h.2.2
      have hjl : (Lib.join (gs.reverse.map (·.data.toList)) [95]).length ≤ 60000 := by
        have h1 := grp_len e (bytes s)
        rw [← hj, bytes_length] at h1
        unfold ints at h1
        rw [List.length_map] at h1
        omega
      have hjo : (⟨(Lib.join (gs.reverse.map (·.data.toList)) [95]).toArray⟩ : ByteArray) = out := by rw [HOUT.out, ← hj, strOf_ints]
      have hos : out.size ≤ 65536 := by
        rw [← hjo]
        show (Lib.join (gs.reverse.map (·.data.toList)) [95]).toArray.size ≤ _
        rw [List.size_toArray]
        omega
      have hgl := hG.1
      have HB := Lib.hid hB
      have HJO := Lib.hid hjo
      have HJL := Lib.hid hjl
      by_cases h0 : gs = []
      · have hv : ∃ a c, u6 = .slice a 0 c := by
          rcases ho.2 with ⟨h1, _⟩ | ⟨g', cap, cur, h1, _⟩
          · exact ⟨_, _, h1⟩
          · rw [h0] at h1; exact ⟨_, _, h1⟩
        obtain ⟨a, c, rfl⟩ := hv
        have he : out = ⟨#[]⟩ := by rw [← hjo, h0]; rfl
        subst he
        clear hj hjl hjo hG ho hB HJO HJL h0 hgl
        go_wp2_with (first
          | (go_at_call 39; refine (Tryz.slices_Reverse_string_empty a c _).mono ?_; rintro e w' ⟨rfl, rfl⟩)
          | (go_at_call 40; refine (Tryz.strings_Join_none a c _ _).mono ?_; rintro e w' ⟨rfl, rfl⟩)
          | (go_at_call 19; refine (shortR_calls _ _ (by decide)).mono ?_; rintro e w' ⟨rfl, rfl⟩))
        go_ret2
        exact ⟨rfl, HB.out⟩
      · obtain ⟨g, cap, hv, hc⟩ : ∃ g cap, u6 = .slice (some ⟨g, 0, none⟩) gs.length cap ∧ gs.length ≤ cap := by
          rcases ho.2 with ⟨_, h1⟩ | ⟨g', cap, cur, h1, _, _, h2, _⟩
          · exact absurd (List.eq_nil_of_length_eq_zero h1) h0
          · exact ⟨_, _, h1, h2⟩
        subst hv
        have HO := Lib.hid ho
        obtain ⟨n, hn'⟩ : ∃ n, n = gs.length := ⟨_, rfl⟩
        have hrl : gs.reverse.length = n := by rw [List.length_reverse, hn']
        have hrev := revS_calls g cap gs w.heap.size wr ho (by omega)
        rw [← hn'] at hrev hgl hc ⊢
        have HREV := Lib.hid hrev
        have hjoin : ∀ w1 : World, (∀ (j : Nat) (x : ByteArray), gs.reverse[j]? = some x → w1.cell? ⟨g, 0 + j, none⟩ = some (.string x)) → g < w1.heap.size → Calls Tryz.prog 40 #[.slice (some ⟨g, 0, none⟩) n cap, .string ⟨#[95]⟩] w1 (RetB w1 (.string out)) := by
          intro w1 h1 h2
          have := Tryz.strings_Join g 0 cap gs.reverse ⟨#[95]⟩ w1 h1 h2 (by rw [hrl]; omega) (by rw [hrl]; exact hc) (by have := hjl; show (Lib.join (gs.reverse.map (·.data.toList)) [95]).length ≤ _; omega)
          rw [hrl] at this
          rw [← hjo]
          exact this
        have HJOIN := Lib.hid hjoin
        clear hj hjl hjo hG ho hB h0 hrev hjoin hrl hn'
        go_wp2_with (first
          | (go_at_call 39; refine HREV.out.mono ?_; rintro e w1 ⟨rfl, h1, h2, h3⟩; have G1 := Lib.hid h1; have G2 := Lib.hid h2; have G3 := Lib.hid h3; clear h1 h2 h3)
          | (go_at_call 40; refine (HJOIN.out _ G1.out G3.out).mono ?_; rintro e w2 ⟨rfl, h4⟩; have G4 := Lib.hid h4; clear h4)
          | (go_at_call 19; refine (shortR_calls _ _ hos).mono ?_; rintro e w' ⟨rfl, rfl⟩))
        go_ret2
        exact ⟨rfl, (HB.out.trans G2.out).trans (G4.out.mono (HB.out.trans G2.out).size)⟩
theorem groupR_no (s : ByteArray) (e : Int) (w : World) (h : ¬ (1 ≤ e ∧ e ≤ 100)) (hn : s.size ≤ 30000) :
    Calls Tryz.prog 11 #[.string s, .int .i64 e] w (RetV w (.tuple #[.string ⟨#[]⟩, .int .i64 1])) := by
  by_cases h1 : e < 1
  · clear h
    go_enter Tryz.func11, Tryz.ntmps11
    go_wp2
    go_ret2
    exact ⟨rfl, rfl⟩
  · have h2 : 100 < e := by omega
    clear h
    go_enter Tryz.func11, Tryz.ntmps11
    go_wp2
    go_ret2
    exact ⟨rfl, rfl⟩
end Go.Proofs.YtlmbklpidmkdcaaGreatDoor
namespace Go.Proofs.YtlmbklpidmkdcaaGreatDoor
open Go.RowKit Go.Shelf
attribute [local go_sem] Oper.semAt_some wide_fn wide_depth

section
variable {P : Program} {ops : Array Oper} {Q : Exit → Act → World → Prop}
theorem wpOpsIn_round (l : Nat) (hnd : ∀ (j : Nat) (o : Oper), ops[j]? = some o → ∀ c, o.op ≠ .defer c) (hL : ¬ LetsOut Q) : ∀ (is : List Nat) (a : Act) (w : World), wpOps P ops Q is a w → wpOpsIn (Fence.wide.inRound l) 0 P ops Q is a w
  | [], _, _, h => h
  | i :: is, a, w, h => by
    rw [wpOps_cons] at h
    rw [wpOpsIn_cons]
    exact wpOpIn_round l hnd hL (wpOp_mono (fun a' w' h' => wpOpsIn_round l hnd hL is a' w' h') h)
theorem wpIn_region_row (l : Nat) {id : Nat} {a : Act} {w : World} (hd : noDefers ops = true) (hL : ¬ LetsOut Q) (h : wpOps P ops Q (List.range ops.size) a w) : (Code.region id ops false).wpIn (Fence.wide.inRound l) 0 P Q a w :=
  wpIn_region (wpOpsIn_round l (noDefers_spec hd) hL _ _ _ h)
theorem ops_step (i : Nat) {rest : List Nat} {a : Act} {w : World} {o : Oper} (ho : ops[i]? = some o) (hw : Region.wanted o (yielded ops a.tmps) = true)
    (h : ∀ K' : Act → World → Prop, Shut (∀ a w, wpOps P ops Q rest a w → K' a w) → Oper.wp P o a w K' Q) : wpOps P ops Q (i :: rest) a w := by
  rw [wpOps_cons]
  unfold wpOp
  simp only [ho]
  rw [if_pos hw]
  exact .inl (h _ (fun a w hW => hW))
end

set_option maxHeartbeats 1000000 in
set_option maxRecDepth 100000 in
theorem appendSeq_calls (gf : Nat) (lb : Array Value) (eg : ∀ args w, (callFunc gf args).run Tryz.prog w = .ok (.enter gf args) w) (L : List Int) (n1 : Nat) (D : Nat → Prop) (w : World) (hn1 : n1 ≤ w.heap.size)
    (hit : ∀ w1, Below w.heap.size w w1 → IterOver Tryz.prog gf lb (fun d : Int => #[.int .i64 d]) L n1 D w1) (hD : ∀ i, D i → i < w.heap.size) (hL : L.length ≤ 1000000) :
    Calls Tryz.prog 69 #[.slice none 0 0, .func (.func gf) #[] lb] w fun e w' => ∃ v', e = .returned v' ∧ Own w.heap.size 3 w' .i64 v' L ∧ Below n1 w w' := by
  obtain ⟨R, hR⟩ : ∃ R : Ending → World → Prop, R = fun e w' => ∃ v', e = .returned v' ∧ Own w.heap.size 3 w' .i64 v' L ∧ Below n1 w w' := ⟨_, rfl⟩
  rw [← hR]
  have HRet := Lib.hid hR
  have HIT0 := Lib.hid hit
  clear hR hit
  refine (callsIn_wide (n := 1)).1 ?_
  refine callsIn_of_wp_marks Tryz.func69 rfl trivial ?_ rfl
  simp only [Tryz.ntmps69, List.size_toArray, List.length_cons, List.length_nil, Nat.reduceAdd, Nat.reduceSub, Array.replicate_succ, Array.replicate_zero, List.push_toArray, List.append_toArray, List.nil_append, List.cons_append]
  refine wpIn_wide.2 ?_
  go_wp2
  rename_i hKa
  obtain ⟨w5, hw5⟩ : ∃ w5, w5 = w.alloc (.cells #[.slice none 0 0] 33) := ⟨_, rfl⟩
  have f1 : w5.cell? ⟨w.heap.size, 0, none⟩ = some (.slice none 0 0) := by rw [hw5]; simp [go_sem]
  have f4 : w5.frozen? ⟨w.heap.size, 0, none⟩ = false := by rw [hw5]; simp [go_sem]
  have f6 : w5.heap.size = w.heap.size + 1 := by rw [hw5]; simp
  have f7 : Below w.heap.size w w5 := by rw [hw5]; exact below_new _ _
  rw [← hw5]
  have HIT := Lib.hid (HIT0.out w5 f7)
  clear hw5 HIT0
  refine (wpIn_wide (n := 0)).1 (wpIn_range (gf := gf) (lb := lb) rfl eg HIT.out (by intro x; rfl) (by omega)
    (fun k C W => ∃ (ov : Value), k ≤ L.length ∧ Own (w.heap.size + 1) 3 W .i64 ov (L.take k) ∧ W.cell? ⟨w.heap.size, 0, none⟩ = some ov ∧ W.frozen? ⟨w.heap.size, 0, none⟩ = false ∧ Below n1 w W ∧
      (∀ i, C i ↔ i = w.heap.size ∨ ov.ownBlock = some i))
    (fun i => i = w.heap.size ∨ (Value.slice none 0 0).ownBlock = some i) ?lt ?step ?start ?sep ?foot (fun x => { tmps := #[.slice none 0 0, .func (.func gf) #[] lb, .pointer (some ⟨w.heap.size, 0, none⟩), undef, .slice none 0 0, .int .i64 x, .func (.func gf) #[] lb, .int .i64 x, undef, undef, undef, undef, undef], defers := [] }) ?assign ?body ?done)
  case lt =>
    rintro k C W ⟨ov, g1, g2, g3, g4, g5, g6⟩ i hi
    rcases (g6 i).1 hi with h | h
    · subst h; exact World.block_lt_of_cell? W _ g3
    · exact (World.ownsRow.lt g2 i h).2
  case step =>
    rintro k C W W' ⟨ov, g1, g2, g3, g4, g5, g6⟩ hB hs
    exact ⟨ov, g1, g2.foot (fun g' e => hs _ ((g6 _).2 (.inr e))), cell_foot g3 (hs _ ((g6 _).2 (.inl rfl))), frozen_foot g4 (hs _ ((g6 _).2 (.inl rfl))), g5.trans hB, g6⟩
  case start => exact ⟨.slice none 0 0, Nat.zero_le _, Own.nil _ _ _ _, f1, f4, f7.mono hn1, fun i => Iff.rfl⟩
  case sep =>
    rintro i (h | h) hd
    · have := hD i hd; omega
    · cases h
  case foot =>
    intro i hd
    have := hD i hd; omega
  case assign =>
    intro l x W K hK
    gi_wp2
    exact hK
  case body =>
    rintro l k hk C W ⟨ov, g1, g2, g3, g4, g5, g6⟩
    have hx : L[k] = L[k]?.getD 0 := by rw [List.getElem?_eq_getElem hk]; rfl
    have htk : L.take (k + 1) = L.take k ++ [L[k]?.getD 0] := take_succ hk
    rw [hx]
    generalize L[k]?.getD 0 = x at htk ⊢
    have hlk : (L.take k).length ≤ 1000000 := by simp; omega
    have HTK := Lib.hid htk
    have HO := Lib.hid g2
    have HB5 := Lib.hid g5
    have HC := Lib.hid g6
    have lo := World.block_lt_of_cell? W _ g3
    obtain ⟨oA, oc, rfl, ohc⟩ := g2.slice
    obtain ⟨on, hon⟩ : ∃ on, on = (L.take k).length := ⟨_, rfl⟩
    rw [← hon] at HO HC g3
    have HON := Lib.hid hon
    rw [← hon] at hlk
    clear htk g2 g5 g6 hx ohc hon hKa HIT f1 f4 f6 f7 HRet hD
    gi_upto_region 3 with (fail)
    refine wpIn_region_row l ?_ ?_ ?_
    · kernel_rfl
    · rintro ⟨a, w', h⟩; exact h
    show wpOps _ _ _ [0, 1, 2, 3, 4] _ _
    refine ops_step 0 rfl (by rfl) (fun K hK => ?_)
    go_simp
    refine hK _ _ ?_
    clear hK K
    (try simp only [Act.put, List.setIfInBounds_toArray, List.set_cons_zero, List.set_cons_succ])
    refine ops_step 1 rfl (by rfl) (fun K hK => ?_)
    go_simp
    refine hK _ _ ?_
    clear hK K
    (try simp only [Act.put, List.setIfInBounds_toArray, List.set_cons_zero, List.set_cons_succ])
    refine ops_step 2 rfl (by rfl) (fun K hK => ?_)
    go_simp
    refine hK _ _ ?_
    clear hK K
    (try simp only [Act.put, List.setIfInBounds_toArray, List.set_cons_zero, List.set_cons_succ])
    refine ops_step 3 rfl (by rfl) (fun K hK => ?_)
    refine wp_app_raw (w := W) (W0 := W) (.tmp 8) (.tmp 10) 33 rfl (w.heap.size + 1) 3 8 .i64 Tryz.underlying33 infoI (.slice oA on oc) _ _ rfl rfl HO.out (by rw [← HON.out]; omega) (by omega) (Below.refl _ W) lo ?_
    intro v' w' h1 h2 h3 h4
    rw [← HTK.out] at h1
    obtain ⟨A', c', rfl, hc'⟩ := h1.slice
    have s1 : w'.cell? ⟨w.heap.size, 0, none⟩ = some (.slice oA on oc) := (h2.cell (p := ⟨w.heap.size, 0, none⟩) (by simp)).trans g3
    have s2 : w'.frozen? ⟨w.heap.size, 0, none⟩ = false := frozen_foot g4 (h2.block _ (by simp))
    obtain ⟨on', hon'⟩ : ∃ on', on' = (L.take (k + 1)).length := ⟨_, rfl⟩
    rw [← hon'] at h1 hc' h4 ⊢
    have G1 := Lib.hid h1
    have G2 := Lib.hid (And.intro h2 (And.intro h3 h4))
    clear h1 h2 h3 h4 hc' hon'
    refine hK _ _ ?_
    clear hK K
    (try simp only [Act.put, List.setIfInBounds_toArray, List.set_cons_zero, List.set_cons_succ])
    refine ops_step 4 rfl (by rfl) (fun K hK => ?_)
    go_simp
    refine hK _ _ ?_
    clear hK K
    show Below n1 W (w'.setCell ⟨w.heap.size, 0, none⟩ (.slice A' on' c')) ∧ _
    obtain ⟨h2, h3, h4⟩ := G2.out
    have hb6 : Below n1 W (w'.setCell ⟨w.heap.size, 0, none⟩ (.slice A' on' c')) := (h2.mono (Nat.le_succ_of_le hn1)).setCell (p := ⟨w.heap.size, 0, none⟩) hn1 _
    have hown : Own (w.heap.size + 1) 3 (w'.setCell ⟨w.heap.size, 0, none⟩ (.slice A' on' c')) .i64 (.slice A' on' c') (L.take (k + 1)) := G1.out.foot (fun g' e => Below.heap_setCell _ _ _ _ (by have := (World.ownsRow.lt G1.out g' e).1; simp; omega))
    refine ⟨hb6, fun i => i = w.heap.size ∨ (Value.slice A' on' c').ownBlock = some i, ⟨hb6.size, fun i hi hc => ?_, fun i hi => ?_⟩, .slice A' on' c', by omega, hown, World.cell?_setCell_same' _ _ _ (by rw [s1]; rfl), by rw [World.frozen?_setCell]; exact s2, HB5.out.trans hb6, fun i => Iff.rfl⟩
    · have hc2 := fun h => hc ((HC.out i).2 h)
      rw [Below.heap_setCell _ _ _ _ (fun e => hc2 (.inl e))]
      exact h3.block i hi (fun e => hc2 (.inr e.symm))
    · rcases hi with h | h
      · exact .inl ((HC.out i).2 (.inl h))
      · rcases h4 with h5 | ⟨g, h5, h6⟩
        · exact .inl ((HC.out i).2 (.inr (h5 ▸ h)))
        · right
          rw [h] at h5
          injection h5 with h5
          have h6' : W.heap.size ≤ g := h6
          omega
  case done =>
    rintro Dd C W hDd ⟨ov, g1, g2, g3, g4, g5, g6⟩ hK
    rw [List.take_length] at g2
    have HO := Lib.hid g2
    have HB5 := Lib.hid g5
    have F6 := Lib.hid f6
    clear g2 g5 g6 HIT f1 f4 f6 f7
    obtain ⟨oA, oc, rfl, ohc⟩ := HO.out.slice
    obtain ⟨on, hon⟩ : ∃ on, on = L.length := ⟨_, rfl⟩
    rw [← hon] at HO g3
    clear hon ohc
    go_wp2
    refine ⟨by simp, .inl ⟨_, _, rfl, run_takeDeferred hK, ?_⟩⟩
    refine ⟨_, results_tmp rfl _ _ _, ?_⟩
    rw [HRet.out]
    have hne : (Value.slice oA on oc).ownBlock ≠ some Dd := by
      intro e
      rcases HO.out.2 with ⟨h1, _⟩ | ⟨g', cap, cur, hv, hgb, hh, _⟩
      · rw [h1] at e; cases e
      · rw [hv] at e; injection e with e; have e' : g' = Dd := e; subst e'; rw [hK] at hh; cases hh
    refine ⟨.slice oA on oc, rfl, (HO.out.base (Nat.le_succ _)).foot (fun g' e => World.putObj_heap_other (fun e2 => hne (by rw [e]; exact congrArg some e2))), HB5.out.trans (below_putObj _ (by have := F6.out; omega))⟩
end Go.Proofs.YtlmbklpidmkdcaaGreatDoor
namespace Go.Proofs.YtlmbklpidmkdcaaGreatDoor
open Go.RowKit

theorem collect_calls (gf : Nat) (lb : Array Value) (eg : ∀ args w, (callFunc gf args).run Tryz.prog w = .ok (.enter gf args) w) (L : List Int) (n1 : Nat) (D : Nat → Prop) (w : World) (hn1 : n1 ≤ w.heap.size)
    (hit : ∀ w1, Below w.heap.size w w1 → IterOver Tryz.prog gf lb (fun d : Int => #[.int .i64 d]) L n1 D w1) (hD : ∀ i, D i → i < w.heap.size) (hL : L.length ≤ 1000000) :
    Calls Tryz.prog 37 #[.func (.func gf) #[] lb] w fun e w' => ∃ v', e = .returned v' ∧ Own w.heap.size 3 w' .i64 v' L ∧ Below n1 w w' := by
  have H := Lib.hid (appendSeq_calls gf lb eg L n1 D w hn1 hit hD hL)
  clear hit hD hL eg hn1
  go_enter Tryz.func37, Tryz.ntmps37
  go_wp2_with (go_at_call 69; refine H.out.mono ?_; rintro e w1 ⟨v', rfl, h1, h2⟩; have H1 := Lib.hid h1; have H2 := Lib.hid h2; clear h1 h2)
  go_ret
  exact ⟨_, rfl, H1.out, H2.out⟩

/-- A row of ints, and OK. -/
def RetDigs (w : World) (L : List Int) (e : Ending) (w' : World) : Prop := ∃ v', e = .returned (.tuple #[v', .int .i64 0]) ∧ Own w.heap.size 3 w' .i64 v' L ∧ Below w.heap.size w w'

set_option maxHeartbeats 1000000 in
theorem digitsD_yes (v : Value) (xs : List Int) (b : Nat) (w : World) (hr : SI w .u64 v xs) (hu : U64 xs) (hn : xs.length ≤ 1000) (hb : 2 ≤ b) (hb2 : b ≤ 36) :
    Calls Tryz.prog 8 #[v, .int .i64 (b : Int)] w (RetDigs w (digs b (val 18446744073709551616 xs))) := by
  obtain ⟨A, c, rfl, hc, _⟩ := hr.form
  have hdl := digs_words hb xs hu
  have hB : isB (b : Int) = true := isB_yes (by omega) (by omega)
  obtain ⟨n, hn'⟩ : ∃ n, n = xs.length := ⟨_, rfl⟩
  have hA : n ≠ 0 → ∀ i, (Value.slice A n 0).ownBlock = some i → i < w.heap.size := by
    intro hne i hi
    have hx : xs ≠ [] := fun e => by rw [e] at hn'; exact hne hn'
    obtain ⟨g', e, hlt⟩ := hr.block hx
    have e' : (Value.slice A n 0).ownBlock = some g' := by cases A <;> exact e
    rw [e'] at hi
    injection hi with hi
    omega
  rw [← hn'] at hr hc hn ⊢
  obtain ⟨w5, hw5⟩ : ∃ w5, w5 = (w.alloc (.cells #[.slice A n c] 23)).alloc (.cells #[.int .i64 (b : Int)] 3) := ⟨_, rfl⟩
  have f2 : w5.cell? ⟨w.heap.size, 0, none⟩ = some (.slice A n c) := by rw [hw5]; simp [go_sem]
  have f3 : w5.cell? ⟨w.heap.size + 1, 0, none⟩ = some (.int .i64 (b : Int)) := by rw [hw5]; simp [go_sem]
  have f5 : w5.frozen? ⟨w.heap.size, 0, none⟩ = false := by rw [hw5]; simp [go_sem]
  have f6 : w5.heap.size = w.heap.size + 1 + 1 := by rw [hw5]; simp
  have f7 : Below w.heap.size w w5 := by rw [hw5]; exact (below_new _ _).trans ((below_new _ _).mono (by simp))
  have hcol := collect_calls 70 #[.pointer (some ⟨w.heap.size + 1, 0, none⟩), .pointer (some ⟨w.heap.size, 0, none⟩)] (enters_of Tryz.func70 (by kernel_rfl) rfl) (digs b (val 18446744073709551616 xs)) w.heap.size (DigD (w.heap.size + 1) w.heap.size A n) w5 (by omega)
    (fun w1 hb1 => digits1_iter (w.heap.size + 1) w.heap.size A n c xs b w.heap.size w1 ((hb1.cell (p := ⟨w.heap.size + 1, 0, none⟩) (by simp; omega)).trans f3) ((hb1.cell (p := ⟨w.heap.size, 0, none⟩) (by simp; omega)).trans f2) (frozen_foot f5 (hb1.block _ (by simp; omega))) ((hr.below f7).below hb1) hu (by omega) hb hb2 (Nat.le_refl _) (by omega))
    (by rintro i (h | h | ⟨h1, h2⟩)
        · omega
        · omega
        · have := hA h1 i h2; omega) (by omega)
  obtain ⟨D, hD⟩ : ∃ D, D = digs b (val 18446744073709551616 xs) := ⟨_, rfl⟩
  rw [← hD] at hcol hdl ⊢
  have HC := Lib.hid hcol
  have HW := Lib.hid hw5
  have F6 := Lib.hid f6
  have F7 := Lib.hid f7
  clear hcol hA hr hu hn' f2 f3 f5 f6 f7 hD hw5 hdl
  go_enter Tryz.func8, Tryz.ntmps8
  go_wp2_with (first
    | (go_at_call 17; refine (largeR_calls _ _ _ _ (by omega)).mono ?_; rintro e w' ⟨rfl, rfl⟩)
    | (go_at_call 18; refine (isBaseR_calls _ _).mono ?_; rintro e w' ⟨rfl, rfl⟩; rw [hB])
    | (go_at_call 38; refine (digitsR_calls _ _ _ _ _).mono ?_; rintro e w' ⟨rfl, rfl⟩; rw [← HW.out])
    | (go_at_call 37; refine HC.out.mono ?_; rintro e w6 ⟨v', rfl, h1, h2⟩; have H1 := Lib.hid h1; have H2 := Lib.hid h2; clear h1 h2))
  go_ret2
  exact ⟨_, rfl, H1.out.base (by have := F6.out; omega), F7.out.trans H2.out⟩
theorem digitsD_no (v : Value) (xs : List Int) (b : Int) (w : World) (hr : SI w .u64 v xs) (hn : xs.length ≤ 1000) (hb : isB b = false) :
    Calls Tryz.prog 8 #[v, .int .i64 b] w (RetV w (.tuple #[.slice none 0 0, .int .i64 1])) := by
  obtain ⟨A, c, rfl, hc, _⟩ := hr.form
  clear hr
  go_enter Tryz.func8, Tryz.ntmps8
  go_wp2_with (first
    | (go_at_call 17; refine (largeR_calls _ _ _ _ (by omega)).mono ?_; rintro e w' ⟨rfl, rfl⟩)
    | (go_at_call 18; refine (isBaseR_calls _ _).mono ?_; rintro e w' ⟨rfl, rfl⟩; rw [hb]))
  go_ret2
  exact ⟨rfl, rfl⟩

/-- How many zeros a list begins with. -/
def zs (L : List Int) : Nat := (L.takeWhile (· == 0)).length
theorem zs_at : ∀ (L : List Int) (k : Nat), (∀ j, j < k → L[j]?.getD 0 = 0) → k ≤ L.length → (k = L.length ∨ L[k]?.getD 0 ≠ 0) → zs L = k
  | [], k, _, hk, _ => by simp at hk; subst hk; rfl
  | x :: L, 0, _, _, h => by
    have : x ≠ 0 := by simpa using h
    have hx : (x == 0) = false := beq_eq_false_iff_ne.2 this
    simp [zs, List.takeWhile_cons, hx]
  | x :: L, k + 1, h1, h2, h3 => by
    have hx : x = 0 := by simpa using h1 0 (by omega)
    have := zs_at L k (fun j hj => by simpa using h1 (j + 1) (by omega)) (by simpa using h2) (by simpa using h3)
    unfold zs at this ⊢
    rw [List.takeWhile_cons, hx]
    simp [this]

set_option maxHeartbeats 1000000 in
theorem tailR_yes (v : Value) (xs : List Int) (b : Nat) (w : World) (hr : SI w .u64 v xs) (hu : U64 xs) (hn : xs.length ≤ 1000) (hb : 2 ≤ b) (hb2 : b ≤ 36) :
    Calls Tryz.prog 13 #[v, .int .i64 (b : Int)] w (RetB w (.tuple #[.int .i64 (zs (digs b (val 18446744073709551616 xs)) : Int), .int .i64 0])) := by
  have hdl := digs_words hb xs hu
  have HD := Lib.hid (digitsD_yes v xs b w hr hu hn hb hb2)
  obtain ⟨D, hD⟩ : ∃ D, D = digs b (val 18446744073709551616 xs) := ⟨_, rfl⟩
  rw [← hD] at hdl HD ⊢
  have hdl2 : D.length ≤ 64000 := by omega
  obtain ⟨A, c, rfl, hc, _⟩ := hr.form
  clear hr hu hD hdl
  go_enter Tryz.func13, Tryz.ntmps13
  go_upto_region 4 with (go_at_call 8; refine HD.out.mono ?_; rintro e w1 ⟨v', rfl, h1, h2⟩; obtain ⟨oA, oc, rfl, ohc⟩ := h1.slice; have H1 := Lib.hid h1; have H2 := Lib.hid h2; clear h1 h2 HD)
  have hsi := H1.out.si
  obtain ⟨A9, c9, hv9, _, hcell⟩ := hsi.form
  injection hv9 with e1 e2 e3
  subst e1
  have HCELL := Lib.hid hcell
  obtain ⟨w2, hw2⟩ : ∃ w2, w2 = w1.alloc (.cells #[.int .i64 0] 85) := ⟨_, rfl⟩
  have B2 : Below w1.heap.size w1 w2 := by rw [hw2]; exact below_new _ _
  have q1 : w2.cell? ⟨w1.heap.size, 0, none⟩ = some (.int .i64 0) := by rw [hw2]; simp [go_sem]
  have q2 : w2.frozen? ⟨w1.heap.size, 0, none⟩ = false := by rw [hw2]; simp [go_sem]
  have HW2 := Lib.hid hw2
  clear hw2 hsi hcell e3
  go_wp2
  rw [← HW2.out]
  go_loopw [22] (fun i wr => ∃ k : Nat, k ≤ D.length ∧ i = .int .i64 (k : Int) ∧ (∀ j, j < k → D[j]?.getD 0 = 0) ∧ wr.cell? ⟨w1.heap.size, 0, none⟩ = some (.int .i64 (k : Int)) ∧ wr.frozen? ⟨w1.heap.size, 0, none⟩ = false ∧ Below w1.heap.size w1 wr) (fun i _ => D.length - (intOf i).toNat)
  case atStart => exact ⟨0, Nat.zero_le _, rfl, fun j hj => absurd hj (by omega), q1, q2, B2⟩
  case round =>
    obtain ⟨k, hk, rfl, hz, x1, x2, hB⟩ := hrel
    have HB := Lib.hid hB
    have HZ := Lib.hid hz
    clear hB hz
    have hfin : k = D.length ∨ D[k]?.getD 0 ≠ 0 → (zs D) = k := fun h => zs_at D k HZ.out hk h
    have HFIN := Lib.hid hfin
    clear hfin q1 q2
    by_cases hlt : k < D.length
    · obtain ⟨ad, e, hcl⟩ := HCELL.out k hlt
      subst e
      have hcl2 : wr.cell? (ad.add k) = some (.int .i64 (D[k]?.getD 0)) := (HB.out.cell (World.block_lt_of_cell? w1 _ hcl)).trans hcl
      generalize hx : D[k]?.getD 0 = x at hcl2 hcl
      have HX := Lib.hid hx
      clear hcl hx
      by_cases hx0 : x = 0
      · subst hx0
        go_wp2
        go_roundw
        case rel => exact ⟨k + 1, by omega, by go_num, fun j hj => by
                      rcases Nat.lt_succ_iff_lt_or_eq.1 hj with h | h
                      · exact HZ.out j h
                      · subst h; exact HX.out, by rw [World.cell?_setCell_same' _ _ _ (by rw [x1]; rfl)]; rfl, by rw [World.frozen?_setCell]; exact x2, HB.out.setCell (p := ⟨w1.heap.size, 0, none⟩) (Nat.le_refl _) _⟩
        case measure => simp [intOf]; omega
      · have hx1 : (x == 0) = false := beq_eq_false_iff_ne.2 hx0
        go_wp2
        go_ret2
        exact ⟨by rw [HFIN.out (.inr (by rw [HX.out]; exact hx0))]; rfl, H2.out.trans (HB.out.mono H2.out.size)⟩
    · have hkk : k = D.length := by omega
      have hlt2 : decide ((k : Int) < (D.length : Int)) = false := decide_eq_false (by omega)
      have HKK := Lib.hid hkk
      clear hkk
      go_wp2
      go_ret2
      exact ⟨by rw [HFIN.out (.inl HKK.out)]; rfl, H2.out.trans (HB.out.mono H2.out.size)⟩
theorem tailR_no (v : Value) (xs : List Int) (b : Int) (w : World) (hr : SI w .u64 v xs) (hn : xs.length ≤ 1000) (hb : isB b = false) :
    Calls Tryz.prog 13 #[v, .int .i64 b] w (RetV w (.tuple #[.int .i64 0, .int .i64 1])) := by
  have HD := Lib.hid (digitsD_no v xs b w hr hn hb)
  clear hr
  go_enter Tryz.func13, Tryz.ntmps13
  go_wp2_with (go_at_call 8; refine HD.out.mono ?_; rintro e w1 ⟨rfl, rfl⟩)
  go_ret2
  exact ⟨rfl, rfl⟩
end Go.Proofs.YtlmbklpidmkdcaaGreatDoor
namespace Go.Proofs.YtlmbklpidmkdcaaGreatDoor
open Go.RowKit

theorem more_step (x p c : Nat) (hx : x < 18446744073709551616) (hp : p < 18446744073709551616) (hc : c < 18446744073709551616) :
    x * p / 18446744073709551616 + (x * p % 18446744073709551616 + c + 0) / 18446744073709551616 < 18446744073709551616 ∧
    (x * p % 18446744073709551616 + c + 0) % 18446744073709551616 + 18446744073709551616 * (x * p / 18446744073709551616 + (x * p % 18446744073709551616 + c + 0) / 18446744073709551616) = x * p + c := by
  have h1 : x * p ≤ 18446744073709551615 * 18446744073709551615 := Nat.mul_le_mul (by omega) (by omega)
  generalize x * p = z at *
  omega
theorem more_row {ys xs : List Int} {k p a c s c' x : Nat} (hl : ys.length = k) (hk : k < xs.length) (hx : xs[k]?.getD 0 = (x : Int)) (h : val 18446744073709551616 ys + 18446744073709551616 ^ k * c = val 18446744073709551616 (xs.take k) * p + a)
    (hs : s + 18446744073709551616 * c' = x * p + c) : val 18446744073709551616 (ys ++ [(s : Int)]) + 18446744073709551616 ^ (k + 1) * c' = val 18446744073709551616 (xs.take (k + 1)) * p + a := by
  rw [val_snoc, hl, val_take_succ, hx, Int.toNat_natCast, Int.toNat_natCast, Nat.pow_succ]
  generalize 18446744073709551616 ^ k = e at *
  generalize val 18446744073709551616 ys = vy at *
  generalize val 18446744073709551616 (xs.take k) = vx at *
  have e1 : vy + e * s + e * 18446744073709551616 * c' = vy + e * (s + 18446744073709551616 * c') := by grind
  rw [e1, hs]
  have e2 : vy + e * (x * p + c) = (vy + e * c) + e * (x * p) := by grind
  rw [e2, h]
  grind

theorem add64_law (x y : Nat) (w : World) :
    (callFunc 81 #[.int .u64 x, .int .u64 y, .int .u64 0]).run Tryz.prog w =
      .ok (.value (.tuple #[.int .u64 (((x + y + 0) % 18446744073709551616 : Nat) : Int), .int .u64 (((x + y + 0) / 18446744073709551616 : Nat) : Int)])) w := by
  have h := run_add64 (P := Tryz.prog) (w := w) x y 0 (by omega) (by omega) (by omega) (by omega)
  rw [run_callFunc_extern Tryz.func81 (by kernel_rfl) (by kernel_rfl) (by kernel_rfl) (e := add64Entry) (by kernel_rfl)]
  rw [h]
  simp only [Result.andThen]
  congr 5 <;> omega

set_option maxHeartbeats 1000000 in
set_option maxRecDepth 100000 in
theorem moreR_calls (v : Value) (xs : List Int) (p a : Nat) (w : World) (hr : SI w .u64 v xs) (hu : U64 xs) (hn : xs.length ≤ 100000) (hp : p < 18446744073709551616) (ha : a < 18446744073709551616) :
    Calls Tryz.prog 49 #[v, .int .u64 (p : Int), .int .u64 (a : Int)] w (RetOwn w 42 .u64 (wordsOf (val 18446744073709551616 xs * p + a))) := by
  obtain ⟨N, hN⟩ : ∃ N, N = val 18446744073709551616 xs * p + a := ⟨_, rfl⟩
  rw [← hN]
  have HN := Lib.hid hN
  obtain ⟨A, c, rfl, hc, hcell⟩ := hr.form
  have HR := Lib.hid hr
  have HU := Lib.hid hu
  have HC := Lib.hid hcell
  clear hr hu hcell hN
  go_enter Tryz.func49, Tryz.ntmps49
  go_wp2_with (at_make; refine wpList_mk0 (W0 := w) rfl _ _ 23 rfl w.heap.size 42 8 .u64 Tryz.underlying23 info64 _ _ (xs.length + 1) _ rfl rfl (by omega) (by omega) (by omega) (Below.refl _ _) (Nat.le_refl _) ?_; intro v1 w1 h1 h2 h3; have H1 := Lib.hid h1; have H2 := Lib.hid h2; clear h1 h2 h3)
  go_loopw [7, 8, 21] (fun o cc i wr => ∃ (k cy : Nat) (ys : List Int), k ≤ xs.length ∧ i = .int .i64 (k : Int) ∧ cc = .int .u64 (cy : Int) ∧ cy < 18446744073709551616 ∧ ys.length = k ∧ U64 ys ∧ val 18446744073709551616 ys + 18446744073709551616 ^ k * cy = val 18446744073709551616 (xs.take k) * p + a ∧ Own w.heap.size 42 wr .u64 o ys ∧ Below w.heap.size w wr) (fun o cc i _ => xs.length - (intOf i).toNat)
  case atStart => exact ⟨0, a, [], Nat.zero_le _, rfl, rfl, ha, rfl, U64.nil, by rw [List.take_zero, val_nil, Nat.pow_zero, Nat.one_mul, Nat.zero_mul], H1.out, H2.out⟩
  case round =>
    obtain ⟨k, cy, ys, hk, rfl, rfl, hcy, hyl, hyu, hv, ho, hB⟩ := hrel
    have HO := Lib.hid ho
    have HB := Lib.hid hB
    have HV := Lib.hid hv
    have HYL := Lib.hid hyl
    have HYU := Lib.hid hyu
    by_cases hlt : k < xs.length
    · obtain ⟨ad, e, hcl⟩ := HC.out k hlt
      subst e
      have hcl2 : wr.cell? (ad.add k) = some (.int .u64 (xs[k]?.getD 0)) := (hB.cell (World.block_lt_of_cell? w _ hcl)).trans hcl
      have hx := HU.out.at k
      obtain ⟨x, hxx⟩ : ∃ x : Nat, xs[k]?.getD 0 = (x : Int) := ⟨(xs[k]?.getD 0).toNat, by omega⟩
      rw [hxx] at hx hcl2
      have hx1 : x < 18446744073709551616 := by omega
      have HXX := Lib.hid hxx
      have HST := Lib.hid (more_step x p cy hx1 hp hcy)
      clear hcl hx hxx ho hB hv hyl hyu
      go_upto_region 8 with (go_at_call 50; refine (Tryz.bits_Mul64 x p hx1 hp _).mono ?_; rintro e w' ⟨rfl, rfl⟩; obtain ⟨hi, hhi⟩ : ∃ hi, hi = x * p / 18446744073709551616 := ⟨_, rfl⟩; obtain ⟨lo, hlo⟩ : ∃ lo, lo = x * p % 18446744073709551616 := ⟨_, rfl⟩; rw [← hhi, ← hlo]; have HHI := Lib.hid (And.intro hhi hlo); clear hhi hlo)
      obtain ⟨s, hs⟩ : ∃ s, s = (lo + cy + 0) % 18446744073709551616 := ⟨_, rfl⟩
      obtain ⟨c1, hc1⟩ : ∃ c1, c1 = (lo + cy + 0) / 18446744073709551616 := ⟨_, rfl⟩
      have hadd := fun w => add64_law lo cy w
      simp only [← hs, ← hc1] at hadd
      have hst := HST.out
      rw [← HHI.out.1, ← HHI.out.2, ← hs, ← hc1] at hst
      obtain ⟨g1, g2⟩ := hst
      have hsl : s < 18446744073709551616 := by rw [hs]; exact Nat.mod_lt _ (by omega)
      have hwr : IntKind.u64.wrap ((hi : Int) + (c1 : Int)) = ((hi + c1 : Nat) : Int) := by
        rw [← Int.natCast_add]
        exact wrap_u64 _ (by omega) (by omega)
      have hV2 := Lib.hid (more_row HYL.out hlt HXX.out HV.out g2)
      have HSL := Lib.hid hsl
      have HWR := Lib.hid (And.intro hwr g1)
      clear hs hc1 g1 g2 hsl hwr
      go_wp2_with (first
        | (at_builtin; refine wpList_app1 (W0 := w) rfl (.tmp 37) (.tmp 39) 23 rfl w.heap.size 42 8 .u64 Tryz.underlying23 info64 _ ys _ rfl rfl HO.out (by rw [HYL.out]; omega) (by omega) HB.out HB.out.size ?_; intro v5 w5 q1 q2 q3 q4; have G1 := Lib.hid q1; have G2 := Lib.hid q2; clear q1 q2 q3 q4 hadd)
        | simp only [hadd])
      go_roundw
      case rel => exact ⟨k + 1, hi + c1, ys ++ [(s : Int)], by omega, by go_num, by rw [HWR.out.1], HWR.out.2, by simp [HYL.out], HYU.out.app (U64.one (by omega) (by have := HSL.out; omega)), hV2.out, G1.out, G2.out⟩
      case measure => simp [intOf]; omega
    · have hkk : k = xs.length := by omega
      have hv2 := HV.out
      rw [hkk, List.take_length, ← HN.out] at hv2
      have hlt2 : decide ((k : Int) < (xs.length : Int)) = false := decide_eq_false (by omega)
      have HV2 := Lib.hid hv2
      have hyl2 : ys.length = xs.length := by rw [hyl, hkk]
      have HY2 := Lib.hid hyl2
      clear hkk hv2 ho hB hv hyl hyu hyl2
      go_wp2_with (at_builtin; refine wpList_app1 (W0 := w) rfl (.tmp 45) (.tmp 47) 23 rfl w.heap.size 42 8 .u64 Tryz.underlying23 info64 _ ys _ rfl rfl HO.out (by rw [HYL.out]; omega) (by omega) HB.out HB.out.size ?_; intro v5 w5 q1 q2 q3 q4; have G1 := Lib.hid q1; have G2 := Lib.hid q2; clear q1 q2 q3 q4)
      have hcut : cut (ys ++ [(cy : Int)]) = wordsOf N := by
        rw [cut_words _ (HYU.out.app (U64.one (by omega) (by omega))), val_snoc, Int.toNat_natCast, HY2.out, HV2.out]
      have hlen : (ys ++ [(cy : Int)]).length ≤ 1099511627776 := by simp [HY2.out]; omega
      have HCU := Lib.hid hcut
      clear hcut
      refine (trimN_calls _ _ _ G1.out.si hlen).mono ?_
      rintro e w6 ⟨v6, rfl, q1, q2⟩
      rw [HCU.out] at q1
      have G3 := Lib.hid q1
      have G4 := Lib.hid q2
      clear q1 q2
      go_wp2
      go_ret
      exact ⟨_, rfl, G3.out.base G2.out.size, G2.out.trans (G4.out.mono G2.out.size)⟩
end Go.Proofs.YtlmbklpidmkdcaaGreatDoor
namespace Go.Proofs.YtlmbklpidmkdcaaGreatDoor
open Go.RowKit

theorem fitR_calls (A : Option Addr) (n c : Nat) (w : World) (hn : n ≤ 4096) : Calls Tryz.prog 22 #[.slice A n c] w (RetV w (.tuple #[.slice A n c, .int .i64 0])) := by
  go_enter Tryz.func22, Tryz.ntmps22
  go_wp2_with (go_at_call 17; refine (largeR_calls _ _ _ _ hn).mono ?_; rintro e w' ⟨rfl, rfl⟩)
  go_ret2
  exact ⟨rfl, rfl⟩

/-- The digit that a character stands for; -1: none. -/
def lowC (c : Int) : Int := if 65 ≤ c ∧ c ≤ 90 then c + 32 else c
def digC (c : Int) : Int := if 48 ≤ c ∧ c ≤ 57 then c - 48 else if 97 ≤ c ∧ c ≤ 122 then c - 87 else -1
def valC (c b : Int) : Int := if digC (lowC c) ≥ b then -1 else digC (lowC c)
theorem letters_idx : ∀ n : Fin 128, Lib.indexByte (⟨#[48, 49, 50, 51, 52, 53, 54, 55, 56, 57, 97, 98, 99, 100, 101, 102, 103, 104, 105, 106, 107, 108, 109, 110, 111, 112, 113, 114, 115, 116, 117, 118, 119, 120, 121, 122]⟩ : ByteArray).data.toList n.val.toUInt8 = digC (n.val : Int) := by decide +kernel

set_option maxHeartbeats 1000000 in
theorem valueR_ascii (c b : Int) (w : World) (h0 : 0 ≤ c) (h1 : c < 128) (hb : 2 ≤ b) (hb2 : b ≤ 36) :
    Calls Tryz.prog 48 #[.int .i32 c, .int .i64 b] w (RetV w (.int .i64 (valC c b))) := by
  obtain ⟨l, hl⟩ : ∃ l, l = lowC c := ⟨_, rfl⟩
  have hl0 : 0 ≤ l ∧ l < 128 := by rw [hl]; unfold lowC; split <;> omega
  obtain ⟨d, hd⟩ : ∃ d, d = digC l := ⟨_, rfl⟩
  have hv : valC c b = if d ≥ b then -1 else d := by unfold valC; rw [← hl, ← hd]
  have hcall := fun w => Tryz.strings_IndexRune_ascii ⟨#[48, 49, 50, 51, 52, 53, 54, 55, 56, 57, 97, 98, 99, 100, 101, 102, 103, 104, 105, 106, 107, 108, 109, 110, 111, 112, 113, 114, 115, 116, 117, 118, 119, 120, 121, 122]⟩ l w hl0.1 hl0.2
  have hix := letters_idx ⟨l.toNat, by omega⟩
  simp only at hix
  rw [show ((l.toNat : Nat) : Int) = l by omega, ← hd] at hix
  rw [hix] at hcall
  have HCALL := Lib.hid hcall
  rw [hv]
  have HL := Lib.hid hl
  clear hl hd hix hcall hv
  by_cases hu : 65 ≤ c ∧ c ≤ 90
  · have e1 : c + 32 = l := by rw [HL.out]; unfold lowC; rw [if_pos hu]
    obtain ⟨u1, u2⟩ := hu
    have HE1 := Lib.hid e1
    by_cases hdb : b ≤ d
    · rw [if_pos hdb]
      clear e1
      go_enter Tryz.func48, Tryz.ntmps48
      go_wp2_with (go_at_call 80; rw [HE1.out]; refine (HCALL.out _).mono ?_; rintro e w' ⟨rfl, rfl⟩)
      go_ret
      exact ⟨rfl, rfl⟩
    · rw [if_neg hdb]
      clear e1
      go_enter Tryz.func48, Tryz.ntmps48
      go_wp2_with (go_at_call 80; rw [HE1.out]; refine (HCALL.out _).mono ?_; rintro e w' ⟨rfl, rfl⟩)
      go_ret
      exact ⟨rfl, rfl⟩
  · have e1 : c = l := by rw [HL.out]; unfold lowC; rw [if_neg hu]
    subst e1
    rcases (show c < 65 ∨ 90 < c by omega) with hlo | hlo
    all_goals
      clear hu
      by_cases hdb : b ≤ d
      · rw [if_pos hdb]
        go_enter Tryz.func48, Tryz.ntmps48
        go_wp2_with (go_at_call 80; refine (HCALL.out _).mono ?_; rintro e w' ⟨rfl, rfl⟩)
        go_ret
        exact ⟨rfl, rfl⟩
      · rw [if_neg hdb]
        go_enter Tryz.func48, Tryz.ntmps48
        go_wp2_with (go_at_call 80; refine (HCALL.out _).mono ?_; rintro e w' ⟨rfl, rfl⟩)
        go_ret
        exact ⟨rfl, rfl⟩
end Go.Proofs.YtlmbklpidmkdcaaGreatDoor
