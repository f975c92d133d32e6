/- radix.read. -/
import Derived.Test.YtlmbklpidmkdcaaGreatDoorE5
import Derived.Maps.OwnOps
namespace Go.Proofs.YtlmbklpidmkdcaaGreatDoor
open Go.RowKit Go.Maps

theorem wpList_insert_own {H : Type} {P : Program} (w : World) {ops : Array Oper} {rest : List Oper} {o : Oper} {a : Act} {Q : Exit → Act → World → Prop}
    (hg : o.guard = none) (m x v : Operand) (t : TypeId) (hop : o.op = Op.insert t m x v)
    (k e : TypeId) (K : Keyed P k) (ht : P.underlying t = some (.map k e)) (R : Value → Option (DataW H × List MemPlace)) (b n : Nat) (D : DataW H)
    (hm : a.eval m = .map (some b)) (hown : w.ownsMap P k R b n D) (hn : n < maxLen) (key val : Value) (kl : Lit) (hx : a.eval x = key) (hv : a.eval v = val) (hkey : keyOf P k key = some kl)
    (d : DataW H) (ps : List MemPlace) (hval : R val = some (d, ps))
    (hK : ∀ w', w'.ownsMap P k R b (n + 1) (D.put kl d) → w.grownBy w' (some b) → wpList P ops Q rest (a.put o.dst undef) w') :
    wpList P ops Q (o :: rest) a w := by
  refine wpList_plain hg fun K' hK' => ?_
  obtain ⟨w', hrun, r1, r2⟩ := hown.update K ht hn hkey hval
  unfold Oper.wp
  simp [execOp, hop, hm, hx, hv, hrun, Result.andThen]
  exact hK' _ _ (hK w' r1 r2)

theorem lawByte : Keyed Tryz.prog 5 := int_keyed Tryz.underlying5
theorem zeroInt (w : World) : (zeroValue 3).run Tryz.prog w = .ok (.int .i64 0) w := by kernel_rfl


theorem heap_set1 (w : World) (g : Nat) (a b y : Value) (e : Nat) (h : w.heap[g]? = some (.cells #[a, b] e)) : (w.setCell ⟨g, 1, none⟩ y).heap[g]? = some (.cells #[a, y] e) := by
  simp only [World.setCell, Array.getElem?_modify, if_pos, h, Option.map_some]
  rfl
theorem heap_set0 (w : World) (g : Nat) (a b y : Value) (e : Nat) (h : w.heap[g]? = some (.cells #[a, b] e)) : (w.setCell ⟨g, 0, none⟩ y).heap[g]? = some (.cells #[y, b] e) := by
  simp only [World.setCell, Array.getElem?_modify, if_pos, h, Option.map_some]
  rfl
theorem bytes_dropx (s : ByteArray) (a : Nat) : bytes (s.extract a s.size) = (bytes s).drop a := by
  unfold bytes
  rw [ByteArray.data_extract, Array.toList_extract]
  unfold List.extract
  rw [List.take_of_length_le (by rw [List.length_drop, Array.length_toList]; exact Nat.le_refl _), List.map_drop]
/-- The package's 'none' is what it was laid as. -/
def NoneAt (w : World) : Prop := w.cell? ⟨0, 0, none⟩ = some (.int .i64 0) ∧ w.cell? ⟨0, 1, none⟩ = some (.string ⟨#[]⟩)
theorem NoneAt.pos {w : World} (h : NoneAt w) : 0 < w.heap.size := World.block_lt_of_cell? w _ h.1
theorem NoneAt.below {w W : World} (h : NoneAt w) {B : Nat} (hb : Below B w W) (hB : 0 < B) : NoneAt W := ⟨(hb.cell (p := ⟨0, 0, none⟩) hB).trans h.1, (hb.cell (p := ⟨0, 1, none⟩) hB).trans h.2⟩

set_option maxHeartbeats 4000000 in
set_option maxRecDepth 100000 in
theorem readR_ten (t : ByteArray) (w : World) (hn : t.size ≤ 65536) (hN : NoneAt w) (h0 : 0 < t.size) (h1 : (bytes t)[0]?.getD 0 ≠ 95) (h2 : t.size = 1 ∨ (bytes t)[0]?.getD 0 ≠ 48) (p : Int) (d : ByteArray) (hp : p = (litS 10 (bytes t)).1) (hd : d = strOf (litS 10 (bytes t)).2) :
    Calls Tryz.prog 72 #[.string t] w (RetB w (.agg #[.int .i64 p, .string d])) := by
  have HPD := Lib.hid (And.intro hp hd)
  have HN := Lib.hid hN
  clear hp hd hN
  rw [bytes_at t 0 h0] at h1 h2
  have e1 : ((((t[0]'h0).toNat : Nat) : Int) == 95) = false := beq_eq_false_iff_ne.2 h1
  have em : t.toList.isEmpty = false := by rw [toList_empty]; exact decide_eq_false (by omega)
  obtain ⟨q, hq⟩ : ∃ q, (t[0]'h0).toNat = q := ⟨_, rfl⟩
  rw [hq] at h1 h2 e1
  go_enter Tryz.func72, Tryz.ntmps72
  go_wp2
  go_step3
  obtain ⟨bb, hbb⟩ : ∃ bb : Nat, bb = 10 := ⟨_, rfl⟩
  by_cases hz : 1 < t.size
  · have e2 : ((q : Int) == 48) = false := beq_eq_false_iff_ne.2 (h2.resolve_left (by omega))
    go_upto_region 10 with (fail)
    clear e2
    obtain ⟨W, hW⟩ : ∃ W, W = (w.alloc (.cells #[.int .i64 0, .string ⟨#[]⟩] 123)).alloc (.cells #[.int .i64 10, .string ⟨#[]⟩] 123) := ⟨_, rfl⟩
    have hWr : W.heap[w.heap.size]? = some (.cells #[.int .i64 0, .string ⟨#[]⟩] 123) := by rw [hW]; exact ((below_new _ _).block _ (by simp)).trans (World.alloc_heap_new _ _)
    have hWo : W.heap[w.heap.size + 1]? = some (.cells #[.int .i64 ((10 : Nat) : Int), .string ⟨#[]⟩] 123) := by
      rw [hW]
      have := World.alloc_heap_new (w.alloc (.cells #[.int .i64 0, .string ⟨#[]⟩] 123)) (.cells #[.int .i64 10, .string ⟨#[]⟩] 123)
      rwa [World.size_alloc] at this
    have hWB : Below w.heap.size w W := by rw [hW]; exact (below_new _ _).trans ((below_new _ _).mono (by simp))
    have hWz : w.heap.size + 2 ≤ W.heap.size := by rw [hW]; simp
    rw [← hbb] at hWo HPD
    rw [← hW]
    have hb2 : 2 ≤ bb ∧ bb ≤ 36 := by omega
    clear hW em e1 h1 h2 hbb hq
    go_wp2
    go_step3
    go_wp2
    have hL := bytes_length t
    obtain ⟨L, hLL⟩ : ∃ L, L = bytes t := ⟨_, rfl⟩
    rw [← hLL] at hL
    have HLL := Lib.hid hLL
    have HL := Lib.hid hL
    have HPD2 : Hid (p = (litS bb L).1 ∧ d = strOf (litS bb L).2) := by rw [hLL]; exact HPD.out
    have g1 : (W.iter t 0).heap[w.heap.size]? = some (.cells #[.int .i64 0, .string ⟨#[]⟩] 123) := (below_new W _).block _ (by omega) |>.trans hWr
    have g2 : (W.iter t 0).heap[w.heap.size + 1]? = some (.cells #[.int .i64 (bb : Int), .string ⟨#[]⟩] 123) := (below_new W _).block _ (by omega) |>.trans hWo
    have g3 : (W.iter t 0).heap[W.heap.size]? = some (.stringIter t 0) := World.iter_heap _ _ _
    have g4 : Below w.heap.size w (W.iter t 0) := hWB.trans ((below_new W _).mono (by omega))
    clear hLL hL hWr hWo hWB
    obtain ⟨K, hK⟩ : ∃ K, K = W.heap.size := ⟨_, rfl⟩
    obtain ⟨W9, hW9⟩ : ∃ W9, W9 = W.iter t 0 := ⟨_, rfl⟩
    rw [← hW9] at g1 g2 g3 g4 ⊢
    rw [← hK] at g3 hWz ⊢
    clear hW9 hK
    go_loopg [7] t.size (fun m u7 wr => ∃ (k : Nat) (u : Int), m + k = t.size ∧ u7 = .int .i32 u ∧ (u = 95 ↔ Lu L k) ∧ LPre bb L k ∧ Below w.heap.size w wr ∧ wr.heap[w.heap.size]? = some (.cells #[.int .i64 0, .string ⟨#[]⟩] 123) ∧ wr.heap[w.heap.size + 1]? = some (.cells #[.int .i64 (bb : Int), .string (strOf (Lf L k))] 123) ∧ wr.heap[K]? = some (.stringIter t k))
    case atStart => exact ⟨0, 48, rfl, rfl, ⟨fun h => absurd h (by omega), fun h => absurd h.1 (by omega)⟩, fun i hi => absurd hi (by omega), g4, g1, by rw [Lf_zero]; exact g2, g3⟩
    case round =>
      obtain ⟨k, u, hk, rfl, hu, hpre, hB, hr, ho, hi⟩ := hrel
      clear g1 g2 g3 g4
      have HU := Lib.hid hu
      have HPRE := Lib.hid hpre
      have HB := Lib.hid hB
      have HR := Lib.hid hr
      have HO := Lib.hid ho
      have HI := Lib.hid hi
      have HNW := Lib.hid (HN.out.below hB HN.out.pos)
      clear hu hpre hB
      by_cases hlt : k < t.size
      · obtain ⟨r, n, hnx0, hr0, hrd, hr1, hr2⟩ := rune_at t k hlt
        rw [← HLL.out] at hrd hr1 hr2
        have hkL : k < L.length := by rw [HL.out]; exact hlt
        obtain ⟨W1, hW1⟩ : ∃ W1, W1 = wr.iterAt K t (k + n) := ⟨_, rfl⟩
        have hnx : ∀ ty, (Instr.next (.pointer (some ⟨K, 0, none⟩)) true ty).run Tryz.prog wr = .ok (.tuple #[.bool true, .int .i64 (k : Int), .int .i32 r]) W1 := fun ty => by
          rw [hnx0 _ _ _ _ hi, hW1]
        have i1 : W1.heap[w.heap.size]? = some (.cells #[.int .i64 0, .string ⟨#[]⟩] 123) := by rw [hW1]; exact (Lib.iterAt_other _ _ _ _ _ (by omega)).trans hr
        have i2 : W1.heap[w.heap.size + 1]? = some (.cells #[.int .i64 (bb : Int), .string (strOf (Lf L k))] 123) := by rw [hW1]; exact (Lib.iterAt_other _ _ _ _ _ (by omega)).trans ho
        have i3 : W1.heap[K]? = some (.stringIter t (k + n)) := by rw [hW1]; exact Lib.iterAt_heap _ _ _ _ _ hi
        have i4 : Below w.heap.size w W1 := by rw [hW1]; exact Lib.below_iterAt HB.out (by omega) _ _
        have i5 : NoneAt W1 := HN.out.below i4 HN.out.pos
        obtain ⟨c, hc⟩ : ∃ c, c = L[k]?.getD 0 := ⟨_, rfl⟩
        rw [← hc] at hrd hr1 hr2
        have hrc : r = 95 ↔ c = 95 := by
          constructor
          · intro h; by_cases h2 : c < 128
            · rw [← (hr1 h2).1]; exact h
            · have := hr2 (by omega); omega
          · intro h; rw [(hr1 (by omega)).1]; exact h
        obtain ⟨x0, x1, x2, x3⟩ := cells2 i1
        obtain ⟨x4, x5, x6, x7⟩ := cells2 i2
        have hII := Lib.hid (And.intro i1 (And.intro i2 (And.intro i3 (And.intro i4 i5))))
        have HC := Lib.hid hc
        have HR1 := Lib.hid hr1
        have HRD := Lib.hid hrd
        clear hW1 i1 i2 i3 i4 hi hr ho hnx0 hr1 hr2 hrd hc
        obtain ⟨n0, n1⟩ := i5
        by_cases hc95 : c = 95
        · have hr95 := hrc.2 hc95
          have t1 : (r == 95) = true := by rw [hr95]; rfl
          have t1' : (r != 95) = false := by rw [hr95]; rfl
          have hn1 := (HR1.out (by omega)).2
          have HC95 := Lib.hid (And.intro hc95 (And.intro hr95 hn1))
          clear hrc hc95 hr95 hn1
          by_cases hu95 : u = 95
          · have t2 : (u != 95) = false := by rw [hu95]; rfl
            have hbad := LOK_bad1 (b := bb) hkL (HC.out.symm.trans HC95.out.1) (HU.out.1 hu95)
            obtain ⟨hp1, hd1⟩ := HPD2.out
            rw [hbad] at hp1 hd1
            have HPX := Lib.hid (And.intro hp1 hd1)
            have HROW := Lib.hid hII.out.1
            have HBEL := Lib.hid hII.out.2.2.2.1
            clear hu95 hbad hp1 hd1
            go_wp2
            try rw [Exit.noGoto_ret]
            obtain ⟨wf, hwf⟩ : ∃ wf, wf = (W1.setCell ⟨w.heap.size, 0, none⟩ (.int .i64 0)).setCell ⟨w.heap.size, 1, none⟩ (.string ⟨#[]⟩) := ⟨_, rfl⟩
            have hg : wf.heap[w.heap.size]? = some (.cells #[.int .i64 0, .string ⟨#[]⟩] 123 (0, 0)) := by rw [hwf]; exact heap_set2 _ _ _ _ _ _ _ HROW.out
            have hBf : Below w.heap.size w wf := by rw [hwf]; exact (HBEL.out.setCell (p := ⟨w.heap.size, 0, none⟩) (by simp) _).setCell (p := ⟨w.heap.size, 1, none⟩) (by simp) _
            rw [← hwf]
            refine bodyPost_ret_by (results_cell_row rfl _ wf w.heap.size _ _ _ _ rfl hg Tryz.underlying123 rfl (by kernel_rfl)) rfl ?_
            exact ⟨ret_of (by rw [HPX.out.1, HPX.out.2]; rfl), hBf⟩
          · have t2 : (u != 95) = true := by simp [hu95]
            have hnl : ¬ Lu L k := fun h => hu95 (HU.out.2 h)
            have HNL := Lib.hid hnl
            clear hu95 hnl
            go_wp2
            go_roundg (gk - 1)
            case rel =>
              have hc9 := HC.out.symm.trans HC95.out.1
              refine ⟨k + 1, r, by omega, rfl, ⟨fun _ => (Lu_succ L k).2 hc9, fun _ => HC95.out.2.1⟩, HPRE.out.skip hc9 HNL.out, hII.out.2.2.2.1, hII.out.1, ?_, ?_⟩
              · rw [Lf_skip hkL hc9]; exact hII.out.2.1
              · have := hII.out.2.2.1
                rw [HC95.out.2.2] at this
                exact this
            case measure => omega
        · have hr95 : r ≠ 95 := fun h => hc95 (hrc.1 h)
          have t1 : (r == 95) = false := beq_eq_false_iff_ne.2 hr95
          have t1' : (r != 95) = true := by simp [hr95]
          have HC95 := Lib.hid (And.intro hc95 hr95)
          clear hrc hc95 hr95
          by_cases hg : dig10 r < (bb : Int)
          · have hv : valD r (bb : Int) = dig10 r := by unfold valD; rw [if_pos hg]
            have hp0 := dig10_pos _ hr0
            have hgc : dig10 c < (bb : Int) := by rw [← HRD.out]; exact hg
            have hc128 := (dig10_lt c (b := (bb : Int)) (by omega) hgc).1
            obtain ⟨hrc, hn1⟩ := HR1.out hc128
            obtain ⟨v, hvv⟩ : ∃ v, v = dig10 r := ⟨_, rfl⟩
            rw [← hvv] at hp0 hv
            have HV := Lib.hid hv
            have HG := Lib.hid (And.intro hgc (And.intro hrc (And.intro hn1 hc128)))
            clear hv hvv hg hgc hrc hn1 hc128
            obtain ⟨l1, hl1⟩ : ∃ l1, l1 = strOf (Lf L k) := ⟨_, rfl⟩
            rw [← hl1] at x5
            have HL1 := Lib.hid hl1
            have hlen : l1.size ≤ 65536 := by
              rw [hl1, strOf_size]
              have := Lf_len L k
              rw [HL.out] at this
              omega
            have hec : Utf8.encode r = strOf [c] := by rw [HG.out.2.1]; exact enc_ascii c (by rw [← HG.out.2.1]; exact hr0) HG.out.2.2.2
            obtain ⟨er, her⟩ : ∃ er, er = strOf [c] := ⟨_, rfl⟩
            rw [← her] at hec
            have hes : er.size = 1 := by rw [her, strOf_size]; rfl
            obtain ⟨l2, hl2⟩ : ∃ l2, l2 = strOf (Lf L (k + 1)) := ⟨_, rfl⟩
            have hcat : l1 ++ er = l2 := by rw [hl1, hl2, her, strOf_app, Lf_push hkL (by rw [← HC.out]; exact HC95.out.1), ← HC.out]
            have HL2 := Lib.hid hl2
            have hsum : ¬ 9223372036854775807 < l1.size + 1 := by omega
            clear hl1 her hl2
            go_wp2_with (go_at_call 48; refine (valueR_calls r (bb : Int) _ hr0 (by omega) (by omega)).mono ?_; rintro e W2 ⟨rfl, q1⟩; rw [HV.out]; have G1 := Lib.hid q1; obtain ⟨y0, y1, y2, y3⟩ := cells2 ((q1.block _ (show w.heap.size + 1 < W1.heap.size from (Array.getElem?_eq_some_iff.1 hII.out.2.1).1)).trans hII.out.2.1); rw [← HL1.out] at y1; clear q1)
            go_roundg (gk - 1)
            case rel =>
              have hc9 : L[k]?.getD 0 ≠ 95 := by rw [← HC.out]; exact HC95.out.1
              have hm : w.heap.size + 1 < W1.heap.size := (Array.getElem?_eq_some_iff.1 hII.out.2.1).1
              refine ⟨k + 1, r, by omega, rfl, ⟨fun h => absurd h HC95.out.2, fun h => absurd ((Lu_succ L k).1 h) hc9⟩, HPRE.out.push hc9 (by rw [← HC.out]; exact HG.out.1), ?_, ?_, ?_, ?_⟩
              · exact (hII.out.2.2.2.1.trans (G1.out.mono hII.out.2.2.2.1.size)).setCell (p := ⟨w.heap.size + 1, 1, none⟩) (by simp) _
              · exact (Below.heap_setCell _ _ _ _ (by simp)).trans ((G1.out.block _ (by omega)).trans hII.out.1)
              · rw [heap_set1 _ _ _ _ _ _ ((G1.out.block _ hm).trans hII.out.2.1), HL2.out]
              · have hKl := (Array.getElem?_eq_some_iff.1 hII.out.2.2.1).1
                refine (Below.heap_setCell _ _ _ _ (show K ≠ w.heap.size + 1 by omega)).trans ((G1.out.block _ hKl).trans ?_)
                have := hII.out.2.2.1
                rw [HG.out.2.2.1] at this
                exact this
            case measure => omega
          · have hv : valD r (bb : Int) = -1 := by unfold valD; rw [if_neg hg]
            have hbad := LOK_bad2 (b := bb) hkL (by rw [← HC.out]; exact HC95.out.1) (by rw [← HC.out, ← HRD.out]; exact hg)
            obtain ⟨hp1, hd1⟩ := HPD2.out
            rw [hbad] at hp1 hd1
            have HPX := Lib.hid (And.intro hp1 hd1)
            have HV := Lib.hid hv
            clear hv hg hbad hp1 hd1
            go_wp2_with (go_at_call 48; refine (valueR_calls r (bb : Int) _ hr0 (by omega) (by omega)).mono ?_; rintro e W2 ⟨rfl, q1⟩; rw [HV.out]; have G1 := Lib.hid q1; have HROW := Lib.hid ((q1.block _ (Array.getElem?_eq_some_iff.1 hII.out.1).1).trans hII.out.1); have HBEL := Lib.hid (hII.out.2.2.2.1.trans (q1.mono hII.out.2.2.2.1.size)); obtain ⟨m0, m1⟩ := HN.out.below HBEL.out HN.out.pos; obtain ⟨y0, y1, y2, y3⟩ := cells2 HROW.out; clear q1)
            try rw [Exit.noGoto_ret]
            obtain ⟨wf, hwf⟩ : ∃ wf, wf = (W2.setCell ⟨w.heap.size, 0, none⟩ (.int .i64 0)).setCell ⟨w.heap.size, 1, none⟩ (.string ⟨#[]⟩) := ⟨_, rfl⟩
            have hg : wf.heap[w.heap.size]? = some (.cells #[.int .i64 0, .string ⟨#[]⟩] 123 (0, 0)) := by rw [hwf]; exact heap_set2 _ _ _ _ _ _ _ HROW.out
            have hBf : Below w.heap.size w wf := by rw [hwf]; exact (HBEL.out.setCell (p := ⟨w.heap.size, 0, none⟩) (by simp) _).setCell (p := ⟨w.heap.size, 1, none⟩) (by simp) _
            rw [← hwf]
            refine bodyPost_ret_by (results_cell_row rfl _ wf w.heap.size _ _ _ _ rfl hg Tryz.underlying123 rfl (by kernel_rfl)) rfl ?_
            exact ⟨ret_of (by rw [HPX.out.1, HPX.out.2]; rfl), hBf⟩
      · have hnx : ∀ ty, (Instr.next (.pointer (some ⟨K, 0, none⟩)) true ty).run Tryz.prog wr = .ok (.tuple #[.bool false]) wr := fun ty => Lib.run_next_end_at _ _ _ _ _ hi hlt
        have hkL : k = L.length := by rw [HL.out]; omega
        obtain ⟨n0, n1⟩ := HNW.out
        obtain ⟨x0, x1, x2, x3⟩ := cells2 hr
        obtain ⟨x4, x5, x6, x7⟩ := cells2 ho
        obtain ⟨l1, hl1⟩ : ∃ l1, l1 = strOf (Lf L k) := ⟨_, rfl⟩
        rw [← hl1] at x5
        have HROW := Lib.hid hr
        have HBEL := Lib.hid HB.out
        have HKL := Lib.hid hkL
        have HL1 := Lib.hid hl1
        obtain ⟨hp1, hd1⟩ := HPD2.out
        have HP1 := Lib.hid hp1
        have HD1 := Lib.hid hd1
        clear hi hr ho hkL hl1 hp1 hd1
        by_cases hu95 : u = 95
        · have t2 : (u == 95) = true := by rw [hu95]; rfl
          have hbad := LOK_bad3 (b := bb) (L := L) (by rw [← HKL.out]; exact HU.out.1 hu95)
          have HPX : Hid (p = 0 ∧ d = strOf []) := ⟨by rw [HP1.out, hbad], by rw [HD1.out, hbad]⟩
          clear hu95 hbad
          go_wp2
          try rw [Exit.noGoto_ret]
          obtain ⟨wf, hwf⟩ : ∃ wf, wf = (wr.setCell ⟨w.heap.size, 0, none⟩ (.int .i64 0)).setCell ⟨w.heap.size, 1, none⟩ (.string ⟨#[]⟩) := ⟨_, rfl⟩
          have hg : wf.heap[w.heap.size]? = some (.cells #[.int .i64 0, .string ⟨#[]⟩] 123 (0, 0)) := by rw [hwf]; exact heap_set2 _ _ _ _ _ _ _ HROW.out
          have hBf : Below w.heap.size w wf := by rw [hwf]; exact (HBEL.out.setCell (p := ⟨w.heap.size, 0, none⟩) (by simp) _).setCell (p := ⟨w.heap.size, 1, none⟩) (by simp) _
          rw [← hwf]
          refine bodyPost_ret_by (results_cell_row rfl _ wf w.heap.size _ _ _ _ rfl hg Tryz.underlying123 rfl (by kernel_rfl)) rfl ?_
          exact ⟨ret_of (by rw [HPX.out.1, HPX.out.2]; rfl), hBf⟩
        · have t2 : (u == 95) = false := beq_eq_false_iff_ne.2 hu95
          have hnl : ¬ Lu L L.length := fun h => hu95 (HU.out.2 (by rw [HKL.out]; exact h))
          by_cases hf : Lf L k = []
          · have hbad := LOK_bad4 (b := bb) (L := L) (by rw [← HKL.out]; exact hf)
            have HPX : Hid (p = 0 ∧ d = strOf []) := ⟨by rw [HP1.out, hbad], by rw [HD1.out, hbad]⟩
            have hem : l1.toList.isEmpty = true := by rw [toList_empty, HL1.out, strOf_size, hf]; rfl
            have HNL := Lib.hid hnl
            clear hu95 hbad hf hnl
            go_wp2
            try rw [Exit.noGoto_ret]
            obtain ⟨wf, hwf⟩ : ∃ wf, wf = (wr.setCell ⟨w.heap.size, 0, none⟩ (.int .i64 0)).setCell ⟨w.heap.size, 1, none⟩ (.string ⟨#[]⟩) := ⟨_, rfl⟩
            have hg : wf.heap[w.heap.size]? = some (.cells #[.int .i64 0, .string ⟨#[]⟩] 123 (0, 0)) := by rw [hwf]; exact heap_set2 _ _ _ _ _ _ _ HROW.out
            have hBf : Below w.heap.size w wf := by rw [hwf]; exact (HBEL.out.setCell (p := ⟨w.heap.size, 0, none⟩) (by simp) _).setCell (p := ⟨w.heap.size, 1, none⟩) (by simp) _
            rw [← hwf]
            refine bodyPost_ret_by (results_cell_row rfl _ wf w.heap.size _ _ _ _ rfl hg Tryz.underlying123 rfl (by kernel_rfl)) rfl ?_
            exact ⟨ret_of (by rw [HPX.out.1, HPX.out.2]; rfl), hBf⟩
          · have hgood := LOK_good (b := bb) (by rw [← HKL.out]; exact HPRE.out) hnl (by rw [← HKL.out]; exact hf)
            have HPX : Hid (p = (bb : Int) ∧ d = l1) := ⟨by rw [HP1.out, hgood], by rw [HD1.out, hgood, HL1.out, HKL.out]⟩
            have hem : l1.toList.isEmpty = false := by
              rw [toList_empty, HL1.out, strOf_size]
              exact decide_eq_false (fun h => hf (List.eq_nil_of_length_eq_zero h))
            have HNL := Lib.hid hnl
            clear hu95 hgood hf hnl
            go_wp2
            try rw [Exit.noGoto_ret]
            obtain ⟨wf, hwf⟩ : ∃ wf, wf = (wr.setCell ⟨w.heap.size, 0, none⟩ (.int .i64 (bb : Int))).setCell ⟨w.heap.size, 1, none⟩ (.string l1) := ⟨_, rfl⟩
            have hg : wf.heap[w.heap.size]? = some (.cells #[.int .i64 (bb : Int), .string l1] 123 (0, 0)) := by rw [hwf]; exact heap_set2 _ _ _ _ _ _ _ HROW.out
            have hBf : Below w.heap.size w wf := by rw [hwf]; exact (HBEL.out.setCell (p := ⟨w.heap.size, 0, none⟩) (by simp) _).setCell (p := ⟨w.heap.size, 1, none⟩) (by simp) _
            rw [← hwf]
            refine bodyPost_ret_by (results_cell_row rfl _ wf w.heap.size _ _ _ _ rfl hg Tryz.underlying123 rfl (by kernel_rfl)) rfl ?_
            exact ⟨ret_of (by rw [HPX.out.1, HPX.out.2]), hBf⟩
  · go_upto_region 10 with (fail)
    obtain ⟨W, hW⟩ : ∃ W, W = (w.alloc (.cells #[.int .i64 0, .string ⟨#[]⟩] 123)).alloc (.cells #[.int .i64 10, .string ⟨#[]⟩] 123) := ⟨_, rfl⟩
    have hWr : W.heap[w.heap.size]? = some (.cells #[.int .i64 0, .string ⟨#[]⟩] 123) := by rw [hW]; exact ((below_new _ _).block _ (by simp)).trans (World.alloc_heap_new _ _)
    have hWo : W.heap[w.heap.size + 1]? = some (.cells #[.int .i64 ((10 : Nat) : Int), .string ⟨#[]⟩] 123) := by
      rw [hW]
      have := World.alloc_heap_new (w.alloc (.cells #[.int .i64 0, .string ⟨#[]⟩] 123)) (.cells #[.int .i64 10, .string ⟨#[]⟩] 123)
      rwa [World.size_alloc] at this
    have hWB : Below w.heap.size w W := by rw [hW]; exact (below_new _ _).trans ((below_new _ _).mono (by simp))
    have hWz : w.heap.size + 2 ≤ W.heap.size := by rw [hW]; simp
    rw [← hbb] at hWo HPD
    rw [← hW]
    have hb2 : 2 ≤ bb ∧ bb ≤ 36 := by omega
    clear hW em e1 h1 h2 hbb hq
    go_wp2
    go_step3
    go_wp2
    have hL := bytes_length t
    obtain ⟨L, hLL⟩ : ∃ L, L = bytes t := ⟨_, rfl⟩
    rw [← hLL] at hL
    have HLL := Lib.hid hLL
    have HL := Lib.hid hL
    have HPD2 : Hid (p = (litS bb L).1 ∧ d = strOf (litS bb L).2) := by rw [hLL]; exact HPD.out
    have g1 : (W.iter t 0).heap[w.heap.size]? = some (.cells #[.int .i64 0, .string ⟨#[]⟩] 123) := (below_new W _).block _ (by omega) |>.trans hWr
    have g2 : (W.iter t 0).heap[w.heap.size + 1]? = some (.cells #[.int .i64 (bb : Int), .string ⟨#[]⟩] 123) := (below_new W _).block _ (by omega) |>.trans hWo
    have g3 : (W.iter t 0).heap[W.heap.size]? = some (.stringIter t 0) := World.iter_heap _ _ _
    have g4 : Below w.heap.size w (W.iter t 0) := hWB.trans ((below_new W _).mono (by omega))
    clear hLL hL hWr hWo hWB
    obtain ⟨K, hK⟩ : ∃ K, K = W.heap.size := ⟨_, rfl⟩
    obtain ⟨W9, hW9⟩ : ∃ W9, W9 = W.iter t 0 := ⟨_, rfl⟩
    rw [← hW9] at g1 g2 g3 g4 ⊢
    rw [← hK] at g3 hWz ⊢
    clear hW9 hK
    go_loopg [7] t.size (fun m u7 wr => ∃ (k : Nat) (u : Int), m + k = t.size ∧ u7 = .int .i32 u ∧ (u = 95 ↔ Lu L k) ∧ LPre bb L k ∧ Below w.heap.size w wr ∧ wr.heap[w.heap.size]? = some (.cells #[.int .i64 0, .string ⟨#[]⟩] 123) ∧ wr.heap[w.heap.size + 1]? = some (.cells #[.int .i64 (bb : Int), .string (strOf (Lf L k))] 123) ∧ wr.heap[K]? = some (.stringIter t k))
    case atStart => exact ⟨0, 48, rfl, rfl, ⟨fun h => absurd h (by omega), fun h => absurd h.1 (by omega)⟩, fun i hi => absurd hi (by omega), g4, g1, by rw [Lf_zero]; exact g2, g3⟩
    case round =>
      obtain ⟨k, u, hk, rfl, hu, hpre, hB, hr, ho, hi⟩ := hrel
      clear g1 g2 g3 g4
      have HU := Lib.hid hu
      have HPRE := Lib.hid hpre
      have HB := Lib.hid hB
      have HR := Lib.hid hr
      have HO := Lib.hid ho
      have HI := Lib.hid hi
      have HNW := Lib.hid (HN.out.below hB HN.out.pos)
      clear hu hpre hB
      by_cases hlt : k < t.size
      · obtain ⟨r, n, hnx0, hr0, hrd, hr1, hr2⟩ := rune_at t k hlt
        rw [← HLL.out] at hrd hr1 hr2
        have hkL : k < L.length := by rw [HL.out]; exact hlt
        obtain ⟨W1, hW1⟩ : ∃ W1, W1 = wr.iterAt K t (k + n) := ⟨_, rfl⟩
        have hnx : ∀ ty, (Instr.next (.pointer (some ⟨K, 0, none⟩)) true ty).run Tryz.prog wr = .ok (.tuple #[.bool true, .int .i64 (k : Int), .int .i32 r]) W1 := fun ty => by
          rw [hnx0 _ _ _ _ hi, hW1]
        have i1 : W1.heap[w.heap.size]? = some (.cells #[.int .i64 0, .string ⟨#[]⟩] 123) := by rw [hW1]; exact (Lib.iterAt_other _ _ _ _ _ (by omega)).trans hr
        have i2 : W1.heap[w.heap.size + 1]? = some (.cells #[.int .i64 (bb : Int), .string (strOf (Lf L k))] 123) := by rw [hW1]; exact (Lib.iterAt_other _ _ _ _ _ (by omega)).trans ho
        have i3 : W1.heap[K]? = some (.stringIter t (k + n)) := by rw [hW1]; exact Lib.iterAt_heap _ _ _ _ _ hi
        have i4 : Below w.heap.size w W1 := by rw [hW1]; exact Lib.below_iterAt HB.out (by omega) _ _
        have i5 : NoneAt W1 := HN.out.below i4 HN.out.pos
        obtain ⟨c, hc⟩ : ∃ c, c = L[k]?.getD 0 := ⟨_, rfl⟩
        rw [← hc] at hrd hr1 hr2
        have hrc : r = 95 ↔ c = 95 := by
          constructor
          · intro h; by_cases h2 : c < 128
            · rw [← (hr1 h2).1]; exact h
            · have := hr2 (by omega); omega
          · intro h; rw [(hr1 (by omega)).1]; exact h
        obtain ⟨x0, x1, x2, x3⟩ := cells2 i1
        obtain ⟨x4, x5, x6, x7⟩ := cells2 i2
        have hII := Lib.hid (And.intro i1 (And.intro i2 (And.intro i3 (And.intro i4 i5))))
        have HC := Lib.hid hc
        have HR1 := Lib.hid hr1
        have HRD := Lib.hid hrd
        clear hW1 i1 i2 i3 i4 hi hr ho hnx0 hr1 hr2 hrd hc
        obtain ⟨n0, n1⟩ := i5
        by_cases hc95 : c = 95
        · have hr95 := hrc.2 hc95
          have t1 : (r == 95) = true := by rw [hr95]; rfl
          have t1' : (r != 95) = false := by rw [hr95]; rfl
          have hn1 := (HR1.out (by omega)).2
          have HC95 := Lib.hid (And.intro hc95 (And.intro hr95 hn1))
          clear hrc hc95 hr95 hn1
          by_cases hu95 : u = 95
          · have t2 : (u != 95) = false := by rw [hu95]; rfl
            have hbad := LOK_bad1 (b := bb) hkL (HC.out.symm.trans HC95.out.1) (HU.out.1 hu95)
            obtain ⟨hp1, hd1⟩ := HPD2.out
            rw [hbad] at hp1 hd1
            have HPX := Lib.hid (And.intro hp1 hd1)
            have HROW := Lib.hid hII.out.1
            have HBEL := Lib.hid hII.out.2.2.2.1
            clear hu95 hbad hp1 hd1
            go_wp2
            try rw [Exit.noGoto_ret]
            obtain ⟨wf, hwf⟩ : ∃ wf, wf = (W1.setCell ⟨w.heap.size, 0, none⟩ (.int .i64 0)).setCell ⟨w.heap.size, 1, none⟩ (.string ⟨#[]⟩) := ⟨_, rfl⟩
            have hg : wf.heap[w.heap.size]? = some (.cells #[.int .i64 0, .string ⟨#[]⟩] 123 (0, 0)) := by rw [hwf]; exact heap_set2 _ _ _ _ _ _ _ HROW.out
            have hBf : Below w.heap.size w wf := by rw [hwf]; exact (HBEL.out.setCell (p := ⟨w.heap.size, 0, none⟩) (by simp) _).setCell (p := ⟨w.heap.size, 1, none⟩) (by simp) _
            rw [← hwf]
            refine bodyPost_ret_by (results_cell_row rfl _ wf w.heap.size _ _ _ _ rfl hg Tryz.underlying123 rfl (by kernel_rfl)) rfl ?_
            exact ⟨ret_of (by rw [HPX.out.1, HPX.out.2]; rfl), hBf⟩
          · have t2 : (u != 95) = true := by simp [hu95]
            have hnl : ¬ Lu L k := fun h => hu95 (HU.out.2 h)
            have HNL := Lib.hid hnl
            clear hu95 hnl
            go_wp2
            go_roundg (gk - 1)
            case rel =>
              have hc9 := HC.out.symm.trans HC95.out.1
              refine ⟨k + 1, r, by omega, rfl, ⟨fun _ => (Lu_succ L k).2 hc9, fun _ => HC95.out.2.1⟩, HPRE.out.skip hc9 HNL.out, hII.out.2.2.2.1, hII.out.1, ?_, ?_⟩
              · rw [Lf_skip hkL hc9]; exact hII.out.2.1
              · have := hII.out.2.2.1
                rw [HC95.out.2.2] at this
                exact this
            case measure => omega
        · have hr95 : r ≠ 95 := fun h => hc95 (hrc.1 h)
          have t1 : (r == 95) = false := beq_eq_false_iff_ne.2 hr95
          have t1' : (r != 95) = true := by simp [hr95]
          have HC95 := Lib.hid (And.intro hc95 hr95)
          clear hrc hc95 hr95
          by_cases hg : dig10 r < (bb : Int)
          · have hv : valD r (bb : Int) = dig10 r := by unfold valD; rw [if_pos hg]
            have hp0 := dig10_pos _ hr0
            have hgc : dig10 c < (bb : Int) := by rw [← HRD.out]; exact hg
            have hc128 := (dig10_lt c (b := (bb : Int)) (by omega) hgc).1
            obtain ⟨hrc, hn1⟩ := HR1.out hc128
            obtain ⟨v, hvv⟩ : ∃ v, v = dig10 r := ⟨_, rfl⟩
            rw [← hvv] at hp0 hv
            have HV := Lib.hid hv
            have HG := Lib.hid (And.intro hgc (And.intro hrc (And.intro hn1 hc128)))
            clear hv hvv hg hgc hrc hn1 hc128
            obtain ⟨l1, hl1⟩ : ∃ l1, l1 = strOf (Lf L k) := ⟨_, rfl⟩
            rw [← hl1] at x5
            have HL1 := Lib.hid hl1
            have hlen : l1.size ≤ 65536 := by
              rw [hl1, strOf_size]
              have := Lf_len L k
              rw [HL.out] at this
              omega
            have hec : Utf8.encode r = strOf [c] := by rw [HG.out.2.1]; exact enc_ascii c (by rw [← HG.out.2.1]; exact hr0) HG.out.2.2.2
            obtain ⟨er, her⟩ : ∃ er, er = strOf [c] := ⟨_, rfl⟩
            rw [← her] at hec
            have hes : er.size = 1 := by rw [her, strOf_size]; rfl
            obtain ⟨l2, hl2⟩ : ∃ l2, l2 = strOf (Lf L (k + 1)) := ⟨_, rfl⟩
            have hcat : l1 ++ er = l2 := by rw [hl1, hl2, her, strOf_app, Lf_push hkL (by rw [← HC.out]; exact HC95.out.1), ← HC.out]
            have HL2 := Lib.hid hl2
            have hsum : ¬ 9223372036854775807 < l1.size + 1 := by omega
            clear hl1 her hl2
            go_wp2_with (go_at_call 48; refine (valueR_calls r (bb : Int) _ hr0 (by omega) (by omega)).mono ?_; rintro e W2 ⟨rfl, q1⟩; rw [HV.out]; have G1 := Lib.hid q1; obtain ⟨y0, y1, y2, y3⟩ := cells2 ((q1.block _ (show w.heap.size + 1 < W1.heap.size from (Array.getElem?_eq_some_iff.1 hII.out.2.1).1)).trans hII.out.2.1); rw [← HL1.out] at y1; clear q1)
            go_roundg (gk - 1)
            case rel =>
              have hc9 : L[k]?.getD 0 ≠ 95 := by rw [← HC.out]; exact HC95.out.1
              have hm : w.heap.size + 1 < W1.heap.size := (Array.getElem?_eq_some_iff.1 hII.out.2.1).1
              refine ⟨k + 1, r, by omega, rfl, ⟨fun h => absurd h HC95.out.2, fun h => absurd ((Lu_succ L k).1 h) hc9⟩, HPRE.out.push hc9 (by rw [← HC.out]; exact HG.out.1), ?_, ?_, ?_, ?_⟩
              · exact (hII.out.2.2.2.1.trans (G1.out.mono hII.out.2.2.2.1.size)).setCell (p := ⟨w.heap.size + 1, 1, none⟩) (by simp) _
              · exact (Below.heap_setCell _ _ _ _ (by simp)).trans ((G1.out.block _ (by omega)).trans hII.out.1)
              · rw [heap_set1 _ _ _ _ _ _ ((G1.out.block _ hm).trans hII.out.2.1), HL2.out]
              · have hKl := (Array.getElem?_eq_some_iff.1 hII.out.2.2.1).1
                refine (Below.heap_setCell _ _ _ _ (show K ≠ w.heap.size + 1 by omega)).trans ((G1.out.block _ hKl).trans ?_)
                have := hII.out.2.2.1
                rw [HG.out.2.2.1] at this
                exact this
            case measure => omega
          · have hv : valD r (bb : Int) = -1 := by unfold valD; rw [if_neg hg]
            have hbad := LOK_bad2 (b := bb) hkL (by rw [← HC.out]; exact HC95.out.1) (by rw [← HC.out, ← HRD.out]; exact hg)
            obtain ⟨hp1, hd1⟩ := HPD2.out
            rw [hbad] at hp1 hd1
            have HPX := Lib.hid (And.intro hp1 hd1)
            have HV := Lib.hid hv
            clear hv hg hbad hp1 hd1
            go_wp2_with (go_at_call 48; refine (valueR_calls r (bb : Int) _ hr0 (by omega) (by omega)).mono ?_; rintro e W2 ⟨rfl, q1⟩; rw [HV.out]; have G1 := Lib.hid q1; have HROW := Lib.hid ((q1.block _ (Array.getElem?_eq_some_iff.1 hII.out.1).1).trans hII.out.1); have HBEL := Lib.hid (hII.out.2.2.2.1.trans (q1.mono hII.out.2.2.2.1.size)); obtain ⟨m0, m1⟩ := HN.out.below HBEL.out HN.out.pos; obtain ⟨y0, y1, y2, y3⟩ := cells2 HROW.out; clear q1)
            try rw [Exit.noGoto_ret]
            obtain ⟨wf, hwf⟩ : ∃ wf, wf = (W2.setCell ⟨w.heap.size, 0, none⟩ (.int .i64 0)).setCell ⟨w.heap.size, 1, none⟩ (.string ⟨#[]⟩) := ⟨_, rfl⟩
            have hg : wf.heap[w.heap.size]? = some (.cells #[.int .i64 0, .string ⟨#[]⟩] 123 (0, 0)) := by rw [hwf]; exact heap_set2 _ _ _ _ _ _ _ HROW.out
            have hBf : Below w.heap.size w wf := by rw [hwf]; exact (HBEL.out.setCell (p := ⟨w.heap.size, 0, none⟩) (by simp) _).setCell (p := ⟨w.heap.size, 1, none⟩) (by simp) _
            rw [← hwf]
            refine bodyPost_ret_by (results_cell_row rfl _ wf w.heap.size _ _ _ _ rfl hg Tryz.underlying123 rfl (by kernel_rfl)) rfl ?_
            exact ⟨ret_of (by rw [HPX.out.1, HPX.out.2]; rfl), hBf⟩
      · have hnx : ∀ ty, (Instr.next (.pointer (some ⟨K, 0, none⟩)) true ty).run Tryz.prog wr = .ok (.tuple #[.bool false]) wr := fun ty => Lib.run_next_end_at _ _ _ _ _ hi hlt
        have hkL : k = L.length := by rw [HL.out]; omega
        obtain ⟨n0, n1⟩ := HNW.out
        obtain ⟨x0, x1, x2, x3⟩ := cells2 hr
        obtain ⟨x4, x5, x6, x7⟩ := cells2 ho
        obtain ⟨l1, hl1⟩ : ∃ l1, l1 = strOf (Lf L k) := ⟨_, rfl⟩
        rw [← hl1] at x5
        have HROW := Lib.hid hr
        have HBEL := Lib.hid HB.out
        have HKL := Lib.hid hkL
        have HL1 := Lib.hid hl1
        obtain ⟨hp1, hd1⟩ := HPD2.out
        have HP1 := Lib.hid hp1
        have HD1 := Lib.hid hd1
        clear hi hr ho hkL hl1 hp1 hd1
        by_cases hu95 : u = 95
        · have t2 : (u == 95) = true := by rw [hu95]; rfl
          have hbad := LOK_bad3 (b := bb) (L := L) (by rw [← HKL.out]; exact HU.out.1 hu95)
          have HPX : Hid (p = 0 ∧ d = strOf []) := ⟨by rw [HP1.out, hbad], by rw [HD1.out, hbad]⟩
          clear hu95 hbad
          go_wp2
          try rw [Exit.noGoto_ret]
          obtain ⟨wf, hwf⟩ : ∃ wf, wf = (wr.setCell ⟨w.heap.size, 0, none⟩ (.int .i64 0)).setCell ⟨w.heap.size, 1, none⟩ (.string ⟨#[]⟩) := ⟨_, rfl⟩
          have hg : wf.heap[w.heap.size]? = some (.cells #[.int .i64 0, .string ⟨#[]⟩] 123 (0, 0)) := by rw [hwf]; exact heap_set2 _ _ _ _ _ _ _ HROW.out
          have hBf : Below w.heap.size w wf := by rw [hwf]; exact (HBEL.out.setCell (p := ⟨w.heap.size, 0, none⟩) (by simp) _).setCell (p := ⟨w.heap.size, 1, none⟩) (by simp) _
          rw [← hwf]
          refine bodyPost_ret_by (results_cell_row rfl _ wf w.heap.size _ _ _ _ rfl hg Tryz.underlying123 rfl (by kernel_rfl)) rfl ?_
          exact ⟨ret_of (by rw [HPX.out.1, HPX.out.2]; rfl), hBf⟩
        · have t2 : (u == 95) = false := beq_eq_false_iff_ne.2 hu95
          have hnl : ¬ Lu L L.length := fun h => hu95 (HU.out.2 (by rw [HKL.out]; exact h))
          by_cases hf : Lf L k = []
          · have hbad := LOK_bad4 (b := bb) (L := L) (by rw [← HKL.out]; exact hf)
            have HPX : Hid (p = 0 ∧ d = strOf []) := ⟨by rw [HP1.out, hbad], by rw [HD1.out, hbad]⟩
            have hem : l1.toList.isEmpty = true := by rw [toList_empty, HL1.out, strOf_size, hf]; rfl
            have HNL := Lib.hid hnl
            clear hu95 hbad hf hnl
            go_wp2
            try rw [Exit.noGoto_ret]
            obtain ⟨wf, hwf⟩ : ∃ wf, wf = (wr.setCell ⟨w.heap.size, 0, none⟩ (.int .i64 0)).setCell ⟨w.heap.size, 1, none⟩ (.string ⟨#[]⟩) := ⟨_, rfl⟩
            have hg : wf.heap[w.heap.size]? = some (.cells #[.int .i64 0, .string ⟨#[]⟩] 123 (0, 0)) := by rw [hwf]; exact heap_set2 _ _ _ _ _ _ _ HROW.out
            have hBf : Below w.heap.size w wf := by rw [hwf]; exact (HBEL.out.setCell (p := ⟨w.heap.size, 0, none⟩) (by simp) _).setCell (p := ⟨w.heap.size, 1, none⟩) (by simp) _
            rw [← hwf]
            refine bodyPost_ret_by (results_cell_row rfl _ wf w.heap.size _ _ _ _ rfl hg Tryz.underlying123 rfl (by kernel_rfl)) rfl ?_
            exact ⟨ret_of (by rw [HPX.out.1, HPX.out.2]; rfl), hBf⟩
          · have hgood := LOK_good (b := bb) (by rw [← HKL.out]; exact HPRE.out) hnl (by rw [← HKL.out]; exact hf)
            have HPX : Hid (p = (bb : Int) ∧ d = l1) := ⟨by rw [HP1.out, hgood], by rw [HD1.out, hgood, HL1.out, HKL.out]⟩
            have hem : l1.toList.isEmpty = false := by
              rw [toList_empty, HL1.out, strOf_size]
              exact decide_eq_false (fun h => hf (List.eq_nil_of_length_eq_zero h))
            have HNL := Lib.hid hnl
            clear hu95 hgood hf hnl
            go_wp2
            try rw [Exit.noGoto_ret]
            obtain ⟨wf, hwf⟩ : ∃ wf, wf = (wr.setCell ⟨w.heap.size, 0, none⟩ (.int .i64 (bb : Int))).setCell ⟨w.heap.size, 1, none⟩ (.string l1) := ⟨_, rfl⟩
            have hg : wf.heap[w.heap.size]? = some (.cells #[.int .i64 (bb : Int), .string l1] 123 (0, 0)) := by rw [hwf]; exact heap_set2 _ _ _ _ _ _ _ HROW.out
            have hBf : Below w.heap.size w wf := by rw [hwf]; exact (HBEL.out.setCell (p := ⟨w.heap.size, 0, none⟩) (by simp) _).setCell (p := ⟨w.heap.size, 1, none⟩) (by simp) _
            rw [← hwf]
            refine bodyPost_ret_by (results_cell_row rfl _ wf w.heap.size _ _ _ _ rfl hg Tryz.underlying123 rfl (by kernel_rfl)) rfl ?_
            exact ⟨ret_of (by rw [HPX.out.1, HPX.out.2]), hBf⟩

set_option maxHeartbeats 4000000 in
set_option maxRecDepth 100000 in
theorem readR_pre (s : ByteArray) (w : World) (hn : s.size ≤ 65536) (hN : NoneAt w) (h1 : 1 < s.size) (h0 : (bytes s)[0]?.getD 0 = 48) (q : Nat) (hq : (bytes s)[1]?.getD 0 = (q : Int)) (hb : bas q ≠ 0) (p : Int) (d : ByteArray) (hp : p = (litS (bas q) ((bytes s).drop 2)).1) (hd : d = strOf (litS (bas q) ((bytes s).drop 2)).2) :
    Calls Tryz.prog 72 #[.string s] w (RetB w (.agg #[.int .i64 p, .string d])) := by
  rw [bytes_at s 0 (by omega)] at h0
  rw [bytes_at s 1 h1] at hq
  obtain ⟨t, ht⟩ : ∃ t, t = s.extract 2 s.size := ⟨_, rfl⟩
  have hbt : (bytes s).drop 2 = bytes t := by rw [ht, bytes_dropx]
  have htn : t.size ≤ 65536 := by rw [ht]; simp; omega
  have hq256 : q < 256 := by have := (s[1]'h1).toNat_lt; omega
  obtain ⟨bb, hbb⟩ : ∃ bb : Nat, bb = bas q := ⟨_, rfl⟩
  have hb2 : 2 ≤ bb ∧ bb ≤ 36 := by have := bas_cases q; omega
  rw [hbt, ← hbb] at hp hd
  have HPD := Lib.hid (And.intro hp hd)
  have HN := Lib.hid hN
  have hh := bas_has q hq256
  rw [decide_eq_true hb] at hh
  have hat0 := fun c h => bas_at q hb c h
  rw [← hbb] at hat0
  have HAT := Lib.hid hat0
  unfold basM at hh
  have HH := Lib.hid hh
  have HBB := Lib.hid hbb
  have hext := ht.symm
  clear hp hd hN hbt ht hh hat0 hbb
  have h2 : 0 < s.size := by omega
  have hs0 : (s[0]'h2).toNat = 48 := by omega
  have hs1 : (s[1]'h1).toNat = q := by omega
  have hq2 : (Lit.int .u8 (q : Int)).wf = true := by
    have : ∀ q : Fin 256, (Lit.int .u8 (q.val : Int)).wf = true := by decide +kernel
    exact this ⟨q, hq256⟩
  clear h0 hq hb
  have hmm := @run_makeMap Tryz.prog
  go_enter Tryz.func72, Tryz.ntmps72
  go_wp2
  go_step3
  have hown := World.ownsMap_made ((w.alloc (.cells #[.int .i64 0, .string ⟨#[]⟩] 123)).alloc (.cells #[.int .i64 10, .string ⟨#[]⟩] 123)) Tryz.prog 5 (plainElem (H := Unit) Tryz.prog 3)
  have hB : Below (w.heap.size + 2) ((w.alloc (.cells #[.int .i64 0, .string ⟨#[]⟩] 123)).alloc (.cells #[.int .i64 10, .string ⟨#[]⟩] 123)) ((((w.alloc (.cells #[.int .i64 0, .string ⟨#[]⟩] 123)).alloc (.cells #[.int .i64 10, .string ⟨#[]⟩] 123))).alloc (.map #[] 0)) := (below_new _ _).mono (by simp)
  simp only [World.size_alloc] at hown
  go_wp2_with (first
    | (at_lookup; refine wpList_lookup_own_ok_int _ rfl _ _ 152 rfl 5 3 .i64 lawByte Tryz.underlying152 Tryz.underlying3 (zeroInt _) (w.heap.size + 1 + 1) _ _ rfl hown _ _ rfl (keyOf_int_mk Tryz.underlying5 hq2) ?_; intro c hat hwc; rw [HAT.out c hat, HH.out]; clear hat hwc hown)
    | (refine wpList_insert_own _ rfl _ _ _ 152 rfl 5 3 lawByte Tryz.underlying152 _ (w.heap.size + 1 + 1) _ _ rfl hown (by unfold maxLen; omega) _ _ _ rfl rfl (keyOf_int_mk Tryz.underlying5 (by decide)) _ [] (plainElem_int Tryz.underlying3 (by decide)) ?_; intro W' hown' hg'; have hB' := hB.grown hg' (Nat.le_trans (by simp) hB.size) (fun j hj => by injection hj; omega); clear hown hB hg'; have hown := hown'; have hB := hB'; clear hown' hB'))
  have HB := Lib.hid hB
  have r1 : W'.heap[w.heap.size]? = some (.cells #[.int .i64 0, .string ⟨#[]⟩] 123) := (HB.out.block _ (by omega)).trans (((below_new _ _).block _ (by simp)).trans (World.alloc_heap_new _ _))
  have r2 : W'.heap[w.heap.size + 1]? = some (.cells #[.int .i64 10, .string ⟨#[]⟩] 123) := by
    refine (HB.out.block _ (by omega)).trans ?_
    have := World.alloc_heap_new (w.alloc (.cells #[.int .i64 0, .string ⟨#[]⟩] 123)) (.cells #[.int .i64 10, .string ⟨#[]⟩] 123)
    rwa [World.size_alloc] at this
  have r3 : Below w.heap.size w W' := ((below_new _ _).trans ((below_new _ _).mono (by simp))).trans (HB.out.mono (by omega))
  have r4 : w.heap.size + 2 ≤ W'.heap.size := by have := (Array.getElem?_eq_some_iff.1 r2).1; omega
  obtain ⟨x0, x1, x2, x3⟩ := cells2 r2
  have HR := Lib.hid (And.intro r1 (And.intro r2 r3))
  clear r1 r2 r3 hB hmm
  go_region
  go_upto_region 10 with (fail)
  obtain ⟨W, hW⟩ : ∃ W, W = (W'.setCell ⟨w.heap.size + 1, 0, none⟩ (.int .i64 (bb : Int))).drew := ⟨_, rfl⟩
  have hWr : W.heap[w.heap.size]? = some (.cells #[.int .i64 0, .string ⟨#[]⟩] 123) := by rw [hW]; exact (Below.heap_setCell _ _ _ _ (by simp)).trans HR.out.1
  have hWo : W.heap[w.heap.size + 1]? = some (.cells #[.int .i64 (bb : Int), .string ⟨#[]⟩] 123) := by rw [hW]; exact heap_set0 _ _ _ _ _ _ HR.out.2.1
  have hWB : Below w.heap.size w W := by rw [hW]; exact (HR.out.2.2.setCell (p := ⟨w.heap.size + 1, 0, none⟩) (by simp) _).drew
  have hWz : w.heap.size + 2 ≤ W.heap.size := by rw [hW]; simp; omega
  rw [← hW]
  clear hW hext hs0 hs1 x0 x1 x2 x3
  go_wp2
  go_step3
  go_wp2
  have hL := bytes_length t
  obtain ⟨L, hLL⟩ : ∃ L, L = bytes t := ⟨_, rfl⟩
  rw [← hLL] at hL
  have HLL := Lib.hid hLL
  have HL := Lib.hid hL
  have HPD2 : Hid (p = (litS bb L).1 ∧ d = strOf (litS bb L).2) := by rw [hLL]; exact HPD.out
  have g1 : (W.iter t 0).heap[w.heap.size]? = some (.cells #[.int .i64 0, .string ⟨#[]⟩] 123) := (below_new W _).block _ (by omega) |>.trans hWr
  have g2 : (W.iter t 0).heap[w.heap.size + 1]? = some (.cells #[.int .i64 (bb : Int), .string ⟨#[]⟩] 123) := (below_new W _).block _ (by omega) |>.trans hWo
  have g3 : (W.iter t 0).heap[W.heap.size]? = some (.stringIter t 0) := World.iter_heap _ _ _
  have g4 : Below w.heap.size w (W.iter t 0) := hWB.trans ((below_new W _).mono (by omega))
  clear hLL hL hWr hWo hWB
  obtain ⟨K, hK⟩ : ∃ K, K = W.heap.size := ⟨_, rfl⟩
  obtain ⟨W9, hW9⟩ : ∃ W9, W9 = W.iter t 0 := ⟨_, rfl⟩
  rw [← hW9] at g1 g2 g3 g4 ⊢
  rw [← hK] at g3 hWz ⊢
  clear hW9 hK
  go_loopg [7] t.size (fun m u7 wr => ∃ (k : Nat) (u : Int), m + k = t.size ∧ u7 = .int .i32 u ∧ (u = 95 ↔ Lu L k) ∧ LPre bb L k ∧ Below w.heap.size w wr ∧ wr.heap[w.heap.size]? = some (.cells #[.int .i64 0, .string ⟨#[]⟩] 123) ∧ wr.heap[w.heap.size + 1]? = some (.cells #[.int .i64 (bb : Int), .string (strOf (Lf L k))] 123) ∧ wr.heap[K]? = some (.stringIter t k))
  case atStart => exact ⟨0, 48, rfl, rfl, ⟨fun h => absurd h (by omega), fun h => absurd h.1 (by omega)⟩, fun i hi => absurd hi (by omega), g4, g1, by rw [Lf_zero]; exact g2, g3⟩
  case round =>
    obtain ⟨k, u, hk, rfl, hu, hpre, hB, hr, ho, hi⟩ := hrel
    clear g1 g2 g3 g4
    have HU := Lib.hid hu
    have HPRE := Lib.hid hpre
    have HB := Lib.hid hB
    have HR := Lib.hid hr
    have HO := Lib.hid ho
    have HI := Lib.hid hi
    have HNW := Lib.hid (HN.out.below hB HN.out.pos)
    clear hu hpre hB
    by_cases hlt : k < t.size
    · obtain ⟨r, n, hnx0, hr0, hrd, hr1, hr2⟩ := rune_at t k hlt
      rw [← HLL.out] at hrd hr1 hr2
      have hkL : k < L.length := by rw [HL.out]; exact hlt
      obtain ⟨W1, hW1⟩ : ∃ W1, W1 = wr.iterAt K t (k + n) := ⟨_, rfl⟩
      have hnx : ∀ ty, (Instr.next (.pointer (some ⟨K, 0, none⟩)) true ty).run Tryz.prog wr = .ok (.tuple #[.bool true, .int .i64 (k : Int), .int .i32 r]) W1 := fun ty => by
        rw [hnx0 _ _ _ _ hi, hW1]
      have i1 : W1.heap[w.heap.size]? = some (.cells #[.int .i64 0, .string ⟨#[]⟩] 123) := by rw [hW1]; exact (Lib.iterAt_other _ _ _ _ _ (by omega)).trans hr
      have i2 : W1.heap[w.heap.size + 1]? = some (.cells #[.int .i64 (bb : Int), .string (strOf (Lf L k))] 123) := by rw [hW1]; exact (Lib.iterAt_other _ _ _ _ _ (by omega)).trans ho
      have i3 : W1.heap[K]? = some (.stringIter t (k + n)) := by rw [hW1]; exact Lib.iterAt_heap _ _ _ _ _ hi
      have i4 : Below w.heap.size w W1 := by rw [hW1]; exact Lib.below_iterAt HB.out (by omega) _ _
      have i5 : NoneAt W1 := HN.out.below i4 HN.out.pos
      obtain ⟨c, hc⟩ : ∃ c, c = L[k]?.getD 0 := ⟨_, rfl⟩
      rw [← hc] at hrd hr1 hr2
      have hrc : r = 95 ↔ c = 95 := by
        constructor
        · intro h; by_cases h2 : c < 128
          · rw [← (hr1 h2).1]; exact h
          · have := hr2 (by omega); omega
        · intro h; rw [(hr1 (by omega)).1]; exact h
      obtain ⟨x0, x1, x2, x3⟩ := cells2 i1
      obtain ⟨x4, x5, x6, x7⟩ := cells2 i2
      have hII := Lib.hid (And.intro i1 (And.intro i2 (And.intro i3 (And.intro i4 i5))))
      have HC := Lib.hid hc
      have HR1 := Lib.hid hr1
      have HRD := Lib.hid hrd
      clear hW1 i1 i2 i3 i4 hi hr ho hnx0 hr1 hr2 hrd hc
      obtain ⟨n0, n1⟩ := i5
      by_cases hc95 : c = 95
      · have hr95 := hrc.2 hc95
        have t1 : (r == 95) = true := by rw [hr95]; rfl
        have t1' : (r != 95) = false := by rw [hr95]; rfl
        have hn1 := (HR1.out (by omega)).2
        have HC95 := Lib.hid (And.intro hc95 (And.intro hr95 hn1))
        clear hrc hc95 hr95 hn1
        by_cases hu95 : u = 95
        · have t2 : (u != 95) = false := by rw [hu95]; rfl
          have hbad := LOK_bad1 (b := bb) hkL (HC.out.symm.trans HC95.out.1) (HU.out.1 hu95)
          obtain ⟨hp1, hd1⟩ := HPD2.out
          rw [hbad] at hp1 hd1
          have HPX := Lib.hid (And.intro hp1 hd1)
          have HROW := Lib.hid hII.out.1
          have HBEL := Lib.hid hII.out.2.2.2.1
          clear hu95 hbad hp1 hd1
          go_wp2
          try rw [Exit.noGoto_ret]
          obtain ⟨wf, hwf⟩ : ∃ wf, wf = (W1.setCell ⟨w.heap.size, 0, none⟩ (.int .i64 0)).setCell ⟨w.heap.size, 1, none⟩ (.string ⟨#[]⟩) := ⟨_, rfl⟩
          have hg : wf.heap[w.heap.size]? = some (.cells #[.int .i64 0, .string ⟨#[]⟩] 123 (0, 0)) := by rw [hwf]; exact heap_set2 _ _ _ _ _ _ _ HROW.out
          have hBf : Below w.heap.size w wf := by rw [hwf]; exact (HBEL.out.setCell (p := ⟨w.heap.size, 0, none⟩) (by simp) _).setCell (p := ⟨w.heap.size, 1, none⟩) (by simp) _
          rw [← hwf]
          refine bodyPost_ret_by (results_cell_row rfl _ wf w.heap.size _ _ _ _ rfl hg Tryz.underlying123 rfl (by kernel_rfl)) rfl ?_
          exact ⟨ret_of (by rw [HPX.out.1, HPX.out.2]; rfl), hBf⟩
        · have t2 : (u != 95) = true := by simp [hu95]
          have hnl : ¬ Lu L k := fun h => hu95 (HU.out.2 h)
          have HNL := Lib.hid hnl
          clear hu95 hnl
          go_wp2
          go_roundg (gk - 1)
          case rel =>
            have hc9 := HC.out.symm.trans HC95.out.1
            refine ⟨k + 1, r, by omega, rfl, ⟨fun _ => (Lu_succ L k).2 hc9, fun _ => HC95.out.2.1⟩, HPRE.out.skip hc9 HNL.out, hII.out.2.2.2.1, hII.out.1, ?_, ?_⟩
            · rw [Lf_skip hkL hc9]; exact hII.out.2.1
            · have := hII.out.2.2.1
              rw [HC95.out.2.2] at this
              exact this
          case measure => omega
      · have hr95 : r ≠ 95 := fun h => hc95 (hrc.1 h)
        have t1 : (r == 95) = false := beq_eq_false_iff_ne.2 hr95
        have t1' : (r != 95) = true := by simp [hr95]
        have HC95 := Lib.hid (And.intro hc95 hr95)
        clear hrc hc95 hr95
        by_cases hg : dig10 r < (bb : Int)
        · have hv : valD r (bb : Int) = dig10 r := by unfold valD; rw [if_pos hg]
          have hp0 := dig10_pos _ hr0
          have hgc : dig10 c < (bb : Int) := by rw [← HRD.out]; exact hg
          have hc128 := (dig10_lt c (b := (bb : Int)) (by omega) hgc).1
          obtain ⟨hrc, hn1⟩ := HR1.out hc128
          obtain ⟨v, hvv⟩ : ∃ v, v = dig10 r := ⟨_, rfl⟩
          rw [← hvv] at hp0 hv
          have HV := Lib.hid hv
          have HG := Lib.hid (And.intro hgc (And.intro hrc (And.intro hn1 hc128)))
          clear hv hvv hg hgc hrc hn1 hc128
          obtain ⟨l1, hl1⟩ : ∃ l1, l1 = strOf (Lf L k) := ⟨_, rfl⟩
          rw [← hl1] at x5
          have HL1 := Lib.hid hl1
          have hlen : l1.size ≤ 65536 := by
            rw [hl1, strOf_size]
            have := Lf_len L k
            rw [HL.out] at this
            omega
          have hec : Utf8.encode r = strOf [c] := by rw [HG.out.2.1]; exact enc_ascii c (by rw [← HG.out.2.1]; exact hr0) HG.out.2.2.2
          obtain ⟨er, her⟩ : ∃ er, er = strOf [c] := ⟨_, rfl⟩
          rw [← her] at hec
          have hes : er.size = 1 := by rw [her, strOf_size]; rfl
          obtain ⟨l2, hl2⟩ : ∃ l2, l2 = strOf (Lf L (k + 1)) := ⟨_, rfl⟩
          have hcat : l1 ++ er = l2 := by rw [hl1, hl2, her, strOf_app, Lf_push hkL (by rw [← HC.out]; exact HC95.out.1), ← HC.out]
          have HL2 := Lib.hid hl2
          have hsum : ¬ 9223372036854775807 < l1.size + 1 := by omega
          clear hl1 her hl2
          go_wp2_with (go_at_call 48; refine (valueR_calls r (bb : Int) _ hr0 (by omega) (by omega)).mono ?_; rintro e W2 ⟨rfl, q1⟩; rw [HV.out]; have G1 := Lib.hid q1; obtain ⟨y0, y1, y2, y3⟩ := cells2 ((q1.block _ (show w.heap.size + 1 < W1.heap.size from (Array.getElem?_eq_some_iff.1 hII.out.2.1).1)).trans hII.out.2.1); rw [← HL1.out] at y1; clear q1)
          go_roundg (gk - 1)
          case rel =>
            have hc9 : L[k]?.getD 0 ≠ 95 := by rw [← HC.out]; exact HC95.out.1
            have hm : w.heap.size + 1 < W1.heap.size := (Array.getElem?_eq_some_iff.1 hII.out.2.1).1
            refine ⟨k + 1, r, by omega, rfl, ⟨fun h => absurd h HC95.out.2, fun h => absurd ((Lu_succ L k).1 h) hc9⟩, HPRE.out.push hc9 (by rw [← HC.out]; exact HG.out.1), ?_, ?_, ?_, ?_⟩
            · exact (hII.out.2.2.2.1.trans (G1.out.mono hII.out.2.2.2.1.size)).setCell (p := ⟨w.heap.size + 1, 1, none⟩) (by simp) _
            · exact (Below.heap_setCell _ _ _ _ (by simp)).trans ((G1.out.block _ (by omega)).trans hII.out.1)
            · rw [heap_set1 _ _ _ _ _ _ ((G1.out.block _ hm).trans hII.out.2.1), HL2.out]
            · have hKl := (Array.getElem?_eq_some_iff.1 hII.out.2.2.1).1
              refine (Below.heap_setCell _ _ _ _ (show K ≠ w.heap.size + 1 by omega)).trans ((G1.out.block _ hKl).trans ?_)
              have := hII.out.2.2.1
              rw [HG.out.2.2.1] at this
              exact this
          case measure => omega
        · have hv : valD r (bb : Int) = -1 := by unfold valD; rw [if_neg hg]
          have hbad := LOK_bad2 (b := bb) hkL (by rw [← HC.out]; exact HC95.out.1) (by rw [← HC.out, ← HRD.out]; exact hg)
          obtain ⟨hp1, hd1⟩ := HPD2.out
          rw [hbad] at hp1 hd1
          have HPX := Lib.hid (And.intro hp1 hd1)
          have HV := Lib.hid hv
          clear hv hg hbad hp1 hd1
          go_wp2_with (go_at_call 48; refine (valueR_calls r (bb : Int) _ hr0 (by omega) (by omega)).mono ?_; rintro e W2 ⟨rfl, q1⟩; rw [HV.out]; have G1 := Lib.hid q1; have HROW := Lib.hid ((q1.block _ (Array.getElem?_eq_some_iff.1 hII.out.1).1).trans hII.out.1); have HBEL := Lib.hid (hII.out.2.2.2.1.trans (q1.mono hII.out.2.2.2.1.size)); obtain ⟨m0, m1⟩ := HN.out.below HBEL.out HN.out.pos; obtain ⟨y0, y1, y2, y3⟩ := cells2 HROW.out; clear q1)
          try rw [Exit.noGoto_ret]
          obtain ⟨wf, hwf⟩ : ∃ wf, wf = (W2.setCell ⟨w.heap.size, 0, none⟩ (.int .i64 0)).setCell ⟨w.heap.size, 1, none⟩ (.string ⟨#[]⟩) := ⟨_, rfl⟩
          have hg : wf.heap[w.heap.size]? = some (.cells #[.int .i64 0, .string ⟨#[]⟩] 123 (0, 0)) := by rw [hwf]; exact heap_set2 _ _ _ _ _ _ _ HROW.out
          have hBf : Below w.heap.size w wf := by rw [hwf]; exact (HBEL.out.setCell (p := ⟨w.heap.size, 0, none⟩) (by simp) _).setCell (p := ⟨w.heap.size, 1, none⟩) (by simp) _
          rw [← hwf]
          refine bodyPost_ret_by (results_cell_row rfl _ wf w.heap.size _ _ _ _ rfl hg Tryz.underlying123 rfl (by kernel_rfl)) rfl ?_
          exact ⟨ret_of (by rw [HPX.out.1, HPX.out.2]; rfl), hBf⟩
    · have hnx : ∀ ty, (Instr.next (.pointer (some ⟨K, 0, none⟩)) true ty).run Tryz.prog wr = .ok (.tuple #[.bool false]) wr := fun ty => Lib.run_next_end_at _ _ _ _ _ hi hlt
      have hkL : k = L.length := by rw [HL.out]; omega
      obtain ⟨n0, n1⟩ := HNW.out
      obtain ⟨x0, x1, x2, x3⟩ := cells2 hr
      obtain ⟨x4, x5, x6, x7⟩ := cells2 ho
      obtain ⟨l1, hl1⟩ : ∃ l1, l1 = strOf (Lf L k) := ⟨_, rfl⟩
      rw [← hl1] at x5
      have HROW := Lib.hid hr
      have HBEL := Lib.hid HB.out
      have HKL := Lib.hid hkL
      have HL1 := Lib.hid hl1
      obtain ⟨hp1, hd1⟩ := HPD2.out
      have HP1 := Lib.hid hp1
      have HD1 := Lib.hid hd1
      clear hi hr ho hkL hl1 hp1 hd1
      by_cases hu95 : u = 95
      · have t2 : (u == 95) = true := by rw [hu95]; rfl
        have hbad := LOK_bad3 (b := bb) (L := L) (by rw [← HKL.out]; exact HU.out.1 hu95)
        have HPX : Hid (p = 0 ∧ d = strOf []) := ⟨by rw [HP1.out, hbad], by rw [HD1.out, hbad]⟩
        clear hu95 hbad
        go_wp2
        try rw [Exit.noGoto_ret]
        obtain ⟨wf, hwf⟩ : ∃ wf, wf = (wr.setCell ⟨w.heap.size, 0, none⟩ (.int .i64 0)).setCell ⟨w.heap.size, 1, none⟩ (.string ⟨#[]⟩) := ⟨_, rfl⟩
        have hg : wf.heap[w.heap.size]? = some (.cells #[.int .i64 0, .string ⟨#[]⟩] 123 (0, 0)) := by rw [hwf]; exact heap_set2 _ _ _ _ _ _ _ HROW.out
        have hBf : Below w.heap.size w wf := by rw [hwf]; exact (HBEL.out.setCell (p := ⟨w.heap.size, 0, none⟩) (by simp) _).setCell (p := ⟨w.heap.size, 1, none⟩) (by simp) _
        rw [← hwf]
        refine bodyPost_ret_by (results_cell_row rfl _ wf w.heap.size _ _ _ _ rfl hg Tryz.underlying123 rfl (by kernel_rfl)) rfl ?_
        exact ⟨ret_of (by rw [HPX.out.1, HPX.out.2]; rfl), hBf⟩
      · have t2 : (u == 95) = false := beq_eq_false_iff_ne.2 hu95
        have hnl : ¬ Lu L L.length := fun h => hu95 (HU.out.2 (by rw [HKL.out]; exact h))
        by_cases hf : Lf L k = []
        · have hbad := LOK_bad4 (b := bb) (L := L) (by rw [← HKL.out]; exact hf)
          have HPX : Hid (p = 0 ∧ d = strOf []) := ⟨by rw [HP1.out, hbad], by rw [HD1.out, hbad]⟩
          have hem : l1.toList.isEmpty = true := by rw [toList_empty, HL1.out, strOf_size, hf]; rfl
          have HNL := Lib.hid hnl
          clear hu95 hbad hf hnl
          go_wp2
          try rw [Exit.noGoto_ret]
          obtain ⟨wf, hwf⟩ : ∃ wf, wf = (wr.setCell ⟨w.heap.size, 0, none⟩ (.int .i64 0)).setCell ⟨w.heap.size, 1, none⟩ (.string ⟨#[]⟩) := ⟨_, rfl⟩
          have hg : wf.heap[w.heap.size]? = some (.cells #[.int .i64 0, .string ⟨#[]⟩] 123 (0, 0)) := by rw [hwf]; exact heap_set2 _ _ _ _ _ _ _ HROW.out
          have hBf : Below w.heap.size w wf := by rw [hwf]; exact (HBEL.out.setCell (p := ⟨w.heap.size, 0, none⟩) (by simp) _).setCell (p := ⟨w.heap.size, 1, none⟩) (by simp) _
          rw [← hwf]
          refine bodyPost_ret_by (results_cell_row rfl _ wf w.heap.size _ _ _ _ rfl hg Tryz.underlying123 rfl (by kernel_rfl)) rfl ?_
          exact ⟨ret_of (by rw [HPX.out.1, HPX.out.2]; rfl), hBf⟩
        · have hgood := LOK_good (b := bb) (by rw [← HKL.out]; exact HPRE.out) hnl (by rw [← HKL.out]; exact hf)
          have HPX : Hid (p = (bb : Int) ∧ d = l1) := ⟨by rw [HP1.out, hgood], by rw [HD1.out, hgood, HL1.out, HKL.out]⟩
          have hem : l1.toList.isEmpty = false := by
            rw [toList_empty, HL1.out, strOf_size]
            exact decide_eq_false (fun h => hf (List.eq_nil_of_length_eq_zero h))
          have HNL := Lib.hid hnl
          clear hu95 hgood hf hnl
          go_wp2
          try rw [Exit.noGoto_ret]
          obtain ⟨wf, hwf⟩ : ∃ wf, wf = (wr.setCell ⟨w.heap.size, 0, none⟩ (.int .i64 (bb : Int))).setCell ⟨w.heap.size, 1, none⟩ (.string l1) := ⟨_, rfl⟩
          have hg : wf.heap[w.heap.size]? = some (.cells #[.int .i64 (bb : Int), .string l1] 123 (0, 0)) := by rw [hwf]; exact heap_set2 _ _ _ _ _ _ _ HROW.out
          have hBf : Below w.heap.size w wf := by rw [hwf]; exact (HBEL.out.setCell (p := ⟨w.heap.size, 0, none⟩) (by simp) _).setCell (p := ⟨w.heap.size, 1, none⟩) (by simp) _
          rw [← hwf]
          refine bodyPost_ret_by (results_cell_row rfl _ wf w.heap.size _ _ _ _ rfl hg Tryz.underlying123 rfl (by kernel_rfl)) rfl ?_
          exact ⟨ret_of (by rw [HPX.out.1, HPX.out.2]), hBf⟩

set_option maxHeartbeats 1000000 in
set_option maxRecDepth 100000 in
theorem readR_nopre (s : ByteArray) (w : World) (hN : NoneAt w) (h1 : 1 < s.size) (h0 : (bytes s)[0]?.getD 0 = 48) (q : Nat) (hq : (bytes s)[1]?.getD 0 = (q : Int)) (hb : bas q = 0) :
    Calls Tryz.prog 72 #[.string s] w (RetB w (.agg #[.int .i64 0, .string ⟨#[]⟩])) := by
  rw [bytes_at s 0 (by omega)] at h0
  rw [bytes_at s 1 h1] at hq
  have hq256 : q < 256 := by have := (s[1]'h1).toNat_lt; omega
  have HN := Lib.hid hN
  have hh := bas_has q hq256
  rw [decide_eq_false (by simp [hb])] at hh
  unfold basM at hh
  have HH := Lib.hid hh
  clear hN hh
  have h2 : 0 < s.size := by omega
  have hs0 : (s[0]'h2).toNat = 48 := by omega
  have hs1 : (s[1]'h1).toNat = q := by omega
  have hq2 : (Lit.int .u8 (q : Int)).wf = true := by
    have : ∀ q : Fin 256, (Lit.int .u8 (q.val : Int)).wf = true := by decide +kernel
    exact this ⟨q, hq256⟩
  clear h0 hq hb
  have hmm := @run_makeMap Tryz.prog
  go_enter Tryz.func72, Tryz.ntmps72
  go_wp2
  go_step3
  have hown := World.ownsMap_made ((w.alloc (.cells #[.int .i64 0, .string ⟨#[]⟩] 123)).alloc (.cells #[.int .i64 10, .string ⟨#[]⟩] 123)) Tryz.prog 5 (plainElem (H := Unit) Tryz.prog 3)
  have hB : Below (w.heap.size + 2) ((w.alloc (.cells #[.int .i64 0, .string ⟨#[]⟩] 123)).alloc (.cells #[.int .i64 10, .string ⟨#[]⟩] 123)) ((((w.alloc (.cells #[.int .i64 0, .string ⟨#[]⟩] 123)).alloc (.cells #[.int .i64 10, .string ⟨#[]⟩] 123))).alloc (.map #[] 0)) := (below_new _ _).mono (by simp)
  simp only [World.size_alloc] at hown
  go_wp2_with (first
    | (at_lookup; refine wpList_lookup_own_ok_int _ rfl _ _ 152 rfl 5 3 .i64 lawByte Tryz.underlying152 Tryz.underlying3 (zeroInt _) (w.heap.size + 1 + 1) _ _ rfl hown _ _ rfl (keyOf_int_mk Tryz.underlying5 hq2) ?_; intro c hat hwc; rw [HH.out]; have HROW := Lib.hid ((hB.block _ (by omega)).trans (((below_new _ _).block _ (by simp)).trans (World.alloc_heap_new w (.cells #[.int .i64 0, .string ⟨#[]⟩] 123)))); have HBEL := Lib.hid (((below_new w _).trans ((below_new _ _).mono (by simp))).trans (hB.mono (by omega))); obtain ⟨m0, m1⟩ := HN.out.below HBEL.out HN.out.pos; obtain ⟨y0, y1, y2, y3⟩ := cells2 HROW.out; clear hat hwc hown hB)
    | (refine wpList_insert_own _ rfl _ _ _ 152 rfl 5 3 lawByte Tryz.underlying152 _ (w.heap.size + 1 + 1) _ _ rfl hown (by unfold maxLen; omega) _ _ _ rfl rfl (keyOf_int_mk Tryz.underlying5 (by decide)) _ [] (plainElem_int Tryz.underlying3 (by decide)) ?_; intro W' hown' hg'; have hB' := hB.grown hg' (Nat.le_trans (by simp) hB.size) (fun j hj => by injection hj; omega); clear hown hB hg'; have hown := hown'; have hB := hB'; clear hown' hB'))
  try rw [Exit.noGoto_ret]
  obtain ⟨wf, hwf⟩ : ∃ wf, wf = (W'.setCell ⟨w.heap.size, 0, none⟩ (.int .i64 0)).setCell ⟨w.heap.size, 1, none⟩ (.string ⟨#[]⟩) := ⟨_, rfl⟩
  have hg : wf.heap[w.heap.size]? = some (.cells #[.int .i64 0, .string ⟨#[]⟩] 123 (0, 0)) := by rw [hwf]; exact heap_set2 _ _ _ _ _ _ _ HROW.out
  have hBf : Below w.heap.size w wf := by rw [hwf]; exact (HBEL.out.setCell (p := ⟨w.heap.size, 0, none⟩) (by simp) _).setCell (p := ⟨w.heap.size, 1, none⟩) (by simp) _
  rw [← hwf]
  refine bodyPost_ret_by (results_cell_row rfl _ wf w.heap.size _ _ _ _ rfl hg Tryz.underlying123 rfl (by kernel_rfl)) rfl ?_
  exact ⟨ret_of rfl, hBf⟩

set_option maxHeartbeats 1000000 in
set_option maxRecDepth 100000 in
theorem readR_us (s : ByteArray) (w : World) (hN : NoneAt w) (h0 : s.size = 0 ∨ (bytes s)[0]?.getD 0 = 95) :
    Calls Tryz.prog 72 #[.string s] w (RetB w (.agg #[.int .i64 0, .string ⟨#[]⟩])) := by
  have HN := Lib.hid hN
  obtain ⟨A, hA⟩ : ∃ A, A = ((w.alloc (.cells #[.int .i64 0, .string ⟨#[]⟩] 123)).alloc (.cells #[.int .i64 10, .string ⟨#[]⟩] 123)) := ⟨_, rfl⟩
  have HROW : Hid (A.heap[w.heap.size]? = some (.cells #[.int .i64 0, .string ⟨#[]⟩] 123)) := by rw [hA]; exact ((below_new _ _).block _ (by simp)).trans (World.alloc_heap_new _ _)
  have HBEL : Hid (Below w.heap.size w A) := by rw [hA]; exact (below_new _ _).trans ((below_new _ _).mono (by simp))
  obtain ⟨m0, m1⟩ := HN.out.below HBEL.out HN.out.pos
  obtain ⟨y0, y1, y2, y3⟩ := cells2 HROW.out
  have HA := Lib.hid hA
  clear hN hA
  by_cases hz : s.size = 0
  · have em : s.toList.isEmpty = true := by rw [toList_empty]; exact decide_eq_true hz
    clear h0
    go_enter Tryz.func72, Tryz.ntmps72
    go_wp2
    go_step3
    go_upto_region 9 with (fail)
    rw [← HA.out]
    go_wp2
    try rw [Exit.noGoto_ret]
    obtain ⟨wf, hwf⟩ : ∃ wf, wf = (A.setCell ⟨w.heap.size, 0, none⟩ (.int .i64 0)).setCell ⟨w.heap.size, 1, none⟩ (.string ⟨#[]⟩) := ⟨_, rfl⟩
    have hg : wf.heap[w.heap.size]? = some (.cells #[.int .i64 0, .string ⟨#[]⟩] 123 (0, 0)) := by rw [hwf]; exact heap_set2 _ _ _ _ _ _ _ HROW.out
    have hBf : Below w.heap.size w wf := by rw [hwf]; exact (HBEL.out.setCell (p := ⟨w.heap.size, 0, none⟩) (by simp) _).setCell (p := ⟨w.heap.size, 1, none⟩) (by simp) _
    rw [← hwf]
    refine bodyPost_ret_by (results_cell_row rfl _ wf w.heap.size _ _ _ _ rfl hg Tryz.underlying123 rfl (by kernel_rfl)) rfl ?_
    exact ⟨ret_of rfl, hBf⟩
  · have h2 : 0 < s.size := by omega
    have em : s.toList.isEmpty = false := by rw [toList_empty]; exact decide_eq_false hz
    have h3 := h0.resolve_left hz
    rw [bytes_at s 0 h2] at h3
    have hs0 : (s[0]'h2).toNat = 95 := by omega
    clear h0 h3
    by_cases h1 : 1 < s.size
    · go_enter Tryz.func72, Tryz.ntmps72
      go_wp2
      go_step3
      go_upto_region 9 with (fail)
      rw [← HA.out]
      go_wp2
      try rw [Exit.noGoto_ret]
      obtain ⟨wf, hwf⟩ : ∃ wf, wf = (A.setCell ⟨w.heap.size, 0, none⟩ (.int .i64 0)).setCell ⟨w.heap.size, 1, none⟩ (.string ⟨#[]⟩) := ⟨_, rfl⟩
      have hg : wf.heap[w.heap.size]? = some (.cells #[.int .i64 0, .string ⟨#[]⟩] 123 (0, 0)) := by rw [hwf]; exact heap_set2 _ _ _ _ _ _ _ HROW.out
      have hBf : Below w.heap.size w wf := by rw [hwf]; exact (HBEL.out.setCell (p := ⟨w.heap.size, 0, none⟩) (by simp) _).setCell (p := ⟨w.heap.size, 1, none⟩) (by simp) _
      rw [← hwf]
      refine bodyPost_ret_by (results_cell_row rfl _ wf w.heap.size _ _ _ _ rfl hg Tryz.underlying123 rfl (by kernel_rfl)) rfl ?_
      exact ⟨ret_of rfl, hBf⟩
    · go_enter Tryz.func72, Tryz.ntmps72
      go_wp2
      go_step3
      go_upto_region 9 with (fail)
      rw [← HA.out]
      go_wp2
      try rw [Exit.noGoto_ret]
      obtain ⟨wf, hwf⟩ : ∃ wf, wf = (A.setCell ⟨w.heap.size, 0, none⟩ (.int .i64 0)).setCell ⟨w.heap.size, 1, none⟩ (.string ⟨#[]⟩) := ⟨_, rfl⟩
      have hg : wf.heap[w.heap.size]? = some (.cells #[.int .i64 0, .string ⟨#[]⟩] 123 (0, 0)) := by rw [hwf]; exact heap_set2 _ _ _ _ _ _ _ HROW.out
      have hBf : Below w.heap.size w wf := by rw [hwf]; exact (HBEL.out.setCell (p := ⟨w.heap.size, 0, none⟩) (by simp) _).setCell (p := ⟨w.heap.size, 1, none⟩) (by simp) _
      rw [← hwf]
      refine bodyPost_ret_by (results_cell_row rfl _ wf w.heap.size _ _ _ _ rfl hg Tryz.underlying123 rfl (by kernel_rfl)) rfl ?_
      exact ⟨ret_of rfl, hBf⟩

theorem readR_calls (s : ByteArray) (w : World) (hn : s.size ≤ 65536) (hN : NoneAt w) : Calls Tryz.prog 72 #[.string s] w (RetB w (.agg #[.int .i64 (litP (bytes s)).1, .string (strOf (litP (bytes s)).2)])) := by
  have hl := bytes_length s
  unfold litP
  by_cases hp : 1 < (bytes s).length ∧ (bytes s)[0]?.getD 0 = 48
  · rw [if_pos hp]
    have hq0 := (bytes_range s 1).1
    have hq : (bytes s)[1]?.getD 0 = ((((bytes s)[1]?.getD 0).toNat : Nat) : Int) := by omega
    by_cases hb : bas ((bytes s)[1]?.getD 0).toNat = 0
    · rw [if_pos hb]
      exact readR_nopre s w hN (by omega) hp.2 _ hq hb
    · rw [if_neg hb]
      exact readR_pre s w hn hN (by omega) hp.2 _ hq hb _ _ rfl rfl
  · rw [if_neg hp]
    by_cases he : bytes s = [] ∨ (bytes s)[0]?.getD 0 = 95
    · rw [if_pos he]
      exact readR_us s w hN (he.imp (fun h => by rw [← hl, h]; rfl) id)
    · rw [if_neg he]
      have h0 : 0 < s.size := by
        rcases Nat.eq_zero_or_pos s.size with h | h
        · exact absurd (Or.inl (List.eq_nil_of_length_eq_zero (by omega))) he
        · exact h
      refine readR_ten s w hn hN h0 (fun h => he (.inr h)) ?_ _ _ rfl rfl
      by_cases h1 : s.size = 1
      · exact .inl h1
      · exact .inr (fun h => hp ⟨by omega, h⟩)
end Go.Proofs.YtlmbklpidmkdcaaGreatDoor
