/- The reference's Pad and Group. -/
import Derived.Test.YtmbceiaeffnigaaDoorA
namespace Go.Proofs.YtmbceiaeffnigaaDoor
open Go.RowKit

set_option maxHeartbeats 1000000 in
set_option maxRecDepth 100000 in
theorem pad10_calls (u : Value) (xs : List Int) (b width : Nat) (w : World) (hr : SI w .u64 u xs) (hu : U64 xs) (hb : 2 ≤ b) (hb2 : b ≤ 36) (hn : xs.length ≤ 4096) (hwd : width ≤ 65536) :
    Calls Tryd.prog 11 #[u, .int .i64 b, .int .i64 width] w (RetB w (.string (strOf (padL width (fmt b (val 18446744073709551616 xs)))))) := by
  have HR := Lib.hid hr
  have HU := Lib.hid hu
  have hL := fmt_len hb xs hu
  generalize hf : fmt b (val 18446744073709551616 xs) = l at hL ⊢
  have HF := Lib.hid hf
  clear hr hu hf
  go_enter Tryd.func11, Tryd.ntmps11
  go_wp2_with fail
  refine (format10_calls _ xs b _ HR.out HU.out hb hb2 hn).mono ?_
  rintro e w1 ⟨rfl, h2⟩
  rw [HF.out]
  have H2 := Lib.hid h2
  clear h2
  have hsz := strOf_size l
  generalize hs : strOf l = s at hsz ⊢
  have HS := Lib.hid hs
  have hsz1 : s.size ≤ l.length := by omega
  have hsz2 : l.length ≤ s.size := by omega
  clear hs hsz
  go_wp2_with fail
  go_loopw [8] (fun o wr => ∃ (j : Nat), j ≤ width - l.length ∧ Own w1.heap.size 5 wr .u8 o (List.replicate j 48) ∧ Below w1.heap.size w1 wr) (fun o wr => (width - (match o with | .slice _ n _ => n | _ => 0)))
  case atStart => exact ⟨0, by omega, Own.nil _ _ _ _, Below.refl _ _⟩
  case round =>
    obtain ⟨j, hj, ho, hB⟩ := hrel
    obtain ⟨A, c, rfl, hc⟩ := ho.slice
    have hrl : (List.replicate j (48 : Int)).length = j := by simp
    rw [hrl] at ho hc ⊢
    by_cases hlt : j + l.length < width
    · have hlt2 : j + s.size < width := by omega
      have HO := Lib.hid ho
      have HB := Lib.hid hB
      have HRL := Lib.hid hrl
      clear ho hB hrl
      go_wp2_with (at_builtin; refine wpList_app1 (W0 := w1) rfl (.tmp 19) (.tmp 20) 48 rfl w1.heap.size 5 1 .u8 Tryd.underlying48 infoB _ (List.replicate j 48) _ rfl rfl HO.out (by rw [HRL.out]; omega) (by omega) HB.out HB.out.size ?_; intro v' w4 h1 h2 h3 h4; rw [← List.replicate_succ'] at h1; obtain ⟨A3, c3, e3, hc3⟩ := h1.slice; rw [List.length_replicate] at e3 hc3; subst e3; have G1 := Lib.hid h1; have G2 := Lib.hid h2; clear h1 h2 h3 h4)
      go_roundw
      case rel => exact ⟨j + 1, by omega, G1.out, G2.out⟩
      case measure => simp; omega
    · have hlt2 : ¬ j + s.size < width := by omega
      have hconv := conv_bytes (P := Tryd.prog) 48 9 5 Tryd.underlying48 Tryd.underlying5 Tryd.underlying9 ho.si
      have hfin : strOf (List.replicate j 48) ++ s = strOf (padL width l) := by
        have hj2 : width - l.length = j := by omega
        unfold padL
        rw [← HS.out, strOf_append, hj2]
      have hz2 := strOf_size (List.replicate j 48)
      rw [hrl] at hz2
      generalize hq : strOf (List.replicate j 48) = q at hconv hfin hz2
      have HFI := Lib.hid hfin
      have HB := Lib.hid hB
      have hq1 : q.size ≤ j := by omega
      have hq2 : q.size + s.size ≤ 9223372036854775807 := by omega
      clear ho hB hrl hfin hq hz2
      go_wp2_with fail
      go_ret
      exact ⟨ret_of (by rw [← HFI.out]; rfl), H2.out.trans (HB.out.mono H2.out.size)⟩

set_option maxHeartbeats 2000000 in
set_option maxRecDepth 100000 in
theorem group10_calls (s : ByteArray) (e : Nat) (w : World) (he : 1 ≤ e) (he2 : e ≤ 100) (hn : s.size ≤ 100000) :
    Calls Tryd.prog 12 #[.string s, .int .i64 e] w (RetB w (.string (strOf (grp e (bytes s))))) := by
  have hbl := bytes_length s
  have hl1 : (bytes s).length ≤ s.size := by omega
  have hl2 : s.size ≤ (bytes s).length := by omega
  clear hbl
  go_enter Tryd.func12, Tryd.ntmps12
  go_wp2_with fail
  go_loopw [5, 6] (fun o i wr => ∃ (k : Nat) (out : List Int), k ≤ s.size ∧ i = .int .i64 (k : Int) ∧ grp e (bytes s) = out ++ grpG e (bytes s) k ∧ out.length ≤ 2 * k ∧ Own w.heap.size 5 wr .u8 o out ∧ Below w.heap.size w wr) (fun o i wr => s.size - (intOf i).toNat)
  case atStart => exact ⟨0, [], Nat.zero_le _, rfl, rfl, by simp, Own.nil _ _ _ _, Below.refl _ _⟩
  case round =>
    obtain ⟨k, out, hk, rfl, hg, hol, ho, hB⟩ := hrel
    by_cases hlt : k < s.size
    · have hst := grpG_step (e := e) (l := bytes s) (k := k) (by omega)
      have hat := bytes_at s k hlt
      generalize hc : (bytes s)[k]?.getD 0 = c at hst hat
      rw [show (bytes s).length - k = s.size - k by omega] at hst
      have HAT := Lib.hid hat
      have HO := Lib.hid ho
      have HB := Lib.hid hB
      by_cases h1 : 0 < k ∧ (s.size - k) % e = 0
      · obtain ⟨h2, h3⟩ := h1
        rw [if_pos ⟨h2, h3⟩] at hst
        have HG : Hid (grp e (bytes s) = (out ++ [95] ++ [c]) ++ grpG e (bytes s) (k + 1)) := by
          show grp e (bytes s) = _
          rw [hg, hst]; simp
        have h4 : (((s.size : Int) - (k : Int)) % (e : Int) == 0) = true := by
          rw [beq_iff_eq]
          have : ((s.size - k : Nat) : Int) % (e : Int) = 0 := by exact_mod_cast h3
          rw [← this]; congr 1; omega
        clear hg hst hc hat ho hB h3
        go_wp2_with (first
          | (at_builtin; refine wpList_app1 (W0 := w) rfl (.tmp 24) (.tmp 25) 48 rfl w.heap.size 5 1 .u8 Tryd.underlying48 infoB _ out _ rfl rfl HO.out (by omega) (by omega) HB.out HB.out.size ?_; intro v' w4 g1 g2 g3 g4; have G1 := Lib.hid g1; have G2 := Lib.hid g2; clear g1 g2 g3 g4 HO)
          | (at_builtin; refine wpList_app1 (W0 := w) rfl (.tmp 27) (.tmp 31) 48 rfl w.heap.size 5 1 .u8 Tryd.underlying48 infoB _ (out ++ [95]) _ rfl rfl G1.out (by simp; omega) (by omega) G2.out G2.out.size ?_; intro v5 w5 g1 g2 g3 g4; rw [← HAT.out] at g1; have G3 := Lib.hid g1; have G4 := Lib.hid g2; clear g1 g2 g3 g4 G1))
        go_roundw
        case rel => exact ⟨k + 1, _, by omega, by go_num, HG.out, by simp; omega, G3.out, G4.out⟩
        case measure => simp [intOf]; omega
      · rw [if_neg h1] at hst
        have HG : Hid (grp e (bytes s) = (out ++ [c]) ++ grpG e (bytes s) (k + 1)) := by
          show grp e (bytes s) = _
          rw [hg, hst]; simp
        have h4 : (((s.size : Int) - (k : Int)) % (e : Int) == 0) = true → ¬ 0 < k := by
          intro h5 h6
          refine h1 ⟨h6, ?_⟩
          rw [beq_iff_eq] at h5
          have : ((s.size - k : Nat) : Int) % (e : Int) = 0 := by rw [← h5]; congr 1; omega
          exact_mod_cast this
        clear hg hst hc hat ho hB h1
        by_cases h0 : 0 < k
        · have h5 : (((s.size : Int) - (k : Int)) % (e : Int) == 0) = false := by
            cases hq : (((s.size : Int) - (k : Int)) % (e : Int) == 0) with
            | true => exact absurd h0 (h4 hq)
            | false => rfl
          clear h4
          go_wp2_with (at_builtin; refine wpList_app1 (W0 := w) rfl (.tmp 27) (.tmp 31) 48 rfl w.heap.size 5 1 .u8 Tryd.underlying48 infoB _ out _ rfl rfl HO.out (by omega) (by omega) HB.out HB.out.size ?_; intro v5 w5 g1 g2 g3 g4; rw [← HAT.out] at g1; have G3 := Lib.hid g1; have G4 := Lib.hid g2; clear g1 g2 g3 g4 HO)
          go_roundw
          case rel => exact ⟨k + 1, _, by omega, by go_num, HG.out, by simp; omega, G3.out, G4.out⟩
          case measure => simp [intOf]; omega
        · clear h4
          go_wp2_with (at_builtin; refine wpList_app1 (W0 := w) rfl (.tmp 27) (.tmp 31) 48 rfl w.heap.size 5 1 .u8 Tryd.underlying48 infoB _ out _ rfl rfl HO.out (by omega) (by omega) HB.out HB.out.size ?_; intro v5 w5 g1 g2 g3 g4; rw [← HAT.out] at g1; have G3 := Lib.hid g1; have G4 := Lib.hid g2; clear g1 g2 g3 g4 HO)
          go_roundw
          case rel => exact ⟨k + 1, _, by omega, by go_num, HG.out, by simp; omega, G3.out, G4.out⟩
          case measure => simp [intOf]; omega
    · rw [grpG_end (by omega), List.append_nil] at hg
      have hconv := conv_bytes (P := Tryd.prog) 48 9 5 Tryd.underlying48 Tryd.underlying5 Tryd.underlying9 ho.si
      rw [← hg] at hconv
      have HB := Lib.hid hB
      clear hg ho hB
      go_wp2_with fail
      go_ret
      exact ⟨rfl, HB.out⟩
end Go.Proofs.YtmbceiaeffnigaaDoor
