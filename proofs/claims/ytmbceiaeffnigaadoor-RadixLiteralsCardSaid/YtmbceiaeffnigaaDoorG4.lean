/- RadixLiterals: the walk. -/
import Derived.Test.YtmbceiaeffnigaaDoorD6
import Derived.Test.YtmbceiaeffnigaaDoorE7x
import Derived.Test.YtmbceiaeffnigaaDoorE8
import Derived.Test.YtmbceiaeffnigaaDoorG1
namespace Go.Proofs.YtmbceiaeffnigaaDoor
open Go.RowKit

theorem lit10_none (s : ByteArray) (w : World) (hn : s.size ≤ 3000) (h : litP (bytes s) = (0, [])) : Calls Tryd.prog 19 #[.string s] w (RetB w (.tuple #[.slice none 0 0, .int .i64 0, .bool false])) := by
  have hc := lit10_calls s w hn
  rw [h] at hc
  refine hc.mono ?_
  rintro e w' (⟨_, h1, h2⟩ | ⟨b, hb, h1, _⟩)
  · exact ⟨h1, h2⟩
  · have : (0 : Int) = (b : Int) := h1
    omega
theorem lit10_some (s : ByteArray) (w : World) (hn : s.size ≤ 3000) (b : Nat) (ds : List Int) (h : litP (bytes s) = ((b : Int), ds)) (hb : 0 < b) : Calls Tryd.prog 19 #[.string s] w fun e w' => ∃ v', e = .returned (.tuple #[v', .int .i64 (b : Int), .bool true]) ∧ SI w' .u64 v' (wordsOf (dval b ds)) ∧ Below w.heap.size w w' := by
  have hc := lit10_calls s w hn
  rw [h] at hc
  refine hc.mono ?_
  rintro e w' (⟨h1, _, _⟩ | ⟨b', hb', h1, v', h2, h3, h4⟩)
  · injection h1 with h1 _
    omega
  · have : (b : Int) = (b' : Int) := h1
    have : b' = b := by omega
    subst this
    exact ⟨v', h2, h3, h4⟩
theorem dval_lt {b : Nat} {ds : List Int} (hb : 2 ≤ b) (h : ∀ x ∈ ds, dig10 x < (b : Int)) (h0 : ∀ x ∈ ds, 0 ≤ x) : dval b ds < b ^ ds.length := by
  unfold dval
  have := val_lt b (by omega) (ds.map dig10).reverse (fun y hy => by
    rw [List.mem_reverse, List.mem_map] at hy
    obtain ⟨x, hx, rfl⟩ := hy
    have h1 := h x hx
    have h2 := dig10_pos x (h0 x hx)
    omega)
  simpa using this
/-- What the three say of a text: none. -/
def Three (t : ByteArray) : Prop := litP (bytes t) = (0, []) ∨ ∃ (b : Nat) (ds : List Int), 0 < b ∧ litP (bytes t) = ((b : Int), ds) ∧ (wordsOf (dval b ds)).length ≤ 4096
theorem three_of (t : ByteArray) (ht : t.size ≤ 3000) : Three t := by
  rcases litP_cases (bytes t) with h | ⟨b, hb, h1, h2, h3, h4⟩
  · exact .inl h
  · refine .inr ⟨b, (litP (bytes t)).2, by omega, by rw [← h1], ?_⟩
    have hl := dval_lt (b := b) (ds := (litP (bytes t)).2) (by omega) (fun x hx => (h4 x hx).1) (fun x hx => (bytes_mem t x (h4 x hx).2).1)
    have := pow_lt_of (by omega) hl
    rw [bytes_length] at h3
    omega
theorem literalR_long (s : ByteArray) (w : World) (h : 65536 < s.size) : Calls Tryd.prog 17 #[.string s] w (RetV w (.tuple #[.slice none 0 0, .int .i64 0, .int .i64 2])) := by
  have h1 : decide ((65536 : Int) < (s.size : Int)) = true := decide_eq_true (by omega)
  go_enter Tryd.func17, Tryd.ntmps17
  go_wp2
  go_ret3
  exact ⟨rfl, rfl⟩
theorem isLiteralR_long (s : ByteArray) (w : World) (h : 65536 < s.size) : Calls Tryd.prog 20 #[.string s] w (RetB w (.bool false)) := by
  have h1 : decide ((s.size : Int) ≤ 65536) = false := decide_eq_false (by omega)
  go_enter Tryd.func20, Tryd.ntmps20
  go_wp2
  go_quiet (fail)
  go_wp2
  go_ret
  exact ⟨rfl, below_drewN (Below.refl _ _) _⟩

theorem xob_size (a c : Nat) (t : ByteArray) : ((⟨#[48]⟩ : ByteArray) ++ (⟨#[120, 111, 98]⟩ : ByteArray).extract a c ++ t).size ≤ 4 + t.size := by
  rw [ByteArray.size_append', ByteArray.size_append']
  have h1 : ((⟨#[120, 111, 98]⟩ : ByteArray).extract a c).size ≤ 3 := by
    rw [ByteArray.size_extract]
    have : (⟨#[120, 111, 98]⟩ : ByteArray).size = 3 := rfl
    omega
  have h2 : (⟨#[48]⟩ : ByteArray).size = 1 := rfl
  omega

set_option maxHeartbeats 4000000 in
set_option maxRecDepth 100000 in
theorem literals_calls (s : ByteArray) (w : World) (hs : s.size ≤ 9223372036854775807) (hN : NoneAt w) :
    Calls Tryd.prog 5 #[.string s] w (RetB w (.bool true)) := by
  have HN := Lib.hid hN
  clear hN
  go_enter Tryd.func5, Tryd.ntmps5
  go_upto_region 3 with (go_at_call 7; refine (part_calls s 200 _).mono ?_; rintro e w' ⟨rfl, rfl⟩)
  obtain ⟨t0, ht0⟩ : ∃ t0, t0 = s.extract 0 (min s.size 200) := ⟨_, rfl⟩
  have hts : t0.size ≤ 1000 := by rw [ht0]; simp; omega
  rw [← ht0]
  clear ht0
  go_loopg [3, 4] 3 (fun m tv i wr => ∃ (k : Nat) (t : ByteArray), m + k = 3 ∧ i = .int .i64 (k : Int) ∧ tv = .string t ∧ t.size ≤ 1000 ∧ Below w.heap.size w wr)
  case atStart => exact ⟨0, t0, rfl, rfl, rfl, hts, Below.refl _ _⟩
  case round =>
    obtain ⟨k, t, hk, rfl, rfl, htz, hB⟩ := hrel
    have HB := Lib.hid hB
    clear hB
    by_cases hlt : k < 3
    · have h3 := three_of t (by omega)
      have HNr := Lib.hid (HN.out.below HB.out HN.out.pos)
      rcases h3 with hnone | ⟨b, ds, hb0, hsome, hwl⟩
      · have hil : isLit t = false := by unfold isLit; rw [hnone]; rfl
        have c1 := fun W hW => literalR_no t W (by omega) hW hnone
        have c2 := fun W => lit10_none t W (by omega) hnone
        have C1 := Lib.hid c1
        have C2 := Lib.hid c2
        have HIL := Lib.hid hil
        clear hnone hil c1 c2
        go_upto_region 11 with (first
          | (go_at_call 17; refine (C1.out _ HNr.out).mono ?_; rintro e w3 ⟨rfl, q1⟩; have B3 := Lib.hid (HB.out.trans (q1.mono HB.out.size)); clear q1)
          | (go_at_call 19; refine (C2.out _).mono ?_; rintro e w4 ⟨rfl, q1⟩; have B4 := Lib.hid (B3.out.trans (q1.mono B3.out.size)); clear q1)
          | (go_at_call 20; refine (isLiteralR_calls t _ (by omega) (HN.out.below B4.out HN.out.pos)).mono ?_; rintro e w5 ⟨rfl, q1⟩; rw [HIL.out]; have B5 := Lib.hid (B4.out.trans (q1.mono B4.out.size)); clear q1))
        obtain ⟨go, hgo⟩ : ∃ go, go = gk := ⟨_, rfl⟩
        have HGO := Lib.hid (And.intro hgo hk)
        clear hgo hk
        go_upto_region 13 with (fail)
        go_loopg [11, 12] 20 (fun m ov i wr => ∃ (j : Nat) (l : List Int), m + j = 20 ∧ i = .int .i64 (j : Int) ∧ l.length = j ∧ Own w5.heap.size 5 wr .u8 ov l ∧ Below w5.heap.size w5 wr)
        case atStart => exact ⟨0, [], rfl, rfl, rfl, Own.nil _ _ _ _, Below.refl _ _⟩
        case round =>
          obtain ⟨j, l, hj, rfl, hl, ho, hB'⟩ := hrel
          have HO := Lib.hid ho
          have HB' := Lib.hid hB'
          have HL := Lib.hid hl
          clear ho hB' hl
          by_cases hin : j < s.size ∧ j < 20
          · obtain ⟨hj1, hj2⟩ := hin
            obtain ⟨q, hq⟩ : ∃ q, (s[j]'hj1).toNat = q := ⟨_, rfl⟩
            have hq256 : q < 256 := by have := (s[j]'hj1).toNat_lt; omega
            by_cases hk0 : k = 0
            · have hk1 : ((k : Int) == 0) = true := by rw [hk0]; rfl
              clear hk0
              go_wp2_with (at_builtin; refine wpList_app1 (W0 := w5) rfl (.tmp 85) (.tmp 91) 48 rfl w5.heap.size 5 1 .u8 Tryd.underlying48 infoB _ l _ rfl rfl HO.out (by have := HL.out; omega) (by omega) HB'.out HB'.out.size ?_; intro v5 w7 q1 q2 q3 q4; have G1 := Lib.hid q1; have G2 := Lib.hid q2; clear q1 q2 q3 q4)
              go_roundg (gk - 1)
              case rel => exact ⟨j + 1, _, by omega, by go_num, by simp [HL.out], G1.out, G2.out⟩
              case measure => omega
            · have hk1 : ((k : Int) == 0) = false := beq_eq_false_iff_ne.2 (by omega)
              go_wp2_with (at_builtin; refine wpList_app1 (W0 := w5) rfl (.tmp 93) (.tmp 99) 48 rfl w5.heap.size 5 1 .u8 Tryd.underlying48 infoB _ l _ rfl rfl HO.out (by have := HL.out; omega) (by omega) HB'.out HB'.out.size ?_; intro v5 w7 q1 q2 q3 q4; have G1 := Lib.hid q1; have G2 := Lib.hid q2; clear q1 q2 q3 q4)
              go_roundg (gk - 1)
              case rel => exact ⟨j + 1, _, by omega, by go_num, by simp [HL.out], G1.out, G2.out⟩
              case measure => omega
          · have hconv := conv_bytes (P := Tryd.prog) 48 9 5 Tryd.underlying48 Tryd.underlying5 Tryd.underlying9 HO.out.si
            obtain ⟨t1, ht1⟩ : ∃ t1, t1 = strOf l := ⟨_, rfl⟩
            have ht1s : t1.size ≤ 20 := by rw [ht1, strOf_size, HL.out]; omega
            rw [← ht1] at hconv
            have HBB := Lib.hid (B5.out.trans (HB'.out.mono B5.out.size))
            clear ht1
            rcases (show ¬ j < s.size ∨ (j < s.size ∧ j = 20) by omega) with h1 | ⟨h1, h2⟩
            · have h3 : decide ((j : Int) < (s.size : Int)) = false := decide_eq_false (by omega)
              clear hin
              by_cases hk1 : k = 1
              · have hk2 : ((k : Int) == 1) = true := by rw [hk1]; rfl
                obtain ⟨u, hu⟩ : ∃ u, u = s.size % 3 := ⟨_, rfl⟩
                have hu3 : u < 3 := by omega
                have hu2 : (s.size : Int) % 3 = (u : Int) := by omega
                clear hk1 hu
                go_wp2
                go_roundg (go - 1)
                case rel => exact ⟨k + 1, _, by have := HGO.out.2; have := HGO.out.1; omega, by go_num, rfl, Nat.le_trans (xob_size _ _ t1) (by omega), HBB.out⟩
                case measure => have := HGO.out.1; have := HGO.out.2; omega
              · have hk2 : ((k : Int) == 1) = false := beq_eq_false_iff_ne.2 (by omega)
                go_wp2
                go_roundg (go - 1)
                case rel => exact ⟨k + 1, t1, by have := HGO.out.2; have := HGO.out.1; omega, by go_num, rfl, by omega, HBB.out⟩
                case measure => have := HGO.out.1; have := HGO.out.2; omega
            · have h3 : decide ((j : Int) < (s.size : Int)) = true := decide_eq_true (by omega)
              have h4 : decide ((j : Int) < 20) = false := decide_eq_false (by omega)
              clear hin h2
              by_cases hk1 : k = 1
              · have hk2 : ((k : Int) == 1) = true := by rw [hk1]; rfl
                obtain ⟨u, hu⟩ : ∃ u, u = s.size % 3 := ⟨_, rfl⟩
                have hu3 : u < 3 := by omega
                have hu2 : (s.size : Int) % 3 = (u : Int) := by omega
                clear hk1 hu
                go_wp2
                go_roundg (go - 1)
                case rel => exact ⟨k + 1, _, by have := HGO.out.2; have := HGO.out.1; omega, by go_num, rfl, Nat.le_trans (xob_size _ _ t1) (by omega), HBB.out⟩
                case measure => have := HGO.out.1; have := HGO.out.2; omega
              · have hk2 : ((k : Int) == 1) = false := beq_eq_false_iff_ne.2 (by omega)
                go_wp2
                go_roundg (go - 1)
                case rel => exact ⟨k + 1, t1, by have := HGO.out.2; have := HGO.out.1; omega, by go_num, rfl, by omega, HBB.out⟩
                case measure => have := HGO.out.1; have := HGO.out.2; omega
      · have hil : isLit t = true := by
          unfold isLit
          rw [hsome]
          refine decide_eq_true (fun h => ?_)
          injection h with h _
          omega
        have c1 := fun W hW => literalR_yes t W (by omega) hW b ds hsome hb0 hwl
        have c2 := fun W => lit10_some t W (by omega) b ds hsome hb0
        have C1 := Lib.hid c1
        have C2 := Lib.hid c2
        have HIL := Lib.hid hil
        obtain ⟨N, hN⟩ : ∃ N, N = dval b ds := ⟨_, rfl⟩
        rw [← hN] at hwl C1 C2
        have HWL := Lib.hid hwl
        clear hsome hil c1 c2 hN hwl
        go_upto_region 11 with (first
          | (go_at_call 17; refine (C1.out _ HNr.out).mono ?_; rintro e w3 ⟨v3, rfl, q0, q1⟩; have S3 := Lib.hid q0; have B3 := Lib.hid (HB.out.trans (q1.mono HB.out.size)); clear q0 q1)
          | (go_at_call 19; refine (C2.out _).mono ?_; rintro e w4 ⟨v4, rfl, q0, q1⟩; have S4 := Lib.hid q0; have S3' := Lib.hid (S3.out.below q1); have B4 := Lib.hid (B3.out.trans (q1.mono B3.out.size)); clear q0 q1)
          | (go_at_call 20; refine (isLiteralR_calls t _ (by omega) (HN.out.below B4.out HN.out.pos)).mono ?_; rintro e w5 ⟨rfl, q1⟩; rw [HIL.out]; have S4' := Lib.hid (S4.out.below q1); have S3'' := Lib.hid (S3'.out.below q1); have B5 := Lib.hid (B4.out.trans (q1.mono B4.out.size)); clear q1)
          | (go_at_call 21; refine (is_calls v3 v4 N (wordsOf N) _ S3''.out S4'.out (wordsOf_u64 _) (by have := HWL.out; omega) (by have := HWL.out; omega)).mono ?_; rintro e w6 ⟨rfl, q1⟩; rw [wordsOf_val, decide_eq_true rfl]; have B6 := Lib.hid (B5.out.trans (q1.mono B5.out.size)); clear q1))
        obtain ⟨go, hgo⟩ : ∃ go, go = gk := ⟨_, rfl⟩
        have HGO := Lib.hid (And.intro hgo hk)
        clear hgo hk
        go_upto_region 13 with (fail)
        go_loopg [11, 12] 20 (fun m ov i wr => ∃ (j : Nat) (l : List Int), m + j = 20 ∧ i = .int .i64 (j : Int) ∧ l.length = j ∧ Own w6.heap.size 5 wr .u8 ov l ∧ Below w6.heap.size w6 wr)
        case atStart => exact ⟨0, [], rfl, rfl, rfl, Own.nil _ _ _ _, Below.refl _ _⟩
        case round =>
          obtain ⟨j, l, hj, rfl, hl, ho, hB'⟩ := hrel
          have HO := Lib.hid ho
          have HB' := Lib.hid hB'
          have HL := Lib.hid hl
          clear ho hB' hl
          by_cases hin : j < s.size ∧ j < 20
          · obtain ⟨hj1, hj2⟩ := hin
            obtain ⟨q, hq⟩ : ∃ q, (s[j]'hj1).toNat = q := ⟨_, rfl⟩
            have hq256 : q < 256 := by have := (s[j]'hj1).toNat_lt; omega
            by_cases hk0 : k = 0
            · have hk1 : ((k : Int) == 0) = true := by rw [hk0]; rfl
              clear hk0
              go_wp2_with (at_builtin; refine wpList_app1 (W0 := w6) rfl (.tmp 85) (.tmp 91) 48 rfl w6.heap.size 5 1 .u8 Tryd.underlying48 infoB _ l _ rfl rfl HO.out (by have := HL.out; omega) (by omega) HB'.out HB'.out.size ?_; intro v5 w7 q1 q2 q3 q4; have G1 := Lib.hid q1; have G2 := Lib.hid q2; clear q1 q2 q3 q4)
              go_roundg (gk - 1)
              case rel => exact ⟨j + 1, _, by omega, by go_num, by simp [HL.out], G1.out, G2.out⟩
              case measure => omega
            · have hk1 : ((k : Int) == 0) = false := beq_eq_false_iff_ne.2 (by omega)
              go_wp2_with (at_builtin; refine wpList_app1 (W0 := w6) rfl (.tmp 93) (.tmp 99) 48 rfl w6.heap.size 5 1 .u8 Tryd.underlying48 infoB _ l _ rfl rfl HO.out (by have := HL.out; omega) (by omega) HB'.out HB'.out.size ?_; intro v5 w7 q1 q2 q3 q4; have G1 := Lib.hid q1; have G2 := Lib.hid q2; clear q1 q2 q3 q4)
              go_roundg (gk - 1)
              case rel => exact ⟨j + 1, _, by omega, by go_num, by simp [HL.out], G1.out, G2.out⟩
              case measure => omega
          · have hconv := conv_bytes (P := Tryd.prog) 48 9 5 Tryd.underlying48 Tryd.underlying5 Tryd.underlying9 HO.out.si
            obtain ⟨t1, ht1⟩ : ∃ t1, t1 = strOf l := ⟨_, rfl⟩
            have ht1s : t1.size ≤ 20 := by rw [ht1, strOf_size, HL.out]; omega
            rw [← ht1] at hconv
            have HBB := Lib.hid (B6.out.trans (HB'.out.mono B6.out.size))
            clear ht1
            rcases (show ¬ j < s.size ∨ (j < s.size ∧ j = 20) by omega) with h1 | ⟨h1, h2⟩
            · have h3 : decide ((j : Int) < (s.size : Int)) = false := decide_eq_false (by omega)
              clear hin
              by_cases hk1 : k = 1
              · have hk2 : ((k : Int) == 1) = true := by rw [hk1]; rfl
                obtain ⟨u, hu⟩ : ∃ u, u = s.size % 3 := ⟨_, rfl⟩
                have hu3 : u < 3 := by omega
                have hu2 : (s.size : Int) % 3 = (u : Int) := by omega
                clear hk1 hu
                go_wp2
                go_roundg (go - 1)
                case rel => exact ⟨k + 1, _, by have := HGO.out.2; have := HGO.out.1; omega, by go_num, rfl, Nat.le_trans (xob_size _ _ t1) (by omega), HBB.out⟩
                case measure => have := HGO.out.1; have := HGO.out.2; omega
              · have hk2 : ((k : Int) == 1) = false := beq_eq_false_iff_ne.2 (by omega)
                go_wp2
                go_roundg (go - 1)
                case rel => exact ⟨k + 1, t1, by have := HGO.out.2; have := HGO.out.1; omega, by go_num, rfl, by omega, HBB.out⟩
                case measure => have := HGO.out.1; have := HGO.out.2; omega
            · have h3 : decide ((j : Int) < (s.size : Int)) = true := decide_eq_true (by omega)
              have h4 : decide ((j : Int) < 20) = false := decide_eq_false (by omega)
              clear hin h2
              by_cases hk1 : k = 1
              · have hk2 : ((k : Int) == 1) = true := by rw [hk1]; rfl
                obtain ⟨u, hu⟩ : ∃ u, u = s.size % 3 := ⟨_, rfl⟩
                have hu3 : u < 3 := by omega
                have hu2 : (s.size : Int) % 3 = (u : Int) := by omega
                clear hk1 hu
                go_wp2
                go_roundg (go - 1)
                case rel => exact ⟨k + 1, _, by have := HGO.out.2; have := HGO.out.1; omega, by go_num, rfl, Nat.le_trans (xob_size _ _ t1) (by omega), HBB.out⟩
                case measure => have := HGO.out.1; have := HGO.out.2; omega
              · have hk2 : ((k : Int) == 1) = false := beq_eq_false_iff_ne.2 (by omega)
                go_wp2
                go_roundg (go - 1)
                case rel => exact ⟨k + 1, t1, by have := HGO.out.2; have := HGO.out.1; omega, by go_num, rfl, by omega, HBB.out⟩
                case measure => have := HGO.out.1; have := HGO.out.2; omega
    · obtain ⟨M, hM⟩ : ∃ M : Nat, M = 65537 := ⟨_, rfl⟩
      have HM := Lib.hid hM
      clear hM
      go_upto_region 23 with (at_make; refine wpList_mk (W0 := w) rfl _ _ 48 rfl w.heap.size 5 1 .u8 Tryd.underlying48 infoB .i64 .i64 M _ _ rfl rfl (by have := HM.out; omega) (by have := HM.out; omega) (by have := HM.out; omega) (by omega) HB.out HB.out.size ?_; intro g w7 h1 hg h2 h3 h4 h5; have H1 := Lib.hid h1; have H3 := Lib.hid h3; clear h1 h3 h4 h5 h2)
      have hst : ∃ xs : List Int, xs.length = M ∧ Own w.heap.size 5 w7 .u8 (.slice (some ⟨g, 0, none⟩) M M) xs := ⟨_, List.length_replicate, H1.out⟩
      have HST := Lib.hid hst
      clear hst
      have hMb : M ≤ 70000 := by have := HM.out; omega
      go_loopg [14] M (fun m i wr => ∃ (k : Nat) (xs : List Int), m + k = M ∧ i = .int .i64 (k : Int) ∧ xs.length = M ∧ Own w.heap.size 5 wr .u8 (.slice (some ⟨g, 0, none⟩) M M) xs ∧ Below w.heap.size w wr)
      case atStart =>
        obtain ⟨xs, h1, h2⟩ := HST.out
        exact ⟨0, xs, rfl, rfl, h1, h2, H3.out⟩
      case round =>
        obtain ⟨j, xs, hj, rfl, hxl, ho, hB'⟩ := hrel
        have HXL := Lib.hid hxl
        have HO := Lib.hid ho
        have HB' := Lib.hid hB'
        by_cases hlt2 : j < M
        · obtain ⟨g1, g2⟩ := ho.cellAt j (by omega)
          clear ho hB' hxl
          go_wp2
          go_roundg (gk - 1)
          case rel => exact ⟨j + 1, _, by omega, by go_num, by rw [List.length_set]; exact HXL.out, HO.out.set j 49, HB'.out.setCell (p := ⟨g, j, none⟩) (show w.heap.size ≤ g from hg) _⟩
          case measure => omega
        · have hconv := conv_bytes (P := Tryd.prog) 48 9 5 Tryd.underlying48 Tryd.underlying5 Tryd.underlying9 ho.si
          obtain ⟨t1, ht1⟩ : ∃ t1, t1 = strOf xs := ⟨_, rfl⟩
          rw [← ht1] at hconv
          have hz : 65536 < t1.size := by rw [ht1, strOf_size, hxl]; have := HM.out; omega
          clear ho hB' hxl ht1
          go_wp2_with (first
            | (go_at_call 17; refine (literalR_long t1 _ hz).mono ?_; rintro e w' ⟨rfl, rfl⟩)
            | (go_at_call 20; refine (isLiteralR_long t1 _ hz).mono ?_; rintro e w8 ⟨rfl, q1⟩; have B8 := Lib.hid (HB'.out.trans (q1.mono HB'.out.size)); clear q1 hconv)
            | (go_at_call 14; refine (awake_calls _ (HN.out.below B8.out HN.out.pos)).mono ?_; rintro e w9 ⟨rfl, q1⟩; have HQ := Lib.hid q1; clear q1))
          go_ret
          exact ⟨rfl, B8.out.trans (HQ.out.mono B8.out.size)⟩
end Go.Proofs.YtmbceiaeffnigaaDoor
