/- radix.powers: the powers of a base that were worked out. -/
import Derived.Test.YtmbceiaeffnigaaGreatDoorK10
import Derived.Maps.OwnOps
import Derived.Maps.AppendAt
namespace Go.Proofs.YtmbceiaeffnigaaGreatDoor
open Go.RowKit Go.Maps
open Go.WideElems (Fit rg pl)
open Go.MapKept Go.ChangeMaps

/-- How the map's elements are read: all alike (what they are is said beside it). -/
def readAny : Value → Option (DataW Unit × List MemPlace) := fun _ => some (.nil, [])
/-- The map: at most n powers of the base. -/
def PowMap (w : World) (m b n : Nat) : Prop := ∃ es clock, w.heap[m]? = some (.map es clock) ∧ Fit Tryz.prog 3 readAny es clock ∧ es.size ≤ n ∧
  ∀ x ∈ es.toList, ∃ j : Nat, x.key = .int .i64 (j : Int) ∧ SI w .u64 x.val (wordsOf (b ^ j))
theorem lawInt : Keyed Tryz.prog 3 := int_keyed Tryz.underlying3
theorem zeroNat (w : World) : (zeroValue 23).run Tryz.prog w = .ok (.slice none 0 0) w := by kernel_rfl
theorem keyInt (k : Nat) (hk : k ≤ 100000) : keyOf Tryz.prog 3 (.int .i64 (k : Int)) = some (.int .i64 (k : Int)) := keyOf_int_mk Tryz.underlying3 (by
  simp only [Lit.wf]
  have := IntWalk.i64_in (k : Int) (by omega)
  simp [this]
  have hmin : IntKind.i64.min = -9223372036854775808 := rfl
  omega)
/-- A row lies in no map's block. -/
theorem SI.notmap {w : World} {k : IntKind} {v : Value} {xs : List Int} {m : Nat} {es : Array MapEntry} {cl : Nat} (h : SI w k v xs) (hm : w.heap[m]? = some (.map es cl)) : xs = [] ∨ v.ownBlock ≠ some m := by
  obtain ⟨A, c, rfl, hc, hcell⟩ := h
  rcases List.eq_nil_or_concat xs with h0 | ⟨L, x, h0⟩
  · exact .inl h0
  · obtain ⟨ad, e, hcl⟩ := hcell 0 (by rw [h0]; simp)
    subst e
    refine .inr (fun e => ?_)
    have e1 : ad.block = m := by injection e
    unfold World.cell? at hcl
    rw [add_block, e1, hm] at hcl
    simp at hcl
theorem PowMap.grown {w w' : World} {m b n : Nat} {row : Option Nat} (h : PowMap w m b n) (hg : w.grownBy w' row) (hne : some m ≠ row) (hr : ∀ k v xs, SI w k v xs → xs = [] ∨ v.ownBlock ≠ row) : PowMap w' m b n := by
  obtain ⟨es, cl, hm, hf, hs, he⟩ := h
  refine ⟨es, cl, (hg.block m (Array.getElem?_eq_some_iff.1 hm).1 hne).trans hm, hf, hs, fun x hx => ?_⟩
  obtain ⟨j, h1, h2⟩ := he x hx
  exact ⟨j, h1, h2.grown hg (hr _ _ _ h2)⟩
theorem PowMap.below {w w' : World} {m b n : Nat} (h : PowMap w m b n) (hb : Below w.heap.size w w') : PowMap w' m b n :=
  h.grown (row := none) ⟨hb.os, hb.tape, hb.output, hb.size, fun i hi _ => hb.block i hi⟩ (by simp) (fun k v xs hs => by
    obtain ⟨A, c, rfl, hc, hcell⟩ := hs
    rcases List.eq_nil_or_concat xs with h0 | ⟨L, x, h0⟩
    · exact .inl h0
    · obtain ⟨ad, e, hcl⟩ := hcell 0 (by rw [h0]; simp)
      subst e
      exact .inr (fun e => by cases e))
theorem PowMap.mono {w : World} {m b n n' : Nat} (h : PowMap w m b n) (hn : n ≤ n') : PowMap w m b n' := by
  obtain ⟨es, cl, hm, hf, hs, he⟩ := h
  exact ⟨es, cl, hm, hf, Nat.le_trans hs hn, he⟩
theorem PowMap.made (w : World) (b : Nat) : PowMap (w.alloc (.map #[] 0)) w.heap.size b 0 :=
  ⟨#[], 0, (MapKept.heap_alloc w _).1, ⟨by simp, stamped_empty 0, by simp⟩, Nat.le_refl _, fun x hx => absurd hx (by simp)⟩
/-- The look-up. -/
theorem PowMap.look {w : World} {m b n : Nat} (h : PowMap w m b n) (k : Nat) (hk : k ≤ 100000) :
    (Instr.lookup 87 (.map (some m)) (.int .i64 (k : Int)) true).run Tryz.prog w = .ok (.tuple #[.slice none 0 0, .bool false]) w ∨
    ∃ v, (Instr.lookup 87 (.map (some m)) (.int .i64 (k : Int)) true).run Tryz.prog w = .ok (.tuple #[v, .bool true]) w ∧ SI w .u64 v (wordsOf (b ^ k)) := by
  obtain ⟨es, cl, hm, hf, hs, he⟩ := h
  rcases fit_look true lawInt Tryz.underlying87 (zeroNat w) hm hf (keyInt k hk) with ⟨h1, _⟩ | ⟨e0, y, h1, h2, h3, _⟩
  · exact .inl h1
  · obtain ⟨j, j1, j2⟩ := he e0 h1
    rw [h2] at j1
    injection j1 with _ j1
    have j3 : k = j := by omega
    subst j3
    exact .inr ⟨e0.val, h3, j2⟩
/-- The store. -/
theorem PowMap.put {w : World} {m b n : Nat} (h : PowMap w m b n) (hn : n ≤ 100000) (k : Nat) (hk : k ≤ 100000) (v : Value) (hv : SI w .u64 v (wordsOf (b ^ k))) :
    ∃ w', (Instr.mapUpdate 87 (.map (some m)) (.int .i64 (k : Int)) v).run Tryz.prog w = .ok () w' ∧ PowMap w' m b (n + 1) ∧ w.grownBy w' (some m) := by
  obtain ⟨es, cl, hm, hf, hs, he⟩ := h
  obtain ⟨es', cl', hrun, hf', hput, _, _, hmem⟩ := fit_store (R' := readAny) lawInt Tryz.underlying87 hm hf (by unfold maxLen; omega) (fun _ _ _ _ hz => hz) (keyInt k hk) (val := v) (yv := (.nil, [])) rfl
  have hgr : w.grownBy (setBlock w m (.map es' cl')) (some m) := ⟨rfl, rfl, rfl, by simp [setBlock], fun i _ hi => heap_setBlock_other hm _ (fun e => hi (by rw [e]))⟩
  refine ⟨_, hrun, ⟨es', cl', heap_setBlock_same hm _, hf', ?_, fun x hx => ?_⟩, hgr⟩
  · have e1 : es'.size = ((es'.toList.map (rg Tryz.prog 3 readAny)).foldr DataW.insert []).length := by rw [length_sorted]; simp
    rw [e1, hput]
    unfold putKey
    rw [length_insert]
    have e2 := List.length_filter_le (notKey (.int .i64 (k : Int))) ((es.toList.map (rg Tryz.prog 3 readAny)).foldr DataW.insert [])
    rw [length_sorted] at e2
    simp at e2
    omega
  · rcases hmem x hx with ⟨h1, _⟩ | ⟨h1, h2⟩
    · obtain ⟨j, j1, j2⟩ := he x h1
      exact ⟨j, j1, j2.grown hgr (j2.notmap hm)⟩
    · refine ⟨k, h1, ?_⟩
      rw [h2]
      exact hv.grown hgr (hv.notmap hm)
/-- What 'of' leaves: the power; the map, with one entry more at most. -/
def RetPow (w : World) (m b n : Nat) (xs : List Int) (e : Ending) (w' : World) : Prop := ∃ v, e = .returned v ∧ SI w' .u64 v xs ∧ PowMap w' m b n ∧ w.grownBy w' (some m)
theorem grown_below {w w' : World} {row : Option Nat} (h : Below w.heap.size w w') : w.grownBy w' row := ⟨h.os, h.tape, h.output, h.size, fun i hi _ => h.block i hi⟩

set_option maxHeartbeats 1000000 in
set_option maxRecDepth 100000 in
theorem ofR_calls (b k m n : Nat) (w : World) (hm : PowMap w m b n) (hn : n ≤ 100000) (hb : 2 ≤ b) (hb2 : b ≤ 36) (hk0 : 1 ≤ k) (hk : k ≤ 300) :
    Calls Tryz.prog 64 #[.agg #[.int .i64 (b : Int), .map (some m)], .int .i64 (k : Int)] w (RetPow w m b (n + 1) (wordsOf (b ^ k))) := by
  have HM := Lib.hid hm
  clear hm
  go_enter Tryz.func64, Tryz.ntmps64
  go_upto_region 1 with (fail)
  obtain ⟨w1, hw1⟩ : ∃ w1, w1 = w.alloc (.cells #[.int .i64 (b : Int), .map (some m)] 89) := ⟨_, rfl⟩
  have B1 : Below w.heap.size w w1 := by rw [hw1]; exact below_new _ _
  have c0 : w1.cell? ⟨w.heap.size, 0, none⟩ = some (.int .i64 (b : Int)) := by rw [hw1]; simp [go_sem]
  have c1 : w1.cell? ⟨w.heap.size, 1, none⟩ = some (.map (some m)) := by rw [hw1]; simp [go_sem]
  rw [← hw1]
  clear hw1
  have HM1 := Lib.hid (HM.out.below B1)
  have HB1 := Lib.hid B1
  clear B1
  rcases HM1.out.look k (by omega) with hl | ⟨v, hl, hv⟩
  · go_upto_region 5 with (first
      | (go_at_call 94; refine HP.out.mono ?_; rintro e w3 ⟨v3, rfl, q1, q2⟩; have G3 := Lib.hid q1; have B3 := Lib.hid q2; clear q1 q2)
      | (go_at_call 37; refine (natFromWord_calls b _ (by omega)).mono ?_; rintro e w2 ⟨v2, rfl, q1, q2⟩; rw [wordsOf_small b (by omega) (by omega)] at q1; have HP := Lib.hid (natPow_calls b k v2 w2 q1 hb (by omega) hk0 hk); have B2 := Lib.hid q2; clear q1 q2))
    have hB3 := bnx2 B2.out B3.out
    have c3 : w3.cell? ⟨w.heap.size, 1, none⟩ = some (.map (some m)) := (hB3.cell (World.block_lt_of_cell? w1 _ c1)).trans c1
    obtain ⟨w4, hrun, hp4, hg4⟩ := (HM1.out.below hB3).put hn k (by omega) v3 G3.out
    have hs4 : SI w4 .u64 v3 (wordsOf (b ^ k)) := by
      obtain ⟨es, cl, hm, _⟩ := HM1.out.below hB3
      exact G3.out.grown hg4 (G3.out.notmap hm)
    have HF := Lib.hid (And.intro hs4 (And.intro hp4 (World.grownBy.trans (grown_below (bnx2 HB1.out hB3)) hg4)))
    clear hs4 hp4 hg4 hB3 c0 c1 hl
    go_wp2
    go_ret
    exact ⟨_, rfl, HF.out⟩
  · have HV := Lib.hid hv
    clear hv
    go_wp2
    go_ret
    exact ⟨_, rfl, HV.out, HM1.out.mono (by omega), grown_below HB1.out⟩
end Go.Proofs.YtmbceiaeffnigaaGreatDoor
