/- A range over a function whose elements are values that the iterator makes (rows): what each is, is said by a property R. nat.rows. -/
import Derived.Test.YtmbceiaeffnigaaGreatDoorK1
namespace Go.Proofs.YtmbceiaeffnigaaGreatDoor
open Go.RowKit Go.Shelf

/-- THE ITERATOR's WORD, of elements that are not known ahead: the k-th one has R. -/
def IterRel {α : Type} (P : Program) (g : FuncId) (lb : Array Value) (encs : α → Array Value) (n : Nat) (R : Nat → α → World → Prop) (n0 : Nat) (D : Nat → Prop) (w0 : World) : Prop :=
  ∀ (l : Nat) (J : Nat → (Nat → Prop) → World → Prop) (W : World) (C0 : Nat → Prop), Below w0.heap.size w0 W →
    (∀ k C W, J k C W → ∀ i, C i → i < W.heap.size) →
    (∀ k C W W', J k C W → Below n0 W W' → (∀ i, C i → W'.heap[i]? = W.heap[i]?) → J k C W') →
    (∀ k (x : α) C W1, k < n → R k x W1 → J k C W1 → YieldAt Fence.wide 0 P l (encs x) W1 fun e W' => e = .returned (.bool true) ∧ Below n0 W1 W' ∧ ∃ C', Acts C C' W1 W' ∧ J (k + 1) C' W') →
    J 0 C0 W → (∀ i, C0 i → ¬ D i) →
    CallsIn Fence.wide 0 P g (#[.func (.yield l) #[] #[]] ++ lb) W fun e W' => (∃ v, e = .returned v) ∧ ∃ C', J n C' W'

theorem wpIn_rangeR {α : Type} {P : Program} {g : Operand} {ps : Array Tmp} {assign body : Code} {Q : Exit → Act → World → Prop} {a : Act} {w : World}
    {gf : Nat} {lb : Array Value} (hg : a.eval g = .func (.func gf) #[] lb) (eg : ∀ args w, (callFunc gf args).run P w = .ok (.enter gf args) w)
    {encs : α → Array Value} {n : Nat} {R : Nat → α → World → Prop} {n0 : Nat} {D : Nat → Prop} (hit : IterRel P gf lb encs n R n0 D w) (hps : ∀ x, (encs x).size = ps.size) (hn0 : n0 ≤ w.heap.size)
    (hR : ∀ (k : Nat) (x : α) (l : Nat) (o o' : Obj) (W : World), R k x W → W.heap[l]? = some o → o.isCells = false → R k x (W.putObj l o'))
    (I : Nat → (Nat → Prop) → World → Prop) (C0 : Nat → Prop) (hIlt : ∀ k C W, I k C W → ∀ i, C i → i < W.heap.size)
    (hIstep : ∀ k C W W', I k C W → Below n0 W W' → (∀ i, C i → W'.heap[i]? = W.heap[i]?) → I k C W')
    (h0 : I 0 C0 w) (hsep : ∀ i, C0 i → ¬ D i) (hD : ∀ i, D i → i < w.heap.size) (a₁ : α → Act)
    (hassign : ∀ (l : Nat) (x : α) (W : World) (K : Act → World → Prop), K (a₁ x) W →
      assign.wpIn (Fence.wide.inRound l) 0 P (Exit.then K (fun _ _ _ => False)) { tmps := (ps.zip (encs x)).foldl (fun t (p, v) => t.setIfInBounds p v) a.tmps, defers := [] } W)
    (hbody : ∀ (l k : Nat) (hk : k < n) (x : α) (C : Nat → Prop) (W : World), R k x W → I k C W → body.wpIn (Fence.wide.inRound l) 0 P (bodyPostL n0 I C k W) (a₁ x) W)
    (hdone : ∀ (Dd : Nat) (C : Nat → Prop) (W : World), w.heap.size ≤ Dd → I n C W → W.heap[Dd]? = some (.deferred (some [])) → Q .normal { a with defers := { target := .collected Dd, args := #[] } :: a.defers } W) :
    (Code.rangeFunc g ps assign body).wpIn Fence.wide 0 P Q a w := by
  refine wpIn_rangeFunc ?_
  intro fn hfn
  obtain ⟨rec, hrec⟩ : ∃ rec : LoopState → Option Code → Loop, rec = fun st pe => { state := st, pending := pe, fn, tmps := a.tmps, params := ps, assign, body, defers := w.heap.size } := ⟨_, rfl⟩
  obtain ⟨W1, hW1⟩ : ∃ W1, (w.alloc (.deferred (some []))).alloc (.loop (rec .ready none)) = W1 := ⟨_, rfl⟩
  have hL1 : W1.heap[w.heap.size + 1]? = some (.loop (rec .ready none)) := by
    rw [← hW1]; have := World.alloc_heap_new (w.alloc (.deferred (some []))) (.loop (rec .ready none)); rwa [World.size_alloc] at this
  have hK1 : W1.heap[w.heap.size]? = some (.deferred (some [])) := by
    rw [← hW1]; exact (Below.heap_alloc _ _ _ (by simp)).trans (World.alloc_heap_new w _)
  have hb1 : Below w.heap.size w W1 := by
    rw [← hW1]; exact ((Below.refl _ w).alloc (Nat.le_refl _) _).alloc (by simp) _
  have hI1 : I 0 C0 W1 := hIstep 0 C0 w W1 h0 (hb1.mono hn0) (fun i hi => hb1.block i (hIlt 0 C0 w h0 i hi))
  refine ⟨w.heap.size + 1, [{ target := .collected w.heap.size, args := #[] }], W1, { target := .fn (.func gf) lb, args := #[.func (.yield (w.heap.size + 1)) #[] #[]] }, W1, gf,
    #[.func (.yield (w.heap.size + 1)) #[] #[]] ++ lb, W1, ?_, ?_, ?_, ?_, fun h => by simp [Fence.wide] at h, ?_⟩
  · rw [← hW1, hrec]; exact run_enterLoop_outer _ _ _ _ _
  · simp only [resolve, hg]
    simp [go_sem]
  · intro f' _; trivial
  · simp [invoke, go_sem, eg]
  · refine (hit (w.heap.size + 1)
      (fun k C W => ∃ C1, (∀ i, C i ↔ C1 i ∨ i = w.heap.size ∨ i = w.heap.size + 1) ∧ ¬ C1 w.heap.size ∧ ¬ C1 (w.heap.size + 1) ∧ I k C1 W ∧ W.heap[w.heap.size + 1]? = some (.loop (rec .ready none)) ∧ W.heap[w.heap.size]? = some (.deferred (some [])))
      W1 (fun i => C0 i ∨ i = w.heap.size ∨ i = w.heap.size + 1) hb1 ?_ ?_ ?_ ?_ ?_).mono ?_
    · rintro k C W ⟨C1, hC, hn1, hn2, hi, hl, hk⟩ i hci
      rcases (hC i).1 hci with h | h | h
      · exact hIlt _ _ _ hi i h
      · subst h; exact (Array.getElem?_eq_some_iff.1 hk).1
      · subst h; exact (Array.getElem?_eq_some_iff.1 hl).1
    · rintro k C W W' ⟨C1, hC, hn1, hn2, hi, hl, hk⟩ hB hs
      exact ⟨C1, hC, hn1, hn2, hIstep _ _ _ _ hi hB (fun i h => hs i ((hC i).2 (.inl h))), (hs _ ((hC _).2 (.inr (.inr rfl)))).trans hl, (hs _ ((hC _).2 (.inr (.inl rfl)))).trans hk⟩
    · rintro k x C W hk hrx ⟨C1, hC, hn1, hn2, hi, hl, hkk⟩
      have hlt : w.heap.size + 1 < W.heap.size := (Array.getElem?_eq_some_iff.1 hl).1
      have hy := run_yield (P := P) (args := encs x) hl (by rw [hrec]; exact hps _)
      rw [hrec] at hy
      refine ⟨fn, _, assign, body, hy, roundIn_of_wpIn hfn (hassign _ x W _ ⟨_, run_beginRound hl (by rw [hrec]), ?_⟩)⟩
      obtain ⟨W2, hW2⟩ : ∃ W2, W.putObj (w.heap.size + 1) (.loop { rec .ready none with state := .busy }) = W2 := ⟨_, rfl⟩
      have hl2 : W2.heap[w.heap.size + 1]? = some (.loop { rec .ready none with state := .busy }) := by rw [← hW2]; exact World.putObj_heap_same hlt
      have hk2 : W2.heap[w.heap.size]? = some (.deferred (some [])) := by rw [← hW2]; exact (World.putObj_heap_other (by omega)).trans hkk
      have hs2 : ∀ i, i ≠ w.heap.size + 1 → W2.heap[i]? = W.heap[i]? := fun i h => by rw [← hW2]; exact World.putObj_heap_other h
      have hz2 : W2.heap.size = W.heap.size := by rw [← hW2]; simp
      have hbl2 : Below n0 W W2 := by rw [← hW2]; exact below_putObj _ (by omega)
      have hi2 : I k C1 W2 := hIstep _ _ _ _ hi hbl2 (fun i h => hs2 i (fun e => hn2 (e ▸ h)))
      have hrx2 : R k x W2 := by rw [← hW2]; exact hR k x _ _ _ W hrx hl rfl
      have hbody2 := hbody (w.heap.size + 1) k hk x C1 W2 hrx2 hi2
      rw [← hW2] at hbody2
      refine wpIn_mono hbody2 ?_
      rintro e a3 W3 hp
      rw [hW2] at hp
      cases e with
      | normal =>
        obtain ⟨hbl3, C1', hact, hi3⟩ := hp
        have hl3 : W3.heap[w.heap.size + 1]? = some (.loop { rec .ready none with state := .busy }) := (hact.same _ (by omega) hn2).trans hl2
        have hk3 : W3.heap[w.heap.size]? = some (.deferred (some [])) := (hact.same _ (by omega) hn1).trans hk2
        have hend := run_endRound (P := P) none hl3
        rw [hrec] at hend
        refine ⟨_, _, hend, rfl, ?_, ?_⟩
        · exact (hbl2.trans hbl3).trans (below_putObj _ (by omega))
        · have hn1' : ¬ C1' w.heap.size := fun h => by rcases hact.foot _ h with h1 | h1; exact hn1 h1; omega
          have hn2' : ¬ C1' (w.heap.size + 1) := fun h => by rcases hact.foot _ h with h1 | h1; exact hn2 h1; omega
          refine ⟨fun i => C1' i ∨ i = w.heap.size ∨ i = w.heap.size + 1, ⟨by simp; have := hact.size; omega, ?_, ?_⟩, C1', fun i => Iff.rfl, hn1', hn2', ?_, ?_, ?_⟩
          · intro i hi' hc
            have hc1 : ¬ C1 i ∧ i ≠ w.heap.size ∧ i ≠ w.heap.size + 1 := ⟨fun h => hc ((hC i).2 (.inl h)), fun h => hc ((hC i).2 (.inr (.inl h))), fun h => hc ((hC i).2 (.inr (.inr h)))⟩
            exact (World.putObj_heap_other hc1.2.2).trans ((hact.same i (by omega) hc1.1).trans (hs2 i hc1.2.2))
          · intro i hci
            rcases hci with h | h | h
            · rcases hact.foot i h with h1 | h1
              · exact .inl ((hC i).2 (.inl h1))
              · exact .inr (by omega)
            · exact .inl ((hC i).2 (.inr (.inl h)))
            · exact .inl ((hC i).2 (.inr (.inr h)))
          · exact hIstep _ _ _ _ hi3 (below_putObj _ (by omega)) (fun i h => World.putObj_heap_other (fun e => hn2' (e ▸ h)))
          · rw [hrec]
            exact World.putObj_heap_same (Array.getElem?_eq_some_iff.1 hl3).1
          · exact (World.putObj_heap_other (by omega)).trans hk3
      | _ => exact hp.elim
    · refine ⟨C0, fun i => Iff.rfl, fun h => ?_, fun h => ?_, hI1, hL1, hK1⟩
      · have := hIlt 0 C0 w h0 _ h; omega
      · have := hIlt 0 C0 w h0 _ h; omega
    · intro i hi hd
      have hd' := hD i hd
      rcases hi with h | h | h
      · exact hsep i h hd
      · omega
      · omega
    · rintro e W2 ⟨⟨v, rfl⟩, C, C1, hC, hn1, hn2, hi, hl, hk⟩
      have hend := run_endLoop (P := P) hl (by rw [hrec]; simp)
      rw [hrec] at hend
      refine ⟨none, _, hend, ?_⟩
      exact hdone _ C1 _ (Nat.le_refl _) (hIstep _ _ _ _ hi (below_putObj _ (by omega)) (fun i h => World.putObj_heap_other (fun e => hn2 (e ▸ h)))) ((World.putObj_heap_other (by omega)).trans hk)

/-- 'append(out, x)' in a fence. -/
theorem wpListIn_app1 {F : Fence} {n : Nat} {P : Program} {w W0 : World} {ops : Array Oper} {rest : List Oper} {o : Oper} {a : Act} {Q : Exit → Act → World → Prop} (hgd : o.guard = none) (s x : Operand) (t : TypeId)
    (ho : o.op = .call { callee := .builtin .append, args := #[s, x], argTypes := #[t, t] })
    (B e bytes : Nat) (k : IntKind) (ht : P.underlying t = some (.slice e)) (hinfo : (P.info? e).map (fun i => (i.zero, i.size, i.bytes)) = some (some (.int k 0), 1, bytes))
    (v : Value) (xs : List Int) (q : Int) (hs : a.eval s = v) (hx : a.eval x = .slice (some ⟨w.heap.size, 0, none⟩) 1 1) (hown : Own B e w k v xs)
    (h63 : xs.length + 1 ≤ 1099511627776) (hbytes : bytes ≤ 16) (hB : Below B W0 w) (hBw : B ≤ w.heap.size)
    (hK : ∀ v' w', Own B e w' k v' (xs ++ [q]) → Below B W0 w' → wpListIn F n P ops Q rest (a.put o.dst v') w') : wpListIn F n P ops Q (o :: rest) a (w.alloc (.cells #[.int k q] e)) := by
  obtain ⟨i, hi, hz, hsz, hby⟩ := info_parts hinfo
  have hbl : ∀ j, v.ownBlock = some j → B ≤ j := fun j hj => (World.ownsRow.lt hown j hj).1
  obtain ⟨hn, hnews⟩ := (SI.one w k q e).news
  refine wpListIn_append_own (w.alloc (.cells #[.int k q] e)) hgd s x t ho B e i (.int k 0) 1 bytes ht hi hz hsz hby (by rfl) (by decide) v xs.length (xs.map (Value.int k)) hs (hown.alloc _) ⟨w.heap.size, 0, none⟩ 1 1 ([q].map (Value.int k)) hx (by simp) hnews (ints_one k [q]) (by simp only [maxLen]; omega)
    (by have : (xs.length + 1) * bytes ≤ 1099511627776 * 16 := Nat.mul_le_mul h63 hbytes
        omega) (by simp; omega) ?_
  intro v' w' r1 r2 _
  exact hK v' w' (Own.snoc r1) ((hB.alloc hBw _).grown r2 (by simp; omega) hbl)

/-- What a row of the iterator is: the product of the number and a word, in a block that is not older than B. -/
def RowAt (B : Nat) (xs ys : List Int) (k : Nat) (x : Nat × Value) (W : World) : Prop := x.1 = k ∧ (∀ g, x.2.ownBlock = some g → B ≤ g) ∧ ∃ row, SI W .u64 x.2 row ∧ U64 row ∧ row.length = xs.length + 1 ∧ val 18446744073709551616 row = val 18446744073709551616 xs * (ys[k]?.getD 0).toNat
theorem RowAt.putObj {B : Nat} {xs ys : List Int} (k : Nat) (x : Nat × Value) (l : Nat) (o o' : Obj) (W : World) (h : RowAt B xs ys k x W) (hl : W.heap[l]? = some o) (ho : o.isCells = false) : RowAt B xs ys k x (W.putObj l o') := by
  obtain ⟨h1, h0, row, h2, h3⟩ := h
  refine ⟨h1, h0, row, ?_, h3⟩
  obtain ⟨A, c, hv, hc, hr⟩ := h2
  refine ⟨A, c, hv, hc, fun j hj => ?_⟩
  obtain ⟨ad, e, hcell⟩ := hr j hj
  refine ⟨ad, e, ?_⟩
  have hne : (ad.add j).block ≠ l := by
    intro e2
    unfold World.cell? at hcell
    rw [e2, hl] at hcell
    cases o with
    | cells => cases ho
    | _ => simp at hcell
  rw [World.cell?_of_block (World.putObj_heap_other hne)]
  exact hcell
theorem RowAt.val {xs ys zs : List Int} {k p cy : Nat} (h : CarryAt xs zs p 0 xs.length cy) (hp : (ys[k]?.getD 0).toNat = p) : U64 (zs ++ [(cy : Int)]) ∧ (zs ++ [(cy : Int)]).length = xs.length + 1 ∧ Go.Proofs.YtmbceiaeffnigaaGreatDoor.val 18446744073709551616 (zs ++ [(cy : Int)]) = Go.Proofs.YtmbceiaeffnigaaGreatDoor.val 18446744073709551616 xs * (ys[k]?.getD 0).toNat := by
  refine ⟨h.u64.app (U64.one (by omega) (by have := h.cyl; omega)), by simp [h.len], ?_⟩
  have h1 := h.vv
  rw [val_snoc, h.len, Int.toNat_natCast, hp, h1, List.take_length, Nat.add_zero]
end Go.Proofs.YtmbceiaeffnigaaGreatDoor
