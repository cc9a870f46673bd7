/- The state of the search: the choice, the best so far; how its parts turn. -/
import Derived.Test.YtpbkfpkgbfifaaaKC
import Derived.OneCell
namespace Go.Proofs.Ytpbkfpkgbfifaaa
open Go.RowKit

theorem intTk : IntT Try.prog 22 3 .i64 8 := ⟨Try.underlying22, by kernel_rfl, by decide⟩
theorem lt_blk {w : World} {g : Nat} {o : Obj} (h : w.heap[g]? = some o) : g < w.heap.size := (Array.getElem?_eq_some_iff.1 h).1
def ints (c : List Nat) : List Int := c.map fun i : Nat => (i : Int)
theorem ints_len (c : List Nat) : (ints c).length = c.length := by simp [ints]
theorem ints_app (c : List Nat) (i : Nat) : ints (c ++ [i]) = ints c ++ [(i : Int)] := by simp [ints]
theorem Own.nblk {k : IntKind} {T T' : TypeId} {w : World} {base : Nat} {A : Option Addr} {n c g : Nat} {l : List Int} {cs : Array Value} (h : Own k T w base A n c l) (hg : w.heap[g]? = some (.cells cs T' (0, 0))) (hT : T ≠ T') : ob A ≠ some g := by
  intro e
  rcases h.2.1.2 with ⟨hv, _⟩ | ⟨g', cap, cur, hv, hb, hh, r⟩
  · injection hv with hA; rw [hA] at e; cases e
  · injection hv with hA
    rw [hA] at e
    have : g' = g := by simpa [ob] using e
    subst this
    rw [hg] at hh
    injection hh with hh
    injection hh with _ ht
    exact hT ht.symm
theorem Own.init {k : IntKind} {T : TypeId} {w : World} {base : Nat} {A : Option Addr} {n c : Nat} {l : List Int} {x : Int} (h : Own k T w base A (n + 1) c (l ++ [x])) : Own k T w base A n c l := by
  have hl : l.length = n := by have := h.1; simpa using this
  refine ⟨hl, ⟨by simp [hl], ?_⟩, fun y hy => h.2.2 y (List.mem_append_left _ hy)⟩
  rcases h.2.1.2 with ⟨_, h0⟩ | ⟨g, cap, cur, hv, hb, hh, h1, h2, h3, h4⟩
  · omega
  · injection hv with e1 e2 e3
    subst e1 e3
    refine .inr ⟨g, _, cur, rfl, hb, hh, by omega, h2, h3, ?_⟩
    have := congrArg (List.take (n * 1)) h4
    rw [List.take_take, Nat.min_eq_left (by omega), List.map_append, List.take_append_of_le_length (by simp [hl])] at this
    rw [this, List.take_of_length_le (by simp [hl])]

structure TS (W0 : World) (b0 Bc Bf Bm : Nat) (W : World) (Ac : Option Addr) (cc : Nat) (ch : List Nat) (Af : Option Addr) (nf cf : Nat) (st : List Nat × Int) : Prop where
  ex : Ex (fun i => i = Bc ∨ i = Bf ∨ i = Bm) W0 W
  bc : W.heap[Bc]? = some (.cells #[.slice Ac ch.length cc] 22 (0, 0))
  co : Own .i64 3 W b0 Ac ch.length cc (ints ch)
  bf : W.heap[Bf]? = some (.cells #[.slice Af nf cf] 22 (0, 0))
  fo : Own .i64 3 W b0 Af nf cf (ints st.1)
  ap : apartS Ac Af
  bm : W.heap[Bm]? = some (.cells #[.int .i64 st.2] 3 (0, 0))
section
variable {W0 W W' : World} {b0 Bc Bf Bm : Nat} {Ac Af : Option Addr} {cc nf cf : Nat} {ch : List Nat} {st : List Nat × Int}
theorem TS.cf_ (h : TS W0 b0 Bc Bf Bm W Ac cc ch Af nf cf st) : Bc < W.heap.size ∧ Bf < W.heap.size ∧ Bm < W.heap.size := ⟨lt_blk h.bc, lt_blk h.bf, lt_blk h.bm⟩
/-- what turns above b0, and is neither the choice's row nor the best one's, leaves the state -/
theorem TS.step (h : TS W0 b0 Bc Bf Bm W Ac cc ch Af nf cf st) (h0 : W0.heap.size = b0) (hc : Bc < b0) (hf : Bf < b0) (hm : Bm < b0) {Y : Nat → Prop} (hY : Ex Y W W') (hy : ∀ i, Y i → b0 ≤ i ∧ ob Ac ≠ some i ∧ ob Af ≠ some i) : TS W0 b0 Bc Bf Bm W' Ac cc ch Af nf cf st := by
  have key : ∀ i, i < b0 → ¬ Y i := fun i hi y => by have := (hy i y).1; omega
  have hl := h.cf_
  exact ⟨h.ex.trans hY (fun _ _ x => x) (fun i hi y => absurd (hy i y).1 (by omega)), (hY.block _ hl.1 (key _ hc)).trans h.bc, h.co.ex hY (fun b hb y => (hy b y).2.1 hb), (hY.block _ hl.2.1 (key _ hf)).trans h.bf, h.fo.ex hY (fun b hb y => (hy b y).2.2 hb), h.ap, (hY.block _ hl.2.2 (key _ hm)).trans h.bm⟩
theorem TS.e (h : TS W0 b0 Bc Bf Bm W Ac cc ch Af nf cf st) (hE : E W W') : TS W0 b0 Bc Bf Bm W' Ac cc ch Af nf cf st := by
  have hl := h.cf_
  exact ⟨h.ex.trans (Ex.of_e (X := fun _ => False) hE) (fun _ _ x => x) (fun _ _ y => y.elim), (hE.block hl.1).trans h.bc, h.co.e hE, (hE.block hl.2.1).trans h.bf, h.fo.e hE, h.ap, (hE.block hl.2.2).trans h.bm⟩
/-- choice = append(choice, i) -/
theorem TS.push (h : TS W0 b0 Bc Bf Bm W Ac cc ch Af nf cf st) (h0 : W0.heap.size = b0) (hc : Bc < b0) (hf : Bf < b0) (hm : Bm < b0) (hcm : Bc ≠ Bm) (hcf : Bc ≠ Bf) {w4 : World} {g' c2 i : Nat} (hO : Own .i64 3 w4 b0 (some ⟨g', 0, none⟩) (ch.length + 1) c2 (ints ch ++ [(i : Int)]))
    (hG : W.grownBy w4 (Value.slice Ac ch.length cc).ownBlock) (hor : (Value.slice Ac ch.length cc).ownBlock = some g' ∨ W.heap.size ≤ g') :
    TS W0 b0 Bc Bf Bm (w4.setCell ⟨Bc, 0, none⟩ (.slice (some ⟨g', 0, none⟩) (ch.length + 1) c2)) (some ⟨g', 0, none⟩) c2 (ch ++ [i]) Af nf cf st ∧
    (∀ j, b0 ≤ j → j < W.heap.size → ob Ac ≠ some j → (w4.setCell ⟨Bc, 0, none⟩ (.slice (some ⟨g', 0, none⟩) (ch.length + 1) c2)).heap[j]? = W.heap[j]?) ∧ (ob (some (⟨g', 0, none⟩ : Addr)) = ob Ac ∨ ∀ b, ob (some (⟨g', 0, none⟩ : Addr)) = some b → W.heap.size ≤ b) ∧ W.heap.size ≤ (w4.setCell ⟨Bc, 0, none⟩ (.slice (some ⟨g', 0, none⟩) (ch.length + 1) c2)).heap.size := by
  have hl := h.cf_
  rw [ob_eq] at hG hor
  have hnc : ob Ac ≠ some Bc := h.co.nblk h.bc (by decide)
  have hnm : ob Ac ≠ some Bm := fun e => by have := h.co.ltN _ e; omega
  have hnf : ob Ac ≠ some Bf := fun e => by have := h.co.ltN _ e; omega
  have hX : Ex (fun j => ob Ac = some j) W w4 := ⟨hG.os, hG.tape, hG.output, hG.size, fun j hj hx => hG.block j hj (fun e => hx e.symm)⟩
  have hX2 : Ex (fun j => j = Bc ∨ ob Ac = some j) W (w4.setCell ⟨Bc, 0, none⟩ (.slice (some ⟨g', 0, none⟩) (ch.length + 1) c2)) := (hX.mono (fun j _ x => .inr x)).setCell _ (.inr (.inl rfl)) _
  have hb4 : w4.heap[Bc]? = some (.cells #[.slice Ac ch.length cc] 22 (0, 0)) := (hX.block Bc hl.1 hnc).trans h.bc
  have hgc : g' ≠ Bc := by
    rcases hor with e | e
    · intro e'; subst e'; exact hnc e
    · omega
  have hap : apartS (some ⟨g', 0, none⟩) Af := by
    refine apartS.symm (apart_grow (n := ch.length) (c := cc) h.ap.symm (fun b hb => (h.fo.ltN b hb).2) ?_)
    rw [ob_eq]; exact hor
  refine ⟨⟨?_, ?_, ?_, ?_, ?_, hap, ?_⟩, ?_, ?_, hX2.size⟩
  · refine h.ex.trans hX2 (fun _ _ x => x) (fun j hj x => ?_)
    rcases x with x | x
    · exact .inl x
    · have := h.co.ltN _ x; omega
  · rw [heap_setCell_same _ _ _ _ _ _ hb4, List.length_append]; rfl
  · rw [List.length_append, ints_app]
    exact hO.ex (X := fun j => j = Bc) ((Ex.refl (fun j => j = Bc) w4).setCell ⟨Bc, 0, none⟩ (.inr rfl) _) (fun b hb e => hgc (by simp [ob] at hb; omega))
  · exact (hX2.block _ hl.2.1 (fun x => by rcases x with x | x; exact hcf x.symm; exact hnf x)).trans h.bf
  · exact h.fo.ex hX2 (fun b hb x => by
      rcases x with x | x
      · have := (h.fo.ltN b hb).1; omega
      · exact h.ap b x hb)
  · exact (hX2.block _ hl.2.2 (fun x => by rcases x with x | x; exact hcm x.symm; exact hnm x)).trans h.bm
  · intro j h1 h2 h3
    exact hX2.block j h2 (fun x => by rcases x with x | x; omega; exact h3 x)
  · rcases hor with e | e
    · exact .inl e.symm
    · exact .inr fun b hb => by simp [ob] at hb; omega
/-- choice = choice[:len(choice)-1] -/
theorem TS.pop {i : Nat} (h : TS W0 b0 Bc Bf Bm W Ac cc (ch ++ [i]) Af nf cf st) (hc : Bc < b0) (h0 : W0.heap.size = b0) (hcm : Bc ≠ Bm) (hcf : Bc ≠ Bf) :
    TS W0 b0 Bc Bf Bm (W.setCell ⟨Bc, 0, none⟩ (.slice Ac ch.length cc)) Ac cc ch Af nf cf st := by
  have hl := h.cf_
  have hX : Ex (fun j => j = Bc) W (W.setCell ⟨Bc, 0, none⟩ (.slice Ac ch.length cc)) := (Ex.refl (fun j => j = Bc) W).setCell ⟨Bc, 0, none⟩ (.inr rfl) _
  have hco := h.co
  rw [ints_app, List.length_append] at hco
  refine ⟨h.ex.trans hX (fun _ _ x => x) (fun _ _ x => .inl x), ?_, ?_, ?_, ?_, h.ap, ?_⟩
  · rw [heap_setCell_same _ _ _ _ _ _ h.bc]; rfl
  · exact hco.init.ex hX (fun b hb e => by have := (h.co.ltN b hb).1; omega)
  · exact (hX.block _ hl.2.1 (fun x => hcf x.symm)).trans h.bf
  · exact h.fo.ex hX (fun b hb e => by have := (h.fo.ltN b hb).1; omega)
  · exact (hX.block _ hl.2.2 (fun x => hcm x.symm)).trans h.bm
/-- found, most = clone, value -/
theorem TS.found (h : TS W0 b0 Bc Bf Bm W Ac cc ch Af nf cf st) (hb0 : b0 ≤ W.heap.size) (hf : Bf < b0) (hm : Bm < b0) (hcm : Bc ≠ Bm) (hcf : Bc ≠ Bf) (hfm : Bf ≠ Bm) {w4 : World} {A' : Option Addr} {n' c' : Nat} {v : Int} (hE : E W w4) (hO : Own .i64 3 w4 W.heap.size A' n' c' (ints ch)) :
    TS W0 b0 Bc Bf Bm ((w4.setCell ⟨Bf, 0, none⟩ (.slice A' n' c')).setCell ⟨Bm, 0, none⟩ (.int .i64 v)) Ac cc ch A' n' c' (ch, v) ∧
    Ex (fun i => i = Bf ∨ i = Bm) W ((w4.setCell ⟨Bf, 0, none⟩ (.slice A' n' c')).setCell ⟨Bm, 0, none⟩ (.int .i64 v)) := by
  have hl := h.cf_
  have hX : Ex (fun i => i = Bf ∨ i = Bm) W ((w4.setCell ⟨Bf, 0, none⟩ (.slice A' n' c')).setCell ⟨Bm, 0, none⟩ (.int .i64 v)) := ((Ex.of_e hE).setCell _ (.inr (.inl rfl)) _).setCell _ (.inr (.inr rfl)) _
  have hX4 : Ex (fun i => i = Bf ∨ i = Bm) w4 ((w4.setCell ⟨Bf, 0, none⟩ (.slice A' n' c')).setCell ⟨Bm, 0, none⟩ (.int .i64 v)) := ((Ex.refl _ w4).setCell _ (.inr (.inl rfl)) _).setCell _ (.inr (.inr rfl)) _
  have h4f : w4.heap[Bf]? = some (.cells #[.slice Af nf cf] 22 (0, 0)) := (hE.block hl.2.1).trans h.bf
  have h4m : w4.heap[Bm]? = some (.cells #[.int .i64 st.2] 3 (0, 0)) := (hE.block hl.2.2).trans h.bm
  have h5m : (w4.setCell ⟨Bf, 0, none⟩ (.slice A' n' c')).heap[Bm]? = some (.cells #[.int .i64 st.2] 3 (0, 0)) := by rw [Below.heap_setCell _ _ _ _ (fun e => hfm e.symm)]; exact h4m
  refine ⟨⟨h.ex.trans hX (fun _ _ x => x) (fun _ _ x => .inr x), ?_, ?_, ?_, ?_, ?_, ?_⟩, hX⟩
  · exact (hX.block _ hl.1 (fun x => by rcases x with x | x; exact hcf x; exact hcm x)).trans h.bc
  · exact h.co.ex hX (fun b hb x => by have := (h.co.ltN b hb).1; rcases x with x | x <;> omega)
  · rw [Below.heap_setCell _ _ _ _ hfm, heap_setCell_same _ _ _ _ _ _ h4f]; rfl
  · exact (hO.rebase hb0).ex hX4 (fun b hb x => by have := (hO.ltN b hb).1; rcases x with x | x <;> omega)
  · intro b hb hb'
    have := (h.co.ltN b hb).2
    have := (hO.ltN b hb').1
    omega
  · rw [heap_setCell_same _ _ _ _ _ _ h5m]; rfl
end
end Go.Proofs.Ytpbkfpkgbfifaaa
