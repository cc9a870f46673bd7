/- Clone; what a round of best leaves; the iterator; best. -/
import Derived.Test.YtpbkfpkgbfifaaaKF
namespace Go.Proofs.Ytpbkfpkgbfifaaa
open Go.RowKit Go.Shelf
attribute [local go_sem] Oper.semAt_some

set_option maxHeartbeats 400000 in
theorem cloneI_c (A : Option Addr) (n c : Nat) (l : List Int) (w : World) (h : Nums .i64 w A n c l) (hn : n ≤ 1099511627776) :
    Calls Try.prog 79 #[.slice A n c] w (RetOwn .i64 3 w l) := by
  rcases A with _ | ad
  · have h0 : n = 0 := by
      rcases Nat.eq_zero_or_pos n with h0 | h0
      · exact h0
      · obtain ⟨_, _, hh, _⟩ := h.at_ h0; cases hh
    have hl : l = [] := List.eq_nil_of_length_eq_zero (by rw [h.len, h0])
    have HL := Lib.hid hl
    clear h0 hl hn
    have hnil : ∀ W : World, (binOp .eql 22 (.slice none n c) (.slice none 0 0)).run Try.prog W = .ok (.bool true) W := fun W => Lib.run_eql_slice_nil W _ _ _ _ _ _ _ Try.underlying22
    go_enter Try.func79, Try.ntmps79
    go_wp2
    go_ret
    exact RetOwn.mk_ HL.out (Own.nil _ _ _ _) (E.refl _)
  · have hE := (E.refl w).alloc (.cells #[] 3)
    have h' := h.e hE
    have HN := Lib.hid hn
    clear hn
    have hnil : ∀ W : World, (binOp .eql 22 (.slice (some ad) n c) (.slice none 0 0)).run Try.prog W = .ok (.bool false) W := fun W => Lib.run_eql_slice_nil W _ _ _ _ _ _ _ Try.underlying22
    go_enter Try.func79, Try.ntmps79
    go_wp2_with (at_builtin; refine wpList_appN intTk _ rfl _ _ rfl w.heap.size _ _ _ [] rfl (Own.empty w _ _) _ _ _ l rfl h' (by have := HN.out; omega) (by simp) ?_; intro A' c' w1 hO hG hB)
    go_ret
    exact RetOwn.mk_ rfl (by simpa using hO) (hE.up hB)

theorem Ex.put {X : Nat → Prop} {a b : World} (h : Ex X a b) (l : Nat) (o : Obj) (hl : a.heap.size ≤ l ∨ X l) : Ex X a (b.putObj l o) :=
  ⟨h.os, h.tape, h.output, by rw [World.putObj_size]; exact h.size, fun i hi hx => by
    rw [World.putObj_heap_other (fun e => ?_)]
    · exact h.block i hi hx
    · subst e
      rcases hl with hl | hl
      · omega
      · exact hx hl⟩
theorem Ex.fix {X : Nat → Prop} {a b : World} {l : Nat} (h : Ex (fun i => i = l ∨ X i) a b) (hb : b.heap[l]? = a.heap[l]?) : Ex X a b :=
  ⟨h.os, h.tape, h.output, h.size, fun i hi hx => by
    by_cases e : i = l
    · rw [e]; exact hb
    · exact h.block i hi (fun x => x.elim e hx)⟩
section
variable {W0 W T : World} {b0 Bc Bf Bm : Nat} {Ac Af : Option Addr} {cc nf cf : Nat} {ch : List Nat} {st : List Nat × Int}
theorem TS.found2 (h : TS W0 b0 Bc Bf Bm W Ac cc ch Af nf cf st) (hf : Bf < b0) (hm : Bm < b0) (hcm : Bc ≠ Bm) (hcf : Bc ≠ Bf) {A' : Option Addr} {n' c' : Nat} {v : Int} (hX : Ex (fun i => i = Bf ∨ i = Bm) W T) (h1 : T.heap[Bf]? = some (.cells #[.slice A' n' c'] 22 (0, 0))) (h2 : T.heap[Bm]? = some (.cells #[.int .i64 v] 3 (0, 0)))
    (hO : Own .i64 3 T b0 A' n' c' (ints ch)) (hap : apartS Ac A') : TS W0 b0 Bc Bf Bm T Ac cc ch A' n' c' (ch, v) := by
  have hl := h.cf_
  refine ⟨h.ex.trans hX (fun _ _ x => x) (fun _ _ x => .inr x), ?_, ?_, h1, hO, hap, h2⟩
  · exact (hX.block _ hl.1 (fun x => by rcases x with x | x; exact hcf x; exact hcm x)).trans h.bc
  · exact h.co.ex hX (fun b hb x => by have := (h.co.ltN b hb).1; rcases x with x | x <;> omega)
end
/-- what a round leaves -/
def RP (W0 : World) (b0 Bc Bf Bm : Nat) (W : World) (Ac : Option Addr) (cc : Nat) (ch : List Nat) (Af : Option Addr) (s : List Nat × Int) (W' : World) : Prop :=
  (∃ Af' nf' cf', TS W0 b0 Bc Bf Bm W' Ac cc ch Af' nf' cf' s ∧ newer W Af Af') ∧ W.heap.size ≤ W'.heap.size ∧ ∀ i, b0 ≤ i → i < W.heap.size → W'.heap[i]? = W.heap[i]?
section
variable {W0 W : World} {b0 Bc Bf Bm L : Nat} {Ac Af : Option Addr} {cc nf cf : Nat} {ch : List Nat} {st : List Nat × Int} {r r' : Loop}
theorem rp_none (h : TS W0 b0 Bc Bf Bm W Ac cc ch Af nf cf st) (hL : W.heap[L]? = some (.loop r)) : RP W0 b0 Bc Bf Bm W Ac cc ch Af st ((W.putObj L (.loop r')).putObj L (.loop r)) := by
  have hlt := lt_blk hL
  have hb : ∀ i : Nat, ((W.putObj L (.loop r')).putObj L (.loop r)).heap[i]? = W.heap[i]? := fun i => by
    by_cases e : i = L
    · subst e; rw [World.putObj_heap_same (by simpa using hlt)]; exact hL.symm
    · rw [World.putObj_heap_other e, World.putObj_heap_other e]
  exact ⟨⟨Af, nf, cf, h.same rfl rfl rfl (by simp) hb, newer.refl _ _⟩, by simp, fun i _ _ => hb i⟩
theorem rp_found (h : TS W0 b0 Bc Bf Bm W Ac cc ch Af nf cf st) (hb0 : b0 ≤ W.heap.size) (hf : Bf < b0) (hm : Bm < b0) (hcm : Bc ≠ Bm) (hcf : Bc ≠ Bf) (hfm : Bf ≠ Bm) (hLf : L ≠ Bf) (hLm : L ≠ Bm) (hL : W.heap[L]? = some (.loop r)) {V4 : World} {A' : Option Addr} {n' c' : Nat} {v : Int}
    (hE : E (W.putObj L (.loop r')) V4) (hO : Own .i64 3 V4 (W.putObj L (.loop r')).heap.size A' n' c' (ints ch)) :
    (((V4.setCell ⟨Bf, 0, none⟩ (.slice A' n' c')).setCell ⟨Bm, 0, none⟩ (.int .i64 v)).heap[L]? = some (.loop r')) ∧ RP W0 b0 Bc Bf Bm W Ac cc ch Af (ch, v) (((V4.setCell ⟨Bf, 0, none⟩ (.slice A' n' c')).setCell ⟨Bm, 0, none⟩ (.int .i64 v)).putObj L (.loop r)) := by
  have hl := h.cf_
  have hlt := lt_blk hL
  rw [World.putObj_size] at hO
  have hz : W.heap.size ≤ V4.heap.size := by have := hE.le; rw [World.putObj_size] at this; exact this
  have v4L : V4.heap[L]? = some (.loop r') := by rw [hE.block (by simpa using hlt)]; exact World.putObj_heap_same hlt
  have v4o : ∀ i, i < W.heap.size → i ≠ L → V4.heap[i]? = W.heap[i]? := fun i hi e => by rw [hE.block (by simpa using hi)]; exact World.putObj_heap_other e
  have v4f := (v4o Bf hl.2.1 (fun e => hLf e.symm)).trans h.bf
  have v4m := (v4o Bm hl.2.2 (fun e => hLm e.symm)).trans h.bm
  have v5m : (V4.setCell ⟨Bf, 0, none⟩ (.slice A' n' c')).heap[Bm]? = some (.cells #[.int .i64 st.2] 3 (0, 0)) := by rw [Below.heap_setCell _ _ _ _ (fun e => hfm e.symm)]; exact v4m
  have hX4 : Ex (fun i => i = L ∨ (i = Bf ∨ i = Bm)) W V4 := ⟨hE.os, hE.tape, hE.output, hz, fun i hi hx => v4o i hi (fun e => hx (.inl e))⟩
  have hX : Ex (fun i => i = L ∨ (i = Bf ∨ i = Bm)) W (((V4.setCell ⟨Bf, 0, none⟩ (.slice A' n' c')).setCell ⟨Bm, 0, none⟩ (.int .i64 v)).putObj L (.loop r)) :=
    ((hX4.setCell ⟨Bf, 0, none⟩ (.inr (.inr (.inl rfl))) _).setCell ⟨Bm, 0, none⟩ (.inr (.inr (.inr rfl))) _).put L _ (.inr (.inl rfl))
  have hXo : Ex (fun i => i = L ∨ (i = Bf ∨ i = Bm)) V4 (((V4.setCell ⟨Bf, 0, none⟩ (.slice A' n' c')).setCell ⟨Bm, 0, none⟩ (.int .i64 v)).putObj L (.loop r)) :=
    (((Ex.refl (fun i => i = L ∨ (i = Bf ∨ i = Bm)) V4).setCell ⟨Bf, 0, none⟩ (.inr (.inr (.inl rfl))) _).setCell ⟨Bm, 0, none⟩ (.inr (.inr (.inr rfl))) _).put L _ (.inr (.inl rfl))
  have hz5 : ((V4.setCell ⟨Bf, 0, none⟩ (.slice A' n' c')).setCell ⟨Bm, 0, none⟩ (.int .i64 v)).heap.size = V4.heap.size := by simp
  have hfix := hX.fix (by rw [World.putObj_heap_same (by rw [hz5]; omega)]; exact hL.symm)
  have hap : apartS Ac A' := fun b hb hb' => by
    have := (h.co.ltN b hb).2
    have := (hO.ltN b hb').1
    omega
  refine ⟨by rw [Below.heap_setCell _ _ _ _ hLm, Below.heap_setCell _ _ _ _ hLf]; exact v4L, ⟨A', n', c', h.found2 hf hm hcm hcf hfix ?_ ?_ ?_ hap, .inr fun b hb => (hO.ltN b hb).1⟩, hfix.size, fun i h1 h2 => hfix.block i h2 (fun x => by rcases x with x | x <;> omega)⟩
  · rw [World.putObj_heap_other (fun e => hLf e.symm), Below.heap_setCell _ _ _ _ hfm, heap_setCell_same _ _ _ _ _ _ v4f]; rfl
  · rw [World.putObj_heap_other (fun e => hLm e.symm), heap_setCell_same _ _ _ _ _ _ v5m]; rfl
  · exact (hO.rebase hb0).ex hXo (fun b hb x => by have := (hO.ltN b hb).1; rcases x with x | x | x <;> omega)
end
end Go.Proofs.Ytpbkfpkgbfifaaa
