/- Frames with exceptions; the search's closures. -/
import Derived.StillTailTactics
import Derived.Test.YtpbkfpkgbfifaaaKB
namespace Go.Proofs.Ytpbkfpkgbfifaaa
open Go.RowKit

/-- w' extends w, but for the blocks X -/
structure Ex (X : Nat → Prop) (w w' : World) : Prop where
  os : w'.os = w.os
  tape : w'.tape = w.tape
  output : w'.output = w.output
  size : w.heap.size ≤ w'.heap.size
  block : ∀ i, i < w.heap.size → ¬ X i → w'.heap[i]? = w.heap[i]?
theorem Ex.of_e {X : Nat → Prop} {w w' : World} (h : E w w') : Ex X w w' := ⟨h.os, h.tape, h.output, h.size, fun _ hi _ => h.block hi⟩
theorem Ex.refl (X : Nat → Prop) (w : World) : Ex X w w := .of_e (E.refl w)
theorem Ex.trans {X Y Z : Nat → Prop} {a b c : World} (h : Ex X a b) (k : Ex Y b c) (hX : ∀ i, i < a.heap.size → X i → Z i) (hY : ∀ i, i < a.heap.size → Y i → Z i) : Ex Z a c :=
  ⟨k.os.trans h.os, k.tape.trans h.tape, k.output.trans h.output, Nat.le_trans h.size k.size, fun i hi hz => (k.block i (Nat.lt_of_lt_of_le hi h.size) (fun y => hz (hY i hi y))).trans (h.block i hi (fun x => hz (hX i hi x)))⟩
theorem Ex.mono {X Z : Nat → Prop} {a b : World} (h : Ex X a b) (hX : ∀ i, i < a.heap.size → X i → Z i) : Ex Z a b :=
  ⟨h.os, h.tape, h.output, h.size, fun i hi hz => h.block i hi (fun x => hz (hX i hi x))⟩
theorem Ex.e {X : Nat → Prop} {a b : World} (h : Ex X a b) (hX : ∀ i, X i → a.heap.size ≤ i) : E a b :=
  ⟨h.os, h.tape, h.output, h.size, fun i hi => h.block i hi (fun x => by have := hX i x; omega)⟩
theorem Ex.drew {X : Nat → Prop} {a b : World} (h : Ex X a b) : Ex X a b.drew := ⟨h.os, h.tape, h.output, h.size, h.block⟩
theorem Ex.setCell {X : Nat → Prop} {a b : World} (h : Ex X a b) (p : Addr) (hp : a.heap.size ≤ p.block ∨ X p.block) (u : Value) : Ex X a (b.setCell p u) := by
  have hk : Below 0 b (b.setCell p u) := (Below.refl 0 b).setCell (Nat.zero_le _) u
  refine ⟨hk.os.trans h.os, hk.tape.trans h.tape, hk.output.trans h.output, Nat.le_trans h.size hk.size, fun i hi hx => ?_⟩
  rw [Below.heap_setCell _ _ _ _ (fun e => ?_)]
  · exact h.block i hi hx
  · rcases hp with hp | hp
    · omega
    · exact hx (e ▸ hp)
theorem Ex.grown {X : Nat → Prop} {a b c : World} {row : Option Nat} (h : Ex X a b) (hg : b.grownBy c row) (hr : ∀ k, row = some k → a.heap.size ≤ k ∨ X k) : Ex X a c :=
  ⟨hg.os.trans h.os, hg.tape.trans h.tape, hg.output.trans h.output, Nat.le_trans h.size hg.size, fun i hi hx => (hg.block i (Nat.lt_of_lt_of_le hi h.size) (fun e => by
    rcases hr i e.symm with hr | hr
    · omega
    · exact hx hr)).trans (h.block i hi hx)⟩
theorem Ex.cell {X : Nat → Prop} {a b : World} (h : Ex X a b) {p : Addr} (hp : p.block < a.heap.size) (hx : ¬ X p.block) : b.cell? p = a.cell? p := World.cell?_of_block (h.block p.block hp hx)
theorem Own.ex {k : IntKind} {T : TypeId} {X : Nat → Prop} {w w' : World} {base : Nat} {A : Option Addr} {n c : Nat} {l : List Int} (h : Own k T w base A n c l) (hX : Ex X w w') (hb : ∀ b, ob A = some b → ¬ X b) : Own k T w' base A n c l := by
  refine ⟨h.1, ⟨h.2.1.1, ?_⟩, h.2.2⟩
  rcases h.2.1.2 with a2 | ⟨g, cap, cur, hv, hbg, hh, r⟩
  · exact .inl a2
  · have hA : A = some ⟨g, 0, none⟩ := by injection hv
    refine .inr ⟨g, cap, cur, hv, hbg, ?_, r⟩
    rw [hX.block g (Array.getElem?_eq_some_iff.1 hh).1 (hb g (by rw [hA]; rfl))]
    exact hh

set_option maxHeartbeats 1000000 in
set_option maxRecDepth 100000 in
theorem choices3_c (A : Option Addr) (n c : Nat) (l : List Bd) (Bl Bi : Nat) (i j : Nat) (w : World) (h : BidsAt w A n c l) (hi : i < n) (hj : j < n)
    (hl : w.cell? ⟨Bl, 0, none⟩ = some (.slice A n c)) (hb : w.cell? ⟨Bi, 0, none⟩ = some (.int .i64 i)) :
    Calls Try.prog 93 #[.int .i64 j, .pointer (some ⟨Bl, 0, none⟩), .pointer (some ⟨Bi, 0, none⟩)] w (RetK w (confl (l.getD i bd0) (l.getD j bd0))) := by
  have hm := h.n63
  obtain ⟨b, o, x, A1, n1, c1, rfl, hbs, hx, _, _, hx1, hx2, hx3, hN1⟩ := h.get hi
  obtain ⟨b', o', y, A2, n2, c2, e, _, hy, _, _, hy1, hy2, hy3, hN2⟩ := h.get hj
  injection e with e
  injection e with e1 e2
  subst e1 e2
  have HC := Lib.hid (conflict_c x y A1 A2 n1 c1 n2 c2 w.drew (hN1.e ((E.refl _).drew)) (hN2.e ((E.refl _).drew)))
  rw [List.getD_eq_getElem?_getD, List.getD_eq_getElem?_getD, hx, hy]
  simp only [Option.getD_some]
  clear hx hy h
  unfold bdV at HC
  generalize confl x y = r at *
  obtain ⟨xb, xp, xl⟩ := x
  obtain ⟨yb, yp, yl⟩ := y
  simp only at *
  go_enter Try.func93, Try.ntmps93
  go_wp2_with fail
  go_still_tail 8, (by kernel_rfl)
  go_wp2_with fail
  refine HC.out.mono ?_
  rintro e w1 ⟨rfl, hE1⟩
  go_wp2_with fail
  go_ret
  exact ⟨rfl, ((E.refl w).drew).trans hE1⟩
end Go.Proofs.Ytpbkfpkgbfifaaa
