/- Words for memory: slices that read as lists of integers, and how they are kept. -/
import Derived.WalkKit
import Derived.WalkSpells
import Derived.Lib.Hide
import Derived.Deep.Draws
import Derived.Deep.QuietTactic
import Derived.BigQuiet
import Derived.StillTail
namespace Go.Proofs.Ytpbkfpkgbfifaaa
open Go.RowKit

/-- a quiet walk in one world is a still one -/
theorem wpStill_of_quiet {P : Program} {ops : Array Oper} {W : World} {R : Act → Prop} : ∀ (l : List Oper) (a : Act), wpQuiet P ops (fun w' => w' = W) R l a → wpStill P ops W R l a
  | [], _, h => h
  | o :: rest, a, h => by
    unfold wpQuiet at h
    unfold wpStill
    split
    · rename_i hw
      rw [if_pos hw] at h
      obtain ⟨v, h1, h2⟩ := h
      have h3 := h1 W rfl
      have h4 := wpStill_of_quiet rest _ h2
      unfold Oper.quietAt at h3
      unfold Oper.still
      generalize (execOp a.eval o).run P W = r at *
      cases r with
      | ok n w' =>
        cases n <;> simp only [Oper.quietUpon] at h3 <;> simp only [Oper.stillUpon]
        case value u => exact ⟨h3.1, by rw [h3.2]; exact h4⟩
        case skip => exact ⟨h3.1, by rw [← h3.2]; exact h4⟩
        case enter f args => exact ⟨h3.1, v, h3.2, h4⟩
      | halt x w' => simp only [Oper.quietUpon] at h3
    · rename_i hw
      rw [if_neg hw] at h
      exact wpStill_of_quiet rest _ h
/-- an operation of a quiet region that is guarded off -/
theorem wpQuiet_off {P : Program} {ops : Array Oper} {C : World → Prop} {R : Act → Prop} {a : Act} {o : Oper} {rest : List Oper} (h : Region.wanted o (yielded ops a.tmps) = false)
    (k : ∀ K : Act → Prop, (∀ a, wpQuiet P ops C R rest a → K a) → K (a.put o.dst undef)) : wpQuiet P ops C R (o :: rest) a := by
  unfold wpQuiet
  rw [h]
  exact k _ (fun _ h => h)
/-- a region that draws: n operations that only read, then a tail in one forced order -/
theorem wp_region_qtail {P : Program} {id : Nat} {R : Exit → Act → World → Prop} {a : Act} {w : World} {l : List Oper} (n : Nat) (hm : P.follows .mixedOrders = true) (hB : Region.lexTailB .any l.toArray n = true)
    (h : wpQuiet P l.toArray (fun w' => w' = w.drew) (fun a' => wpList P l.toArray R (l.drop n) a' w.drew) (l.take n) a) : (Code.region id l.toArray true).wp P R a w :=
  wp_region_still_tail n hm hB (wpStill_of_quiet _ _ h)

theorem ret_int {k : IntKind} {a b : Int} (h : a = b) : Ending.returned (.int k a) = .returned (.int k b) := by rw [h]
theorem ret_bool {a b : Bool} (h : a = b) : Ending.returned (.bool a) = .returned (.bool b) := by rw [h]

theorem ret_two {k k' : IntKind} {a b c d : Int} (h : a = b) (h' : c = d) : Ending.returned (.tuple #[.int k a, .int k' c]) = .returned (.tuple #[.int k b, .int k' d]) := by rw [h, h']

/-- w' is w after some draws. -/
def Q (w w' : World) : Prop := ∃ m, w' = w.drewN m
theorem Q.refl (w : World) : Q w w := ⟨0, rfl⟩
theorem Q.drew {a w : World} (h : Q a w) : Q a w.drew := by obtain ⟨m, rfl⟩ := h; exact ⟨m + 1, rfl⟩
theorem Q.drewN {a w : World} (h : Q a w) (n : Nat) : Q a (w.drewN n) := by obtain ⟨m, rfl⟩ := h; exact ⟨m + n, by rw [World.drewN_drewN]⟩
theorem Q.trans {a b c : World} (h : Q a b) (k : Q b c) : Q a c := by obtain ⟨m, rfl⟩ := k; exact h.drewN m
theorem Q.heap {a w : World} (h : Q a w) : w.heap = a.heap := by obtain ⟨m, rfl⟩ := h; rfl

/-- w' extends w: nothing that was there has turned. -/
def E (w w' : World) : Prop := Below w.heap.size w w'
theorem E.refl (w : World) : E w w := Below.refl _ _
theorem E.le {a b : World} (h : E a b) : a.heap.size ≤ b.heap.size := h.size
theorem E.trans {a b c : World} (h : E a b) (k : E b c) : E a c := Below.trans h (Below.mono k h.size)
theorem E.drewN {a b : World} (h : E a b) (n : Nat) : E a (b.drewN n) := ⟨h.os, h.tape, h.output, h.size, h.block⟩
theorem E.drew {a b : World} (h : E a b) : E a b.drew := ⟨h.os, h.tape, h.output, h.size, h.block⟩
theorem E.alloc {a b : World} (h : E a b) (o : Obj) : E a (b.alloc o) := Below.alloc h h.size o
theorem E.setCell {a b : World} (h : E a b) {p : Addr} (hp : a.heap.size ≤ p.block) (u : Value) : E a (b.setCell p u) := Below.setCell h hp u
theorem E.grown {a w w' : World} {row : Option Nat} (h : E a w) (hg : w.grownBy w' row) (hr : ∀ k, row = some k → a.heap.size ≤ k) : E a w' := Below.grown h hg h.size hr
theorem E.up {a b c : World} (h : E a b) (k : Below a.heap.size b c) : E a c := Below.trans h k
theorem E.of_q {a b : World} (h : Q a b) : E a b := by obtain ⟨m, rfl⟩ := h; exact (E.refl a).drewN m
theorem E.q {a b c : World} (h : E a b) (k : Q b c) : E a c := h.trans (E.of_q k)
theorem E.cell {a b : World} (h : E a b) {p : Addr} (hp : p.block < a.heap.size) : b.cell? p = a.cell? p := Below.cell h hp
theorem E.block {a b : World} (h : E a b) {k : Nat} (hk : k < a.heap.size) : b.heap[k]? = a.heap[k]? := Below.block h k hk

/-- A slice value that reads as a list of cells of kind k. -/
structure Nums (k : IntKind) (w : World) (A : Option Addr) (n c : Nat) (l : List Int) : Prop where
  len : l.length = n
  cap : n ≤ c
  mx : c ≤ maxLen
  wf : ∀ x ∈ l, (Lit.int k x).wf = true
  at_ : 0 < n → ∃ b o, A = some ⟨b, o, none⟩ ∧ b < w.heap.size ∧ ∀ i, (h : i < l.length) → w.cell? ⟨b, o + i, none⟩ = some (.int k l[i])

theorem Nums.e {k : IntKind} {w w' : World} {A : Option Addr} {n c : Nat} {l : List Int} (h : Nums k w A n c l) (he : E w w') : Nums k w' A n c l :=
  ⟨h.len, h.cap, h.mx, h.wf, fun hn => by
    obtain ⟨b, o, h1, h2, h3⟩ := h.at_ hn
    exact ⟨b, o, h1, Nat.lt_of_lt_of_le h2 he.le, fun i hi => (he.cell (p := ⟨b, o + i, none⟩) h2).trans (h3 i hi)⟩⟩
theorem Nums.q {k : IntKind} {w w' : World} {A : Option Addr} {n c : Nat} {l : List Int} (h : Nums k w A n c l) (he : Q w w') : Nums k w' A n c l := h.e (E.of_q he)
theorem Nums.nil (k : IntKind) (w : World) (A : Option Addr) (c : Nat) (hc : c ≤ maxLen) : Nums k w A 0 c [] := ⟨rfl, Nat.zero_le _, hc, by simp, fun h => absurd h (by omega)⟩
theorem Nums.cast {k : IntKind} {w : World} {A : Option Addr} {n c : Nat} {l l' : List Int} (h : Nums k w A n c l) (e : l = l') : Nums k w A n c l' := e ▸ h
theorem wf_i64 {x : Int} (h : (Lit.int .i64 x).wf = true) : -9223372036854775808 ≤ x ∧ x ≤ 9223372036854775807 := by
  have h' : IntKind.i64.min ≤ x ∧ x ≤ 9223372036854775807 := by simpa [Lit.wf] using h
  have e : IntKind.i64.min = -9223372036854775808 := by decide
  rw [e] at h'; exact h'
theorem wf_of_i64 {x : Int} (h1 : -9223372036854775808 ≤ x) (h2 : x ≤ 9223372036854775807) : (Lit.int .i64 x).wf = true := WalkArith.wf_i64 ⟨h1, h2⟩
theorem Nums.n63 {k : IntKind} {w : World} {A : Option Addr} {n c : Nat} {l : List Int} (h : Nums k w A n c l) : n ≤ 9223372036854775807 := by
  have := h.cap; have := h.mx; unfold maxLen at this; omega
theorem Nums.c63 {k : IntKind} {w : World} {A : Option Addr} {n c : Nat} {l : List Int} (h : Nums k w A n c l) : c ≤ 9223372036854775807 := by
  have := h.mx; unfold maxLen at this; omega
/-- the cell of element i -/
theorem Nums.get {k : IntKind} {w : World} {A : Option Addr} {n c : Nat} {l : List Int} (h : Nums k w A n c l) {i : Nat} (hi : i < n) :
    ∃ b o x, A = some ⟨b, o, none⟩ ∧ b < w.heap.size ∧ l[i]? = some x ∧ (Lit.int k x).wf = true ∧ w.cell? ⟨b, o + i, none⟩ = some (.int k x) := by
  obtain ⟨b, o, h1, h2, h3⟩ := h.at_ (by omega)
  have hl : i < l.length := by rw [h.len]; exact hi
  exact ⟨b, o, l[i], h1, h2, List.getElem?_eq_getElem hl, h.wf _ (List.getElem_mem hl), h3 i hl⟩

/-- what the shells of the rows' proofs tell of a slice that came in -/
theorem nums_of_row {k : IntKind} {w : World} {a : Option Addr} {len cap : Nat} {zs : List Int} (h : (a = none ∧ len = 0 ∧ cap = 0 ∧ zs = []) ∨
    ∃ x, a = some x ∧ len ≤ cap ∧ cap ≤ maxLen ∧ zs.length = cap ∧ (∀ i, i < zs.length → w.cell? (x.add i) = some (.int k (zs.getD i 0))) ∧ ∀ n ∈ zs, (Lit.int k n).wf = true) :
    Nums k w a len cap (zs.take len) := by
  rcases h with ⟨rfl, rfl, rfl, rfl⟩ | ⟨x, rfl, hl, hm, hz, hc, hw⟩
  · exact Nums.nil _ _ _ _ (Nat.zero_le _)
  · have htl : (zs.take len).length = len := by rw [List.length_take]; omega
    refine ⟨htl, hl, hm, fun y hy => hw y (List.mem_of_mem_take hy), fun hn => ?_⟩
    obtain ⟨b, off, spot⟩ := x
    have h0 := hc 0 (by omega)
    have hspot : spot = none := by simpa [Addr.add] using World.cell?_spot h0
    subst hspot
    have hb : b < w.heap.size := by simpa [Addr.add] using World.block_lt_of_cell? w _ h0
    refine ⟨b, off, rfl, hb, fun i hi => ?_⟩
    rw [htl] at hi
    have := hc i (by omega)
    have he : (⟨b, off, none⟩ : Addr).add i = ⟨b, off + i, none⟩ := by
      unfold Addr.add
      split
      · rename_i h; subst h; rfl
      · rfl
    rw [he] at this
    rw [this, List.getElem_take]
    simp [List.getD, List.getElem?_eq_getElem (show i < zs.length by omega)]

/-- A row of the call's own, from block base on, that holds the numbers l. -/
def Own (k : IntKind) (T : TypeId) (w : World) (base : Nat) (A : Option Addr) (n c : Nat) (l : List Int) : Prop :=
  l.length = n ∧ w.ownsRow base T 1 (.slice A n c) n (l.map (Value.int k)) ∧ ∀ x ∈ l, (Lit.int k x).wf = true

section
variable {k : IntKind} {T : TypeId} {w w' : World} {base base' : Nat} {A : Option Addr} {n c : Nat} {l : List Int}
theorem Own.nil (k : IntKind) (T : TypeId) (w : World) (base : Nat) : Own k T w base none 0 0 [] := ⟨rfl, World.ownsRow_nil _ _ _ _, by simp⟩
theorem Own.form (h : Own k T w base A n c l) : (A = none ∧ n = 0 ∧ c = 0) ∨ ∃ g, A = some ⟨g, 0, none⟩ ∧ base ≤ g ∧ g < w.heap.size ∧ n ≤ c ∧ c ≤ maxLen := by
  obtain ⟨h1, h2, h3⟩ := h
  rcases h2.2 with ⟨hv, hn⟩ | ⟨g, cap, cur, hv, hb, hh, hnc, hcm, _, _⟩
  · left; injection hv with e1 e2 e3; exact ⟨e1, e2, e3⟩
  · right
    injection hv with e1 e2 e3
    subst e1 e3
    refine ⟨g, rfl, hb, ?_, hnc, hcm⟩
    rcases Nat.lt_or_ge g w.heap.size with hlt | hge
    · exact hlt
    · rw [Array.getElem?_eq_none hge] at hh; cases hh
theorem Own.reads (h : Own k T w base A n c l) : Nums k w A n c l := by
  have hf := h.form
  obtain ⟨h1, h2, h3⟩ := h
  refine ⟨h1, ?_, ?_, h3, fun hn => ?_⟩
  · rcases hf with ⟨_, h, _⟩ | ⟨_, _, _, _, h, _⟩ <;> omega
  · rcases hf with ⟨_, _, h⟩ | ⟨_, _, _, _, _, h⟩ <;> (unfold maxLen at *; omega)
  · rcases hf with ⟨_, h, _⟩ | ⟨g, rfl, _, hlt, hnc, hcm⟩
    · omega
    · refine ⟨g, 0, rfl, hlt, fun i hi => ?_⟩
      have := World.ownsRow.cellAt h2 i (by omega)
      rw [Nat.zero_add, this, List.getElem?_map, List.getElem?_eq_getElem hi]
      rfl
theorem Own.e (h : Own k T w base A n c l) (he : E w w') : Own k T w' base A n c l := by
  obtain ⟨h1, h2, h3⟩ := h
  refine ⟨h1, ?_, h3⟩
  obtain ⟨a1, a2⟩ := h2
  refine ⟨a1, ?_⟩
  rcases a2 with a2 | ⟨g, cap, cur, hv, hb, hh, r⟩
  · exact .inl a2
  · refine .inr ⟨g, cap, cur, hv, hb, ?_, r⟩
    have hlt : g < w.heap.size := by
      rcases Nat.lt_or_ge g w.heap.size with hlt | hge
      · exact hlt
      · rw [Array.getElem?_eq_none hge] at hh; cases hh
    rw [he.block hlt]; exact hh
theorem Own.q (h : Own k T w base A n c l) (he : Q w w') : Own k T w' base A n c l := h.e (E.of_q he)
theorem Own.rebase (h : Own k T w base A n c l) (hb : base' ≤ base) : Own k T w base' A n c l := by
  obtain ⟨h1, ⟨a1, a2⟩, h3⟩ := h
  refine ⟨h1, ⟨a1, ?_⟩, h3⟩
  rcases a2 with a2 | ⟨g, cap, cur, hv, hb', r⟩
  · exact .inl a2
  · exact .inr ⟨g, cap, cur, hv, by omega, r⟩
theorem Own.cast {l' : List Int} (h : Own k T w base A n c l) (e : l = l') : Own k T w base A n c l' := e ▸ h
end
end Go.Proofs.Ytpbkfpkgbfifaaa
