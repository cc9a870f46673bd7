/- Lemmas of the claim, joined: A L LN EX P DD V H MW V2 RD DK DQ RE B C D E F G M N O PQ EV W RF REF X RG LawLists. No condition. -/
import Derived.WalkKit
import Derived.WalkSpells
import Derived.Lib.Hide
import Derived.Deep.Draws
import Derived.Deep.QuietTactic
import Derived.BigQuiet
import Derived.StillTail
import Derived.Laws.CopyOwn
import Derived.Maps.AppendAt
import Derived.StillTailTactics
import Derived.OneCell
import Derived.RangeFuncNested
import Derived.RangeFuncBound
import Derived.RangeFuncCalls
import Derived.RangeFuncLeaves
import Derived.RangeFuncFrom
import Derived.Shelf.Abstract
import Derived.Shelf.RegionOpen
import Derived.OwnWalkIn
import Derived.TacticsInMore
import Derived.LoopNIn
import Derived.LoopIn
import Derived.Outline
import Derived.Deep.DeepCutAuto
import Derived.RegionTactic
import Derived.BigRegion
import Derived.Laws.EntriesVeiled
import Derived.Deep.RegionHeld3
import Derived.Test.YthcicfolabngcaaChecked
import Derived.Below
import Derived.Test.YthcicfolabngcaaProg
/- Words for memory: slices that read as lists of integers, and how they are kept. -/
namespace Go.Proofs.Ythcicfolabngcaa
open Go.RowKit

/-- a quiet walk in one world is a still one -/
theorem wpStill_of_quiet {P : Program} {ops : Array Oper} {W : World} {R : Act → Prop} : ∀ (l : List Oper) (a : Act), wpQuiet P ops (fun w' => w' = W) R l a → wpStill P ops W R l a
  | [], _, h => h
  | o :: rest, a, h => by
    unfold wpQuiet at h
    unfold wpStill
    split
    · rename_i hw
      rw [if_pos hw] at h
      obtain ⟨v, h1, h2⟩ := h
      have h3 := h1 W rfl
      have h4 := wpStill_of_quiet rest _ h2
      unfold Oper.quietAt at h3
      unfold Oper.still
      generalize (execOp a.eval o).run P W = r at *
      cases r with
      | ok n w' =>
        cases n <;> simp only [Oper.quietUpon] at h3 <;> simp only [Oper.stillUpon]
        case value u => exact ⟨h3.1, by rw [h3.2]; exact h4⟩
        case skip => exact ⟨h3.1, by rw [← h3.2]; exact h4⟩
        case enter f args => exact ⟨h3.1, v, h3.2, h4⟩
      | halt x w' => simp only [Oper.quietUpon] at h3
    · rename_i hw
      rw [if_neg hw] at h
      exact wpStill_of_quiet rest _ h
/-- an operation of a quiet region that is guarded off -/
theorem wpQuiet_off {P : Program} {ops : Array Oper} {C : World → Prop} {R : Act → Prop} {a : Act} {o : Oper} {rest : List Oper} (h : Region.wanted o (yielded ops a.tmps) = false)
    (k : ∀ K : Act → Prop, (∀ a, wpQuiet P ops C R rest a → K a) → K (a.put o.dst undef)) : wpQuiet P ops C R (o :: rest) a := by
  unfold wpQuiet
  rw [h]
  exact k _ (fun _ h => h)
/-- a region that draws: n operations that only read, then a tail in one forced order -/
theorem wp_region_qtail {P : Program} {id : Nat} {R : Exit → Act → World → Prop} {a : Act} {w : World} {l : List Oper} (n : Nat) (hm : P.follows .mixedOrders = true) (hB : Region.lexTailB .any l.toArray n = true)
    (h : wpQuiet P l.toArray (fun w' => w' = w.drew) (fun a' => wpList P l.toArray R (l.drop n) a' w.drew) (l.take n) a) : (Code.region id l.toArray true).wp P R a w :=
  wp_region_still_tail n hm hB (wpStill_of_quiet _ _ h)

theorem ret_int {k : IntKind} {a b : Int} (h : a = b) : Ending.returned (.int k a) = .returned (.int k b) := by rw [h]
theorem ret_bool {a b : Bool} (h : a = b) : Ending.returned (.bool a) = .returned (.bool b) := by rw [h]

theorem ret_two {k k' : IntKind} {a b c d : Int} (h : a = b) (h' : c = d) : Ending.returned (.tuple #[.int k a, .int k' c]) = .returned (.tuple #[.int k b, .int k' d]) := by rw [h, h']

/-- w' is w after some draws. -/
def Q (w w' : World) : Prop := ∃ m, w' = w.drewN m
theorem Q.refl (w : World) : Q w w := ⟨0, rfl⟩
theorem Q.drew {a w : World} (h : Q a w) : Q a w.drew := by obtain ⟨m, rfl⟩ := h; exact ⟨m + 1, rfl⟩
theorem Q.drewN {a w : World} (h : Q a w) (n : Nat) : Q a (w.drewN n) := by obtain ⟨m, rfl⟩ := h; exact ⟨m + n, by rw [World.drewN_drewN]⟩
theorem Q.trans {a b c : World} (h : Q a b) (k : Q b c) : Q a c := by obtain ⟨m, rfl⟩ := k; exact h.drewN m
theorem Q.heap {a w : World} (h : Q a w) : w.heap = a.heap := by obtain ⟨m, rfl⟩ := h; rfl

/-- w' extends w: nothing that was there has turned. -/
def E (w w' : World) : Prop := Below w.heap.size w w'
theorem E.refl (w : World) : E w w := Below.refl _ _
theorem E.le {a b : World} (h : E a b) : a.heap.size ≤ b.heap.size := h.size
theorem E.trans {a b c : World} (h : E a b) (k : E b c) : E a c := Below.trans h (Below.mono k h.size)
theorem E.drewN {a b : World} (h : E a b) (n : Nat) : E a (b.drewN n) := ⟨h.os, h.tape, h.output, h.size, h.block⟩
theorem E.drew {a b : World} (h : E a b) : E a b.drew := ⟨h.os, h.tape, h.output, h.size, h.block⟩
theorem E.alloc {a b : World} (h : E a b) (o : Obj) : E a (b.alloc o) := Below.alloc h h.size o
theorem E.setCell {a b : World} (h : E a b) {p : Addr} (hp : a.heap.size ≤ p.block) (u : Value) : E a (b.setCell p u) := Below.setCell h hp u
theorem E.grown {a w w' : World} {row : Option Nat} (h : E a w) (hg : w.grownBy w' row) (hr : ∀ k, row = some k → a.heap.size ≤ k) : E a w' := Below.grown h hg h.size hr
theorem E.up {a b c : World} (h : E a b) (k : Below a.heap.size b c) : E a c := Below.trans h k
theorem E.of_q {a b : World} (h : Q a b) : E a b := by obtain ⟨m, rfl⟩ := h; exact (E.refl a).drewN m
theorem E.q {a b c : World} (h : E a b) (k : Q b c) : E a c := h.trans (E.of_q k)
theorem E.cell {a b : World} (h : E a b) {p : Addr} (hp : p.block < a.heap.size) : b.cell? p = a.cell? p := Below.cell h hp
theorem E.block {a b : World} (h : E a b) {k : Nat} (hk : k < a.heap.size) : b.heap[k]? = a.heap[k]? := Below.block h k hk

/-- A slice value that reads as a list of cells of kind k. -/
structure Nums (k : IntKind) (w : World) (A : Option Addr) (n c : Nat) (l : List Int) : Prop where
  len : l.length = n
  cap : n ≤ c
  mx : c ≤ maxLen
  wf : ∀ x ∈ l, (Lit.int k x).wf = true
  at_ : 0 < n → ∃ b o, A = some ⟨b, o, none⟩ ∧ b < w.heap.size ∧ ∀ i, (h : i < l.length) → w.cell? ⟨b, o + i, none⟩ = some (.int k l[i])

theorem Nums.e {k : IntKind} {w w' : World} {A : Option Addr} {n c : Nat} {l : List Int} (h : Nums k w A n c l) (he : E w w') : Nums k w' A n c l :=
  ⟨h.len, h.cap, h.mx, h.wf, fun hn => by
    obtain ⟨b, o, h1, h2, h3⟩ := h.at_ hn
    exact ⟨b, o, h1, Nat.lt_of_lt_of_le h2 he.le, fun i hi => (he.cell (p := ⟨b, o + i, none⟩) h2).trans (h3 i hi)⟩⟩
theorem Nums.q {k : IntKind} {w w' : World} {A : Option Addr} {n c : Nat} {l : List Int} (h : Nums k w A n c l) (he : Q w w') : Nums k w' A n c l := h.e (E.of_q he)
theorem Nums.nil (k : IntKind) (w : World) (A : Option Addr) (c : Nat) (hc : c ≤ maxLen) : Nums k w A 0 c [] := ⟨rfl, Nat.zero_le _, hc, by simp, fun h => absurd h (by omega)⟩
theorem Nums.cast {k : IntKind} {w : World} {A : Option Addr} {n c : Nat} {l l' : List Int} (h : Nums k w A n c l) (e : l = l') : Nums k w A n c l' := e ▸ h
theorem wf_i64 {x : Int} (h : (Lit.int .i64 x).wf = true) : -9223372036854775808 ≤ x ∧ x ≤ 9223372036854775807 := by
  have h' : IntKind.i64.min ≤ x ∧ x ≤ 9223372036854775807 := by simpa [Lit.wf] using h
  have e : IntKind.i64.min = -9223372036854775808 := by decide
  rw [e] at h'; exact h'
theorem wf_of_i64 {x : Int} (h1 : -9223372036854775808 ≤ x) (h2 : x ≤ 9223372036854775807) : (Lit.int .i64 x).wf = true := WalkArith.wf_i64 ⟨h1, h2⟩
theorem Nums.n63 {k : IntKind} {w : World} {A : Option Addr} {n c : Nat} {l : List Int} (h : Nums k w A n c l) : n ≤ 9223372036854775807 := by
  have := h.cap; have := h.mx; unfold maxLen at this; omega
theorem Nums.c63 {k : IntKind} {w : World} {A : Option Addr} {n c : Nat} {l : List Int} (h : Nums k w A n c l) : c ≤ 9223372036854775807 := by
  have := h.mx; unfold maxLen at this; omega
/-- the cell of element i -/
theorem Nums.get {k : IntKind} {w : World} {A : Option Addr} {n c : Nat} {l : List Int} (h : Nums k w A n c l) {i : Nat} (hi : i < n) :
    ∃ b o x, A = some ⟨b, o, none⟩ ∧ b < w.heap.size ∧ l[i]? = some x ∧ (Lit.int k x).wf = true ∧ w.cell? ⟨b, o + i, none⟩ = some (.int k x) := by
  obtain ⟨b, o, h1, h2, h3⟩ := h.at_ (by omega)
  have hl : i < l.length := by rw [h.len]; exact hi
  exact ⟨b, o, l[i], h1, h2, List.getElem?_eq_getElem hl, h.wf _ (List.getElem_mem hl), h3 i hl⟩

/-- what the shells of the rows' proofs tell of a slice that came in -/
theorem nums_of_row {k : IntKind} {w : World} {a : Option Addr} {len cap : Nat} {zs : List Int} (h : (a = none ∧ len = 0 ∧ cap = 0 ∧ zs = []) ∨
    ∃ x, a = some x ∧ len ≤ cap ∧ cap ≤ maxLen ∧ zs.length = cap ∧ (∀ i, i < zs.length → w.cell? (x.add i) = some (.int k (zs.getD i 0))) ∧ ∀ n ∈ zs, (Lit.int k n).wf = true) :
    Nums k w a len cap (zs.take len) := by
  rcases h with ⟨rfl, rfl, rfl, rfl⟩ | ⟨x, rfl, hl, hm, hz, hc, hw⟩
  · exact Nums.nil _ _ _ _ (Nat.zero_le _)
  · have htl : (zs.take len).length = len := by rw [List.length_take]; omega
    refine ⟨htl, hl, hm, fun y hy => hw y (List.mem_of_mem_take hy), fun hn => ?_⟩
    obtain ⟨b, off, spot⟩ := x
    have h0 := hc 0 (by omega)
    have hspot : spot = none := by simpa [Addr.add] using World.cell?_spot h0
    subst hspot
    have hb : b < w.heap.size := by simpa [Addr.add] using World.block_lt_of_cell? w _ h0
    refine ⟨b, off, rfl, hb, fun i hi => ?_⟩
    rw [htl] at hi
    have := hc i (by omega)
    have he : (⟨b, off, none⟩ : Addr).add i = ⟨b, off + i, none⟩ := by
      unfold Addr.add
      split
      · rename_i h; subst h; rfl
      · rfl
    rw [he] at this
    rw [this, List.getElem_take]
    simp [List.getD, List.getElem?_eq_getElem (show i < zs.length by omega)]

/-- A row of the call's own, from block base on, that holds the numbers l. -/
def Own (k : IntKind) (T : TypeId) (w : World) (base : Nat) (A : Option Addr) (n c : Nat) (l : List Int) : Prop :=
  l.length = n ∧ w.ownsRow base T 1 (.slice A n c) n (l.map (Value.int k)) ∧ ∀ x ∈ l, (Lit.int k x).wf = true

section
variable {k : IntKind} {T : TypeId} {w w' : World} {base base' : Nat} {A : Option Addr} {n c : Nat} {l : List Int}
theorem Own.nil (k : IntKind) (T : TypeId) (w : World) (base : Nat) : Own k T w base none 0 0 [] := ⟨rfl, World.ownsRow_nil _ _ _ _, by simp⟩
theorem Own.form (h : Own k T w base A n c l) : (A = none ∧ n = 0 ∧ c = 0) ∨ ∃ g, A = some ⟨g, 0, none⟩ ∧ base ≤ g ∧ g < w.heap.size ∧ n ≤ c ∧ c ≤ maxLen := by
  obtain ⟨h1, h2, h3⟩ := h
  rcases h2.2 with ⟨hv, hn⟩ | ⟨g, cap, cur, hv, hb, hh, hnc, hcm, _, _⟩
  · left; injection hv with e1 e2 e3; exact ⟨e1, e2, e3⟩
  · right
    injection hv with e1 e2 e3
    subst e1 e3
    refine ⟨g, rfl, hb, ?_, hnc, hcm⟩
    rcases Nat.lt_or_ge g w.heap.size with hlt | hge
    · exact hlt
    · rw [Array.getElem?_eq_none hge] at hh; cases hh
theorem Own.reads (h : Own k T w base A n c l) : Nums k w A n c l := by
  have hf := h.form
  obtain ⟨h1, h2, h3⟩ := h
  refine ⟨h1, ?_, ?_, h3, fun hn => ?_⟩
  · rcases hf with ⟨_, h, _⟩ | ⟨_, _, _, _, h, _⟩ <;> omega
  · rcases hf with ⟨_, _, h⟩ | ⟨_, _, _, _, _, h⟩ <;> (unfold maxLen at *; omega)
  · rcases hf with ⟨_, h, _⟩ | ⟨g, rfl, _, hlt, hnc, hcm⟩
    · omega
    · refine ⟨g, 0, rfl, hlt, fun i hi => ?_⟩
      have := World.ownsRow.cellAt h2 i (by omega)
      rw [Nat.zero_add, this, List.getElem?_map, List.getElem?_eq_getElem hi]
      rfl
theorem Own.e (h : Own k T w base A n c l) (he : E w w') : Own k T w' base A n c l := by
  obtain ⟨h1, h2, h3⟩ := h
  refine ⟨h1, ?_, h3⟩
  obtain ⟨a1, a2⟩ := h2
  refine ⟨a1, ?_⟩
  rcases a2 with a2 | ⟨g, cap, cur, hv, hb, hh, r⟩
  · exact .inl a2
  · refine .inr ⟨g, cap, cur, hv, hb, ?_, r⟩
    have hlt : g < w.heap.size := by
      rcases Nat.lt_or_ge g w.heap.size with hlt | hge
      · exact hlt
      · rw [Array.getElem?_eq_none hge] at hh; cases hh
    rw [he.block hlt]; exact hh
theorem Own.q (h : Own k T w base A n c l) (he : Q w w') : Own k T w' base A n c l := h.e (E.of_q he)
theorem Own.rebase (h : Own k T w base A n c l) (hb : base' ≤ base) : Own k T w base' A n c l := by
  obtain ⟨h1, ⟨a1, a2⟩, h3⟩ := h
  refine ⟨h1, ⟨a1, ?_⟩, h3⟩
  rcases a2 with a2 | ⟨g, cap, cur, hv, hb', r⟩
  · exact .inl a2
  · exact .inr ⟨g, cap, cur, hv, by omega, r⟩
theorem Own.cast {l' : List Int} (h : Own k T w base A n c l) (e : l = l') : Own k T w base A n c l' := e ▸ h
end
end Go.Proofs.Ythcicfolabngcaa
/- Laws for append, make and copy on rows of the call's own, in the words of A. -/
namespace Go.Proofs.Ythcicfolabngcaa
open Go.RowKit

/-- the row of the table of an integer type: zero, one cell, so many bytes -/
structure IntT (P : Program) (S T : TypeId) (k : IntKind) (by8 : Nat) : Prop where
  und : P.underlying S = some (.slice T)
  info : (P.info? T).map (fun i => (i.zero, i.size, i.bytes)) = some (some (.int k 0), 1, by8)
  small : by8 ≤ 8

theorem wf_zero (k : IntKind) : (Lit.int k 0).wf = true := by cases k <;> decide

section
variable {P : Program} {S T : TypeId} {k : IntKind} {by8 : Nat}

theorem own_of_row {w : World} {base : Nat} {v : Value} {n : Nat} {l : List Int} (h : w.ownsRow base T 1 v n (l.map (Value.int k))) (hw : ∀ x ∈ l, (Lit.int k x).wf = true) (hn : 0 < n) :
    ∃ g c, v = .slice (some ⟨g, 0, none⟩) n c ∧ Own k T w base (some ⟨g, 0, none⟩) n c l := by
  have h1 := h.1
  rw [List.length_map, Nat.mul_one] at h1
  rcases h.2 with ⟨_, h0⟩ | ⟨g, cap, cur, rfl, _⟩
  · omega
  · exact ⟨g, cap, rfl, h1, h, hw⟩

theorem ownBlock_le {w : World} {base : Nat} {A : Option Addr} {n c : Nat} {l : List Int} (h : Own k T w base A n c l) : ∀ b, (Value.slice A n c).ownBlock = some b → base ≤ b := by
  intro b hb
  exact (World.ownsRow.lt h.2.1 b hb).1

/-- out = append(out, x), x one number that lies in a block of its own: the source slice is any that reads as [v]. -/
theorem wpList_app1 (it : IntT P S T k by8) (w : World) {ops : Array Oper} {rest : List Oper} {o : Oper} {a : Act} {Q : Exit → Act → World → Prop} (hgd : o.guard = none) (s x : Operand)
    (ho : o.op = .call { callee := .builtin .append, args := #[s, x], argTypes := #[S, S] })
    (base : Nat) (A : Option Addr) (n c : Nat) (l : List Int) (hs : a.eval s = .slice A n c) (hown : Own k T w base A n c l)
    (g : Nat) (v : Int) (hx : a.eval x = .slice (some ⟨g, 0, none⟩) 1 1) (hcell : w.cell? ⟨g, 0, none⟩ = some (.int k v)) (hwf : (Lit.int k v).wf = true)
    (hlen : n ≤ 1099511627776) (hbase : base ≤ w.heap.size)
    (h : ∀ g' c' w', Own k T w' base (some ⟨g', 0, none⟩) (n + 1) c' (l ++ [v]) → w.grownBy w' (Value.slice A n c).ownBlock → Below base w w' → ((Value.slice A n c).ownBlock = some g' ∨ g' = w.heap.size) → wpList P ops Q rest (a.put o.dst (.slice (some ⟨g', 0, none⟩) (n + 1) c')) w') :
    wpList P ops Q (o :: rest) a w := by
  obtain ⟨i, hi, hz0, hz1, hz2⟩ := info_parts it.info
  have hsm := it.small
  refine wpList_plain hgd fun K hK' => ?_
  obtain ⟨v', w', hrun, h2, h3, h4, h5⟩ := run_append_own_at (P := P) w base S o.type T i (.int k 0) 1 by8 it.und hi hz0 hz1 hz2 rfl (by decide) _ n _ hown.2.1 ⟨g, 0, none⟩ 1 1 [.int k v] rfl
    (by intro j u hu
        cases j with
        | zero => simp at hu; subst hu; simpa [Addr.add] using hcell
        | succ j => simp at hu)
    (by intro u hu; simp at hu; subst hu; rfl) (by unfold maxLen; omega)
    (by have : (n + 1) * by8 ≤ (n + 1) * 8 := Nat.mul_le_mul_left _ hsm
        omega) hbase
  unfold Oper.wp execOp
  simp only [ho, resolve, invoke, builtin, Sem.run_bind, Sem.run_pure, Result.andThen_ok, List.map_toArray, List.map_cons, List.map_nil, hs, hx, hrun]
  have hm : l.map (Value.int k) ++ [.int k v] = (l ++ [v]).map (Value.int k) := by simp
  rw [hm] at h2
  obtain ⟨g', c', rfl, hO⟩ := own_of_row h2 (by intro y hy; rcases List.mem_append.1 hy with hy | hy; exact hown.2.2 y hy; simp at hy; subst hy; exact hwf) (by omega)
  refine hK' _ _ (h g' c' w' hO h3 ((Below.refl base w).grown h3 hbase (ownBlock_le hown)) ?_)
  rcases h5 with h5 | h5
  · left; rw [← h5]; rfl
  · right; simpa [Value.ownBlock] using h5

theorem cell_new (w : World) (x : Value) (t : TypeId) : (w.alloc (.cells #[x] t)).cell? ⟨w.heap.size, 0, none⟩ = some x := by
  exact (cell_one_new w x t 0 x rfl)

theorem grown_of_alloc {w w' : World} {o : Obj} {row : Option Nat} (h : (w.alloc o).grownBy w' row) : w.grownBy w' row :=
  ⟨h.os, h.tape, h.output, by have := h.size; simp at this; omega, fun b hb hne => (h.block b (by simp; omega) hne).trans (Below.heap_alloc w o b hb)⟩

/-- out = append(out, v): the source has just been built in a new block -/
theorem wpList_app1n (it : IntT P S T k by8) (w : World) {ops : Array Oper} {rest : List Oper} {o : Oper} {a : Act} {Q : Exit → Act → World → Prop} (hgd : o.guard = none) (s x : Operand)
    (ho : o.op = .call { callee := .builtin .append, args := #[s, x], argTypes := #[S, S] })
    (base : Nat) (A : Option Addr) (n c : Nat) (l : List Int) (hs : a.eval s = .slice A n c) (hown : Own k T w base A n c l)
    (v : Int) (hx : a.eval x = .slice (some ⟨w.heap.size, 0, none⟩) 1 1) (hwf : (Lit.int k v).wf = true)
    (hlen : n ≤ 1099511627776) (hbase : base ≤ w.heap.size)
    (h : ∀ g' c' w', Own k T w' base (some ⟨g', 0, none⟩) (n + 1) c' (l ++ [v]) → w.grownBy w' (Value.slice A n c).ownBlock → Below base w w' → ((Value.slice A n c).ownBlock = some g' ∨ w.heap.size ≤ g') → wpList P ops Q rest (a.put o.dst (.slice (some ⟨g', 0, none⟩) (n + 1) c')) w') :
    wpList P ops Q (o :: rest) a (w.alloc (.cells #[.int k v] T)) := by
  refine wpList_app1 it (w.alloc (.cells #[.int k v] T)) hgd s x ho base A n c l hs (hown.e ((E.refl w).alloc _)) w.heap.size v hx (cell_new _ _ _) hwf hlen (by simp; omega) ?_
  intro g' c' w' hO hG hB hor
  have hG' := grown_of_alloc hG
  refine h g' c' w' hO hG' ((Below.refl base w).grown hG' hbase (ownBlock_le hown)) ?_
  rcases hor with h | h
  · exact .inl h
  · right; rw [h]; simp

/-- make([]T, n): n zeros of the call's own, in the new block -/
theorem wpList_mk (it : IntT P S T k by8) (w : World) {ops : Array Oper} {rest : List Oper} {o : Oper} {a : Act} {Q : Exit → Act → World → Prop} (hgd : o.guard = none) (x y : Operand)
    (ho : o.op = Op.makeSlice S x y) (kl kc : IntKind) (L C : Int) (n : Nat) (hl : a.eval x = .int kl L) (hc : a.eval y = .int kc C) (hL : L = (n : Int)) (hC : C = (n : Int)) (hn : n ≤ 17592186044416)
    (h : ∀ w', Own k T w' w.heap.size (some ⟨w.heap.size, 0, none⟩) n n (List.replicate n 0) → E w w' → w'.heap.size = w.heap.size + 1 → wpList P ops Q rest (a.put o.dst (.slice (some ⟨w.heap.size, 0, none⟩) n n)) w') :
    wpList P ops Q (o :: rest) a w := by
  obtain ⟨i, hi, hz0, hz1, hz2⟩ := info_parts it.info
  have hsm := it.small
  have hb : i.bytes * n ≤ 281474976710656 := by
    rw [hz2]
    have : by8 * n ≤ 8 * n := Nat.mul_le_mul_right _ hsm
    omega
  refine wpList_plain hgd fun K hK' => ?_
  have hbI : (i.bytes : Int) * (n : Int) ≤ 281474976710656 := by
    have h : ((i.bytes * n : Nat) : Int) ≤ 281474976710656 := by omega
    rwa [Int.natCast_mul] at h
  have hr := run_make (P := P) w S T i (.int k 0) it.und hi hz0 kl kc n n (by omega) (by omega) hbI (by omega)
  simp only [Int.toNat_natCast] at hr
  subst hL
  subst hC
  unfold Oper.wp
  simp [execOp, ho, hl, hc, hr, Result.andThen]
  refine hK' _ _ (h _ ⟨by simp, ⟨by simp, .inr ⟨w.heap.size, n, _, rfl, Nat.le_refl _, heap_alloc_new w _, Nat.le_refl _, by unfold maxLen; omega, by rw [size_madeCells, hz1], ?_⟩⟩, ?_⟩ ((E.refl w).alloc _) (by simp))
  · rw [hz1, Nat.mul_one]
    show (madeCells #[Value.int k 0] n).toList.take n = _
    rw [toList_madeCells_one]
    simp
  · intro y hy
    rw [List.eq_of_mem_replicate hy]
    exact wf_zero k

/-- copy(dst, src): dst a row of the call's own, as long as src -/
theorem wpList_cp (it : IntT P S T k by8) (w : World) {ops : Array Oper} {rest : List Oper} {o : Oper} {a : Act} {Q : Exit → Act → World → Prop} (hgd : o.guard = none) (d s : Operand)
    (ho : o.op = .call { callee := .builtin .copy, args := #[d, s], argTypes := #[S, S] }) (base g n c' : Nat) (A : Option Addr) (c : Nat) (cur l : List Int)
    (hd : a.eval d = .slice (some ⟨g, 0, none⟩) n c') (hs : a.eval s = .slice A n c) (hown : Own k T w base (some ⟨g, 0, none⟩) n c' cur) (hc : c' = n) (hr : Nums k w A n c l)
    (h : ∀ w', Own k T w' base (some ⟨g, 0, none⟩) n c' l → Below base w w' → wpList P ops Q rest (a.put o.dst (goInt n)) w') : wpList P ops Q (o :: rest) a w := by
  subst hc
  obtain ⟨i, hi, hz0, hz1, hz2⟩ := info_parts it.info
  obtain ⟨h1, ⟨a1, a2⟩, h3⟩ := hown
  rcases a2 with ⟨hv, _⟩ | ⟨g', cap, cu, hv, hb, hh, hnc, hcm, hsz, htk⟩
  · injection hv with e1; cases e1
  · injection hv with e1 e2 e3
    injection e1 with e1
    injection e1 with e1
    subst e1 e3
    have hcl : (l.map (Value.int k)).length = c' := by rw [List.length_map, hr.len]
    have key : (splice cu.toList 0 (l.map (Value.int k))) = l.map (Value.int k) := by
      unfold splice
      rw [List.take_zero, List.nil_append, Nat.zero_add, hcl, List.drop_eq_nil_of_le (by rw [Array.length_toList, hsz]; omega), List.append_nil]
    refine wpList_copy_splice hgd d s S S ho T it.und (by rw [hi]; simp [hz1]) _ _ _ _ _ _ hd hs g 0 cu.toList T (by simpa using hh) (l.map (Value.int k)) (by rw [hcl]; exact (Nat.min_self _).symm) ?_ (by rw [hcl]; simp [hsz]) ?_ base w (Below.refl _ _) hb ?_
    · intro hpos
      rw [hcl] at hpos
      obtain ⟨b, off, rfl, _, hce⟩ := hr.at_ hpos
      refine ⟨rfl, _, rfl, fun j v hj => ?_⟩
      rw [List.getElem?_map] at hj
      obtain ⟨x, hx, rfl⟩ := Option.map_eq_some_iff.1 hj
      obtain ⟨hj', rfl⟩ := List.getElem?_eq_some_iff.1 hx
      have := hce j hj'
      rw [← this]
      unfold Addr.add
      split
      · rename_i h0; subst h0; rfl
      · rfl
    · exact ints_oneCell k l
    · intro w' HG hB
      rw [hcl]
      refine h w' ⟨hr.len, ⟨by rw [hcl, Nat.mul_one], .inr ⟨g, c', _, rfl, hb, HG.out, Nat.le_refl _, hcm, ?_, ?_⟩⟩, hr.wf⟩ hB
      · rw [key]; simp [hr.len]
      · rw [key]; simp only [Nat.mul_one]; rw [List.take_of_length_le (by rw [hcl]; omega)]

/-- a store into a row of the call's own -/
theorem Own.set {w : World} {base : Nat} {g n c : Nat} {l : List Int} (h : Own k T w base (some ⟨g, 0, none⟩) n c l) (j : Nat) (v : Int) (hw : (Lit.int k v).wf = true) :
    Own k T (w.setCell ⟨g, j, none⟩ (.int k v)) base (some ⟨g, 0, none⟩) n c (l.set j v) := by
  obtain ⟨h1, h2, h3⟩ := h
  refine ⟨by simpa using h1, ?_, ?_⟩
  · have := (World.ownsRow.stored h2 j (.int k v)).1
    rwa [← List.map_set] at this
  · intro y hy
    rcases List.mem_or_eq_of_mem_set hy with h | h
    · exact h3 y h
    · subst h; exact hw
theorem Own.get {w : World} {base : Nat} {A : Option Addr} {n c : Nat} {l : List Int} (h : Own k T w base A n c l) {i : Nat} (hi : i < n) :
    ∃ g x, A = some ⟨g, 0, none⟩ ∧ base ≤ g ∧ g < w.heap.size ∧ l[i]? = some x ∧ (Lit.int k x).wf = true ∧ w.cell? ⟨g, i, none⟩ = some (.int k x) ∧ w.frozen? ⟨g, i, none⟩ = false := by
  rcases h.form with ⟨_, h0, _⟩ | ⟨g, rfl, hb, hlt, _, _⟩
  · omega
  · have hl : i < l.length := by rw [h.1]; exact hi
    refine ⟨g, l[i], rfl, hb, hlt, List.getElem?_eq_getElem hl, h.2.2 _ (List.getElem_mem hl), ?_, World.ownsRow.frozenAt h.2.1 i⟩
    rw [World.ownsRow.cellAt h.2.1 i (by omega), List.getElem?_map, List.getElem?_eq_getElem hl]; rfl

theorem Own.getg {w : World} {base g n c : Nat} {l : List Int} (h : Own k T w base (some ⟨g, 0, none⟩) n c l) {i : Nat} (hi : i < n) :
    ∃ x, base ≤ g ∧ g < w.heap.size ∧ l[i]? = some x ∧ (Lit.int k x).wf = true ∧ w.cell? ⟨g, i, none⟩ = some (.int k x) ∧ w.frozen? ⟨g, i, none⟩ = false := by
  obtain ⟨g', x, e, r⟩ := h.get hi
  injection e with e
  injection e with e
  subst e
  exact ⟨x, r⟩

/-- what is handed back: a slice of the call's own with the numbers l; nothing that was there has turned -/
def RetOwn (k : IntKind) (T : TypeId) (w : World) (l : List Int) (e : Ending) (w' : World) : Prop :=
  ∃ A n c, e = .returned (.slice A n c) ∧ Own k T w' w.heap.size A n c l ∧ E w w'
def RetOwnErr (k : IntKind) (T : TypeId) (w : World) (r : List Int × Int) (e : Ending) (w' : World) : Prop :=
  ∃ A n c, e = .returned (.tuple #[.slice A n c, .int .i64 r.2]) ∧ Own k T w' w.heap.size A n c r.1 ∧ E w w'
theorem RetOwnErr.cast {w w' : World} {r r' : List Int × Int} {e : Ending} (h : RetOwnErr k T w r e w') (hr : r = r') : RetOwnErr k T w r' e w' := hr ▸ h
theorem RetOwnErr.mk_ {w w' : World} {r : List Int × Int} {A : Option Addr} {n c : Nat} {l : List Int} {e : Int} (hr : r = (l, e)) (hO : Own k T w' w.heap.size A n c l) (hE : E w w') :
    RetOwnErr k T w r (.returned (.tuple #[.slice A n c, .int .i64 e])) w' := ⟨A, n, c, by rw [hr], by rw [hr]; exact hO, hE⟩
theorem RetOwn.mk_ {w w' : World} {r : List Int} {A : Option Addr} {n c : Nat} {l : List Int} (hr : r = l) (hO : Own k T w' w.heap.size A n c l) (hE : E w w') :
    RetOwn k T w r (.returned (.slice A n c)) w' := ⟨A, n, c, rfl, by rw [hr]; exact hO, hE⟩
end
end Go.Proofs.Ythcicfolabngcaa
/- append of a whole slice to a row of the call's own. -/
namespace Go.Proofs.Ythcicfolabngcaa
open Go.RowKit

section
variable {P : Program} {S T : TypeId} {k : IntKind} {by8 : Nat}
theorem own_of_row' {w : World} {base : Nat} {v : Value} {n : Nat} {l : List Int} (h : w.ownsRow base T 1 v n (l.map (Value.int k))) (hw : ∀ x ∈ l, (Lit.int k x).wf = true) :
    ∃ A c, v = .slice A n c ∧ Own k T w base A n c l := by
  have h1 := h.1
  rw [List.length_map, Nat.mul_one] at h1
  have h' := h
  rcases h.2 with ⟨rfl, rfl⟩ | ⟨g, cap, cur, rfl, _⟩
  · exact ⟨none, 0, rfl, h1, h', hw⟩
  · exact ⟨_, cap, rfl, h1, h', hw⟩
theorem add_plain (b o j : Nat) : (⟨b, o, none⟩ : Addr).add j = ⟨b, o + j, none⟩ := by
  unfold Addr.add
  split
  · rename_i h0; subst h0; rfl
  · rfl
/-- append(out, src...): src any slice that reads as l2 -/
theorem run_appN (it : IntT P S T k by8) (w : World) (ty : TypeId) (base : Nat) (A : Option Addr) (n c : Nat) (l : List Int) (hown : Own k T w base A n c l)
    (A2 : Option Addr) (m c2 : Nat) (l2 : List Int) (hr : Nums k w A2 m c2 l2) (hlen : n + m ≤ 1099511627776) (hbase : base ≤ w.heap.size) :
    ∃ A' c' w', (Builtin.append_ #[S, S] ty #[.slice A n c, .slice A2 m c2]).run P w = .ok (.slice A' (n + m) c') w' ∧ Own k T w' base A' (n + m) c' (l ++ l2) ∧ w.grownBy w' (Value.slice A n c).ownBlock ∧
      ((Value.slice A' (n + m) c').ownBlock = (Value.slice A n c).ownBlock ∨ (Value.slice A' (n + m) c').ownBlock = some w.heap.size) := by
  obtain ⟨i, hi, hz0, hz1, hz2⟩ := info_parts it.info
  have hsm := it.small
  rcases A2 with _ | ad
  · have hm : m = 0 := by
      rcases Nat.eq_zero_or_pos m with h0 | h0
      · exact h0
      · obtain ⟨_, _, h, _⟩ := hr.at_ h0; cases h
    subst hm
    have hn : l2 = [] := List.eq_nil_of_length_eq_zero hr.len
    subst hn
    refine ⟨A, c, w, ?_, by simpa using hown, World.grownBy.refl w _, .inl rfl⟩
    rcases hown.form with ⟨rfl, rfl, rfl⟩ | ⟨g, rfl, _, _, hnc, _⟩
    · simp [Builtin.append_, run_underlying it.und, sizeOf, typeInfo, hi, Builtin.lenOf, Builtin.firstCells]
    · simp [Builtin.append_, run_underlying it.und, sizeOf, typeInfo, hi, Builtin.lenOf, Builtin.firstCells, hnc, storeCells]
  · have hcells : ∀ j u, (l2.map (Value.int k))[j]? = some u → w.cell? (ad.add j) = some u := by
      intro j u hu
      rw [List.getElem?_map] at hu
      obtain ⟨x, hx, rfl⟩ := Option.map_eq_some_iff.1 hu
      obtain ⟨hj', rfl⟩ := List.getElem?_eq_some_iff.1 hx
      obtain ⟨b, o, hh, _, hc⟩ := hr.at_ (by have := hr.len; omega)
      injection hh with hh
      subst hh
      rw [add_plain]
      exact hc j hj'
    obtain ⟨v', w', hrun, h2, h3, _, h5⟩ := run_append_own_at (P := P) w base S ty T i (.int k 0) 1 by8 it.und hi hz0 hz1 hz2 rfl (by decide) _ n _ hown.2.1 ad m c2 (l2.map (Value.int k)) (by rw [List.length_map, hr.len, Nat.mul_one]) hcells (ints_oneCell k l2) (by unfold maxLen; omega)
      (by have : (n + m) * by8 ≤ (n + m) * 8 := Nat.mul_le_mul_left _ hsm
          omega) hbase
    rw [← List.map_append] at h2
    obtain ⟨A', c', rfl, hO⟩ := own_of_row' h2 (by intro y hy; rcases List.mem_append.1 hy with hy | hy; exact hown.2.2 y hy; exact hr.wf y hy)
    exact ⟨A', c', w', hrun, hO, h3, h5⟩
theorem wpList_appN (it : IntT P S T k by8) (w : World) {ops : Array Oper} {rest : List Oper} {o : Oper} {a : Act} {Q : Exit → Act → World → Prop} (hgd : o.guard = none) (s x : Operand)
    (ho : o.op = .call { callee := .builtin .append, args := #[s, x], argTypes := #[S, S] })
    (base : Nat) (A : Option Addr) (n c : Nat) (l : List Int) (hs : a.eval s = .slice A n c) (hown : Own k T w base A n c l)
    (A2 : Option Addr) (m c2 : Nat) (l2 : List Int) (hx : a.eval x = .slice A2 m c2) (hr : Nums k w A2 m c2 l2) (hlen : n + m ≤ 1099511627776) (hbase : base ≤ w.heap.size)
    (h : ∀ A' c' w', Own k T w' base A' (n + m) c' (l ++ l2) → w.grownBy w' (Value.slice A n c).ownBlock → Below base w w' → wpList P ops Q rest (a.put o.dst (.slice A' (n + m) c')) w') :
    wpList P ops Q (o :: rest) a w := by
  obtain ⟨A', c', w', hrun, hO, h3, h5⟩ := run_appN it w o.type base A n c l hown A2 m c2 l2 hr hlen hbase
  refine wpList_plain hgd fun K hK' => ?_
  unfold Oper.wp execOp
  simp only [ho, resolve, invoke, builtin, Sem.run_bind, Sem.run_pure, Result.andThen_ok, List.map_toArray, List.map_cons, List.map_nil, hs, hx, hrun]
  exact hK' _ _ (h A' c' w' hO h3 ((Below.refl base w).grown h3 hbase (ownBlock_le hown)))
/-- append of one number, as a step of a region that draws; W any world, the source lies at block g -/
theorem step_app1 (it : IntT P S T k by8) {W : World} {ops : Array Oper} {o : Oper} {a : Act} {K : Act → World → Prop} {Q : Exit → Act → World → Prop} {R : Prop} (hgd : o.guard = none) (s x : Operand)
    (ho : o.op = .call { callee := .builtin .append, args := #[s, x], argTypes := #[S, S] })
    (base : Nat) (A : Option Addr) (n c : Nat) (l : List Int) (hs : a.eval s = .slice A n c) (hown : Own k T W base A n c l)
    (g : Nat) (v : Int) (hx : a.eval x = .slice (some ⟨g, 0, none⟩) 1 1) (hcell : W.cell? ⟨g, 0, none⟩ = some (.int k v)) (hwf : (Lit.int k v).wf = true)
    (hlen : n + 1 ≤ 1099511627776) (hbase : base ≤ W.heap.size)
    (h : ∀ g' c' w', Own k T w' base (some ⟨g', 0, none⟩) (n + 1) c' (l ++ [v]) → W.grownBy w' (Value.slice A n c).ownBlock → Below base W w' → K (a.put o.dst (.slice (some ⟨g', 0, none⟩) (n + 1) c')) w') :
    if Region.wanted o (yielded ops a.tmps) = true then Oper.wp P o a W K Q else R := by
  have hw : Region.wanted o (yielded ops a.tmps) = true := by simp [Region.wanted, hgd]
  rw [if_pos hw]
  have hN : Nums k W (some ⟨g, 0, none⟩) 1 1 [v] := ⟨rfl, Nat.le_refl _, by unfold maxLen; omega, by intro y hy; simp at hy; subst hy; exact hwf, fun _ => ⟨g, 0, rfl, World.block_lt_of_cell? W _ hcell, fun i hi => by
    have : i = 0 := by simpa using hi
    subst this; exact hcell⟩⟩
  obtain ⟨A', c', w', hrun, hO, h3, h5⟩ := run_appN it W o.type base A n c l hown _ 1 1 [v] hN hlen hbase
  unfold Oper.wp execOp
  simp only [ho, resolve, invoke, builtin, Sem.run_bind, Sem.run_pure, Result.andThen_ok, List.map_toArray, List.map_cons, List.map_nil, hs, hx, hrun]
  rcases hO.form with ⟨_, h0, _⟩ | ⟨g', rfl, _⟩
  · omega
  · exact h g' c' w' hO h3 ((Below.refl base W).grown h3 hbase (ownBlock_le hown))
theorem Own.empty (w : World) (k : IntKind) (T : TypeId) : Own k T (w.alloc (.cells #[] T)) w.heap.size (some ⟨w.heap.size, 0, none⟩) 0 0 [] :=
  ⟨rfl, World.ownsRow_made w #[] 0 (Nat.le_refl _) (by unfold maxLen; omega) rfl, by simp⟩
end

def ob (A : Option Addr) : Option Nat := A.map (·.block)
theorem ob_eq (A : Option Addr) (n c : Nat) : (Value.slice A n c).ownBlock = ob A := by cases A <;> rfl
/-- two rows do not share a block -/
def apartS (A1 A2 : Option Addr) : Prop := ∀ b, ob A1 = some b → ob A2 ≠ some b
theorem apartS.symm {A1 A2 : Option Addr} (h : apartS A1 A2) : apartS A2 A1 := fun b h1 h2 => h b h2 h1
theorem apart_grow {A1 A2 : Option Addr} {n c g B : Nat} (h : apartS A1 A2) (hB : ∀ b, ob A1 = some b → b < B) (hor : (Value.slice A2 n c).ownBlock = some g ∨ B ≤ g) : apartS A1 (some ⟨g, 0, none⟩) := by
  intro b hb hg
  have : g = b := by simpa [ob] using hg
  subst this
  rcases hor with h1 | h1
  · rw [ob_eq] at h1; exact h g hb h1
  · have := hB g hb; omega
theorem Own.ltN {k : IntKind} {T : TypeId} {w : World} {base : Nat} {A : Option Addr} {n c : Nat} {l : List Int} (h : Own k T w base A n c l) : ∀ b, ob A = some b → base ≤ b ∧ b < w.heap.size := by
  intro b hb
  exact World.ownsRow.lt h.2.1 b (by rw [ob_eq]; exact hb)
theorem Own.keptA {k : IntKind} {T : TypeId} {w w' : World} {base : Nat} {A A2 : Option Addr} {n c n2 c2 : Nat} {l : List Int} (h : Own k T w base A n c l) (hG : w.grownBy w' (Value.slice A2 n2 c2).ownBlock) (hap : apartS A A2) : Own k T w' base A n c l := by
  refine ⟨h.1, h.2.1.kept hG ?_, h.2.2⟩
  rw [ob_eq, ob_eq]
  cases ha : ob A with
  | none => exact .inl rfl
  | some b => exact .inr fun e => hap b ha e.symm
theorem apart_none (A : Option Addr) : apartS none A := fun b h => by cases h
end Go.Proofs.Ythcicfolabngcaa
/- Frames with exceptions; words for blocks and boxes (no package in sight). -/
namespace Go.Proofs.Ythcicfolabngcaa
open Go.RowKit

def RetK (w : World) (b : Bool) (e : Ending) (w' : World) : Prop := e = .returned (.bool b) ∧ E w w'
/-- w' extends w, but for the blocks X -/
structure Ex (X : Nat → Prop) (w w' : World) : Prop where
  os : w'.os = w.os
  tape : w'.tape = w.tape
  output : w'.output = w.output
  size : w.heap.size ≤ w'.heap.size
  block : ∀ i, i < w.heap.size → ¬ X i → w'.heap[i]? = w.heap[i]?
theorem Ex.of_e {X : Nat → Prop} {w w' : World} (h : E w w') : Ex X w w' := ⟨h.os, h.tape, h.output, h.size, fun _ hi _ => h.block hi⟩
theorem Ex.refl (X : Nat → Prop) (w : World) : Ex X w w := .of_e (E.refl w)
theorem Ex.trans {X Y Z : Nat → Prop} {a b c : World} (h : Ex X a b) (k : Ex Y b c) (hX : ∀ i, i < a.heap.size → X i → Z i) (hY : ∀ i, i < a.heap.size → Y i → Z i) : Ex Z a c :=
  ⟨k.os.trans h.os, k.tape.trans h.tape, k.output.trans h.output, Nat.le_trans h.size k.size, fun i hi hz => (k.block i (Nat.lt_of_lt_of_le hi h.size) (fun y => hz (hY i hi y))).trans (h.block i hi (fun x => hz (hX i hi x)))⟩
theorem Ex.mono {X Z : Nat → Prop} {a b : World} (h : Ex X a b) (hX : ∀ i, i < a.heap.size → X i → Z i) : Ex Z a b :=
  ⟨h.os, h.tape, h.output, h.size, fun i hi hz => h.block i hi (fun x => hz (hX i hi x))⟩
theorem Ex.e {X : Nat → Prop} {a b : World} (h : Ex X a b) (hX : ∀ i, X i → a.heap.size ≤ i) : E a b :=
  ⟨h.os, h.tape, h.output, h.size, fun i hi => h.block i hi (fun x => by have := hX i x; omega)⟩
theorem Ex.drew {X : Nat → Prop} {a b : World} (h : Ex X a b) : Ex X a b.drew := ⟨h.os, h.tape, h.output, h.size, h.block⟩
theorem Ex.setCell {X : Nat → Prop} {a b : World} (h : Ex X a b) (p : Addr) (hp : a.heap.size ≤ p.block ∨ X p.block) (u : Value) : Ex X a (b.setCell p u) := by
  have hk : Below 0 b (b.setCell p u) := (Below.refl 0 b).setCell (Nat.zero_le _) u
  refine ⟨hk.os.trans h.os, hk.tape.trans h.tape, hk.output.trans h.output, Nat.le_trans h.size hk.size, fun i hi hx => ?_⟩
  rw [Below.heap_setCell _ _ _ _ (fun e => ?_)]
  · exact h.block i hi hx
  · rcases hp with hp | hp
    · omega
    · exact hx (e ▸ hp)
theorem Ex.grown {X : Nat → Prop} {a b c : World} {row : Option Nat} (h : Ex X a b) (hg : b.grownBy c row) (hr : ∀ k, row = some k → a.heap.size ≤ k ∨ X k) : Ex X a c :=
  ⟨hg.os.trans h.os, hg.tape.trans h.tape, hg.output.trans h.output, Nat.le_trans h.size hg.size, fun i hi hx => (hg.block i (Nat.lt_of_lt_of_le hi h.size) (fun e => by
    rcases hr i e.symm with hr | hr
    · omega
    · exact hx hr)).trans (h.block i hi hx)⟩
theorem Ex.cell {X : Nat → Prop} {a b : World} (h : Ex X a b) {p : Addr} (hp : p.block < a.heap.size) (hx : ¬ X p.block) : b.cell? p = a.cell? p := World.cell?_of_block (h.block p.block hp hx)
theorem Ex.put {X : Nat → Prop} {a b : World} (h : Ex X a b) (l : Nat) (o : Obj) (hl : a.heap.size ≤ l ∨ X l) : Ex X a (b.putObj l o) :=
  ⟨h.os, h.tape, h.output, by rw [World.putObj_size]; exact h.size, fun i hi hx => by
    rw [World.putObj_heap_other (fun e => ?_)]
    · exact h.block i hi hx
    · subst e
      rcases hl with hl | hl
      · omega
      · exact hx hl⟩
theorem Ex.fix {X : Nat → Prop} {a b : World} {l : Nat} (h : Ex (fun i => i = l ∨ X i) a b) (hb : b.heap[l]? = a.heap[l]?) : Ex X a b :=
  ⟨h.os, h.tape, h.output, h.size, fun i hi hx => by
    by_cases e : i = l
    · rw [e]; exact hb
    · exact h.block i hi (fun x => x.elim e hx)⟩
theorem Ex.alloc {X : Nat → Prop} {a b : World} (h : Ex X a b) (o : Obj) : Ex X a (b.alloc o) :=
  h.trans (Ex.of_e (X := fun _ => False) ((E.refl b).alloc o)) (fun _ _ x => x) (fun _ _ y => y.elim)
theorem lt_blk {w : World} {g : Nat} {o : Obj} (h : w.heap[g]? = some o) : g < w.heap.size := (Array.getElem?_eq_some_iff.1 h).1
theorem intTk : IntT Try.prog 33 3 .i64 8 := ⟨Try.underlying33, by kernel_rfl, by decide⟩
theorem Own.ex {k : IntKind} {T : TypeId} {X : Nat → Prop} {w w' : World} {base : Nat} {A : Option Addr} {n c : Nat} {l : List Int} (h : Own k T w base A n c l) (hX : Ex X w w') (hb : ∀ b, ob A = some b → ¬ X b) : Own k T w' base A n c l := by
  refine ⟨h.1, ⟨h.2.1.1, ?_⟩, h.2.2⟩
  rcases h.2.1.2 with a2 | ⟨g, cap, cur, hv, hbg, hh, r⟩
  · exact .inl a2
  · have hA : A = some ⟨g, 0, none⟩ := by injection hv
    refine .inr ⟨g, cap, cur, hv, hbg, ?_, r⟩
    rw [hX.block g (Array.getElem?_eq_some_iff.1 hh).1 (hb g (by rw [hA]; rfl))]
    exact hh
theorem keepE {w1 w2 : World} (hE : E w1 w2) : w1.heap.size ≤ w2.heap.size ∧ ∀ b o, b < w1.heap.size → w2.cell? ⟨b, o, none⟩ = w1.cell? ⟨b, o, none⟩ := ⟨hE.le, fun b o hb => hE.cell (p := ⟨b, o, none⟩) hb⟩
theorem sKeepK {N : Nat} {w0 w1 w2 : World} (h : N ≤ w1.heap.size ∧ ∀ b o, b < N → w1.cell? ⟨b, o, none⟩ = w0.cell? ⟨b, o, none⟩) (hE : E w1 w2) : N ≤ w2.heap.size ∧ ∀ b o, b < N → w2.cell? ⟨b, o, none⟩ = w0.cell? ⟨b, o, none⟩ :=
  ⟨Nat.le_trans h.1 hE.le, fun b o hb => (hE.cell (p := ⟨b, o, none⟩) (Nat.lt_of_lt_of_le hb h.1)).trans (h.2 b o hb)⟩
theorem sKeepX {N : Nat} {w0 w1 w2 : World} (h : N ≤ w1.heap.size ∧ ∀ b o, b < N → w1.cell? ⟨b, o, none⟩ = w0.cell? ⟨b, o, none⟩) (hB : Below N w1 w2) : N ≤ w2.heap.size ∧ ∀ b o, b < N → w2.cell? ⟨b, o, none⟩ = w0.cell? ⟨b, o, none⟩ :=
  ⟨Nat.le_trans h.1 hB.size, fun b o hb => (hB.cell (p := ⟨b, o, none⟩) hb).trans (h.2 b o hb)⟩
theorem cells3_new (w : World) (x y z : Value) (t : TypeId) : (w.alloc (.cells #[x, y, z] t)).cell? ⟨w.heap.size, 0, none⟩ = some x ∧ (w.alloc (.cells #[x, y, z] t)).cell? ⟨w.heap.size, 1, none⟩ = some y ∧ (w.alloc (.cells #[x, y, z] t)).cell? ⟨w.heap.size, 2, none⟩ = some z :=
  ⟨cell_of_row _ _ 0 _ _ _ (heap_alloc_new w _), cell_of_row _ _ 1 _ _ _ (heap_alloc_new w _), cell_of_row _ _ 2 _ _ _ (heap_alloc_new w _)⟩
end Go.Proofs.Ythcicfolabngcaa
/- Plain functions on lists of integers: what the functions on bags compute. -/
namespace Go.Proofs.Ythcicfolabngcaa

def okU (x : Int) : Bool := decide (0 ≤ x) && decide (x ≤ 1099511627776)
def isBagB (l : List Int) : Bool := decide (l.length ≤ 64) && l.all okU
def fitB (a b : List Int) : Bool := decide (a.length = b.length) && (isBagB a && isBagB b)
def sameB (a b : List Int) : Bool := decide (a = b)

theorem okU_iff {x : Int} : okU x = true ↔ 0 ≤ x ∧ x ≤ 1099511627776 := by simp [okU]
theorem okU_neg {x : Int} (h : x < 0) : okU x = false := by simp [okU]; omega
theorem okU_big {x : Int} (h : 1099511627776 < x) : okU x = false := by simp [okU]; omega
theorem drop_at {α : Type} {l : List α} {k : Nat} {x : α} (h : l[k]? = some x) : l.drop k = x :: l.drop (k + 1) := by
  obtain ⟨hk, rfl⟩ := List.getElem?_eq_some_iff.1 h
  exact List.drop_eq_getElem_cons hk
theorem all_drop {l : List Int} {k : Nat} {x : Int} (h : l[k]? = some x) : (l.drop k).all okU = (okU x && (l.drop (k + 1)).all okU) := by rw [drop_at h]; rfl
theorem drop_end {α : Type} {l : List α} {k n : Nat} (hl : l.length = n) (h : n ≤ k) : l.drop k = [] := List.drop_eq_nil_of_le (by omega)

theorem isBag_len {l : List Int} (h : isBagB l = true) : l.length ≤ 64 := by simp [isBagB] at h; exact h.1
theorem isBag_mem {l : List Int} (h : isBagB l = true) {x : Int} (hx : x ∈ l) : 0 ≤ x ∧ x ≤ 1099511627776 := by
  simp only [isBagB, Bool.and_eq_true, List.all_eq_true] at h; exact okU_iff.1 (h.2 x hx)
theorem isBag_get {l : List Int} (h : isBagB l = true) {i : Nat} {x : Int} (hx : l[i]? = some x) : 0 ≤ x ∧ x ≤ 1099511627776 := isBag_mem h (List.mem_of_getElem? hx)
theorem fit_len {a b : List Int} (h : fitB a b = true) : a.length = b.length := by simp [fitB] at h; exact h.1
theorem fit_a {a b : List Int} (h : fitB a b = true) : isBagB a = true := by simp [fitB] at h; exact h.2.1
theorem fit_b {a b : List Int} (h : fitB a b = true) : isBagB b = true := by simp [fitB] at h; exact h.2.2

/-- how many times b can be taken from a, at most k -/
def mostF : Int → List Int → List Int → Int
  | k, x :: a, y :: b => mostF (if 0 < y then min k (x / y) else k) a b
  | k, [], _ => k
  | k, _ :: _, [] => k
def mostB (a b : List Int) : Int := if fitB a b then mostF 1048576 a b else 0
theorem mostF_step {a b : List Int} {i : Nat} {x y k : Int} (ha : a[i]? = some x) (hb : b[i]? = some y) :
    mostF k (a.drop i) (b.drop i) = mostF (if 0 < y then min k (x / y) else k) (a.drop (i + 1)) (b.drop (i + 1)) := by
  rw [drop_at ha, drop_at hb]; rfl
theorem mostF_nil (k : Int) (l : List Int) : mostF k [] l = k := by cases l <;> rfl
theorem most_lt {k x y : Int} (hy : 0 < y) : x < k * y ↔ x / y < k := by
  rw [Int.ediv_lt_iff_lt_mul hy]
theorem most_stop {x y : Int} (hy : 0 < y) : ¬ x < (x / y) * y := by
  rw [most_lt hy]; omega
theorem mul_le_60 {k y : Int} (h0 : 0 ≤ k) (h1 : k ≤ 1048576) (h2 : 0 ≤ y) (h3 : y ≤ 1099511627776) : 0 ≤ k * y ∧ k * y ≤ 1152921504606846976 := by
  refine ⟨Int.mul_nonneg h0 h2, ?_⟩
  calc k * y ≤ 1048576 * y := Int.mul_le_mul_of_nonneg_right h1 h2
    _ ≤ 1048576 * 1099511627776 := Int.mul_le_mul_of_nonneg_left h3 (by omega)
    _ ≤ 1152921504606846976 := by omega

theorem mid_get {α : Type} {out l : List α} {k : Nat} (h : out.length = k) : (out ++ l.drop k)[k]? = l[k]? := by
  rw [List.getElem?_append_right (by omega), h, Nat.sub_self, List.getElem?_drop, Nat.add_zero]
theorem mid_set {α : Type} {out l : List α} {k : Nat} {x v : α} (h : out.length = k) (hx : l[k]? = some x) : (out ++ l.drop k).set k v = (out ++ [v]) ++ l.drop (k + 1) := by
  rw [List.set_append_right _ _ (by omega), h, Nat.sub_self, drop_at hx]; simp

/-- one number of a generated bag -/
def bagE (l : List Int) (i : Nat) : Int := let k := (l.getD i 0) % 1099511627777; if 0 < k % 5 then k / 5 % 12 else k
def bagL (n : Nat) (l : List Int) (p : Nat) : List Int := (List.range n).map fun i => bagE l (p + i)
theorem bagE_ok (l : List Int) (i : Nat) : 0 ≤ bagE l i ∧ bagE l i ≤ 1099511627776 := by
  unfold bagE; simp only; split <;> omega
theorem bagL_len (n : Nat) (l : List Int) (p : Nat) : (bagL n l p).length = n := by simp [bagL]
theorem bagL_succ (n : Nat) (l : List Int) (p : Nat) : bagL (n + 1) l p = bagL n l p ++ [bagE l (p + n)] := by simp [bagL, List.range_succ]
theorem bagL_bag (n : Nat) (l : List Int) (p : Nat) (hn : n ≤ 64) : isBagB (bagL n l p) = true := by
  simp only [isBagB, Bool.and_eq_true, List.all_eq_true, decide_eq_true_eq]
  refine ⟨by rw [bagL_len]; exact hn, fun x hx => ?_⟩
  simp only [bagL, List.mem_map] at hx
  obtain ⟨i, _, rfl⟩ := hx
  exact okU_iff.2 (bagE_ok _ _)

/-- each number times k, or the limit's error (4) -/
def tm1 (k y : Int) : Int × Int := if 1099511627776 < y * k then (0, 4) else (y * k, 0)
/-- what a function makes of the numbers of two lists, one after the other, or the first error -/
def combF (f : Int → Int → Int × Int) : List Int → List Int → List Int × Int
  | x :: a, y :: b => if (f x y).2 ≠ 0 then ([], (f x y).2) else
      if (combF f a b).2 ≠ 0 then ([], (combF f a b).2) else ((f x y).1 :: (combF f a b).1, 0)
  | [], _ => ([], 0)
  | _ :: _, [] => ([], 0)
def pre (out : List Int) (r : List Int × Int) : List Int × Int := if r.2 ≠ 0 then ([], r.2) else (out ++ r.1, 0)
theorem pre_nil (f : Int → Int → Int × Int) (a b : List Int) : pre [] (combF f a b) = combF f a b := by
  unfold pre
  split
  · rename_i h
    cases a with
    | nil => simp [combF] at h
    | cons x a =>
      cases b with
      | nil => simp [combF] at h
      | cons y b =>
        simp only [combF] at h ⊢
        split
        · rfl
        · rename_i h1
          rw [if_neg h1] at h
          split
          · rename_i h2; rfl
          · rename_i h2; rw [if_neg h2] at h; simp at h
  · rename_i h
    simp at h
    rw [List.nil_append, ← h]
theorem comb_err {f : Int → Int → Int × Int} {a b out : List Int} {i : Nat} {x y : Int} (ha : a[i]? = some x) (hb : b[i]? = some y) (h : (f x y).2 ≠ 0) :
    pre out (combF f (a.drop i) (b.drop i)) = ([], (f x y).2) := by
  rw [drop_at ha, drop_at hb]
  simp only [combF, if_pos h, pre]
theorem comb_ok {f : Int → Int → Int × Int} {a b out : List Int} {i : Nat} {x y : Int} (ha : a[i]? = some x) (hb : b[i]? = some y) (h : (f x y).2 = 0) :
    pre out (combF f (a.drop i) (b.drop i)) = pre (out ++ [(f x y).1]) (combF f (a.drop (i + 1)) (b.drop (i + 1))) := by
  rw [drop_at ha, drop_at hb]
  simp only [combF, h, ne_eq, not_true_eq_false, if_false, pre]
  by_cases h2 : (combF f (a.drop (i + 1)) (b.drop (i + 1))).2 = 0
  · simp [h2]
  · simp [h2]
theorem comb_end {f : Int → Int → Int × Int} {l out : List Int} : pre out (combF f [] l) = (out, 0) := by cases l <;> simp [combF, pre]
def timesS (l : List Int) (k : Int) : List Int × Int := if isBagB l = true ∧ 0 ≤ k ∧ k ≤ 1048576 then combF (fun _ y => tm1 k y) l l else ([], 1)
def addS (a b : List Int) : List Int × Int := if fitB a b then combF (fun x y => if 1099511627776 < x + y then (0, 4) else (x + y, 0)) a b else ([], 1)
def subS (a b : List Int) : List Int × Int := if fitB a b then combF (fun x y => if x < y then (0, 10) else (x - y, 0)) a b else ([], 1)
def joinS (a b : List Int) : List Int := if fitB a b then (combF (fun x y => (max x y, 0)) a b).1 else []
def meetS (a b : List Int) : List Int := if fitB a b then (combF (fun x y => (min x y, 0)) a b).1 else []
end Go.Proofs.Ythcicfolabngcaa
/- What a disk is, in plain words: no program in sight. -/
namespace Go.Proofs.Ythcicfolabngcaa

structure DS where
  b : Int → List Int
  firm : Int → Nat
  off : Bool
  plan : Int
  room : Int
def upd {α : Type} (f : Int → α) (i : Int) (v : α) : Int → α := fun x => if x = i then v else f x
theorem upd_same {α : Type} (f : Int → α) (i : Int) (v : α) : upd f i v i = v := if_pos rfl
theorem upd_other {α : Type} (f : Int → α) {i j : Int} (v : α) (h : j ≠ i) : upd f i v j = f j := if_neg h
theorem upd_id {α : Type} (f : Int → α) (i : Int) : upd f i (f i) = f := by
  funext x; by_cases h : x = i
  · rw [h, upd_same]
  · rw [upd_other _ _ h]
theorem upd_upd {α : Type} (f : Int → α) (i : Int) (u v : α) : upd (upd f i u) i v = upd f i v := by
  funext x; by_cases h : x = i
  · rw [h, upd_same, upd_same]
  · rw [upd_other _ _ h, upd_other _ _ h, upd_other _ _ h]
def sumTo (f : Nat → Nat) : Nat → Nat
  | 0 => 0
  | n + 1 => sumTo f n + f n
theorem sumTo_ext {f g : Nat → Nat} : ∀ n, (∀ i, i < n → f i = g i) → sumTo f n = sumTo g n
  | 0, _ => rfl
  | n + 1, h => by rw [sumTo, sumTo, sumTo_ext n (fun i hi => h i (by omega)), h n (by omega)]
theorem sumTo_one {f g : Nat → Nat} {j : Nat} (h : ∀ i, i ≠ j → f i = g i) : ∀ n, j < n → sumTo f n + g j = sumTo g n + f j
  | 0, h0 => by omega
  | n + 1, h0 => by
    rw [sumTo, sumTo]
    by_cases e : j = n
    · subst e; rw [sumTo_ext j (fun i hi => h i (by omega))]; omega
    · have := sumTo_one h n (by omega)
      have := h n (by omega)
      omega
theorem sumTo_le {f : Nat → Nat} {j : Nat} : ∀ n, j < n → f j ≤ sumTo f n
  | 0, h0 => by omega
  | n + 1, h0 => by
    rw [sumTo]
    by_cases e : j = n
    · subst e; omega
    · have := sumTo_le (f := f) n (show j < n by omega); omega
theorem sumTo_zero {f : Nat → Nat} : ∀ n, (∀ i, i < n → f i = 0) → sumTo f n = 0
  | 0, _ => rfl
  | n + 1, h => by rw [sumTo, sumTo_zero n (fun i hi => h i (by omega)), h n (by omega)]
def usedF (b : Int → List Int) : Nat := sumTo (fun i => (b i).length) 64
def isF (i : Int) : Bool := decide (0 ≤ i) && decide (i < 64)
theorem isF_iff {i : Int} : isF i = true ↔ 0 ≤ i ∧ i < 64 := by simp [isF]
theorem usedF_upd (b : Int → List Int) {i : Int} (v : List Int) (h : isF i = true) : usedF (upd b i v) + (b i).length = usedF b + v.length := by
  have h' := isF_iff.1 h
  obtain ⟨j, rfl⟩ : ∃ j : Nat, i = j := ⟨i.toNat, by omega⟩
  have := sumTo_one (f := fun k => (upd b j v k).length) (g := fun k => (b k).length) (j := j) (fun k hk => by simp only [upd_other b v (show (k : Int) ≠ (j : Int) by omega)]) 64 (by omega)
  simp only [upd_same] at this
  exact this
theorem usedF_le (b : Int → List Int) {i : Int} (h : isF i = true) : (b i).length ≤ usedF b := by
  have h' := isF_iff.1 h
  obtain ⟨j, rfl⟩ : ∃ j : Nat, i = j := ⟨i.toNat, by omega⟩
  exact sumTo_le (f := fun k => (b k).length) 64 (by omega)

/-- a step is counted -/
def stepS (s : DS) : DS := if s.plan < 0 then s else { s with plan := s.plan - 1, off := s.off || decide (s.plan = 0) }
def appS (s : DS) (i : Int) (l : List Int) : DS := { s with b := upd s.b i (s.b i ++ l) }
def appR (s : DS) (i : Int) (l : List Int) : Int × DS :=
  if isF i = false then (1, s) else if s.off = true then (23, s) else if s.room - usedF s.b < l.length then (22, s)
  else (if (stepS s).off = true then 23 else 0, appS (stepS s) i l)
def firmS (s : DS) : DS := { s with firm := fun i => (s.b i).length }
def syncR (s : DS) : Int × DS := if s.off = true then (23, s) else if (stepS s).off = true then (23, stepS s) else (0, firmS (stepS s))
def cutS (s : DS) (i : Int) (n : Nat) : DS := { s with b := upd s.b i ((s.b i).take n), firm := upd s.firm i (min (s.firm i) n) }
def truncR (s : DS) (i n : Int) : Int × DS :=
  if isF i = false ∨ n < 0 ∨ (s.b i).length < n then (1, s) else if s.off = true then (23, s) else if (stepS s).off = true then (23, stepS s) else (0, cutS (stepS s) i n.toNat)
def armS (s : DS) (n : Int) : DS := if s.off = true then s else { s with plan := max n (-1) }
def readR (s : DS) (i : Int) : List Int × Int := if isF i = false then ([], 1) else if s.off = true then ([], 23) else (s.b i, 0)
def newS (room : Int) : DS := { b := fun _ => [], firm := fun _ => 0, off := false, plan := -1, room := room }

/-- what holds of every disk -/
structure DOk (s : DS) : Prop where
  out : ∀ i, isF i = false → s.b i = []
  firm : ∀ i, s.firm i ≤ (s.b i).length
  room : 0 ≤ s.room ∧ s.room ≤ 16777216
  used : (usedF s.b : Int) ≤ s.room
  plan : -1 ≤ s.plan ∧ s.plan ≤ 9223372036854775807
theorem DOk.ne {s : DS} (h : DOk s) {i : Int} (hi : s.b i ≠ []) : isF i = true := by
  cases e : isF i
  · exact absurd (h.out i e) hi
  · rfl
theorem DOk.len {s : DS} (h : DOk s) (i : Int) : (s.b i).length ≤ usedF s.b := by
  cases e : isF i
  · rw [h.out i e]; exact Nat.zero_le _
  · exact usedF_le _ e
theorem DOk.len24 {s : DS} (h : DOk s) (i : Int) : (s.b i).length ≤ 16777216 := by
  have := h.len i; have := h.used; have := h.room; omega
theorem DOk.firm0 {s : DS} (h : DOk s) {i : Int} (hi : s.b i = []) : s.firm i = 0 := by have := h.firm i; rw [hi] at this; simpa using this
theorem stepS_b (s : DS) : (stepS s).b = s.b := by unfold stepS; split <;> rfl
theorem stepS_firm (s : DS) : (stepS s).firm = s.firm := by unfold stepS; split <;> rfl
theorem stepS_room (s : DS) : (stepS s).room = s.room := by unfold stepS; split <;> rfl
theorem DOk.step {s : DS} (h : DOk s) : DOk (stepS s) := by
  refine ⟨by rw [stepS_b]; exact h.out, by rw [stepS_b, stepS_firm]; exact h.firm, by rw [stepS_room]; exact h.room, by rw [stepS_b, stepS_room]; exact h.used, ?_⟩
  have := h.plan
  unfold stepS; split
  · exact this
  · simp only; omega
theorem DOk.app {s : DS} (h : DOk s) {i : Int} {l : List Int} (hi : isF i = true) (hl : (l.length : Int) ≤ s.room - usedF s.b) : DOk (appS s i l) := by
  have hu := usedF_upd s.b (s.b i ++ l) hi
  rw [List.length_append] at hu
  refine ⟨fun j hj => ?_, fun j => ?_, h.room, by simp only [appS]; omega, h.plan⟩
  · simp only [appS]; rw [upd_other _ _ (fun e => by rw [e] at hj; rw [hi] at hj; cases hj)]; exact h.out j hj
  · simp only [appS]
    by_cases e : j = i
    · rw [e, upd_same, List.length_append]; have := h.firm i; omega
    · rw [upd_other _ _ e]; exact h.firm j
theorem DOk.firmed {s : DS} (h : DOk s) : DOk (firmS s) := ⟨h.out, fun _ => Nat.le_refl _, h.room, h.used, h.plan⟩
theorem DOk.cut {s : DS} (h : DOk s) (i : Int) (n : Nat) : DOk (cutS s i n) := by
  refine ⟨fun j hj => ?_, fun j => ?_, h.room, ?_, h.plan⟩
  · simp only [cutS]
    by_cases e : j = i
    · rw [e, upd_same, ← e, h.out j hj]; simp
    · rw [upd_other _ _ e]; exact h.out j hj
  · simp only [cutS]
    by_cases e : j = i
    · rw [e, upd_same, upd_same, List.length_take]; have := h.firm i; omega
    · rw [upd_other _ _ e, upd_other _ _ e]; exact h.firm j
  · simp only [cutS]
    have := h.used
    cases e : isF i
    · rw [h.out i e, List.take_nil, ← h.out i e, upd_id]; exact this
    · have hu := usedF_upd s.b ((s.b i).take n) e
      rw [List.length_take] at hu
      omega
theorem DOk.arm {s : DS} (h : DOk s) {n : Int} (hn : n ≤ 9223372036854775807) : DOk (armS s n) := by
  unfold armS; split
  · exact h
  · exact ⟨h.out, h.firm, h.room, h.used, by simp only; omega⟩
theorem usedF_nil : usedF (fun _ => []) = 0 := sumTo_zero _ (fun _ _ => rfl)
theorem DOk.new {room : Int} (h : 0 ≤ room ∧ room ≤ 16777216) : DOk (newS room) := ⟨fun _ _ => rfl, fun _ => Nat.le_refl _, h, by simp only [newS, usedF_nil]; omega, by simp only [newS]; omega⟩
end Go.Proofs.Ythcicfolabngcaa
/- Plain facts on bits, zigzag and variable-length numbers. -/
namespace Go.Proofs.Ythcicfolabngcaa
open Go.RowKit

def zig (n : Int) : Nat := if 0 ≤ n then (2 * n).toNat else (-2 * n - 1).toNat
theorem bits_xor_u64 (a b : Int) : bits .xor .u64 a b = IntKind.u64.wrap ((BitVec.ofInt 64 a ^^^ BitVec.ofInt 64 b).toNat : Int) := rfl
theorem zig_bits (n : Int) (h1 : -9223372036854775808 ≤ n) (h2 : n ≤ 9223372036854775807) :
    bits .xor .u64 (IntKind.u64.wrap (IntKind.u64.wrap n * 2)) (IntKind.u64.wrap (n / 9223372036854775808)) = (zig n : Int) := by
  have hw : ∀ x : Int, IntKind.u64.wrap x = x % 18446744073709551616 := fun x => IntKind.wrap_u64 x
  rw [bits_xor_u64]
  by_cases h : 0 ≤ n
  · have e1 : IntKind.u64.wrap (n / 9223372036854775808) = 0 := by rw [hw]; omega
    have e2 : IntKind.u64.wrap (IntKind.u64.wrap n * 2) = ((2 * n).toNat : Int) := by rw [hw, hw]; omega
    rw [e1, e2]
    have e3 : BitVec.ofInt 64 0 = 0#64 := by decide
    rw [e3, BitVec.xor_zero, BitVec.ofInt_natCast, BitVec.toNat_ofNat]
    simp only [zig, if_pos h]
    rw [hw]
    omega
  · have e1 : IntKind.u64.wrap (n / 9223372036854775808) = 18446744073709551615 := by rw [hw]; omega
    have e2 : IntKind.u64.wrap (IntKind.u64.wrap n * 2) = ((2 * n + 18446744073709551616).toNat : Int) := by rw [hw, hw]; omega
    rw [e1, e2]
    have e3 : BitVec.ofInt 64 18446744073709551615 = BitVec.allOnes 64 := by decide
    rw [e3, BitVec.xor_allOnes, BitVec.toNat_not, BitVec.ofInt_natCast, BitVec.toNat_ofNat]
    simp only [zig, if_neg h]
    rw [hw]
    omega
theorem zig_lt (n : Int) (h1 : -9223372036854775808 ≤ n) (h2 : n ≤ 9223372036854775807) : zig n < 18446744073709551616 := by
  unfold zig; split <;> omega
theorem or128_fin : ∀ x : Fin 256, bits .or .u8 ((x.val : Nat) : Int) 128 = ((x.val % 128 + 128 : Nat) : Int) := by decide +kernel
theorem or128 (x : Int) (h0 : 0 ≤ x) (h1 : x < 256) : bits .or .u8 x 128 = x % 128 + 128 := by
  have := or128_fin ⟨x.toNat, by omega⟩
  simp only at this
  rw [show ((x.toNat : Nat) : Int) = x by omega] at this
  rw [this]; omega

/-- the bytes of a number, 7 bits each, the lowest first -/
def uv (n : Nat) : List Int := if n < 128 then [(n : Int)] else ((n % 128 + 128 : Nat) : Int) :: uv (n / 128)
termination_by n
decreasing_by omega
theorem uv_small {n : Nat} (h : n < 128) : uv n = [(n : Int)] := by rw [uv, if_pos h]
theorem uv_big {n : Nat} (h : ¬ n < 128) : uv n = ((n % 128 + 128 : Nat) : Int) :: uv (n / 128) := by rw [uv, if_neg h]
theorem uv_len {n : Nat} : ∀ k, n < 128 ^ (k + 1) → (uv n).length ≤ k + 1
  | 0, h => by rw [uv_small (by simpa using h)]; simp
  | k + 1, h => by
    by_cases hs : n < 128
    · rw [uv_small hs]; simp
    · rw [uv_big hs]
      have : n / 128 < 128 ^ (k + 1) := by rw [Nat.pow_succ] at h; exact Nat.div_lt_of_lt_mul (by rw [Nat.mul_comm]; exact h)
      have := uv_len k this
      simp; omega
theorem uv_len10 {n : Nat} (h : n < 18446744073709551616) : (uv n).length ≤ 10 := uv_len 9 (by omega)
end Go.Proofs.Ythcicfolabngcaa
/- Contracts of the writer of package wire. -/
namespace Go.Proofs.Ythcicfolabngcaa
open Go.RowKit

theorem byteT : IntT Try.prog 27 5 .u8 1 := ⟨Try.underlying27, by kernel_rfl, by decide⟩

set_option maxHeartbeats 400000 in
theorem zigzag_c (n : Int) (w : World) (h1 : -9223372036854775808 ≤ n) (h2 : n ≤ 9223372036854775807) :
    Calls Try.prog 77 #[.int .i64 n] w fun e w' => e = .returned (.int .u64 (zig n)) ∧ w = w' := by
  have HZ := Lib.hid (zig_bits n h1 h2)
  go_enter Try.func77, Try.ntmps77
  go_wp2
  go_ret
  exact ⟨ret_int HZ.out, rfl⟩

theorem Own.far {k : IntKind} {T : TypeId} {w : World} {base : Nat} {A : Option Addr} {n c : Nat} {l : List Int} (h : Own k T w base A n c l) {p : Addr} (hp : (Value.slice A n c).ownBlock ≠ some p.block) (u : Value) : Own k T (w.setCell p u) base A n c l := by
  obtain ⟨h1, ⟨a1, a2⟩, h3⟩ := h
  refine ⟨h1, ⟨a1, ?_⟩, h3⟩
  rcases a2 with a2 | ⟨g, cap, cur, hv, hb, hh, r⟩
  · exact .inl a2
  · refine .inr ⟨g, cap, cur, hv, hb, ?_, r⟩
    rw [Below.heap_setCell _ _ _ _ (fun e => hp (by rw [hv]; simp [Value.ownBlock, e]))]
    exact hh
theorem Own.apart {k : IntKind} {T T' : TypeId} {w : World} {base : Nat} {A : Option Addr} {n c g : Nat} {l : List Int} {cs : Array Value} (h : Own k T w base A n c l) (hg : w.heap[g]? = some (.cells cs T' (0, 0))) (hT : T ≠ T') : (Value.slice A n c).ownBlock ≠ some g := by
  obtain ⟨h1, ⟨a1, a2⟩, h3⟩ := h
  rcases a2 with ⟨hv, _⟩ | ⟨g', cap, cur, hv, hb, hh, r⟩
  · rw [hv]; simp [Value.ownBlock]
  · intro he
    rw [hv] at he
    have : g' = g := by simpa [Value.ownBlock] using he
    subst this
    rw [hh] at hg
    injection hg with hg
    injection hg with _ ht
    exact hT ht

/-- block g is a writer that holds the bytes l; it and its row lie from block base on -/
def Wr (w : World) (base g : Nat) (l : List Int) : Prop := base ≤ g ∧ ∃ A n c, w.heap[g]? = some (.cells #[.slice A n c] 66 (0, 0)) ∧ Own .u8 5 w base A n c l
theorem blk_lt {w : World} {g : Nat} {o : Obj} (h : w.heap[g]? = some o) : g < w.heap.size := by
  rcases Nat.lt_or_ge g w.heap.size with hlt | hge
  · exact hlt
  · rw [Array.getElem?_eq_none hge] at h; cases h
theorem Wr.e {w w' : World} {base g : Nat} {l : List Int} (h : Wr w base g l) (he : E w w') : Wr w' base g l := by
  obtain ⟨hb, A, n, c, h1, h2⟩ := h
  exact ⟨hb, A, n, c, by rw [he.block (blk_lt h1)]; exact h1, h2.e he⟩
/-- below base nothing has turned, and above it no block but g and blocks of bytes -/
def Keep (base g : Nat) (w w' : World) : Prop := Below base w w' ∧ ∀ k, k < w.heap.size → k ≠ g → (∀ cs fr, w.heap[k]? ≠ some (.cells cs 5 fr)) → w'.heap[k]? = w.heap[k]?
theorem Keep.refl (base g : Nat) (w : World) : Keep base g w w := ⟨Below.refl _ _, fun _ _ _ _ => rfl⟩
theorem Keep.trans {base g : Nat} {a b c : World} (h : Keep base g a b) (k : Keep base g b c) : Keep base g a c :=
  ⟨h.1.trans k.1, fun i hi hne hb => by
    have e := h.2 i hi hne hb
    rw [k.2 i (Nat.lt_of_lt_of_le hi h.1.size) hne (by rw [e]; exact hb), e]⟩
def RetW (w : World) (base g : Nat) (l : List Int) (e : Ending) (w' : World) : Prop := e = .returned (.tuple #[]) ∧ Wr w' base g l ∧ Keep base g w w'

theorem wr_app {w w1 : World} {base g n c g' c' : Nat} {l l' : List Int} {A : Option Addr} (hb : base ≤ g) (hg : w.heap[g]? = some (.cells #[.slice A n c] 66 (0, 0))) (hO : Own .u8 5 w base A n c l) (hbw : base ≤ w.heap.size)
    (hO1 : Own .u8 5 w1 base (some ⟨g', 0, none⟩) (n + 1) c' l') (hG : w.grownBy w1 (Value.slice A n c).ownBlock) :
    w1.cell? ⟨g, 0, none⟩ = some (.slice A n c) ∧ w1.frozen? ⟨g, 0, none⟩ = false ∧ Wr (w1.setCell ⟨g, 0, none⟩ (.slice (some ⟨g', 0, none⟩) (n + 1) c')) base g l' ∧ Keep base g w (w1.setCell ⟨g, 0, none⟩ (.slice (some ⟨g', 0, none⟩) (n + 1) c')) := by
  have hne := hO.apart hg (by decide)
  have hg1 : w1.heap[g]? = some (.cells #[.slice A n c] 66 (0, 0)) := by rw [hG.block g (blk_lt hg) (fun e => hne e.symm)]; exact hg
  refine ⟨by rw [cell_of_row _ _ _ _ _ _ hg1]; rfl, frozen_of_row _ _ _ _ _ hg1, ⟨hb, _, _, _, ?_, hO1.far (p := ⟨g, 0, none⟩) (hO1.apart hg1 (by decide)) _⟩, ?_, ?_⟩
  · rw [heap_setCell_same _ _ _ _ _ _ hg1]; rfl
  · exact ((Below.refl base w).grown hG hbw (ownBlock_le hO)).setCell (p := ⟨g, 0, none⟩) hb _
  · intro k hk hkg hnb
    rw [Below.heap_setCell _ _ _ _ hkg]
    refine hG.block k hk (fun e => ?_)
    obtain ⟨_, ⟨_, a2⟩, _⟩ := hO
    rcases a2 with ⟨hv, _⟩ | ⟨q, cap, cur, hv, _, hh, _⟩
    · rw [hv] at e; simp [Value.ownBlock] at e
    · rw [hv] at e
      have : k = q := by simpa [Value.ownBlock] using e
      subst this
      exact hnb _ _ hh

set_option maxHeartbeats 1000000 in
theorem wUint_c (v g base : Nat) (l : List Int) (w : World) (hW : Wr w base g l) (hv : v < 18446744073709551616) (hl : l.length ≤ 549755813888) (hbw : base ≤ w.heap.size) :
    Calls Try.prog 59 #[.pointer (some ⟨g, 0, none⟩), .int .u64 v] w (RetW w base g (l ++ uv v)) := by
  have hu := uv_len10 hv
  have HV := Lib.hid hv
  clear hv
  go_enter Try.func59, Try.ntmps59
  go_wp2
  go_loopw [1] (fun t wr => ∃ (v' : Nat) (l' : List Int), t = .int .u64 v' ∧ Hid (v' < 18446744073709551616) ∧ Wr wr base g l' ∧ Keep base g w wr ∧ Hid (l' ++ uv v' = l ++ uv v)) (fun t _ => (intOf t).toNat)
  case atStart => exact ⟨v, l, rfl, HV.out, hW, Keep.refl _ _ _, rfl⟩
  case round =>
    obtain ⟨v', l', rfl, hv', ⟨hbg, A, n, c, hg, hO⟩, hB, hs⟩ := hrel
    have hn : n ≤ 549755813900 := by
      have := congrArg List.length hs.out
      simp only [List.length_append] at this
      rw [hO.1] at this; omega
    have hbr : base ≤ wr.heap.size := by have := hB.1.size; omega
    have hc0 : wr.cell? ⟨g, 0, none⟩ = some (.slice A n c) := by rw [cell_of_row _ _ _ _ _ _ hg]; rfl
    have HG := Lib.hid hg
    clear hg
    have e1 : bits .or .u8 ((v' : Int) % 256) 128 = (((v' % 128 + 128 : Nat) : Int)) := by rw [or128 _ (by omega) (by omega)]; omega
    have E1 := Lib.hid e1
    clear e1
    by_cases h128 : 128 ≤ (v' : Int)
    · have HU := Lib.hid (uv_big (n := v') (by omega))
      go_wp2_with (at_builtin; rw [E1.out]; refine wpList_app1n byteT _ rfl _ _ rfl _ _ _ _ _ rfl hO _ rfl (WalkArith.wf_u8 (by omega)) (by omega) hbr ?_; intro g' c2 w1 hO1 hG hB1 hor; obtain ⟨hc1, hf1, hW1, hK1⟩ := wr_app hbg HG.out hO hbr hO1 hG)
      go_roundw
      case rel => exact ⟨v' / 128, _, by go_num, show v' / 128 < 18446744073709551616 by have := hv'.out; omega, hW1, hB.trans hK1, show _ = _ by rw [← hs.out, HU.out]; simp⟩
      case measure => simp [intOf]; omega
    · have HU := Lib.hid (uv_small (n := v') (by omega))
      go_wp2_with (at_builtin; refine wpList_app1n byteT _ rfl _ _ rfl _ _ _ _ _ rfl hO _ rfl (WalkArith.wf_u8 (by omega)) (by omega) hbr ?_; intro g' c2 w1 hO1 hG hB1 hor; obtain ⟨hc1, hf1, hW1, hK1⟩ := wr_app hbg HG.out hO hbr hO1 hG)
      go_end0
      refine ⟨rfl, ?_, hB.trans hK1⟩
      rw [← hs.out, HU.out]
      exact hW1

set_option maxHeartbeats 400000 in
theorem wInt_c (v : Int) (g base : Nat) (l : List Int) (w : World) (hW : Wr w base g l) (h1 : -9223372036854775808 ≤ v) (h2 : v ≤ 9223372036854775807) (hl : l.length ≤ 549755813888) (hbw : base ≤ w.heap.size) :
    Calls Try.prog 62 #[.pointer (some ⟨g, 0, none⟩), .int .i64 v] w (RetW w base g (l ++ uv (zig v))) := by
  have HZ := Lib.hid (zig_lt v h1 h2)
  go_enter Try.func62, Try.ntmps62
  go_wp2_with (first
    | (go_at_call 77; refine (zigzag_c _ _ h1 h2).mono ?_; rintro e w' ⟨rfl, rfl⟩)
    | (go_at_call 59; refine (wUint_c _ _ base _ _ hW HZ.out hl hbw).mono ?_; rintro e w' ⟨rfl, hW1, hB1⟩))
  go_end0
  exact ⟨rfl, hW1, hB1⟩
end Go.Proofs.Ythcicfolabngcaa
/- slices.Clone of bytes; Done. -/
namespace Go.Proofs.Ythcicfolabngcaa
open Go.RowKit

set_option maxHeartbeats 400000 in
theorem cloneB_c (A : Option Addr) (n c : Nat) (l : List Int) (w : World) (h : Nums .u8 w A n c l) (hn : n ≤ 1099511627776) :
    Calls Try.prog 48 #[.slice A n c] w (RetOwn .u8 5 w l) := by
  rcases A with _ | ad
  · have h0 : n = 0 := by
      rcases Nat.eq_zero_or_pos n with h0 | h0
      · exact h0
      · obtain ⟨_, _, hh, _⟩ := h.at_ h0; cases hh
    have hl : l = [] := List.eq_nil_of_length_eq_zero (by rw [h.len, h0])
    have HL := Lib.hid hl
    clear h0 hl hn
    have hnil : ∀ W : World, (binOp .eql 27 (.slice none n c) (.slice none 0 0)).run Try.prog W = .ok (.bool true) W := fun W => Lib.run_eql_slice_nil W _ _ _ _ _ _ _ Try.underlying27
    go_enter Try.func48, Try.ntmps48
    go_wp2
    go_ret
    exact RetOwn.mk_ HL.out (Own.nil _ _ _ _) (E.refl _)
  · have hE := (E.refl w).alloc (.cells #[] 5)
    have h' := h.e hE
    have HN := Lib.hid hn
    clear hn
    have hnil : ∀ W : World, (binOp .eql 27 (.slice (some ad) n c) (.slice none 0 0)).run Try.prog W = .ok (.bool false) W := fun W => Lib.run_eql_slice_nil W _ _ _ _ _ _ _ Try.underlying27
    go_enter Try.func48, Try.ntmps48
    go_wp2_with (at_builtin; refine wpList_appN byteT _ rfl _ _ rfl w.heap.size _ _ _ [] rfl (Own.empty w _ _) _ _ _ l rfl h' (by have := HN.out; omega) (by simp) ?_; intro A' c' w1 hO hG hB)
    go_ret
    exact RetOwn.mk_ rfl (by simpa using hO) (hE.up hB)

set_option maxHeartbeats 400000 in
theorem wDone_c (g base : Nat) (l : List Int) (w : World) (hW : Wr w base g l) (hl : l.length ≤ 1099511627776) :
    Calls Try.prog 36 #[.pointer (some ⟨g, 0, none⟩)] w (RetOwn .u8 5 w l) := by
  obtain ⟨hb, A, n, c, hg, hO⟩ := hW
  have hc0 : w.cell? ⟨g, 0, none⟩ = some (.slice A n c) := by rw [cell_of_row _ _ _ _ _ _ hg]; rfl
  have HN := Lib.hid (show n ≤ 1099511627776 by rw [← hO.1]; exact hl)
  clear hg hl
  go_enter Try.func36, Try.ntmps36
  go_wp2_with (go_at_call 48; refine (cloneB_c _ _ _ _ _ hO.reads HN.out).mono ?_; rintro e w' ⟨A', n', c', rfl, hO', hE'⟩)
  go_ret
  exact RetOwn.mk_ rfl hO' hE'

theorem Wr.new (w : World) : Wr (w.alloc (.cells #[.slice none 0 0] 66)) w.heap.size w.heap.size [] := ⟨Nat.le_refl _, none, 0, 0, heap_alloc_new w _, Own.nil _ _ _ _⟩
theorem len_app_le {a : List Int} {m : Nat} {v : Int} (h : a.length ≤ m) (h1 : -9223372036854775808 ≤ v) (h2 : v ≤ 9223372036854775807) : (a ++ uv (zig v)).length ≤ m + 10 := by
  have := uv_len10 (zig_lt v h1 h2); simp; omega
theorem wf_u8 {x : Int} (h : (Lit.int .u8 x).wf = true) : 0 ≤ x ∧ x ≤ 255 := by
  have h' : IntKind.u8.min ≤ x ∧ x ≤ IntKind.u8.max := by simpa [Lit.wf] using h
  have e : IntKind.u8.min = 0 := by decide
  have e2 : IntKind.u8.max = 255 := by decide
  rw [e, e2] at h'; exact h'
end Go.Proofs.Ythcicfolabngcaa
/- Plain facts on reading variable-length numbers. -/
namespace Go.Proofs.Ythcicfolabngcaa
open Go.RowKit

/-- read a number: i bytes have been read, they make n; what it is, the bytes that are left, the error -/
def rdU : Nat → Nat → List Int → Nat × List Int × Int
  | _, _, [] => (0, [], 3)
  | i, n, b :: r => if (i = 9 ∧ 1 < b) ∨ (0 < i ∧ b = 0) then (0, r, 2) else if b < 128 then (n + b.toNat * 128 ^ i, r, 0) else rdU (i + 1) (n + (b.toNat % 128) * 128 ^ i) r

/-- what is read off the encoding of v is v -/
theorem rdU_uv : ∀ (v i n : Nat) (r : List Int), i ≤ 9 → (0 < i → 0 < v) → n + v * 128 ^ i < 18446744073709551616 → rdU i n (uv v ++ r) = (n + v * 128 ^ i, r, 0) := by
  intro v
  induction v using Nat.strongRecOn with
  | _ v ih =>
    intro i n r hi h0 hv
    by_cases hs : v < 128
    · rw [uv_small hs]
      show (if (i = 9 ∧ 1 < (v : Int)) ∨ (0 < i ∧ (v : Int) = 0) then _ else if (v : Int) < 128 then _ else _) = _
      rw [if_neg, if_pos (by omega)]
      · simp
      · rintro (⟨rfl, h⟩ | ⟨h1, h2⟩)
        · have : (128 : Nat) ^ 9 = 9223372036854775808 := by decide
          rw [this] at hv; omega
        · have := h0 h1; omega
    · rw [uv_big hs]
      have hi9 : i < 9 := by
        rcases Nat.lt_or_ge i 9 with h | h
        · exact h
        · have : i = 9 := by omega
          subst this
          have : (128 : Nat) ^ 9 = 9223372036854775808 := by decide
          rw [this] at hv; omega
      show (if (i = 9 ∧ 1 < ((v % 128 + 128 : Nat) : Int)) ∨ (0 < i ∧ ((v % 128 + 128 : Nat) : Int) = 0) then _ else if ((v % 128 + 128 : Nat) : Int) < 128 then _ else rdU (i + 1) (n + ((((v % 128 + 128 : Nat) : Int)).toNat % 128) * 128 ^ i) (uv (v / 128) ++ r)) = _
      rw [if_neg (by omega), if_neg (by omega), Int.toNat_natCast, show (v % 128 + 128) % 128 = v % 128 by omega]
      have hp : (128 : Nat) ^ (i + 1) = 128 * 128 ^ i := by rw [Nat.pow_succ, Nat.mul_comm]
      have hsum : n + (v % 128) * 128 ^ i + (v / 128) * 128 ^ (i + 1) = n + v * 128 ^ i := by
        rw [hp, ← Nat.mul_assoc, Nat.add_assoc, ← Nat.add_mul]
        congr 2
        omega
      rw [ih (v / 128) (by omega) (i + 1) _ r (by omega) (fun _ => by omega) (by rw [hsum]; exact hv), hsum]
/-- what was read without an error is the encoding of what it gave -/
theorem rdU_back : ∀ (l : List Int) (i n v : Nat) (r : List Int), (∀ x ∈ l, 0 ≤ x ∧ x ≤ 255) → i ≤ 9 → n < 128 ^ i → rdU i n l = (v, r, 0) → ∃ u, v = n + u * 128 ^ i ∧ l = uv u ++ r ∧ v < 18446744073709551616 ∧ (0 < i → 0 < u)
  | [], _, _, _, _, _, _, _, h => by simp [rdU] at h
  | b :: l, i, n, v, r, hb, hi, hn, h => by
    have hb0 := hb b List.mem_cons_self
    rw [rdU] at h
    split at h
    · simp at h
    · rename_i hbad
      split at h
      · rename_i hlt
        simp only [Prod.mk.injEq, and_true] at h
        obtain ⟨rfl, rfl⟩ := h
        refine ⟨b.toNat, rfl, ?_, ?_, ?_⟩
        · rw [uv_small (by omega)]; simp; omega
        · rcases Nat.lt_or_ge i 9 with h9 | h9
          · have h1 : (128 : Nat) ^ i ≤ 128 ^ 8 := Nat.pow_le_pow_right (by omega) (by omega)
            have h2 : (128 : Nat) ^ 8 = 72057594037927936 := by decide
            have h3 : b.toNat * 128 ^ i ≤ 127 * 128 ^ i := Nat.mul_le_mul_right _ (by omega)
            omega
          · have : i = 9 := by omega
            subst this
            have h2 : (128 : Nat) ^ 9 = 9223372036854775808 := by decide
            rw [h2] at hn ⊢
            omega
        · intro h0
          rcases Nat.eq_zero_or_pos b.toNat with hz | hz
          · exact absurd (Or.inr ⟨h0, by omega⟩) hbad
          · exact hz
      · rename_i hge
        have h9 : i ≠ 9 := fun h9 => hbad (Or.inl ⟨h9, by omega⟩)
        have hp : (128 : Nat) ^ (i + 1) = 128 * 128 ^ i := by rw [Nat.pow_succ, Nat.mul_comm]
        have hm : (b.toNat % 128) * 128 ^ i ≤ 127 * 128 ^ i := Nat.mul_le_mul_right _ (by omega)
        obtain ⟨u, hv, hl, hlt, hpos⟩ := rdU_back l (i + 1) (n + (b.toNat % 128) * 128 ^ i) v r (fun x hx => hb x (List.mem_cons_of_mem _ hx)) (by omega) (by rw [hp]; omega) h
        have hu := hpos (by omega)
        refine ⟨u * 128 + b.toNat % 128, ?_, ?_, hlt, fun _ => by omega⟩
        · rw [hv, hp, Nat.add_mul, Nat.add_assoc, Nat.add_comm (u * 128 * 128 ^ i), Nat.mul_assoc u]
        · rw [uv_big (by omega), hl, show (u * 128 + b.toNat % 128) / 128 = u by omega]
          simp only [List.cons_append, List.cons.injEq, and_true]
          omega
def unzig (z : Nat) : Int := if z % 2 = 1 then -((z / 2 : Nat) : Int) - 1 else ((z / 2 : Nat) : Int)
theorem unzig_zig (n : Int) : unzig (zig n) = n := by
  unfold unzig zig
  by_cases h : 0 ≤ n
  · rw [if_pos h, if_neg (by omega)]; omega
  · rw [if_neg h, if_pos (by omega)]; omega
theorem zig_unzig (z : Nat) : zig (unzig z) = z := by
  unfold unzig zig
  by_cases h : z % 2 = 1
  · rw [if_pos h, if_neg (by omega)]; omega
  · rw [if_neg h, if_pos (by omega)]; omega
theorem unzig_range {z : Nat} (h : z < 18446744073709551616) : -9223372036854775808 ≤ unzig z ∧ unzig z ≤ 9223372036854775807 := by
  unfold unzig; split <;> omega

theorem and127_fin : ∀ x : Fin 256, bits .and .u8 ((x.val : Nat) : Int) 127 = ((x.val % 128 : Nat) : Int) := by decide +kernel
theorem and127 (x : Int) (h0 : 0 ≤ x) (h1 : x ≤ 255) : bits .and .u8 x 127 = ((x.toNat % 128 : Nat) : Int) := by
  have := and127_fin ⟨x.toNat, by omega⟩
  simp only at this
  rwa [show ((x.toNat : Nat) : Int) = x by omega] at this
theorem bits_or_u64 (a b : Nat) (ha : a < 18446744073709551616) (hb : b < 18446744073709551616) : bits .or .u64 (a : Int) (b : Int) = ((a ||| b : Nat) : Int) := by
  have e : bits .or .u64 (a : Int) (b : Int) = IntKind.u64.wrap ((BitVec.ofInt 64 (a : Int) ||| BitVec.ofInt 64 (b : Int)).toNat : Int) := rfl
  have hx : a ||| b < 2 ^ 64 := Nat.or_lt_two_pow (by omega) (by omega)
  rw [e, BitVec.toNat_or, BitVec.ofInt_natCast, BitVec.ofInt_natCast, BitVec.toNat_ofNat, BitVec.toNat_ofNat, Nat.mod_eq_of_lt (by omega), Nat.mod_eq_of_lt (by omega), IntKind.wrap_u64]
  omega
theorem pow_128 (i : Nat) : (128 : Nat) ^ i = 2 ^ (7 * i) := by rw [Nat.pow_mul]
theorem or_shift (b : Int) (m i : Nat) (h0 : 0 ≤ b) (h1 : b ≤ 255) (hm : m < 128 ^ i) (hlt : m + (b.toNat % 128) * 128 ^ i < 18446744073709551616) :
    bits .or .u64 (m : Int) (IntKind.u64.wrap (IntKind.u64.wrap (bits .and .u8 b 127) * 2 ^ (7 * i))) = ((m + (b.toNat % 128) * 128 ^ i : Nat) : Int) := by
  rw [and127 b h0 h1]
  have hw : ∀ x : Nat, x < 18446744073709551616 → IntKind.u64.wrap (x : Int) = (x : Int) := fun x hx => by rw [IntKind.wrap_u64]; omega
  rw [hw _ (by omega)]
  have e : (((b.toNat % 128 : Nat) : Int) * 2 ^ (7 * i)) = (((b.toNat % 128) * 128 ^ i : Nat) : Int) := by
    rw [pow_128]; simp
  rw [e, hw _ (by omega), bits_or_u64 _ _ (by omega) (by omega)]
  congr 1
  rw [pow_128] at hm ⊢
  rw [Nat.or_comm, Nat.mul_comm, ← Nat.two_pow_add_eq_or_of_lt hm, Nat.add_comm]

theorem shift_lt {b : Int} {m i : Nat} (h0 : 0 ≤ b) (hm : m < 128 ^ i) (hi : i ≤ 9) (h9 : ¬ (i = 9 ∧ 1 < b)) : m + (b.toNat % 128) * 128 ^ i < 18446744073709551616 ∧ (i ≠ 9 → m + (b.toNat % 128) * 128 ^ i < 128 ^ (i + 1)) := by
  have hp : (128 : Nat) ^ (i + 1) = 128 * 128 ^ i := by rw [Nat.pow_succ, Nat.mul_comm]
  have hk : (b.toNat % 128) * 128 ^ i ≤ 127 * 128 ^ i := Nat.mul_le_mul_right _ (by omega)
  have e9 : (128 : Nat) ^ 9 = 9223372036854775808 := by decide
  by_cases h : i = 9
  · subst h
    have hb : b ≤ 1 := by
      rcases Int.lt_or_le 1 b with h | h
      · exact absurd ⟨rfl, h⟩ h9
      · exact h
    refine ⟨?_, fun h => absurd rfl h⟩
    have : (b.toNat % 128) * 128 ^ 9 ≤ 1 * 128 ^ 9 := Nat.mul_le_mul_right _ (by omega)
    omega
  · have h8 : (128 : Nat) ^ (i + 1) ≤ 128 ^ 9 := Nat.pow_le_pow_right (by omega) (by omega)
    exact ⟨by omega, fun _ => by omega⟩
theorem rdU_err {i n : Nat} {b : Int} {r : List Int} (h : (i = 9 ∧ 1 < b) ∨ (0 < i ∧ b = 0)) : rdU i n (b :: r) = (0, r, 2) := by rw [rdU, if_pos h]
theorem rdU_last {i n : Nat} {b : Int} {r : List Int} (h0 : 0 ≤ b) (h : ¬ ((i = 9 ∧ 1 < b) ∨ (0 < i ∧ b = 0))) (hb : b < 128) : rdU i n (b :: r) = (n + (b.toNat % 128) * 128 ^ i, r, 0) := by
  rw [rdU, if_neg h, if_pos hb, show b.toNat % 128 = b.toNat by omega]
theorem rdU_more {i n : Nat} {b : Int} {r : List Int} (h : ¬ ((i = 9 ∧ 1 < b) ∨ (0 < i ∧ b = 0))) (hb : ¬ b < 128) : rdU i n (b :: r) = rdU (i + 1) (n + (b.toNat % 128) * 128 ^ i) r := by
  rw [rdU, if_neg h, if_neg hb]

theorem and1_u64 (z : Nat) (hz : z < 18446744073709551616) : bits .and .u64 (z : Int) 1 = ((z % 2 : Nat) : Int) := by
  have e : bits .and .u64 (z : Int) 1 = IntKind.u64.wrap ((BitVec.ofInt 64 (z : Int) &&& BitVec.ofInt 64 1).toNat : Int) := rfl
  have e1 : BitVec.ofInt 64 1 = 1#64 := by decide
  rw [e, e1, BitVec.toNat_and, BitVec.ofInt_natCast, BitVec.toNat_ofNat, Nat.mod_eq_of_lt (by omega)]
  show IntKind.u64.wrap ((z &&& 1 : Nat) : Int) = _
  rw [Nat.and_one_is_mod, IntKind.wrap_u64]; omega
theorem unzig_bits (z : Nat) (hz : z < 18446744073709551616) : bits .xor .i64 (wrap64 ((z : Int) / 2)) (wrap64 (-wrap64 (bits .and .u64 (z : Int) 1))) = unzig z := by
  rw [and1_u64 z hz, IntWalk.wrap64_in _ ⟨by omega, by omega⟩, IntWalk.wrap64_in ((z % 2 : Nat) : Int) ⟨by omega, by omega⟩, IntWalk.wrap64_in _ ⟨by omega, by omega⟩]
  have e : ∀ a b : Int, bits .xor .i64 a b = IntKind.i64.wrap ((BitVec.ofInt 64 a ^^^ BitVec.ofInt 64 b).toNat : Int) := fun _ _ => rfl
  rw [e, show (z : Int) / 2 = ((z / 2 : Nat) : Int) by omega]
  unfold unzig
  by_cases h : z % 2 = 1
  · rw [if_pos h, h]
    have e3 : BitVec.ofInt 64 (-((1 : Nat) : Int)) = BitVec.allOnes 64 := by decide
    rw [e3, BitVec.xor_allOnes, BitVec.toNat_not, BitVec.ofInt_natCast, BitVec.toNat_ofNat, Nat.mod_eq_of_lt (by omega), IntKind.wrap_i64]
    omega
  · rw [if_neg h, show z % 2 = 0 by omega]
    have e3 : BitVec.ofInt 64 (-((0 : Nat) : Int)) = 0#64 := by decide
    rw [e3, BitVec.xor_zero, BitVec.ofInt_natCast, BitVec.toNat_ofNat, Nat.mod_eq_of_lt (by omega), IntKind.wrap_i64]
    omega
end Go.Proofs.Ythcicfolabngcaa
/- Contracts of the reader of package wire. -/
namespace Go.Proofs.Ythcicfolabngcaa
open Go.RowKit

/-- the bytes lie in a block below g -/
def bnd (g : Nat) (A : Option Addr) (n : Nat) : Prop := ∀ b o, A = some ⟨b, o, none⟩ → 0 < n → b < g
/-- block g is a reader: the bytes that are left, and the error; the bytes lie below it -/
def Rd (w : World) (g : Nat) (rest : List Int) (err : Int) : Prop := ∃ A n c, w.heap[g]? = some (.cells #[.slice A n c, .int .i64 err] 105 (0, 0)) ∧ Nums .u8 w A n c rest ∧ bnd g A n
def octS (rest : List Int) (err : Int) : Int × List Int × Int := if err ≠ 0 then (0, rest, err) else match rest with | [] => (0, [], 3) | b :: r => (b, r, 0)
def RetRd (k : IntKind) (w : World) (g : Nat) (r : Int × List Int × Int) (e : Ending) (w' : World) : Prop := e = .returned (.int k r.1) ∧ Rd w' g r.2.1 r.2.2 ∧ w.grownBy w' (some g)

theorem bnd.ne {g : Nat} {A : Option Addr} {n : Nat} (h : bnd g A n) : ∀ b o, A = some ⟨b, o, none⟩ → 0 < n → b ≠ g := fun b o hA hn => by have := h b o hA hn; omega
/-- bytes that are read stay while the reader's own block is written -/
theorem nums_far {w w' : World} {A : Option Addr} {n c g : Nat} {l : List Int} (h : Nums .u8 w A n c l) (hG : w.grownBy w' (some g)) (hne : ∀ b o, A = some ⟨b, o, none⟩ → 0 < n → b ≠ g) : Nums .u8 w' A n c l :=
  ⟨h.len, h.cap, h.mx, h.wf, fun hn => by
    obtain ⟨b, o, h1, h2, h3⟩ := h.at_ hn
    refine ⟨b, o, h1, Nat.lt_of_lt_of_le h2 hG.size, fun i hi => ?_⟩
    rw [← h3 i hi]
    exact World.cell?_of_block (hG.block b h2 (fun e => hne b o h1 hn (by injection e)))⟩
theorem grownBy_set (w : World) (g i : Nat) (u : Value) : w.grownBy (w.setCell ⟨g, i, none⟩ u) (some g) :=
  ⟨rfl, rfl, rfl, by simp [World.setCell], fun k _ hne => Below.heap_setCell w _ u k (fun e => hne (by rw [e]))⟩
theorem Nums.tail {w : World} {A : Option Addr} {n c : Nat} {x : Int} {l : List Int} {b o : Nat} (h : Nums .u8 w A n c (x :: l)) (hA : A = some ⟨b, o, none⟩) (A' : Option Addr) (hA' : 1 < n → A' = some ⟨b, o + 1, none⟩) : Nums .u8 w A' (n - 1) (c - 1) l := by
  have hl := h.len
  simp only [List.length_cons] at hl
  refine ⟨by omega, by have := h.cap; omega, by have := h.mx; omega, fun y hy => h.wf y (List.mem_cons_of_mem _ hy), fun hn => ?_⟩
  obtain ⟨b', o', h1, h2, h3⟩ := h.at_ (by omega)
  rw [hA] at h1
  injection h1 with h1
  injection h1 with e1 e2
  subst e1 e2
  refine ⟨b, o + 1, hA' (by omega), h2, fun i hi => ?_⟩
  have := h3 (i + 1) (by simp; exact hi)
  simp only [List.getElem_cons_succ] at this
  rw [← this]
  congr 2
  omega

set_option maxHeartbeats 1000000 in
theorem octet_c (g : Nat) (rest : List Int) (err : Int) (w : World) (h : Rd w g rest err) :
    Calls Try.prog 71 #[.pointer (some ⟨g, 0, none⟩)] w (RetRd .u8 w g (octS rest err)) := by
  obtain ⟨A, n, c, hg, hN, hbd⟩ := h
  have HBD := Lib.hid hbd
  clear hbd
  have hc0 : w.cell? ⟨g, 0, none⟩ = some (.slice A n c) := by rw [cell_of_row _ _ _ _ _ _ hg]; rfl
  have hc1 : w.cell? ⟨g, 1, none⟩ = some (.int .i64 err) := by rw [cell_of_row _ _ _ _ _ _ hg]; rfl
  have hf0 : w.frozen? ⟨g, 0, none⟩ = false := frozen_of_row _ _ _ _ _ hg
  have hf1 : w.frozen? ⟨g, 1, none⟩ = false := frozen_of_row _ _ _ _ _ hg
  have HG := Lib.hid hg
  clear hg
  have hm := hN.n63
  by_cases he : err = 0
  · have HE := Lib.hid he
    have hd : (err != 0) = false := by simp [he]
    clear he
    cases rest with
    | nil =>
      have h0 : n = 0 := by rw [← hN.len]; rfl
      have hz : ((n : Int) == 0) = true := by simp [h0]
      clear h0
      go_enter Try.func71, Try.ntmps71
      go_wp2
      go_ret
      refine ⟨ret_int (by simp [octS, HE.out]), ?_, grownBy_set _ _ _ _⟩
      simp only [octS, HE.out]
      exact ⟨A, n, c, by rw [heap_setCell_same _ _ _ _ _ _ HG.out]; rfl, nums_far hN (grownBy_set _ _ _ _) HBD.out.ne, HBD.out⟩
    | cons b r =>
      have hlen := hN.len
      simp only [List.length_cons] at hlen
      have hz : ((n : Int) == 0) = false := by simp; omega
      have hn1 : (1 : Int) ≤ (n : Int) := by omega
      have hn0 : (0 : Int) < (n : Int) := by omega
      have hcap := hN.cap
      have hcc := hN.c63
      obtain ⟨bb, o, x, rfl, hb, hx, hwx, hcx⟩ := hN.get (i := 0) (by omega)
      simp only [List.getElem?_cons_zero, Option.some.injEq] at hx
      subst hx
      rw [Nat.add_zero] at hcx
      have hbg : bb < g := HBD.out bb o rfl (by omega)
      have hne : bb ≠ g := by omega
      clear hlen
      by_cases hc1e : c = 1
      · subst hc1e
        go_enter Try.func71, Try.ntmps71
        go_wp2
        go_ret
        refine ⟨ret_int (by simp [octS, HE.out]), ?_, grownBy_set _ _ _ _⟩
        simp only [octS, HE.out]
        exact ⟨_, _, _, by rw [heap_setCell_same _ _ _ _ _ _ HG.out, HE.out]; rfl, nums_far (show Nums .u8 w (some ⟨bb, o, none⟩) 0 0 r from by have h1 := hN.tail rfl (some ⟨bb, o, none⟩) (fun h => by omega); rwa [show n - 1 = 0 by omega] at h1) (grownBy_set _ _ _ _) (fun b' o' hA hn => by injection hA with hA; injection hA with e1 e2; rw [← e1]; exact hne), fun b' o' hA hn => by injection hA with hA; injection hA with e1 e2; rw [← e1]; exact hbg⟩
      · go_enter Try.func71, Try.ntmps71
        go_wp2
        go_ret
        refine ⟨ret_int (by simp [octS, HE.out]), ?_, grownBy_set _ _ _ _⟩
        simp only [octS, HE.out]
        exact ⟨_, _, _, by rw [heap_setCell_same _ _ _ _ _ _ HG.out, HE.out]; rfl, nums_far (hN.tail rfl (some ⟨bb, o + 1, none⟩) (fun _ => rfl)) (grownBy_set _ _ _ _) (fun b' o' hA hn => by injection hA with hA; injection hA with e1 e2; rw [← e1]; exact hne), fun b' o' hA hn => by injection hA with hA; injection hA with e1 e2; rw [← e1]; exact hbg⟩
  · have hd : (err != 0) = true := by simpa using he
    go_enter Try.func71, Try.ntmps71
    go_wp2
    go_ret
    refine ⟨ret_int (by simp [octS, he]), ?_, World.grownBy.refl _ _⟩
    simp only [octS, he, ne_eq, not_false_eq_true, if_true]
    exact ⟨A, n, c, HG.out, hN, HBD.out⟩

def rdUS (rest : List Int) (err : Int) : Int × List Int × Int := if err ≠ 0 then (0, rest, err) else (((rdU 0 0 rest).1 : Int), (rdU 0 0 rest).2.1, (rdU 0 0 rest).2.2)
theorem Rd.cells {w : World} {g : Nat} {rest : List Int} {err : Int} (h : Rd w g rest err) : w.cell? ⟨g, 1, none⟩ = some (.int .i64 err) ∧ w.frozen? ⟨g, 1, none⟩ = false ∧ ∀ e2, Rd (w.setCell ⟨g, 1, none⟩ (.int .i64 e2)) g rest e2 := by
  obtain ⟨A, n, c, hg, hN, hbd⟩ := h
  refine ⟨by rw [cell_of_row _ _ _ _ _ _ hg]; rfl, frozen_of_row _ _ _ _ _ hg, fun e2 => ⟨A, n, c, by rw [heap_setCell_same _ _ _ _ _ _ hg]; rfl, nums_far hN (grownBy_set _ _ _ _) hbd.ne, hbd⟩⟩
theorem grownBy_trans {a b c : World} {row : Option Nat} (h : a.grownBy b row) (k : b.grownBy c row) : a.grownBy c row :=
  ⟨k.os.trans h.os, k.tape.trans h.tape, k.output.trans h.output, Nat.le_trans h.size k.size, fun i hi hne => (k.block i (Nat.lt_of_lt_of_le hi h.size) hne).trans (h.block i hi hne)⟩
theorem Rd.wf {w : World} {g : Nat} {b : Int} {rest : List Int} {err : Int} (h : Rd w g (b :: rest) err) : 0 ≤ b ∧ b ≤ 255 := by
  obtain ⟨A, n, c, hg, hN, _⟩ := h
  exact wf_u8 (hN.wf b List.mem_cons_self)

set_option maxHeartbeats 2000000 in
theorem rUint_c (g : Nat) (rest : List Int) (err : Int) (w : World) (h : Rd w g rest err) :
    Calls Try.prog 79 #[.pointer (some ⟨g, 0, none⟩)] w (RetRd .u64 w g (rdUS rest err)) := by
  by_cases he : err = 0
  · subst he
    go_enter Try.func79, Try.ntmps79
    go_wp2
    go_loopw [3, 4] (fun tn ti wr => ∃ (i m : Nat) (r : List Int), ti = .int .i64 i ∧ tn = .int .u64 m ∧ i ≤ 9 ∧ Hid (m < 128 ^ i) ∧ Rd wr g r 0 ∧ w.grownBy wr (some g) ∧ Hid (rdU i m r = rdU 0 0 rest)) (fun _ ti _ => 10 - (intOf ti).toNat)
    case atStart => exact ⟨0, 0, rest, rfl, rfl, by omega, show 0 < 128 ^ 0 by decide, h, World.grownBy.refl _ _, rfl⟩
    case round =>
      obtain ⟨i, m, r, rfl, rfl, hi, hm, hR, hG, hs⟩ := hrel
      cases r with
      | nil =>
        go_wp2_with fail
        refine (octet_c _ _ _ _ hR).mono ?_
        rintro e w1 ⟨rfl, hR1, hG1⟩
        obtain ⟨hc1, hf1, hset⟩ := hR1.cells
        simp only [octS, ne_eq, not_true_eq_false, if_false] at hc1
        go_wp2
        go_ret
        refine ⟨ret_int (by simp [rdUS, ← hs.out, rdU]), ?_, grownBy_trans hG hG1⟩
        simp only [rdUS, ← hs.out, rdU]
        exact hR1
      | cons b r =>
        obtain ⟨b0, b1⟩ := hR.wf
        go_wp2_with fail
        refine (octet_c _ _ _ _ hR).mono ?_
        rintro e w1 ⟨rfl, hR1, hG1⟩
        obtain ⟨hc1, hf1, hset⟩ := hR1.cells
        simp only [octS, ne_eq, not_true_eq_false, if_false] at hc1 hset hR1 ⊢
        have HSET := Lib.hid hset
        clear hset
        have hiI : (i : Int) ≤ 9 := by omega
        by_cases hbad : (i = 9 ∧ 1 < b) ∨ (0 < i ∧ b = 0)
        · have HF := Lib.hid (rdU_err (n := m) (r := r) hbad)
          by_cases h9 : i = 9
          · have h9b : ((i : Int) == 9) = true := by simp; omega
            by_cases h1b : 1 < b
            · clear hbad h9
              go_wp2
              go_ret
              refine ⟨ret_int (by simp [rdUS, ← hs.out, HF.out]), ?_, grownBy_trans (grownBy_trans hG hG1) (grownBy_set _ _ _ _)⟩
              simp only [rdUS, ← hs.out, HF.out]
              exact HSET.out 2
            · have hb0 : (b == 0) = true := by simp; omega
              have hi0 : (0 : Int) < (i : Int) := by omega
              have d1b : decide (1 < b) = false := by simpa using h1b
              clear hbad h9
              go_wp2
              go_ret
              refine ⟨ret_int (by simp [rdUS, ← hs.out, HF.out]), ?_, grownBy_trans (grownBy_trans hG hG1) (grownBy_set _ _ _ _)⟩
              simp only [rdUS, ← hs.out, HF.out]
              exact HSET.out 2
          · have h9b : ((i : Int) == 9) = false := by simp; omega
            have hb0 : (b == 0) = true := by simp; omega
            have hi0 : (0 : Int) < (i : Int) := by omega
            clear hbad h9
            go_wp2
            go_ret
            refine ⟨ret_int (by simp [rdUS, ← hs.out, HF.out]), ?_, grownBy_trans (grownBy_trans hG hG1) (grownBy_set _ _ _ _)⟩
            simp only [rdUS, ← hs.out, HF.out]
            exact HSET.out 2
        · have hsl := shift_lt (i := i) b0 hm.out hi (fun h => hbad (.inl h))
          have HO := Lib.hid (or_shift b m i b0 b1 hm.out hsl.1)
          have HSL := Lib.hid hsl
          clear hsl
          have hz0 : (0 : Int) < (i : Int) → (b == 0) = false := fun h => by simp; omega
          by_cases h128 : b < 128
          · have HF := Lib.hid (rdU_last (n := m) (r := r) b0 hbad h128)
            by_cases h9 : i = 9
            · have h9b : ((i : Int) == 9) = true := by simp; omega
              have h1b : ¬ 1 < b := fun h => hbad (.inl ⟨h9, h⟩)
              have d1b : decide (1 < b) = false := by simpa using h1b
              have hi0 : (0 : Int) < (i : Int) := by omega
              have hb0 := hz0 hi0
              clear hbad h9 hz0
              go_wp2
              go_ret
              refine ⟨ret_int (by simp only [rdUS, ← hs.out, HF.out]; exact HO.out), ?_, grownBy_trans hG hG1⟩
              simp only [rdUS, ← hs.out, HF.out]
              exact hR1
            · have h9b : ((i : Int) == 9) = false := by simp; omega
              by_cases hi0 : (0 : Int) < (i : Int)
              · have hb0 := hz0 hi0
                clear hbad h9 hz0
                go_wp2
                go_ret
                refine ⟨ret_int (by simp only [rdUS, ← hs.out, HF.out]; exact HO.out), ?_, grownBy_trans hG hG1⟩
                simp only [rdUS, ← hs.out, HF.out]
                exact hR1
              · have di0 : decide ((0 : Int) < (i : Int)) = false := by simpa using hi0
                clear hbad h9 hz0
                go_wp2
                go_ret
                refine ⟨ret_int (by simp only [rdUS, ← hs.out, HF.out]; exact HO.out), ?_, grownBy_trans hG hG1⟩
                simp only [rdUS, ← hs.out, HF.out]
                exact hR1
          · have HF := Lib.hid (rdU_more (n := m) (r := r) hbad h128)
            have h9 : i ≠ 9 := fun h => hbad (.inl ⟨h, by omega⟩)
            have h9b : ((i : Int) == 9) = false := by simp; omega
            have hi8 : i < 9 := by omega
            have H9 := Lib.hid h9
            clear hbad hz0 h9
            have hb0 : (b == 0) = false := by simp; omega
            by_cases hi0 : (0 : Int) < (i : Int)
            · go_wp2
              go_roundw
              case rel => exact ⟨i + 1, _, r, by go_num, congrArg (Value.int .u64) HO.out, by omega, HSL.out.2 H9.out, hR1, grownBy_trans hG hG1, show _ = _ by rw [← hs.out, HF.out]⟩
              case measure => simp [intOf]; omega
            · have di0 : decide ((0 : Int) < (i : Int)) = false := by simpa using hi0
              go_wp2
              go_roundw
              case rel => exact ⟨i + 1, _, r, by go_num, congrArg (Value.int .u64) HO.out, by omega, HSL.out.2 H9.out, hR1, grownBy_trans hG hG1, show _ = _ by rw [← hs.out, HF.out]⟩
              case measure => simp [intOf]; omega
  · have hd : (err != 0) = true := by simpa using he
    go_enter Try.func79, Try.ntmps79
    go_wp2
    refine wp_loop_rounds 1 ?_; rw [rounds_succ]
    go_wp2_with fail
    refine (octet_c _ _ _ _ h).mono ?_
    rintro e w1 ⟨rfl, hR1, hG1⟩
    have e1 : octS rest err = (0, rest, err) := by simp [octS, he]
    rw [e1] at hR1
    obtain ⟨hc1, hf1, hset⟩ := hR1.cells
    clear hset e1
    go_wp2
    go_ret
    refine ⟨ret_int (by simp [rdUS, he]), ?_, hG1⟩
    simp only [rdUS, he, ne_eq, not_false_eq_true, if_true]
    exact hR1
end Go.Proofs.Ythcicfolabngcaa
/- The numbers of the files that are not empty; a crash: plain. -/
namespace Go.Proofs.Ythcicfolabngcaa

/-- the numbers of the files that are not empty, ascending -/
def liveN (b : Int → List Int) : List Nat := (List.range 64).filter fun i : Nat => decide (b i ≠ [])
def liveI (b : Int → List Int) : List Int := (liveN b).map fun i : Nat => (i : Int)
theorem mem_liveN {b : Int → List Int} {i : Nat} : i ∈ liveN b ↔ i < 64 ∧ b i ≠ [] := by simp [liveN]
theorem mem_liveI {s : DS} (h : DOk s) {x : Int} : x ∈ liveI s.b ↔ s.b x ≠ [] := by
  unfold liveI
  rw [List.mem_map]
  constructor
  · rintro ⟨i, hi, rfl⟩; exact (mem_liveN.1 hi).2
  · intro hx
    have := isF_iff.1 (h.ne hx)
    exact ⟨x.toNat, mem_liveN.2 ⟨by omega, by rwa [show ((x.toNat : Nat) : Int) = x by omega]⟩, by omega⟩
theorem liveN_sorted (b : Int → List Int) : (liveN b).Pairwise (· < ·) := List.Pairwise.filter _ List.pairwise_lt_range
theorem liveI_sorted (b : Int → List Int) : (liveI b).Pairwise (· < ·) := by
  unfold liveI
  exact List.pairwise_map.2 ((liveN_sorted b).imp fun h => by omega)
theorem liveI_nodup (b : Int → List Int) : (liveI b).Nodup := (liveI_sorted b).imp fun h => by omega
theorem liveI_len (b : Int → List Int) : (liveI b).length ≤ 64 := by
  unfold liveI liveN
  rw [List.length_map]
  have := List.length_filter_le (fun i : Nat => decide (b i ≠ [])) (List.range 64)
  simpa using this
/-- a list with the same members, each once, sorts to it -/
theorem sort_live {s : DS} (h : DOk s) {l : List Int} (hn : l.Nodup) (hm : ∀ x, x ∈ l ↔ s.b x ≠ []) : l.mergeSort (fun x y => decide (x ≤ y)) = liveI s.b := by
  have hp : l.Perm (liveI s.b) := (List.perm_ext_iff_of_nodup hn (liveI_nodup _)).2 fun x => by rw [hm, mem_liveI h]
  have hs1 : (l.mergeSort fun x y => decide (x ≤ y)).Pairwise fun x y => x ≤ y := by
    have := List.pairwise_mergeSort (le := fun x y : Int => decide (x ≤ y)) (fun a b c h1 h2 => by simp at *; omega) (fun a b => by simp; omega) l
    exact this.imp (fun h => by simpa using h)
  have hs2 : (liveI s.b).Pairwise fun x y => x ≤ y := (liveI_sorted _).imp fun h => by omega
  exact List.Perm.eq_of_pairwise (le := fun x y : Int => x ≤ y) (fun a b _ _ h1 h2 => by omega) hs1 hs2 ((List.mergeSort_perm _ _).trans hp)

/-- how many loose bytes of file i survive, if it is the j-th one -/
def keptF (s : DS) (keep : List Int) (j : Nat) (i : Int) : Nat := match keep[j]? with | some x => (max 0 (min x ((s.b i).length - (s.firm i : Nat)))).toNat | none => 0
theorem keptF_le (s : DS) (h : DOk s) (keep : List Int) (j : Nat) (i : Int) : s.firm i + keptF s keep j i ≤ (s.b i).length := by
  have := h.firm i
  unfold keptF
  split <;> omega
/-- the first loop of a crash: the files from the j-th one on -/
def loseF (keep : List Int) : List Int → Nat → DS × Nat → DS × Nat
  | [], _, st => st
  | i :: r, j, (s, n) => loseF keep r (j + 1) (cutS s i (s.firm i + keptF s keep j i), n + keptF s keep j i)
/-- the byte in which bit p (0 the highest) is inverted -/
def flipB (x : Int) (p : Nat) : Int := (x.toNat ^^^ (128 >>> p) : Nat)
/-- the bit-th loose bit is inverted -/
def invertF (s : DS) : List Int → Nat → DS
  | [], _ => s
  | i :: r, bit =>
    if bit < 8 * ((s.b i).length - s.firm i) then { s with b := upd s.b i ((s.b i).set (s.firm i + bit / 8) (flipB ((s.b i).getD (s.firm i + bit / 8) 0) (bit % 8))) }
    else invertF s r (bit - 8 * ((s.b i).length - s.firm i))
def calmS (s : DS) : DS := { firmS s with off := false, plan := -1 }
/-- Crash -/
def crashS (s : DS) (keep : List Int) (flip : Int) : DS :=
  let r := loseF keep (liveI s.b) 0 (s, 0)
  calmS (if 0 ≤ flip ∧ 0 < r.2 then invertF r.1 (liveI r.1.b) (flip % (8 * r.2 : Nat)).toNat else r.1)
theorem DOk.lose {keep : List Int} : ∀ (l : List Int) (j n : Nat) {s : DS}, DOk s → DOk (loseF keep l j (s, n)).1
  | [], _, _, _, h => h
  | i :: r, j, _, _, h => DOk.lose r (j + 1) _ (h.cut i _)
theorem usedF_same {b b' : Int → List Int} (h : ∀ i, (b i).length = (b' i).length) : usedF b = usedF b' := sumTo_ext 64 fun i _ => h i
theorem DOk.invert : ∀ (l : List Int) (bit : Nat) {s : DS}, DOk s → DOk (invertF s l bit)
  | [], _, _, h => h
  | i :: r, bit, s, h => by
    unfold invertF
    split
    · have hl : ∀ j, (upd s.b i ((s.b i).set (s.firm i + bit / 8) (flipB ((s.b i).getD (s.firm i + bit / 8) 0) (bit % 8))) j).length = (s.b j).length := fun j => by
        by_cases e : j = i
        · rw [e, upd_same, List.length_set]
        · rw [upd_other _ _ e]
      refine ⟨fun j hj => ?_, fun j => by rw [show _ = _ from hl j]; exact h.firm j, h.room, by rw [show usedF _ = usedF s.b from usedF_same hl]; exact h.used, h.plan⟩
      have := hl j
      rw [h.out j hj] at this
      exact List.eq_nil_of_length_eq_zero this
    · exact DOk.invert r _ h
theorem DOk.calm {s : DS} (h : DOk s) : DOk (calmS s) := ⟨h.out, fun _ => Nat.le_refl _, h.room, h.used, by simp only [calmS]; omega⟩
theorem DOk.crash {s : DS} (h : DOk s) (keep : List Int) (flip : Int) : DOk (crashS s keep flip) := by
  unfold crashS
  refine DOk.calm ?_
  split
  · exact DOk.invert _ _ (DOk.lose _ _ _ h)
  · exact DOk.lose _ _ _ h
end Go.Proofs.Ythcicfolabngcaa
/- Plain: the example of the section; the model's way to invert a bit. -/
namespace Go.Proofs.Ythcicfolabngcaa

def lv0 : DS := newS 100
def lv1 : DS := (appR lv0 3 [1, 2]).2
def lv2 : DS := (syncR lv1).2
def lv3 : DS := (appR lv2 3 [255]).2
def lv4 : DS := crashS lv3 [1] 7
def lc4 : DS := crashS lv3 [] 7
def lc5 : DS := armS lc4 0
theorem lv_d : readR lv4 3 = ([1, 2, 254], 0) := by decide +kernel
theorem lv_c : readR lc4 3 = ([1, 2], 0) := by decide +kernel
theorem lv_h : (appR lc5 1 []).1 = 23 := by decide +kernel
theorem lv_i : readR (appR lc5 1 []).2 3 = ([], 23) := by decide +kernel

theorem loseF_add (keep : List Int) : ∀ (l : List Int) (j : Nat) (s : DS) (n m : Nat), loseF keep l j (s, n + m) = ((loseF keep l j (s, n)).1, (loseF keep l j (s, n)).2 + m)
  | [], _, _, _, _ => rfl
  | i :: r, j, s, n, m => by simp only [loseF]; rw [show n + m + keptF s keep j i = n + keptF s keep j i + m by omega]; exact loseF_add keep r (j + 1) _ _ m
/-- what a crash leaves is a part of what was there -/
theorem loseF_b (keep : List Int) : ∀ (l : List Int) (j n : Nat) (s : DS) (i : Int), ((loseF keep l j (s, n)).1.b i).length ≤ (s.b i).length
  | [], _, _, _, _ => Nat.le_refl _
  | x :: r, j, n, s, i => by
    refine Nat.le_trans (loseF_b keep r (j + 1) _ _ i) ?_
    simp only [cutS]
    by_cases e : i = x
    · rw [e, upd_same, List.length_take]; omega
    · rw [upd_other _ _ e]; exact Nat.le_refl _
theorem loseF_out (keep : List Int) : ∀ (l : List Int) (j n : Nat) (s : DS) (i : Int), i ∉ l → (loseF keep l j (s, n)).1.b i = s.b i ∧ (loseF keep l j (s, n)).1.firm i = s.firm i
  | [], _, _, _, _, _ => ⟨rfl, rfl⟩
  | x :: r, j, n, s, i, h => by
    have h1 : i ≠ x := fun e => h (by rw [e]; simp)
    have := loseF_out keep r (j + 1) (n + keptF s keep j x) (cutS s x (s.firm x + keptF s keep j x)) i (fun e => h (List.mem_cons_of_mem _ e))
    simp only [cutS, upd_other _ _ h1] at this
    exact this
/-- the files that lost all bear no loose bytes -/
theorem invertF_filter : ∀ (l : List Int) (s : DS) (bit : Nat), invertF s (l.filter fun i => decide (s.b i ≠ [])) bit = invertF s l bit
  | [], _, _ => rfl
  | i :: r, s, bit => by
    by_cases e : s.b i = []
    · rw [List.filter_cons_of_neg (by simp [e]), invertF_filter r s bit]
      show _ = invertF s (i :: r) bit
      rw [invertF, e]
      simp
    · rw [List.filter_cons_of_pos (by simp [e])]
      simp only [invertF]
      rw [invertF_filter r s _]
theorem liveI_of_sub {s s' : DS} (h : ∀ i, s.b i = [] → s'.b i = []) : liveI s'.b = (liveI s.b).filter fun i => decide (s'.b i ≠ []) := by
  unfold liveI liveN
  rw [List.filter_map, List.filter_filter]
  congr 1
  refine List.filter_congr fun i _ => ?_
  simp only [Function.comp]
  by_cases e : s'.b i = []
  · simp [e]
  · have : s.b i ≠ [] := fun e' => e (h i e')
    simp [e, this]
theorem invertF_live {s s' : DS} (h : ∀ i, s.b i = [] → s'.b i = []) (bit : Nat) : invertF s' (liveI s'.b) bit = invertF s' (liveI s.b) bit := by
  rw [liveI_of_sub h, invertF_filter]
theorem flipB_eq (x : Int) {p : Nat} (hp : p < 8) : ((x.toNat ^^^ (1 <<< (7 - p)) : Nat) : Int) = flipB x p := by
  unfold flipB
  have : (1 <<< (7 - p) : Nat) = 128 >>> p := by
    rcases p with _ | _ | _ | _ | _ | _ | _ | _ | p <;> first | rfl | omega
  rw [this]
end Go.Proofs.Ythcicfolabngcaa
/- Int and End of the reader; Read. -/
namespace Go.Proofs.Ythcicfolabngcaa
open Go.RowKit

set_option maxHeartbeats 1000000 in
theorem unzigzag_c (z : Nat) (w : World) (hz : z < 18446744073709551616) :
    Calls Try.prog 78 #[.int .u64 z] w fun e w' => e = .returned (.int .i64 (unzig z)) ∧ w = w' := by
  have HZ := Lib.hid (unzig_bits z hz)
  clear hz
  go_enter Try.func78, Try.ntmps78
  go_wp2
  go_ret
  exact ⟨ret_int HZ.out, rfl⟩

def rdIS (rest : List Int) (err : Int) : Int × List Int × Int := (unzig (rdUS rest err).1.toNat, (rdUS rest err).2.1, (rdUS rest err).2.2)
theorem Rd.bytes {w : World} {g : Nat} {rest : List Int} {err : Int} (h : Rd w g rest err) : ∀ x ∈ rest, 0 ≤ x ∧ x ≤ 255 := by
  obtain ⟨A, n, c, hg, hN, _⟩ := h
  exact fun x hx => wf_u8 (hN.wf x hx)
theorem rdU_fits {l : List Int} (hb : ∀ x ∈ l, 0 ≤ x ∧ x ≤ 255) : ∀ (i n : Nat), i ≤ 9 → n < 128 ^ i → (rdU i n l).1 < 18446744073709551616 := by
  induction l with
  | nil => intro i n _ _; simp [rdU]
  | cons b l ih =>
    intro i n hi hn
    have hb0 := hb b List.mem_cons_self
    by_cases hbad : (i = 9 ∧ 1 < b) ∨ (0 < i ∧ b = 0)
    · rw [rdU_err hbad]; simp
    · have hsl := shift_lt (i := i) hb0.1 hn hi (fun h => hbad (.inl h))
      by_cases h128 : b < 128
      · rw [rdU_last hb0.1 hbad h128]; exact hsl.1
      · rw [rdU_more hbad h128]
        have h9 : i ≠ 9 := fun h => hbad (.inl ⟨h, by omega⟩)
        exact ih (fun x hx => hb x (List.mem_cons_of_mem _ hx)) (i + 1) _ (by omega) (hsl.2 h9)
theorem rdUS_nat {rest : List Int} {err : Int} (hb : ∀ x ∈ rest, 0 ≤ x ∧ x ≤ 255) : ∃ z : Nat, (rdUS rest err).1 = (z : Int) ∧ z < 18446744073709551616 := by
  unfold rdUS
  split
  · exact ⟨0, rfl, by omega⟩
  · exact ⟨_, rfl, rdU_fits hb 0 0 (by omega) (by decide)⟩

set_option maxHeartbeats 1000000 in
theorem rInt_c (g : Nat) (rest : List Int) (err : Int) (w : World) (h : Rd w g rest err) :
    Calls Try.prog 67 #[.pointer (some ⟨g, 0, none⟩)] w (RetRd .i64 w g (rdIS rest err)) := by
  obtain ⟨z, hz, hzl⟩ := rdUS_nat (err := err) h.bytes
  have HZ := Lib.hid hz
  have HL := Lib.hid hzl
  clear hz hzl
  go_enter Try.func67, Try.ntmps67
  go_wp2_with fail
  refine (rUint_c _ _ _ _ h).mono ?_
  rintro e w1 ⟨rfl, hR1, hG1⟩
  rw [HZ.out]
  go_wp2_with (go_at_call 78; refine (unzigzag_c _ _ HL.out).mono ?_; rintro e w' ⟨rfl, rfl⟩)
  go_ret
  exact ⟨ret_int (by simp [rdIS, HZ.out]), hR1, hG1⟩

def endS (rest : List Int) (err : Int) : Int := if err ≠ 0 then err else if rest = [] then 0 else 2
set_option maxHeartbeats 1000000 in
theorem rEnd_c (g : Nat) (rest : List Int) (err : Int) (w : World) (h : Rd w g rest err) :
    Calls Try.prog 42 #[.pointer (some ⟨g, 0, none⟩)] w fun e w' => e = .returned (.int .i64 (endS rest err)) ∧ w = w' := by
  obtain ⟨A, n, c, hg, hN, _⟩ := h
  have hc0 : w.cell? ⟨g, 0, none⟩ = some (.slice A n c) := by rw [cell_of_row _ _ _ _ _ _ hg]; rfl
  have hc1 : w.cell? ⟨g, 1, none⟩ = some (.int .i64 err) := by rw [cell_of_row _ _ _ _ _ _ hg]; rfl
  clear hg
  have hlen := hN.len
  by_cases he : err = 0
  · have hd : (err != 0) = false := by simp [he]
    by_cases hn : (0 : Int) < (n : Int)
    · have HF := Lib.hid (show endS rest err = 2 by
        have : rest ≠ [] := fun h => by rw [h] at hlen; simp at hlen; omega
        simp [endS, he, this])
      clear he hlen
      go_enter Try.func42, Try.ntmps42
      go_wp2
      go_ret
      exact ⟨ret_int HF.out.symm, rfl⟩
    · have HF := Lib.hid (show endS rest err = 0 by
        have : rest = [] := List.eq_nil_of_length_eq_zero (by omega)
        simp [endS, he, this])
      clear he hlen
      go_enter Try.func42, Try.ntmps42
      go_wp2
      go_ret
      exact ⟨ret_int HF.out.symm, rfl⟩
  · have hd : (err != 0) = true := by simpa using he
    have HF := Lib.hid (show endS rest err = err by simp [endS, he])
    clear he hlen
    go_enter Try.func42, Try.ntmps42
    go_wp2
    go_ret
    exact ⟨ret_int HF.out.symm, rfl⟩

def RetReader (w : World) (l : List Int) (e : Ending) (w' : World) : Prop := ∃ g, e = .returned (.pointer (some ⟨g, 0, none⟩)) ∧ Rd w' g l 0 ∧ w.heap.size ≤ g ∧ E w w'
set_option maxHeartbeats 1000000 in
theorem read_c (A : Option Addr) (n c : Nat) (l : List Int) (w : World) (h : Nums .u8 w A n c l) (hn : n ≤ 1099511627776) :
    Calls Try.prog 38 #[.slice A n c] w (RetReader w l) := by
  have HN := Lib.hid hn
  clear hn
  go_enter Try.func38, Try.ntmps38
  go_wp2_with (go_at_call 48; refine (cloneB_c _ _ _ _ _ h HN.out).mono ?_; rintro e w1 ⟨A1, n1, c1, rfl, hO, hE⟩)
  go_ret
  refine ⟨w1.heap.size, rfl, ⟨A1, n1, c1, heap_alloc_new w1 _, hO.reads.e ((E.refl w1).alloc _), fun b o hA hn => ?_⟩, hE.le, hE.alloc _⟩
  rcases hO.form with ⟨rfl, _⟩ | ⟨g, rfl, _, hlt, _⟩
  · cases hA
  · injection hA with hA; injection hA with e1 e2; omega
end Go.Proofs.Ythcicfolabngcaa
/- Contracts of the functions on bags that only read: isBag, areBags, Is, fit, Same, Around, Most. -/
namespace Go.Proofs.Ythcicfolabngcaa
open Go.RowKit

set_option maxHeartbeats 400000 in
theorem isBag_c (A : Option Addr) (n c : Nat) (l : List Int) (w : World) (h : Nums .i64 w A n c l) :
    Calls Try.prog 60 #[.slice A n c] w fun e w' => e = .returned (.bool (isBagB l)) ∧ w = w' := by
  have hm := h.n63
  by_cases h64 : 64 < n
  · have hfin : isBagB l = false := by have := h.len; simp [isBagB]; omega
    rw [hfin]
    clear hfin
    go_enter Try.func60, Try.ntmps60
    go_wp2
    go_ret
    exact ⟨rfl, rfl⟩
  · have HF := Lib.hid (show isBagB l = l.all okU by have := h.len; simp [isBagB]; omega)
    go_enter Try.func60, Try.ntmps60
    go_wp2
    go_loop [10] (fun i => ∃ k : Nat, k ≤ n ∧ i = .int .i64 k ∧ Hid ((l.drop k).all okU = l.all okU)) (fun i => n - (intOf i).toNat)
    case atStart => exact ⟨0, Nat.zero_le _, rfl, rfl⟩
    case round =>
      obtain ⟨k, hk, rfl, hall⟩ := hrel
      by_cases hlt : k < n
      · obtain ⟨b, o, x, rfl, hb, hx, hwx, hck⟩ := h.get hlt
        have hd := all_drop hx
        have HD := Lib.hid hd
        clear hx hd hwx
        by_cases h0 : x < 0
        · go_wp2
          go_ret
          exact ⟨by rw [HF.out, ← hall.out, HD.out, okU_neg h0]; rfl, rfl⟩
        · by_cases h1 : 1099511627776 < x
          · go_wp2
            go_ret
            exact ⟨by rw [HF.out, ← hall.out, HD.out, okU_big h1]; rfl, rfl⟩
          · go_wp2
            go_round
            case rel => exact ⟨k + 1, by omega, by go_num, show _ = _ by rw [← hall.out, HD.out, okU_iff.2 ⟨by omega, by omega⟩]; rfl⟩
            case measure => simp [intOf]; omega
      · go_wp2
        go_ret
        exact ⟨by rw [HF.out, ← hall.out, drop_end h.len (by omega)]; rfl, rfl⟩

theorem eqI_dec (a b : Nat) : ((a : Int) == (b : Int)) = decide (a = b) := by
  by_cases h : a = b
  · simp [h]
  · rw [decide_eq_false h]; simp; omega
theorem eqI_t {a b : Nat} (h : a = b) : ((a : Int) == (b : Int)) = true := by simp [h]
theorem eqI_f {a b : Nat} (h : ¬ a = b) : ((a : Int) == (b : Int)) = false := by simp; omega
theorem neI_t {a b : Nat} (h : ¬ a = b) : ((a : Int) != (b : Int)) = true := by simp; omega
theorem neI_f {a b : Nat} (h : a = b) : ((a : Int) != (b : Int)) = false := by simp [h]

set_option maxHeartbeats 400000 in
theorem areBags_c (A1 A2 : Option Addr) (n1 c1 n2 c2 : Nat) (l1 l2 : List Int) (w : World) (h1 : Nums .i64 w A1 n1 c1 l1) (h2 : Nums .i64 w A2 n2 c2 l2) :
    Calls Try.prog 63 #[.slice A1 n1 c1, .slice A2 n2 c2] w fun e w' => e = .returned (.bool (fitB l1 l2)) ∧ w = w' := by
  have m1 := h1.n63
  have m2 := h2.n63
  have e1 := h1.len
  have e2 := h2.len
  have HF := Lib.hid (show fitB l1 l2 = (decide (n1 = n2) && (isBagB l1 && isBagB l2)) by rw [fitB, e1, e2])
  clear e1 e2
  by_cases hn : n1 = n2
  · have hb := eqI_t hn
    have HN := Lib.hid hn
    clear hn
    cases hx : isBagB l1
    · go_enter Try.func63, Try.ntmps63
      go_wp2_with (go_at_call 60; refine (isBag_c _ _ _ _ _ (by assumption)).mono ?_; rintro e w' ⟨rfl, rfl⟩)
      go_ret
      exact ⟨by rw [HF.out]; simp [hx], rfl⟩
    · go_enter Try.func63, Try.ntmps63
      go_wp2_with (go_at_call 60; refine (isBag_c _ _ _ _ _ (by assumption)).mono ?_; rintro e w' ⟨rfl, rfl⟩)
      go_ret
      exact ⟨by rw [HF.out]; simp [hx, HN.out], rfl⟩
  · have hb := eqI_f hn
    go_enter Try.func63, Try.ntmps63
    go_wp2
    go_ret
    exact ⟨by rw [HF.out]; simp [hn], rfl⟩

set_option maxHeartbeats 400000 in
theorem around_c (a m : Int) (w : World) (h1 : -9223372036854775808 ≤ a) (h2 : a ≤ 9223372036854775807) (hm : 0 < m) (hm2 : m ≤ 9223372036854775807) :
    Calls Try.prog 58 #[.int .i64 a, .int .i64 m] w fun e w' => e = .returned (.int .i64 (a % m)) ∧ w = w' := by
  have hz : (m == 0) = false := by simp; omega
  have hz1 : (m == -1) = false := by simp; omega
  have ht : -m < a.tmod m ∧ a.tmod m < m := ⟨Int.lt_tmod_of_pos a hm, Int.tmod_lt_of_pos a hm⟩
  obtain ⟨t1, t2⟩ := ht
  by_cases h : a.tmod m < 0
  · have HF := Lib.hid (show a.tmod m + m = a % m by
      have := Int.tmod_def a m; rw [Int.tmod_eq_emod] at h ⊢; split at h
      · have := Int.emod_nonneg a (show m ≠ 0 by omega); omega
      · split <;> omega)
    go_enter Try.func58, Try.ntmps58
    go_wp2
    go_ret
    exact ⟨ret_int HF.out, rfl⟩
  · have HF := Lib.hid (show a.tmod m = a % m by
      rw [Int.tmod_eq_emod] at h ⊢; split at h
      · rename_i hh; rw [if_pos hh]; omega
      · have := Int.emod_lt_of_pos a hm; omega)
    go_enter Try.func58, Try.ntmps58
    go_wp2
    go_ret
    exact ⟨ret_int HF.out, rfl⟩

end Go.Proofs.Ythcicfolabngcaa
/- Contracts of functions that make a list of numbers: Bag, Times of the reference. -/
namespace Go.Proofs.Ythcicfolabngcaa
open Go.RowKit

theorem intT : IntT Try.prog 33 3 .i64 8 := ⟨Try.underlying33, by kernel_rfl, by decide⟩

set_option maxHeartbeats 1000000 in
theorem bag_c (n p : Nat) (A : Option Addr) (m c : Nat) (l : List Int) (w : World) (h : Nums .i64 w A m c l) (hn : n ≤ 64) (hp : p ≤ 64) :
    Calls Try.prog 33 #[.int .i64 n, .slice A m c, .int .i64 p] w (RetOwn .i64 3 w (bagL n l p)) := by
  have hm := h.n63
  have hnI : (n : Int) ≤ 64 := by omega
  have hpI : (p : Int) ≤ 64 := by omega
  go_enter Try.func33, Try.ntmps33
  go_wp2
  go_loopw [7, 8] (fun t i wr => ∃ (k c' : Nat) (A' : Option Addr), k ≤ n ∧ i = .int .i64 k ∧ t = .slice A' k c' ∧ Own .i64 3 wr w.heap.size A' k c' (bagL k l p) ∧ E w wr) (fun _ i _ => n - (intOf i).toNat)
  case atStart => exact ⟨0, 0, none, Nat.zero_le _, rfl, rfl, Own.nil _ _ _ _, E.refl _⟩
  case round =>
    obtain ⟨k, c', A', hk, rfl, rfl, hown, hE⟩ := hrel
    have hkI : (k : Int) ≤ 64 := by omega
    have hle := hE.le
    have hsu := Lib.hid (bagL_succ k l p)
    by_cases hlt : k < n
    · by_cases hlm : p + k < m
      · obtain ⟨b, o, x, rfl, hb, hx, hwx, hc⟩ := (h.e hE).get hlm
        have hbE := bagE_ok l (p + k)
        have HX := Lib.hid (show bagE l (p + k) = (let k := x % 1099511627777; if 0 < k % 5 then k / 5 % 12 else k) by simp [bagE, List.getD, hx])
        have hwx' := wf_i64 hwx
        obtain ⟨x0, x1⟩ := hwx'
        clear hx hwx
        have hlmI : (p : Int) + k < m := by omega
        have z0 : 0 ≤ x % 1099511627777 := by omega
        have z1 : x % 1099511627777 ≤ 1099511627776 := by omega
        generalize hz : x % 1099511627777 = z at HX z0 z1
        have HZ := Lib.hid hz
        clear hz
        by_cases hz5 : 0 < z % 5
        · go_wp2_with (first
            | (go_at_call 58; refine (around_c _ _ _ (by omega) (by omega) (by omega) (by omega)).mono ?_; rintro e w' ⟨rfl, rfl⟩; rw [HZ.out])
            | (at_builtin; refine wpList_app1n intT _ rfl _ _ rfl _ _ _ _ _ rfl hown _ rfl (wf_of_i64 (by omega) (by omega)) (by omega) hle ?_; intro g' c2 w1 hO hG hB hor))
          go_roundw
          case rel => exact ⟨k + 1, c2, _, by omega, by go_num, rfl, hO.cast (by rw [hsu.out, HX.out]; simp [hz5]), hE.up hB⟩
          case measure => simp [intOf]; omega
        · go_wp2_with (first
            | (go_at_call 58; refine (around_c _ _ _ (by omega) (by omega) (by omega) (by omega)).mono ?_; rintro e w' ⟨rfl, rfl⟩; rw [HZ.out])
            | (at_builtin; refine wpList_app1n intT _ rfl _ _ rfl _ _ _ _ _ rfl hown _ rfl (wf_of_i64 (by omega) (by omega)) (by omega) hle ?_; intro g' c2 w1 hO hG hB hor))
          go_roundw
          case rel => exact ⟨k + 1, c2, _, by omega, by go_num, rfl, hO.cast (by rw [hsu.out, HX.out, if_neg (by omega)]), hE.up hB⟩
          case measure => simp [intOf]; omega
      · have HX := Lib.hid (show bagE l (p + k) = 0 by
          have : l[p + k]? = none := List.getElem?_eq_none (by rw [h.len]; omega)
          simp [bagE, List.getD, this])
        have hlmI : ¬ (p : Int) + k < m := by omega
        go_wp2_with (at_builtin; refine wpList_app1n intT _ rfl _ _ rfl _ _ _ _ _ rfl hown _ rfl (wf_of_i64 (by omega) (by omega)) (by omega) hle ?_; intro g' c2 w1 hO hG hB hor)
        go_roundw
        case rel => exact ⟨k + 1, c2, _, by omega, by go_num, rfl, hO.cast (by rw [hsu.out, HX.out]), hE.up hB⟩
        case measure => simp [intOf]; omega
    · go_wp2
      go_ret
      exact ⟨_, _, _, rfl, hown.cast (by congr 1; omega), hE⟩

theorem mul60 {x k : Int} (h0 : 0 ≤ x) (h1 : x ≤ 1099511627776) (h2 : 0 ≤ k) (h3 : k ≤ 1048576) : 0 ≤ x * k ∧ x * k ≤ 1152921504606846976 := by
  rw [Int.mul_comm]; exact mul_le_60 h2 h3 h0 h1
theorem timesS_no {l : List Int} {k : Int} (h : ¬ (isBagB l = true ∧ 0 ≤ k ∧ k ≤ 1048576)) : timesS l k = ([], 1) := by rw [timesS, if_neg h]
theorem timesS_yes {l : List Int} {k : Int} (h : isBagB l = true ∧ 0 ≤ k ∧ k ≤ 1048576) : timesS l k = pre [] (combF (fun _ y => tm1 k y) l l) := by rw [timesS, if_pos h, pre_nil]

/-! the closures and limited -/
def lim1 (x : Int) : Int × Int := if 1099511627776 < x then (0, 4) else (x, 0)
set_option maxHeartbeats 400000 in
theorem limited_c (x : Int) (w : World) :
    Calls Try.prog 66 #[.int .i64 x] w fun e w' => e = .returned (.tuple #[.int .i64 (lim1 x).1, .int .i64 (lim1 x).2]) ∧ w = w' := by
  by_cases h : 1099511627776 < x
  · have HF := Lib.hid (show lim1 x = (0, 4) by simp [lim1, h])
    rw [HF.out]
    go_enter Try.func66, Try.ntmps66
    go_wp2
    go_ret2
    exact ⟨rfl, rfl⟩
  · have HF := Lib.hid (show lim1 x = (x, 0) by simp [lim1, h])
    rw [HF.out]
    go_enter Try.func66, Try.ntmps66
    go_wp2
    go_ret2
    exact ⟨rfl, rfl⟩

set_option maxHeartbeats 400000 in
theorem add1_c (x y : Int) (w : World) (hx0 : 0 ≤ x) (hx : x ≤ 1099511627776) (hy0 : 0 ≤ y) (hy : y ≤ 1099511627776) :
    Calls Try.prog 65 #[.int .i64 x, .int .i64 y] w fun e w' => e = .returned (.tuple #[.int .i64 (lim1 (x + y)).1, .int .i64 (lim1 (x + y)).2]) ∧ w = w' := by
  go_enter Try.func65, Try.ntmps65
  go_wp2_with (go_at_call 66; refine (limited_c _ _).mono ?_; rintro e w' ⟨rfl, rfl⟩)
  go_ret2
  exact ⟨rfl, rfl⟩

def sub1 (x y : Int) : Int × Int := if x < y then (0, 10) else (x - y, 0)
end Go.Proofs.Ythcicfolabngcaa
/- The contract of combine. -/
namespace Go.Proofs.Ythcicfolabngcaa
open Go.RowKit

theorem bag_fit_get {a b : List Int} (h : fitB a b = true) {k : Nat} (hk : k < b.length) : ∃ x, a[k]? = some x := ⟨_, List.getElem?_eq_getElem (by rw [fit_len h]; exact hk)⟩

set_option maxHeartbeats 1000000 in
theorem combine_c (F : FuncId) (caps : List Value) (f : Int → Int → Int × Int) (A1 A2 : Option Addr) (n c1 c2 : Nat) (l1 l2 : List Int) (w : World) (h1 : Nums .i64 w A1 n c1 l1) (h2 : Nums .i64 w A2 n c2 l2)
    (hcall : ∀ (args : Array Value) (wr : World), (callFunc F args).run Try.prog wr = .ok (.enter F args) wr)
    (hb1 : isBagB l1 = true) (hb2 : isBagB l2 = true)
    (hf : ∀ (x y : Int) (wr : World), E w wr → 0 ≤ x → x ≤ 1099511627776 → 0 ≤ y → y ≤ 1099511627776 →
      Calls Try.prog F (.int .i64 x :: .int .i64 y :: caps).toArray wr fun e w' => e = .returned (.tuple #[.int .i64 (f x y).1, .int .i64 (f x y).2]) ∧ wr = w')
    (hfw : ∀ x y : Int, 0 ≤ x → x ≤ 1099511627776 → 0 ≤ y → y ≤ 1099511627776 → 0 ≤ (f x y).1 ∧ (f x y).1 ≤ 9223372036854775807) :
    Calls Try.prog 64 #[.slice A1 n c1, .slice A2 n c2, .func (.func F) #[] caps.toArray] w (RetOwnErr .i64 3 w (combF f l1 l2)) := by
  have hm := h1.n63
  have hn64 : n ≤ 64 := by have := isBag_len hb1; rw [h1.len] at this; exact this
  have HB1 := Lib.hid hb1
  have HB2 := Lib.hid hb2
  have HF := Lib.hid hf
  have HW := Lib.hid hfw
  clear hb1 hb2 hf hfw
  go_enter Try.func64, Try.ntmps64
  go_wp2_with (first
    | (at_make; refine wpList_mk intT _ rfl _ _ rfl _ _ _ _ n rfl rfl rfl rfl (by omega) ?_; intro w1 hO1 hE1 hsz1)
    | (with_reducible refine wpList_cp intT _ rfl (.tmp 16) (.tmp 17) rfl w.heap.size _ _ _ _ _ _ l1 rfl rfl hO1 rfl (h1.e hE1) ?_; intro w2 hO2 hB2))
  go_loopw [21] (fun i wr => ∃ (k : Nat) (out : List Int), k ≤ n ∧ i = .int .i64 k ∧ Hid (out.length = k) ∧ Own .i64 3 wr w.heap.size (some ⟨w.heap.size, 0, none⟩) n n (out ++ l1.drop k) ∧ E w wr ∧ Hid (pre out (combF f (l1.drop k) (l2.drop k)) = combF f l1 l2)) (fun i _ => n - (intOf i).toNat)
  case atStart => exact ⟨0, [], Nat.zero_le _, rfl, rfl, hO2, hE1.up hB2, pre_nil _ _ _⟩
  case round =>
    obtain ⟨k, out, hk, rfl, hol, hO, hE, hs⟩ := hrel
    have hle := hE.le
    by_cases hlt : k < n
    · obtain ⟨x, _, hg2, hx, hwx, hc1, hfr⟩ := hO.getg hlt
      rw [mid_get hol.out] at hx
      obtain ⟨b2, o2, y, rfl, hb2, hy, hwy, hc2⟩ := (h2.e hE).get hlt
      obtain ⟨x0, x1⟩ := isBag_get HB1.out hx
      obtain ⟨y0, y1⟩ := isBag_get HB2.out hy
      have HFW := Lib.hid (HW.out x y x0 x1 y0 y1)
      have HX := Lib.hid hx
      have HY := Lib.hid hy
      clear hx hy hwx hwy
      by_cases he : (f x y).2 = 0
      · have hd : ((f x y).2 != 0) = false := by simp [he]
        have HE := Lib.hid he
        clear he
        go_wp2_with fail
        refine (HF.out x y _ hE x0 x1 y0 y1).mono ?_
        rintro e w' ⟨rfl, rfl⟩
        go_wp2
        go_roundw
        case rel => exact ⟨k + 1, out ++ [(f x y).1], by omega, by go_num, show _ = _ by simp [hol.out], (hO.set k _ (wf_of_i64 (by have := HFW.out; omega) HFW.out.2)).cast (mid_set hol.out HX.out), hE.setCell (by simp) _, show _ = _ by rw [← hs.out, comb_ok HX.out HY.out HE.out]⟩
        case measure => simp [intOf]; omega
      · have hd : ((f x y).2 != 0) = true := by simpa using he
        go_wp2_with fail
        refine (HF.out x y _ hE x0 x1 y0 y1).mono ?_
        rintro e w' ⟨rfl, rfl⟩
        go_wp2
        go_ret2
        exact RetOwnErr.mk_ (by rw [← hs.out, comb_err HX.out HY.out he]) (Own.nil _ _ _ _) hE
    · have HF := Lib.hid (show combF f l1 l2 = (out ++ l1.drop k, 0) by rw [← hs.out, drop_end h1.len (by omega), comb_end, List.append_nil])
      go_wp2
      go_ret2
      exact RetOwnErr.mk_ HF.out hO hE

theorem lim1_ok {x : Int} (h0 : 0 ≤ x) (h : x ≤ 9223372036854775807) : 0 ≤ (lim1 x).1 ∧ (lim1 x).1 ≤ 9223372036854775807 := by
  unfold lim1; split <;> simp <;> omega
theorem sub1_ok {x y : Int} (h0 : 0 ≤ x) (h1 : 0 ≤ y) (h : x ≤ 1099511627776) : 0 ≤ (sub1 x y).1 ∧ (sub1 x y).1 ≤ 9223372036854775807 := by
  unfold sub1; split <;> simp <;> omega

end Go.Proofs.Ythcicfolabngcaa
/- Contracts of Add, Sub, Covers, Join, Meet. -/
namespace Go.Proofs.Ythcicfolabngcaa
open Go.RowKit

set_option maxHeartbeats 400000 in
theorem add_c (A1 A2 : Option Addr) (n1 c1 n2 c2 : Nat) (l1 l2 : List Int) (w : World) (h1 : Nums .i64 w A1 n1 c1 l1) (h2 : Nums .i64 w A2 n2 c2 l2) :
    Calls Try.prog 37 #[.slice A1 n1 c1, .slice A2 n2 c2] w (RetOwnErr .i64 3 w (addS l1 l2)) := by
  cases hf : fitB l1 l2
  · have HT := Lib.hid (show addS l1 l2 = ([], 1) by rw [addS, hf]; rfl)
    go_enter Try.func37, Try.ntmps37
    go_wp2_with (go_at_call 63; refine (areBags_c _ _ _ _ _ _ _ _ _ h1 h2).mono ?_; rintro e w' ⟨rfl, rfl⟩)
    go_ret2
    exact RetOwnErr.mk_ HT.out (Own.nil _ _ _ _) (E.refl _)
  · have hn : n1 = n2 := by have := fit_len hf; have := h1.len; have := h2.len; omega
    subst hn
    have HT := Lib.hid (show addS l1 l2 = combF (fun x y => lim1 (x + y)) l1 l2 by rw [addS, hf]; rfl)
    go_enter Try.func37, Try.ntmps37
    go_wp2_with (go_at_call 63; refine (areBags_c _ _ _ _ _ _ _ _ _ h1 h2).mono ?_; rintro e w' ⟨rfl, rfl⟩)
    refine (combine_c 65 [] (fun x y => lim1 (x + y)) _ _ _ _ _ _ _ _ h1 h2 Try.call65 (fit_a hf) (fit_b hf) ?_ ?_).mono ?_
    · intro x y wr hEr x0 x1 y0 y1
      exact add1_c x y wr x0 x1 y0 y1
    · intro x y x0 x1 y0 y1
      exact lim1_ok (by omega) (by omega)
    · rintro e w' ⟨A', n', c', rfl, hO, hE⟩
      go_wp2
      go_ret2
      exact RetOwnErr.mk_ HT.out hO hE

/-- a bool is handed back; nothing that was there has turned -/
def RetB (w : World) (b : Bool) (e : Ending) (w' : World) : Prop := e = .returned (.bool b) ∧ E w w'
theorem RetB.mk_ {w w' : World} {a b : Bool} (h : a = b) (hE : E w w') : RetB w a (.returned (.bool b)) w' := ⟨by rw [h], hE⟩

end Go.Proofs.Ythcicfolabngcaa
/- Slices of amounts (pairs of integers); proper, Of, Valid, Amounts and their references. -/
namespace Go.Proofs.Ythcicfolabngcaa
open Go.RowKit

/-- A slice value that reads as a list of pairs of integers. -/
structure Pairs (w : World) (A : Option Addr) (n c : Nat) (l : List (Int × Int)) : Prop where
  len : l.length = n
  cap : n ≤ c
  mx : c ≤ maxLen
  wf : ∀ x ∈ l, (Lit.int .i64 x.1).wf = true ∧ (Lit.int .i64 x.2).wf = true
  at_ : 0 < n → ∃ b o, A = some ⟨b, o, none⟩ ∧ b < w.heap.size ∧ ∀ i, (h : i < l.length) → w.cell? ⟨b, o + i * 2, none⟩ = some (.int .i64 l[i].1) ∧ w.cell? ⟨b, o + i * 2 + 1, none⟩ = some (.int .i64 l[i].2)
section
variable {w w' : World} {A : Option Addr} {n c : Nat} {l : List (Int × Int)}
theorem Pairs.e (h : Pairs w A n c l) (he : E w w') : Pairs w' A n c l :=
  ⟨h.len, h.cap, h.mx, h.wf, fun hn => by
    obtain ⟨b, o, h1, h2, h3⟩ := h.at_ hn
    exact ⟨b, o, h1, Nat.lt_of_lt_of_le h2 he.le, fun i hi => ⟨(he.cell (p := ⟨b, _, none⟩) h2).trans (h3 i hi).1, (he.cell (p := ⟨b, _, none⟩) h2).trans (h3 i hi).2⟩⟩⟩
theorem Pairs.q (h : Pairs w A n c l) (he : Q w w') : Pairs w' A n c l := h.e (E.of_q he)
theorem Pairs.n63 (h : Pairs w A n c l) : n ≤ 9223372036854775807 := by have := h.cap; have := h.mx; unfold maxLen at this; omega
theorem Pairs.get (h : Pairs w A n c l) {i : Nat} (hi : i < n) :
    ∃ b o x y, A = some ⟨b, o, none⟩ ∧ b < w.heap.size ∧ l[i]? = some (x, y) ∧ (Lit.int .i64 x).wf = true ∧ (Lit.int .i64 y).wf = true ∧ w.cell? ⟨b, o + i * 2, none⟩ = some (.int .i64 x) ∧ w.cell? ⟨b, o + i * 2 + 1, none⟩ = some (.int .i64 y) := by
  obtain ⟨b, o, h1, h2, h3⟩ := h.at_ (by omega)
  have hl : i < l.length := by rw [h.len]; exact hi
  exact ⟨b, o, l[i].1, l[i].2, h1, h2, List.getElem?_eq_getElem hl, (h.wf _ (List.getElem_mem hl)).1, (h.wf _ (List.getElem_mem hl)).2, (h3 i hl).1, (h3 i hl).2⟩
end

def properB (n : Int) (x y : Int) : Bool := decide (0 ≤ x) && (decide (x < n) && (decide (1 ≤ y) && decide (y ≤ 1099511627776)))

theorem ret_boolE {w : World} {a b : Bool} (h : b = a) (o : Obj) : RetB w a (.returned (.bool b)) (w.alloc o) := ⟨by rw [h], (E.refl w).alloc o⟩

set_option maxHeartbeats 400000 in
theorem proper_c (n x y : Int) (w : World) :
    Calls Try.prog 80 #[.int .i64 n, .agg #[.int .i64 x, .int .i64 y]] w (RetB w (properB n x y)) := by
  by_cases h1 : 0 ≤ x
  · have d1 : decide (0 ≤ x) = true := by simpa using h1
    by_cases h2 : x < n
    · have d2 : decide (x < n) = true := by simpa using h2
      by_cases h3 : 1 ≤ y
      · have d3 : decide (1 ≤ y) = true := by simpa using h3
        go_enter Try.func80, Try.ntmps80
        go_wp2
        go_ret
        exact ret_boolE (by simp [properB, h1, h2, h3]) _
      · have d3 : decide (1 ≤ y) = false := by simpa using h3
        go_enter Try.func80, Try.ntmps80
        go_wp2
        go_ret
        exact ret_boolE (by simp [properB]; omega) _
    · have d2 : decide (x < n) = false := by simpa using h2
      go_enter Try.func80, Try.ntmps80
      go_wp2
      go_ret
      exact ret_boolE (by simp [properB]; omega) _
  · have d1 : decide (0 ≤ x) = false := by simpa using h1
    go_enter Try.func80, Try.ntmps80
    go_wp2
    go_ret
    exact ret_boolE (by simp [properB]; omega) _


def ofF : List Int → List (Int × Int) → List Int × Int
  | out, [] => (out, 0)
  | out, (x, y) :: l => if 1099511627776 < out.getD x.toNat 0 + y then ([], 4) else ofF (out.set x.toNat (out.getD x.toNat 0 + y)) l
def allProper (N : Int) (l : List (Int × Int)) : Bool := l.all fun p => properB N p.1 p.2
def ofS (N : Int) (l : List (Int × Int)) : List Int × Int := if 0 ≤ N ∧ N ≤ 64 ∧ allProper N l = true then ofF (List.replicate N.toNat 0) l else ([], 1)

theorem proper_drop {N : Int} {l : List (Int × Int)} {k : Nat} {x y : Int} (h : l[k]? = some (x, y)) : allProper N (l.drop k) = (properB N x y && allProper N (l.drop (k + 1))) := by
  rw [drop_at h]; rfl
theorem proper_get {N : Int} {l : List (Int × Int)} {k : Nat} {x y : Int} (hp : allProper N l = true) (h : l[k]? = some (x, y)) : 0 ≤ x ∧ x < N ∧ 1 ≤ y ∧ y ≤ 1099511627776 := by
  have := (List.all_eq_true.1 hp) _ (List.mem_of_getElem? h)
  simpa [properB] using this
theorem ofF_over {out : List Int} {l : List (Int × Int)} {k : Nat} {x y v : Int} (h : l[k]? = some (x, y)) (hv : out[x.toNat]? = some v) (ho : 1099511627776 < v + y) : ofF out (l.drop k) = ([], 4) := by
  rw [drop_at h]; simp [ofF, List.getD, hv, ho]
theorem ofF_step {out : List Int} {l : List (Int × Int)} {k : Nat} {x y v : Int} (h : l[k]? = some (x, y)) (hv : out[x.toNat]? = some v) (ho : ¬ 1099511627776 < v + y) : ofF out (l.drop k) = ofF (out.set x.toNat (v + y)) (l.drop (k + 1)) := by
  rw [drop_at h]; simp [ofF, List.getD, hv, ho]

def okAll (l : List Int) : Prop := ∀ x ∈ l, 0 ≤ x ∧ x ≤ 1099511627776
theorem okAll_rep (n : Nat) : okAll (List.replicate n 0) := by
  intro x hx; rw [List.eq_of_mem_replicate hx]; omega
theorem okAll_get {l : List Int} (h : okAll l) {i : Nat} {x : Int} (hx : l[i]? = some x) : 0 ≤ x ∧ x ≤ 1099511627776 := h x (List.mem_of_getElem? hx)
theorem okAll_set {l : List Int} (h : okAll l) {i : Nat} {v : Int} (h0 : 0 ≤ v) (h1 : v ≤ 1099511627776) : okAll (l.set i v) := by
  intro x hx
  rcases List.mem_or_eq_of_mem_set hx with hx | rfl
  · exact h x hx
  · exact ⟨h0, h1⟩

set_option maxHeartbeats 1000000 in
theorem of_c (N : Int) (A : Option Addr) (n c : Nat) (l : List (Int × Int)) (w : World) (h : Pairs w A n c l) :
    Calls Try.prog 69 #[.int .i64 N, .slice A n c] w (RetOwnErr .i64 3 w (ofS N l)) := by
  have hm := h.n63
  by_cases hN : N < 0
  · have HT := Lib.hid (show ofS N l = ([], 1) by rw [ofS, if_neg (by omega)])
    go_enter Try.func69, Try.ntmps69
    go_wp2
    go_ret2
    exact RetOwnErr.mk_ HT.out (Own.nil _ _ _ _) (E.refl _)
  by_cases hN2 : 64 < N
  · have HT := Lib.hid (show ofS N l = ([], 1) by rw [ofS, if_neg (by omega)])
    have hd : decide (N < 0) = false := by simpa using hN
    go_enter Try.func69, Try.ntmps69
    go_wp2
    go_ret2
    exact RetOwnErr.mk_ HT.out (Own.nil _ _ _ _) (E.refl _)
  have hd1 : decide (N < 0) = false := by simpa using hN
  have hd2 : decide (64 < N) = false := by simpa using hN2
  obtain ⟨M, rfl⟩ : ∃ M : Nat, N = M := ⟨N.toNat, by omega⟩
  have hM : M ≤ 64 := by omega
  have HS := Lib.hid (show ofS M l = if allProper M l = true then ofF (List.replicate M 0) l else ([], 1) by
    rw [ofS]; simp only [Int.toNat_natCast]; congr 1; simp; omega)
  go_enter Try.func69, Try.ntmps69
  go_wp2
  go_loopw [19] (fun i wr => ∃ (k : Nat), k ≤ n ∧ i = .int .i64 k ∧ E w wr ∧ Hid (allProper M (l.drop k) = allProper M l)) (fun i _ => n - (intOf i).toNat)
  case atStart => exact ⟨0, Nat.zero_le _, rfl, E.refl _, rfl⟩
  case round =>
    obtain ⟨k, hk, rfl, hE, hs⟩ := hrel
    by_cases hlt : k < n
    · obtain ⟨b, o, x, y, rfl, hb, hx, hwx, hwy, hc1, hc2⟩ := (h.e hE).get hlt
      have HX := Lib.hid (proper_drop (N := M) hx)
      clear hx hwx hwy
      cases hp : properB M x y
      · go_wp2_with (go_at_call 80; refine (proper_c _ _ _ _).mono ?_; rintro e w' ⟨rfl, hE2⟩)
        go_ret2
        exact RetOwnErr.mk_ (by rw [HS.out, if_neg (by rw [← hs.out, HX.out, hp]; simp)]) (Own.nil _ _ _ _) ((hE.alloc _).trans hE2)
      · go_wp2_with (go_at_call 80; refine (proper_c _ _ _ _).mono ?_; rintro e w' ⟨rfl, hE2⟩)
        go_roundw
        case rel => exact ⟨k + 1, by omega, by go_num, (hE.alloc _).trans hE2, show _ = _ by rw [← hs.out, HX.out, hp]; rfl⟩
        case measure => simp [intOf]; omega
    · have hall : allProper M l = true := by rw [← hs.out, drop_end h.len (by omega)]; rfl
      have HT := Lib.hid (show ofS M l = ofF (List.replicate M 0) l by rw [HS.out, if_pos hall])
      have HP := Lib.hid hall
      clear hall
      obtain ⟨wo, rfl⟩ : ∃ wo : World, wo = wr := ⟨_, rfl⟩
      have hle := hE.le
      go_wp2_with (at_make; refine wpList_mk intT _ rfl _ _ rfl _ _ _ _ M rfl rfl rfl rfl (by omega) ?_; intro w1 hO1 hE1 hsz1)
      go_loopw [32] (fun i wr => ∃ (k : Nat) (out : List Int), k ≤ n ∧ i = .int .i64 k ∧ Own .i64 3 wr wo.heap.size (some ⟨wo.heap.size, 0, none⟩) M M out ∧ Hid (okAll out) ∧ E wo wr ∧ Hid (ofF out (l.drop k) = ofS M l)) (fun i _ => n - (intOf i).toNat)
      case atStart => exact ⟨0, _, Nat.zero_le _, rfl, hO1, okAll_rep _, hE1, HT.out.symm⟩
      case round =>
        obtain ⟨k, out, hk, rfl, hO, hok, hE2, hs2⟩ := hrel
        have hle2 := hE2.le
        by_cases hlt : k < n
        · obtain ⟨b, o, x, y, rfl, hb, hx, hwx, hwy, hc1, hc2⟩ := ((h.e hE).e hE2).get hlt
          obtain ⟨x0, x1, y0, y1⟩ := proper_get HP.out hx
          obtain ⟨j, rfl⟩ : ∃ j : Nat, x = j := ⟨x.toNat, by omega⟩
          have hj : j < M := by omega
          obtain ⟨v, _, hg2, hv, _, hcv, hfr⟩ := hO.getg hj
          obtain ⟨v0, v1⟩ := okAll_get hok.out hv
          have HX := Lib.hid hx
          have HV := Lib.hid (show out[(j : Int).toNat]? = some v by simpa using hv)
          clear hx hwx hwy hv
          by_cases ho : 1099511627776 < v + y
          · go_wp2
            go_region
            go_wp2
            go_ret2
            exact RetOwnErr.mk_ (by rw [← hs2.out, ofF_over HX.out HV.out ho]) (Own.nil _ _ _ _) ((((hE.trans hE2).setCell (p := ⟨wo.heap.size, j, none⟩) hle _).alloc _).drew)
          · go_wp2
            go_region
            go_wp2
            go_roundw
            case rel =>
              refine ⟨k + 1, out.set (j : Int).toNat (v + y), by omega, by go_num, ?_, okAll_set hok.out (by omega) (by omega), ?_, show _ = _ by rw [← hs2.out, ofF_step HX.out HV.out (by omega)]⟩
              · rw [Int.toNat_natCast]; exact (hO.set j _ (wf_of_i64 (by omega) (by omega))).e (((E.refl _).alloc _).drew)
              · exact ((hE2.setCell (p := ⟨wo.heap.size, j, none⟩) (Nat.le_refl _) _).alloc _).drew
            case measure => simp [intOf]; omega
        · have HF := Lib.hid (show ofS M l = (out, 0) by rw [← hs2.out, drop_end h.len (by omega)]; rfl)
          go_wp2
          go_ret2
          exact RetOwnErr.mk_ HF.out (hO.rebase hle) (hE.trans hE2)
end Go.Proofs.Ythcicfolabngcaa
/- Rows of pairs of the call's own; Amounts. -/
namespace Go.Proofs.Ythcicfolabngcaa
open Go.RowKit

def flat2 (l : List (Int × Int)) : List Value := l.flatMap fun p => [.int .i64 p.1, .int .i64 p.2]
theorem flat2_len (l : List (Int × Int)) : (flat2 l).length = l.length * 2 := by
  induction l with
  | nil => rfl
  | cons x l ih => simp [flat2] at ih ⊢; omega
theorem flat2_at (l : List (Int × Int)) (i : Nat) (x : Int × Int) (h : l[i]? = some x) : (flat2 l)[i * 2]? = some (.int .i64 x.1) ∧ (flat2 l)[i * 2 + 1]? = some (.int .i64 x.2) := by
  induction l generalizing i with
  | nil => simp at h
  | cons y l ih =>
    have e : flat2 (y :: l) = .int .i64 y.1 :: .int .i64 y.2 :: flat2 l := rfl
    cases i with
    | zero => simp at h; subst h; rw [e]; simp
    | succ i =>
      have := ih i (by simpa using h)
      rw [e, show (i + 1) * 2 = i * 2 + 1 + 1 by omega]
      simpa using this
theorem flat2_snoc (l : List (Int × Int)) (x y : Int) : flat2 (l ++ [(x, y)]) = flat2 l ++ [.int .i64 x, .int .i64 y] := by simp [flat2]
theorem flat2_one (l : List (Int × Int)) : ∀ u ∈ flat2 l, u.oneCell' = true := by
  intro u hu
  simp only [flat2, List.mem_flatMap] at hu
  obtain ⟨p, _, hp⟩ := hu
  simp at hp
  rcases hp with rfl | rfl <;> rfl

/-- A row of the call's own, from block base on, that holds the pairs l (T: the struct's type). -/
def OwnP (T : TypeId) (w : World) (base : Nat) (A : Option Addr) (n c : Nat) (l : List (Int × Int)) : Prop :=
  l.length = n ∧ w.ownsRow base T 2 (.slice A n c) n (flat2 l) ∧ ∀ x ∈ l, (Lit.int .i64 x.1).wf = true ∧ (Lit.int .i64 x.2).wf = true

section
variable {T : TypeId} {w w' : World} {base base' : Nat} {A : Option Addr} {n c : Nat} {l : List (Int × Int)}
theorem OwnP.nil (T : TypeId) (w : World) (base : Nat) : OwnP T w base none 0 0 [] := ⟨rfl, World.ownsRow_nil _ _ _ _, by simp⟩
theorem OwnP.form (h : OwnP T w base A n c l) : (A = none ∧ n = 0 ∧ c = 0) ∨ ∃ g, A = some ⟨g, 0, none⟩ ∧ base ≤ g ∧ g < w.heap.size ∧ n ≤ c ∧ c ≤ maxLen := by
  obtain ⟨h1, h2, h3⟩ := h
  rcases h2.2 with ⟨hv, hn⟩ | ⟨g, cap, cur, hv, hb, hh, hnc, hcm, _, _⟩
  · left; injection hv with e1 e2 e3; exact ⟨e1, e2, e3⟩
  · right
    injection hv with e1 e2 e3
    subst e1 e3
    refine ⟨g, rfl, hb, ?_, hnc, hcm⟩
    rcases Nat.lt_or_ge g w.heap.size with hlt | hge
    · exact hlt
    · rw [Array.getElem?_eq_none hge] at hh; cases hh
theorem OwnP.reads (h : OwnP T w base A n c l) : Pairs w A n c l := by
  have hf := h.form
  obtain ⟨h1, h2, h3⟩ := h
  refine ⟨h1, ?_, ?_, h3, fun hn => ?_⟩
  · rcases hf with ⟨_, h, _⟩ | ⟨_, _, _, _, h, _⟩ <;> omega
  · rcases hf with ⟨_, _, h⟩ | ⟨_, _, _, _, _, h⟩ <;> (unfold maxLen at *; omega)
  · rcases hf with ⟨_, h, _⟩ | ⟨g, rfl, _, hlt, hnc, hcm⟩
    · omega
    · refine ⟨g, 0, rfl, hlt, fun i hi => ?_⟩
      have hf := flat2_at l i _ (List.getElem?_eq_getElem hi)
      constructor
      · rw [Nat.zero_add, World.ownsRow.cellAt h2 _ (by omega)]; exact hf.1
      · rw [Nat.zero_add, World.ownsRow.cellAt h2 _ (by omega)]; exact hf.2
theorem OwnP.e (h : OwnP T w base A n c l) (he : E w w') : OwnP T w' base A n c l := by
  obtain ⟨h1, h2, h3⟩ := h
  refine ⟨h1, ?_, h3⟩
  obtain ⟨a1, a2⟩ := h2
  refine ⟨a1, ?_⟩
  rcases a2 with a2 | ⟨g, cap, cur, hv, hb, hh, r⟩
  · exact .inl a2
  · refine .inr ⟨g, cap, cur, hv, hb, ?_, r⟩
    have hlt : g < w.heap.size := by
      rcases Nat.lt_or_ge g w.heap.size with hlt | hge
      · exact hlt
      · rw [Array.getElem?_eq_none hge] at hh; cases hh
    rw [he.block hlt]; exact hh
theorem OwnP.rebase (h : OwnP T w base A n c l) (hb : base' ≤ base) : OwnP T w base' A n c l := by
  obtain ⟨h1, ⟨a1, a2⟩, h3⟩ := h
  refine ⟨h1, ⟨a1, ?_⟩, h3⟩
  rcases a2 with a2 | ⟨g, cap, cur, hv, hb', r⟩
  · exact .inl a2
  · exact .inr ⟨g, cap, cur, hv, by omega, r⟩
theorem OwnP.cast {l' : List (Int × Int)} (h : OwnP T w base A n c l) (e : l = l') : OwnP T w base A n c l' := e ▸ h
theorem ownBlockP_le (h : OwnP T w base A n c l) : ∀ b, (Value.slice A n c).ownBlock = some b → base ≤ b := by
  intro b hb
  exact (World.ownsRow.lt h.2.1 b hb).1

structure PairT (P : Program) (S T : TypeId) : Prop where
  und : P.underlying S = some (.slice T)
  info : (P.info? T).map (fun i => (i.zero, i.size, i.bytes)) = some (some (.agg #[.int .i64 0, .int .i64 0]), 2, 16)

theorem wpList_appP {P : Program} {S : TypeId} (it : PairT P S T) (w : World) {ops : Array Oper} {rest : List Oper} {o : Oper} {a : Act} {Q : Exit → Act → World → Prop} (hgd : o.guard = none) (s x : Operand)
    (ho : o.op = .call { callee := .builtin .append, args := #[s, x], argTypes := #[S, S] })
    (base : Nat) (A : Option Addr) (n c : Nat) (l : List (Int × Int)) (hs : a.eval s = .slice A n c) (hown : OwnP T w base A n c l)
    (v1 v2 : Int) (hx : a.eval x = .slice (some ⟨w.heap.size, 0, none⟩) 1 1) (hwf1 : (Lit.int .i64 v1).wf = true) (hwf2 : (Lit.int .i64 v2).wf = true)
    (hlen : n ≤ 1099511627776) (hbase : base ≤ w.heap.size)
    (h : ∀ g' c' w', OwnP T w' base (some ⟨g', 0, none⟩) (n + 1) c' (l ++ [(v1, v2)]) → w.grownBy w' (Value.slice A n c).ownBlock → Below base w w' → ((Value.slice A n c).ownBlock = some g' ∨ w.heap.size ≤ g') → wpList P ops Q rest (a.put o.dst (.slice (some ⟨g', 0, none⟩) (n + 1) c')) w') :
    wpList P ops Q (o :: rest) a (w.alloc (.cells #[.int .i64 v1, .int .i64 v2] T)) := by
  obtain ⟨i, hi, hz0, hz1, hz2⟩ := info_parts it.info
  have hown' := hown.e ((E.refl w).alloc (.cells #[.int .i64 v1, .int .i64 v2] T))
  refine wpList_plain hgd fun K hK' => ?_
  obtain ⟨v', w', hrun, h2, h3, h4, h5⟩ := run_append_own_at (P := P) (w.alloc (.cells #[.int .i64 v1, .int .i64 v2] T)) base S o.type T i _ 2 16 it.und hi hz0 hz1 hz2 rfl (by decide) _ n _ hown'.2.1 ⟨w.heap.size, 0, none⟩ 1 1 [.int .i64 v1, .int .i64 v2] rfl
    (by intro j u hu
        have hb : (w.alloc (.cells #[.int .i64 v1, .int .i64 v2] T)).heap[w.heap.size]? = some (.cells #[.int .i64 v1, .int .i64 v2] T) := heap_alloc_new w _
        have hc := fun jj => cell_of_row _ w.heap.size jj _ _ _ hb
        match j with
        | 0 => simp at hu; subst hu; exact hc 0
        | 1 => simp at hu; subst hu; exact hc 1
        | j + 2 => simp at hu)
    (by intro u hu; simp at hu; rcases hu with rfl | rfl <;> rfl) (by unfold maxLen; omega) (by omega) (by simp; omega)
  unfold Oper.wp execOp
  simp only [ho, resolve, invoke, builtin, Sem.run_bind, Sem.run_pure, Result.andThen_ok, List.map_toArray, List.map_cons, List.map_nil, hs, hx, hrun]
  rw [← flat2_snoc] at h2
  have hG' := grown_of_alloc h3
  rcases h2.2 with ⟨_, h0⟩ | ⟨g', c', cur, rfl, _⟩
  · omega
  · refine hK' _ _ (h g' c' w' ⟨by simp [hown.1], h2, ?_⟩ hG' ((Below.refl base w).grown hG' hbase (ownBlockP_le hown)) ?_)
    · intro y hy; rcases List.mem_append.1 hy with hy | hy; exact hown.2.2 y hy; simp at hy; subst hy; exact ⟨hwf1, hwf2⟩
    · rcases h5 with h5 | h5
      · left; rw [← h5]; rfl
      · right; simp [Value.ownBlock] at h5; omega
end

def RetOwnP (T : TypeId) (w : World) (l : List (Int × Int)) (e : Ending) (w' : World) : Prop :=
  ∃ A n c, e = .returned (.slice A n c) ∧ OwnP T w' w.heap.size A n c l ∧ E w w'
theorem RetOwnP.mk_ {T : TypeId} {w w' : World} {r : List (Int × Int)} {A : Option Addr} {n c : Nat} {l : List (Int × Int)} (hr : r = l) (hO : OwnP T w' w.heap.size A n c l) (hE : E w w') :
    RetOwnP T w r (.returned (.slice A n c)) w' := ⟨A, n, c, rfl, by rw [hr]; exact hO, hE⟩

theorem amtT : PairT Try.prog 96 99 := ⟨Try.underlying96, by kernel_rfl⟩

def amF : Nat → List Int → List (Int × Int)
  | _, [] => []
  | i, x :: l => if 0 < x then ((i : Int), x) :: amF (i + 1) l else amF (i + 1) l
def amountsS (l : List Int) : List (Int × Int) := if isBagB l then amF 0 l else []
theorem amF_yes {l : List Int} {k : Nat} {x : Int} (h : l[k]? = some x) (hx : 0 < x) : amF k (l.drop k) = ((k : Int), x) :: amF (k + 1) (l.drop (k + 1)) := by rw [drop_at h]; simp [amF, hx]
theorem amF_no {l : List Int} {k : Nat} {x : Int} (h : l[k]? = some x) (hx : ¬ 0 < x) : amF k (l.drop k) = amF (k + 1) (l.drop (k + 1)) := by rw [drop_at h]; simp [amF, hx]

set_option maxHeartbeats 1000000 in
theorem amounts_c (A : Option Addr) (n c : Nat) (l : List Int) (w : World) (h : Nums .i64 w A n c l) :
    Calls Try.prog 61 #[.slice A n c] w (RetOwnP 99 w (amountsS l)) := by
  have hm := h.n63
  cases hbag : isBagB l
  · have HT := Lib.hid (show amountsS l = [] by simp [amountsS, hbag])
    go_enter Try.func61, Try.ntmps61
    go_wp2_with (go_at_call 60; refine (isBag_c _ _ _ _ _ h).mono ?_; rintro e w' ⟨rfl, rfl⟩)
    go_ret
    exact RetOwnP.mk_ HT.out (OwnP.nil _ _ _) (E.refl _)
  · have HT := Lib.hid (show amountsS l = amF 0 l by simp [amountsS, hbag])
    have HB := Lib.hid hbag
    have hn64 : n ≤ 64 := by have := isBag_len hbag; rw [h.len] at this; exact this
    go_enter Try.func61, Try.ntmps61
    go_wp2_with (go_at_call 60; refine (isBag_c _ _ _ _ _ h).mono ?_; rintro e w' ⟨rfl, rfl⟩)
    go_loopw [3, 11] (fun t i wr => ∃ (k m c' : Nat) (A' : Option Addr) (out : List (Int × Int)), k ≤ n ∧ m ≤ k ∧ i = .int .i64 k ∧ t = .slice A' m c' ∧ OwnP 99 wr w.heap.size A' m c' out ∧ E w wr ∧ Hid (out ++ amF k (l.drop k) = amountsS l)) (fun _ i _ => n - (intOf i).toNat)
    case atStart => exact ⟨0, 0, 0, none, [], Nat.zero_le _, Nat.zero_le _, rfl, rfl, OwnP.nil _ _ _, E.refl _, HT.out.symm⟩
    case round =>
      obtain ⟨k, m, c', A', out, hk, hmk, rfl, rfl, hown, hE, hs⟩ := hrel
      have hle := hE.le
      by_cases hlt : k < n
      · obtain ⟨b, o, x, rfl, hb, hx, hwx, hc⟩ := (h.e hE).get hlt
        obtain ⟨x0, x1⟩ := isBag_get HB.out hx
        have HX := Lib.hid hx
        clear hx hwx
        by_cases hz : 0 < x
        · go_wp2_with (at_builtin; refine wpList_appP amtT _ rfl _ _ rfl _ _ _ _ _ rfl hown _ _ rfl (wf_of_i64 (by omega) (by omega)) (wf_of_i64 (by omega) (by omega)) (by omega) hle ?_; intro g' c2 w1 hO hG hB hor)
          go_roundw
          case rel => exact ⟨k + 1, m + 1, c2, _, _, by omega, by omega, by go_num, rfl, hO, hE.up hB, show _ = _ by rw [← hs.out, amF_yes HX.out hz]; simp⟩
          case measure => simp [intOf]; omega
        · go_wp2
          go_roundw
          case rel => exact ⟨k + 1, m, c', A', out, by omega, by omega, by go_num, rfl, hown, hE, show _ = _ by rw [← hs.out, amF_no HX.out (by omega)]⟩
          case measure => simp [intOf]; omega
      · have HF := Lib.hid (show amountsS l = out by rw [← hs.out, drop_end h.len (by omega)]; simp [amF])
        go_wp2
        go_ret
        exact RetOwnP.mk_ HF.out hown hE
end Go.Proofs.Ythcicfolabngcaa
/- Encode. -/
namespace Go.Proofs.Ythcicfolabngcaa
open Go.RowKit

def encF : List (Int × Int) → List Int
  | [] => []
  | (x, y) :: l => uv (zig x) ++ uv (zig y) ++ encF l
def encodeS (l : List Int) : List Int := if isBagB l then uv (zig l.length) ++ uv (zig (amountsS l).length) ++ encF (amountsS l) else []
theorem encF_step {l : List (Int × Int)} {k : Nat} {x y : Int} (h : l[k]? = some (x, y)) : encF (l.drop k) = uv (zig x) ++ uv (zig y) ++ encF (l.drop (k + 1)) := by rw [drop_at h]; rfl
theorem amF_len : ∀ (l : List Int) (i : Nat), (amF i l).length ≤ l.length
  | [], _ => by simp [amF]
  | x :: l, i => by
    have := amF_len l (i + 1)
    simp only [amF]; split <;> simp <;> omega
theorem encF_len : ∀ (l : List (Int × Int)), (∀ x ∈ l, (Lit.int .i64 x.1).wf = true ∧ (Lit.int .i64 x.2).wf = true) → (encF l).length ≤ 20 * l.length
  | [], _ => by simp [encF]
  | (x, y) :: l, h => by
    have h1 := encF_len l (fun z hz => h z (List.mem_cons_of_mem _ hz))
    have h2 := h (x, y) List.mem_cons_self
    have h3 := wf_i64 h2.1
    have h4 := wf_i64 h2.2
    have h5 := uv_len10 (zig_lt x h3.1 h3.2)
    have h6 := uv_len10 (zig_lt y h4.1 h4.2)
    simp only [encF, List.length_append, List.length_cons]; omega

set_option maxHeartbeats 1000000 in
theorem encode_c (A : Option Addr) (n c : Nat) (l : List Int) (w : World) (h : Nums .i64 w A n c l) :
    Calls Try.prog 35 #[.slice A n c] w (RetOwn .u8 5 w (encodeS l)) := by
  have hm := h.n63
  cases hbag : isBagB l
  · have HT := Lib.hid (show encodeS l = [] by simp [encodeS, hbag])
    go_enter Try.func35, Try.ntmps35
    go_wp2_with (go_at_call 60; refine (isBag_c _ _ _ _ _ h).mono ?_; rintro e w' ⟨rfl, rfl⟩)
    go_ret
    exact RetOwn.mk_ HT.out (Own.nil _ _ _ _) (E.refl _)
  · have HT := Lib.hid (show encodeS l = uv (zig n) ++ uv (zig (amountsS l).length) ++ encF (amountsS l) by simp [encodeS, hbag, h.len])
    have hn64 : n ≤ 64 := by have := isBag_len hbag; rw [h.len] at this; exact this
    have ha64 : (amountsS l).length ≤ 64 := by
      have := amF_len l 0; rw [h.len] at this; simp [amountsS, hbag]; omega
    go_enter Try.func35, Try.ntmps35
    go_wp2_with (first
      | (go_at_call 60; refine (isBag_c _ _ _ _ _ h).mono ?_; rintro e w' ⟨rfl, rfl⟩)
      | (go_at_call 61; refine (amounts_c _ _ _ _ _ h).mono ?_; rintro e w1 ⟨A1, m, c1, rfl, hP, hE1⟩))
    have hm1 : m = (amountsS l).length := hP.1.symm
    have hP0 := hP.reads
    have hEa := (E.refl w1).alloc (.cells #[.slice none 0 0] 66)
    refine (wInt_c n _ w1.heap.size [] _ (Wr.new w1) (by omega) (by omega) (by simp) (by simp)).mono ?_
    rintro e w2 ⟨rfl, hW2, hB2⟩
    have hE2 := hEa.up hB2.1
    rw [List.nil_append] at hW2
    have hl2 := uv_len10 (zig_lt n (by omega) (by omega))
    have hm64 : m ≤ 64 := by omega
    have HM := Lib.hid hm1
    clear hm1
    have hm63 := hP0.n63
    go_wp2_with fail
    refine (wInt_c m _ w1.heap.size _ _ hW2 (by omega) (by omega) (by omega) hE2.le).mono ?_
    rintro e w3 ⟨rfl, hW3, hB3⟩
    have hE3 := hE2.up hB3.1
    have hl3 := len_app_le (v := m) hl2 (by omega) (by omega)
    go_wp2
    go_loopw [24] (fun i wr => ∃ (k : Nat) (out : List Int), k ≤ m ∧ i = .int .i64 k ∧ Wr wr w1.heap.size w1.heap.size out ∧ Hid (out.length ≤ 20 + 20 * k) ∧ E w1 wr ∧ Hid (out ++ encF ((amountsS l).drop k) = encodeS l)) (fun i _ => m - (intOf i).toNat)
    case atStart => exact ⟨0, _, Nat.zero_le _, rfl, hW3, hl3, hE3, show _ = _ by rw [HT.out, HM.out]; rfl⟩
    case round =>
      obtain ⟨k, out, hk, rfl, hW, hol, hE, hs⟩ := hrel
      by_cases hlt : k < m
      · obtain ⟨b, o, x, y, rfl, hb, hx, hwx, hwy, hc1, hc2⟩ := (hP0.e hE).get hlt
        have HX := Lib.hid (encF_step hx)
        have bx := wf_i64 hwx
        have hby' := wf_i64 hwy
        have HBX := Lib.hid bx
        have HBY := Lib.hid hby'
        clear hx hwx hwy bx hby'
        have hEb := hE.alloc (.cells #[.int .i64 x, .int .i64 y] 99)
        go_wp2_with fail
        refine (wInt_c x _ w1.heap.size _ _ (hW.e ((E.refl _).alloc _)) HBX.out.1 HBX.out.2 (by have := hol.out; omega) hEb.le).mono ?_
        rintro e w4 ⟨rfl, hW4, hB4⟩
        have hE4 := hEb.up hB4.1
        have hgb : w4.heap[wr.heap.size]? = some (.cells #[.int .i64 x, .int .i64 y] 99 (0, 0)) := by
          rw [hB4.2 wr.heap.size (by simp) (by have := blk_lt hW.2.choose_spec.choose_spec.choose_spec.1; omega) (by rw [heap_alloc_new]; intro cs fr hh; injection hh with hh; injection hh with _ ht; exact absurd ht (by decide))]
          exact heap_alloc_new wr _
        have hcy : w4.cell? ⟨wr.heap.size, 1, none⟩ = some (.int .i64 y) := by rw [cell_of_row _ _ _ _ _ _ hgb]; rfl
        have hl4 := len_app_le (v := x) (Nat.le_refl out.length) HBX.out.1 HBX.out.2
        clear hgb
        go_wp2_with fail
        refine (wInt_c y _ w1.heap.size _ _ hW4 HBY.out.1 HBY.out.2 (by have := hol.out; omega) hE4.le).mono ?_
        rintro e w5 ⟨rfl, hW5, hB5⟩
        have hl5 := len_app_le (v := y) hl4 HBY.out.1 HBY.out.2
        go_wp2
        go_roundw
        case rel => exact ⟨k + 1, _, by omega, by go_num, hW5, show _ ≤ _ by have := hol.out; omega, hE4.up hB5.1, show _ = _ by rw [← hs.out, HX.out]; simp⟩
        case measure => simp [intOf]; omega
      · have HF := Lib.hid (show encodeS l = out by rw [← hs.out, drop_end hP.1 (by omega)]; simp [encF])
        go_wp2_with (go_at_call 36; refine (wDone_c _ _ _ _ hW (by have := hol.out; omega)).mono ?_; rintro e w' ⟨A', n', c', rfl, hO', hE'⟩)
        go_ret
        exact RetOwn.mk_ HF.out (hO'.rebase (by have := hE.le; have := hE1.le; omega)) ((hE1.trans hE).trans hE')
end Go.Proofs.Ythcicfolabngcaa
/- bytesAre; bags; lives. -/
namespace Go.Proofs.Ythcicfolabngcaa
open Go.RowKit

theorem conv_str {P : Program} {S T D : TypeId} {w : World} {A : Option Addr} {n c : Nat} {l : List Int} (hs : P.underlying S = some (.slice T)) (he : P.underlying T = some (.int .u8)) (hd : P.underlying D = some .string)
    (h : Nums .u8 w A n c l) : (convert S D (.slice A n c)).run P w = .ok (.string (strOfNums l)) w := by
  rcases Nat.eq_zero_or_pos n with h0 | h0
  · subst h0
    have hl : l = [] := List.eq_nil_of_length_eq_zero h.len
    subst hl
    rcases A with _ | ad
    · exact run_convert_bytes_nil w S T hs he 0 c D hd
    · rw [run_convert_bytes_string w S D T _ 0 c hs he hd, run_bytesToString w ad 0 c [] (by simp [loadCells, loadCellsFrom]), foldl_push_bytes]
      rfl
  · obtain ⟨b, o, rfl, _, hc⟩ := h.at_ h0
    refine run_convert_bytes_arg w S T hs he b o n c l h.len (fun i hi => ?_) D hd
    have hi' : i < l.length := by rw [h.len]; exact hi
    rw [hc i hi']
    simp [List.getD, List.getElem?_eq_getElem hi']

theorem ofNat_inj {x y : Int} (hx : 0 ≤ x ∧ x ≤ 255) (hy : 0 ≤ y ∧ y ≤ 255) (h : UInt8.ofNat x.toNat = UInt8.ofNat y.toNat) : x = y := by
  have := congrArg UInt8.toNat h
  simp only [UInt8.toNat_ofNat'] at this
  omega
theorem strOfNums_inj : ∀ {a b : List Int}, (∀ x ∈ a, (Lit.int .u8 x).wf = true) → (∀ x ∈ b, (Lit.int .u8 x).wf = true) → (a.map fun n => UInt8.ofNat n.toNat) = (b.map fun n => UInt8.ofNat n.toNat) → a = b
  | [], [], _, _, _ => rfl
  | [], _ :: _, _, _, h => by simp at h
  | _ :: _, [], _, _, h => by simp at h
  | x :: a, y :: b, ha, hb, h => by
    simp only [List.map_cons, List.cons.injEq] at h
    rw [ofNat_inj (wf_u8 (ha x List.mem_cons_self)) (wf_u8 (hb y List.mem_cons_self)) h.1, strOfNums_inj (fun z hz => ha z (List.mem_cons_of_mem _ hz)) (fun z hz => hb z (List.mem_cons_of_mem _ hz)) h.2]
theorem strOfNums_eq {a b : List Int} (ha : ∀ x ∈ a, (Lit.int .u8 x).wf = true) (hb : ∀ x ∈ b, (Lit.int .u8 x).wf = true) : ((strOfNums a).toList == (strOfNums b).toList) = sameB a b := by
  rw [ByteArray.toList_eq, ByteArray.toList_eq, strOfNums_data, strOfNums_data]
  by_cases h : a = b
  · subst h; simp [sameB]
  · rw [show sameB a b = false by simp [sameB, h]]
    rw [beq_eq_false_iff_ne]
    exact fun hh => h (strOfNums_inj ha hb hh)

/-- a slice of slices of integers -/
structure Mat (w : World) (A : Option Addr) (n c : Nat) (ls : List (List Int)) : Prop where
  len : ls.length = n
  cap : n ≤ c
  mx : c ≤ maxLen
  at_ : 0 < n → ∃ b o, A = some ⟨b, o, none⟩ ∧ b < w.heap.size ∧ ∀ i, (h : i < ls.length) → ∃ A' n' c', w.cell? ⟨b, o + i, none⟩ = some (.slice A' n' c') ∧ Nums .i64 w A' n' c' ls[i]
section
variable {w w' : World} {A : Option Addr} {n c : Nat} {ls : List (List Int)}
theorem Mat.e (h : Mat w A n c ls) (he : E w w') : Mat w' A n c ls :=
  ⟨h.len, h.cap, h.mx, fun hn => by
    obtain ⟨b, o, h1, h2, h3⟩ := h.at_ hn
    refine ⟨b, o, h1, Nat.lt_of_lt_of_le h2 he.le, fun i hi => ?_⟩
    obtain ⟨A', n', c', h4, h5⟩ := h3 i hi
    exact ⟨A', n', c', (he.cell (p := ⟨b, _, none⟩) h2).trans h4, h5.e he⟩⟩
theorem Mat.q (h : Mat w A n c ls) (he : Q w w') : Mat w' A n c ls := h.e (E.of_q he)
theorem Mat.get (h : Mat w A n c ls) {i : Nat} (hi : i < n) :
    ∃ b o A' n' c' l, A = some ⟨b, o, none⟩ ∧ b < w.heap.size ∧ ls[i]? = some l ∧ w.cell? ⟨b, o + i, none⟩ = some (.slice A' n' c') ∧ Nums .i64 w A' n' c' l := by
  obtain ⟨b, o, h1, h2, h3⟩ := h.at_ (by omega)
  have hl : i < ls.length := by rw [h.len]; exact hi
  obtain ⟨A', n', c', h4, h5⟩ := h3 i hl
  exact ⟨b, o, A', n', c', ls[i], h1, h2, List.getElem?_eq_getElem hl, h4, h5⟩
end
def RetMat (w : World) (ls : List (List Int)) (e : Ending) (w' : World) : Prop := ∃ A n c, e = .returned (.slice A n c) ∧ Mat w' A n c ls ∧ E w w'

def bagsC (k : Nat) (l : List Int) (i : Nat) (v : Int) : List Int :=
  let c := bagL k l 1
  if i < k then c.set i v else if i = 10 then c ++ [1] else c
def bagsS (n : Int) (l : List Int) (p v : Int) : List (List Int) :=
  let k := (n % 8).toNat
  [bagL k l 0, bagL k l 3, bagsC k l (p % 12).toNat v]

theorem mat3 {w : World} {g : Nat} {T : TypeId} {fr : Nat × Nat} {A1 A2 A3 : Option Addr} {n1 c1 n2 c2 n3 c3 : Nat} {l1 l2 l3 : List Int} (hb : w.heap[g]? = some (.cells #[.slice A1 n1 c1, .slice A2 n2 c2, .slice A3 n3 c3] T fr))
    (h1 : Nums .i64 w A1 n1 c1 l1) (h2 : Nums .i64 w A2 n2 c2 l2) (h3 : Nums .i64 w A3 n3 c3 l3) : Mat w (some ⟨g, 0, none⟩) 3 3 [l1, l2, l3] := by
  refine ⟨rfl, Nat.le_refl _, by unfold maxLen; omega, fun _ => ⟨g, 0, rfl, blk_lt hb, fun i hi => ?_⟩⟩
  have hc := fun j => cell_of_row _ g j _ _ _ hb
  match i, hi with
  | 0, _ => exact ⟨_, _, _, hc 0, h1⟩
  | 1, _ => exact ⟨_, _, _, hc 1, h2⟩
  | 2, _ => exact ⟨_, _, _, hc 2, h3⟩

theorem retMat3 {w W : World} {g : Nat} {T : TypeId} {A1 A2 A3 : Option Addr} {n1 c1 n2 c2 n3 c3 : Nat} {l1 l2 l3 : List Int} {r : List (List Int)} (hg : W.heap.size = g) (hE : E w W)
    (h1 : Nums .i64 W A1 n1 c1 l1) (h2 : Nums .i64 W A2 n2 c2 l2) (h3 : Nums .i64 W A3 n3 c3 l3) (hr : r = [l1, l2, l3]) :
    RetMat w r (.returned (.slice (some ⟨g, 0, none⟩) 3 3)) (W.alloc (.cells #[.slice A1 n1 c1, .slice A2 n2 c2, .slice A3 n3 c3] T)) := by
  subst hg
  have hE' := (E.refl W).alloc (.cells #[.slice A1 n1 c1, .slice A2 n2 c2, .slice A3 n3 c3] T)
  exact ⟨_, _, _, rfl, hr ▸ mat3 (heap_alloc_new W _) (h1.e hE') (h2.e hE') (h3.e hE'), hE.trans hE'⟩

end Go.Proofs.Ythcicfolabngcaa
/- lives of package bag's statements. -/
namespace Go.Proofs.Ythcicfolabngcaa
open Go.RowKit

theorem nums_lit (k : IntKind) (w : World) (T : TypeId) (l : List Int) (hw : ∀ x ∈ l, (Lit.int k x).wf = true) (hl : l.length ≤ 1000) :
    Nums k (w.alloc (.cells (l.map (Value.int k)).toArray T)) (some ⟨w.heap.size, 0, none⟩) l.length l.length l := by
  refine ⟨rfl, Nat.le_refl _, by unfold maxLen; omega, hw, fun _ => ⟨w.heap.size, 0, rfl, by simp, fun i hi => ?_⟩⟩
  rw [cell_of_row _ w.heap.size _ _ _ _ (heap_alloc_new w _)]
  simp [hi]
theorem nums_lit' (k : IntKind) (w : World) (T : TypeId) (l : List Int) (g : Nat) (hg : w.heap.size = g) (hw : ∀ x ∈ l, (Lit.int k x).wf = true) (hl : l.length ≤ 1000) :
    Nums k (w.alloc (.cells (l.map (Value.int k)).toArray T)) (some ⟨g, 0, none⟩) l.length l.length l := hg ▸ nums_lit k w T l hw hl
theorem pairs_lit (w : World) (T : TypeId) (l : List (Int × Int)) (hw : ∀ x ∈ l, (Lit.int .i64 x.1).wf = true ∧ (Lit.int .i64 x.2).wf = true) (hl : l.length ≤ 1000) :
    Pairs (w.alloc (.cells (flat2 l).toArray T)) (some ⟨w.heap.size, 0, none⟩) l.length l.length l := by
  refine ⟨rfl, Nat.le_refl _, by unfold maxLen; omega, hw, fun _ => ⟨w.heap.size, 0, rfl, by simp, fun i hi => ?_⟩⟩
  have hf := flat2_at l i _ (List.getElem?_eq_getElem hi)
  rw [cell_of_row _ w.heap.size _ _ _ _ (heap_alloc_new w _), cell_of_row _ w.heap.size _ _ _ _ (heap_alloc_new w _)]
  simp only [Nat.zero_add, List.getElem?_toArray]
  exact hf

theorem lv_of : ofS 3 [(1, 2), (0, 5)] = ([5, 2, 0], 0) := by decide +kernel
theorem lv_most : mostB [5, 2, 0] [2, 1, 0] = 2 := by decide +kernel
theorem lv_times : timesS [2, 1, 0] 2 = ([4, 2, 0], 0) := by decide +kernel
theorem lv_sub : subS [5, 2, 0] [4, 2, 0] = ([1, 0, 0], 0) := by decide +kernel
theorem lv_enc : encodeS [5, 2, 0] = [6, 4, 0, 10, 2, 4] := by
  have e1 : isBagB [5, 2, 0] = true := by decide +kernel
  have e2 : amountsS [5, 2, 0] = [(0, 5), (1, 2)] := by decide +kernel
  rw [encodeS, e1, e2]
  simp [encF, zig, uv_small]

end Go.Proofs.Ythcicfolabngcaa
/- Plain laws of the functions on bags. -/
namespace Go.Proofs.Ythcicfolabngcaa

abbrev LIM : Int := 1099511627776

theorem fitB_iff {a b : List Int} : fitB a b = true ↔ a.length = b.length ∧ isBagB a = true ∧ isBagB b = true := by simp [fitB]
theorem isBag_iff {l : List Int} : isBagB l = true ↔ l.length ≤ 64 ∧ ∀ x ∈ l, 0 ≤ x ∧ x ≤ 1099511627776 := by
  simp only [isBagB, Bool.and_eq_true, List.all_eq_true, decide_eq_true_eq]
  exact ⟨fun h => ⟨h.1, fun x hx => okU_iff.1 (h.2 x hx)⟩, fun h => ⟨h.1, fun x hx => okU_iff.2 (h.2 x hx)⟩⟩

/-- two lists, number by number -/
def both (p : Int → Int → Prop) (a b : List Int) : Prop := ∀ (i : Nat) (x y : Int), a[i]? = some x → b[i]? = some y → p x y
theorem both_cons {p : Int → Int → Prop} {x y : Int} {a b : List Int} : both p (x :: a) (y :: b) ↔ p x y ∧ both p a b := by
  constructor
  · exact fun h => ⟨h 0 x y rfl rfl, fun i u v hu hv => h (i + 1) u v (by simpa using hu) (by simpa using hv)⟩
  · rintro ⟨h1, h2⟩ i u v hu hv
    cases i with
    | zero => simp at hu hv; subst hu hv; exact h1
    | succ i => exact h2 i u v (by simpa using hu) (by simpa using hv)
theorem both_nil {p : Int → Int → Prop} {b : List Int} : both p [] b := by intro i x y h; simp at h

/-- no error anywhere: each pair goes over -/
theorem combF_ok {f : Int → Int → Int × Int} {g : Int → Int → Int} {ok : Int → Int → Prop} (hf : ∀ x y, ok x y → f x y = (g x y, 0)) : ∀ {a b : List Int}, a.length = b.length → both ok a b → combF f a b = (List.zipWith g a b, 0)
  | [], [], _, _ => rfl
  | [], _ :: _, h, _ => by simp at h
  | _ :: _, [], h, _ => by simp at h
  | x :: a, y :: b, h, hb => by
    obtain ⟨h1, h2⟩ := both_cons.1 hb
    have ih := combF_ok hf (a := a) (b := b) (by simpa using h) h2
    simp [combF, hf x y h1, ih]
/-- one error somewhere, and there is but one kind -/
theorem combF_bad {f : Int → Int → Int × Int} {g : Int → Int → Int} {ok : Int → Int → Prop} {e : Int} (he : e ≠ 0) (hf : ∀ x y, ok x y → f x y = (g x y, 0)) (hn : ∀ x y, ¬ ok x y → f x y = (0, e)) : ∀ {a b : List Int}, a.length = b.length → ¬ both ok a b → combF f a b = ([], e)
  | [], [], _, hb => absurd both_nil hb
  | [], _ :: _, h, _ => by simp at h
  | _ :: _, [], h, _ => by simp at h
  | x :: a, y :: b, h, hb => by
    by_cases h1 : ok x y
    · have h2 : ¬ both ok a b := fun h2 => hb (both_cons.2 ⟨h1, h2⟩)
      have ih := combF_bad he hf hn (a := a) (b := b) (by simpa using h) h2
      simp [combF, hf x y h1, ih, he]
    · simp [combF, hn x y h1, he]

def addOk (x y : Int) : Prop := x + y ≤ 1099511627776
def subOk (x y : Int) : Prop := y ≤ x
def tmOk (k : Int) (_ y : Int) : Prop := y * k ≤ 1099511627776
theorem addS_ok {a b : List Int} (h : fitB a b = true) (hb : both addOk a b) : addS a b = (List.zipWith (· + ·) a b, 0) := by
  rw [addS, h]
  exact combF_ok (ok := addOk) (fun x y hxy => by unfold addOk at hxy; simp [show ¬ 1099511627776 < x + y by omega]) (fit_len h) hb
theorem addS_bad {a b : List Int} (h : fitB a b = true) (hb : ¬ both addOk a b) : addS a b = ([], 4) := by
  rw [addS, h]
  exact combF_bad (g := (· + ·)) (ok := addOk) (by decide) (fun x y hxy => by unfold addOk at hxy; simp [show ¬ 1099511627776 < x + y by omega]) (fun x y hxy => by unfold addOk at hxy; simp [show 1099511627776 < x + y by omega]) (fit_len h) hb
theorem subS_ok {a b : List Int} (h : fitB a b = true) (hb : both subOk a b) : subS a b = (List.zipWith (· - ·) a b, 0) := by
  rw [subS, h]
  exact combF_ok (ok := subOk) (fun x y hxy => by unfold subOk at hxy; simp [show ¬ x < y by omega]) (fit_len h) hb
theorem subS_bad {a b : List Int} (h : fitB a b = true) (hb : ¬ both subOk a b) : subS a b = ([], 10) := by
  rw [subS, h]
  exact combF_bad (g := (· - ·)) (ok := subOk) (by decide) (fun x y hxy => by unfold subOk at hxy; simp [show ¬ x < y by omega]) (fun x y hxy => by unfold subOk at hxy; simp [show x < y by omega]) (fit_len h) hb
theorem timesS_ok {l : List Int} {k : Int} (h : isBagB l = true ∧ 0 ≤ k ∧ k ≤ 1048576) (hb : both (tmOk k) l l) : timesS l k = (l.map (· * k), 0) := by
  rw [timesS, if_pos h, combF_ok (g := fun _ y => y * k) (ok := tmOk k) (fun x y hxy => by unfold tmOk at hxy; simp [tm1, show ¬ 1099511627776 < y * k by omega]) rfl hb]
  congr 1
  induction l with
  | nil => rfl
  | cons x l ih =>
    simp only [List.zipWith_cons_cons, List.map_cons]
    congr 1
    clear hb h ih
    induction l with
    | nil => rfl
    | cons x l _ => simp
theorem timesS_bad {l : List Int} {k : Int} (h : isBagB l = true ∧ 0 ≤ k ∧ k ≤ 1048576) (hb : ¬ both (tmOk k) l l) : timesS l k = ([], 4) := by
  rw [timesS, if_pos h]
  exact combF_bad (g := fun _ y => y * k) (ok := tmOk k) (by decide) (fun x y hxy => by unfold tmOk at hxy; simp [tm1, show ¬ 1099511627776 < y * k by omega]) (fun x y hxy => by unfold tmOk at hxy; simp [tm1, show 1099511627776 < y * k by omega]) rfl hb
theorem joinS_eq {a b : List Int} (h : fitB a b = true) : joinS a b = List.zipWith max a b := by
  rw [joinS, h]
  show (combF _ a b).1 = _
  rw [combF_ok (g := fun x y => max x y) (ok := fun _ _ => True) (fun x y _ => rfl) (fit_len h) (fun _ _ _ _ _ => trivial)]
theorem meetS_eq {a b : List Int} (h : fitB a b = true) : meetS a b = List.zipWith min a b := by
  rw [meetS, h]
  show (combF _ a b).1 = _
  rw [combF_ok (g := fun x y => min x y) (ok := fun _ _ => True) (fun x y _ => rfl) (fit_len h) (fun _ _ _ _ _ => trivial)]

theorem zip_len {g : Int → Int → Int} {a b : List Int} (h : a.length = b.length) : (List.zipWith g a b).length = b.length := by simp [h]
theorem zip_get {g : Int → Int → Int} {a b : List Int} {i : Nat} {z : Int} (h : (List.zipWith g a b)[i]? = some z) : ∃ x y, a[i]? = some x ∧ b[i]? = some y ∧ z = g x y := by
  rw [List.getElem?_zipWith] at h
  cases ha : a[i]? <;> cases hb : b[i]? <;> simp [ha, hb] at h
  exact ⟨_, _, rfl, rfl, h.symm⟩
theorem isBag_zip {g : Int → Int → Int} {a b : List Int} (h : fitB a b = true) (hg : both (fun x y => 0 ≤ g x y ∧ g x y ≤ 1099511627776) a b) : isBagB (List.zipWith g a b) = true := by
  rw [isBag_iff]
  refine ⟨by rw [zip_len (fit_len h)]; exact isBag_len (fit_b h), fun z hz => ?_⟩
  obtain ⟨i, hi⟩ := List.mem_iff_getElem?.1 hz
  obtain ⟨x, y, hx, hy, rfl⟩ := zip_get hi
  exact hg i x y hx hy
theorem bounds {a b : List Int} (h : fitB a b = true) : both (fun x y => 0 ≤ x ∧ x ≤ 1099511627776 ∧ 0 ≤ y ∧ y ≤ 1099511627776) a b := fun i x y hx hy => by
  have h1 := isBag_get (fit_a h) hx
  have h2 := isBag_get (fit_b h) hy
  exact ⟨h1.1, h1.2, h2.1, h2.2⟩
theorem both_mono {p q : Int → Int → Prop} {a b : List Int} (h : both p a b) (hpq : ∀ x y, p x y → q x y) : both q a b := fun i x y hx hy => hpq x y (h i x y hx hy)
/-- two lists made of the same three lists are equal if they agree number by number -/
theorem get_len {a : List Int} {i n : Nat} (h : a.length = n) (hi : i < n) : ∃ x, a[i]? = some x := ⟨_, List.getElem?_eq_getElem (by omega)⟩
theorem ext3 {l m : List Int} {n : Nat} (h1 : l.length = n) (h2 : m.length = n) (h : ∀ (i : Nat) (x y : Int), l[i]? = some x → m[i]? = some y → x = y) : l = m := by
  apply List.ext_getElem?
  intro i
  rcases Nat.lt_or_ge i n with hi | hi
  · obtain ⟨x, hx⟩ := get_len h1 hi
    obtain ⟨y, hy⟩ := get_len h2 hi
    rw [hx, hy, h i x y hx hy]
  · rw [List.getElem?_eq_none (by omega), List.getElem?_eq_none (by omega)]

theorem covers_iff {a b : List Int} (h : fitB a b = true) : (subS a b).2 = 0 ↔ both subOk a b := by
  constructor
  · intro h0
    refine Classical.byContradiction fun hb => ?_
    rw [subS_bad h hb] at h0
    simp at h0
  · intro hb; rw [subS_ok h hb]
end Go.Proofs.Ythcicfolabngcaa
/- Many slices that are read at once; the tools of straight walks. -/
namespace Go.Proofs.Ythcicfolabngcaa
open Go.RowKit

def Env (w : World) (L : List (Option Addr × Nat × Nat × List Int)) : Prop := ∀ s ∈ L, Nums .i64 w s.1 s.2.1 s.2.2.1 s.2.2.2
theorem Env.nil (w : World) : Env w [] := fun _ h => by cases h
theorem Env.e {w w' : World} {L : List (Option Addr × Nat × Nat × List Int)} (h : Env w L) (he : E w w') : Env w' L := fun s hs => (h s hs).e he
theorem Env.add {w : World} {L : List (Option Addr × Nat × Nat × List Int)} (h : Env w L) {A : Option Addr} {n c : Nat} {l : List Int} (hN : Nums .i64 w A n c l) : Env w ((A, n, c, l) :: L) := by
  intro s hs
  cases hs with
  | head => exact hN
  | tail _ h' => exact h s h'
theorem Env.at {w : World} {L : List (Option Addr × Nat × Nat × List Int)} (h : Env w L) {A : Option Addr} {n c : Nat} {l : List Int} (hm : (A, n, c, l) ∈ L) : Nums .i64 w A n c l := h _ hm

theorem sKeep {N : Nat} {w0 w1 w2 : World} (h : N ≤ w1.heap.size ∧ ∀ b o, b < N → w1.cell? ⟨b, o, none⟩ = w0.cell? ⟨b, o, none⟩) (hE : E w1 w2) : N ≤ w2.heap.size ∧ ∀ b o, b < N → w2.cell? ⟨b, o, none⟩ = w0.cell? ⟨b, o, none⟩ :=
  ⟨Nat.le_trans h.1 hE.le, fun b o hb => (hE.cell (p := ⟨b, o, none⟩) (by have := h.1; show b < _; omega)).trans (h.2 b o hb)⟩
theorem sKeepB {N : Nat} {w0 w1 w2 : World} (h : N ≤ w1.heap.size ∧ ∀ b o, b < N → w1.cell? ⟨b, o, none⟩ = w0.cell? ⟨b, o, none⟩) (hB : Below N w1 w2) : N ≤ w2.heap.size ∧ ∀ b o, b < N → w2.cell? ⟨b, o, none⟩ = w0.cell? ⟨b, o, none⟩ :=
  ⟨Nat.le_trans h.1 hB.size, fun b o hb => (hB.cell (p := ⟨b, o, none⟩) hb).trans (h.2 b o hb)⟩
theorem sameB_refl (l : List Int) : sameB l l = true := by simp [sameB]
theorem sameB_eq {l m : List Int} (h : l = m) : sameB l m = true := by simp [sameB, h]
theorem quietE {P : Program} {f : FuncId} {args : Array Value} {w : World} {n : Nat} {v : Value} (h : Calls P f args (w.drewN n) fun e w' => e = .returned v ∧ (w.drewN n) = w') : Calls P f args (w.drewN n) fun e w'' => e = .returned v ∧ ∃ m, w'' = w.drewN m :=
  h.mono fun _ _ ⟨he, hm⟩ => ⟨he, n, hm.symm⟩
def covB (a b : List Int) : Bool := decide ((subS a b).2 = 0)
end Go.Proofs.Ythcicfolabngcaa
/- Contracts of the reference's Proper, Zero, Of; Valid, Sorted; Same of amounts; Amounts of the reference. -/
namespace Go.Proofs.Ythcicfolabngcaa
open Go.RowKit

def okAmts (N : Int) (l : List (Int × Int)) : Bool := allProper N l && (decide (0 ≤ N) && decide (N ≤ 64))

theorem ofS_no {N : Int} {l : List (Int × Int)} (h : okAmts N l = false) : ofS N l = ([], 1) := by
  rw [ofS, if_neg]
  rintro ⟨h1, h2, h3⟩
  simp [okAmts, h1, h2, h3] at h
theorem ofS_yes {N : Int} {l : List (Int × Int)} (h : okAmts N l = true) : 0 ≤ N ∧ N ≤ 64 ∧ allProper N l = true ∧ ofS N l = ofF (List.replicate N.toNat 0) l := by
  simp only [okAmts, Bool.and_eq_true, decide_eq_true_eq] at h
  exact ⟨h.2.1, h.2.2, h.1, by rw [ofS, if_pos ⟨h.2.1, h.2.2, h.1⟩]⟩

/-- sorted, without repetitions, and proper; last: the item before -/
def validF (N : Int) : Int → List (Int × Int) → Bool
  | _, [] => true
  | last, (x, y) :: l => properB N x y && (decide (last < x) && validF N x l)
def validS (N : Int) (l : List (Int × Int)) : Bool := (decide (0 ≤ N) && decide (N ≤ 64)) && validF N (-1) l
theorem validF_step {N last : Int} {l : List (Int × Int)} {k : Nat} {x y : Int} (h : l[k]? = some (x, y)) : validF N last (l.drop k) = (properB N x y && (decide (last < x) && validF N x (l.drop (k + 1)))) := by rw [drop_at h]; rfl

set_option maxHeartbeats 1000000 in
theorem valid_c (N : Int) (A : Option Addr) (n c : Nat) (l : List (Int × Int)) (w : World) (h : Pairs w A n c l) :
    Calls Try.prog 68 #[.int .i64 N, .slice A n c] w (RetB w (validS N l)) := by
  have hm := h.n63
  by_cases hN : N < 0
  · have HT := Lib.hid (show validS N l = false by simp [validS]; omega)
    go_enter Try.func68, Try.ntmps68
    go_wp2
    go_ret
    exact RetB.mk_ HT.out (E.refl _)
  have hd1 : decide (N < 0) = false := by simpa using hN
  by_cases hN2 : 64 < N
  · have HT := Lib.hid (show validS N l = false by simp [validS]; omega)
    go_enter Try.func68, Try.ntmps68
    go_wp2
    go_ret
    exact RetB.mk_ HT.out (E.refl _)
  have hd2 : decide (64 < N) = false := by simpa using hN2
  have HT := Lib.hid (show validS N l = validF N (-1) l by simp [validS]; omega)
  go_enter Try.func68, Try.ntmps68
  go_wp2
  go_loopw [5, 16] (fun t i wr => ∃ (k : Nat) (last : Int), k ≤ n ∧ i = .int .i64 k ∧ t = .int .i64 last ∧ E w wr ∧ Hid (validF N last (l.drop k) = validS N l)) (fun _ i _ => n - (intOf i).toNat)
  case atStart => exact ⟨0, -1, Nat.zero_le _, rfl, rfl, E.refl _, HT.out.symm⟩
  case round =>
    obtain ⟨k, last, hk, rfl, rfl, hE, hs⟩ := hrel
    by_cases hlt : k < n
    · obtain ⟨b, o, x, y, rfl, hb, hx, hwx, hwy, hc1, hc2⟩ := (h.e hE).get hlt
      have HX := Lib.hid (validF_step (N := N) (last := last) hx)
      clear hx hwx hwy
      have hEa := hE.alloc (.cells #[.int .i64 x, .int .i64 y] 99)
      cases hp : properB N x y
      · have HF := Lib.hid (show validS N l = false by rw [← hs.out, HX.out, hp]; rfl)
        go_wp2_with (go_at_call 80; refine (proper_c _ _ _ _).mono ?_; rintro e w' ⟨rfl, hE2⟩)
        go_ret
        exact RetB.mk_ HF.out (hEa.trans hE2)
      · by_cases hl : last < x
        · have HF := Lib.hid (show validF N x (l.drop (k + 1)) = validS N l by rw [← hs.out, HX.out, hp]; simp [hl])
          have hd : decide (x ≤ last) = false := by simpa using hl
          go_wp2_with (go_at_call 80; refine (proper_c _ _ _ _).mono ?_; rintro e w' ⟨rfl, hE2⟩; have hcx := (hE2.cell (p := ⟨wr.heap.size, 0, none⟩) (by simp)).trans (cell_of_row _ wr.heap.size 0 _ _ _ (heap_alloc_new wr _)); simp only [List.getElem?_toArray, List.getElem?_cons_zero] at hcx)
          go_roundw
          case rel => exact ⟨k + 1, x, by omega, by go_num, rfl, hEa.trans hE2, HF.out⟩
          case measure => simp [intOf]; omega
        · have HF := Lib.hid (show validS N l = false by rw [← hs.out, HX.out, hp]; simp [hl])
          have hd : decide (x ≤ last) = true := by simp; omega
          go_wp2_with (go_at_call 80; refine (proper_c _ _ _ _).mono ?_; rintro e w' ⟨rfl, hE2⟩; have hcx := (hE2.cell (p := ⟨wr.heap.size, 0, none⟩) (by simp)).trans (cell_of_row _ wr.heap.size 0 _ _ _ (heap_alloc_new wr _)); simp only [List.getElem?_toArray, List.getElem?_cons_zero] at hcx)
          go_ret
          exact RetB.mk_ HF.out (hEa.trans hE2)
    · have HF := Lib.hid (show validS N l = true by rw [← hs.out, drop_end h.len (by omega)]; rfl)
      go_wp2
      go_ret
      exact RetB.mk_ HF.out hE
end Go.Proofs.Ythcicfolabngcaa
/- Decode of a bag. -/
namespace Go.Proofs.Ythcicfolabngcaa
open Go.RowKit

theorem flat2_rep (n : Nat) : flat2 (List.replicate n (0, 0)) = List.replicate (n * 2) (.int .i64 0) := by
  induction n with
  | zero => rfl
  | succ n ih =>
    rw [List.replicate_succ, show (n + 1) * 2 = n * 2 + 1 + 1 by omega, List.replicate_succ, List.replicate_succ, ← ih]; rfl
theorem flat2_set (l : List (Int × Int)) (i : Nat) (x y u v : Int) (h : l[i]? = some (x, y)) : (flat2 l).set (i * 2) (.int .i64 u) = flat2 (l.set i (u, y)) ∧ (flat2 l).set (i * 2 + 1) (.int .i64 v) = flat2 (l.set i (x, v)) := by
  induction l generalizing i with
  | nil => simp at h
  | cons p l ih =>
    have e : ∀ q : Int × Int, flat2 (q :: l) = .int .i64 q.1 :: .int .i64 q.2 :: flat2 l := fun _ => rfl
    cases i with
    | zero =>
      simp at h; subst h
      exact ⟨rfl, rfl⟩
    | succ i =>
      obtain ⟨h1, h2⟩ := ih i (by simpa using h)
      rw [e, show (i + 1) * 2 = i * 2 + 1 + 1 by omega]
      constructor
      · rw [List.set_cons_succ, List.set_cons_succ, h1]; rfl
      · rw [List.set_cons_succ, List.set_cons_succ, h2]; rfl
theorem OwnP.set {T : TypeId} {w : World} {base g n c : Nat} {l : List (Int × Int)} (h : OwnP T w base (some ⟨g, 0, none⟩) n c l) {i : Nat} {x y u v : Int} (hi : l[i]? = some (x, y)) (hu : (Lit.int .i64 u).wf = true) (hv : (Lit.int .i64 v).wf = true) :
    OwnP T (w.setCell ⟨g, i * 2, none⟩ (.int .i64 u)) base (some ⟨g, 0, none⟩) n c (l.set i (u, y)) ∧ OwnP T (w.setCell ⟨g, i * 2 + 1, none⟩ (.int .i64 v)) base (some ⟨g, 0, none⟩) n c (l.set i (x, v)) := by
  obtain ⟨h1, h2, h3⟩ := h
  have hxy := h3 _ (List.mem_of_getElem? hi)
  obtain ⟨s1, s2⟩ := flat2_set l i x y u v hi
  refine ⟨⟨by simpa using h1, by rw [← s1]; exact (World.ownsRow.stored h2 (i * 2) _).1, fun z hz => ?_⟩, ⟨by simpa using h1, by rw [← s2]; exact (World.ownsRow.stored h2 (i * 2 + 1) _).1, fun z hz => ?_⟩⟩
  · rcases List.mem_or_eq_of_mem_set hz with hz | rfl
    · exact h3 z hz
    · exact ⟨hu, hxy.2⟩
  · rcases List.mem_or_eq_of_mem_set hz with hz | rfl
    · exact h3 z hz
    · exact ⟨hxy.1, hv⟩
/-- make([]T, n), T a pair -/
theorem wpList_mkP {P : Program} {S T : TypeId} (it : PairT P S T) (w : World) {ops : Array Oper} {rest : List Oper} {o : Oper} {a : Act} {Q : Exit → Act → World → Prop} (hgd : o.guard = none) (x y : Operand)
    (ho : o.op = Op.makeSlice S x y) (kl kc : IntKind) (L C : Int) (n : Nat) (hl : a.eval x = .int kl L) (hc : a.eval y = .int kc C) (hL : L = (n : Int)) (hC : C = (n : Int)) (hn : n ≤ 1099511627776)
    (h : ∀ w', OwnP T w' w.heap.size (some ⟨w.heap.size, 0, none⟩) n n (List.replicate n (0, 0)) → E w w' → w'.heap.size = w.heap.size + 1 → wpList P ops Q rest (a.put o.dst (.slice (some ⟨w.heap.size, 0, none⟩) n n)) w') :
    wpList P ops Q (o :: rest) a w := by
  obtain ⟨i, hi, hz0, hz1, hz2⟩ := info_parts it.info
  refine wpList_plain hgd fun K hK' => ?_
  have hbI : (i.bytes : Int) * (n : Int) ≤ 281474976710656 := by rw [hz2]; omega
  have hr := run_make (P := P) w S T i _ it.und hi hz0 kl kc n n (by omega) (by omega) hbI (by omega)
  simp only [Int.toNat_natCast] at hr
  subst hL
  subst hC
  unfold Oper.wp
  simp [execOp, ho, hl, hc, hr, Result.andThen]
  refine hK' _ _ (h _ ⟨by simp, ⟨by rw [flat2_len]; simp, .inr ⟨w.heap.size, n, _, rfl, Nat.le_refl _, heap_alloc_new w _, Nat.le_refl _, by unfold maxLen; omega, by rw [size_madeCells, hz1], ?_⟩⟩, ?_⟩ ((E.refl w).alloc _) (by simp))
  · rw [hz1, flat2_rep]
    show (madeCells #[Value.int .i64 0, Value.int .i64 0] (n * 2)).toList.take (n * 2) = _
    apply List.ext_getElem
    · simp [madeCells]
    · intro j h1 h2
      simp [madeCells]
      rcases Nat.mod_two_eq_zero_or_one j with h | h <;> simp [h]
  · intro z hz
    rw [List.eq_of_mem_replicate hz]
    exact ⟨wf_zero _, wf_zero _⟩

def decF : Nat → List Int → Int → List (Int × Int) × List Int × Int
  | 0, r, e => ([], r, e)
  | k + 1, r, e =>
    let a := rdIS r e
    let b := rdIS a.2.1 a.2.2
    let t := decF k b.2.1 b.2.2
    ((a.1, b.1) :: t.1, t.2)
def decodeS (l : List Int) : List Int × Int :=
  let a := rdIS l 0
  let b := rdIS a.2.1 a.2.2
  if a.1 < 0 ∨ 64 < a.1 ∨ b.1 < 0 ∨ a.1 < b.1 then ([], 2) else
    let t := decF b.1.toNat b.2.1 b.2.2
    if endS t.2.1 t.2.2 ≠ 0 ∨ validS a.1 t.1 = false then ([], 2) else ofS a.1 t.1

theorem OwnP.getg {T : TypeId} {w : World} {base g n c : Nat} {l : List (Int × Int)} (h : OwnP T w base (some ⟨g, 0, none⟩) n c l) {i : Nat} (hi : i < n) :
    ∃ x y, l[i]? = some (x, y) ∧ w.cell? ⟨g, i * 2, none⟩ = some (.int .i64 x) ∧ w.cell? ⟨g, i * 2 + 1, none⟩ = some (.int .i64 y) ∧ w.frozen? ⟨g, i * 2, none⟩ = false ∧ w.frozen? ⟨g, i * 2 + 1, none⟩ = false := by
  obtain ⟨b, o, x, y, e, _, hx, _, _, h1, h2⟩ := h.reads.get hi
  injection e with e
  injection e with e1 e2
  subst e1 e2
  rw [Nat.zero_add] at h1 h2
  exact ⟨x, y, hx, h1, h2, World.ownsRow.frozenAt h.2.1 _, World.ownsRow.frozenAt h.2.1 _⟩
theorem OwnP.keptg {T : TypeId} {w w' : World} {base g gl n c : Nat} {l : List (Int × Int)} (h : OwnP T w base (some ⟨gl, 0, none⟩) n c l) (hG : w.grownBy w' (some g)) (hne : gl ≠ g) : OwnP T w' base (some ⟨gl, 0, none⟩) n c l :=
  ⟨h.1, h.2.1.kept hG (.inr (by simp [Value.ownBlock]; exact hne)), h.2.2⟩
theorem Rd.far {w : World} {g : Nat} {rest : List Int} {err : Int} (h : Rd w g rest err) {p : Addr} (hp : g < p.block) (u : Value) : Rd (w.setCell p u) g rest err := by
  obtain ⟨A, n, c, hg, hN, hbd⟩ := h
  refine ⟨A, n, c, by rw [Below.heap_setCell _ _ _ _ (by omega)]; exact hg, ⟨hN.len, hN.cap, hN.mx, hN.wf, fun hn => ?_⟩, hbd⟩
  obtain ⟨b, o, h1, h2, h3⟩ := hN.at_ hn
  refine ⟨b, o, h1, by simpa [World.setCell] using h2, fun i hi => ?_⟩
  rw [World.cell?_setCell_other _ _ _ _ (fun e => by have := hbd b o h1 hn; subst e; simp at hp; omega)]
  exact h3 i hi
theorem Rd.e {w w' : World} {g : Nat} {rest : List Int} {err : Int} (h : Rd w g rest err) (hE : E w w') : Rd w' g rest err := by
  obtain ⟨A, n, c, hg, hN, hbd⟩ := h
  exact ⟨A, n, c, by rw [hE.block (blk_lt hg)]; exact hg, hN.e hE, hbd⟩
theorem rdIS_wf {r : List Int} {e : Int} (hb : ∀ x ∈ r, 0 ≤ x ∧ x ≤ 255) : (Lit.int .i64 (rdIS r e).1).wf = true := by
  obtain ⟨z, hz, hl⟩ := rdUS_nat (err := e) hb
  have := unzig_range hl
  simp only [rdIS, hz, Int.toNat_natCast]
  exact wf_of_i64 this.1 this.2

theorem mid_rep {d : List (Int × Int)} {k M : Nat} (hd : d.length = k) (hk : k < M) : (d ++ List.replicate (M - k) (0, 0))[k]? = some (0, 0) := by
  rw [List.getElem?_append_right (by omega), hd, Nat.sub_self]
  rw [show M - k = (M - k - 1) + 1 by omega, List.replicate_succ]; rfl
theorem mid_rep_set {d : List (Int × Int)} {k M : Nat} {q : Int × Int} (hd : d.length = k) (hk : k < M) : (d ++ List.replicate (M - k) (0, 0)).set k q = d ++ q :: List.replicate (M - (k + 1)) (0, 0) := by
  rw [List.set_append_right _ _ (by omega), hd, Nat.sub_self, show M - k = (M - (k + 1)) + 1 by omega, List.replicate_succ]; rfl
theorem decF_step {k M : Nat} {r : List Int} {e : Int} (hk : k < M) {x y : Int} {r1 r2 : List Int} {e1 e2 : Int} (h1 : rdIS r e = (x, r1, e1)) (h2 : rdIS r1 e1 = (y, r2, e2)) :
    decF (M - k) r e = ((x, y) :: (decF (M - (k + 1)) r2 e2).1, (decF (M - (k + 1)) r2 e2).2) := by
  rw [show M - k = (M - (k + 1)) + 1 by omega, decF]
  simp only [h1, h2]

set_option maxHeartbeats 4000000 in
set_option maxRecDepth 100000 in
theorem decode_c (A : Option Addr) (n c : Nat) (l : List Int) (w : World) (h : Nums .u8 w A n c l) (hn : n ≤ 1099511627776) :
    Calls Try.prog 39 #[.slice A n c] w (RetOwnErr .i64 3 w (decodeS l)) := by
  have HN := Lib.hid hn
  clear hn
  go_enter Try.func39, Try.ntmps39
  go_wp2_with fail
  refine (read_c _ _ _ _ _ h HN.out).mono ?_
  rintro e w1 ⟨g, rfl, hR1, hgw, hE1⟩
  go_wp2_with fail
  refine (rInt_c _ _ _ _ hR1).mono ?_
  rintro e w2 ⟨rfl, hR2, hG2⟩
  have hE2 := hE1.grown hG2 (fun k hk => by injection hk with hk; omega)
  generalize ha : rdIS l 0 = a at hR2 ⊢
  obtain ⟨N, r1, e1⟩ := a
  go_wp2_with fail
  refine (rInt_c _ _ _ _ hR2).mono ?_
  rintro e w3 ⟨rfl, hR3, hG3⟩
  have hE3 := hE2.grown hG3 (fun k hk => by injection hk with hk; omega)
  have hwM := rdIS_wf (e := e1) hR2.bytes
  generalize hb : rdIS r1 e1 = b at hR3 hwM ⊢
  obtain ⟨M, r2, e2⟩ := b
  have HS := Lib.hid (show decodeS l = if N < 0 ∨ 64 < N ∨ M < 0 ∨ N < M then ([], 2) else
      if endS (decF M.toNat r2 e2).2.1 (decF M.toNat r2 e2).2.2 ≠ 0 ∨ validS N (decF M.toNat r2 e2).1 = false then ([], 2) else ofS N (decF M.toNat r2 e2).1 by
    simp only [decodeS, ha, hb])
  clear ha hb hR1 hR2 hG2 hG3 hE1 hE2 hwM
  simp only at hR3 ⊢
  by_cases c1 : N < 0
  · have HF := Lib.hid (show decodeS l = ([], 2) by rw [HS.out, if_pos (.inl c1)])
    go_wp2
    go_ret2
    exact RetOwnErr.mk_ HF.out (Own.nil _ _ _ _) hE3
  have d1 : decide (N < 0) = false := by simpa using c1
  by_cases c2 : 64 < N
  · have HF := Lib.hid (show decodeS l = ([], 2) by rw [HS.out, if_pos (.inr (.inl c2))])
    go_wp2
    go_ret2
    exact RetOwnErr.mk_ HF.out (Own.nil _ _ _ _) hE3
  have d2 : decide (64 < N) = false := by simpa using c2
  by_cases c3 : M < 0
  · have HF := Lib.hid (show decodeS l = ([], 2) by rw [HS.out, if_pos (.inr (.inr (.inl c3)))])
    go_wp2
    go_ret2
    exact RetOwnErr.mk_ HF.out (Own.nil _ _ _ _) hE3
  have d3 : decide (M < 0) = false := by simpa using c3
  by_cases c4 : N < M
  · have HF := Lib.hid (show decodeS l = ([], 2) by rw [HS.out, if_pos (.inr (.inr (.inr c4)))])
    go_wp2
    go_ret2
    exact RetOwnErr.mk_ HF.out (Own.nil _ _ _ _) hE3
  have d4 : decide (N < M) = false := by simpa using c4
  have HT := Lib.hid (show decodeS l = if endS (decF M.toNat r2 e2).2.1 (decF M.toNat r2 e2).2.2 ≠ 0 ∨ validS N (decF M.toNat r2 e2).1 = false then ([], 2) else ofS N (decF M.toNat r2 e2).1 by
    rw [HS.out, if_neg]; omega)
  clear HS
  obtain ⟨m, rfl⟩ : ∃ m : Nat, M = m := ⟨M.toNat, by omega⟩
  have hm64 : m ≤ 64 := by omega
  rw [Int.toNat_natCast] at HT
  go_wp2_with (at_make; refine wpList_mkP amtT _ rfl _ _ rfl _ _ _ _ m rfl rfl rfl rfl (by omega) ?_; intro w4 hO4 hE4 hsz4)
  have hgl : g < w3.heap.size := by obtain ⟨_, _, _, hg, _⟩ := hR3; exact blk_lt hg
  have hR4 := hR3.e hE4
  have hle3 := hE3.le
  generalize hgle : w3.heap.size = gl at *
  have hE4' := hE3.trans hE4
  clear hE4 hR3 hsz4
  go_loopw [34] (fun t wr => ∃ (k : Nat) (d : List (Int × Int)) (r : List Int) (e : Int), k ≤ m ∧ t = .int .i64 k ∧ Hid (d.length = k) ∧ OwnP 99 wr gl (some ⟨gl, 0, none⟩) m m (d ++ List.replicate (m - k) (0, 0)) ∧ Rd wr g r e ∧ E w wr ∧ Hid ((d ++ (decF (m - k) r e).1, (decF (m - k) r e).2) = decF m r2 e2)) (fun t _ => m - (intOf t).toNat)
  case atStart => exact ⟨0, [], r2, e2, Nat.zero_le _, rfl, rfl, hO4, hR4, hE4', rfl⟩
  case round =>
    obtain ⟨k, d, r, e, hk, rfl, hd, hO, hR, hE, hs⟩ := hrel
    by_cases hlt : k < m
    · go_wp2_with fail
      refine (rInt_c _ _ _ _ hR).mono ?_
      rintro ee w5 ⟨rfl, hR5, hG5⟩
      have hwx := rdIS_wf (e := e) hR.bytes
      generalize hx : rdIS r e = a at hR5 hwx ⊢
      obtain ⟨x, r5, e5⟩ := a
      have HX := Lib.hid hx
      clear hx
      simp only at hR5 hwx ⊢
      have hO5 := hO.keptg hG5 (by omega)
      have hE5 := hE.grown hG5 (fun k hk => by injection hk with hk; omega)
      obtain ⟨_, _, hz, hc1, hc2, hf1, hf2⟩ := hO5.getg hlt
      rw [mid_rep hd.out hlt] at hz
      injection hz with hz
      injection hz with z1 z2
      subst z1 z2
      have hO6 := (hO5.set (mid_rep hd.out hlt) hwx (wf_zero _)).1
      rw [mid_rep_set hd.out hlt] at hO6
      have hR6 := hR5.far (p := ⟨gl, k * 2, none⟩) hgl (.int .i64 x)
      have hE6 := hE5.setCell (p := ⟨gl, k * 2, none⟩) hle3 (.int .i64 x)
      clear hO hO5 hR hR5 hE hE5 hG5
      go_wp2_with fail
      generalize w5.setCell ⟨gl, k * 2, none⟩ (.int .i64 x) = w6 at *
      refine (rInt_c _ _ _ _ hR6).mono ?_
      rintro ee w7 ⟨rfl, hR7, hG7⟩
      have hwy := rdIS_wf (e := e5) hR6.bytes
      generalize hy : rdIS r5 e5 = a at hR7 hwy ⊢
      obtain ⟨y, r7, e7⟩ := a
      have HY := Lib.hid hy
      clear hy hc1 hc2 hf1 hf2
      simp only at hR7 hwy ⊢
      have hO7 := hO6.keptg hG7 (by omega)
      have hE7 := hE6.grown hG7 (fun k hk => by injection hk with hk; omega)
      obtain ⟨_, _, hz, hc1, hc2, hf1, hf2⟩ := hO7.getg hlt
      have hz' : (d ++ (x, 0) :: List.replicate (m - (k + 1)) (0, 0))[k]? = some (x, 0) := by rw [List.getElem?_append_right (by rw [hd.out]; omega), hd.out, Nat.sub_self]; rfl
      rw [hz'] at hz
      injection hz with hz
      injection hz with z1 z2
      subst z1 z2
      have hO8 := (hO7.set hz' hwx hwy).2
      have hset : (d ++ (x, 0) :: List.replicate (m - (k + 1)) (0, 0)).set k (x, y) = (d ++ [(x, y)]) ++ List.replicate (m - (k + 1)) (0, 0) := by
        rw [List.set_append_right _ _ (by rw [hd.out]; omega), hd.out, Nat.sub_self]; simp
      rw [hset] at hO8
      have hR8 := hR7.far (p := ⟨gl, k * 2 + 1, none⟩) hgl (.int .i64 y)
      have hE8 := hE7.setCell (p := ⟨gl, k * 2 + 1, none⟩) hle3 (.int .i64 y)
      clear hO6 hO7 hR6 hR7 hE6 hE7 hG7 hz' hset
      go_wp2
      go_roundw
      case rel => exact ⟨k + 1, d ++ [(x, y)], r7, e7, by omega, by go_num, show _ = _ by simp [hd.out], hO8, hR8, hE8, show _ = _ by rw [← hs.out, decF_step hlt HX.out HY.out]; simp⟩
      case measure => simp [intOf]; omega
    · have hkm : k = m := by omega
      have HD := Lib.hid (show decF m r2 e2 = (d, r, e) by rw [← hs.out, hkm, Nat.sub_self]; simp [decF])
      have hOd : OwnP 99 wr gl (some ⟨gl, 0, none⟩) m m d := by rw [hkm, Nat.sub_self] at hO; simpa using hO
      have HT2 := Lib.hid (show decodeS l = if endS r e ≠ 0 ∨ validS N d = false then ([], 2) else ofS N d by rw [HT.out, HD.out])
      clear hO hkm
      by_cases he : endS r e = 0
      · have hd0 : (endS r e != 0) = false := by simp [he]
        have HE := Lib.hid he
        clear he
        cases hv : validS N d
        · have HF := Lib.hid (show decodeS l = ([], 2) by rw [HT2.out, if_pos (.inr hv)])
          go_wp2_with (first
            | (go_at_call 42; refine (rEnd_c _ _ _ _ hR).mono ?_; rintro ee w' ⟨rfl, rfl⟩)
            | (go_at_call 68; refine (valid_c _ _ _ _ _ _ hOd.reads).mono ?_; rintro ee w5 ⟨rfl, hE5⟩))
          go_ret2
          exact RetOwnErr.mk_ HF.out (Own.nil _ _ _ _) (hE.trans hE5)
        · have HF := Lib.hid (show decodeS l = ofS N d by rw [HT2.out, if_neg]; rintro (h1 | h1); exact h1 HE.out; rw [hv] at h1; cases h1)
          go_wp2_with (first
            | (go_at_call 42; refine (rEnd_c _ _ _ _ hR).mono ?_; rintro ee w' ⟨rfl, rfl⟩)
            | (go_at_call 68; refine (valid_c _ _ _ _ _ _ hOd.reads).mono ?_; rintro ee w5 ⟨rfl, hE5⟩)
            | (go_at_call 69; refine (of_c _ _ _ _ _ _ (hOd.reads.e hE5)).mono ?_; rintro ee w6 ⟨A6, n6, c6, rfl, hO6, hE6⟩))
          go_ret2
          exact RetOwnErr.mk_ HF.out (hO6.rebase (by have := hE.le; have := hE5.le; omega)) ((hE.trans hE5).trans hE6)
      · have hd0 : (endS r e != 0) = true := by simpa using he
        have HF := Lib.hid (show decodeS l = ([], 2) by rw [HT2.out, if_pos (.inl he)])
        clear he
        go_wp2_with (go_at_call 42; refine (rEnd_c _ _ _ _ hR).mono ?_; rintro ee w' ⟨rfl, rfl⟩)
        go_ret2
        exact RetOwnErr.mk_ HF.out (Own.nil _ _ _ _) hE
end Go.Proofs.Ythcicfolabngcaa
/- The reference's encoding of numbers. -/
namespace Go.Proofs.Ythcicfolabngcaa
open Go.RowKit

end Go.Proofs.Ythcicfolabngcaa
/- Sorted of the reference; Same of amounts; Amounts of the reference. -/
namespace Go.Proofs.Ythcicfolabngcaa
open Go.RowKit

def incF : Int → List (Int × Int) → Bool
  | _, [] => true
  | last, (x, _) :: l => decide (last < x) && incF x l
def incAt (l : List (Int × Int)) (m : Nat) : Bool := match l[m]? with | some (x, _) => incF x (l.drop (m + 1)) | none => true
theorem incAt_step {l : List (Int × Int)} {m : Nat} {x y x' y' : Int} (h1 : l[m]? = some (x, y)) (h2 : l[m + 1]? = some (x', y')) : incAt l m = (decide (x < x') && incAt l (m + 1)) := by
  simp only [incAt, h1, h2]
  rw [drop_at h2]; rfl
theorem incAt_end {l : List (Int × Int)} {m n : Nat} (hl : l.length = n) (h : n ≤ m + 1) : incAt l m = true := by
  unfold incAt
  split
  · rw [drop_end hl h]; rfl
  · rfl
theorem validF_inc (N : Int) : ∀ (l : List (Int × Int)) (last : Int), validF N last l = (allProper N l && incF last l)
  | [], _ => rfl
  | (x, y) :: l, last => by
    show (properB N x y && (decide (last < x) && validF N x l)) = ((properB N x y && allProper N l) && (decide (last < x) && incF x l))
    rw [validF_inc N l x]
    cases properB N x y <;> cases allProper N l <;> cases decide (last < x) <;> cases incF x l <;> rfl
theorem valid_sorted (N : Int) (l : List (Int × Int)) : (okAmts N l && incAt l 0) = validS N l := by
  rw [okAmts, validS, validF_inc]
  cases l with
  | nil => simp [incAt, incF, allProper]
  | cons p l =>
    obtain ⟨x, y⟩ := p
    have e : incAt ((x, y) :: l) 0 = incF x l := rfl
    rw [e]
    show _ = (_ && (_ && (decide (-1 < x) && incF x l)))
    cases hp : allProper N ((x, y) :: l)
    · simp
    · have : decide (-1 < x) = true := by
        have := proper_get (k := 0) hp rfl
        simp; omega
      rw [this]
      cases decide (0 ≤ N) && decide (N ≤ 64) <;> cases incF x l <;> rfl

def samePB (a b : List (Int × Int)) : Bool := decide (a = b)
end Go.Proofs.Ythcicfolabngcaa
/- Encode of the reference. -/
namespace Go.Proofs.Ythcicfolabngcaa
open Go.RowKit

theorem sOf {w0 w2 : World} (hE : E w0 w2) : w0.heap.size ≤ w2.heap.size ∧ ∀ b o, b < w0.heap.size → w2.cell? ⟨b, o, none⟩ = w0.cell? ⟨b, o, none⟩ := ⟨hE.le, fun b o hb => hE.cell (p := ⟨b, o, none⟩) hb⟩
theorem step_appN {P : Program} {S T : TypeId} {k : IntKind} {by8 : Nat} (it : IntT P S T k by8) {W : World} {ops : Array Oper} {o : Oper} {a : Act} {K : Act → World → Prop} {Q : Exit → Act → World → Prop} {R : Prop} (hgd : o.guard = none) (s x : Operand)
    (ho : o.op = .call { callee := .builtin .append, args := #[s, x], argTypes := #[S, S] })
    (base : Nat) (A : Option Addr) (n c : Nat) (l : List Int) (hs : a.eval s = .slice A n c) (hown : Own k T W base A n c l)
    (A2 : Option Addr) (m c2 : Nat) (l2 : List Int) (hx : a.eval x = .slice A2 m c2) (hr : Nums k W A2 m c2 l2) (hlen : n + m ≤ 1099511627776) (hbase : base ≤ W.heap.size)
    (h : ∀ A' c' w', Own k T w' base A' (n + m) c' (l ++ l2) → W.grownBy w' (Value.slice A n c).ownBlock → Below base W w' → K (a.put o.dst (.slice A' (n + m) c')) w') :
    if Region.wanted o (yielded ops a.tmps) = true then Oper.wp P o a W K Q else R := by
  have hw : Region.wanted o (yielded ops a.tmps) = true := by simp [Region.wanted, hgd]
  rw [if_pos hw]
  obtain ⟨A', c', w', hrun, hO, h3, h5⟩ := run_appN it W o.type base A n c l hown A2 m c2 l2 hr hlen hbase
  unfold Oper.wp execOp
  simp only [ho, resolve, invoke, builtin, Sem.run_bind, Sem.run_pure, Result.andThen_ok, List.map_toArray, List.map_cons, List.map_nil, hs, hx, hrun]
  exact h A' c' w' hO h3 ((Below.refl base W).grown h3 hbase (ownBlock_le hown))

end Go.Proofs.Ythcicfolabngcaa
/- The walk of BagLists. -/
namespace Go.Proofs.Ythcicfolabngcaa
open Go.RowKit

theorem ofF_amF : ∀ (suf pr : List Int), (∀ x ∈ suf, 0 ≤ x ∧ x ≤ 1099511627776) → ofF (pr ++ List.replicate suf.length 0) (amF pr.length suf) = (pr ++ suf, 0)
  | [], pr, _ => by simp [amF, ofF]
  | x :: s, pr, h => by
    have hx := h x List.mem_cons_self
    have ih := ofF_amF s (pr ++ [x]) (fun y hy => h y (List.mem_cons_of_mem _ hy))
    simp only [List.length_append, List.length_cons, List.length_nil, Nat.zero_add, List.append_assoc, List.cons_append, List.nil_append] at ih
    by_cases h0 : 0 < x
    · have e : amF pr.length (x :: s) = ((pr.length : Int), x) :: amF (pr.length + 1) s := by simp [amF, h0]
      have g : (pr ++ List.replicate (s.length + 1) 0).getD pr.length 0 = 0 := by
        rw [List.getD_eq_getElem?_getD, List.getElem?_append_right (Nat.le_refl _), Nat.sub_self]; simp [List.replicate_succ]
      have st : (pr ++ List.replicate (s.length + 1) 0).set pr.length (0 + x) = pr ++ x :: List.replicate s.length 0 := by
        rw [List.set_append_right _ _ (Nat.le_refl _), Nat.sub_self]; simp [List.replicate_succ]
      rw [e, List.length_cons]
      simp only [ofF, Int.toNat_natCast, g]
      rw [if_neg (by omega), st]
      exact ih
    · have hz : x = 0 := by omega
      subst hz
      have e : amF pr.length (0 :: s) = amF (pr.length + 1) s := by simp [amF]
      rw [e, List.length_cons, List.replicate_succ]
      exact ih
theorem validF_amF (N : Int) : ∀ (suf : List Int) (k : Nat) (last : Int), (∀ x ∈ suf, 0 ≤ x ∧ x ≤ 1099511627776) → last < k → ((k + suf.length : Nat) : Int) ≤ N → validF N last (amF k suf) = true
  | [], _, _, _, _, _ => rfl
  | x :: s, k, last, h, hl, hN => by
    have hx := h x List.mem_cons_self
    simp only [List.length_cons] at hN
    by_cases h0 : 0 < x
    · have e : amF k (x :: s) = ((k : Int), x) :: amF (k + 1) s := by simp [amF, h0]
      rw [e]
      show (properB N k x && (decide (last < k) && validF N k (amF (k + 1) s))) = true
      rw [validF_amF N s (k + 1) k (fun y hy => h y (List.mem_cons_of_mem _ hy)) (by omega) (by omega)]
      simp [properB]; omega
    · have e : amF k (x :: s) = amF (k + 1) s := by simp [amF, h0]
      rw [e]
      exact validF_amF N s (k + 1) last (fun y hy => h y (List.mem_cons_of_mem _ hy)) (by omega) (by omega)
theorem properF_amF {N : Int} {l : List (Int × Int)} {last : Int} (h : validF N last l = true) : allProper N l = true := by
  rw [validF_inc] at h; simp at h; exact h.1
theorem lists_facts {l : List Int} (h : isBagB l = true) : ofS l.length (amountsS l) = (l, 0) ∧ validS l.length (amountsS l) = true := by
  obtain ⟨h1, h2⟩ := isBag_iff.1 h
  have ha : amountsS l = amF 0 l := by simp [amountsS, h]
  have hv := validF_amF l.length l 0 (-1) h2 (by omega) (by omega)
  rw [ha]
  refine ⟨?_, by rw [validS, hv]; simp; omega⟩
  rw [ofS, if_pos ⟨by omega, by omega, properF_amF hv⟩]
  have := ofF_amF l [] h2
  simpa using this

end Go.Proofs.Ythcicfolabngcaa
