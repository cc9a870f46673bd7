/- Lemmas of the claim, joined: A L LN EX TC TD TE TF P TG TH TI TJ TK TL. No condition. -/
import Derived.WalkKit
import Derived.WalkSpells
import Derived.Lib.Hide
import Derived.Deep.Draws
import Derived.Deep.QuietTactic
import Derived.BigQuiet
import Derived.StillTail
import Derived.Laws.CopyOwn
import Derived.Maps.AppendAt
import Derived.StillTailTactics
import Derived.OneCell
import Derived.RangeFuncNested
import Derived.RangeFuncBound
import Derived.RangeFuncCalls
import Derived.RangeFuncLeaves
import Derived.RangeFuncFrom
import Derived.Shelf.Abstract
import Derived.Shelf.RegionOpen
import Derived.OwnWalkIn
import Derived.TacticsInMore
import Derived.LoopNIn
import Derived.LoopIn
import Derived.Outline
import Derived.Deep.DeepCutAuto
import Derived.RegionTactic
import Derived.BigRegion
import Derived.Laws.EntriesVeiled
import Derived.Deep.RegionHeld3
import Derived.Test.YtmeplpiamkaniaaGreatChecked
import Derived.Test.YtmeplpiamkaniaaGreatJQ
import Derived.Below
namespace Go.Proofs.YtmeplpiamkaniaaGreat
set_option linter.unusedVariables false
set_option linter.unusedSimpArgs false
open Go.RowKit
theorem wpQuiet_off {P : Program} {ops : Array Oper} {C : World → Prop} {R : Act → Prop} {a : Act} {o : Oper} {rest : List Oper} (h : Region.wanted o (yielded ops a.tmps) = false)
    (k : ∀ K : Act → Prop, (∀ a, wpQuiet P ops C R rest a → K a) → K (a.put o.dst undef)) : wpQuiet P ops C R (o :: rest) a := by
  unfold wpQuiet
  rw [h]
  exact k _ (fun _ h => h)
theorem ret_int {k : IntKind} {a b : Int} (h : a = b) : Ending.returned (.int k a) = .returned (.int k b) := by rw [h]
theorem ret_bool {a b : Bool} (h : a = b) : Ending.returned (.bool a) = .returned (.bool b) := by rw [h]
theorem ret_two {k k' : IntKind} {a b c d : Int} (h : a = b) (h' : c = d) : Ending.returned (.tuple #[.int k a, .int k' c]) = .returned (.tuple #[.int k b, .int k' d]) := by rw [h, h']
def Q (w w' : World) : Prop := ∃ m, w' = w.drewN m
theorem Q.refl (w : World) : Q w w := ⟨0, rfl⟩
theorem Q.drew {a w : World} (h : Q a w) : Q a w.drew := by obtain ⟨m, rfl⟩ := h; exact ⟨m + 1, rfl⟩
theorem Q.drewN {a w : World} (h : Q a w) (n : Nat) : Q a (w.drewN n) := by obtain ⟨m, rfl⟩ := h; exact ⟨m + n, by rw [World.drewN_drewN]⟩
theorem Q.trans {a b c : World} (h : Q a b) (k : Q b c) : Q a c := by obtain ⟨m, rfl⟩ := k; exact h.drewN m
theorem Q.heap {a w : World} (h : Q a w) : w.heap = a.heap := by obtain ⟨m, rfl⟩ := h; rfl
def E (w w' : World) : Prop := Below w.heap.size w w'
theorem E.refl (w : World) : E w w := Below.refl _ _
theorem E.le {a b : World} (h : E a b) : a.heap.size ≤ b.heap.size := h.size
theorem E.trans {a b c : World} (h : E a b) (k : E b c) : E a c := Below.trans h (Below.mono k h.size)
theorem E.drewN {a b : World} (h : E a b) (n : Nat) : E a (b.drewN n) := ⟨h.os, h.tape, h.output, h.size, h.block⟩
theorem E.drew {a b : World} (h : E a b) : E a b.drew := ⟨h.os, h.tape, h.output, h.size, h.block⟩
theorem E.alloc {a b : World} (h : E a b) (o : Obj) : E a (b.alloc o) := Below.alloc h h.size o
theorem E.setCell {a b : World} (h : E a b) {p : Addr} (hp : a.heap.size ≤ p.block) (u : Value) : E a (b.setCell p u) := Below.setCell h hp u
theorem E.grown {a w w' : World} {row : Option Nat} (h : E a w) (hg : w.grownBy w' row) (hr : ∀ k, row = some k → a.heap.size ≤ k) : E a w' := Below.grown h hg h.size hr
theorem E.up {a b c : World} (h : E a b) (k : Below a.heap.size b c) : E a c := Below.trans h k
theorem E.of_q {a b : World} (h : Q a b) : E a b := by obtain ⟨m, rfl⟩ := h; exact (E.refl a).drewN m
theorem E.q {a b c : World} (h : E a b) (k : Q b c) : E a c := h.trans (E.of_q k)
theorem E.cell {a b : World} (h : E a b) {p : Addr} (hp : p.block < a.heap.size) : b.cell? p = a.cell? p := Below.cell h hp
theorem E.block {a b : World} (h : E a b) {k : Nat} (hk : k < a.heap.size) : b.heap[k]? = a.heap[k]? := Below.block h k hk
structure Nums (k : IntKind) (w : World) (A : Option Addr) (n c : Nat) (l : List Int) : Prop where
  len : l.length = n
  cap : n ≤ c
  mx : c ≤ maxLen
  wf : ∀ x ∈ l, (Lit.int k x).wf = true
  at_ : 0 < n → ∃ b o, A = some ⟨b, o, none⟩ ∧ b < w.heap.size ∧ ∀ i, (h : i < l.length) → w.cell? ⟨b, o + i, none⟩ = some (.int k l[i])
theorem Nums.e {k : IntKind} {w w' : World} {A : Option Addr} {n c : Nat} {l : List Int} (h : Nums k w A n c l) (he : E w w') : Nums k w' A n c l :=
  ⟨h.len, h.cap, h.mx, h.wf, fun hn => by
    obtain ⟨b, o, h1, h2, h3⟩ := h.at_ hn
    exact ⟨b, o, h1, Nat.lt_of_lt_of_le h2 he.le, fun i hi => (he.cell (p := ⟨b, o + i, none⟩) h2).trans (h3 i hi)⟩⟩
theorem Nums.q {k : IntKind} {w w' : World} {A : Option Addr} {n c : Nat} {l : List Int} (h : Nums k w A n c l) (he : Q w w') : Nums k w' A n c l := h.e (E.of_q he)
theorem Nums.nil (k : IntKind) (w : World) (A : Option Addr) (c : Nat) (hc : c ≤ maxLen) : Nums k w A 0 c [] := ⟨rfl, Nat.zero_le _, hc, by simp, fun h => absurd h (by omega)⟩
theorem Nums.cast {k : IntKind} {w : World} {A : Option Addr} {n c : Nat} {l l' : List Int} (h : Nums k w A n c l) (e : l = l') : Nums k w A n c l' := e ▸ h
theorem wf_i64 {x : Int} (h : (Lit.int .i64 x).wf = true) : -9223372036854775808 ≤ x ∧ x ≤ 9223372036854775807 := by
  have h' : IntKind.i64.min ≤ x ∧ x ≤ 9223372036854775807 := by simpa [Lit.wf] using h
  have e : IntKind.i64.min = -9223372036854775808 := by decide
  rw [e] at h'; exact h'
theorem wf_of_i64 {x : Int} (h1 : -9223372036854775808 ≤ x) (h2 : x ≤ 9223372036854775807) : (Lit.int .i64 x).wf = true := WalkArith.wf_i64 ⟨h1, h2⟩
theorem Nums.n63 {k : IntKind} {w : World} {A : Option Addr} {n c : Nat} {l : List Int} (h : Nums k w A n c l) : n ≤ 9223372036854775807 := by
  have := h.cap; have := h.mx; unfold maxLen at this; omega
theorem Nums.c63 {k : IntKind} {w : World} {A : Option Addr} {n c : Nat} {l : List Int} (h : Nums k w A n c l) : c ≤ 9223372036854775807 := by
  have := h.mx; unfold maxLen at this; omega
theorem Nums.get {k : IntKind} {w : World} {A : Option Addr} {n c : Nat} {l : List Int} (h : Nums k w A n c l) {i : Nat} (hi : i < n) :
    ∃ b o x, A = some ⟨b, o, none⟩ ∧ b < w.heap.size ∧ l[i]? = some x ∧ (Lit.int k x).wf = true ∧ w.cell? ⟨b, o + i, none⟩ = some (.int k x) := by
  obtain ⟨b, o, h1, h2, h3⟩ := h.at_ (by omega)
  have hl : i < l.length := by rw [h.len]; exact hi
  exact ⟨b, o, l[i], h1, h2, List.getElem?_eq_getElem hl, h.wf _ (List.getElem_mem hl), h3 i hl⟩
theorem nums_of_row {k : IntKind} {w : World} {a : Option Addr} {len cap : Nat} {zs : List Int} (h : (a = none ∧ len = 0 ∧ cap = 0 ∧ zs = []) ∨
    ∃ x, a = some x ∧ len ≤ cap ∧ cap ≤ maxLen ∧ zs.length = cap ∧ (∀ i, i < zs.length → w.cell? (x.add i) = some (.int k (zs.getD i 0))) ∧ ∀ n ∈ zs, (Lit.int k n).wf = true) :
    Nums k w a len cap (zs.take len) := by
  rcases h with ⟨rfl, rfl, rfl, rfl⟩ | ⟨x, rfl, hl, hm, hz, hc, hw⟩
  · exact Nums.nil _ _ _ _ (Nat.zero_le _)
  · have htl : (zs.take len).length = len := by rw [List.length_take]; omega
    refine ⟨htl, hl, hm, fun y hy => hw y (List.mem_of_mem_take hy), fun hn => ?_⟩
    obtain ⟨b, off, spot⟩ := x
    have h0 := hc 0 (by omega)
    have hspot : spot = none := by simpa [Addr.add] using World.cell?_spot h0
    subst hspot
    have hb : b < w.heap.size := by simpa [Addr.add] using World.block_lt_of_cell? w _ h0
    refine ⟨b, off, rfl, hb, fun i hi => ?_⟩
    rw [htl] at hi
    have := hc i (by omega)
    have he : (⟨b, off, none⟩ : Addr).add i = ⟨b, off + i, none⟩ := by
      unfold Addr.add
      split
      · rename_i h; subst h; rfl
      · rfl
    rw [he] at this
    rw [this, List.getElem_take]
    simp [List.getD, List.getElem?_eq_getElem (show i < zs.length by omega)]
def Own (k : IntKind) (T : TypeId) (w : World) (base : Nat) (A : Option Addr) (n c : Nat) (l : List Int) : Prop :=
  l.length = n ∧ w.ownsRow base T 1 (.slice A n c) n (l.map (Value.int k)) ∧ ∀ x ∈ l, (Lit.int k x).wf = true
section
variable {k : IntKind} {T : TypeId} {w w' : World} {base base' : Nat} {A : Option Addr} {n c : Nat} {l : List Int}
theorem Own.nil (k : IntKind) (T : TypeId) (w : World) (base : Nat) : Own k T w base none 0 0 [] := ⟨rfl, World.ownsRow_nil _ _ _ _, by simp⟩
theorem Own.form (h : Own k T w base A n c l) : (A = none ∧ n = 0 ∧ c = 0) ∨ ∃ g, A = some ⟨g, 0, none⟩ ∧ base ≤ g ∧ g < w.heap.size ∧ n ≤ c ∧ c ≤ maxLen := by
  obtain ⟨h1, h2, h3⟩ := h
  rcases h2.2 with ⟨hv, hn⟩ | ⟨g, cap, cur, hv, hb, hh, hnc, hcm, _, _⟩
  · left; injection hv with e1 e2 e3; exact ⟨e1, e2, e3⟩
  · right
    injection hv with e1 e2 e3
    subst e1 e3
    refine ⟨g, rfl, hb, ?_, hnc, hcm⟩
    rcases Nat.lt_or_ge g w.heap.size with hlt | hge
    · exact hlt
    · rw [Array.getElem?_eq_none hge] at hh; cases hh
theorem Own.reads (h : Own k T w base A n c l) : Nums k w A n c l := by
  have hf := h.form
  obtain ⟨h1, h2, h3⟩ := h
  refine ⟨h1, ?_, ?_, h3, fun hn => ?_⟩
  · rcases hf with ⟨_, h, _⟩ | ⟨_, _, _, _, h, _⟩ <;> omega
  · rcases hf with ⟨_, _, h⟩ | ⟨_, _, _, _, _, h⟩ <;> (unfold maxLen at *; omega)
  · rcases hf with ⟨_, h, _⟩ | ⟨g, rfl, _, hlt, hnc, hcm⟩
    · omega
    · refine ⟨g, 0, rfl, hlt, fun i hi => ?_⟩
      have := World.ownsRow.cellAt h2 i (by omega)
      rw [Nat.zero_add, this, List.getElem?_map, List.getElem?_eq_getElem hi]
      rfl
theorem Own.e (h : Own k T w base A n c l) (he : E w w') : Own k T w' base A n c l := by
  obtain ⟨h1, h2, h3⟩ := h
  refine ⟨h1, ?_, h3⟩
  obtain ⟨a1, a2⟩ := h2
  refine ⟨a1, ?_⟩
  rcases a2 with a2 | ⟨g, cap, cur, hv, hb, hh, r⟩
  · exact .inl a2
  · refine .inr ⟨g, cap, cur, hv, hb, ?_, r⟩
    have hlt : g < w.heap.size := by
      rcases Nat.lt_or_ge g w.heap.size with hlt | hge
      · exact hlt
      · rw [Array.getElem?_eq_none hge] at hh; cases hh
    rw [he.block hlt]; exact hh
theorem Own.q (h : Own k T w base A n c l) (he : Q w w') : Own k T w' base A n c l := h.e (E.of_q he)
theorem Own.rebase (h : Own k T w base A n c l) (hb : base' ≤ base) : Own k T w base' A n c l := by
  obtain ⟨h1, ⟨a1, a2⟩, h3⟩ := h
  refine ⟨h1, ⟨a1, ?_⟩, h3⟩
  rcases a2 with a2 | ⟨g, cap, cur, hv, hb', r⟩
  · exact .inl a2
  · exact .inr ⟨g, cap, cur, hv, by omega, r⟩
theorem Own.cast {l' : List Int} (h : Own k T w base A n c l) (e : l = l') : Own k T w base A n c l' := e ▸ h
end
end Go.Proofs.YtmeplpiamkaniaaGreat
namespace Go.Proofs.YtmeplpiamkaniaaGreat
set_option linter.unusedVariables false
set_option linter.unusedSimpArgs false
open Go.RowKit
structure IntT (P : Program) (S T : TypeId) (k : IntKind) (by8 : Nat) : Prop where
  und : P.underlying S = some (.slice T)
  info : (P.info? T).map (fun i => (i.zero, i.size, i.bytes)) = some (some (.int k 0), 1, by8)
  small : by8 ≤ 8
theorem wf_zero (k : IntKind) : (Lit.int k 0).wf = true := by cases k <;> decide
section
variable {P : Program} {S T : TypeId} {k : IntKind} {by8 : Nat}
theorem own_of_row {w : World} {base : Nat} {v : Value} {n : Nat} {l : List Int} (h : w.ownsRow base T 1 v n (l.map (Value.int k))) (hw : ∀ x ∈ l, (Lit.int k x).wf = true) (hn : 0 < n) :
    ∃ g c, v = .slice (some ⟨g, 0, none⟩) n c ∧ Own k T w base (some ⟨g, 0, none⟩) n c l := by
  have h1 := h.1
  rw [List.length_map, Nat.mul_one] at h1
  rcases h.2 with ⟨_, h0⟩ | ⟨g, cap, cur, rfl, _⟩
  · omega
  · exact ⟨g, cap, rfl, h1, h, hw⟩
theorem ownBlock_le {w : World} {base : Nat} {A : Option Addr} {n c : Nat} {l : List Int} (h : Own k T w base A n c l) : ∀ b, (Value.slice A n c).ownBlock = some b → base ≤ b := by
  intro b hb
  exact (World.ownsRow.lt h.2.1 b hb).1
theorem wpList_app1 (it : IntT P S T k by8) (w : World) {ops : Array Oper} {rest : List Oper} {o : Oper} {a : Act} {Q : Exit → Act → World → Prop} (hgd : o.guard = none) (s x : Operand)
    (ho : o.op = .call { callee := .builtin .append, args := #[s, x], argTypes := #[S, S] })
    (base : Nat) (A : Option Addr) (n c : Nat) (l : List Int) (hs : a.eval s = .slice A n c) (hown : Own k T w base A n c l)
    (g : Nat) (v : Int) (hx : a.eval x = .slice (some ⟨g, 0, none⟩) 1 1) (hcell : w.cell? ⟨g, 0, none⟩ = some (.int k v)) (hwf : (Lit.int k v).wf = true)
    (hlen : n ≤ 1099511627776) (hbase : base ≤ w.heap.size)
    (h : ∀ g' c' w', Own k T w' base (some ⟨g', 0, none⟩) (n + 1) c' (l ++ [v]) → w.grownBy w' (Value.slice A n c).ownBlock → Below base w w' → ((Value.slice A n c).ownBlock = some g' ∨ g' = w.heap.size) → wpList P ops Q rest (a.put o.dst (.slice (some ⟨g', 0, none⟩) (n + 1) c')) w') :
    wpList P ops Q (o :: rest) a w := by
  obtain ⟨i, hi, hz0, hz1, hz2⟩ := info_parts it.info
  have hsm := it.small
  refine wpList_plain hgd fun K hK' => ?_
  obtain ⟨v', w', hrun, h2, h3, h4, h5⟩ := run_append_own_at (P := P) w base S o.type T i (.int k 0) 1 by8 it.und hi hz0 hz1 hz2 rfl (by decide) _ n _ hown.2.1 ⟨g, 0, none⟩ 1 1 [.int k v] rfl
    (by intro j u hu
        cases j with
        | zero => simp at hu; subst hu; simpa [Addr.add] using hcell
        | succ j => simp at hu)
    (by intro u hu; simp at hu; subst hu; rfl) (by unfold maxLen; omega)
    (by have : (n + 1) * by8 ≤ (n + 1) * 8 := Nat.mul_le_mul_left _ hsm
        omega) hbase
  unfold Oper.wp execOp
  simp only [ho, resolve, invoke, builtin, Sem.run_bind, Sem.run_pure, Result.andThen_ok, List.map_toArray, List.map_cons, List.map_nil, hs, hx, hrun]
  have hm : l.map (Value.int k) ++ [.int k v] = (l ++ [v]).map (Value.int k) := by simp
  rw [hm] at h2
  obtain ⟨g', c', rfl, hO⟩ := own_of_row h2 (by intro y hy; rcases List.mem_append.1 hy with hy | hy; exact hown.2.2 y hy; simp at hy; subst hy; exact hwf) (by omega)
  refine hK' _ _ (h g' c' w' hO h3 ((Below.refl base w).grown h3 hbase (ownBlock_le hown)) ?_)
  rcases h5 with h5 | h5
  · left; rw [← h5]; rfl
  · right; simpa [Value.ownBlock] using h5
theorem cell_new (w : World) (x : Value) (t : TypeId) : (w.alloc (.cells #[x] t)).cell? ⟨w.heap.size, 0, none⟩ = some x := by
  exact (cell_one_new w x t 0 x rfl)
theorem grown_of_alloc {w w' : World} {o : Obj} {row : Option Nat} (h : (w.alloc o).grownBy w' row) : w.grownBy w' row :=
  ⟨h.os, h.tape, h.output, by have := h.size; simp at this; omega, fun b hb hne => (h.block b (by simp; omega) hne).trans (Below.heap_alloc w o b hb)⟩
theorem wpList_app1n (it : IntT P S T k by8) (w : World) {ops : Array Oper} {rest : List Oper} {o : Oper} {a : Act} {Q : Exit → Act → World → Prop} (hgd : o.guard = none) (s x : Operand)
    (ho : o.op = .call { callee := .builtin .append, args := #[s, x], argTypes := #[S, S] })
    (base : Nat) (A : Option Addr) (n c : Nat) (l : List Int) (hs : a.eval s = .slice A n c) (hown : Own k T w base A n c l)
    (v : Int) (hx : a.eval x = .slice (some ⟨w.heap.size, 0, none⟩) 1 1) (hwf : (Lit.int k v).wf = true)
    (hlen : n ≤ 1099511627776) (hbase : base ≤ w.heap.size)
    (h : ∀ g' c' w', Own k T w' base (some ⟨g', 0, none⟩) (n + 1) c' (l ++ [v]) → w.grownBy w' (Value.slice A n c).ownBlock → Below base w w' → ((Value.slice A n c).ownBlock = some g' ∨ w.heap.size ≤ g') → wpList P ops Q rest (a.put o.dst (.slice (some ⟨g', 0, none⟩) (n + 1) c')) w') :
    wpList P ops Q (o :: rest) a (w.alloc (.cells #[.int k v] T)) := by
  refine wpList_app1 it (w.alloc (.cells #[.int k v] T)) hgd s x ho base A n c l hs (hown.e ((E.refl w).alloc _)) w.heap.size v hx (cell_new _ _ _) hwf hlen (by simp; omega) ?_
  intro g' c' w' hO hG hB hor
  have hG' := grown_of_alloc hG
  refine h g' c' w' hO hG' ((Below.refl base w).grown hG' hbase (ownBlock_le hown)) ?_
  rcases hor with h | h
  · exact .inl h
  · right; rw [h]; simp
theorem wpList_mk (it : IntT P S T k by8) (w : World) {ops : Array Oper} {rest : List Oper} {o : Oper} {a : Act} {Q : Exit → Act → World → Prop} (hgd : o.guard = none) (x y : Operand)
    (ho : o.op = Op.makeSlice S x y) (kl kc : IntKind) (L C : Int) (n : Nat) (hl : a.eval x = .int kl L) (hc : a.eval y = .int kc C) (hL : L = (n : Int)) (hC : C = (n : Int)) (hn : n ≤ 17592186044416)
    (h : ∀ w', Own k T w' w.heap.size (some ⟨w.heap.size, 0, none⟩) n n (List.replicate n 0) → E w w' → w'.heap.size = w.heap.size + 1 → wpList P ops Q rest (a.put o.dst (.slice (some ⟨w.heap.size, 0, none⟩) n n)) w') :
    wpList P ops Q (o :: rest) a w := by
  obtain ⟨i, hi, hz0, hz1, hz2⟩ := info_parts it.info
  have hsm := it.small
  have hb : i.bytes * n ≤ 281474976710656 := by
    rw [hz2]
    have : by8 * n ≤ 8 * n := Nat.mul_le_mul_right _ hsm
    omega
  refine wpList_plain hgd fun K hK' => ?_
  have hbI : (i.bytes : Int) * (n : Int) ≤ 281474976710656 := by
    have h : ((i.bytes * n : Nat) : Int) ≤ 281474976710656 := by omega
    rwa [Int.natCast_mul] at h
  have hr := run_make (P := P) w S T i (.int k 0) it.und hi hz0 kl kc n n (by omega) (by omega) hbI (by omega)
  simp only [Int.toNat_natCast] at hr
  subst hL
  subst hC
  unfold Oper.wp
  simp [execOp, ho, hl, hc, hr, Result.andThen]
  refine hK' _ _ (h _ ⟨by simp, ⟨by simp, .inr ⟨w.heap.size, n, _, rfl, Nat.le_refl _, heap_alloc_new w _, Nat.le_refl _, by unfold maxLen; omega, by rw [size_madeCells, hz1], ?_⟩⟩, ?_⟩ ((E.refl w).alloc _) (by simp))
  · rw [hz1, Nat.mul_one]
    show (madeCells #[Value.int k 0] n).toList.take n = _
    rw [toList_madeCells_one]
    simp
  · intro y hy
    rw [List.eq_of_mem_replicate hy]
    exact wf_zero k
theorem Own.set {w : World} {base : Nat} {g n c : Nat} {l : List Int} (h : Own k T w base (some ⟨g, 0, none⟩) n c l) (j : Nat) (v : Int) (hw : (Lit.int k v).wf = true) :
    Own k T (w.setCell ⟨g, j, none⟩ (.int k v)) base (some ⟨g, 0, none⟩) n c (l.set j v) := by
  obtain ⟨h1, h2, h3⟩ := h
  refine ⟨by simpa using h1, ?_, ?_⟩
  · have := (World.ownsRow.stored h2 j (.int k v)).1
    rwa [← List.map_set] at this
  · intro y hy
    rcases List.mem_or_eq_of_mem_set hy with h | h
    · exact h3 y h
    · subst h; exact hw
theorem Own.get {w : World} {base : Nat} {A : Option Addr} {n c : Nat} {l : List Int} (h : Own k T w base A n c l) {i : Nat} (hi : i < n) :
    ∃ g x, A = some ⟨g, 0, none⟩ ∧ base ≤ g ∧ g < w.heap.size ∧ l[i]? = some x ∧ (Lit.int k x).wf = true ∧ w.cell? ⟨g, i, none⟩ = some (.int k x) ∧ w.frozen? ⟨g, i, none⟩ = false := by
  rcases h.form with ⟨_, h0, _⟩ | ⟨g, rfl, hb, hlt, _, _⟩
  · omega
  · have hl : i < l.length := by rw [h.1]; exact hi
    refine ⟨g, l[i], rfl, hb, hlt, List.getElem?_eq_getElem hl, h.2.2 _ (List.getElem_mem hl), ?_, World.ownsRow.frozenAt h.2.1 i⟩
    rw [World.ownsRow.cellAt h.2.1 i (by omega), List.getElem?_map, List.getElem?_eq_getElem hl]; rfl
theorem Own.getg {w : World} {base g n c : Nat} {l : List Int} (h : Own k T w base (some ⟨g, 0, none⟩) n c l) {i : Nat} (hi : i < n) :
    ∃ x, base ≤ g ∧ g < w.heap.size ∧ l[i]? = some x ∧ (Lit.int k x).wf = true ∧ w.cell? ⟨g, i, none⟩ = some (.int k x) ∧ w.frozen? ⟨g, i, none⟩ = false := by
  obtain ⟨g', x, e, r⟩ := h.get hi
  injection e with e
  injection e with e
  subst e
  exact ⟨x, r⟩
def RetOwn (k : IntKind) (T : TypeId) (w : World) (l : List Int) (e : Ending) (w' : World) : Prop :=
  ∃ A n c, e = .returned (.slice A n c) ∧ Own k T w' w.heap.size A n c l ∧ E w w'
def RetOwnErr (k : IntKind) (T : TypeId) (w : World) (r : List Int × Int) (e : Ending) (w' : World) : Prop :=
  ∃ A n c, e = .returned (.tuple #[.slice A n c, .int .i64 r.2]) ∧ Own k T w' w.heap.size A n c r.1 ∧ E w w'
theorem RetOwnErr.cast {w w' : World} {r r' : List Int × Int} {e : Ending} (h : RetOwnErr k T w r e w') (hr : r = r') : RetOwnErr k T w r' e w' := hr ▸ h
theorem RetOwnErr.mk_ {w w' : World} {r : List Int × Int} {A : Option Addr} {n c : Nat} {l : List Int} {e : Int} (hr : r = (l, e)) (hO : Own k T w' w.heap.size A n c l) (hE : E w w') :
    RetOwnErr k T w r (.returned (.tuple #[.slice A n c, .int .i64 e])) w' := ⟨A, n, c, by rw [hr], by rw [hr]; exact hO, hE⟩
theorem RetOwn.mk_ {w w' : World} {r : List Int} {A : Option Addr} {n c : Nat} {l : List Int} (hr : r = l) (hO : Own k T w' w.heap.size A n c l) (hE : E w w') :
    RetOwn k T w r (.returned (.slice A n c)) w' := ⟨A, n, c, rfl, by rw [hr]; exact hO, hE⟩
end
end Go.Proofs.YtmeplpiamkaniaaGreat
namespace Go.Proofs.YtmeplpiamkaniaaGreat
set_option linter.unusedVariables false
set_option linter.unusedSimpArgs false
open Go.RowKit
section
variable {P : Program} {S T : TypeId} {k : IntKind} {by8 : Nat}
theorem own_of_row' {w : World} {base : Nat} {v : Value} {n : Nat} {l : List Int} (h : w.ownsRow base T 1 v n (l.map (Value.int k))) (hw : ∀ x ∈ l, (Lit.int k x).wf = true) :
    ∃ A c, v = .slice A n c ∧ Own k T w base A n c l := by
  have h1 := h.1
  rw [List.length_map, Nat.mul_one] at h1
  have h' := h
  rcases h.2 with ⟨rfl, rfl⟩ | ⟨g, cap, cur, rfl, _⟩
  · exact ⟨none, 0, rfl, h1, h', hw⟩
  · exact ⟨_, cap, rfl, h1, h', hw⟩
theorem add_plain (b o j : Nat) : (⟨b, o, none⟩ : Addr).add j = ⟨b, o + j, none⟩ := by
  unfold Addr.add
  split
  · rename_i h0; subst h0; rfl
  · rfl
theorem run_appN (it : IntT P S T k by8) (w : World) (ty : TypeId) (base : Nat) (A : Option Addr) (n c : Nat) (l : List Int) (hown : Own k T w base A n c l)
    (A2 : Option Addr) (m c2 : Nat) (l2 : List Int) (hr : Nums k w A2 m c2 l2) (hlen : n + m ≤ 1099511627776) (hbase : base ≤ w.heap.size) :
    ∃ A' c' w', (Builtin.append_ #[S, S] ty #[.slice A n c, .slice A2 m c2]).run P w = .ok (.slice A' (n + m) c') w' ∧ Own k T w' base A' (n + m) c' (l ++ l2) ∧ w.grownBy w' (Value.slice A n c).ownBlock ∧
      ((Value.slice A' (n + m) c').ownBlock = (Value.slice A n c).ownBlock ∨ (Value.slice A' (n + m) c').ownBlock = some w.heap.size) := by
  obtain ⟨i, hi, hz0, hz1, hz2⟩ := info_parts it.info
  have hsm := it.small
  rcases A2 with _ | ad
  · have hm : m = 0 := by
      rcases Nat.eq_zero_or_pos m with h0 | h0
      · exact h0
      · obtain ⟨_, _, h, _⟩ := hr.at_ h0; cases h
    subst hm
    have hn : l2 = [] := List.eq_nil_of_length_eq_zero hr.len
    subst hn
    refine ⟨A, c, w, ?_, by simpa using hown, World.grownBy.refl w _, .inl rfl⟩
    rcases hown.form with ⟨rfl, rfl, rfl⟩ | ⟨g, rfl, _, _, hnc, _⟩
    · simp [Builtin.append_, run_underlying it.und, sizeOf, typeInfo, hi, Builtin.lenOf, Builtin.firstCells]
    · simp [Builtin.append_, run_underlying it.und, sizeOf, typeInfo, hi, Builtin.lenOf, Builtin.firstCells, hnc, storeCells]
  · have hcells : ∀ j u, (l2.map (Value.int k))[j]? = some u → w.cell? (ad.add j) = some u := by
      intro j u hu
      rw [List.getElem?_map] at hu
      obtain ⟨x, hx, rfl⟩ := Option.map_eq_some_iff.1 hu
      obtain ⟨hj', rfl⟩ := List.getElem?_eq_some_iff.1 hx
      obtain ⟨b, o, hh, _, hc⟩ := hr.at_ (by have := hr.len; omega)
      injection hh with hh
      subst hh
      rw [add_plain]
      exact hc j hj'
    obtain ⟨v', w', hrun, h2, h3, _, h5⟩ := run_append_own_at (P := P) w base S ty T i (.int k 0) 1 by8 it.und hi hz0 hz1 hz2 rfl (by decide) _ n _ hown.2.1 ad m c2 (l2.map (Value.int k)) (by rw [List.length_map, hr.len, Nat.mul_one]) hcells (ints_oneCell k l2) (by unfold maxLen; omega)
      (by have : (n + m) * by8 ≤ (n + m) * 8 := Nat.mul_le_mul_left _ hsm
          omega) hbase
    rw [← List.map_append] at h2
    obtain ⟨A', c', rfl, hO⟩ := own_of_row' h2 (by intro y hy; rcases List.mem_append.1 hy with hy | hy; exact hown.2.2 y hy; exact hr.wf y hy)
    exact ⟨A', c', w', hrun, hO, h3, h5⟩
theorem wpList_appN (it : IntT P S T k by8) (w : World) {ops : Array Oper} {rest : List Oper} {o : Oper} {a : Act} {Q : Exit → Act → World → Prop} (hgd : o.guard = none) (s x : Operand)
    (ho : o.op = .call { callee := .builtin .append, args := #[s, x], argTypes := #[S, S] })
    (base : Nat) (A : Option Addr) (n c : Nat) (l : List Int) (hs : a.eval s = .slice A n c) (hown : Own k T w base A n c l)
    (A2 : Option Addr) (m c2 : Nat) (l2 : List Int) (hx : a.eval x = .slice A2 m c2) (hr : Nums k w A2 m c2 l2) (hlen : n + m ≤ 1099511627776) (hbase : base ≤ w.heap.size)
    (h : ∀ A' c' w', Own k T w' base A' (n + m) c' (l ++ l2) → w.grownBy w' (Value.slice A n c).ownBlock → Below base w w' → wpList P ops Q rest (a.put o.dst (.slice A' (n + m) c')) w') :
    wpList P ops Q (o :: rest) a w := by
  obtain ⟨A', c', w', hrun, hO, h3, h5⟩ := run_appN it w o.type base A n c l hown A2 m c2 l2 hr hlen hbase
  refine wpList_plain hgd fun K hK' => ?_
  unfold Oper.wp execOp
  simp only [ho, resolve, invoke, builtin, Sem.run_bind, Sem.run_pure, Result.andThen_ok, List.map_toArray, List.map_cons, List.map_nil, hs, hx, hrun]
  exact hK' _ _ (h A' c' w' hO h3 ((Below.refl base w).grown h3 hbase (ownBlock_le hown)))
theorem Own.empty (w : World) (k : IntKind) (T : TypeId) : Own k T (w.alloc (.cells #[] T)) w.heap.size (some ⟨w.heap.size, 0, none⟩) 0 0 [] :=
  ⟨rfl, World.ownsRow_made w #[] 0 (Nat.le_refl _) (by unfold maxLen; omega) rfl, by simp⟩
end
def ob (A : Option Addr) : Option Nat := A.map (·.block)
theorem ob_eq (A : Option Addr) (n c : Nat) : (Value.slice A n c).ownBlock = ob A := by cases A <;> rfl
def apartS (A1 A2 : Option Addr) : Prop := ∀ b, ob A1 = some b → ob A2 ≠ some b
theorem apartS.symm {A1 A2 : Option Addr} (h : apartS A1 A2) : apartS A2 A1 := fun b h1 h2 => h b h2 h1
theorem Own.ltN {k : IntKind} {T : TypeId} {w : World} {base : Nat} {A : Option Addr} {n c : Nat} {l : List Int} (h : Own k T w base A n c l) : ∀ b, ob A = some b → base ≤ b ∧ b < w.heap.size := by
  intro b hb
  exact World.ownsRow.lt h.2.1 b (by rw [ob_eq]; exact hb)
theorem apart_none (A : Option Addr) : apartS none A := fun b h => by cases h
end Go.Proofs.YtmeplpiamkaniaaGreat
namespace Go.Proofs.YtmeplpiamkaniaaGreat
set_option linter.unusedVariables false
set_option linter.unusedSimpArgs false
open Go.RowKit
def RetK (w : World) (b : Bool) (e : Ending) (w' : World) : Prop := e = .returned (.bool b) ∧ E w w'
structure Ex (X : Nat → Prop) (w w' : World) : Prop where
  os : w'.os = w.os
  tape : w'.tape = w.tape
  output : w'.output = w.output
  size : w.heap.size ≤ w'.heap.size
  block : ∀ i, i < w.heap.size → ¬ X i → w'.heap[i]? = w.heap[i]?
theorem Ex.of_e {X : Nat → Prop} {w w' : World} (h : E w w') : Ex X w w' := ⟨h.os, h.tape, h.output, h.size, fun _ hi _ => h.block hi⟩
theorem Ex.refl (X : Nat → Prop) (w : World) : Ex X w w := .of_e (E.refl w)
theorem Ex.trans {X Y Z : Nat → Prop} {a b c : World} (h : Ex X a b) (k : Ex Y b c) (hX : ∀ i, i < a.heap.size → X i → Z i) (hY : ∀ i, i < a.heap.size → Y i → Z i) : Ex Z a c :=
  ⟨k.os.trans h.os, k.tape.trans h.tape, k.output.trans h.output, Nat.le_trans h.size k.size, fun i hi hz => (k.block i (Nat.lt_of_lt_of_le hi h.size) (fun y => hz (hY i hi y))).trans (h.block i hi (fun x => hz (hX i hi x)))⟩
theorem Ex.mono {X Z : Nat → Prop} {a b : World} (h : Ex X a b) (hX : ∀ i, i < a.heap.size → X i → Z i) : Ex Z a b :=
  ⟨h.os, h.tape, h.output, h.size, fun i hi hz => h.block i hi (fun x => hz (hX i hi x))⟩
theorem Ex.e {X : Nat → Prop} {a b : World} (h : Ex X a b) (hX : ∀ i, X i → a.heap.size ≤ i) : E a b :=
  ⟨h.os, h.tape, h.output, h.size, fun i hi => h.block i hi (fun x => by have := hX i x; omega)⟩
theorem Ex.drew {X : Nat → Prop} {a b : World} (h : Ex X a b) : Ex X a b.drew := ⟨h.os, h.tape, h.output, h.size, h.block⟩
theorem Ex.setCell {X : Nat → Prop} {a b : World} (h : Ex X a b) (p : Addr) (hp : a.heap.size ≤ p.block ∨ X p.block) (u : Value) : Ex X a (b.setCell p u) := by
  have hk : Below 0 b (b.setCell p u) := (Below.refl 0 b).setCell (Nat.zero_le _) u
  refine ⟨hk.os.trans h.os, hk.tape.trans h.tape, hk.output.trans h.output, Nat.le_trans h.size hk.size, fun i hi hx => ?_⟩
  rw [Below.heap_setCell _ _ _ _ (fun e => ?_)]
  · exact h.block i hi hx
  · rcases hp with hp | hp
    · omega
    · exact hx (e ▸ hp)
theorem Ex.grown {X : Nat → Prop} {a b c : World} {row : Option Nat} (h : Ex X a b) (hg : b.grownBy c row) (hr : ∀ k, row = some k → a.heap.size ≤ k ∨ X k) : Ex X a c :=
  ⟨hg.os.trans h.os, hg.tape.trans h.tape, hg.output.trans h.output, Nat.le_trans h.size hg.size, fun i hi hx => (hg.block i (Nat.lt_of_lt_of_le hi h.size) (fun e => by
    rcases hr i e.symm with hr | hr
    · omega
    · exact hx hr)).trans (h.block i hi hx)⟩
theorem Ex.cell {X : Nat → Prop} {a b : World} (h : Ex X a b) {p : Addr} (hp : p.block < a.heap.size) (hx : ¬ X p.block) : b.cell? p = a.cell? p := World.cell?_of_block (h.block p.block hp hx)
theorem Ex.put {X : Nat → Prop} {a b : World} (h : Ex X a b) (l : Nat) (o : Obj) (hl : a.heap.size ≤ l ∨ X l) : Ex X a (b.putObj l o) :=
  ⟨h.os, h.tape, h.output, by rw [World.putObj_size]; exact h.size, fun i hi hx => by
    rw [World.putObj_heap_other (fun e => ?_)]
    · exact h.block i hi hx
    · subst e
      rcases hl with hl | hl
      · omega
      · exact hx hl⟩
theorem Ex.alloc {X : Nat → Prop} {a b : World} (h : Ex X a b) (o : Obj) : Ex X a (b.alloc o) :=
  h.trans (Ex.of_e (X := fun _ => False) ((E.refl b).alloc o)) (fun _ _ x => x) (fun _ _ y => y.elim)
theorem lt_blk {w : World} {g : Nat} {o : Obj} (h : w.heap[g]? = some o) : g < w.heap.size := (Array.getElem?_eq_some_iff.1 h).1
theorem intTk : IntT Tryz.prog 22 3 .i64 8 := ⟨Tryz.underlying22, by kernel_rfl, by decide⟩
theorem Own.ex {k : IntKind} {T : TypeId} {X : Nat → Prop} {w w' : World} {base : Nat} {A : Option Addr} {n c : Nat} {l : List Int} (h : Own k T w base A n c l) (hX : Ex X w w') (hb : ∀ b, ob A = some b → ¬ X b) : Own k T w' base A n c l := by
  refine ⟨h.1, ⟨h.2.1.1, ?_⟩, h.2.2⟩
  rcases h.2.1.2 with a2 | ⟨g, cap, cur, hv, hbg, hh, r⟩
  · exact .inl a2
  · have hA : A = some ⟨g, 0, none⟩ := by injection hv
    refine .inr ⟨g, cap, cur, hv, hbg, ?_, r⟩
    rw [hX.block g (Array.getElem?_eq_some_iff.1 hh).1 (hb g (by rw [hA]; rfl))]
    exact hh
theorem keepE {w1 w2 : World} (hE : E w1 w2) : w1.heap.size ≤ w2.heap.size ∧ ∀ b o, b < w1.heap.size → w2.cell? ⟨b, o, none⟩ = w1.cell? ⟨b, o, none⟩ := ⟨hE.le, fun b o hb => hE.cell (p := ⟨b, o, none⟩) hb⟩
theorem cells3_new (w : World) (x y z : Value) (t : TypeId) : (w.alloc (.cells #[x, y, z] t)).cell? ⟨w.heap.size, 0, none⟩ = some x ∧ (w.alloc (.cells #[x, y, z] t)).cell? ⟨w.heap.size, 1, none⟩ = some y ∧ (w.alloc (.cells #[x, y, z] t)).cell? ⟨w.heap.size, 2, none⟩ = some z :=
  ⟨cell_of_row _ _ 0 _ _ _ (heap_alloc_new w _), cell_of_row _ _ 1 _ _ _ (heap_alloc_new w _), cell_of_row _ _ 2 _ _ _ (heap_alloc_new w _)⟩
end Go.Proofs.YtmeplpiamkaniaaGreat
namespace Go.Proofs.YtmeplpiamkaniaaGreat
set_option linter.unusedVariables false
set_option linter.unusedSimpArgs false
open Go.RowKit
def WfL (x : Lt) : Prop := (Lit.int .i64 x.1).wf = true ∧ (Lit.int .i64 x.2.1).wf = true ∧ (Lit.int .i64 x.2.2).wf = true
theorem wfL_of {x : Lt} (h : possB x = true) (h1 : x.1 ≤ 9223372036854775807) : WfL x := by
  have := possB_iff.1 h
  exact ⟨wf_of_i64 (by omega) h1, wf_of_i64 (by omega) (by omega), wf_of_i64 (by omega) (by omega)⟩
def ltV (x : Lt) : Value := .agg #[.int .i64 x.1, .int .i64 x.2.1, .int .i64 x.2.2]
structure LotsAt (w : World) (A : Option Addr) (n c : Nat) (l : List Lt) : Prop where
  len : l.length = n
  cap : n ≤ c
  mx : c ≤ maxLen
  wf : ∀ x ∈ l, WfL x
  at_ : 0 < n → ∃ b o, A = some ⟨b, o, none⟩ ∧ b < w.heap.size ∧ ∀ i x, l[i]? = some x →
    w.cell? ⟨b, o + i * 3, none⟩ = some (.int .i64 x.1) ∧ w.cell? ⟨b, o + i * 3 + 1, none⟩ = some (.int .i64 x.2.1) ∧ w.cell? ⟨b, o + i * 3 + 2, none⟩ = some (.int .i64 x.2.2)
section
variable {w w' : World} {A : Option Addr} {n c : Nat} {l : List Lt}
theorem LotsAt.ex {X : Nat → Prop} (h : LotsAt w A n c l) (he : Ex X w w') (hX : 0 < n → ∀ b, ob A = some b → ¬ X b) : LotsAt w' A n c l :=
  ⟨h.len, h.cap, h.mx, h.wf, fun hn => by
    obtain ⟨b, o, h1, h2, h3⟩ := h.at_ hn
    have hx := hX hn b (by rw [h1]; rfl)
    refine ⟨b, o, h1, Nat.lt_of_lt_of_le h2 he.size, fun i x hi => ?_⟩
    obtain ⟨c1, c2, c3⟩ := h3 i x hi
    exact ⟨(he.cell (p := ⟨b, _, none⟩) h2 hx).trans c1, (he.cell (p := ⟨b, _, none⟩) h2 hx).trans c2, (he.cell (p := ⟨b, _, none⟩) h2 hx).trans c3⟩⟩
theorem LotsAt.e (h : LotsAt w A n c l) (he : E w w') : LotsAt w' A n c l := h.ex (Ex.of_e (X := fun _ => False) he) (fun _ _ _ x => x)
theorem LotsAt.obl (h : LotsAt w A n c l) (h0 : 0 < n) : ∀ b, ob A = some b → b < w.heap.size := fun b hb => by
  obtain ⟨b', o, e, hb', _⟩ := h.at_ h0
  rw [e] at hb
  have : b' = b := by simpa [ob] using hb
  omega
theorem LotsAt.q (h : LotsAt w A n c l) (he : Q w w') : LotsAt w' A n c l := h.e (E.of_q he)
theorem LotsAt.nil (w : World) (A : Option Addr) (c : Nat) (hc : c ≤ maxLen) : LotsAt w A 0 c [] := ⟨rfl, Nat.zero_le _, hc, by simp, fun h => absurd h (by omega)⟩
theorem LotsAt.cast {l' : List Lt} (h : LotsAt w A n c l) (e : l = l') : LotsAt w A n c l' := e ▸ h
theorem LotsAt.n63 (h : LotsAt w A n c l) : n ≤ 9223372036854775807 := by have := h.cap; have := h.mx; unfold maxLen at this; omega
theorem LotsAt.c63 (h : LotsAt w A n c l) : c ≤ 9223372036854775807 := by have := h.mx; unfold maxLen at this; omega
theorem LotsAt.get (h : LotsAt w A n c l) {i : Nat} (hi : i < n) :
    ∃ b o x, A = some ⟨b, o, none⟩ ∧ b < w.heap.size ∧ l[i]? = some x ∧ WfL x ∧ w.cell? ⟨b, o + i * 3, none⟩ = some (.int .i64 x.1) ∧ w.cell? ⟨b, o + i * 3 + 1, none⟩ = some (.int .i64 x.2.1) ∧ w.cell? ⟨b, o + i * 3 + 2, none⟩ = some (.int .i64 x.2.2) := by
  obtain ⟨b, o, h1, h2, h3⟩ := h.at_ (by omega)
  have hx : l[i]? = some (l[i]'(by rw [h.len]; exact hi)) := List.getElem?_eq_getElem _
  obtain ⟨c1, c2, c3⟩ := h3 i _ hx
  exact ⟨b, o, _, h1, h2, hx, h.wf _ (List.getElem_mem _), c1, c2, c3⟩
theorem LotsAt.sub (h : LotsAt w A n c l) (i k : Nat) (hik : i + k ≤ n) (hk : 0 < k) : ∃ b o, A = some ⟨b, o, none⟩ ∧ LotsAt w (some ⟨b, o + i * 3, none⟩) k (c - i) ((l.drop i).take k) := by
  obtain ⟨b, o, h1, h2, h3⟩ := h.at_ (by omega)
  have hc := h.cap
  refine ⟨b, o, h1, ⟨by rw [List.length_take, List.length_drop, h.len]; omega, by omega, Nat.le_trans (Nat.sub_le _ _) h.mx, fun x hx => h.wf x (List.mem_of_mem_drop (List.mem_of_mem_take hx)), fun _ => ⟨b, _, rfl, h2, fun j x hj => ?_⟩⟩⟩
  rw [List.getElem?_take] at hj
  split at hj
  · rw [List.getElem?_drop] at hj
    have := h3 (i + j) x hj
    rw [Nat.add_assoc o, ← Nat.add_mul]
    exact this
  · cases hj
end
def flatL (l : List Lt) : List Value := l.flatMap fun p => [.int .i64 p.1, .int .i64 p.2.1, .int .i64 p.2.2]
theorem flatL_cons (x : Lt) (l : List Lt) : flatL (x :: l) = .int .i64 x.1 :: .int .i64 x.2.1 :: .int .i64 x.2.2 :: flatL l := rfl
theorem flatL_len (l : List Lt) : (flatL l).length = l.length * 3 := by
  induction l with
  | nil => rfl
  | cons x l ih => rw [flatL_cons, List.length_cons, List.length_cons, List.length_cons, ih, List.length_cons]; omega
theorem flatL_at (l : List Lt) (i : Nat) (x : Lt) (h : l[i]? = some x) : (flatL l)[i * 3]? = some (.int .i64 x.1) ∧ (flatL l)[i * 3 + 1]? = some (.int .i64 x.2.1) ∧ (flatL l)[i * 3 + 2]? = some (.int .i64 x.2.2) := by
  induction l generalizing i with
  | nil => simp at h
  | cons y l ih =>
    rw [flatL_cons]
    cases i with
    | zero => simp at h; subst h; exact ⟨rfl, rfl, rfl⟩
    | succ i =>
      obtain ⟨h1, h2, h3⟩ := ih i (by simpa using h)
      rw [show (i + 1) * 3 = i * 3 + 1 + 1 + 1 by omega]
      exact ⟨h1, h2, h3⟩
theorem flatL_app (a b : List Lt) : flatL (a ++ b) = flatL a ++ flatL b := List.flatMap_append
theorem flatL_one (l : List Lt) : ∀ u ∈ flatL l, u.oneCell' = true := by
  intro u hu
  simp only [flatL, List.mem_flatMap] at hu
  obtain ⟨p, _, hp⟩ := hu
  simp at hp
  rcases hp with rfl | rfl | rfl <;> rfl
theorem flatL_cell (l : List Lt) (j : Nat) (u : Value) (h : (flatL l)[j]? = some u) : ∃ x, l[j / 3]? = some x ∧ ((j % 3 = 0 ∧ u = .int .i64 x.1) ∨ (j % 3 = 1 ∧ u = .int .i64 x.2.1) ∨ (j % 3 = 2 ∧ u = .int .i64 x.2.2)) := by
  have hj : j < l.length * 3 := by rw [← flatL_len]; exact (List.getElem?_eq_some_iff.1 h).1
  have hi : j / 3 < l.length := by omega
  obtain ⟨c0, c1, c2⟩ := flatL_at l (j / 3) _ (List.getElem?_eq_getElem hi)
  refine ⟨_, List.getElem?_eq_getElem hi, ?_⟩
  have h3 : j % 3 = 0 ∨ j % 3 = 1 ∨ j % 3 = 2 := by omega
  rcases h3 with h3 | h3 | h3
  · rw [show j = j / 3 * 3 by omega, c0] at h
    injection h with h
    exact .inl ⟨h3, h.symm⟩
  · rw [show j = j / 3 * 3 + 1 by omega, c1] at h
    injection h with h
    exact .inr (.inl ⟨h3, h.symm⟩)
  · rw [show j = j / 3 * 3 + 2 by omega, c2] at h
    injection h with h
    exact .inr (.inr ⟨h3, h.symm⟩)
theorem flatL_set (l : List Lt) (i : Nat) (x y : Lt) (h : l[i]? = some x) (h1 : y.1 = x.1) (h2 : y.2.1 = x.2.1) : (flatL l).set (i * 3 + 2) (.int .i64 y.2.2) = flatL (l.set i y) := by
  induction l generalizing i with
  | nil => simp at h
  | cons z l ih =>
    cases i with
    | zero =>
      simp at h; subst h
      rw [sB, flatL_cons, flatL_cons, h1, h2]; rfl
    | succ i =>
      have := ih i (by simpa using h)
      rw [flatL_cons, show (i + 1) * 3 + 2 = (i * 3 + 2) + 1 + 1 + 1 by omega, sC, sC, sC, this, sC, flatL_cons]
def OwnL (w : World) (base : Nat) (A : Option Addr) (n c : Nat) (l : List Lt) : Prop :=
  l.length = n ∧ w.ownsRow base 30 3 (.slice A n c) n (flatL l) ∧ ∀ x ∈ l, WfL x
section
variable {w w' : World} {base base' : Nat} {A : Option Addr} {n c : Nat} {l : List Lt}
theorem OwnL.nil (w : World) (base : Nat) : OwnL w base none 0 0 [] := ⟨rfl, World.ownsRow_nil _ _ _ _, by simp⟩
theorem OwnL.form (h : OwnL w base A n c l) : (A = none ∧ n = 0 ∧ c = 0) ∨ ∃ g, A = some ⟨g, 0, none⟩ ∧ base ≤ g ∧ g < w.heap.size ∧ n ≤ c ∧ c ≤ maxLen := by
  obtain ⟨h1, h2, h3⟩ := h
  rcases h2.2 with ⟨hv, hn⟩ | ⟨g, cap, cur, hv, hb, hh, hnc, hcm, _, _⟩
  · left; injection hv with e1 e2 e3; exact ⟨e1, e2, e3⟩
  · right
    injection hv with e1 e2 e3
    subst e1 e3
    exact ⟨g, rfl, hb, lt_blk hh, hnc, hcm⟩
theorem OwnL.ltN (h : OwnL w base A n c l) : ∀ b, ob A = some b → base ≤ b ∧ b < w.heap.size := by
  intro b hb
  exact World.ownsRow.lt h.2.1 b (by rw [ob_eq]; exact hb)
theorem OwnL.reads (h : OwnL w base A n c l) : LotsAt w A n c l := by
  have hf := h.form
  obtain ⟨h1, h2, h3⟩ := h
  refine ⟨h1, ?_, ?_, h3, fun hn => ?_⟩
  · rcases hf with ⟨_, h, _⟩ | ⟨_, _, _, _, h, _⟩ <;> omega
  · rcases hf with ⟨_, _, h⟩ | ⟨_, _, _, _, _, h⟩ <;> (unfold maxLen at *; omega)
  · rcases hf with ⟨_, h, _⟩ | ⟨g, rfl, _, hlt, hnc, hcm⟩
    · omega
    · refine ⟨g, 0, rfl, hlt, fun i x hi => ?_⟩
      have hf := flatL_at l i x hi
      have hil := (List.getElem?_eq_some_iff.1 hi).1
      rw [Nat.zero_add, World.ownsRow.cellAt h2 _ (by omega), World.ownsRow.cellAt h2 _ (by omega), World.ownsRow.cellAt h2 _ (by omega)]
      exact hf
theorem OwnL.ex {X : Nat → Prop} (h : OwnL w base A n c l) (hX : Ex X w w') (hb : ∀ b, ob A = some b → ¬ X b) : OwnL w' base A n c l := by
  refine ⟨h.1, ⟨h.2.1.1, ?_⟩, h.2.2⟩
  rcases h.2.1.2 with a2 | ⟨g, cap, cur, hv, hbg, hh, r⟩
  · exact .inl a2
  · have hA : A = some ⟨g, 0, none⟩ := by injection hv
    refine .inr ⟨g, cap, cur, hv, hbg, ?_, r⟩
    rw [hX.block g (lt_blk hh) (hb g (by rw [hA]; rfl))]
    exact hh
theorem OwnL.e (h : OwnL w base A n c l) (he : E w w') : OwnL w' base A n c l := h.ex (Ex.of_e (X := fun _ => False) he) (fun _ _ x => x)
theorem OwnL.q (h : OwnL w base A n c l) (he : Q w w') : OwnL w' base A n c l := h.e (E.of_q he)
theorem OwnL.rebase (h : OwnL w base A n c l) (hb : base' ≤ base) : OwnL w base' A n c l := by
  obtain ⟨h1, ⟨a1, a2⟩, h3⟩ := h
  refine ⟨h1, ⟨a1, ?_⟩, h3⟩
  rcases a2 with a2 | ⟨g, cap, cur, hv, hb', r⟩
  · exact .inl a2
  · exact .inr ⟨g, cap, cur, hv, by omega, r⟩
theorem OwnL.cast {l' : List Lt} (h : OwnL w base A n c l) (e : l = l') : OwnL w base A n c l' := e ▸ h
theorem OwnL.kept {A2 : Option Addr} (h : OwnL w base A n c l) (hG : w.grownBy w' (ob A2)) (hap : apartS A A2) : OwnL w' base A n c l := by
  refine ⟨h.1, h.2.1.kept hG ?_, h.2.2⟩
  rw [ob_eq]
  cases ha : ob A with
  | none => exact .inl rfl
  | some b => exact .inr fun e => hap b ha e.symm
theorem OwnL.empty (w : World) (base : Nat) (hb : base ≤ w.heap.size) : OwnL (w.alloc (.cells #[] 30)) base (some ⟨w.heap.size, 0, none⟩) 0 0 [] :=
  ⟨rfl, World.ownsRow_made w #[] 0 hb (by unfold maxLen; omega) rfl, by simp⟩
theorem OwnL.setN {g : Nat} (h : OwnL w base (some ⟨g, 0, none⟩) n c l) {i : Nat} {x y : Lt} (hi : l[i]? = some x) (h1 : y.1 = x.1) (h2 : y.2.1 = x.2.1) (hw : (Lit.int .i64 y.2.2).wf = true) :
    OwnL (w.setCell ⟨g, i * 3 + 2, none⟩ (.int .i64 y.2.2)) base (some ⟨g, 0, none⟩) n c (l.set i y) ∧ w.grownBy (w.setCell ⟨g, i * 3 + 2, none⟩ (.int .i64 y.2.2)) (some g) := by
  obtain ⟨a1, a2, a3⟩ := h
  have hs := World.ownsRow.stored a2 (i * 3 + 2) (.int .i64 y.2.2)
  rw [flatL_set l i x y hi h1 h2] at hs
  refine ⟨⟨by simpa using a1, hs.1, fun z hz => ?_⟩, hs.2⟩
  rcases List.mem_or_eq_of_mem_set hz with hz | rfl
  · exact a3 z hz
  · have := a3 x (List.mem_of_getElem? hi)
    unfold WfL at *
    rw [h1, h2]
    exact ⟨this.1, this.2.1, hw⟩
end
theorem set_last {α : Type} (s : List α) (p q : α) : (s ++ [p]).set s.length q = s ++ [q] := by simp
theorem last_get {α : Type} (s : List α) (p : α) : (s ++ [p])[s.length]? = some p := by simp
theorem lotInfo : (Tryz.prog.info? 30).map (fun i => (i.zero, i.size, i.bytes)) = some (some (.agg #[.int .i64 0, .int .i64 0, .int .i64 0]), 3, 24) := by kernel_rfl
set_option maxRecDepth 100000 in
theorem run_appL (w : World) (ty : TypeId) (base : Nat) (A : Option Addr) (n c : Nat) (l : List Lt) (hown : OwnL w base A n c l)
    (A2 : Option Addr) (m c2 : Nat) (l2 : List Lt) (hr : LotsAt w A2 m c2 l2) (hlen : n + m ≤ 1099511627776) (hbase : base ≤ w.heap.size) :
    ∃ A' c' w', (Builtin.append_ #[41, 41] ty #[.slice A n c, .slice A2 m c2]).run Tryz.prog w = .ok (.slice A' (n + m) c') w' ∧ OwnL w' base A' (n + m) c' (l ++ l2) ∧ w.grownBy w' (ob A) ∧
      (ob A' = ob A ∨ ob A' = some w.heap.size) := by
  obtain ⟨i, hi, hz0, hz1, hz2⟩ := info_parts lotInfo
  rcases A2 with _ | ad
  · have hm : m = 0 := by
      rcases Nat.eq_zero_or_pos m with h0 | h0
      · exact h0
      · obtain ⟨_, _, h, _⟩ := hr.at_ h0; cases h
    subst hm
    have hn : l2 = [] := List.eq_nil_of_length_eq_zero hr.len
    subst hn
    refine ⟨A, c, w, ?_, by simpa using hown, World.grownBy.refl w _, .inl rfl⟩
    rcases hown.form with ⟨rfl, rfl, rfl⟩ | ⟨g, rfl, _, _, hnc, _⟩
    · simp [Builtin.append_, run_underlying Tryz.underlying41, sizeOf, typeInfo, hi, Builtin.lenOf, Builtin.firstCells]
    · simp [Builtin.append_, run_underlying Tryz.underlying41, sizeOf, typeInfo, hi, Builtin.lenOf, Builtin.firstCells, hnc, storeCells]
  · have hcells : ∀ j u, (flatL l2)[j]? = some u → w.cell? (ad.add j) = some u := by
      intro j u hu
      obtain ⟨x, hx, hor⟩ := flatL_cell l2 j u hu
      have hi2 := (List.getElem?_eq_some_iff.1 hx).1
      obtain ⟨b, o, hh, _, hc⟩ := hr.at_ (by have := hr.len; omega)
      injection hh with hh
      subst hh
      rw [add_plain]
      obtain ⟨c1, c2, c3⟩ := hc _ x hx
      rcases hor with ⟨h3, rfl⟩ | ⟨h3, rfl⟩ | ⟨h3, rfl⟩
      · rw [show o + j = o + j / 3 * 3 by omega]; exact c1
      · rw [show o + j = o + j / 3 * 3 + 1 by omega]; exact c2
      · rw [show o + j = o + j / 3 * 3 + 2 by omega]; exact c3
    obtain ⟨v', w', hrun, h2, h3, _, h5⟩ := run_append_own_at (P := Tryz.prog) w base 41 ty 30 i _ 3 24 Tryz.underlying41 hi hz0 hz1 hz2 rfl (by decide) _ n _ hown.2.1 ad m c2 (flatL l2) (by rw [flatL_len, hr.len]) hcells (flatL_one l2) (by unfold maxLen; omega) (by omega) hbase
    rw [← flatL_app] at h2
    have hw : ∀ x ∈ l ++ l2, WfL x := by
      intro y hy; rcases List.mem_append.1 hy with hy | hy; exact hown.2.2 y hy; exact hr.wf y hy
    have h2' := h2
    rw [ob_eq] at h3
    rcases h2.2 with ⟨rfl, h0⟩ | ⟨g, cap, cur, rfl, _⟩
    · have : n = 0 ∧ m = 0 := by omega
      obtain ⟨rfl, rfl⟩ := this
      rw [ob_eq, ob_eq] at h5
      exact ⟨none, 0, w', hrun, ⟨by simp [hown.1, hr.len], h2', hw⟩, h3, h5⟩
    · rw [ob_eq, ob_eq] at h5
      exact ⟨_, cap, w', hrun, ⟨by simp [hown.1, hr.len], h2', hw⟩, h3, h5⟩
theorem lot_box {w : World} {g : Nat} {x : Lt} (hx : WfL x) (h : w.cell? ⟨g, 0, none⟩ = some (.int .i64 x.1) ∧ w.cell? ⟨g, 1, none⟩ = some (.int .i64 x.2.1) ∧ w.cell? ⟨g, 2, none⟩ = some (.int .i64 x.2.2)) : LotsAt w (some ⟨g, 0, none⟩) 1 1 [x] :=
  ⟨rfl, Nat.le_refl _, by unfold maxLen; omega, by intro y hy; rw [List.mem_singleton] at hy; subst hy; exact hx, fun _ => ⟨g, 0, rfl, World.block_lt_of_cell? w _ h.1, fun i y hy => by
    cases i with
    | zero => simp at hy; subst hy; exact h
    | succ i => simp at hy⟩⟩
theorem lot_new {w : World} {x : Lt} (hx : WfL x) : LotsAt (w.alloc (.cells #[.int .i64 x.1, .int .i64 x.2.1, .int .i64 x.2.2] 30)) (some ⟨w.heap.size, 0, none⟩) 1 1 [x] := lot_box hx (cells3_new w _ _ _ _)
theorem wpList_appL (w : World) {ops : Array Oper} {rest : List Oper} {o : Oper} {a : Act} {Q : Exit → Act → World → Prop} (hgd : o.guard = none) (s x : Operand)
    (ho : o.op = .call { callee := .builtin .append, args := #[s, x], argTypes := #[41, 41] })
    (base : Nat) (A : Option Addr) (n c : Nat) (l : List Lt) (hs : a.eval s = .slice A n c) (hown : OwnL w base A n c l)
    (A2 : Option Addr) (m c2 : Nat) (l2 : List Lt) (hx : a.eval x = .slice A2 m c2) (hr : LotsAt w A2 m c2 l2) (hlen : n + m ≤ 1099511627776) (hbase : base ≤ w.heap.size)
    (h : ∀ A' c' w', OwnL w' base A' (n + m) c' (l ++ l2) → w.grownBy w' (ob A) → Below base w w' → (ob A' = ob A ∨ ob A' = some w.heap.size) → wpList Tryz.prog ops Q rest (a.put o.dst (.slice A' (n + m) c')) w') :
    wpList Tryz.prog ops Q (o :: rest) a w := by
  refine wpList_plain hgd fun K hK' => ?_
  obtain ⟨A', c', w', hrun, hO, h3, h5⟩ := run_appL w o.type base A n c l hown A2 m c2 l2 hr hlen hbase
  unfold Oper.wp execOp
  simp only [ho, resolve, invoke, builtin, Sem.run_bind, Sem.run_pure, Result.andThen_ok, List.map_toArray, List.map_cons, List.map_nil, hs, hx, hrun]
  exact hK' _ _ (h A' c' w' hO h3 ((Below.refl base w).grown h3 hbase (fun k hk => (hown.ltN k hk).1)) h5)
def RetL (w : World) (l : List Lt) (e : Ending) (w' : World) : Prop := ∃ A n c, e = .returned (.slice A n c) ∧ OwnL w' w.heap.size A n c l ∧ E w w'
theorem RetL.mk_ {w w' : World} {r : List Lt} {A : Option Addr} {n c : Nat} {l : List Lt} (hr : r = l) (hO : OwnL w' w.heap.size A n c l) (hE : E w w') : RetL w r (.returned (.slice A n c)) w' := ⟨A, n, c, rfl, by rw [hr]; exact hO, hE⟩
def RetPut (w : World) (base : Nat) (A : Option Addr) (l : List Lt) (e : Ending) (w' : World) : Prop :=
  ∃ A' n' c', e = .returned (.slice A' n' c') ∧ OwnL w' base A' n' c' l ∧ w.grownBy w' (ob A) ∧ (ob A' = ob A ∨ ∀ b, ob A' = some b → w.heap.size ≤ b)
end Go.Proofs.YtmeplpiamkaniaaGreat
namespace Go.Proofs.YtmeplpiamkaniaaGreat
set_option linter.unusedVariables false
set_option linter.unusedSimpArgs false
open Go.RowKit
theorem retK_alloc {w : World} {a b : Bool} (h : b = a) (o : Obj) : RetK w a (.returned (.bool b)) (w.alloc o) := ⟨by rw [h], (E.refl w).alloc o⟩
set_option maxHeartbeats 1000000 in
theorem possible_c (x : Lt) (w : World) (hw : WfL x) : Calls Tryz.prog 91 #[ltV x] w (RetK w (possB x)) := by
  obtain ⟨f, a, n⟩ := x
  obtain ⟨w1, w2, w3⟩ := hw
  simp only at w1 w2 w3
  obtain ⟨f1, f2⟩ := wf_i64 w1
  obtain ⟨a1, a2⟩ := wf_i64 w2
  obtain ⟨n1, n2⟩ := wf_i64 w3
  clear w1 w2 w3
  have HF := Lib.hid (show possB (f, a, n) = (decide (0 ≤ f) && (decide (0 ≤ a) && (decide (a ≤ 1099511627776) && (decide (1 ≤ n) && decide (n ≤ 1099511627776 - a))))) from rfl)
  generalize possB (f, a, n) = r at *
  unfold ltV
  by_cases h1 : 0 ≤ f
  · have d1 : decide (0 ≤ f) = true := by simpa using h1
    by_cases h2 : 0 ≤ a
    · have d2 : decide (0 ≤ a) = true := by simpa using h2
      by_cases h3 : a ≤ 1099511627776
      · have d3 : decide (a ≤ 1099511627776) = true := by simpa using h3
        by_cases h4 : 1 ≤ n
        · have d4 : decide (1 ≤ n) = true := by simpa using h4
          go_enter Tryz.func91, Tryz.ntmps91
          go_wp2
          go_ret
          exact retK_alloc (by rw [HF.out]; simp [h1, h2, h3, h4]) _
        · have d4 : decide (1 ≤ n) = false := by simpa using h4
          go_enter Tryz.func91, Tryz.ntmps91
          go_wp2
          go_ret
          exact retK_alloc (by rw [HF.out]; simp; omega) _
      · have d3 : decide (a ≤ 1099511627776) = false := by simpa using h3
        go_enter Tryz.func91, Tryz.ntmps91
        go_wp2
        go_ret
        exact retK_alloc (by rw [HF.out]; simp; omega) _
    · have d2 : decide (0 ≤ a) = false := by simpa using h2
      go_enter Tryz.func91, Tryz.ntmps91
      go_wp2
      go_ret
      exact retK_alloc (by rw [HF.out]; simp; omega) _
  · have d1 : decide (0 ≤ f) = false := by simpa using h1
    go_enter Tryz.func91, Tryz.ntmps91
    go_wp2
    go_ret
    exact retK_alloc (by rw [HF.out]; simp; omega) _
set_option maxHeartbeats 1000000 in
theorem continues_c (x p : Lt) (w : World) (hx : possB x = true) (hp : possB p = true) : Calls Tryz.prog 128 #[ltV x, ltV p] w (RetK w (contB p x)) := by
  obtain ⟨f, a, n⟩ := x
  obtain ⟨g, b, m⟩ := p
  have hx := possB_iff.1 hx
  have hp := possB_iff.1 hp
  simp only at hx hp
  have HF := Lib.hid (show contB (g, b, m) (f, a, n) = (decide (g = f) && decide (b + m = a)) from rfl)
  generalize contB (g, b, m) (f, a, n) = r at *
  unfold ltV
  go_enter Tryz.func128, Tryz.ntmps128
  go_wp2
  all_goals go_ret
  all_goals exact ⟨ret_bool (by rw [HF.out]; first | (simp; done) | (simp; omega) | (simp [*]; done)), ((E.refl w).alloc _).alloc _⟩
theorem lots_last {s : List Lt} {p : Lt} {w : World} {base : Nat} {A : Option Addr} {k c : Nat} (h : OwnL w base A (k + 1) c (s ++ [p])) : s.length = k ∧ ∃ g, A = some ⟨g, 0, none⟩ ∧ base ≤ g ∧ g < w.heap.size ∧ WfL p ∧
    w.cell? ⟨g, k * 3, none⟩ = some (.int .i64 p.1) ∧ w.cell? ⟨g, k * 3 + 1, none⟩ = some (.int .i64 p.2.1) ∧ w.cell? ⟨g, k * 3 + 2, none⟩ = some (.int .i64 p.2.2) ∧ w.frozen? ⟨g, k * 3 + 2, none⟩ = false := by
  have hk : s.length = k := by have := h.1; simpa using this
  refine ⟨hk, ?_⟩
  obtain ⟨b, o, x, hA, hb, hx, hwx, c1, c2, c3⟩ := h.reads.get (i := k) (by omega)
  rw [← hk, last_get] at hx
  injection hx with hx
  subst hx
  rcases h.form with ⟨_, h0, _⟩ | ⟨g, hA', hbg, hlt, _, _⟩
  · omega
  · rw [hA'] at hA
    injection hA with hA
    injection hA with hA1 hA2
    subst hA1 hA2
    simp only [Nat.zero_add] at c1 c2 c3
    subst hA'
    exact ⟨g, rfl, hbg, hb, hwx, c1, c2, c3, World.ownsRow.frozenAt h.2.1 _⟩
end Go.Proofs.YtmeplpiamkaniaaGreat
namespace Go.Proofs.YtmeplpiamkaniaaGreat
set_option linter.unusedVariables false
set_option linter.unusedSimpArgs false
open Go.RowKit
theorem grown_e {w wX w3 : World} {r : Option Nat} (hE : E w wX) (hG : wX.grownBy w3 r) : w.grownBy w3 r :=
  ⟨hG.os.trans hE.os, hG.tape.trans hE.tape, hG.output.trans hE.output, Nat.le_trans hE.le hG.size, fun k hk hne => (hG.block k (Nat.lt_of_lt_of_le hk hE.le) hne).trans (hE.block hk)⟩
theorem grown_drew {w w' : World} {r : Option Nat} (h : w.grownBy w' r) : w.grownBy w'.drew r := ⟨h.os, h.tape, h.output, h.size, h.block⟩
theorem retPut_of {w wX w3 : World} {base : Nat} {A A' : Option Addr} {n' c' : Nat} {l l' : List Lt} (hE : E w wX) (hO : OwnL w3 base A' n' c' l') (hG : wX.grownBy w3 (ob A)) (hor : ob A' = ob A ∨ ob A' = some wX.heap.size) (hl : l = l') : RetPut w base A l (.returned (.slice A' n' c')) w3 := by
  subst hl
  refine ⟨A', n', c', rfl, hO, grown_e hE hG, ?_⟩
  rcases hor with h | h
  · exact .inl h
  · exact .inr fun b hb => by rw [h] at hb; injection hb with hb; have := hE.le; omega
set_option maxHeartbeats 2000000 in
set_option maxRecDepth 100000 in
theorem put_c (x : Lt) (A : Option Addr) (n c base : Nat) (l : List Lt) (w : World) (h : OwnL w base A n c l) (hl : ∀ y ∈ l, possB y = true) (hx : x.2.2 ≠ 0 → possB x = true) (hxw : WfL x) (hb : base ≤ w.heap.size) (hn : n ≤ 1000000) :
    Calls Tryz.prog 95 #[.slice A n c, ltV x] w (RetPut w base A (addL l x)) := by
  by_cases h0 : x.2.2 = 0
  · have HF := Lib.hid (addL_zero (s := l) h0)
    obtain ⟨f, a, m⟩ := x
    simp only at h0
    subst h0
    unfold ltV
    go_enter Tryz.func95, Tryz.ntmps95
    go_wp2
    go_ret
    exact ⟨A, n, c, rfl, by rw [HF.out]; exact h.e ((E.refl w).alloc _), World.grownBy_alloc w _ _, .inl rfl⟩
  · have hpx := hx h0
    obtain ⟨w1, hw1⟩ : ∃ w1, w.alloc (.cells #[.int .i64 x.1, .int .i64 x.2.1, .int .i64 x.2.2] 30) = w1 := ⟨_, rfl⟩
    have hE1 : E w w1 := by rw [← hw1]; exact (E.refl w).alloc _
    have hz1 : w1.heap.size = w.heap.size + 1 := by rw [← hw1]; simp
    have hB1 : LotsAt w1 (some ⟨w.heap.size, 0, none⟩) 1 1 [x] := by rw [← hw1]; exact lot_new hxw
    have hG1 : w.grownBy w1 (ob A) := by rw [← hw1]; exact World.grownBy_alloc w _ _
    obtain ⟨_, _, _, e1, hbb, e2, _, d0, d1, d2⟩ := hB1.get (i := 0) (by omega)
    injection e1 with e1; injection e1 with e1 e1'; subst e1 e1'
    simp at e2; subst e2
    simp only [Nat.zero_mul, Nat.zero_add] at d0 d1 d2
    have hO1 := h.e hE1
    have HW1 := Lib.hid hw1
    clear hw1
    have hb0 : (x.2.2 == 0) = false := by simpa using h0
    have HL := Lib.hid hl
    have HB1 := Lib.hid hB1
    have HG1 := Lib.hid hG1
    have HO1 := Lib.hid hO1
    have HP := Lib.hid hpx
    clear hl hB1 hG1 hO1 hpx hx
    rcases snoc_cases l with rfl | ⟨s, p, rfl⟩
    · have HF := Lib.hid (addL_nil h0)
      obtain rfl : n = 0 := by have := h.1; simpa using this.symm
      clear hz1 h
      obtain ⟨f, a, m⟩ := x
      unfold ltV
      simp only at hb0 d0 d1 d2 HW1 HF
      clear h0
      go_enter Tryz.func95, Tryz.ntmps95
      go_upto_region 4 with fail
      rw [HW1.out]
      clear HW1
      (refine wp_region_quiet_lit (by kernel_rfl) (by kernel_rfl) ?_; (repeat (first | ((with_reducible refine wpQuiet_step (fun K hK => ?_)); go_simp; (with_reducible refine hK _ ?_); clear hK K) | ((with_reducible refine wpQuiet_off (by kernel_rfl) (fun K hK => ?_)); go_simp; (with_reducible refine hK _ ?_); clear hK K))); (with_reducible refine wpQuiet_nil ?_); intro _ hw'; obtain ⟨nq, hw''⟩ := hw'; subst hw'')
      have hEX : E w (w1.drewN nq) := hE1.drewN nq
      have hO2 := HO1.out.e ((E.of_q ((Q.refl w1).drewN nq)).alloc (.cells #[.int .i64 f, .int .i64 a, .int .i64 m] 30))
      have hb2 : base ≤ ((w1.drewN nq).alloc (.cells #[.int .i64 f, .int .i64 a, .int .i64 m] 30)).heap.size := by rw [World.size_alloc]; have := hEX.le; omega
      have hL2 := lot_new (w := w1.drewN nq) hxw
      go_wp2_with (at_builtin; refine wpList_appL _ rfl _ _ rfl base _ _ _ _ rfl hO2 _ 1 1 [(f, a, m)] rfl hL2 (by omega) hb2 ?_; intro A' c' w3 hO3 hG3 hB3 hor3)
      go_ret
      exact retPut_of (hEX.alloc _) hO3 hG3 hor3 (by rw [HF.out]; rfl)
    · obtain ⟨k, hnk⟩ : ∃ k, n = k + 1 := ⟨s.length, by have := h.1; simpa using this.symm⟩
      obtain ⟨hk, g, rfl, hbg, hg, hpw, p0, p1, p2, pf⟩ := lots_last (k := k) (by rw [← hnk]; exact HO1.out)
      have hgw : g < w.heap.size := (h.ltN g rfl).2
      have hp : possB p = true := HL.out p (by simp)
      by_cases hc : contB p x = true
      · have HF := Lib.hid (addL_join (s := s) h0 hc)
        have HC := Lib.hid (fun W => continues_c x p W HP.out hp)
        rw [hc] at HC
        obtain ⟨f, a, m⟩ := x
        obtain ⟨fp, ap, np⟩ := p
        unfold ltV at *
        simp only at hb0 d0 d1 d2 HW1 HF p0 p1 p2
        have hkI : (k : Int) < (n : Int) := by omega
        have hk0 : (0 : Int) ≤ (k : Int) := by omega
        have HN0 := Lib.hid (show (0 : Int) < (n : Int) by omega)
        have hn1 : IntKind.i64.wrap ((n : Int) - 1) = (k : Int) := by rw [IntKind.wrap_i64]; omega
        have HNK := Lib.hid hnk
        clear h0 h hz1 hc hp hnk
        go_enter Tryz.func95, Tryz.ntmps95
        go_upto_region 4 with fail
        rw [HW1.out]
        clear HW1
        have dn : decide (0 < n) = true := by have := HN0.out; simp; omega
        go_region_held3 (fun w' => w1.heap.size ≤ w'.heap.size ∧ ∀ b o, b < w1.heap.size → w'.cell? ⟨b, o, none⟩ = w1.cell? ⟨b, o, none⟩) (first | exact keepE ((E.refl _).drew) | exact keepE hEa)
          (first | (go_at_call 128; refine (HC.out _).mono ?_; rintro e wa ⟨rfl, hE4⟩; have hEa := ((E.refl w1).drew).trans hE4))
        rename_i hHd
        clear hHd
        clear p0 p1 p2 pf d0 d1 d2
        obtain ⟨_, g', e', _, _, _, p0, p1, p2, pf⟩ := lots_last (k := k) (by rw [← HNK.out]; exact HO1.out.e hEa)
        injection e' with e'; injection e' with e'; subst e'
        obtain ⟨_, _, _, e1, hbb2, e2, _, d0, d1, d2⟩ := (HB1.out.e hEa).get (i := 0) (by omega)
        injection e1 with e1; injection e1 with e1 e1'; subst e1 e1'
        simp at e2; subst e2
        simp only [Nat.zero_mul, Nat.zero_add] at d0 d1 d2 p0 p1 p2
        have HO4 := HO1.out.e hEa
        have HX := possB_iff.1 HP.out
        have HPp := possB_iff.1 (HL.out (fp, ap, np) (by simp))
        simp only at HX HPp
        have hwr2 : IntKind.i64.wrap (np + m) = np + m := by rw [IntKind.wrap_i64]; omega
        have hSet := HO4.setN (i := k) (x := (fp, ap, np)) (y := (fp, ap, np + m)) (by rw [← hk]; exact last_get _ _) rfl rfl (wf_of_i64 (by show _ ≤ np + m; omega) (by show np + m ≤ _; omega))
        have hlast : (s ++ [(fp, ap, np)]).set k (fp, ap, np + m) = s ++ [(fp, ap, np + m)] := by rw [← hk]; exact set_last _ _ _
        rw [hlast] at hSet
        have HSet := Lib.hid hSet
        have HEa := Lib.hid (hE1.trans hEa)
        clear HO1 HB1 HL HO4 HX HPp hSet hlast HC
        go_wp2_with fail
        go_region
        all_goals go_wp2_with fail
        go_ret
        exact ⟨_, n, c, rfl, by rw [HF.out]; exact HSet.out.1.e ((E.refl _).drew), grown_e HEa.out (grown_drew HSet.out.2), .inl rfl⟩
      · have hc : contB p x = false := by simpa using hc
        have HF := Lib.hid (addL_new (s := s) h0 hc)
        have HC := Lib.hid (fun W => continues_c x p W HP.out hp)
        rw [hc] at HC
        obtain ⟨f, a, m⟩ := x
        obtain ⟨fp, ap, np⟩ := p
        unfold ltV at *
        simp only at hb0 d0 d1 d2 HW1 HF p0 p1 p2
        have hkI : (k : Int) < (n : Int) := by omega
        have hk0 : (0 : Int) ≤ (k : Int) := by omega
        have HN0 := Lib.hid (show (0 : Int) < (n : Int) by omega)
        have hn1 : IntKind.i64.wrap ((n : Int) - 1) = (k : Int) := by rw [IntKind.wrap_i64]; omega
        have HNK := Lib.hid hnk
        clear h0 h hz1 hc hp hnk
        go_enter Tryz.func95, Tryz.ntmps95
        go_upto_region 4 with fail
        rw [HW1.out]
        clear HW1
        have dn : decide (0 < n) = true := by have := HN0.out; simp; omega
        go_region_held3 (fun w' => w1.heap.size ≤ w'.heap.size ∧ ∀ b o, b < w1.heap.size → w'.cell? ⟨b, o, none⟩ = w1.cell? ⟨b, o, none⟩) (first | exact keepE ((E.refl _).drew) | exact keepE hEa)
          (first | (go_at_call 128; refine (HC.out _).mono ?_; rintro e wa ⟨rfl, hE4⟩; have hEa := ((E.refl w1).drew).trans hE4))
        rename_i hHd
        clear hHd
        have hO2 := HO1.out.e (hEa.alloc (.cells #[.int .i64 f, .int .i64 a, .int .i64 m] 30))
        have hb2 : base ≤ (wa.alloc (.cells #[.int .i64 f, .int .i64 a, .int .i64 m] 30)).heap.size := by rw [World.size_alloc]; have := hE1.le; have := hEa.le; omega
        have hL2 := lot_new (w := wa) hxw
        have HEa := Lib.hid (hE1.trans hEa)
        clear d0 d1 d2
        obtain ⟨_, _, _, e1, hbb2, e2, _, d0, d1, d2⟩ := (HB1.out.e hEa).get (i := 0) (by omega)
        injection e1 with e1; injection e1 with e1 e1'; subst e1 e1'
        simp at e2; subst e2
        simp only [Nat.zero_mul, Nat.zero_add] at d0 d1 d2
        clear HC
        go_wp2_with (at_builtin; refine wpList_appL _ rfl _ _ rfl base _ _ _ _ rfl hO2 _ 1 1 [(f, a, m)] rfl hL2 (by omega) hb2 ?_; intro A' c' w3 hO3 hG3 hB3 hor3)
        go_ret
        exact retPut_of (HEa.out.alloc _) hO3 hG3 hor3 HF.out
end Go.Proofs.YtmeplpiamkaniaaGreat
namespace Go.Proofs.YtmeplpiamkaniaaGreat
set_option linter.unusedVariables false
set_option linter.unusedSimpArgs false
open Go.RowKit
set_option maxHeartbeats 2000000 in
set_option maxRecDepth 100000 in
theorem append_c (x : Lt) (A : Option Addr) (n c base : Nat) (l : List Lt) (w : World) (h : OwnL w base A n c l) (hl : ∀ y ∈ l, possB y = true) (hx : x.2.2 ≠ 0 → possB x = true) (hxw : WfL x) (hb : base ≤ w.heap.size) (hn : n ≤ 1000000) :
    Calls Tryz.prog 62 #[.slice A n c, ltV x] w (RetPut w base A (addL l x)) := by
  by_cases h0 : x.2.2 = 0
  · have HF := Lib.hid (addL_zero (s := l) h0)
    obtain ⟨f, a, m⟩ := x
    simp only at h0
    subst h0
    unfold ltV
    go_enter Tryz.func62, Tryz.ntmps62
    go_wp2
    go_ret
    exact ⟨A, n, c, rfl, by rw [HF.out]; exact h.e ((E.refl w).alloc _), World.grownBy_alloc w _ _, .inl rfl⟩
  · have hpx := hx h0
    obtain ⟨w1, hw1⟩ : ∃ w1, w.alloc (.cells #[.int .i64 x.1, .int .i64 x.2.1, .int .i64 x.2.2] 30) = w1 := ⟨_, rfl⟩
    have hE1 : E w w1 := by rw [← hw1]; exact (E.refl w).alloc _
    have hz1 : w1.heap.size = w.heap.size + 1 := by rw [← hw1]; simp
    have hB1 : LotsAt w1 (some ⟨w.heap.size, 0, none⟩) 1 1 [x] := by rw [← hw1]; exact lot_new hxw
    have hG1 : w.grownBy w1 (ob A) := by rw [← hw1]; exact World.grownBy_alloc w _ _
    obtain ⟨_, _, _, e1, hbb, e2, _, d0, d1, d2⟩ := hB1.get (i := 0) (by omega)
    injection e1 with e1; injection e1 with e1 e1'; subst e1 e1'
    simp at e2; subst e2
    simp only [Nat.zero_mul, Nat.zero_add] at d0 d1 d2
    have hO1 := h.e hE1
    have HW1 := Lib.hid hw1
    clear hw1
    have hb0 : (x.2.2 == 0) = false := by simpa using h0
    have HL := Lib.hid hl
    have HB1 := Lib.hid hB1
    have HG1 := Lib.hid hG1
    have HO1 := Lib.hid hO1
    have HP := Lib.hid hpx
    clear hl hB1 hG1 hO1 hpx hx
    rcases snoc_cases l with rfl | ⟨s, p, rfl⟩
    · have HF := Lib.hid (addL_nil h0)
      obtain rfl : n = 0 := by have := h.1; simpa using this.symm
      clear hz1 h
      obtain ⟨f, a, m⟩ := x
      unfold ltV
      simp only at hb0 d0 d1 d2 HW1 HF
      clear h0
      go_enter Tryz.func62, Tryz.ntmps62
      go_upto_region 4 with fail
      rw [HW1.out]
      clear HW1
      (refine wp_region_quiet_lit (by kernel_rfl) (by kernel_rfl) ?_; (repeat (first | ((with_reducible refine wpQuiet_step (fun K hK => ?_)); go_simp; (with_reducible refine hK _ ?_); clear hK K) | ((with_reducible refine wpQuiet_off (by kernel_rfl) (fun K hK => ?_)); go_simp; (with_reducible refine hK _ ?_); clear hK K))); (with_reducible refine wpQuiet_nil ?_); intro _ hw'; obtain ⟨nq, hw''⟩ := hw'; subst hw'')
      have hEX : E w (w1.drewN nq) := hE1.drewN nq
      have hO2 := HO1.out.e ((E.of_q ((Q.refl w1).drewN nq)).alloc (.cells #[.int .i64 f, .int .i64 a, .int .i64 m] 30))
      have hb2 : base ≤ ((w1.drewN nq).alloc (.cells #[.int .i64 f, .int .i64 a, .int .i64 m] 30)).heap.size := by rw [World.size_alloc]; have := hEX.le; omega
      have hL2 := lot_new (w := w1.drewN nq) hxw
      go_wp2_with (at_builtin; refine wpList_appL _ rfl _ _ rfl base _ _ _ _ rfl hO2 _ 1 1 [(f, a, m)] rfl hL2 (by omega) hb2 ?_; intro A' c' w3 hO3 hG3 hB3 hor3)
      go_ret
      exact retPut_of (hEX.alloc _) hO3 hG3 hor3 (by rw [HF.out]; rfl)
    · obtain ⟨k, hnk⟩ : ∃ k, n = k + 1 := ⟨s.length, by have := h.1; simpa using this.symm⟩
      obtain ⟨hk, g, rfl, hbg, hg, hpw, p0, p1, p2, pf⟩ := lots_last (k := k) (by rw [← hnk]; exact HO1.out)
      have hgw : g < w.heap.size := (h.ltN g rfl).2
      have hp : possB p = true := HL.out p (by simp)
      have hpp := possB_iff.1 hp
      have hwr3 : IntKind.i64.wrap (p.2.1 + p.2.2) = p.2.1 + p.2.2 := by rw [IntKind.wrap_i64]; omega
      by_cases hf : p.1 = x.1
      · have bf : (p.1 == x.1) = true := by simpa using hf
        by_cases ha : p.2.1 + p.2.2 = x.2.1
        · have ba : (p.2.1 + p.2.2 == x.2.1) = true := by simpa using ha
          have HF := Lib.hid (addL_join (s := s) h0 (contB_iff.2 ⟨hf, ha⟩))
          clear hf ha
          obtain ⟨f, a, m⟩ := x
          obtain ⟨fp, ap, np⟩ := p
          unfold ltV
          simp only at hb0 d0 d1 d2 HW1 HF p0 p1 p2 bf ba hwr3
          have hkI : (k : Int) < (n : Int) := by omega
          have hk0 : (0 : Int) ≤ (k : Int) := by omega
          have HN0 := Lib.hid (show (0 : Int) < (n : Int) by omega)
          have hn1 : IntKind.i64.wrap ((n : Int) - 1) = (k : Int) := by rw [IntKind.wrap_i64]; omega
          have HNK := Lib.hid hnk
          clear h0 h hz1 hp hnk hpp
          go_enter Tryz.func62, Tryz.ntmps62
          go_upto_region 4 with fail
          rw [HW1.out]
          clear HW1
          have dn : decide (0 < n) = true := by have := HN0.out; simp; omega
          (refine wp_region_quiet_lit (by kernel_rfl) (by kernel_rfl) ?_; (repeat (first | ((with_reducible refine wpQuiet_step (fun K hK => ?_)); go_simp; (with_reducible refine hK _ ?_); clear hK K) | ((with_reducible refine wpQuiet_off (by kernel_rfl) (fun K hK => ?_)); go_simp; (with_reducible refine hK _ ?_); clear hK K))); (with_reducible refine wpQuiet_nil ?_); intro _ hw'; obtain ⟨nq, hw''⟩ := hw'; subst hw'')
          obtain ⟨wa, hwa⟩ : ∃ wa, w1.drewN nq = wa := ⟨_, rfl⟩
          have hEa : E w1 wa := by rw [← hwa]; exact (E.refl w1).drewN nq
          rw [hwa]
          clear hwa
          clear p0 p1 p2 pf d0 d1 d2
          obtain ⟨_, g', e', _, _, _, p0, p1, p2, pf⟩ := lots_last (k := k) (by rw [← HNK.out]; exact HO1.out.e hEa)
          injection e' with e'; injection e' with e'; subst e'
          obtain ⟨_, _, _, e1, hbb2, e2, _, d0, d1, d2⟩ := (HB1.out.e hEa).get (i := 0) (by omega)
          injection e1 with e1; injection e1 with e1 e1'; subst e1 e1'
          simp at e2; subst e2
          simp only [Nat.zero_mul, Nat.zero_add] at d0 d1 d2 p0 p1 p2
          have HO4 := HO1.out.e hEa
          have HX := possB_iff.1 HP.out
          have HPp := possB_iff.1 (HL.out (fp, ap, np) (by simp))
          simp only at HX HPp
          have hwr2 : IntKind.i64.wrap (np + m) = np + m := by rw [IntKind.wrap_i64]; omega
          have hSet := HO4.setN (i := k) (x := (fp, ap, np)) (y := (fp, ap, np + m)) (by rw [← hk]; exact last_get _ _) rfl rfl (wf_of_i64 (by show _ ≤ np + m; omega) (by show np + m ≤ _; omega))
          have hlast : (s ++ [(fp, ap, np)]).set k (fp, ap, np + m) = s ++ [(fp, ap, np + m)] := by rw [← hk]; exact set_last _ _ _
          rw [hlast] at hSet
          have HSet := Lib.hid hSet
          have HEa := Lib.hid (hE1.trans hEa)
          clear HO1 HB1 HL HO4 HX HPp hSet hlast
          go_wp2_with fail
          go_region
          all_goals go_wp2_with fail
          go_ret
          exact ⟨_, n, c, rfl, by rw [HF.out]; exact HSet.out.1.e ((E.refl _).drew), grown_e HEa.out (grown_drew HSet.out.2), .inl rfl⟩
        · have ba : (p.2.1 + p.2.2 == x.2.1) = false := by simpa using ha
          have HF := Lib.hid (addL_new (s := s) h0 (show contB p x = false by rw [Bool.eq_false_iff, ne_eq, contB_iff]; omega))
          clear hf ha
          obtain ⟨f, a, m⟩ := x
          obtain ⟨fp, ap, np⟩ := p
          unfold ltV
          simp only at hb0 d0 d1 d2 HW1 HF p0 p1 p2 bf ba hwr3
          have hkI : (k : Int) < (n : Int) := by omega
          have hk0 : (0 : Int) ≤ (k : Int) := by omega
          have HN0 := Lib.hid (show (0 : Int) < (n : Int) by omega)
          have hn1 : IntKind.i64.wrap ((n : Int) - 1) = (k : Int) := by rw [IntKind.wrap_i64]; omega
          have HNK := Lib.hid hnk
          clear h0 h hz1 hp hnk hpp
          go_enter Tryz.func62, Tryz.ntmps62
          go_upto_region 4 with fail
          rw [HW1.out]
          clear HW1
          have dn : decide (0 < n) = true := by have := HN0.out; simp; omega
          (refine wp_region_quiet_lit (by kernel_rfl) (by kernel_rfl) ?_; (repeat (first | ((with_reducible refine wpQuiet_step (fun K hK => ?_)); go_simp; (with_reducible refine hK _ ?_); clear hK K) | ((with_reducible refine wpQuiet_off (by kernel_rfl) (fun K hK => ?_)); go_simp; (with_reducible refine hK _ ?_); clear hK K))); (with_reducible refine wpQuiet_nil ?_); intro _ hw'; obtain ⟨nq, hw''⟩ := hw'; subst hw'')
          obtain ⟨wa, hwa⟩ : ∃ wa, w1.drewN nq = wa := ⟨_, rfl⟩
          have hEa : E w1 wa := by rw [← hwa]; exact (E.refl w1).drewN nq
          rw [hwa]
          clear hwa
          have hO2 := HO1.out.e (hEa.alloc (.cells #[.int .i64 f, .int .i64 a, .int .i64 m] 30))
          have hb2 : base ≤ (wa.alloc (.cells #[.int .i64 f, .int .i64 a, .int .i64 m] 30)).heap.size := by rw [World.size_alloc]; have := hE1.le; have := hEa.le; omega
          have hL2 := lot_new (w := wa) hxw
          have HEa := Lib.hid (hE1.trans hEa)
          clear d0 d1 d2
          obtain ⟨_, _, _, e1, hbb2, e2, _, d0, d1, d2⟩ := (HB1.out.e hEa).get (i := 0) (by omega)
          injection e1 with e1; injection e1 with e1 e1'; subst e1 e1'
          simp at e2; subst e2
          simp only [Nat.zero_mul, Nat.zero_add] at d0 d1 d2
          go_wp2_with (at_builtin; refine wpList_appL _ rfl _ _ rfl base _ _ _ _ rfl hO2 _ 1 1 [(f, a, m)] rfl hL2 (by omega) hb2 ?_; intro A' c' w3 hO3 hG3 hB3 hor3)
          go_ret
          exact retPut_of (HEa.out.alloc _) hO3 hG3 hor3 HF.out
      · have bf : (p.1 == x.1) = false := by simpa using hf
        have ba : True := trivial
        have HF := Lib.hid (addL_new (s := s) h0 (show contB p x = false by rw [Bool.eq_false_iff, ne_eq, contB_iff]; omega))
        clear hf
        obtain ⟨f, a, m⟩ := x
        obtain ⟨fp, ap, np⟩ := p
        unfold ltV
        simp only at hb0 d0 d1 d2 HW1 HF p0 p1 p2 bf ba hwr3
        have hkI : (k : Int) < (n : Int) := by omega
        have hk0 : (0 : Int) ≤ (k : Int) := by omega
        have HN0 := Lib.hid (show (0 : Int) < (n : Int) by omega)
        have hn1 : IntKind.i64.wrap ((n : Int) - 1) = (k : Int) := by rw [IntKind.wrap_i64]; omega
        have HNK := Lib.hid hnk
        clear h0 h hz1 hp hnk hpp
        go_enter Tryz.func62, Tryz.ntmps62
        go_upto_region 4 with fail
        rw [HW1.out]
        clear HW1
        have dn : decide (0 < n) = true := by have := HN0.out; simp; omega
        (refine wp_region_quiet_lit (by kernel_rfl) (by kernel_rfl) ?_; (repeat (first | ((with_reducible refine wpQuiet_step (fun K hK => ?_)); go_simp; (with_reducible refine hK _ ?_); clear hK K) | ((with_reducible refine wpQuiet_off (by kernel_rfl) (fun K hK => ?_)); go_simp; (with_reducible refine hK _ ?_); clear hK K))); (with_reducible refine wpQuiet_nil ?_); intro _ hw'; obtain ⟨nq, hw''⟩ := hw'; subst hw'')
        obtain ⟨wa, hwa⟩ : ∃ wa, w1.drewN nq = wa := ⟨_, rfl⟩
        have hEa : E w1 wa := by rw [← hwa]; exact (E.refl w1).drewN nq
        rw [hwa]
        clear hwa
        have hO2 := HO1.out.e (hEa.alloc (.cells #[.int .i64 f, .int .i64 a, .int .i64 m] 30))
        have hb2 : base ≤ (wa.alloc (.cells #[.int .i64 f, .int .i64 a, .int .i64 m] 30)).heap.size := by rw [World.size_alloc]; have := hE1.le; have := hEa.le; omega
        have hL2 := lot_new (w := wa) hxw
        have HEa := Lib.hid (hE1.trans hEa)
        clear d0 d1 d2
        obtain ⟨_, _, _, e1, hbb2, e2, _, d0, d1, d2⟩ := (HB1.out.e hEa).get (i := 0) (by omega)
        injection e1 with e1; injection e1 with e1 e1'; subst e1 e1'
        simp at e2; subst e2
        simp only [Nat.zero_mul, Nat.zero_add] at d0 d1 d2
        go_wp2_with (at_builtin; refine wpList_appL _ rfl _ _ rfl base _ _ _ _ rfl hO2 _ 1 1 [(f, a, m)] rfl hL2 (by omega) hb2 ?_; intro A' c' w3 hO3 hG3 hB3 hor3)
        go_ret
        exact retPut_of (HEa.out.alloc _) hO3 hG3 hor3 HF.out
end Go.Proofs.YtmeplpiamkaniaaGreat
namespace Go.Proofs.YtmeplpiamkaniaaGreat
set_option linter.unusedVariables false
set_option linter.unusedSimpArgs false
def okU (x : Int) : Bool := decide (0 ≤ x) && decide (x ≤ 1099511627776)
def sameB (a b : List Int) : Bool := decide (a = b)
theorem okU_iff {x : Int} : okU x = true ↔ 0 ≤ x ∧ x ≤ 1099511627776 := by simp [okU]
theorem drop_at {α : Type} {l : List α} {k : Nat} {x : α} (h : l[k]? = some x) : l.drop k = x :: l.drop (k + 1) := by
  obtain ⟨hk, rfl⟩ := List.getElem?_eq_some_iff.1 h
  exact List.drop_eq_getElem_cons hk
theorem drop_end {α : Type} {l : List α} {k n : Nat} (hl : l.length = n) (h : n ≤ k) : l.drop k = [] := List.drop_eq_nil_of_le (by omega)
theorem mid_set {α : Type} {out l : List α} {k : Nat} {x v : α} (h : out.length = k) (hx : l[k]? = some x) : (out ++ l.drop k).set k v = (out ++ [v]) ++ l.drop (k + 1) := by
  rw [List.set_append_right _ _ (by omega), h, Nat.sub_self, drop_at hx]; simp
def pre (out : List Int) (r : List Int × Int) : List Int × Int := if r.2 ≠ 0 then ([], r.2) else (out ++ r.1, 0)
end Go.Proofs.YtmeplpiamkaniaaGreat
namespace Go.Proofs.YtmeplpiamkaniaaGreat
set_option linter.unusedVariables false
set_option linter.unusedSimpArgs false
open Go.RowKit
theorem allB_drop {l : List Lt} {k : Nat} {x : Lt} (h : l[k]? = some x) : (l.drop k).all possB = (possB x && (l.drop (k + 1)).all possB) := by rw [drop_at h]; rfl
set_option maxHeartbeats 2000000 in
theorem valid_c (A : Option Addr) (n c : Nat) (l : List Lt) (w : World) (h : LotsAt w A n c l) : Calls Tryz.prog 56 #[.slice A n c] w (RetK w (validB l)) := by
  have hm := h.n63
  have hl := h.len
  by_cases hn : n ≤ 4096
  · have HV := Lib.hid (show validB l = l.all possB by simp [validB, hl, hn])
    have hnI : ¬ (4096 : Int) < (n : Int) := by omega
    have HL := Lib.hid hl
    clear hl
    go_enter Tryz.func56, Tryz.ntmps56
    go_wp2_with fail
    go_loopw [10] (fun ti wr => ∃ k : Nat, k ≤ n ∧ ti = .int .i64 k ∧ E w wr ∧ Hid (validB l = (l.drop k).all possB)) (fun ti _ => n - (intOf ti).toNat)
    case atStart => exact ⟨0, Nat.zero_le _, rfl, E.refl _, HV.out⟩
    case round =>
      obtain ⟨k, hk, rfl, hE, hV⟩ := hrel
      by_cases hlt : k < n
      · obtain ⟨b, o, x, rfl, hb, hx, hwx, c0, c1, c2⟩ := (h.e hE).get hlt
        have HS := Lib.hid (allB_drop hx)
        have HP := Lib.hid (fun W => possible_c x W hwx)
        clear hx hwx
        obtain ⟨f, a, m⟩ := x
        unfold ltV at HP
        simp only at c0 c1 c2
        have hkI : (k : Int) < (n : Int) := by omega
        cases hp : possB (f, a, m)
        · rw [hp] at HP
          have HF := Lib.hid (show validB l = false by rw [hV.out, HS.out, hp]; rfl)
          clear hV hp HS
          go_wp2_with fail
          refine (HP.out _).mono ?_
          rintro e w2 ⟨rfl, hE2⟩
          go_wp2_with fail
          go_ret
          exact ⟨ret_bool HF.out.symm, (hE.alloc _).trans hE2⟩
        · rw [hp] at HP
          have HF := Lib.hid (show validB l = (l.drop (k + 1)).all possB by rw [hV.out, HS.out, hp]; rfl)
          clear hV hp HS
          go_wp2_with fail
          refine (HP.out _).mono ?_
          rintro e w2 ⟨rfl, hE2⟩
          go_wp2_with fail
          go_roundw
          case rel => exact ⟨k + 1, by omega, by go_num, (hE.alloc _).trans hE2, HF.out⟩
          case measure => simp [intOf]; omega
      · have HF := Lib.hid (show validB l = true by rw [hV.out, List.drop_eq_nil_of_le (by rw [HL.out]; omega)]; rfl)
        go_wp2_with fail
        go_ret
        exact ⟨ret_bool HF.out.symm, hE⟩
  · have HV := Lib.hid (show validB l = false by rw [validB, Bool.and_eq_false_iff]; left; simp; omega)
    have hnI : (4096 : Int) < (n : Int) := by omega
    go_enter Tryz.func56, Tryz.ntmps56
    go_wp2_with fail
    go_ret
    exact ⟨ret_bool HV.out.symm, E.refl _⟩
end Go.Proofs.YtmeplpiamkaniaaGreat
namespace Go.Proofs.YtmeplpiamkaniaaGreat
set_option linter.unusedVariables false
set_option linter.unusedSimpArgs false
open Go.RowKit
end Go.Proofs.YtmeplpiamkaniaaGreat
namespace Go.Proofs.YtmeplpiamkaniaaGreat
set_option linter.unusedVariables false
set_option linter.unusedSimpArgs false
open Go.RowKit
def RetN (w : World) (x : Int) (e : Ending) (w' : World) : Prop := e = .returned (.int .i64 x) ∧ E w w'
theorem totL_succ {l : List Lt} {k : Nat} {x : Lt} (h : l[k]? = some x) : totL (l.take (k + 1)) = totL (l.take k) + x.2.2 := by
  rw [List.take_add_one, h, totL_app]; simp [totL]
theorem totL_take_le {l : List Lt} (h : ∀ x ∈ l, possB x = true) (k : Nat) : 0 ≤ totL (l.take k) ∧ totL (l.take k) ≤ 1099511627776 * (k : Int) := by
  obtain ⟨h1, h2⟩ := totL_le (l := l.take k) fun x hx => h x (List.mem_of_mem_take hx)
  have : (l.take k).length ≤ k := by rw [List.length_take]; omega
  omega
set_option maxHeartbeats 2000000 in
theorem spTotal_c (A : Option Addr) (n c : Nat) (l : List Lt) (w : World) (h : LotsAt w A n c l) (hp : ∀ x ∈ l, possB x = true) (hn : n ≤ 1000000) : Calls Tryz.prog 92 #[.slice A n c] w (RetN w (totL l)) := by
  have HL := Lib.hid h.len
  have HP := Lib.hid hp
  clear hp
  go_enter Tryz.func92, Tryz.ntmps92
  go_wp2_with fail
  go_loopw [3, 8] (fun ts ti wr => ∃ (k : Nat) (s : Int), k ≤ n ∧ ts = .int .i64 s ∧ ti = .int .i64 k ∧ E w wr ∧ 0 ≤ s ∧ s ≤ 1099511627776 * (k : Int) ∧ Hid (s = totL (l.take k))) (fun _ ti _ => n - (intOf ti).toNat)
  case atStart => exact ⟨0, 0, Nat.zero_le _, rfl, rfl, E.refl _, by omega, by omega, show _ = _ by simp [totL]⟩
  case round =>
    obtain ⟨k, s, hk, rfl, rfl, hE, s0, s1, hS⟩ := hrel
    by_cases hlt : k < n
    · obtain ⟨b, o, x, rfl, hb, hx, hwx, c0, c1, c2⟩ := (h.e hE).get hlt
      have hpx := possB_iff.1 (HP.out x (List.mem_of_getElem? hx))
      have HS := Lib.hid (show s + x.2.2 = totL (l.take (k + 1)) by rw [totL_succ hx, hS.out])
      clear hx hwx
      obtain ⟨f, a, m⟩ := x
      simp only at c0 c1 c2 hpx HS
      have hkI : (k : Int) < (n : Int) := by omega
      go_wp2_with fail
      go_roundw
      case rel => exact ⟨k + 1, s + m, by omega, rfl, by go_num, hE.alloc _, by omega, by omega, HS⟩
      case measure => simp [intOf]; omega
    · have HF := Lib.hid (show s = totL l by rw [hS.out, List.take_of_length_le (by rw [HL.out]; omega)])
      go_wp2_with fail
      go_ret
      exact ⟨ret_int HF.out, hE⟩
set_option maxHeartbeats 2000000 in
theorem total_c (A : Option Addr) (n c : Nat) (l : List Lt) (w : World) (h : LotsAt w A n c l) : Calls Tryz.prog 57 #[.slice A n c] w (RetN w (totalS l)) := by
  have HV := Lib.hid (valid_c A n c l w h)
  cases hv : validB l
  · rw [hv] at HV
    have HF := Lib.hid (show totalS l = 0 by rw [totalS, hv]; rfl)
    clear hv
    go_enter Tryz.func57, Tryz.ntmps57
    go_wp2_with fail
    refine HV.out.mono ?_
    rintro e w2 ⟨rfl, hE2⟩
    go_wp2_with fail
    go_ret
    exact ⟨ret_int HF.out.symm, hE2⟩
  · rw [hv] at HV
    have HF := Lib.hid (show totalS l = totL l by rw [totalS, hv]; rfl)
    obtain ⟨v1, v2⟩ := validB_iff.1 hv
    have hl := h.len
    have HT := Lib.hid (fun W hE => spTotal_c A n c l W (h.e hE) v2 (by omega))
    clear hv v1 v2 hl
    go_enter Tryz.func57, Tryz.ntmps57
    go_wp2_with fail
    refine HV.out.mono ?_
    rintro e w2 ⟨rfl, hE2⟩
    go_wp2_with fail
    refine (HT.out _ hE2).mono ?_
    rintro e w3 ⟨rfl, hE3⟩
    go_wp2_with fail
    go_ret
    exact ⟨ret_int HF.out.symm, hE2.trans hE3⟩
end Go.Proofs.YtmeplpiamkaniaaGreat
namespace Go.Proofs.YtmeplpiamkaniaaGreat
set_option linter.unusedVariables false
set_option linter.unusedSimpArgs false
open Go.RowKit Go.Shelf
set_option maxHeartbeats 400000 in
theorem cloneL_c (A : Option Addr) (n c : Nat) (l : List Lt) (w : World) (h : LotsAt w A n c l) (hn : n ≤ 1000000) :
    Calls Tryz.prog 72 #[.slice A n c] w (RetL w l) := by
  rcases A with _ | ad
  · have h0 : n = 0 := by
      rcases Nat.eq_zero_or_pos n with h0 | h0
      · exact h0
      · obtain ⟨_, _, hh, _⟩ := h.at_ h0; cases hh
    have hl : l = [] := List.eq_nil_of_length_eq_zero (by rw [h.len, h0])
    have HL := Lib.hid hl
    clear h0 hl hn
    have hnil : ∀ W : World, (binOp .eql 41 (.slice none n c) (.slice none 0 0)).run Tryz.prog W = .ok (.bool true) W := fun W => Lib.run_eql_slice_nil W _ _ _ _ _ _ _ Tryz.underlying41
    go_enter Tryz.func72, Tryz.ntmps72
    go_wp2
    go_ret
    exact RetL.mk_ HL.out (OwnL.nil _ _) (E.refl _)
  · have hE := (E.refl w).alloc (.cells #[] 30)
    have h' := h.e hE
    have hb : w.heap.size ≤ (w.alloc (.cells #[] 30)).heap.size := hE.le
    have HN := Lib.hid hn
    clear hn
    have hnil : ∀ W : World, (binOp .eql 41 (.slice (some ad) n c) (.slice none 0 0)).run Tryz.prog W = .ok (.bool false) W := fun W => Lib.run_eql_slice_nil W _ _ _ _ _ _ _ Tryz.underlying41
    go_enter Tryz.func72, Tryz.ntmps72
    go_wp2_with (at_builtin; refine wpList_appL _ rfl _ _ rfl w.heap.size _ _ _ [] rfl (OwnL.empty w _ (Nat.le_refl _)) _ _ _ l rfl h' (by have := HN.out; omega) hb ?_; intro A' c' w1 hO hG hB hor)
    go_ret
    exact RetL.mk_ rfl (by simpa using hO) (hE.up hB)
end Go.Proofs.YtmeplpiamkaniaaGreat
namespace Go.Proofs.YtmeplpiamkaniaaGreat
set_option linter.unusedVariables false
set_option linter.unusedSimpArgs false
open Go.RowKit Go.Shelf
set_option maxHeartbeats 2000000 in
set_option maxRecDepth 100000 in
theorem sameL_c (A1 A2 : Option Addr) (n1 c1 n2 c2 : Nat) (l1 l2 : List Lt) (w : World) (h1 : LotsAt w A1 n1 c1 l1) (h2 : LotsAt w A2 n2 c2 l2) :
    Calls Tryz.prog 24 #[.slice A1 n1 c1, .slice A2 n2 c2] w (RetK w (decide (l1 = l2))) := by
  have hm1 := h1.n63
  have hm2 := h2.n63
  by_cases hn : n1 = n2
  · subst hn
    have hl1 := h1.len
    have hl2 := h2.len
    have HS := Lib.hid (show (l1 = l2) = (l1.drop 0 = l2.drop 0) by simp)
    obtain ⟨r, hr⟩ : ∃ r, decide (l1 = l2) = r := ⟨_, rfl⟩
    rw [hr]
    have HR := Lib.hid hr
    have HL := Lib.hid (And.intro hl1 hl2)
    clear hr hl1 hl2
    go_enter Tryz.func24, Tryz.ntmps24
    go_wp2_with fail
    go_loopw [5] (fun ti wr => ∃ k : Nat, k ≤ n1 ∧ ti = .int .i64 k ∧ E w wr ∧ Hid (r = decide (l1.drop k = l2.drop k))) (fun ti _ => n1 - (intOf ti).toNat)
    case atStart => exact ⟨0, Nat.zero_le _, rfl, E.refl _, show _ = _ by rw [← HR.out]; simp⟩
    case round =>
      obtain ⟨k, hk, rfl, hE, hV⟩ := hrel
      by_cases hlt : k < n1
      · obtain ⟨b, o, x, rfl, hb, hx, hwx, c0, c1, c2⟩ := (h1.e hE).get hlt
        obtain ⟨b', o', y, rfl, hb', hy, hwy, e0, e1, e2⟩ := (h2.e hE).get hlt
        have HD := Lib.hid (And.intro (drop_at hx) (drop_at hy))
        clear hx hy hwx hwy
        have hkI : (k : Int) < (n1 : Int) := by omega
        by_cases hxy : x = y
        · subst hxy
          have HF := Lib.hid (show r = decide (l1.drop (k + 1) = l2.drop (k + 1)) by
            rw [hV.out, HD.out.1, HD.out.2]; simp)
          obtain ⟨f, a, m⟩ := x
          simp only at c0 c1 c2 e0 e1 e2
          clear hV HD
          go_wp2_with fail
          go_region
          all_goals go_wp2_with fail
          exact ⟨⟨k + 1, by omega, by go_num, hE.drew, HF.out⟩, by simp [intOf]; omega⟩
        · have HF := Lib.hid (show r = false by rw [hV.out, HD.out.1, HD.out.2]; simp [hxy])
          obtain ⟨f, a, m⟩ := x
          obtain ⟨f', a', m'⟩ := y
          simp only at c0 c1 c2 e0 e1 e2
          have hor : ¬ f = f' ∨ (f = f' ∧ ¬ a = a') ∨ (f = f' ∧ a = a' ∧ ¬ m = m') := by
            by_cases h1 : f = f'
            · by_cases h2 : a = a'
              · exact .inr (.inr ⟨h1, h2, fun h3 => hxy (by rw [h1, h2, h3])⟩)
              · exact .inr (.inl ⟨h1, h2⟩)
            · exact .inl h1
          clear hV HD hxy
          rcases hor with hf | ⟨rfl, ha⟩ | ⟨rfl, rfl, hm'⟩
          all_goals
            go_wp2_with fail
            go_region
            go_wp2_with fail
            go_ret
            exact ⟨ret_bool HF.out.symm, hE.drew⟩
      · have HF := Lib.hid (show r = true by
          rw [hV.out, List.drop_eq_nil_of_le (by rw [HL.out.1]; omega), List.drop_eq_nil_of_le (by rw [HL.out.2]; omega)]; rfl)
        go_wp2_with fail
        go_ret
        exact ⟨ret_bool HF.out.symm, hE⟩
  · have HF := Lib.hid (show decide (l1 = l2) = false by rw [decide_eq_false_iff_not]; intro e; subst e; exact hn (h1.len.symm.trans h2.len))
    have hnI : ((n1 : Int) != (n2 : Int)) = true := by simp; omega
    go_enter Tryz.func24, Tryz.ntmps24
    go_wp2_with fail
    go_ret
    exact ⟨ret_bool HF.out.symm, E.refl _⟩
end Go.Proofs.YtmeplpiamkaniaaGreat
namespace Go.Proofs.YtmeplpiamkaniaaGreat
set_option linter.unusedVariables false
set_option linter.unusedSimpArgs false
open Go.RowKit Go.Shelf
attribute [local go_sem] Oper.semAt_some
def ptr (b : Nat) : Value := .pointer (some ⟨b, 0, none⟩)
theorem cell_one {w : World} {b : Nat} {v : Value} {T : TypeId} (h : w.heap[b]? = some (.cells #[v] T (0, 0))) : w.cell? ⟨b, 0, none⟩ = some v ∧ w.frozen? ⟨b, 0, none⟩ = false := ⟨cell_of_row _ _ 0 _ _ _ h, frozen_of_row _ _ 0 _ _ h⟩
structure Counter (gf : FuncId) (lb : List Value) (ks : List Int) (N : Nat) (Y : Nat → Prop) (Cn : Nat → World → Prop) : Prop where
  enters : ∀ (args : Array Value) (w : World), (callFunc gf args).run Tryz.prog w = .ok (.enter gf args) w
  ylt : ∀ b, Y b → b < N
  keep : ∀ (i : Nat) (w w' : World), Cn i w → (∀ b, b < N → w'.heap[b]? = w.heap[b]?) → Cn i w'
  step : ∀ (i : Nat) (k : Int) (w : World), ks[i]? = some k → Cn i w → N ≤ w.heap.size → Calls Tryz.prog gf (.int .i64 i :: lb).toArray w fun e w' => e = .returned (.int .i64 k) ∧ Cn (i + 1) w' ∧ Ex Y w w'
def firstK : Int → List Lt → List Int
  | _, [] => []
  | n, x :: l => min n x.2.2 :: firstK (n - min n x.2.2) l
def leftK (n : Int) (l : List Lt) (i : Nat) : Int := n - (firstK n (l.take i)).sum
theorem firstK_len (n : Int) (l : List Lt) : (firstK n l).length = l.length := by
  induction l generalizing n with
  | nil => rfl
  | cons x l ih => simp [firstK, ih]
theorem firstK_get {n : Int} {l : List Lt} {i : Nat} {x : Lt} (h : l[i]? = some x) : (firstK n l)[i]? = some (min (leftK n l i) x.2.2) ∧ leftK n l (i + 1) = leftK n l i - min (leftK n l i) x.2.2 := by
  induction l generalizing n i with
  | nil => simp at h
  | cons y l ih =>
    cases i with
    | zero => simp at h; subst h; simp [firstK, leftK]
    | succ i =>
      obtain ⟨h1, h2⟩ := ih (n := n - min n y.2.2) (by simpa using h)
      have e : ∀ j, leftK n (y :: l) (j + 1) = leftK (n - min n y.2.2) l j := fun j => by
        simp only [leftK, List.take_succ_cons, firstK, List.sum_cons]; omega
      rw [e, e, ← h2]
      refine ⟨?_, rfl⟩
      rw [firstK, List.getElem?_cons_succ]; exact h1
theorem leftK_range {n : Int} {l : List Lt} (h0 : 0 ≤ n) (hl : ∀ x ∈ l, 1 ≤ x.2.2) (i : Nat) : 0 ≤ leftK n l i ∧ leftK n l i ≤ n := by
  induction l generalizing n i with
  | nil => simp [leftK, firstK]; exact h0
  | cons y l ih =>
    have hy := hl y List.mem_cons_self
    cases i with
    | zero => simp [leftK, firstK]; exact h0
    | succ i =>
      have h1 := ih (n := n - min n y.2.2) (by omega) (fun x hx => hl x (List.mem_cons_of_mem _ hx)) i
      have e : leftK n (y :: l) (i + 1) = leftK (n - min n y.2.2) l i := by
        simp only [leftK, List.take_succ_cons, firstK, List.sum_cons]; omega
      rw [e]; omega
def FuSt (n : Int) (A : Option Addr) (len c : Nat) (l : List Lt) (bl bn : Nat) (i : Nat) (w : World) : Prop :=
  w.heap[bl]? = some (.cells #[.slice A len c] 41 (0, 0)) ∧ w.heap[bn]? = some (.cells #[.int .i64 (leftK n l i)] 3 (0, 0)) ∧ LotsAt w A len c l
set_option maxHeartbeats 1000000 in
set_option maxRecDepth 100000 in
theorem firstUnits1_c (n : Int) (A : Option Addr) (len c : Nat) (l : List Lt) (bl bn i : Nat) (k : Int) (w : World) (h0 : 0 ≤ n) (h1 : n ≤ 1152921504606846976) (hl : ∀ x ∈ l, possB x = true) (hA : 0 < len → ∀ b, ob A = some b → b ≠ bn) (hne : bl ≠ bn) (hk : (firstK n l)[i]? = some k) (hS : FuSt n A len c l bl bn i w) :
    Calls Tryz.prog 93 #[.int .i64 i, ptr bn, ptr bl] w fun e w' => e = .returned (.int .i64 k) ∧ FuSt n A len c l bl bn (i + 1) w' ∧ Ex (fun b => b = bn) w w' := by
  obtain ⟨s1, s2, s3⟩ := hS
  have hi : i < len := by
    have := (List.getElem?_eq_some_iff.1 hk).1
    rw [firstK_len, s3.len] at this; exact this
  obtain ⟨b, o, x, rfl, hb, hx, hwx, c0, c1, c2⟩ := s3.get hi
  obtain ⟨g1, g2⟩ := firstK_get (n := n) hx
  rw [hk] at g1
  injection g1 with g1
  have hpx := possB_iff.1 (hl x (List.mem_of_getElem? hx))
  have hr := leftK_range h0 (fun y hy => (possB_iff.1 (hl y hy)).2.2.2.1) (l := l) i
  have hm63 := s3.n63
  have cb := cell_one s1
  have cn := cell_one s2
  have hbn : b ≠ bn := hA (by omega) b rfl
  have G2 := Lib.hid g2
  have S1 := Lib.hid s1
  have S2 := Lib.hid s2
  have S3 := Lib.hid s3
  obtain ⟨r, hre⟩ : ∃ r, leftK n l i = r := ⟨_, rfl⟩
  rw [hre] at g1 hr cn s2
  have HRE := Lib.hid hre
  obtain ⟨cb1, _⟩ := cb
  obtain ⟨cn1, fn1⟩ := cn
  clear g2 s1 s2 s3 hx hwx hk hre
  obtain ⟨f, a, m⟩ := x
  simp only at c0 c1 c2 hpx g1
  have hiI : (i : Int) < (len : Int) := by omega
  have hkr : min r m ≤ r := by omega
  have hkr0 : 0 ≤ min r m := by omega
  have HG1 := Lib.hid g1
  have hK : k = min r m := g1
  have hwr : IntKind.i64.wrap (r - k) = r - k := by rw [IntKind.wrap_i64]; omega
  clear g1
  have hif : (if m < r then m else r) = k := by split <;> omega
  have HIF := Lib.hid hif
  have HHK := Lib.hid hK
  clear hif hK HG1
  unfold ptr
  go_enter Tryz.func93, Tryz.ntmps93
  go_upto_region 1 with fail
  (refine wp_region_quiet_lit (by kernel_rfl) (by kernel_rfl) ?_; (repeat (first | ((with_reducible refine wpQuiet_step (fun K hK => ?_)); go_simp; (with_reducible refine hK _ ?_); clear hK K) | ((with_reducible refine wpQuiet_off (by kernel_rfl) (fun K hK => ?_)); go_simp; (with_reducible refine hK _ ?_); clear hK K))); (with_reducible refine wpQuiet_nil ?_); intro _ hw'; obtain ⟨nq, hw''⟩ := hw'; subst hw'')
  rw [HIF.out]
  obtain ⟨wa, hwa⟩ : ∃ wa, w.drewN nq = wa := ⟨_, rfl⟩
  rw [hwa]
  have hEa : E w wa := by rw [← hwa]; exact (E.refl w).drewN nq
  have S2a : wa.heap[bn]? = some (.cells #[.int .i64 r] 3 (0, 0)) := by rw [hEa.block (lt_blk S2.out), S2.out, HRE.out]
  clear cb1 cn1 fn1 c0 c1 c2 hwa
  obtain ⟨cn1, fn1⟩ := cell_one S2a
  have HS := Lib.hid (heap_setCell_same _ _ 0 _ _ (.int .i64 (r - k)) S2a)
  clear S2a
  go_wp2_with fail
  go_ret
  have hX : Ex (fun b => b = bn) w (wa.setCell ⟨bn, 0, none⟩ (.int .i64 (r - k))) := (Ex.of_e (X := fun b => b = bn) hEa).setCell ⟨bn, 0, none⟩ (.inr rfl) _
  refine ⟨rfl, ⟨(hX.block _ (lt_blk S1.out) hne).trans S1.out, ?_, S3.out.ex hX (fun h0 b' hb' e => hA h0 b' hb' e)⟩, hX⟩
  rw [HS.out, G2.out, HRE.out]
  show _ = some (Obj.cells #[.int .i64 (r - min r m)] _ _)
  rw [← HHK.out]
  rfl
theorem firstUnits_counter (n : Int) (A : Option Addr) (len c : Nat) (l : List Lt) (bl bn : Nat) (h0 : 0 ≤ n) (h1 : n ≤ 1152921504606846976) (hl : ∀ x ∈ l, possB x = true) (hA : 0 < len → ∀ b, ob A = some b → b < bl) (hne : bl < bn) :
    Counter 93 [ptr bn, ptr bl] (firstK n l) (bn + 1) (fun b => b = bn) (FuSt n A len c l bl bn) where
  enters := Tryz.call93
  ylt := fun b hb => by omega
  keep := fun i w w' hS hk => by
    obtain ⟨s1, s2, s3⟩ := hS
    refine ⟨(hk bl (by omega)).trans s1, (hk bn (by omega)).trans s2, ⟨s3.len, s3.cap, s3.mx, s3.wf, fun h => ?_⟩⟩
    obtain ⟨b, o, e, hb, hc⟩ := s3.at_ h
    have hbb := hk b (by have := hA h b (by rw [e]; rfl); omega)
    refine ⟨b, o, e, lt_blk (o := w.heap[b]) (by rw [hbb]; exact Array.getElem?_eq_getElem hb), fun i x hx => ?_⟩
    obtain ⟨c0, c1, c2⟩ := hc i x hx
    exact ⟨(World.cell?_of_block hbb).trans c0, (World.cell?_of_block hbb).trans c1, (World.cell?_of_block hbb).trans c2⟩
  step := fun i k w hk hS _ => firstUnits1_c n A len c l bl bn i k w h0 h1 hl (fun h0 b hb e => by have := hA h0 b hb; omega) (by omega) hk hS
theorem firstUnits_c (n : Int) (A : Option Addr) (len c : Nat) (l : List Lt) (w : World) (h : LotsAt w A len c l) :
    Calls Tryz.prog 58 #[.slice A len c, .int .i64 n] w fun e w' => e = .returned (.func (.func 93) #[] [ptr (w.heap.size + 1), ptr w.heap.size].toArray) ∧ FuSt n A len c l w.heap.size (w.heap.size + 1) 0 w' ∧ E w w' ∧ w'.heap.size = w.heap.size + 2 := by
  have hE := ((E.refl w).alloc (.cells #[.slice A len c] 41)).alloc (.cells #[.int .i64 n] 3)
  have h1 := heap_alloc_new w (.cells #[.slice A len c] 41)
  have h2 := heap_alloc_new (w.alloc (.cells #[.slice A len c] 41)) (.cells #[.int .i64 n] 3)
  rw [World.size_alloc] at h2
  have HR := Lib.hid (show FuSt n A len c l w.heap.size (w.heap.size + 1) 0 ((w.alloc (.cells #[.slice A len c] 41)).alloc (.cells #[.int .i64 n] 3)) by
    refine ⟨?_, ?_, h.e hE⟩
    · rw [Below.heap_alloc _ _ _ (by simp)]; exact h1
    · rw [h2]; simp [leftK, firstK])
  unfold ptr
  go_enter Tryz.func58, Tryz.ntmps58
  go_wp2_with fail
  go_ret
  exact ⟨rfl, HR.out, hE, by simp⟩
end Go.Proofs.YtmeplpiamkaniaaGreat
