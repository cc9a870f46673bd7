/- Laws for append, make and copy on rows of the call's own, in the words of A. -/
import Derived.Test.YtpbkfpkgbfifaaaA
import Derived.Laws.CopyOwn
import Derived.Maps.AppendAt
namespace Go.Proofs.Ytpbkfpkgbfifaaa
open Go.RowKit

/-- the row of the table of an integer type: zero, one cell, so many bytes -/
structure IntT (P : Program) (S T : TypeId) (k : IntKind) (by8 : Nat) : Prop where
  und : P.underlying S = some (.slice T)
  info : (P.info? T).map (fun i => (i.zero, i.size, i.bytes)) = some (some (.int k 0), 1, by8)
  small : by8 ≤ 8

theorem wf_zero (k : IntKind) : (Lit.int k 0).wf = true := by cases k <;> decide

section
variable {P : Program} {S T : TypeId} {k : IntKind} {by8 : Nat}

theorem own_of_row {w : World} {base : Nat} {v : Value} {n : Nat} {l : List Int} (h : w.ownsRow base T 1 v n (l.map (Value.int k))) (hw : ∀ x ∈ l, (Lit.int k x).wf = true) (hn : 0 < n) :
    ∃ g c, v = .slice (some ⟨g, 0, none⟩) n c ∧ Own k T w base (some ⟨g, 0, none⟩) n c l := by
  have h1 := h.1
  rw [List.length_map, Nat.mul_one] at h1
  rcases h.2 with ⟨_, h0⟩ | ⟨g, cap, cur, rfl, _⟩
  · omega
  · exact ⟨g, cap, rfl, h1, h, hw⟩

theorem ownBlock_le {w : World} {base : Nat} {A : Option Addr} {n c : Nat} {l : List Int} (h : Own k T w base A n c l) : ∀ b, (Value.slice A n c).ownBlock = some b → base ≤ b := by
  intro b hb
  exact (World.ownsRow.lt h.2.1 b hb).1

/-- out = append(out, x), x one number that lies in a block of its own: the source slice is any that reads as [v]. -/
theorem wpList_app1 (it : IntT P S T k by8) (w : World) {ops : Array Oper} {rest : List Oper} {o : Oper} {a : Act} {Q : Exit → Act → World → Prop} (hgd : o.guard = none) (s x : Operand)
    (ho : o.op = .call { callee := .builtin .append, args := #[s, x], argTypes := #[S, S] })
    (base : Nat) (A : Option Addr) (n c : Nat) (l : List Int) (hs : a.eval s = .slice A n c) (hown : Own k T w base A n c l)
    (g : Nat) (v : Int) (hx : a.eval x = .slice (some ⟨g, 0, none⟩) 1 1) (hcell : w.cell? ⟨g, 0, none⟩ = some (.int k v)) (hwf : (Lit.int k v).wf = true)
    (hlen : n ≤ 1099511627776) (hbase : base ≤ w.heap.size)
    (h : ∀ g' c' w', Own k T w' base (some ⟨g', 0, none⟩) (n + 1) c' (l ++ [v]) → w.grownBy w' (Value.slice A n c).ownBlock → Below base w w' → ((Value.slice A n c).ownBlock = some g' ∨ g' = w.heap.size) → wpList P ops Q rest (a.put o.dst (.slice (some ⟨g', 0, none⟩) (n + 1) c')) w') :
    wpList P ops Q (o :: rest) a w := by
  obtain ⟨i, hi, hz0, hz1, hz2⟩ := info_parts it.info
  have hsm := it.small
  refine wpList_plain hgd fun K hK' => ?_
  obtain ⟨v', w', hrun, h2, h3, h4, h5⟩ := run_append_own_at (P := P) w base S o.type T i (.int k 0) 1 by8 it.und hi hz0 hz1 hz2 rfl (by decide) _ n _ hown.2.1 ⟨g, 0, none⟩ 1 1 [.int k v] rfl
    (by intro j u hu
        cases j with
        | zero => simp at hu; subst hu; simpa [Addr.add] using hcell
        | succ j => simp at hu)
    (by intro u hu; simp at hu; subst hu; rfl) (by unfold maxLen; omega)
    (by have : (n + 1) * by8 ≤ (n + 1) * 8 := Nat.mul_le_mul_left _ hsm
        omega) hbase
  unfold Oper.wp execOp
  simp only [ho, resolve, invoke, builtin, Sem.run_bind, Sem.run_pure, Result.andThen_ok, List.map_toArray, List.map_cons, List.map_nil, hs, hx, hrun]
  have hm : l.map (Value.int k) ++ [.int k v] = (l ++ [v]).map (Value.int k) := by simp
  rw [hm] at h2
  obtain ⟨g', c', rfl, hO⟩ := own_of_row h2 (by intro y hy; rcases List.mem_append.1 hy with hy | hy; exact hown.2.2 y hy; simp at hy; subst hy; exact hwf) (by omega)
  refine hK' _ _ (h g' c' w' hO h3 ((Below.refl base w).grown h3 hbase (ownBlock_le hown)) ?_)
  rcases h5 with h5 | h5
  · left; rw [← h5]; rfl
  · right; simpa [Value.ownBlock] using h5

theorem cell_new (w : World) (x : Value) (t : TypeId) : (w.alloc (.cells #[x] t)).cell? ⟨w.heap.size, 0, none⟩ = some x := by
  exact (cell_one_new w x t 0 x rfl)

theorem grown_of_alloc {w w' : World} {o : Obj} {row : Option Nat} (h : (w.alloc o).grownBy w' row) : w.grownBy w' row :=
  ⟨h.os, h.tape, h.output, by have := h.size; simp at this; omega, fun b hb hne => (h.block b (by simp; omega) hne).trans (Below.heap_alloc w o b hb)⟩

/-- out = append(out, v): the source has just been built in a new block -/
theorem wpList_app1n (it : IntT P S T k by8) (w : World) {ops : Array Oper} {rest : List Oper} {o : Oper} {a : Act} {Q : Exit → Act → World → Prop} (hgd : o.guard = none) (s x : Operand)
    (ho : o.op = .call { callee := .builtin .append, args := #[s, x], argTypes := #[S, S] })
    (base : Nat) (A : Option Addr) (n c : Nat) (l : List Int) (hs : a.eval s = .slice A n c) (hown : Own k T w base A n c l)
    (v : Int) (hx : a.eval x = .slice (some ⟨w.heap.size, 0, none⟩) 1 1) (hwf : (Lit.int k v).wf = true)
    (hlen : n ≤ 1099511627776) (hbase : base ≤ w.heap.size)
    (h : ∀ g' c' w', Own k T w' base (some ⟨g', 0, none⟩) (n + 1) c' (l ++ [v]) → w.grownBy w' (Value.slice A n c).ownBlock → Below base w w' → ((Value.slice A n c).ownBlock = some g' ∨ w.heap.size ≤ g') → wpList P ops Q rest (a.put o.dst (.slice (some ⟨g', 0, none⟩) (n + 1) c')) w') :
    wpList P ops Q (o :: rest) a (w.alloc (.cells #[.int k v] T)) := by
  refine wpList_app1 it (w.alloc (.cells #[.int k v] T)) hgd s x ho base A n c l hs (hown.e ((E.refl w).alloc _)) w.heap.size v hx (cell_new _ _ _) hwf hlen (by simp; omega) ?_
  intro g' c' w' hO hG hB hor
  have hG' := grown_of_alloc hG
  refine h g' c' w' hO hG' ((Below.refl base w).grown hG' hbase (ownBlock_le hown)) ?_
  rcases hor with h | h
  · exact .inl h
  · right; rw [h]; simp

/-- make([]T, n): n zeros of the call's own, in the new block -/
theorem wpList_mk (it : IntT P S T k by8) (w : World) {ops : Array Oper} {rest : List Oper} {o : Oper} {a : Act} {Q : Exit → Act → World → Prop} (hgd : o.guard = none) (x y : Operand)
    (ho : o.op = Op.makeSlice S x y) (kl kc : IntKind) (L C : Int) (n : Nat) (hl : a.eval x = .int kl L) (hc : a.eval y = .int kc C) (hL : L = (n : Int)) (hC : C = (n : Int)) (hn : n ≤ 17592186044416)
    (h : ∀ w', Own k T w' w.heap.size (some ⟨w.heap.size, 0, none⟩) n n (List.replicate n 0) → E w w' → w'.heap.size = w.heap.size + 1 → wpList P ops Q rest (a.put o.dst (.slice (some ⟨w.heap.size, 0, none⟩) n n)) w') :
    wpList P ops Q (o :: rest) a w := by
  obtain ⟨i, hi, hz0, hz1, hz2⟩ := info_parts it.info
  have hsm := it.small
  have hb : i.bytes * n ≤ 281474976710656 := by
    rw [hz2]
    have : by8 * n ≤ 8 * n := Nat.mul_le_mul_right _ hsm
    omega
  refine wpList_plain hgd fun K hK' => ?_
  have hbI : (i.bytes : Int) * (n : Int) ≤ 281474976710656 := by
    have h : ((i.bytes * n : Nat) : Int) ≤ 281474976710656 := by omega
    rwa [Int.natCast_mul] at h
  have hr := run_make (P := P) w S T i (.int k 0) it.und hi hz0 kl kc n n (by omega) (by omega) hbI (by omega)
  simp only [Int.toNat_natCast] at hr
  subst hL
  subst hC
  unfold Oper.wp
  simp [execOp, ho, hl, hc, hr, Result.andThen]
  refine hK' _ _ (h _ ⟨by simp, ⟨by simp, .inr ⟨w.heap.size, n, _, rfl, Nat.le_refl _, heap_alloc_new w _, Nat.le_refl _, by unfold maxLen; omega, by rw [size_madeCells, hz1], ?_⟩⟩, ?_⟩ ((E.refl w).alloc _) (by simp))
  · rw [hz1, Nat.mul_one]
    show (madeCells #[Value.int k 0] n).toList.take n = _
    rw [toList_madeCells_one]
    simp
  · intro y hy
    rw [List.eq_of_mem_replicate hy]
    exact wf_zero k

/-- copy(dst, src): dst a row of the call's own, as long as src -/
theorem wpList_cp (it : IntT P S T k by8) (w : World) {ops : Array Oper} {rest : List Oper} {o : Oper} {a : Act} {Q : Exit → Act → World → Prop} (hgd : o.guard = none) (d s : Operand)
    (ho : o.op = .call { callee := .builtin .copy, args := #[d, s], argTypes := #[S, S] }) (base g n c' : Nat) (A : Option Addr) (c : Nat) (cur l : List Int)
    (hd : a.eval d = .slice (some ⟨g, 0, none⟩) n c') (hs : a.eval s = .slice A n c) (hown : Own k T w base (some ⟨g, 0, none⟩) n c' cur) (hc : c' = n) (hr : Nums k w A n c l)
    (h : ∀ w', Own k T w' base (some ⟨g, 0, none⟩) n c' l → Below base w w' → wpList P ops Q rest (a.put o.dst (goInt n)) w') : wpList P ops Q (o :: rest) a w := by
  subst hc
  obtain ⟨i, hi, hz0, hz1, hz2⟩ := info_parts it.info
  obtain ⟨h1, ⟨a1, a2⟩, h3⟩ := hown
  rcases a2 with ⟨hv, _⟩ | ⟨g', cap, cu, hv, hb, hh, hnc, hcm, hsz, htk⟩
  · injection hv with e1; cases e1
  · injection hv with e1 e2 e3
    injection e1 with e1
    injection e1 with e1
    subst e1 e3
    have hcl : (l.map (Value.int k)).length = c' := by rw [List.length_map, hr.len]
    have key : (splice cu.toList 0 (l.map (Value.int k))) = l.map (Value.int k) := by
      unfold splice
      rw [List.take_zero, List.nil_append, Nat.zero_add, hcl, List.drop_eq_nil_of_le (by rw [Array.length_toList, hsz]; omega), List.append_nil]
    refine wpList_copy_splice hgd d s S S ho T it.und (by rw [hi]; simp [hz1]) _ _ _ _ _ _ hd hs g 0 cu.toList T (by simpa using hh) (l.map (Value.int k)) (by rw [hcl]; exact (Nat.min_self _).symm) ?_ (by rw [hcl]; simp [hsz]) ?_ base w (Below.refl _ _) hb ?_
    · intro hpos
      rw [hcl] at hpos
      obtain ⟨b, off, rfl, _, hce⟩ := hr.at_ hpos
      refine ⟨rfl, _, rfl, fun j v hj => ?_⟩
      rw [List.getElem?_map] at hj
      obtain ⟨x, hx, rfl⟩ := Option.map_eq_some_iff.1 hj
      obtain ⟨hj', rfl⟩ := List.getElem?_eq_some_iff.1 hx
      have := hce j hj'
      rw [← this]
      unfold Addr.add
      split
      · rename_i h0; subst h0; rfl
      · rfl
    · exact ints_oneCell k l
    · intro w' HG hB
      rw [hcl]
      refine h w' ⟨hr.len, ⟨by rw [hcl, Nat.mul_one], .inr ⟨g, c', _, rfl, hb, HG.out, Nat.le_refl _, hcm, ?_, ?_⟩⟩, hr.wf⟩ hB
      · rw [key]; simp [hr.len]
      · rw [key]; simp only [Nat.mul_one]; rw [List.take_of_length_le (by rw [hcl]; omega)]

/-- a store into a row of the call's own -/
theorem Own.set {w : World} {base : Nat} {g n c : Nat} {l : List Int} (h : Own k T w base (some ⟨g, 0, none⟩) n c l) (j : Nat) (v : Int) (hw : (Lit.int k v).wf = true) :
    Own k T (w.setCell ⟨g, j, none⟩ (.int k v)) base (some ⟨g, 0, none⟩) n c (l.set j v) := by
  obtain ⟨h1, h2, h3⟩ := h
  refine ⟨by simpa using h1, ?_, ?_⟩
  · have := (World.ownsRow.stored h2 j (.int k v)).1
    rwa [← List.map_set] at this
  · intro y hy
    rcases List.mem_or_eq_of_mem_set hy with h | h
    · exact h3 y h
    · subst h; exact hw
theorem Own.get {w : World} {base : Nat} {A : Option Addr} {n c : Nat} {l : List Int} (h : Own k T w base A n c l) {i : Nat} (hi : i < n) :
    ∃ g x, A = some ⟨g, 0, none⟩ ∧ base ≤ g ∧ g < w.heap.size ∧ l[i]? = some x ∧ (Lit.int k x).wf = true ∧ w.cell? ⟨g, i, none⟩ = some (.int k x) ∧ w.frozen? ⟨g, i, none⟩ = false := by
  rcases h.form with ⟨_, h0, _⟩ | ⟨g, rfl, hb, hlt, _, _⟩
  · omega
  · have hl : i < l.length := by rw [h.1]; exact hi
    refine ⟨g, l[i], rfl, hb, hlt, List.getElem?_eq_getElem hl, h.2.2 _ (List.getElem_mem hl), ?_, World.ownsRow.frozenAt h.2.1 i⟩
    rw [World.ownsRow.cellAt h.2.1 i (by omega), List.getElem?_map, List.getElem?_eq_getElem hl]; rfl

theorem Own.getg {w : World} {base g n c : Nat} {l : List Int} (h : Own k T w base (some ⟨g, 0, none⟩) n c l) {i : Nat} (hi : i < n) :
    ∃ x, base ≤ g ∧ g < w.heap.size ∧ l[i]? = some x ∧ (Lit.int k x).wf = true ∧ w.cell? ⟨g, i, none⟩ = some (.int k x) ∧ w.frozen? ⟨g, i, none⟩ = false := by
  obtain ⟨g', x, e, r⟩ := h.get hi
  injection e with e
  injection e with e
  subst e
  exact ⟨x, r⟩

/-- what is handed back: a slice of the call's own with the numbers l; nothing that was there has turned -/
def RetOwn (k : IntKind) (T : TypeId) (w : World) (l : List Int) (e : Ending) (w' : World) : Prop :=
  ∃ A n c, e = .returned (.slice A n c) ∧ Own k T w' w.heap.size A n c l ∧ E w w'
def RetOwnErr (k : IntKind) (T : TypeId) (w : World) (r : List Int × Int) (e : Ending) (w' : World) : Prop :=
  ∃ A n c, e = .returned (.tuple #[.slice A n c, .int .i64 r.2]) ∧ Own k T w' w.heap.size A n c r.1 ∧ E w w'
theorem RetOwnErr.cast {w w' : World} {r r' : List Int × Int} {e : Ending} (h : RetOwnErr k T w r e w') (hr : r = r') : RetOwnErr k T w r' e w' := hr ▸ h
theorem RetOwnErr.mk_ {w w' : World} {r : List Int × Int} {A : Option Addr} {n c : Nat} {l : List Int} {e : Int} (hr : r = (l, e)) (hO : Own k T w' w.heap.size A n c l) (hE : E w w') :
    RetOwnErr k T w r (.returned (.tuple #[.slice A n c, .int .i64 e])) w' := ⟨A, n, c, by rw [hr], by rw [hr]; exact hO, hE⟩
theorem RetOwn.mk_ {w w' : World} {r : List Int} {A : Option Addr} {n c : Nat} {l : List Int} (hr : r = l) (hO : Own k T w' w.heap.size A n c l) (hE : E w w') :
    RetOwn k T w r (.returned (.slice A n c)) w' := ⟨A, n, c, rfl, by rw [hr]; exact hO, hE⟩
end
end Go.Proofs.Ytpbkfpkgbfifaaa
