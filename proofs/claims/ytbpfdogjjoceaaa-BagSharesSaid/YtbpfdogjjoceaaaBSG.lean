/- A row of the call's own of rows of the call's own. -/
import Derived.Test.YtbpfdogjjoceaaaBSP
import Derived.Test.YtbpfdogjjoceaaaRI
namespace Go.Proofs.Ytbpfdogjjoceaaa
open Go.RowKit

/-- n rows of k numbers each, every one in a block of its own; block bl p holds row p -/
def Grid (w : World) (base : Nat) (A : Option Addr) (n c k : Nat) (bl cp : Nat → Nat) (R : Nat → Nat → Int) : Prop :=
  w.ownsRow base 22 1 (.slice A n c) n ((List.range n).map fun p => .slice (some ⟨bl p, 0, none⟩) k (cp p)) ∧
  (∀ p, p < n → Own .i64 3 w base (some ⟨bl p, 0, none⟩) k (cp p) (rowF (R p) k)) ∧ ∀ p q, p < n → q < n → bl p = bl q → p = q
theorem Grid.e {w w' : World} {base : Nat} {A : Option Addr} {n c k : Nat} {bl cp : Nat → Nat} {R : Nat → Nat → Int} (h : Grid w base A n c k bl cp R) (hE : E w w') : Grid w' base A n c k bl cp R := by
  obtain ⟨h1, h2, h3⟩ := h
  refine ⟨⟨h1.1, ?_⟩, fun p hp => (h2 p hp).e hE, h3⟩
  rcases h1.2 with a2 | ⟨g, cap, cur, hv, hb, hh, r⟩
  · exact .inl a2
  · exact .inr ⟨g, cap, cur, hv, hb, by rw [hE.block (blk_lt hh)]; exact hh, r⟩
theorem Grid.get {w : World} {base : Nat} {A : Option Addr} {n c k : Nat} {bl cp : Nat → Nat} {R : Nat → Nat → Int} (h : Grid w base A n c k bl cp R) {p : Nat} (hp : p < n) :
    ∃ g, A = some ⟨g, 0, none⟩ ∧ base ≤ g ∧ g < w.heap.size ∧ w.cell? ⟨g, p, none⟩ = some (.slice (some ⟨bl p, 0, none⟩) k (cp p)) := by
  obtain ⟨h1, h2, h3⟩ := h
  have h1' := h1
  rcases h1.2 with ⟨_, h0⟩ | ⟨g, cap, cur, hv, hb, hh, r⟩
  · omega
  · injection hv with e1 e2 e3
    subst e1 e3
    refine ⟨g, rfl, hb, blk_lt hh, ?_⟩
    rw [World.ownsRow.cellAt h1' p (by omega)]
    simp [hp]
theorem rowF_set (f : Nat → Int) (k i : Nat) (v : Int) : (rowF f k).set i v = rowF (fun j => if j = i then v else f j) k := by
  apply List.ext_getElem?
  intro j
  rw [List.getElem?_set]
  by_cases hj : j < k
  · rw [rowF_get _ hj, rowF_get _ hj, rowF_len]
    by_cases h : i = j
    · subst h; simp [hj]
    · rw [if_neg h, if_neg (fun e => h e.symm)]
  · have e1 : (rowF f k)[j]? = none := List.getElem?_eq_none (by rw [rowF_len]; omega)
    have e2 : (rowF (fun j => if j = i then v else f j) k)[j]? = none := List.getElem?_eq_none (by rw [rowF_len]; omega)
    rw [e1, e2, rowF_len]
    split
    · split
      · omega
      · rfl
    · rfl
theorem own_cells {k : IntKind} {T : TypeId} {w : World} {base b n c : Nat} {l : List Int} (h : Own k T w base (some ⟨b, 0, none⟩) n c l) : ∃ cs, w.heap[b]? = some (.cells cs T (0, 0)) := by
  rcases h.2.1.2 with ⟨hv, _⟩ | ⟨g, cap, cur, hv, _, hh, _⟩
  · injection hv with e; cases e
  · injection hv with e
    injection e with e
    injection e with e
    subst e
    exact ⟨_, hh⟩
/-- a number of row p is written -/
theorem Grid.set {w : World} {base : Nat} {A : Option Addr} {n c k : Nat} {bl cp : Nat → Nat} {R : Nat → Nat → Int} (h : Grid w base A n c k bl cp R) {p : Nat} (hp : p < n) (i : Nat) (v : Int) (hw : (Lit.int .i64 v).wf = true) :
    Grid (w.setCell ⟨bl p, i, none⟩ (.int .i64 v)) base A n c k bl cp (fun q j => if q = p then (if j = i then v else R p j) else R q j) := by
  obtain ⟨h1, h2, h3⟩ := h
  obtain ⟨cs, hcs⟩ := own_cells (h2 p hp)
  refine ⟨⟨h1.1, ?_⟩, fun q hq => ?_, h3⟩
  · rcases h1.2 with a2 | ⟨g, cap, cur, hv, hb, hh, r⟩
    · exact .inl a2
    · refine .inr ⟨g, cap, cur, hv, hb, ?_, r⟩
      rw [Below.heap_setCell _ _ _ _ (fun e => ?_)]
      · exact hh
      · have e' : g = bl p := e
        subst e'
        rw [hh] at hcs
        injection hcs with hcs
        injection hcs with _ ht
        exact absurd ht (by decide)
  · by_cases hqp : q = p
    · subst hqp
      have := (h2 q hq).set i v hw
      rw [rowF_set] at this
      simpa using this
    · simp only [if_neg hqp]
      exact (h2 q hq).far (p := ⟨bl p, i, none⟩) (fun e => hqp (h3 q p hq hp (by simpa [Value.ownBlock] using e))) _
theorem Grid.congr {w : World} {base : Nat} {A : Option Addr} {n c k : Nat} {bl cp : Nat → Nat} {R R' : Nat → Nat → Int} (h : Grid w base A n c k bl cp R) (hR : ∀ p i, p < n → i < k → R p i = R' p i) : Grid w base A n c k bl cp R' :=
  ⟨h.1, fun p hp => by rw [← rowF_congr (f := R p) (g := R' p) (fun i hi => hR p i hp hi)]; exact h.2.1 p hp, h.2.2⟩
theorem own_grid {w w' : World} {base b n c : Nat} {l : List Int} {row : Option Nat} (h : Own .i64 3 w base (some ⟨b, 0, none⟩) n c l) (hG : w.grownBy w' row) (hrow : ∀ g, row = some g → ∃ cs fr, w.heap[g]? = some (.cells cs 22 fr)) : Own .i64 3 w' base (some ⟨b, 0, none⟩) n c l := by
  obtain ⟨cs, hcs⟩ := own_cells h
  refine ⟨h.1, World.ownsRow.kept h.2.1 hG (.inr (fun e => ?_)), h.2.2⟩
  obtain ⟨cs', fr', hb⟩ := hrow b (by rw [← e]; rfl)
  rw [hcs] at hb
  injection hb with hb
  injection hb with _ ht
  exact absurd ht (by decide)
/-- parts = append(parts, row): a fresh row -/
theorem wpList_appG {P : Program} {S : TypeId} (hund : P.underlying S = some (.slice 22)) (hinfo : (P.info? 22).map (fun i => (i.zero, i.size, i.bytes)) = some (some (.slice none 0 0), 1, 24)) (w : World) {ops : Array Oper} {rest : List Oper} {o : Oper} {a : Act} {Q : Exit → Act → World → Prop} (hgd : o.guard = none) (s x : Operand)
    (ho : o.op = .call { callee := .builtin .append, args := #[s, x], argTypes := #[S, S] })
    (base : Nat) (A : Option Addr) (n c k : Nat) (bl cp : Nat → Nat) (R : Nat → Nat → Int) (hs : a.eval s = .slice A n c) (hown : Grid w base A n c k bl cp R)
    (b1 c1 : Nat) (f : Nat → Int) (hx : a.eval x = .slice (some ⟨w.heap.size, 0, none⟩) 1 1) (h1 : Own .i64 3 w base (some ⟨b1, 0, none⟩) k c1 (rowF f k)) (hnew : ∀ p, p < n → bl p ≠ b1)
    (hlen : n ≤ 1000) (hbase : base ≤ w.heap.size)
    (h : ∀ A' c' w', Grid w' base A' (n + 1) c' k (fun p => if p = n then b1 else bl p) (fun p => if p = n then c1 else cp p) (fun p => if p = n then f else R p) → Below base w w' → wpList P ops Q rest (a.put o.dst (.slice A' (n + 1) c')) w') :
    wpList P ops Q (o :: rest) a (w.alloc (.cells #[.slice (some ⟨b1, 0, none⟩) k c1] 22)) := by
  obtain ⟨i, hi, hz0, hz1, hz2⟩ := info_parts hinfo
  have hE := (E.refl w).alloc (.cells #[.slice (some ⟨b1, 0, none⟩) k c1] 22)
  obtain ⟨hr, hall, hdis⟩ := hown.e hE
  obtain ⟨hr0, _, _⟩ := hown
  have h1' := h1.e hE
  refine wpList_plain hgd fun K hK' => ?_
  obtain ⟨v', w', hrun, g2, g3, g4, g5⟩ := run_append_own_at (P := P) (w.alloc (.cells #[.slice (some ⟨b1, 0, none⟩) k c1] 22)) base S o.type 22 i _ 1 24 hund hi hz0 hz1 hz2 rfl (by decide) _ n _ hr ⟨w.heap.size, 0, none⟩ 1 1 [.slice (some ⟨b1, 0, none⟩) k c1] rfl
    (by intro j u hu
        have hc := fun jj => cell_of_row _ w.heap.size jj _ _ _ (heap_alloc_new w (.cells #[.slice (some ⟨b1, 0, none⟩) k c1] 22))
        match j with
        | 0 => simp at hu; subst hu; exact hc 0
        | j + 1 => simp at hu)
    (by intro u hu; simp at hu; subst hu; rfl) (by unfold maxLen; omega) (by omega) (by simp; omega)
  unfold Oper.wp execOp
  simp only [ho, resolve, invoke, builtin, Sem.run_bind, Sem.run_pure, Result.andThen_ok, List.map_toArray, List.map_cons, List.map_nil, hs, hx, hrun]
  have hG' := grown_of_alloc g3
  have hrow : ∀ g, (Value.slice A n c).ownBlock = some g → ∃ cs fr, (w.alloc (.cells #[.slice (some ⟨b1, 0, none⟩) k c1] 22)).heap[g]? = some (.cells cs 22 fr) := by
    intro g hg
    rcases hr.2 with ⟨hv, _⟩ | ⟨g', cap, cur, hv, _, hh, _⟩
    · rw [hv] at hg; simp [Value.ownBlock] at hg
    · rw [hv] at hg
      have : g' = g := by simpa [Value.ownBlock] using hg
      subst this
      exact ⟨_, _, hh⟩
  have hlist : ((List.range n).map fun p => Value.slice (some ⟨bl p, 0, none⟩) k (cp p)) ++ [.slice (some ⟨b1, 0, none⟩) k c1] = (List.range (n + 1)).map fun p => Value.slice (some ⟨(if p = n then b1 else bl p), 0, none⟩) k (if p = n then c1 else cp p) := by
    rw [List.range_succ, List.map_append]
    congr 1
    · refine List.map_congr_left fun p hp => ?_
      have : p ≠ n := by have := List.mem_range.1 hp; omega
      simp [this]
    · simp
  rcases g2.2 with ⟨_, h0⟩ | ⟨g', c', cur, rfl, _⟩
  · omega
  · rw [hlist] at g2
    refine hK' _ _ (h _ c' w' ⟨g2, fun p hp => ?_, fun p q hp hq e => ?_⟩ ((Below.refl base w).grown hG' hbase (fun k hk => (World.ownsRow.lt hr0 k hk).1)))
    · by_cases hpn : p = n
      · simp only [if_pos hpn]
        exact own_grid h1' g3 hrow
      · simp only [if_neg hpn]
        exact own_grid (hall p (by omega)) g3 hrow
    · by_cases hpn : p = n
      · by_cases hqn : q = n
        · omega
        · simp only [if_pos hpn, if_neg hqn] at e
          exact absurd e.symm (hnew q (by omega))
      · by_cases hqn : q = n
        · simp only [if_neg hpn, if_pos hqn] at e
          exact absurd e (hnew p (by omega))
        · simp only [if_neg hpn, if_neg hqn] at e
          exact hdis p q (by omega) (by omega) e
end Go.Proofs.Ytbpfdogjjoceaaa
