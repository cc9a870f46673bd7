/- A row of the call's own whose elements are slices of bytes. -/
import Derived.Test.YtbpfdogjjoceaaaRH
namespace Go.Proofs.Ytbpfdogjjoceaaa
open Go.RowKit

/-- bytes that lie in a block of bytes -/
structure Byt (w : World) (A : Option Addr) (n c : Nat) (l : List Int) : Prop where
  nums : Nums .u8 w A n c l
  blk : ∀ b o, A = some ⟨b, o, none⟩ → 0 < n → ∃ cs fr, w.heap[b]? = some (.cells cs 5 fr)
theorem Own.byt {w : World} {base : Nat} {A : Option Addr} {n c : Nat} {l : List Int} (h : Own .u8 5 w base A n c l) : Byt w A n c l := by
  refine ⟨h.reads, fun b o hA hn => ?_⟩
  obtain ⟨_, ⟨_, a2⟩, _⟩ := h
  rcases a2 with ⟨hv, h0⟩ | ⟨g, cap, cur, hv, _, hh, _⟩
  · omega
  · injection hv with e1
    rw [hA] at e1
    injection e1 with e1
    injection e1 with e1
    subst e1
    exact ⟨_, _, hh⟩
theorem Byt.e {w w' : World} {A : Option Addr} {n c : Nat} {l : List Int} (h : Byt w A n c l) (hE : E w w') : Byt w' A n c l :=
  ⟨h.nums.e hE, fun b o hA hn => by
    obtain ⟨cs, fr, hb⟩ := h.blk b o hA hn
    exact ⟨cs, fr, by rw [hE.block (blk_lt hb)]; exact hb⟩⟩
theorem Byt.far {w w' : World} {A : Option Addr} {n c : Nat} {l : List Int} {row : Option Nat} (h : Byt w A n c l) (hG : w.grownBy w' row) (hrow : ∀ g, row = some g → ∃ cs fr, w.heap[g]? = some (.cells cs 47 fr)) : Byt w' A n c l := by
  have key : ∀ b o, A = some ⟨b, o, none⟩ → 0 < n → w'.heap[b]? = w.heap[b]? := fun b o hA hn => by
    obtain ⟨cs, fr, hb⟩ := h.blk b o hA hn
    refine hG.block b (blk_lt hb) (fun e => ?_)
    obtain ⟨cs', fr', hb'⟩ := hrow b e.symm
    rw [hb] at hb'
    injection hb' with hb'
    injection hb' with _ ht
    exact absurd ht (by decide)
  refine ⟨⟨h.nums.len, h.nums.cap, h.nums.mx, h.nums.wf, fun hn => ?_⟩, fun b o hA hn => ?_⟩
  · obtain ⟨b, o, h1, h2, h3⟩ := h.nums.at_ hn
    refine ⟨b, o, h1, Nat.lt_of_lt_of_le h2 hG.size, fun i hi => ?_⟩
    rw [← h3 i hi]
    exact World.cell?_of_block (key b o h1 hn)
  · obtain ⟨cs, fr, hb⟩ := h.blk b o hA hn
    exact ⟨cs, fr, by rw [key b o hA hn]; exact hb⟩
theorem Byt.take {w : World} {A : Option Addr} {n c : Nat} {l : List Int} (h : Byt w A n c l) {m : Nat} (hm : m ≤ n) : Byt w A m c (l.take m) := by
  have htl : (l.take m).length = m := by rw [List.length_take, h.nums.len]; omega
  refine ⟨⟨htl, by have := h.nums.cap; omega, h.nums.mx, fun x hx => h.nums.wf x (List.mem_of_mem_take hx), fun h0 => ?_⟩, fun b o hA h0 => h.blk b o hA (by omega)⟩
  obtain ⟨b, o, h1, h2, h3⟩ := h.nums.at_ (by omega)
  refine ⟨b, o, h1, h2, fun i hi => ?_⟩
  rw [List.getElem_take]
  exact h3 i (by rw [htl] at hi; rw [h.nums.len]; omega)

/-- a row of the call's own of n slices of bytes, each of at most 100000 bytes -/
def OwnB (w : World) (base : Nat) (A : Option Addr) (n c : Nat) : Prop :=
  ∃ xs : List Value, w.ownsRow base 47 1 (.slice A n c) n xs ∧ ∀ v ∈ xs, ∃ A' n' c' l, v = .slice A' n' c' ∧ Byt w A' n' c' l ∧ n' ≤ 100000
theorem ownB_row {w : World} {base : Nat} {A : Option Addr} {n c : Nat} {xs : List Value} (h : w.ownsRow base 47 1 (.slice A n c) n xs) : ∀ g, (Value.slice A n c).ownBlock = some g → ∃ cs fr, w.heap[g]? = some (.cells cs 47 fr) := by
  intro g hg
  rcases h.2 with ⟨hv, _⟩ | ⟨g', cap, cur, hv, _, hh, _⟩
  · rw [hv] at hg; simp [Value.ownBlock] at hg
  · rw [hv] at hg
    have : g' = g := by simpa [Value.ownBlock] using hg
    subst this
    exact ⟨_, _, hh⟩
theorem OwnB.e {w w' : World} {base : Nat} {A : Option Addr} {n c : Nat} (h : OwnB w base A n c) (hE : E w w') : OwnB w' base A n c := by
  obtain ⟨xs, h1, h2⟩ := h
  refine ⟨xs, ⟨h1.1, ?_⟩, fun v hv => ?_⟩
  · rcases h1.2 with a2 | ⟨g, cap, cur, hv, hb, hh, r⟩
    · exact .inl a2
    · exact .inr ⟨g, cap, cur, hv, hb, by rw [hE.block (blk_lt hh)]; exact hh, r⟩
  · obtain ⟨A', n', c', l, e, hB, hn⟩ := h2 v hv
    exact ⟨A', n', c', l, e, hB.e hE, hn⟩
theorem OwnB.get {w : World} {base : Nat} {A : Option Addr} {n c : Nat} (h : OwnB w base A n c) {i : Nat} (hi : i < n) :
    ∃ g A' n' c' l, A = some ⟨g, 0, none⟩ ∧ g < w.heap.size ∧ w.cell? ⟨g, i, none⟩ = some (.slice A' n' c') ∧ Byt w A' n' c' l ∧ n' ≤ 100000 := by
  obtain ⟨xs, h1, h2⟩ := h
  have hl : i < xs.length := by have := h1.1; omega
  obtain ⟨A', n', c', l, e, hB, hn⟩ := h2 _ (List.getElem_mem hl)
  have h1' := h1
  rcases h1.2 with ⟨_, h0⟩ | ⟨g, cap, cur, hv, hb, hh, r⟩
  · omega
  · injection hv with e1 e2 e3
    subst e1 e3
    refine ⟨g, A', n', c', l, rfl, blk_lt hh, ?_, hB, hn⟩
    rw [World.ownsRow.cellAt h1' i (by omega), List.getElem?_eq_getElem hl, e]
/-- codes = append(codes, a, b) -/
theorem wpList_appB {P : Program} {S : TypeId} (hund : P.underlying S = some (.slice 47)) (hinfo : (P.info? 47).map (fun i => (i.zero, i.size, i.bytes)) = some (some (.slice none 0 0), 1, 24)) (w : World) {ops : Array Oper} {rest : List Oper} {o : Oper} {a : Act} {Q : Exit → Act → World → Prop} (hgd : o.guard = none) (s x : Operand)
    (ho : o.op = .call { callee := .builtin .append, args := #[s, x], argTypes := #[S, S] })
    (base : Nat) (A : Option Addr) (n c : Nat) (hs : a.eval s = .slice A n c) (hown : OwnB w base A n c)
    (A1 A2 : Option Addr) (n1 c1 n2 c2 : Nat) (l1 l2 : List Int) (hx : a.eval x = .slice (some ⟨w.heap.size, 0, none⟩) 2 2) (h1 : Byt w A1 n1 c1 l1) (h2 : Byt w A2 n2 c2 l2) (hn1 : n1 ≤ 100000) (hn2 : n2 ≤ 100000)
    (hlen : n ≤ 1000) (hbase : base ≤ w.heap.size)
    (h : ∀ A' c' w', OwnB w' base A' (n + 2) c' → Below base w w' → wpList P ops Q rest (a.put o.dst (.slice A' (n + 2) c')) w') :
    wpList P ops Q (o :: rest) a (w.alloc (.cells #[.slice A1 n1 c1, .slice A2 n2 c2] 47)) := by
  obtain ⟨i, hi, hz0, hz1, hz2⟩ := info_parts hinfo
  have hE := (E.refl w).alloc (.cells #[.slice A1 n1 c1, .slice A2 n2 c2] 47)
  obtain ⟨xs, hr, hall⟩ := hown.e hE
  obtain ⟨xs0, hr0, _⟩ := hown
  have b1 := h1.e hE
  have b2 := h2.e hE
  refine wpList_plain hgd fun K hK' => ?_
  obtain ⟨v', w', hrun, g2, g3, g4, g5⟩ := run_append_own_at (P := P) (w.alloc (.cells #[.slice A1 n1 c1, .slice A2 n2 c2] 47)) base S o.type 47 i _ 1 24 hund hi hz0 hz1 hz2 rfl (by decide) _ n _ hr ⟨w.heap.size, 0, none⟩ 2 2 [.slice A1 n1 c1, .slice A2 n2 c2] rfl
    (by intro j u hu
        have hc := fun jj => cell_of_row _ w.heap.size jj _ _ _ (heap_alloc_new w (.cells #[.slice A1 n1 c1, .slice A2 n2 c2] 47))
        match j with
        | 0 => simp at hu; subst hu; exact hc 0
        | 1 => simp at hu; subst hu; exact hc 1
        | j + 2 => simp at hu)
    (by intro u hu; simp at hu; rcases hu with rfl | rfl <;> rfl) (by unfold maxLen; omega) (by omega) (by simp; omega)
  unfold Oper.wp execOp
  simp only [ho, resolve, invoke, builtin, Sem.run_bind, Sem.run_pure, Result.andThen_ok, List.map_toArray, List.map_cons, List.map_nil, hs, hx, hrun]
  have hG' := grown_of_alloc g3
  rcases g2.2 with ⟨_, h0⟩ | ⟨g', c', cur, rfl, _⟩
  · omega
  · refine hK' _ _ (h _ c' w' ⟨xs ++ [.slice A1 n1 c1, .slice A2 n2 c2], g2, fun v hv => ?_⟩ ((Below.refl base w).grown hG' hbase (fun k hk => (World.ownsRow.lt hr0 k hk).1)))
    rcases List.mem_append.1 hv with hv | hv
    · obtain ⟨A', n', c'', l, e, hB, hn⟩ := hall v hv
      exact ⟨A', n', c'', l, e, hB.far g3 (ownB_row hr), hn⟩
    · simp at hv
      rcases hv with rfl | rfl
      · exact ⟨A1, n1, c1, l1, rfl, b1.far g3 (ownB_row hr), hn1⟩
      · exact ⟨A2, n2, c2, l2, rfl, b2.far g3 (ownB_row hr), hn2⟩
end Go.Proofs.Ytbpfdogjjoceaaa
