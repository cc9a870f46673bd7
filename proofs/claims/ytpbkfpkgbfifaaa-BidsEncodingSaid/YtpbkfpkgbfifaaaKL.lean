/- Rows of bids of the call's own. -/
import Derived.Test.YtpbkfpkgbfifaaaKK
namespace Go.Proofs.Ytpbkfpkgbfifaaa
open Go.RowKit

abbrev Sl := Option Addr × Nat × Nat
def flat3 : List (Bd × Sl) → List Value
  | [] => []
  | (x, s) :: r => .int .i64 x.1 :: .int .i64 x.2.1 :: .slice s.1 s.2.1 s.2.2 :: flat3 r
theorem flat3_len (q : List (Bd × Sl)) : (flat3 q).length = q.length * 3 := by
  induction q with
  | nil => rfl
  | cons p q ih => obtain ⟨x, s⟩ := p; simp only [flat3, List.length_cons, ih]; omega
theorem flat3_app (q : List (Bd × Sl)) (r : List (Bd × Sl)) : flat3 (q ++ r) = flat3 q ++ flat3 r := by
  induction q with
  | nil => rfl
  | cons p q ih => obtain ⟨x, s⟩ := p; simp only [List.cons_append, flat3, ih]
theorem flat3_get : ∀ (q : List (Bd × Sl)) (i : Nat) (p : Bd × Sl), q[i]? = some p → (flat3 q)[i * 3]? = some (.int .i64 p.1.1) ∧ (flat3 q)[i * 3 + 1]? = some (.int .i64 p.1.2.1) ∧ (flat3 q)[i * 3 + 2]? = some (.slice p.2.1 p.2.2.1 p.2.2.2)
  | [], i, p, h => by simp at h
  | (x, s) :: q, 0, p, h => by simp at h; subst h; simp [flat3]
  | (x, s) :: q, i + 1, p, h => by
    simp only [List.getElem?_cons_succ] at h
    have := flat3_get q i p h
    simp only [flat3, show (i + 1) * 3 = i * 3 + 2 + 1 by omega]
    refine ⟨?_, ?_, ?_⟩
    · simpa using this.1
    · simpa using this.2.1
    · simpa using this.2.2
theorem Nums.grown {k : IntKind} {w w' : World} {A : Option Addr} {n c : Nat} {l : List Int} {row : Option Nat} (h : Nums k w A n c l) (hg : w.grownBy w' row) (hr : 0 < n → ob A ≠ row) : Nums k w' A n c l :=
  ⟨h.len, h.cap, h.mx, h.wf, fun hn => by
    obtain ⟨b, o, e, hb, hc⟩ := h.at_ hn
    have hne : some b ≠ row := fun e' => hr hn (by rw [e, ← e']; rfl)
    exact ⟨b, o, e, Nat.lt_of_lt_of_le hb hg.size, fun i hi => by rw [← hc i hi]; exact World.cell?_of_block (hg.block b hb hne)⟩⟩
/-- a row of the call's own: the bids, each with its slice of lots -/
def BRow (T : TypeId) (w : World) (base : Nat) (A : Option Addr) (n c : Nat) (q : List (Bd × Sl)) : Prop :=
  q.length = n ∧ w.ownsRow base T 3 (.slice A n c) n (flat3 q) ∧ ∀ p ∈ q, (Lit.int .i64 p.1.1).wf = true ∧ (Lit.int .i64 p.1.2.1).wf = true ∧ Nums .i64 w p.2.1 p.2.2.1 p.2.2.2 p.1.2.2 ∧ (0 < p.2.2.1 → ob p.2.1 ≠ ob A)
theorem BRow.nil (T : TypeId) (w : World) (base : Nat) : BRow T w base none 0 0 [] := ⟨rfl, World.ownsRow_nil _ _ _ _, by simp⟩
theorem BRow.bids {T : TypeId} {w : World} {base : Nat} {A : Option Addr} {n c : Nat} {q : List (Bd × Sl)} (h : BRow T w base A n c q) : BidsAt w A n c (q.map Prod.fst) := by
  obtain ⟨h1, h2, h3⟩ := h
  have h2' := h2
  rcases h2.2 with ⟨hv, h0⟩ | ⟨g, cap, cur, hv, hb, hh, hn, hm, hsz, htk⟩
  · injection hv with e1 _ e3
    subst e1 e3
    exact ⟨by simp [h1], by omega, by unfold maxLen; omega, fun hn => absurd hn (by omega)⟩
  · injection hv with e1 e2 e3
    subst e1 e3
    refine ⟨by simp [h1], hn, hm, fun _ => ⟨g, 0, rfl, (Array.getElem?_eq_some_iff.1 hh).1, fun i x hx => ?_⟩⟩
    rw [List.getElem?_map] at hx
    cases hp : q[i]? with
    | none => rw [hp] at hx; simp at hx
    | some p =>
      rw [hp] at hx
      simp at hx
      subst hx
      have hil : i < n := by rw [← h1]; exact (List.getElem?_eq_some_iff.1 hp).1
      obtain ⟨f1, f2, f3⟩ := flat3_get q i p hp
      obtain ⟨g1, g2, g3, _⟩ := h3 p (List.mem_of_getElem? hp)
      refine ⟨g1, g2, ?_, ?_, p.2.1, p.2.2.1, p.2.2.2, ?_, g3⟩
      · rw [Nat.zero_add, World.ownsRow.cellAt h2' (i * 3) (by omega), f1]
      · rw [Nat.zero_add, World.ownsRow.cellAt h2' (i * 3 + 1) (by omega), f2]
      · rw [Nat.zero_add, World.ownsRow.cellAt h2' (i * 3 + 2) (by omega), f3]
theorem BRow.e {T : TypeId} {w w' : World} {base : Nat} {A : Option Addr} {n c : Nat} {q : List (Bd × Sl)} (h : BRow T w base A n c q) (hE : E w w') : BRow T w' base A n c q := by
  obtain ⟨h1, h2, h3⟩ := h
  refine ⟨h1, ⟨h2.1, ?_⟩, fun p hp => ?_⟩
  · rcases h2.2 with a2 | ⟨g, cap, cur, hv, hb, hh, r⟩
    · exact .inl a2
    · exact .inr ⟨g, cap, cur, hv, hb, by rw [hE.block (lt_blk hh)]; exact hh, r⟩
  · obtain ⟨a, b, c, d⟩ := h3 p hp
    exact ⟨a, b, c.e hE, d⟩
theorem BRow.ltN {T : TypeId} {w : World} {base : Nat} {A : Option Addr} {n c : Nat} {q : List (Bd × Sl)} (h : BRow T w base A n c q) : ∀ b, ob A = some b → base ≤ b ∧ b < w.heap.size := fun b hb => World.ownsRow.lt h.2.1 b (by rw [ob_eq]; exact hb)
theorem BRow.rebase {T : TypeId} {w : World} {base base' : Nat} {A : Option Addr} {n c : Nat} {q : List (Bd × Sl)} (h : BRow T w base A n c q) (hb : base' ≤ base) : BRow T w base' A n c q := by
  obtain ⟨h1, h2, h3⟩ := h
  refine ⟨h1, ⟨h2.1, ?_⟩, h3⟩
  rcases h2.2 with a2 | ⟨g, cap, cur, hv, hbb, r⟩
  · exact .inl a2
  · exact .inr ⟨g, cap, cur, hv, by omega, r⟩
structure BidT (P : Program) (S T : TypeId) : Prop where
  und : P.underlying S = some (.slice T)
  info : (P.info? T).map (fun i => (i.zero, i.size, i.bytes)) = some (some (.agg #[.int .i64 0, .int .i64 0, .slice none 0 0]), 3, 40)
theorem bidT : BidT Try.prog 31 50 := ⟨Try.underlying31, by kernel_rfl⟩
theorem bidTr : BidT Try.prog 24 53 := ⟨Try.underlying24, by kernel_rfl⟩
theorem wpList_appBd {P : Program} {S T : TypeId} (it : BidT P S T) (w : World) {ops : Array Oper} {rest : List Oper} {o : Oper} {a : Act} {Q : Exit → Act → World → Prop} (hgd : o.guard = none) (s x : Operand)
    (ho : o.op = .call { callee := .builtin .append, args := #[s, x], argTypes := #[S, S] })
    (base : Nat) (A : Option Addr) (n c : Nat) (q : List (Bd × Sl)) (hs : a.eval s = .slice A n c) (hown : BRow T w base A n c q)
    (p : Bd × Sl) (hx : a.eval x = .slice (some ⟨w.heap.size, 0, none⟩) 1 1) (hp : (Lit.int .i64 p.1.1).wf = true ∧ (Lit.int .i64 p.1.2.1).wf = true ∧ Nums .i64 w p.2.1 p.2.2.1 p.2.2.2 p.1.2.2 ∧ (0 < p.2.2.1 → ob p.2.1 ≠ ob A))
    (hlen : n ≤ 1000000) (hbase : base ≤ w.heap.size)
    (h : ∀ g' c' w', BRow T w' base (some ⟨g', 0, none⟩) (n + 1) c' (q ++ [p]) → w.grownBy w' (ob A) → Below base w w' → (ob A = some g' ∨ w.heap.size ≤ g') → wpList P ops Q rest (a.put o.dst (.slice (some ⟨g', 0, none⟩) (n + 1) c')) w') :
    wpList P ops Q (o :: rest) a (w.alloc (.cells #[.int .i64 p.1.1, .int .i64 p.1.2.1, .slice p.2.1 p.2.2.1 p.2.2.2] T)) := by
  obtain ⟨i, hi, hz0, hz1, hz2⟩ := info_parts it.info
  have hE := (E.refl w).alloc (.cells #[.int .i64 p.1.1, .int .i64 p.1.2.1, .slice p.2.1 p.2.2.1 p.2.2.2] T)
  have hown' := hown.e hE
  refine wpList_plain hgd fun K hK' => ?_
  obtain ⟨v', w', hrun, h2, h3, h4, h5⟩ := run_append_own_at (P := P) (w.alloc (.cells #[.int .i64 p.1.1, .int .i64 p.1.2.1, .slice p.2.1 p.2.2.1 p.2.2.2] T)) base S o.type T i _ 3 40 it.und hi hz0 hz1 hz2 rfl (by decide) _ n _ hown'.2.1 ⟨w.heap.size, 0, none⟩ 1 1 [.int .i64 p.1.1, .int .i64 p.1.2.1, .slice p.2.1 p.2.2.1 p.2.2.2] rfl
    (by intro j u hu
        have hc := fun jj => cell_of_row _ w.heap.size jj _ _ _ (heap_alloc_new w (.cells #[.int .i64 p.1.1, .int .i64 p.1.2.1, .slice p.2.1 p.2.2.1 p.2.2.2] T))
        match j with
        | 0 => simp at hu; subst hu; exact hc 0
        | 1 => simp at hu; subst hu; exact hc 1
        | 2 => simp at hu; subst hu; exact hc 2
        | j + 3 => simp at hu)
    (by intro u hu; simp at hu; rcases hu with rfl | rfl | rfl <;> rfl) (by unfold maxLen; omega) (by omega) (by simp; omega)
  unfold Oper.wp execOp
  simp only [ho, resolve, invoke, builtin, Sem.run_bind, Sem.run_pure, Result.andThen_ok, List.map_toArray, List.map_cons, List.map_nil, hs, hx, hrun]
  have hfl : flat3 q ++ [.int .i64 p.1.1, .int .i64 p.1.2.1, .slice p.2.1 p.2.2.1 p.2.2.2] = flat3 (q ++ [p]) := by rw [flat3_app]; rfl
  rw [hfl] at h2
  have hG' := grown_of_alloc h3
  rw [ob_eq] at h3 hG'
  have hor : ob A = v'.ownBlock ∨ v'.ownBlock = some (w.heap.size + 1) := by
    rcases h5 with h5 | h5
    · left; rw [h5, ob_eq]
    · right; rw [h5]; simp
  rcases h2.2 with ⟨_, h0⟩ | ⟨g', c', cur, rfl, _⟩
  · omega
  · have hor' : ob A = some g' ∨ w.heap.size ≤ g' := by
      rcases hor with h | h
      · exact .inl h
      · right; simp [Value.ownBlock] at h; omega
    have key : ∀ r : Bd × Sl, Nums .i64 w r.2.1 r.2.2.1 r.2.2.2 r.1.2.2 → (0 < r.2.2.1 → ob r.2.1 ≠ ob A) → Nums .i64 w' r.2.1 r.2.2.1 r.2.2.2 r.1.2.2 ∧ (0 < r.2.2.1 → ob r.2.1 ≠ ob (some (⟨g', 0, none⟩ : Addr))) := fun r hr hne => by
      refine ⟨(hr.e hE).grown h3 hne, fun h0 e => ?_⟩
      obtain ⟨b, o', e1, hb, _⟩ := hr.at_ h0
      have hne' := hne h0
      rw [e1] at e hne'
      have : b = g' := by simpa [ob] using e
      subst this
      rcases hor' with h | h
      · exact hne' (by rw [h]; rfl)
      · omega
    refine hK' _ _ (h g' c' w' ⟨by simp [hown.1], h2, fun r hr => ?_⟩ hG' ((Below.refl base w).grown hG' hbase (fun k hk => (hown.ltN k hk).1)) hor')
    rcases List.mem_append.1 hr with hr | hr
    · obtain ⟨a1, a2, a3, a4⟩ := hown.2.2 r hr
      exact ⟨a1, a2, key r a3 a4⟩
    · rw [List.mem_singleton] at hr
      subst hr
      exact ⟨hp.1, hp.2.1, key r hp.2.2.1 hp.2.2.2⟩
end Go.Proofs.Ytpbkfpkgbfifaaa
