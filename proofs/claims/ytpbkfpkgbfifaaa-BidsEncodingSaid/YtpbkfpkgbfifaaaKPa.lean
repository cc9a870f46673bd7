/- Rows of rows of numbers; more of the closure's state. -/
import Derived.Test.YtpbkfpkgbfifaaaKJb
import Derived.Test.YtpbkfpkgbfifaaaKRg
namespace Go.Proofs.Ytpbkfpkgbfifaaa
open Go.RowKit

def flatG (q : List (List Int × Sl)) : List Value := q.map fun p => Value.slice p.2.1 p.2.2.1 p.2.2.2
/-- a row of the call's own: slices that read as lists of numbers -/
def GRow (w : World) (base : Nat) (A : Option Addr) (n c : Nat) (q : List (List Int × Sl)) : Prop :=
  q.length = n ∧ w.ownsRow base 22 1 (.slice A n c) n (flatG q) ∧ ∀ p ∈ q, Nums .i64 w p.2.1 p.2.2.1 p.2.2.2 p.1 ∧ (0 < p.2.2.1 → ob p.2.1 ≠ ob A)
/-- a slice that reads as a list of lists -/
structure RowsAt (w : World) (A : Option Addr) (n c : Nat) (L : List (List Int)) : Prop where
  len : L.length = n
  cap : n ≤ c
  mx : c ≤ maxLen
  at_ : 0 < n → ∃ b o, A = some ⟨b, o, none⟩ ∧ b < w.heap.size ∧ ∀ i x, L[i]? = some x → ∃ A' n' c', w.cell? ⟨b, o + i, none⟩ = some (.slice A' n' c') ∧ Nums .i64 w A' n' c' x
section
variable {w w' : World} {base base' : Nat} {A : Option Addr} {n c : Nat} {q : List (List Int × Sl)} {L : List (List Int)}
theorem RowsAt.n63 (h : RowsAt w A n c L) : n ≤ 9223372036854775807 := by have := h.cap; have := h.mx; unfold maxLen at this; omega
theorem RowsAt.e (h : RowsAt w A n c L) (hE : E w w') : RowsAt w' A n c L :=
  ⟨h.len, h.cap, h.mx, fun hn => by
    obtain ⟨b, o, e, hb, hc⟩ := h.at_ hn
    refine ⟨b, o, e, Nat.lt_of_lt_of_le hb hE.le, fun i x hx => ?_⟩
    obtain ⟨A', n', c', h1, h2⟩ := hc i x hx
    exact ⟨A', n', c', by rw [hE.cell (p := ⟨b, _, none⟩) hb]; exact h1, h2.e hE⟩⟩
theorem RowsAt.get (h : RowsAt w A n c L) {i : Nat} (hi : i < n) : ∃ b o x A' n' c', A = some ⟨b, o, none⟩ ∧ b < w.heap.size ∧ L[i]? = some x ∧ w.cell? ⟨b, o + i, none⟩ = some (.slice A' n' c') ∧ Nums .i64 w A' n' c' x := by
  obtain ⟨b, o, e, hb, hc⟩ := h.at_ (by omega)
  have hx : L[i]? = some (L[i]'(by rw [h.len]; exact hi)) := List.getElem?_eq_getElem _
  obtain ⟨A', n', c', h1, h2⟩ := hc i _ hx
  exact ⟨b, o, _, A', n', c', e, hb, hx, h1, h2⟩
theorem RowsAt.cast {L' : List (List Int)} (h : RowsAt w A n c L) (e : L = L') : RowsAt w A n c L' := e ▸ h
theorem GRow.nil (w : World) (base : Nat) : GRow w base none 0 0 [] := ⟨rfl, World.ownsRow_nil _ _ _ _, by simp⟩
theorem GRow.rows (h : GRow w base A n c q) : RowsAt w A n c (q.map Prod.fst) := by
  obtain ⟨h1, h2, h3⟩ := h
  have h2' := h2
  rcases h2.2 with ⟨hv, h0⟩ | ⟨g, cap, cur, hv, hb, hh, hn, hm, hsz, htk⟩
  · injection hv with e1 _ e3
    subst e1 e3
    exact ⟨by simp [h1], by omega, by unfold maxLen; omega, fun hn => absurd hn (by omega)⟩
  · injection hv with e1 e2 e3
    subst e1 e3
    refine ⟨by simp [h1], hn, hm, fun _ => ⟨g, 0, rfl, (Array.getElem?_eq_some_iff.1 hh).1, fun i x hx => ?_⟩⟩
    rw [List.getElem?_map] at hx
    cases hp : q[i]? with
    | none => rw [hp] at hx; simp at hx
    | some p =>
      rw [hp] at hx
      simp at hx
      subst hx
      have hil : i < n := by rw [← h1]; exact (List.getElem?_eq_some_iff.1 hp).1
      refine ⟨p.2.1, p.2.2.1, p.2.2.2, ?_, (h3 p (List.mem_of_getElem? hp)).1⟩
      rw [Nat.zero_add, World.ownsRow.cellAt h2' i (by omega)]
      unfold flatG
      rw [List.getElem?_map, hp]; rfl
theorem GRow.ltN (h : GRow w base A n c q) : ∀ b, ob A = some b → base ≤ b ∧ b < w.heap.size := fun b hb => World.ownsRow.lt h.2.1 b (by rw [ob_eq]; exact hb)
theorem GRow.rebase (h : GRow w base A n c q) (hb : base' ≤ base) : GRow w base' A n c q := by
  obtain ⟨h1, h2, h3⟩ := h
  refine ⟨h1, ⟨h2.1, ?_⟩, h3⟩
  rcases h2.2 with a2 | ⟨g, cap, cur, hv, hbb, r⟩
  · exact .inl a2
  · exact .inr ⟨g, cap, cur, hv, by omega, r⟩
theorem GRow.ex {X : Nat → Prop} (h : GRow w base A n c q) (hX : Ex X w w') (h1 : ∀ b, ob A = some b → ¬ X b) (h2 : ∀ p ∈ q, 0 < p.2.2.1 → ∀ b, ob p.2.1 = some b → ¬ X b) : GRow w' base A n c q := by
  obtain ⟨a1, a2, a3⟩ := h
  refine ⟨a1, ⟨a2.1, ?_⟩, fun p hp => ⟨(a3 p hp).1.exP hX (h2 p hp), (a3 p hp).2⟩⟩
  rcases a2.2 with a2 | ⟨g, cap, cur, hv, hb, hh, r⟩
  · exact .inl a2
  · have hA : A = some ⟨g, 0, none⟩ := by injection hv
    exact .inr ⟨g, cap, cur, hv, hb, by rw [hX.block g (lt_blk hh) (h1 g (by rw [hA]; rfl))]; exact hh, r⟩
theorem GRow.e (h : GRow w base A n c q) (hE : E w w') : GRow w' base A n c q := h.ex (X := fun _ => False) (Ex.of_e hE) (fun _ _ x => x) (fun _ _ _ _ _ x => x)
/-- the row's block holds slices -/
theorem GRow.notInt {b : Nat} (h : GRow w base A n c q) (hb : ob A = some b) : ¬ IntB w b := by
  rintro ⟨cs, fr, e⟩
  rcases h.2.1.2 with ⟨hv, _⟩ | ⟨g, cap, cur, hv, _, hh, r⟩
  · injection hv with hA; rw [hA] at hb; cases hb
  · injection hv with hA
    rw [hA] at hb
    have : g = b := by simpa [ob] using hb
    subst this
    rw [hh] at e; injection e with e; injection e with _ e; cases e
end
theorem slT : (Try.prog.info? 22).map (fun i => (i.zero, i.size, i.bytes)) = some (some (.slice none 0 0), 1, 24) := by kernel_rfl
/-- groups = append(groups, group) -/
theorem wpList_appG (w : World) {ops : Array Oper} {rest : List Oper} {o : Oper} {a : Act} {Q : Exit → Act → World → Prop} (hgd : o.guard = none) (s x : Operand)
    (ho : o.op = .call { callee := .builtin .append, args := #[s, x], argTypes := #[41, 41] })
    (base : Nat) (A : Option Addr) (n c : Nat) (q : List (List Int × Sl)) (hs : a.eval s = .slice A n c) (hown : GRow w base A n c q)
    (p : List Int × Sl) (hx : a.eval x = .slice (some ⟨w.heap.size, 0, none⟩) 1 1) (hp : Nums .i64 w p.2.1 p.2.2.1 p.2.2.2 p.1 ∧ (0 < p.2.2.1 → ob p.2.1 ≠ ob A))
    (hlen : n ≤ 1000000) (hbase : base ≤ w.heap.size)
    (h : ∀ g' c' w', GRow w' base (some ⟨g', 0, none⟩) (n + 1) c' (q ++ [p]) → w.grownBy w' (ob A) → Below base w w' → wpList Try.prog ops Q rest (a.put o.dst (.slice (some ⟨g', 0, none⟩) (n + 1) c')) w') :
    wpList Try.prog ops Q (o :: rest) a (w.alloc (.cells #[.slice p.2.1 p.2.2.1 p.2.2.2] 22)) := by
  obtain ⟨i, hi, hz0, hz1, hz2⟩ := info_parts slT
  have hE := (E.refl w).alloc (.cells #[.slice p.2.1 p.2.2.1 p.2.2.2] 22)
  have hown' := hown.e hE
  refine wpList_plain hgd fun K hK' => ?_
  obtain ⟨v', w', hrun, h2, h3, h4, h5⟩ := run_append_own_at (P := Try.prog) (w.alloc (.cells #[.slice p.2.1 p.2.2.1 p.2.2.2] 22)) base 41 o.type 22 i _ 1 24 Try.underlying41 hi hz0 hz1 hz2 rfl (by decide) _ n _ hown'.2.1 ⟨w.heap.size, 0, none⟩ 1 1 [.slice p.2.1 p.2.2.1 p.2.2.2] rfl
    (by intro j u hu
        have hc := fun jj => cell_of_row _ w.heap.size jj _ _ _ (heap_alloc_new w (.cells #[.slice p.2.1 p.2.2.1 p.2.2.2] 22))
        match j with
        | 0 => simp at hu; subst hu; exact hc 0
        | j + 1 => simp at hu)
    (by intro u hu; simp at hu; subst hu; rfl) (by unfold maxLen; omega) (by omega) (by simp; omega)
  unfold Oper.wp execOp
  simp only [ho, resolve, invoke, builtin, Sem.run_bind, Sem.run_pure, Result.andThen_ok, List.map_toArray, List.map_cons, List.map_nil, hs, hx, hrun]
  have hfl : flatG q ++ [.slice p.2.1 p.2.2.1 p.2.2.2] = flatG (q ++ [p]) := by unfold flatG; rw [List.map_append]; rfl
  rw [hfl] at h2
  have hG' := grown_of_alloc h3
  rw [ob_eq] at h3 hG'
  have hor : ob A = v'.ownBlock ∨ v'.ownBlock = some (w.heap.size + 1) := by
    rcases h5 with h5 | h5
    · left; rw [h5, ob_eq]
    · right; rw [h5]; simp
  rcases h2.2 with ⟨_, h0⟩ | ⟨g', c', cur, rfl, _⟩
  · omega
  · have hor' : ob A = some g' ∨ w.heap.size ≤ g' := by
      rcases hor with h | h
      · exact .inl h
      · right; simp [Value.ownBlock] at h; omega
    have key : ∀ r : List Int × Sl, Nums .i64 w r.2.1 r.2.2.1 r.2.2.2 r.1 → (0 < r.2.2.1 → ob r.2.1 ≠ ob A) → Nums .i64 w' r.2.1 r.2.2.1 r.2.2.2 r.1 ∧ (0 < r.2.2.1 → ob r.2.1 ≠ ob (some (⟨g', 0, none⟩ : Addr))) := fun r hr hne => by
      refine ⟨(hr.e hE).grown h3 hne, fun h0 e => ?_⟩
      obtain ⟨b, o', e1, hb, _⟩ := hr.at_ h0
      have hne' := hne h0
      rw [e1] at e hne'
      have : b = g' := by simpa [ob] using e
      subst this
      rcases hor' with h | h
      · exact hne' (by rw [h]; rfl)
      · omega
    refine hK' _ _ (h g' c' w' ⟨by simp [hown.1], h2, fun r hr => ?_⟩ hG' ((Below.refl base w).grown hG' hbase (fun k hk => (hown.ltN k hk).1)))
    rcases List.mem_append.1 hr with hr | hr
    · obtain ⟨a3, a4⟩ := hown.2.2 r hr
      exact key r a3 a4
    · rw [List.mem_singleton] at hr
      subst hr
      exact key r hp.1 hp.2
section
variable {w W0 W W' : World} {b0 Bs Bg Bb Bl Bt Bj gs : Nat} {mb nb : Bool → Nat} {r : Key → Option Value} {A : Option Addr} {n c : Nat} {l : List Bd} {Ag : Option Addr} {cg : Nat} {s : JS}
/-- group = nil -/
theorem JT.reset (h : JT W0 b0 Bg gs mb nb r n W Ag cg s) : JT W0 b0 Bg gs mb nb r n (W.setCell ⟨Bg, 0, none⟩ (.slice none 0 0)) none 0 ⟨s.S, [], s.D⟩ ∧ Ex (XJ Bg gs mb) W (W.setCell ⟨Bg, 0, none⟩ (.slice none 0 0)) := by
  obtain ⟨n1, n2, n3⟩ := h.gs_ne
  have hX : Ex (fun j => j = Bg) W (W.setCell ⟨Bg, 0, none⟩ (.slice none 0 0)) := (Ex.refl (fun j => j = Bg) W).setCell ⟨Bg, 0, none⟩ (.inr rfl) _
  refine ⟨⟨h.ex.trans hX (fun _ _ x => x) (fun _ _ x => .inl x), ?_, Own.nil _ _ _ _, (hX.block _ (lt_blk h.sn) n1).trans h.sn, fun t => (h.mp t).block (hX.block _ (h.mp t).lt (fun e => n3 t e.symm))⟩, hX.mono (fun _ _ x => .inl x)⟩
  rw [heap_setCell_same _ _ _ _ _ _ h.bg]; rfl
theorem sortG_len {n : Nat} {G : List Nat} (hn : G.Nodup) (hlt : ∀ x ∈ G, x < n) : (sortG n G).length = G.length := by
  unfold sortG
  exact (List.Perm.length_eq ((List.perm_ext_iff_of_nodup hn (List.Pairwise.filter (fun x => G.contains x) (List.nodup_range (n := n)))).2 (fun x => by
    rw [List.mem_filter, List.mem_range]
    simp only [List.contains_eq_mem, decide_eq_true_eq]
    exact ⟨fun h => ⟨hlt x h, h⟩, fun h => h.2⟩))).symm
/-- slices.Sort(group) -/
theorem JT.sorted (h : JT W0 b0 Bg gs mb nb r n W Ag cg s) (hX0 : ∀ i, XJ Bg gs mb i → i < b0) (hb0 : W0.heap.size = b0) (hn : s.G.Nodup) (hlt : ∀ x ∈ s.G, x < n) (hO : Own .i64 3 W' b0 Ag s.G.length cg ((ints s.G).mergeSort fun x y => decide (x ≤ y))) (hG : W.grownBy W' (ob Ag)) :
    JT W0 b0 Bg gs mb nb r n W' Ag cg ⟨s.S, sortG n s.G, s.D⟩ ∧ Ex (fun j => ob Ag = some j) W W' := by
  have hX : Ex (fun j => ob Ag = some j) W W' := ⟨hG.os, hG.tape, hG.output, hG.size, fun j hj hx => hG.block j hj (fun e => hx e.symm)⟩
  have hnA : ∀ i, XJ Bg gs mb i → ob Ag ≠ some i := fun i hi e => by have := (h.go.ltN _ e).1; have := hX0 i hi; omega
  have hl := sortG_len hn hlt
  refine ⟨⟨h.ex.trans hX (fun _ _ x => x) (fun j hj x => ?_), ?_, ?_, (hX.block _ (lt_blk h.sn) (hnA _ (.inr (.inl rfl)))).trans h.sn, fun t => (h.mp t).block (hX.block _ (h.mp t).lt (hnA _ (by cases t; exact .inr (.inr (.inl rfl)); exact .inr (.inr (.inr rfl)))))⟩, hX⟩
  · have := (h.go.ltN _ x).1; omega
  · show W'.heap[Bg]? = some (.cells #[.slice Ag (sortG n s.G).length cg] _ _)
    rw [hl]
    exact (hX.block _ (lt_blk h.bg) (hnA _ (.inl rfl))).trans h.bg
  · show Own _ _ _ _ _ (sortG n s.G).length _ (ints (sortG n s.G))
    rw [hl, ← sort_filter hn hlt]; exact hO
end
theorem RngB.blk {w : World} {b r n cnt : Nat} {f left : Int → Bool} (h : RngB w b r n f left cnt) : (∃ es ck, w.heap[b]? = some (.map es ck)) ∧ ∃ s1 s2 s3, w.heap[r]? = some (.mapIter (some b) s1 s2 s3) := by
  obtain ⟨D, lf, ⟨es, clock, since, seen, c0, a1, a2, a3, a4, a5, a6⟩, h2⟩ := h
  exact ⟨⟨_, _, a1⟩, _, _, _, a5⟩
theorem rowK_succ (l : List Bd) (k : Nat) (key : Key) : rowK l (k + 1) key = if hasK l k key = true then rowK l k key ++ [k] else rowK l k key := by
  unfold rowK
  rw [List.range_succ, List.filter_append]
  by_cases h : hasK l k key = true
  · rw [if_pos h, List.filter_cons_of_pos (p := fun i => hasK l i key) h]; rfl
  · rw [if_neg h, List.filter_cons_of_neg (p := fun i => hasK l i key) h]; simp
/-- the rows while the lots of bid k are entered -/
def Fin (l : List Bd) (k : Nat) (left : Int → Bool) (key : Key) : List Nat := if key.1 then (if hasK l k key && !left key.2 then rowK l k key ++ [k] else rowK l k key) else rowK l (k + 1) key
theorem Fin_start (l : List Bd) (k : Nat) {xb : Int} {xp : Int} {xl : List Int} (h : l.getD k bd0 = (xb, xp, xl)) : updK (rowK l k) (false, xb) (rowK l k (false, xb) ++ [k]) = Fin l k (fun t => xl.contains t) := by
  funext key
  obtain ⟨t, z⟩ := key
  unfold updK Fin
  cases t
  · simp only [Bool.false_eq_true, if_false, Prod.mk.injEq, true_and]
    rw [rowK_succ]
    have : (hasK l k (false, z) = true) ↔ z = xb := by unfold hasK; rw [h]; simp; exact eq_comm
    by_cases e : z = xb
    · rw [if_pos e, if_pos (this.2 e), e]
    · rw [if_neg e, if_neg (fun e' => e (this.1 e'))]
  · have : (hasK l k (true, z) && !xl.contains z) = false := by unfold hasK; rw [h]; simp
    rw [if_neg (by simp), if_pos rfl, this]; rfl
theorem Fin_step (l : List Bd) (k : Nat) {left : Int → Bool} {x : Int} (hl : left x = true) (hk : hasK l k (true, x) = true) : updK (Fin l k left) (true, x) (Fin l k left (true, x) ++ [k]) = Fin l k (fun y => left y && y != x) := by
  funext key
  obtain ⟨t, z⟩ := key
  unfold updK Fin
  cases t
  · simp
  · by_cases e : z = x
    · subst e; simp [hl, hk]
    · simp [e]
theorem Fin_end (l : List Bd) (k : Nat) {left : Int → Bool} (hl : ∀ x, left x = false) : Fin l k left = rowK l (k + 1) := by
  funext key
  obtain ⟨t, z⟩ := key
  unfold Fin
  cases t
  · simp
  · rw [rowK_succ, if_pos rfl, hl]; simp
theorem Fin_at (l : List Bd) (k : Nat) {left : Int → Bool} {x : Int} (hl : left x = true) : Fin l k left (true, x) = rowK l k (true, x) := by
  unfold Fin; simp [hl]
theorem rowK_len (l : List Bd) (k : Nat) (key : Key) : (rowK l k key).length ≤ k := by
  unfold rowK
  have := List.length_filter_le (fun i => hasK l i key) (List.range k)
  rw [List.length_range] at this
  exact this
end Go.Proofs.Ytpbkfpkgbfifaaa
