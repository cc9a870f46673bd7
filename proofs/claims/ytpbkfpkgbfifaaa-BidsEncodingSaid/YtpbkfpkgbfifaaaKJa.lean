/- The state of the closure join, and how its parts turn. -/
import Derived.Test.YtpbkfpkgbfifaaaKRd
import Derived.Test.YtpbkfpkgbfifaaaKSt
import Derived.Test.YtpbkfpkgbfifaaaKE
namespace Go.Proofs.Ytpbkfpkgbfifaaa
open Go.RowKit

def boolsL (n : Nat) (S : List Nat) : List Value := (List.range n).map fun x => Value.bool (S.contains x)
theorem boolsL_len (n : Nat) (S : List Nat) : (boolsL n S).length = n := by simp [boolsL]
theorem boolsL_get {n i : Nat} (S : List Nat) (h : i < n) : (boolsL n S)[i]? = some (.bool (S.contains i)) := by simp [boolsL, h]
theorem boolsL_set {n i : Nat} (S : List Nat) : (boolsL n S).set i (.bool true) = boolsL n (i :: S) := by
  apply List.ext_getElem?
  intro j
  rw [List.getElem?_set]
  simp only [boolsL_len]
  by_cases hj : j < n
  · rw [boolsL_get _ hj]
    by_cases e : i = j
    · subst e; simp [hj, boolsL]
    · rw [if_neg e, boolsL_get _ hj]
      have : (i :: S).contains j = S.contains j := by rw [Bool.eq_iff_iff]; simp; exact fun e' => absurd e'.symm e
      rw [this]
  · rw [List.getElem?_eq_none (l := boolsL n (i :: S)) (by rw [boolsL_len]; omega)]
    split
    · simp; omega
    · exact List.getElem?_eq_none (by rw [boolsL_len]; omega)
def XJ (Bg gs : Nat) (mb : Bool → Nat) (i : Nat) : Prop := i = Bg ∨ i = gs ∨ i = mb false ∨ i = mb true
def onA (_ : Bool) : Bool := true
/-- what does not turn while groups are found -/
structure JX (w W0 : World) (b0 Bs Bg Bb Bl Bt Bj gs : Nat) (mb nb : Bool → Nat) (r : Key → Option Value) (A : Option Addr) (n c : Nat) (l : List Bd) : Prop where
  sz : W0.heap.size = b0
  ew : E w W0
  bids : BidsAt w A n c l
  wx : ∀ i, XJ Bg gs mb i → w.heap.size ≤ i ∧ i < b0 ∧ ¬ IntB W0 i
  nx : ∀ i, (i = Bl ∨ i = Bb ∨ i = Bt ∨ i = Bs ∨ i = Bj) → ¬ XJ Bg gs mb i
  mne : mb false ≠ mb true
  rows : ∀ k, ∃ A n' c, (r k).getD nilS = .slice A n' c ∧ Own .i64 3 W0 w.heap.size A n' c (ints (rowK l n k))
  s_ : W0.heap[Bs]? = some (.cells #[.slice (some ⟨gs, 0, none⟩) n n] 84 (0, 0))
  b_ : W0.heap[Bb]? = some (.cells #[.map (some (mb false))] 77 (0, 0))
  t_ : W0.heap[Bt]? = some (.cells #[.map (some (mb true))] 77 (0, 0))
  l_ : W0.heap[Bl]? = some (.cells #[.slice A n c] 31 (0, 0))
  j_ : W0.heap[Bj]? = some (.cells #[.func (.func 57) #[] #[ptr Bs, ptr Bg, ptr Bb, ptr Bl, ptr Bt, ptr Bj]] 85 (0, 0))
structure JT (W0 : World) (b0 Bg gs : Nat) (mb nb : Bool → Nat) (r : Key → Option Value) (n : Nat) (W : World) (Ag : Option Addr) (cg : Nat) (s : JS) : Prop where
  ex : Ex (XJ Bg gs mb) W0 W
  bg : W.heap[Bg]? = some (.cells #[.slice Ag s.G.length cg] 22 (0, 0))
  go : Own .i64 3 W b0 Ag s.G.length cg (ints s.G)
  sn : W.heap[gs]? = some (.cells (boolsL n s.S).toArray 4 (0, 0))
  mp : ∀ t, MapV W (mb t) (nb t) (fun y => if s.D.contains (t, y) then none else r (t, y))
section
variable {w W0 W W' : World} {b0 Bs Bg Bb Bl Bt Bj gs : Nat} {mb nb : Bool → Nat} {r : Key → Option Value} {A : Option Addr} {n c : Nat} {l : List Bd} {Ag : Option Addr} {cg : Nat} {s : JS}
theorem JX.eW (jx : JX w W0 b0 Bs Bg Bb Bl Bt Bj gs mb nb r A n c l) (h : JT W0 b0 Bg gs mb nb r n W Ag cg s) : E w W := jx.ew.exUp h.ex (fun i x => (jx.wx i x).1)
theorem JX.at_ (jx : JX w W0 b0 Bs Bg Bb Bl Bt Bj gs mb nb r A n c l) (h : JT W0 b0 Bg gs mb nb r n W Ag cg s) {i : Nat} (hi : i = Bl ∨ i = Bb ∨ i = Bt ∨ i = Bs ∨ i = Bj) {o : Obj} (ho : W0.heap[i]? = some o) : W.heap[i]? = some o := (h.ex.block i (lt_blk ho) (jx.nx i hi)).trans ho
theorem JX.cells (jx : JX w W0 b0 Bs Bg Bb Bl Bt Bj gs mb nb r A n c l) (h : JT W0 b0 Bg gs mb nb r n W Ag cg s) :
    W.cell? ⟨Bs, 0, none⟩ = some (.slice (some ⟨gs, 0, none⟩) n n) ∧ W.cell? ⟨Bb, 0, none⟩ = some (.map (some (mb false))) ∧ W.cell? ⟨Bt, 0, none⟩ = some (.map (some (mb true))) ∧ W.cell? ⟨Bl, 0, none⟩ = some (.slice A n c) ∧
    W.cell? ⟨Bj, 0, none⟩ = some (.func (.func 57) #[] #[ptr Bs, ptr Bg, ptr Bb, ptr Bl, ptr Bt, ptr Bj]) ∧ W.cell? ⟨Bg, 0, none⟩ = some (.slice Ag s.G.length cg) ∧ W.frozen? ⟨Bg, 0, none⟩ = false :=
  ⟨cell_of_one (jx.at_ h (by simp) jx.s_), cell_of_one (jx.at_ h (by simp) jx.b_), cell_of_one (jx.at_ h (by simp) jx.t_), cell_of_one (jx.at_ h (by simp) jx.l_), cell_of_one (jx.at_ h (by simp) jx.j_), cell_of_one h.bg, frozen_of_row _ _ _ _ _ h.bg⟩
theorem JT.seen (h : JT W0 b0 Bg gs mb nb r n W Ag cg s) {i : Nat} (hi : i < n) : W.cell? ⟨gs, i, none⟩ = some (.bool (s.S.contains i)) ∧ W.frozen? ⟨gs, i, none⟩ = false := by
  refine ⟨?_, frozen_of_row _ _ _ _ _ h.sn⟩
  rw [cell_of_row _ _ i _ _ _ h.sn]
  simp only [List.getElem?_toArray]
  exact boolsL_get _ hi
theorem JT.lts (h : JT W0 b0 Bg gs mb nb r n W Ag cg s) : ∀ i, XJ Bg gs mb i → i < W.heap.size := by
  rintro i (e | e | e | e)
  · subst e; exact lt_blk h.bg
  · subst e; exact lt_blk h.sn
  · subst e; exact (h.mp _).lt
  · subst e; exact (h.mp _).lt
theorem JT.notInt (h : JT W0 b0 Bg gs mb nb r n W Ag cg s) : ∀ i, XJ Bg gs mb i → ¬ IntB W i := by
  rintro i (e | e | e | e) hI
  · subst e; obtain ⟨cs, fr, e⟩ := hI; rw [h.bg] at e; injection e with e; injection e with _ e; cases e
  · subst e; obtain ⟨cs, fr, e⟩ := hI; rw [h.sn] at e; injection e with e; injection e with _ e; cases e
  · subst e; exact (h.mp _).notInt hI
  · subst e; exact (h.mp _).notInt hI
theorem JT.gs_ne (h : JT W0 b0 Bg gs mb nb r n W Ag cg s) : gs ≠ Bg ∧ (∀ t, gs ≠ mb t) ∧ ∀ t, Bg ≠ mb t := by
  refine ⟨fun e => ?_, fun t e => ?_, fun t e => ?_⟩
  · have := h.sn; rw [e, h.bg] at this; injection this with this; injection this with _ e; cases e
  · obtain ⟨es, ck, e'⟩ := (h.mp t).obj; rw [← e, h.sn] at e'; cases e'
  · obtain ⟨es, ck, e'⟩ := (h.mp t).obj; rw [← e, h.bg] at e'; cases e'
/-- what turns no block of the state leaves it -/
theorem JT.step {Y : Nat → Prop} (h : JT W0 b0 Bg gs mb nb r n W Ag cg s) (hY : Ex Y W W') (h1 : ∀ i, XJ Bg gs mb i → ¬ Y i) (h2 : ∀ i, Y i → W0.heap.size ≤ i) (h3 : ∀ b, ob Ag = some b → ¬ Y b) : JT W0 b0 Bg gs mb nb r n W' Ag cg s :=
  ⟨h.ex.trans hY (fun _ _ x => x) (fun i hi y => absurd (h2 i y) (by omega)), (hY.block _ (h.lts _ (.inl rfl)) (h1 _ (.inl rfl))).trans h.bg, h.go.ex hY h3, (hY.block _ (h.lts _ (.inr (.inl rfl))) (h1 _ (.inr (.inl rfl)))).trans h.sn,
    fun t => (h.mp t).block (hY.block _ (h.mp t).lt (h1 _ (by cases t; exact .inr (.inr (.inl rfl)); exact .inr (.inr (.inr rfl)))))⟩
theorem JT.e (h : JT W0 b0 Bg gs mb nb r n W Ag cg s) (hE : E W W') : JT W0 b0 Bg gs mb nb r n W' Ag cg s := h.step (Y := fun _ => False) (Ex.of_e hE) (fun _ _ x => x) (fun _ x => x.elim) (fun _ _ x => x)
/-- seen[i] = true -/
theorem JT.mark (h : JT W0 b0 Bg gs mb nb r n W Ag cg s) (i : Nat) (hgs : gs < b0) : JT W0 b0 Bg gs mb nb r n (W.setCell ⟨gs, i, none⟩ (.bool true)) Ag cg ⟨i :: s.S, s.G, s.D⟩ := by
  obtain ⟨n1, n2, n3⟩ := h.gs_ne
  have hX : Ex (fun j => j = gs) W (W.setCell ⟨gs, i, none⟩ (.bool true)) := (Ex.refl (fun j => j = gs) W).setCell ⟨gs, i, none⟩ (.inr rfl) _
  refine ⟨h.ex.trans hX (fun _ _ x => x) (fun _ _ x => .inr (.inl x)), (hX.block _ (lt_blk h.bg) (fun e => n1 e.symm)).trans h.bg, h.go.ex hX (fun b hb e => ?_), ?_, fun t => (h.mp t).block (hX.block _ (h.mp t).lt (fun e => n2 t e.symm))⟩
  · have := (h.go.ltN b hb).1; omega
  · rw [heap_setCell_same _ _ _ _ _ _ h.sn]
    have := boolsL_set (n := n) (i := i) s.S
    simp only [List.setIfInBounds_toArray]
    rw [this]
/-- group = append(group, i) -/
theorem JT.push (h : JT W0 b0 Bg gs mb nb r n W Ag cg s) (hX0 : ∀ i, XJ Bg gs mb i → i < b0) (hb0 : W0.heap.size = b0) {w4 : World} {g' c2 i : Nat} (hO : Own .i64 3 w4 b0 (some ⟨g', 0, none⟩) (s.G.length + 1) c2 (ints s.G ++ [(i : Int)]))
    (hG : W.grownBy w4 (Value.slice Ag s.G.length cg).ownBlock) (hor : (Value.slice Ag s.G.length cg).ownBlock = some g' ∨ W.heap.size ≤ g') :
    JT W0 b0 Bg gs mb nb r n (w4.setCell ⟨Bg, 0, none⟩ (.slice (some ⟨g', 0, none⟩) (s.G.length + 1) c2)) (some ⟨g', 0, none⟩) c2 ⟨s.S, s.G ++ [i], s.D⟩ ∧
    Ex (fun j => XJ Bg gs mb j ∨ ob Ag = some j) W (w4.setCell ⟨Bg, 0, none⟩ (.slice (some ⟨g', 0, none⟩) (s.G.length + 1) c2)) ∧ newer W Ag (some ⟨g', 0, none⟩) := by
  obtain ⟨n1, n2, n3⟩ := h.gs_ne
  rw [ob_eq] at hG hor
  have hX : Ex (fun j => ob Ag = some j) W w4 := ⟨hG.os, hG.tape, hG.output, hG.size, fun j hj hx => hG.block j hj (fun e => hx e.symm)⟩
  have hX2 : Ex (fun j => j = Bg ∨ ob Ag = some j) W (w4.setCell ⟨Bg, 0, none⟩ (.slice (some ⟨g', 0, none⟩) (s.G.length + 1) c2)) := (hX.mono (fun j _ x => .inr x)).setCell _ (.inr (.inl rfl)) _
  have hnA : ∀ i, XJ Bg gs mb i → ob Ag ≠ some i := fun i hi e => by have := (h.go.ltN _ e).1; have := hX0 i hi; omega
  have hb4 : w4.heap[Bg]? = some (.cells #[.slice Ag s.G.length cg] 22 (0, 0)) := (hX.block Bg (lt_blk h.bg) (hnA _ (.inl rfl))).trans h.bg
  have hgc : g' ≠ Bg := by
    rcases hor with e | e
    · intro e'; subst e'; exact hnA _ (.inl rfl) e
    · have := lt_blk h.bg; omega
  refine ⟨⟨?_, ?_, ?_, ?_, fun t => ?_⟩, hX2.mono (fun j _ x => x.elim (fun x => .inl (.inl x)) .inr), ?_⟩
  · refine h.ex.trans hX2 (fun _ _ x => x) (fun j hj x => ?_)
    rcases x with x | x
    · exact .inl x
    · have := (h.go.ltN _ x).1; omega
  · rw [heap_setCell_same _ _ _ _ _ _ hb4, List.length_append]; rfl
  · rw [List.length_append, ints_app]
    exact hO.ex (X := fun j => j = Bg) ((Ex.refl (fun j => j = Bg) w4).setCell ⟨Bg, 0, none⟩ (.inr rfl) _) (fun b hb e => hgc (by simp [ob] at hb; omega))
  · exact (hX2.block _ (lt_blk h.sn) (fun x => by rcases x with x | x; exact n1 x; exact hnA _ (.inr (.inl rfl)) x)).trans h.sn
  · exact (h.mp t).block (hX2.block _ (h.mp t).lt (fun x => by rcases x with x | x; exact n3 t x.symm; exact hnA _ (by cases t; exact .inr (.inr (.inl rfl)); exact .inr (.inr (.inr rfl))) x))
  · rcases hor with e | e
    · exact .inl e.symm
    · exact .inr fun b hb => by simp [ob] at hb; omega
/-- byBidder[x] or byLot[x] -/
theorem JT.look (h : JT W0 b0 Bg gs mb nb r n W Ag cg s) (t : Bool) {x : Int} (hx : (Lit.int .i64 x).wf = true) : (Instr.lookup 77 (.map (some (mb t))) (.int .i64 x) false).run Try.prog W = .ok ((if s.D.contains (t, x) then none else r (t, x)).getD nilS) W := (h.mp t).look mapRT hx
theorem MapV.drop {w : World} {b n : Nat} {f : Int → Option Value} (h : MapV w b n f) {x : Int} (hx : (Lit.int .i64 x).wf = true) (ty : TypeId) :
    ∃ w', (Builtin.delete_ #[77, 3] ty #[.map (some b), .int .i64 x]).run Try.prog w = .ok (.tuple #[]) w' ∧ MapV w' b n (fun y => if y = x then none else f y) ∧ w.grownBy w' (some b) := by
  obtain ⟨D, h1, h2, h3⟩ := h
  obtain ⟨w', r1, r2, r3⟩ := h1.drop (Maps.int_keyed Try.underlying3) mapRT.und (Maps.keyOf_int_mk Try.underlying3 hx) ty
  refine ⟨w', r1, ⟨_, r2, h2.del _, fun y d => ?_⟩, r3.grown⟩
  by_cases e : y = x
  · subst e; rw [Maps.atKey_del_same]; simp [pickD]
  · rw [Maps.atKey_del_other (by intro e'; injection e' with _ e'; exact e e'), h3]; simp [e]
/-- delete(byBidder, x) or delete(byLot, x) -/
theorem JT.del (h : JT W0 b0 Bg gs mb nb r n W Ag cg s) (mne : mb false ≠ mb true) (hX0 : ∀ i, XJ Bg gs mb i → i < b0) (t : Bool) {x : Int} (hx : (Lit.int .i64 x).wf = true) (ty : TypeId) :
    ∃ W', (Builtin.delete_ #[77, 3] ty #[.map (some (mb t)), .int .i64 x]).run Try.prog W = .ok (.tuple #[]) W' ∧ JT W0 b0 Bg gs mb nb r n W' Ag cg ⟨s.S, s.G, s.D ++ [(t, x)]⟩ ∧ Ex (XJ Bg gs mb) W W' := by
  obtain ⟨n1, n2, n3⟩ := h.gs_ne
  obtain ⟨W', hr, hM, hG⟩ := (h.mp t).drop hx ty
  have hX : Ex (fun j => j = mb t) W W' := ⟨hG.os, hG.tape, hG.output, hG.size, fun j hj hx => hG.block j hj (fun e => hx (by injection e))⟩
  have hin : XJ Bg gs mb (mb t) := by cases t; exact .inr (.inr (.inl rfl)); exact .inr (.inr (.inr rfl))
  refine ⟨W', hr, ⟨h.ex.trans hX (fun _ _ x => x) (fun i _ e => e ▸ hin), (hX.block _ (lt_blk h.bg) (n3 t)).trans h.bg, h.go.ex hX (fun b hb e => ?_), (hX.block _ (lt_blk h.sn) (n2 t)).trans h.sn, fun t' => ?_⟩, hX.mono (fun i _ e => e ▸ hin)⟩
  · have := (h.go.ltN b hb).1; have := hX0 _ hin; omega
  · by_cases e : t' = t
    · subst e
      have : (fun y => if (s.D ++ [(t', x)]).contains (t', y) then none else r (t', y)) = (fun y => if y = x then none else if s.D.contains (t', y) then none else r (t', y)) := by
        funext y
        by_cases ey : y = x
        · subst ey; rw [if_pos rfl, if_pos (by simp)]
        · rw [if_neg ey]
          have : (s.D ++ [(t', x)]).contains (t', y) = s.D.contains (t', y) := by
            rw [Bool.eq_iff_iff]; simp [ey]
          rw [this]
      rw [this]; exact hM
    · have : (fun y => if (s.D ++ [(t, x)]).contains (t', y) then none else r (t', y)) = (fun y => if s.D.contains (t', y) then none else r (t', y)) := by
        funext y
        have : (s.D ++ [(t, x)]).contains (t', y) = s.D.contains (t', y) := by
          rw [Bool.eq_iff_iff]; simp [e]
        rw [this]
      rw [this]
      refine (h.mp t').block (hX.block _ (h.mp t').lt (fun e' => ?_))
      cases t <;> cases t' <;> simp at e
      · exact mne e'.symm
      · exact mne e'
/-- what a row of the maps reads as -/
theorem JX.row (jx : JX w W0 b0 Bs Bg Bb Bl Bt Bj gs mb nb r A n c l) (h : JT W0 b0 Bg gs mb nb r n W Ag cg s) (k : Key) : ∃ A' n' c', ((if s.D.contains k then none else r k).getD nilS) = .slice A' n' c' ∧ Nums .i64 W A' n' c' (ints (if s.D.contains k then [] else rowK l n k)) ∧ n' ≤ n ∧ ∀ b, ob A' = some b → b < W.heap.size ∧ ¬ XJ Bg gs mb b ∧ b < b0 := by
  by_cases e : s.D.contains k = true
  · rw [if_pos e, if_pos e]
    exact ⟨none, 0, 0, rfl, Nums.nil _ _ _ _ (Nat.zero_le _), Nat.zero_le _, fun b hb => by cases hb⟩
  · rw [if_neg e, if_neg e]
    obtain ⟨A', n', c', e1, hO⟩ := jx.rows k
    have key : ∀ b, ob A' = some b → ¬ XJ Bg gs mb b := fun b hb x => (jx.wx b x).2.2 (hO.intB hb).2
    refine ⟨A', n', c', e1, (hO.ex h.ex key).reads, ?_, fun b hb => ⟨Nat.lt_of_lt_of_le (hO.ltN b hb).2 h.ex.size, key b hb, by have := (hO.ltN b hb).2; have := jx.sz; omega⟩⟩
    have := hO.1
    rw [ints_len] at this
    rw [← this]
    unfold rowK
    have h2 := List.length_filter_le (fun i => hasK l i k) (List.range n)
    rw [List.length_range] at h2
    exact h2
end
theorem Nums.exP {k : IntKind} {X : Nat → Prop} {w w' : World} {A : Option Addr} {n c : Nat} {l : List Int} (h : Nums k w A n c l) (hX : Ex X w w') (hb : 0 < n → ∀ b, ob A = some b → ¬ X b) : Nums k w' A n c l := by
  rcases Nat.eq_zero_or_pos n with h0 | h0
  · subst h0
    exact ⟨h.len, h.cap, h.mx, h.wf, fun h => absurd h (by omega)⟩
  · exact h.ex hX (hb h0)
theorem oth_snoc (l : List Bd) (ks : List Key) (k : Key) (s : List Nat × List Key) : oth l (ks ++ [k]) s = othStep l (oth l ks s) k := by unfold oth; rw [List.foldl_append]; rfl
theorem nodup_len {l : List Nat} {n : Nat} (hn : l.Nodup) (hlt : ∀ x ∈ l, x < n) : l.length ≤ n := by
  have h1 := (List.Perm.length_eq ((List.perm_ext_iff_of_nodup hn (List.Pairwise.filter (fun x => l.contains x) (List.nodup_range (n := n)))).2 (fun x => by
    rw [List.mem_filter, List.mem_range]
    simp only [List.contains_eq_mem, decide_eq_true_eq]
    exact ⟨fun h => ⟨hlt x h, h⟩, fun h => h.2⟩)))
  have h2 := List.length_filter_le (fun x => l.contains x) (List.range n)
  rw [List.length_range] at h2
  omega
end Go.Proofs.Ytpbkfpkgbfifaaa
