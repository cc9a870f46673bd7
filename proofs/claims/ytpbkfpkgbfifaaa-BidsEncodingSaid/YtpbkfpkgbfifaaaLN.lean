/- append of a whole slice to a row of the call's own. -/
import Derived.Test.YtpbkfpkgbfifaaaL
namespace Go.Proofs.Ytpbkfpkgbfifaaa
open Go.RowKit

section
variable {P : Program} {S T : TypeId} {k : IntKind} {by8 : Nat}
theorem own_of_row' {w : World} {base : Nat} {v : Value} {n : Nat} {l : List Int} (h : w.ownsRow base T 1 v n (l.map (Value.int k))) (hw : ∀ x ∈ l, (Lit.int k x).wf = true) :
    ∃ A c, v = .slice A n c ∧ Own k T w base A n c l := by
  have h1 := h.1
  rw [List.length_map, Nat.mul_one] at h1
  have h' := h
  rcases h.2 with ⟨rfl, rfl⟩ | ⟨g, cap, cur, rfl, _⟩
  · exact ⟨none, 0, rfl, h1, h', hw⟩
  · exact ⟨_, cap, rfl, h1, h', hw⟩
theorem add_plain (b o j : Nat) : (⟨b, o, none⟩ : Addr).add j = ⟨b, o + j, none⟩ := by
  unfold Addr.add
  split
  · rename_i h0; subst h0; rfl
  · rfl
/-- append(out, src...): src any slice that reads as l2 -/
theorem run_appN (it : IntT P S T k by8) (w : World) (ty : TypeId) (base : Nat) (A : Option Addr) (n c : Nat) (l : List Int) (hown : Own k T w base A n c l)
    (A2 : Option Addr) (m c2 : Nat) (l2 : List Int) (hr : Nums k w A2 m c2 l2) (hlen : n + m ≤ 1099511627776) (hbase : base ≤ w.heap.size) :
    ∃ A' c' w', (Builtin.append_ #[S, S] ty #[.slice A n c, .slice A2 m c2]).run P w = .ok (.slice A' (n + m) c') w' ∧ Own k T w' base A' (n + m) c' (l ++ l2) ∧ w.grownBy w' (Value.slice A n c).ownBlock ∧
      ((Value.slice A' (n + m) c').ownBlock = (Value.slice A n c).ownBlock ∨ (Value.slice A' (n + m) c').ownBlock = some w.heap.size) := by
  obtain ⟨i, hi, hz0, hz1, hz2⟩ := info_parts it.info
  have hsm := it.small
  rcases A2 with _ | ad
  · have hm : m = 0 := by
      rcases Nat.eq_zero_or_pos m with h0 | h0
      · exact h0
      · obtain ⟨_, _, h, _⟩ := hr.at_ h0; cases h
    subst hm
    have hn : l2 = [] := List.eq_nil_of_length_eq_zero hr.len
    subst hn
    refine ⟨A, c, w, ?_, by simpa using hown, World.grownBy.refl w _, .inl rfl⟩
    rcases hown.form with ⟨rfl, rfl, rfl⟩ | ⟨g, rfl, _, _, hnc, _⟩
    · simp [Builtin.append_, run_underlying it.und, sizeOf, typeInfo, hi, Builtin.lenOf, Builtin.firstCells]
    · simp [Builtin.append_, run_underlying it.und, sizeOf, typeInfo, hi, Builtin.lenOf, Builtin.firstCells, hnc, storeCells]
  · have hcells : ∀ j u, (l2.map (Value.int k))[j]? = some u → w.cell? (ad.add j) = some u := by
      intro j u hu
      rw [List.getElem?_map] at hu
      obtain ⟨x, hx, rfl⟩ := Option.map_eq_some_iff.1 hu
      obtain ⟨hj', rfl⟩ := List.getElem?_eq_some_iff.1 hx
      obtain ⟨b, o, hh, _, hc⟩ := hr.at_ (by have := hr.len; omega)
      injection hh with hh
      subst hh
      rw [add_plain]
      exact hc j hj'
    obtain ⟨v', w', hrun, h2, h3, _, h5⟩ := run_append_own_at (P := P) w base S ty T i (.int k 0) 1 by8 it.und hi hz0 hz1 hz2 rfl (by decide) _ n _ hown.2.1 ad m c2 (l2.map (Value.int k)) (by rw [List.length_map, hr.len, Nat.mul_one]) hcells (ints_oneCell k l2) (by unfold maxLen; omega)
      (by have : (n + m) * by8 ≤ (n + m) * 8 := Nat.mul_le_mul_left _ hsm
          omega) hbase
    rw [← List.map_append] at h2
    obtain ⟨A', c', rfl, hO⟩ := own_of_row' h2 (by intro y hy; rcases List.mem_append.1 hy with hy | hy; exact hown.2.2 y hy; exact hr.wf y hy)
    exact ⟨A', c', w', hrun, hO, h3, h5⟩
theorem wpList_appN (it : IntT P S T k by8) (w : World) {ops : Array Oper} {rest : List Oper} {o : Oper} {a : Act} {Q : Exit → Act → World → Prop} (hgd : o.guard = none) (s x : Operand)
    (ho : o.op = .call { callee := .builtin .append, args := #[s, x], argTypes := #[S, S] })
    (base : Nat) (A : Option Addr) (n c : Nat) (l : List Int) (hs : a.eval s = .slice A n c) (hown : Own k T w base A n c l)
    (A2 : Option Addr) (m c2 : Nat) (l2 : List Int) (hx : a.eval x = .slice A2 m c2) (hr : Nums k w A2 m c2 l2) (hlen : n + m ≤ 1099511627776) (hbase : base ≤ w.heap.size)
    (h : ∀ A' c' w', Own k T w' base A' (n + m) c' (l ++ l2) → w.grownBy w' (Value.slice A n c).ownBlock → Below base w w' → wpList P ops Q rest (a.put o.dst (.slice A' (n + m) c')) w') :
    wpList P ops Q (o :: rest) a w := by
  obtain ⟨A', c', w', hrun, hO, h3, h5⟩ := run_appN it w o.type base A n c l hown A2 m c2 l2 hr hlen hbase
  refine wpList_plain hgd fun K hK' => ?_
  unfold Oper.wp execOp
  simp only [ho, resolve, invoke, builtin, Sem.run_bind, Sem.run_pure, Result.andThen_ok, List.map_toArray, List.map_cons, List.map_nil, hs, hx, hrun]
  exact hK' _ _ (h A' c' w' hO h3 ((Below.refl base w).grown h3 hbase (ownBlock_le hown)))
/-- append of one number, as a step of a region that draws; W any world, the source lies at block g -/
theorem step_app1 (it : IntT P S T k by8) {W : World} {ops : Array Oper} {o : Oper} {a : Act} {K : Act → World → Prop} {Q : Exit → Act → World → Prop} {R : Prop} (hgd : o.guard = none) (s x : Operand)
    (ho : o.op = .call { callee := .builtin .append, args := #[s, x], argTypes := #[S, S] })
    (base : Nat) (A : Option Addr) (n c : Nat) (l : List Int) (hs : a.eval s = .slice A n c) (hown : Own k T W base A n c l)
    (g : Nat) (v : Int) (hx : a.eval x = .slice (some ⟨g, 0, none⟩) 1 1) (hcell : W.cell? ⟨g, 0, none⟩ = some (.int k v)) (hwf : (Lit.int k v).wf = true)
    (hlen : n + 1 ≤ 1099511627776) (hbase : base ≤ W.heap.size)
    (h : ∀ g' c' w', Own k T w' base (some ⟨g', 0, none⟩) (n + 1) c' (l ++ [v]) → W.grownBy w' (Value.slice A n c).ownBlock → Below base W w' → K (a.put o.dst (.slice (some ⟨g', 0, none⟩) (n + 1) c')) w') :
    if Region.wanted o (yielded ops a.tmps) = true then Oper.wp P o a W K Q else R := by
  have hw : Region.wanted o (yielded ops a.tmps) = true := by simp [Region.wanted, hgd]
  rw [if_pos hw]
  have hN : Nums k W (some ⟨g, 0, none⟩) 1 1 [v] := ⟨rfl, Nat.le_refl _, by unfold maxLen; omega, by intro y hy; simp at hy; subst hy; exact hwf, fun _ => ⟨g, 0, rfl, World.block_lt_of_cell? W _ hcell, fun i hi => by
    have : i = 0 := by simpa using hi
    subst this; exact hcell⟩⟩
  obtain ⟨A', c', w', hrun, hO, h3, h5⟩ := run_appN it W o.type base A n c l hown _ 1 1 [v] hN hlen hbase
  unfold Oper.wp execOp
  simp only [ho, resolve, invoke, builtin, Sem.run_bind, Sem.run_pure, Result.andThen_ok, List.map_toArray, List.map_cons, List.map_nil, hs, hx, hrun]
  rcases hO.form with ⟨_, h0, _⟩ | ⟨g', rfl, _⟩
  · omega
  · exact h g' c' w' hO h3 ((Below.refl base W).grown h3 hbase (ownBlock_le hown))
theorem Own.empty (w : World) (k : IntKind) (T : TypeId) : Own k T (w.alloc (.cells #[] T)) w.heap.size (some ⟨w.heap.size, 0, none⟩) 0 0 [] :=
  ⟨rfl, World.ownsRow_made w #[] 0 (Nat.le_refl _) (by unfold maxLen; omega) rfl, by simp⟩
end

def ob (A : Option Addr) : Option Nat := A.map (·.block)
theorem ob_eq (A : Option Addr) (n c : Nat) : (Value.slice A n c).ownBlock = ob A := by cases A <;> rfl
/-- two rows do not share a block -/
def apartS (A1 A2 : Option Addr) : Prop := ∀ b, ob A1 = some b → ob A2 ≠ some b
theorem apartS.symm {A1 A2 : Option Addr} (h : apartS A1 A2) : apartS A2 A1 := fun b h1 h2 => h b h2 h1
theorem apart_grow {A1 A2 : Option Addr} {n c g B : Nat} (h : apartS A1 A2) (hB : ∀ b, ob A1 = some b → b < B) (hor : (Value.slice A2 n c).ownBlock = some g ∨ B ≤ g) : apartS A1 (some ⟨g, 0, none⟩) := by
  intro b hb hg
  have : g = b := by simpa [ob] using hg
  subst this
  rcases hor with h1 | h1
  · rw [ob_eq] at h1; exact h g hb h1
  · have := hB g hb; omega
theorem Own.ltN {k : IntKind} {T : TypeId} {w : World} {base : Nat} {A : Option Addr} {n c : Nat} {l : List Int} (h : Own k T w base A n c l) : ∀ b, ob A = some b → base ≤ b ∧ b < w.heap.size := by
  intro b hb
  exact World.ownsRow.lt h.2.1 b (by rw [ob_eq]; exact hb)
theorem Own.keptA {k : IntKind} {T : TypeId} {w w' : World} {base : Nat} {A A2 : Option Addr} {n c n2 c2 : Nat} {l : List Int} (h : Own k T w base A n c l) (hG : w.grownBy w' (Value.slice A2 n2 c2).ownBlock) (hap : apartS A A2) : Own k T w' base A n c l := by
  refine ⟨h.1, h.2.1.kept hG ?_, h.2.2⟩
  rw [ob_eq, ob_eq]
  cases ha : ob A with
  | none => exact .inl rfl
  | some b => exact .inr fun e => hap b ha e.symm
theorem apart_none (A : Option Addr) : apartS none A := fun b h => by cases h
end Go.Proofs.Ytpbkfpkgbfifaaa
