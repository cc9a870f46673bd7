/- An argument that is a slice of pairs of integers. -/
import Derived.Test.YtbpfdogjjoceaaaF
import Derived.Deep.Slices
import Derived.Deep.Fields
import Derived.ChangeSame
import Derived.ProofKit
namespace Go.Proofs.Ytbpfdogjjoceaaa
open Go.ChangeShapes Go.WideShapes Go.Deep Go.RowKit

theorem pairs_of_trod {H : Type} {enc : TypeId × Value → H} {P : Program} {w : World} {base : Nat} {spare : Nat → Bool} {held : Bool} {t e ti : TypeId} {f1 f2 : Field} {fuel : Nat} {A : Option Addr} {len cap : Nat} {x : DataW H × List MemPlace}
    (ht : P.underlying t = some (.slice e)) (he : P.underlying e = some (.struct #[f1, f2])) (hti : P.underlying ti = some (.int .i64)) (hone : (oneCellFields P #[f1, f2] && (f1.type == ti && f2.type == ti)) = true) (hC : P.cellsOf e = 2)
    (h : DataW.trod enc P w base spare held fuel t [.slice A len cap] = some x) : ∃ l, Pairs w A len cap l := by
  simp only [Bool.and_eq_true, beq_iff_eq] at hone
  obtain ⟨hone, hf1, hf2⟩ := hone
  rcases open_slice ht h with ⟨hcs, _⟩ | ⟨a, len', cap', m, n, D, Pl, hcs, hb, hl, hm, hmm, hx, hi⟩
  · simp at hcs
    obtain ⟨rfl, rfl, rfl⟩ := hcs
    exact ⟨[], ⟨rfl, Nat.le_refl _, Nat.zero_le _, by simp, fun h0 => absurd h0 (by omega)⟩⟩
  · simp at hcs
    obtain ⟨rfl, rfl, rfl⟩ := hcs
    have hlm : len ≤ m := by rw [hmm]; split <;> omega
    have key : ∀ i, i < len → ∃ u v : Int, (Lit.int .i64 u).wf = true ∧ (Lit.int .i64 v).wf = true ∧ w.cell? (a.add (i * 2)) = some (.int .i64 u) ∧ w.cell? (a.add (i * 2 + 1)) = some (.int .i64 v) := by
      intro i hil
      obtain ⟨cs', hc, ht'⟩ := hi i (by omega)
      rw [hC] at hc
      obtain ⟨ys, n', hn', hy, hlen, hyl, hf⟩ := DataW.trod_struct he ht'
      obtain ⟨_, hcl, hat⟩ := World.cells?_some hc
      obtain ⟨o1, k1⟩ := hone_of hone 0 f1 rfl
      obtain ⟨o2, k2⟩ := hone_of hone 1 f2 rfl
      have g1 := hf 0 f1 rfl
      have g2 := hf 1 f2 rfl
      rw [o1, k1] at g1
      rw [o2, k2] at g2
      match cs', hcl with
      | [c1, c2], _ =>
        simp only [List.drop_zero, List.take_succ_cons, List.take_zero, List.drop_succ_cons] at g1 g2
        match ys, hyl with
        | [y1, y2], _ =>
          simp only [List.getElem?_cons_zero, List.getElem?_cons_succ] at g1 g2
          rw [hf1] at g1
          rw [hf2] at g2
          obtain ⟨u, eu, _, wu⟩ := DataW.trod_int hti g1
          obtain ⟨v, ev, _, wv⟩ := DataW.trod_int hti g2
          simp at eu ev
          subst eu ev
          have h1 := hat 0 (by omega)
          have h2 := hat 1 (by omega)
          simp only [List.getElem?_cons_zero, List.getElem?_cons_succ] at h1 h2
          rw [Go.Deep.add_add] at h1 h2
          exact ⟨u, v, wu, wv, by simpa using h1, by simpa using h2⟩
    refine ⟨(List.range len).map fun i => if h : i < len then ((key i h).choose, (key i h).choose_spec.choose) else (0, 0), ?_⟩
    refine ⟨by simp, hl, hm, ?_, ?_⟩
    · intro y hy
      simp only [List.mem_map, List.mem_range] at hy
      obtain ⟨i, hi', rfl⟩ := hy
      rw [dif_pos hi']
      exact ⟨(key i hi').choose_spec.choose_spec.1, (key i hi').choose_spec.choose_spec.2.1⟩
    · intro h0
      obtain ⟨b, off, spot⟩ := a
      have hc0 := (key 0 h0).choose_spec.choose_spec.2.2.1
      have hspot : spot = none := by simpa [Addr.add] using World.cell?_spot hc0
      subst hspot
      have hlt : b < w.heap.size := by simpa [Addr.add] using World.block_lt_of_cell? w _ hc0
      have ap : ∀ j, (⟨b, off, none⟩ : Addr).add j = ⟨b, off + j, none⟩ := by
        intro j; unfold Addr.add; split
        · rename_i hj; subst hj; rfl
        · rfl
      refine ⟨b, off, rfl, hlt, fun i hi' => ?_⟩
      have hil : i < len := by simpa using hi'
      have hs := (key i hil).choose_spec.choose_spec
      simp only [List.getElem_map, List.getElem_range]
      rw [dif_pos hil]
      exact ⟨(congrArg w.cell? (ap _).symm).trans hs.2.2.1, (congrArg w.cell? (by rw [ap, Nat.add_assoc])).trans hs.2.2.2⟩
end Go.Proofs.Ytbpfdogjjoceaaa
