
/- A bidder is written into a row of bids (for ClearTruthful). -/
import Derived.Test.YtpbkfpkgbfifaaaKS
namespace Go.Proofs.Ytpbkfpkgbfifaaa
open Go.RowKit

theorem flat3_setB : ∀ (q : List (Bd × Sl)) (i : Nat) (p : Bd × Sl) (v : Int), q[i]? = some p → flat3 (q.set i ((v, p.1.2.1, p.1.2.2), p.2)) = (flat3 q).set (i * 3) (.int .i64 v)
  | [], i, p, v, h => by simp at h
  | (x, s) :: q, 0, p, v, h => by simp at h; subst h; simp [flat3]
  | (x, s) :: q, i + 1, p, v, h => by
    simp only [List.getElem?_cons_succ] at h
    have := flat3_setB q i p v h
    simp only [List.set_cons_succ, flat3, this, show (i + 1) * 3 = i * 3 + 3 by omega]
/-- a bidder is written -/
theorem BRow.bidder {T : TypeId} {w : World} {base g n c : Nat} {q : List (Bd × Sl)} (h : BRow T w base (some ⟨g, 0, none⟩) n c q) {i : Nat} {p : Bd × Sl} (hi : q[i]? = some p) (v : Int) (hv : (Lit.int .i64 v).wf = true) :
    BRow T (w.setCell ⟨g, i * 3, none⟩ (.int .i64 v)) base (some ⟨g, 0, none⟩) n c (q.set i ((v, p.1.2.1, p.1.2.2), p.2)) := by
  obtain ⟨h1, h2, h3⟩ := h
  obtain ⟨g1, g2⟩ := World.ownsRow.stored h2 (i * 3) (.int .i64 v)
  rw [← flat3_setB q i p v hi] at g1
  have key : ∀ r : Bd × Sl, Nums .i64 w r.2.1 r.2.2.1 r.2.2.2 r.1.2.2 → (0 < r.2.2.1 → ob r.2.1 ≠ ob (some (⟨g, 0, none⟩ : Addr))) → Nums .i64 (w.setCell ⟨g, i * 3, none⟩ (.int .i64 v)) r.2.1 r.2.2.1 r.2.2.2 r.1.2.2 := fun r hr hne => hr.grown g2 hne
  refine ⟨by simpa using h1, g1, fun r hr => ?_⟩
  rcases List.mem_or_eq_of_mem_set hr with hr | hr
  · obtain ⟨a, b, c, d⟩ := h3 r hr
    exact ⟨a, b, key r c d, d⟩
  · obtain ⟨a, b, c, d⟩ := h3 p (List.mem_of_getElem? hi)
    subst hr
    exact ⟨hv, b, key p c d, d⟩

end Go.Proofs.Ytpbkfpkgbfifaaa
