/- Maps from numbers to any values (slices, pointers): what lies at a key is a value; what it leads to is told apart. -/
import Derived.Maps.OwnSet
import Derived.Test.YtpbkfpkgbfifaaaKB
namespace Go.Proofs.Ytpbkfpkgbfifaaa
open Go.RowKit

structure MapT (mt vt : TypeId) (z : Value) : Prop where
  und : Try.prog.underlying mt = some (.map 3 vt)
  zero : ∀ w, (zeroValue vt).run Try.prog w = .ok z w
def heldR (v : Value) : Option (DataW Value × List MemPlace) := some (.held v, [])
def pickD (o : Option Value) (d : DataW Value) : DataW Value := match o with | some v => .held v | none => d
/-- block b is a map that holds f x at the key x -/
def MapV (w : World) (b n : Nat) (f : Int → Option Value) : Prop :=
  ∃ D : DataW Value, w.ownsMap Try.prog 3 heldR b n D ∧ Maps.IsMap D ∧ ∀ x d, D.atKey (.int .i64 x) d = pickD (f x) d
theorem MapV.made (w : World) : MapV (w.alloc (.map #[] 0)) w.heap.size 0 (fun _ => none) := ⟨_, World.ownsMap_made _ _ _ _, Maps.isMap_empty, fun _ _ => rfl⟩
section
variable {w w' : World} {b n : Nat} {f : Int → Option Value} {mt vt : TypeId} {z : Value}
theorem MapV.lt (h : MapV w b n f) : b < w.heap.size := by obtain ⟨D, h1, _⟩ := h; exact h1.lt
theorem MapV.block (h : MapV w b n f) (hb : w'.heap[b]? = w.heap[b]?) : MapV w' b n f := by
  obtain ⟨D, ⟨es, clock, h1, h2⟩, h3⟩ := h
  exact ⟨D, ⟨es, clock, hb.trans h1, h2⟩, h3⟩
theorem MapV.e (h : MapV w b n f) (hE : E w w') : MapV w' b n f := h.block (hE.block h.lt)
set_option maxRecDepth 100000 in
theorem MapV.look (h : MapV w b n f) (T : MapT mt vt z) {x : Int} (hx : (Lit.int .i64 x).wf = true) : (Instr.lookup mt (.map (some b)) (.int .i64 x) false).run Try.prog w = .ok ((f x).getD z) w := by
  obtain ⟨D, h1, h2, h3⟩ := h
  obtain ⟨v, ps, hrun, hv⟩ := h1.lookup (Maps.int_keyed Try.underlying3) T.und (T.zero _) (zd := .held z) (zp := []) rfl (Maps.keyOf_int_mk Try.underlying3 hx)
  rw [hrun]
  rw [h3] at hv
  simp only [heldR, Option.some.injEq, Prod.mk.injEq] at hv
  have h4 := hv.1
  cases hf : f x with
  | none => rw [hf] at h4; simp only [pickD, DataW.held.injEq] at h4; rw [h4]; simp only [Option.getD]
  | some u => rw [hf] at h4; simp only [pickD, DataW.held.injEq] at h4; rw [h4]; simp only [Option.getD]
set_option maxRecDepth 100000 in
theorem MapV.put (h : MapV w b n f) (T : MapT mt vt z) {x : Int} (v : Value) (hx : (Lit.int .i64 x).wf = true) (hn : n < maxLen) : ∃ w', (Instr.mapUpdate mt (.map (some b)) (.int .i64 x) v).run Try.prog w = .ok () w' ∧ MapV w' b (n + 1) (fun y => if y = x then some v else f y) ∧ w.grownBy w' (some b) := by
  obtain ⟨D, h1, h2, h3⟩ := h
  obtain ⟨w', r1, r2, r3⟩ := h1.update (Maps.int_keyed Try.underlying3) T.und hn (Maps.keyOf_int_mk Try.underlying3 hx) (show heldR v = some (.held v, []) from rfl)
  refine ⟨w', r1, ⟨_, r2, h2.put _ _, fun y d => ?_⟩, r3⟩
  by_cases e : y = x
  · subst e; rw [Maps.atKey_put_same h2 (by trivial)]; simp [pickD]
  · rw [Maps.atKey_put_other (by intro e'; injection e' with _ e'; exact e e'), h3]; simp [e]
end
end Go.Proofs.Ytpbkfpkgbfifaaa
