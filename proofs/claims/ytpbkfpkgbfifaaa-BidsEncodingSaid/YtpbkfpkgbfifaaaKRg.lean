/- Ranging over a set in a map. -/
import Derived.Maps.RangeWalk
import Derived.Test.YtpbkfpkgbfifaaaKB
namespace Go.Proofs.Ytpbkfpkgbfifaaa
open Go.RowKit

/-- 'for k := range m' under way over the set f in block b; left: what is still to come -/
def RngB (w : World) (b r n : Nat) (f left : Int → Bool) (cnt : Nat) : Prop :=
  ∃ (D : DataW Unit) (lf : Lit → Bool), w.ranges Try.prog 3 (plainElem Try.prog 4) b r n D lf cnt ∧ Maps.IsMap D ∧ (∀ x, D.atKey (.int .i64 x) (.lit (.bool false)) = .lit (.bool (f x))) ∧ (∀ x, Maps.has D (.int .i64 x) = f x) ∧ ∀ x, lf (.int .i64 x) = left x
section
variable {w w' : World} {b r n cnt : Nat} {f left : Int → Bool}
theorem RngB.set (h : RngB w b r n f left cnt) : SetB w b n f := by
  obtain ⟨D, lf, h1, h2, h3, h4, _⟩ := h
  exact ⟨D, h1.owns, h2, h3, h4⟩
theorem RngB.left_eq (h : RngB w b r n f left cnt) : w.rangeLeft b r = cnt := by obtain ⟨D, lf, h1, _⟩ := h; exact h1.left_eq
theorem RngB.lt (h : RngB w b r n f left cnt) : r < w.heap.size := by obtain ⟨D, lf, h1, _⟩ := h; exact h1.lt
theorem RngB.ne (h : RngB w b r n f left cnt) : r ≠ b := by obtain ⟨D, lf, h1, _⟩ := h; exact h1.ne
theorem RngB.kept {row : Option Nat} (h : RngB w b r n f left cnt) (hg : w.grownBy w' row) (hb : some b ≠ row) (hr : some r ≠ row) : RngB w' b r n f left cnt := by
  obtain ⟨D, lf, h1, h2⟩ := h
  exact ⟨D, lf, h1.kept hg hb hr, h2⟩
theorem RngB.blocks (h : RngB w b r n f left cnt) (hb : w'.heap[b]? = w.heap[b]?) (hr : w'.heap[r]? = w.heap[r]?) : RngB w' b r n f left cnt := by
  obtain ⟨D, lf, ⟨es, clock, since, seen, c0, a1, a2, a3, a4, a5, a6⟩, h2⟩ := h
  exact ⟨D, lf, ⟨es, clock, since, seen, c0, hb.trans a1, a2, a3, a4, hr.trans a5, a6⟩, h2⟩
theorem RngB.e (h : RngB w b r n f left cnt) (hE : E w w') : RngB w' b r n f left cnt := h.blocks (hE.block h.set.lt) (hE.block h.lt)
end
set_option maxRecDepth 100000 in
theorem wpList_rangeB (w : World) {ops : Array Oper} {rest : List Oper} {o : Oper} {a : Act} {Q : Exit → Act → World → Prop} (hg : o.guard = none) (m : Operand) (hop : o.op = Op.range 78 m) (b n : Nat) (f : Int → Bool)
    (hm : a.eval m = .map (some b)) (hS : SetB w b n f)
    (hK : ∀ w' cnt, RngB w' b w.heap.size n f f cnt → w.grownBy w' none → w'.heap.size = w.heap.size + 1 → cnt ≤ n → wpList Try.prog ops Q rest (a.put o.dst (.pointer (some ⟨w.heap.size, 0, none⟩))) w') :
    wpList Try.prog ops Q (o :: rest) a w := by
  obtain ⟨D, h1, h2, h3, h4⟩ := hS
  refine wpList_range_own w hg m 78 hop 3 4 (Maps.int_keyed Try.underlying3) Try.underlying78 _ b n D hm h1 fun w' hr hg' hs => ?_
  refine hK w' _ ⟨D, _, hr, h2, h3, h4, h4⟩ hg' hs ?_
  obtain ⟨es, clock, since, seen, c0, _, _, hsz, _, _, _, hc, _⟩ := hr
  have : (leftOf es seen).size ≤ es.size := by
    unfold leftOf
    exact Array.size_filter_le
  omega
theorem plainElem_bool_inv {P : Program} {e : TypeId} (he : P.underlying e = some .bool) {v : Value} {z : DataW Unit × List MemPlace} (h : plainElem P e v = some z) : ∃ c, v = .bool c := by
  unfold plainElem at h
  rw [he] at h
  cases v <;> simp at h
  exact ⟨_, rfl⟩
set_option maxRecDepth 100000 in
theorem wpList_nextB (w : World) {ops : Array Oper} {rest : List Oper} {o : Oper} {a : Act} {Q : Exit → Act → World → Prop} (hg : o.guard = none) (it : Operand) (hop : o.op = Op.next it false) (b r n : Nat) (f left : Int → Bool) (cnt : Nat)
    (hit : a.eval it = .pointer (some ⟨r, 0, none⟩)) (h : RngB w b r n f left cnt)
    (hDone : (∀ x, left x = false) → wpList Try.prog ops Q rest (a.put o.dst (.tuple #[.bool false])) w)
    (hMore : ∀ (x : Int) (v : Value) (w' : World) (cnt' : Nat), (Lit.int .i64 x).wf = true → left x = true → f x = true → RngB w' b r n f (fun y => left y && y != x) cnt' → cnt' < cnt → w.grownBy w' (some r) → w'.heap.size = w.heap.size →
      (Instr.entry (.pointer (some ⟨r, 0, none⟩))).run Try.prog w' = .ok (.tuple #[.int .i64 x, v]) w' → wpList Try.prog ops Q rest (a.put o.dst (.tuple #[.bool true, .int .i64 x, v])) w') :
    wpList Try.prog ops Q (o :: rest) a w := by
  obtain ⟨D, lf, h1, h2, h3, h4, h5⟩ := h
  refine wpList_next_ranges w hg it hop 3 (Maps.int_keyed Try.underlying3) (plainElem Try.prog 4) (Value.int .i64) Value.bool (fun key kl hkey => by obtain ⟨x, rfl, _⟩ := Maps.keyOf_int_inv Try.underlying3 hkey; exact ⟨x, rfl⟩)
    (fun v y hv => plainElem_bool_inv Try.underlying4 hv) b r n D lf cnt hit h1 (fun _ hl => hDone fun x => by rw [← h5]; exact hl _) ?_
  intro x c kl y w' cnt' hkey hlk hv hat hrg hlt hgr hsz hen
  obtain ⟨x', ex, rfl, hwx⟩ := Maps.keyOf_int_inv Try.underlying3 hkey
  cases ex
  refine hMore x (.bool c) w' cnt' hwx (by rw [← h5]; exact hlk) (by rw [← h4]; exact Maps.has_true_of_atKey hat) ⟨D, _, hrg, h2, h3, h4, fun z => ?_⟩ hlt hgr hsz hen
  simp only [h5]
  congr 1
  by_cases e : z = x
  · subst e; simp [Lit.sameKey]
  · have : (Lit.int .i64 z).sameKey (.int .i64 x) = false := by simp [Lit.sameKey, e]
    rw [this]
    simp [e]
end Go.Proofs.Ytpbkfpkgbfifaaa
