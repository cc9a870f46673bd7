/- Lemmas of the claim, joined: P A L LN EX TA TB TC TD. No condition. -/
import Derived.Below
import Derived.WalkKit
import Derived.WalkSpells
import Derived.Lib.Hide
import Derived.Deep.Draws
import Derived.Deep.QuietTactic
import Derived.BigQuiet
import Derived.StillTail
import Derived.Laws.CopyOwn
import Derived.Maps.AppendAt
import Derived.StillTailTactics
import Derived.OneCell
import Derived.RangeFuncNested
import Derived.RangeFuncBound
import Derived.RangeFuncCalls
import Derived.RangeFuncLeaves
import Derived.RangeFuncFrom
import Derived.Shelf.Abstract
import Derived.Shelf.RegionOpen
import Derived.OwnWalkIn
import Derived.TacticsInMore
import Derived.LoopNIn
import Derived.LoopIn
import Derived.Outline
import Derived.Deep.DeepCutAuto
import Derived.RegionTactic
import Derived.BigRegion
import Derived.Laws.EntriesVeiled
import Derived.Deep.RegionHeld3
import Derived.Test.YtgbamgijpgjmgaaChecked
/- Plain functions on lists of integers: what the functions on bags compute. -/
namespace Go.Proofs.Ytgbamgijpgjmgaa

def okU (x : Int) : Bool := decide (0 ≤ x) && decide (x ≤ 1099511627776)
def isBagB (l : List Int) : Bool := decide (l.length ≤ 64) && l.all okU
def fitB (a b : List Int) : Bool := decide (a.length = b.length) && (isBagB a && isBagB b)
def sameB (a b : List Int) : Bool := decide (a = b)

theorem okU_iff {x : Int} : okU x = true ↔ 0 ≤ x ∧ x ≤ 1099511627776 := by simp [okU]
theorem okU_neg {x : Int} (h : x < 0) : okU x = false := by simp [okU]; omega
theorem okU_big {x : Int} (h : 1099511627776 < x) : okU x = false := by simp [okU]; omega
theorem drop_at {α : Type} {l : List α} {k : Nat} {x : α} (h : l[k]? = some x) : l.drop k = x :: l.drop (k + 1) := by
  obtain ⟨hk, rfl⟩ := List.getElem?_eq_some_iff.1 h
  exact List.drop_eq_getElem_cons hk
theorem all_drop {l : List Int} {k : Nat} {x : Int} (h : l[k]? = some x) : (l.drop k).all okU = (okU x && (l.drop (k + 1)).all okU) := by rw [drop_at h]; rfl
theorem drop_end {α : Type} {l : List α} {k n : Nat} (hl : l.length = n) (h : n ≤ k) : l.drop k = [] := List.drop_eq_nil_of_le (by omega)

theorem isBag_len {l : List Int} (h : isBagB l = true) : l.length ≤ 64 := by simp [isBagB] at h; exact h.1
theorem isBag_mem {l : List Int} (h : isBagB l = true) {x : Int} (hx : x ∈ l) : 0 ≤ x ∧ x ≤ 1099511627776 := by
  simp only [isBagB, Bool.and_eq_true, List.all_eq_true] at h; exact okU_iff.1 (h.2 x hx)
theorem isBag_get {l : List Int} (h : isBagB l = true) {i : Nat} {x : Int} (hx : l[i]? = some x) : 0 ≤ x ∧ x ≤ 1099511627776 := isBag_mem h (List.mem_of_getElem? hx)
theorem fit_len {a b : List Int} (h : fitB a b = true) : a.length = b.length := by simp [fitB] at h; exact h.1
theorem fit_a {a b : List Int} (h : fitB a b = true) : isBagB a = true := by simp [fitB] at h; exact h.2.1
theorem fit_b {a b : List Int} (h : fitB a b = true) : isBagB b = true := by simp [fitB] at h; exact h.2.2

/-- how many times b can be taken from a, at most k -/
def mostF : Int → List Int → List Int → Int
  | k, x :: a, y :: b => mostF (if 0 < y then min k (x / y) else k) a b
  | k, [], _ => k
  | k, _ :: _, [] => k
def mostB (a b : List Int) : Int := if fitB a b then mostF 1048576 a b else 0
theorem mostF_step {a b : List Int} {i : Nat} {x y k : Int} (ha : a[i]? = some x) (hb : b[i]? = some y) :
    mostF k (a.drop i) (b.drop i) = mostF (if 0 < y then min k (x / y) else k) (a.drop (i + 1)) (b.drop (i + 1)) := by
  rw [drop_at ha, drop_at hb]; rfl
theorem mostF_nil (k : Int) (l : List Int) : mostF k [] l = k := by cases l <;> rfl
theorem most_lt {k x y : Int} (hy : 0 < y) : x < k * y ↔ x / y < k := by
  rw [Int.ediv_lt_iff_lt_mul hy]
theorem most_stop {x y : Int} (hy : 0 < y) : ¬ x < (x / y) * y := by
  rw [most_lt hy]; omega
theorem mul_le_60 {k y : Int} (h0 : 0 ≤ k) (h1 : k ≤ 1048576) (h2 : 0 ≤ y) (h3 : y ≤ 1099511627776) : 0 ≤ k * y ∧ k * y ≤ 1152921504606846976 := by
  refine ⟨Int.mul_nonneg h0 h2, ?_⟩
  calc k * y ≤ 1048576 * y := Int.mul_le_mul_of_nonneg_right h1 h2
    _ ≤ 1048576 * 1099511627776 := Int.mul_le_mul_of_nonneg_left h3 (by omega)
    _ ≤ 1152921504606846976 := by omega

theorem mid_get {α : Type} {out l : List α} {k : Nat} (h : out.length = k) : (out ++ l.drop k)[k]? = l[k]? := by
  rw [List.getElem?_append_right (by omega), h, Nat.sub_self, List.getElem?_drop, Nat.add_zero]
theorem mid_set {α : Type} {out l : List α} {k : Nat} {x v : α} (h : out.length = k) (hx : l[k]? = some x) : (out ++ l.drop k).set k v = (out ++ [v]) ++ l.drop (k + 1) := by
  rw [List.set_append_right _ _ (by omega), h, Nat.sub_self, drop_at hx]; simp

/-- one number of a generated bag -/
def bagE (l : List Int) (i : Nat) : Int := let k := (l.getD i 0) % 1099511627777; if 0 < k % 5 then k / 5 % 12 else k
def bagL (n : Nat) (l : List Int) (p : Nat) : List Int := (List.range n).map fun i => bagE l (p + i)
theorem bagE_ok (l : List Int) (i : Nat) : 0 ≤ bagE l i ∧ bagE l i ≤ 1099511627776 := by
  unfold bagE; simp only; split <;> omega
theorem bagL_len (n : Nat) (l : List Int) (p : Nat) : (bagL n l p).length = n := by simp [bagL]
theorem bagL_succ (n : Nat) (l : List Int) (p : Nat) : bagL (n + 1) l p = bagL n l p ++ [bagE l (p + n)] := by simp [bagL, List.range_succ]
theorem bagL_bag (n : Nat) (l : List Int) (p : Nat) (hn : n ≤ 64) : isBagB (bagL n l p) = true := by
  simp only [isBagB, Bool.and_eq_true, List.all_eq_true, decide_eq_true_eq]
  refine ⟨by rw [bagL_len]; exact hn, fun x hx => ?_⟩
  simp only [bagL, List.mem_map] at hx
  obtain ⟨i, _, rfl⟩ := hx
  exact okU_iff.2 (bagE_ok _ _)

/-- each number times k, or the limit's error (4) -/
def tm1 (k y : Int) : Int × Int := if 1099511627776 < y * k then (0, 4) else (y * k, 0)
/-- what a function makes of the numbers of two lists, one after the other, or the first error -/
def combF (f : Int → Int → Int × Int) : List Int → List Int → List Int × Int
  | x :: a, y :: b => if (f x y).2 ≠ 0 then ([], (f x y).2) else
      if (combF f a b).2 ≠ 0 then ([], (combF f a b).2) else ((f x y).1 :: (combF f a b).1, 0)
  | [], _ => ([], 0)
  | _ :: _, [] => ([], 0)
def pre (out : List Int) (r : List Int × Int) : List Int × Int := if r.2 ≠ 0 then ([], r.2) else (out ++ r.1, 0)
theorem pre_nil (f : Int → Int → Int × Int) (a b : List Int) : pre [] (combF f a b) = combF f a b := by
  unfold pre
  split
  · rename_i h
    cases a with
    | nil => simp [combF] at h
    | cons x a =>
      cases b with
      | nil => simp [combF] at h
      | cons y b =>
        simp only [combF] at h ⊢
        split
        · rfl
        · rename_i h1
          rw [if_neg h1] at h
          split
          · rename_i h2; rfl
          · rename_i h2; rw [if_neg h2] at h; simp at h
  · rename_i h
    simp at h
    rw [List.nil_append, ← h]
theorem comb_err {f : Int → Int → Int × Int} {a b out : List Int} {i : Nat} {x y : Int} (ha : a[i]? = some x) (hb : b[i]? = some y) (h : (f x y).2 ≠ 0) :
    pre out (combF f (a.drop i) (b.drop i)) = ([], (f x y).2) := by
  rw [drop_at ha, drop_at hb]
  simp only [combF, if_pos h, pre]
theorem comb_ok {f : Int → Int → Int × Int} {a b out : List Int} {i : Nat} {x y : Int} (ha : a[i]? = some x) (hb : b[i]? = some y) (h : (f x y).2 = 0) :
    pre out (combF f (a.drop i) (b.drop i)) = pre (out ++ [(f x y).1]) (combF f (a.drop (i + 1)) (b.drop (i + 1))) := by
  rw [drop_at ha, drop_at hb]
  simp only [combF, h, ne_eq, not_true_eq_false, if_false, pre]
  by_cases h2 : (combF f (a.drop (i + 1)) (b.drop (i + 1))).2 = 0
  · simp [h2]
  · simp [h2]
theorem comb_end {f : Int → Int → Int × Int} {l out : List Int} : pre out (combF f [] l) = (out, 0) := by cases l <;> simp [combF, pre]
def timesS (l : List Int) (k : Int) : List Int × Int := if isBagB l = true ∧ 0 ≤ k ∧ k ≤ 1048576 then combF (fun _ y => tm1 k y) l l else ([], 1)
def addS (a b : List Int) : List Int × Int := if fitB a b then combF (fun x y => if 1099511627776 < x + y then (0, 4) else (x + y, 0)) a b else ([], 1)
def subS (a b : List Int) : List Int × Int := if fitB a b then combF (fun x y => if x < y then (0, 10) else (x - y, 0)) a b else ([], 1)
def joinS (a b : List Int) : List Int := if fitB a b then (combF (fun x y => (max x y, 0)) a b).1 else []
def meetS (a b : List Int) : List Int := if fitB a b then (combF (fun x y => (min x y, 0)) a b).1 else []
end Go.Proofs.Ytgbamgijpgjmgaa
/- Words for memory: slices that read as lists of integers, and how they are kept. -/
namespace Go.Proofs.Ytgbamgijpgjmgaa
open Go.RowKit

/-- a quiet walk in one world is a still one -/
theorem wpStill_of_quiet {P : Program} {ops : Array Oper} {W : World} {R : Act → Prop} : ∀ (l : List Oper) (a : Act), wpQuiet P ops (fun w' => w' = W) R l a → wpStill P ops W R l a
  | [], _, h => h
  | o :: rest, a, h => by
    unfold wpQuiet at h
    unfold wpStill
    split
    · rename_i hw
      rw [if_pos hw] at h
      obtain ⟨v, h1, h2⟩ := h
      have h3 := h1 W rfl
      have h4 := wpStill_of_quiet rest _ h2
      unfold Oper.quietAt at h3
      unfold Oper.still
      generalize (execOp a.eval o).run P W = r at *
      cases r with
      | ok n w' =>
        cases n <;> simp only [Oper.quietUpon] at h3 <;> simp only [Oper.stillUpon]
        case value u => exact ⟨h3.1, by rw [h3.2]; exact h4⟩
        case skip => exact ⟨h3.1, by rw [← h3.2]; exact h4⟩
        case enter f args => exact ⟨h3.1, v, h3.2, h4⟩
      | halt x w' => simp only [Oper.quietUpon] at h3
    · rename_i hw
      rw [if_neg hw] at h
      exact wpStill_of_quiet rest _ h
/-- an operation of a quiet region that is guarded off -/
theorem wpQuiet_off {P : Program} {ops : Array Oper} {C : World → Prop} {R : Act → Prop} {a : Act} {o : Oper} {rest : List Oper} (h : Region.wanted o (yielded ops a.tmps) = false)
    (k : ∀ K : Act → Prop, (∀ a, wpQuiet P ops C R rest a → K a) → K (a.put o.dst undef)) : wpQuiet P ops C R (o :: rest) a := by
  unfold wpQuiet
  rw [h]
  exact k _ (fun _ h => h)
/-- a region that draws: n operations that only read, then a tail in one forced order -/
theorem wp_region_qtail {P : Program} {id : Nat} {R : Exit → Act → World → Prop} {a : Act} {w : World} {l : List Oper} (n : Nat) (hm : P.follows .mixedOrders = true) (hB : Region.lexTailB .any l.toArray n = true)
    (h : wpQuiet P l.toArray (fun w' => w' = w.drew) (fun a' => wpList P l.toArray R (l.drop n) a' w.drew) (l.take n) a) : (Code.region id l.toArray true).wp P R a w :=
  wp_region_still_tail n hm hB (wpStill_of_quiet _ _ h)

theorem ret_int {k : IntKind} {a b : Int} (h : a = b) : Ending.returned (.int k a) = .returned (.int k b) := by rw [h]
theorem ret_bool {a b : Bool} (h : a = b) : Ending.returned (.bool a) = .returned (.bool b) := by rw [h]

theorem ret_two {k k' : IntKind} {a b c d : Int} (h : a = b) (h' : c = d) : Ending.returned (.tuple #[.int k a, .int k' c]) = .returned (.tuple #[.int k b, .int k' d]) := by rw [h, h']

/-- w' is w after some draws. -/
def Q (w w' : World) : Prop := ∃ m, w' = w.drewN m
theorem Q.refl (w : World) : Q w w := ⟨0, rfl⟩
theorem Q.drew {a w : World} (h : Q a w) : Q a w.drew := by obtain ⟨m, rfl⟩ := h; exact ⟨m + 1, rfl⟩
theorem Q.drewN {a w : World} (h : Q a w) (n : Nat) : Q a (w.drewN n) := by obtain ⟨m, rfl⟩ := h; exact ⟨m + n, by rw [World.drewN_drewN]⟩
theorem Q.trans {a b c : World} (h : Q a b) (k : Q b c) : Q a c := by obtain ⟨m, rfl⟩ := k; exact h.drewN m
theorem Q.heap {a w : World} (h : Q a w) : w.heap = a.heap := by obtain ⟨m, rfl⟩ := h; rfl

/-- w' extends w: nothing that was there has turned. -/
def E (w w' : World) : Prop := Below w.heap.size w w'
theorem E.refl (w : World) : E w w := Below.refl _ _
theorem E.le {a b : World} (h : E a b) : a.heap.size ≤ b.heap.size := h.size
theorem E.trans {a b c : World} (h : E a b) (k : E b c) : E a c := Below.trans h (Below.mono k h.size)
theorem E.drewN {a b : World} (h : E a b) (n : Nat) : E a (b.drewN n) := ⟨h.os, h.tape, h.output, h.size, h.block⟩
theorem E.drew {a b : World} (h : E a b) : E a b.drew := ⟨h.os, h.tape, h.output, h.size, h.block⟩
theorem E.alloc {a b : World} (h : E a b) (o : Obj) : E a (b.alloc o) := Below.alloc h h.size o
theorem E.setCell {a b : World} (h : E a b) {p : Addr} (hp : a.heap.size ≤ p.block) (u : Value) : E a (b.setCell p u) := Below.setCell h hp u
theorem E.grown {a w w' : World} {row : Option Nat} (h : E a w) (hg : w.grownBy w' row) (hr : ∀ k, row = some k → a.heap.size ≤ k) : E a w' := Below.grown h hg h.size hr
theorem E.up {a b c : World} (h : E a b) (k : Below a.heap.size b c) : E a c := Below.trans h k
theorem E.of_q {a b : World} (h : Q a b) : E a b := by obtain ⟨m, rfl⟩ := h; exact (E.refl a).drewN m
theorem E.q {a b c : World} (h : E a b) (k : Q b c) : E a c := h.trans (E.of_q k)
theorem E.cell {a b : World} (h : E a b) {p : Addr} (hp : p.block < a.heap.size) : b.cell? p = a.cell? p := Below.cell h hp
theorem E.block {a b : World} (h : E a b) {k : Nat} (hk : k < a.heap.size) : b.heap[k]? = a.heap[k]? := Below.block h k hk

/-- A slice value that reads as a list of cells of kind k. -/
structure Nums (k : IntKind) (w : World) (A : Option Addr) (n c : Nat) (l : List Int) : Prop where
  len : l.length = n
  cap : n ≤ c
  mx : c ≤ maxLen
  wf : ∀ x ∈ l, (Lit.int k x).wf = true
  at_ : 0 < n → ∃ b o, A = some ⟨b, o, none⟩ ∧ b < w.heap.size ∧ ∀ i, (h : i < l.length) → w.cell? ⟨b, o + i, none⟩ = some (.int k l[i])

theorem Nums.e {k : IntKind} {w w' : World} {A : Option Addr} {n c : Nat} {l : List Int} (h : Nums k w A n c l) (he : E w w') : Nums k w' A n c l :=
  ⟨h.len, h.cap, h.mx, h.wf, fun hn => by
    obtain ⟨b, o, h1, h2, h3⟩ := h.at_ hn
    exact ⟨b, o, h1, Nat.lt_of_lt_of_le h2 he.le, fun i hi => (he.cell (p := ⟨b, o + i, none⟩) h2).trans (h3 i hi)⟩⟩
theorem Nums.q {k : IntKind} {w w' : World} {A : Option Addr} {n c : Nat} {l : List Int} (h : Nums k w A n c l) (he : Q w w') : Nums k w' A n c l := h.e (E.of_q he)
theorem Nums.nil (k : IntKind) (w : World) (A : Option Addr) (c : Nat) (hc : c ≤ maxLen) : Nums k w A 0 c [] := ⟨rfl, Nat.zero_le _, hc, by simp, fun h => absurd h (by omega)⟩
theorem Nums.cast {k : IntKind} {w : World} {A : Option Addr} {n c : Nat} {l l' : List Int} (h : Nums k w A n c l) (e : l = l') : Nums k w A n c l' := e ▸ h
theorem wf_i64 {x : Int} (h : (Lit.int .i64 x).wf = true) : -9223372036854775808 ≤ x ∧ x ≤ 9223372036854775807 := by
  have h' : IntKind.i64.min ≤ x ∧ x ≤ 9223372036854775807 := by simpa [Lit.wf] using h
  have e : IntKind.i64.min = -9223372036854775808 := by decide
  rw [e] at h'; exact h'
theorem wf_of_i64 {x : Int} (h1 : -9223372036854775808 ≤ x) (h2 : x ≤ 9223372036854775807) : (Lit.int .i64 x).wf = true := WalkArith.wf_i64 ⟨h1, h2⟩
theorem Nums.n63 {k : IntKind} {w : World} {A : Option Addr} {n c : Nat} {l : List Int} (h : Nums k w A n c l) : n ≤ 9223372036854775807 := by
  have := h.cap; have := h.mx; unfold maxLen at this; omega
theorem Nums.c63 {k : IntKind} {w : World} {A : Option Addr} {n c : Nat} {l : List Int} (h : Nums k w A n c l) : c ≤ 9223372036854775807 := by
  have := h.mx; unfold maxLen at this; omega
/-- the cell of element i -/
theorem Nums.get {k : IntKind} {w : World} {A : Option Addr} {n c : Nat} {l : List Int} (h : Nums k w A n c l) {i : Nat} (hi : i < n) :
    ∃ b o x, A = some ⟨b, o, none⟩ ∧ b < w.heap.size ∧ l[i]? = some x ∧ (Lit.int k x).wf = true ∧ w.cell? ⟨b, o + i, none⟩ = some (.int k x) := by
  obtain ⟨b, o, h1, h2, h3⟩ := h.at_ (by omega)
  have hl : i < l.length := by rw [h.len]; exact hi
  exact ⟨b, o, l[i], h1, h2, List.getElem?_eq_getElem hl, h.wf _ (List.getElem_mem hl), h3 i hl⟩

/-- what the shells of the rows' proofs tell of a slice that came in -/
theorem nums_of_row {k : IntKind} {w : World} {a : Option Addr} {len cap : Nat} {zs : List Int} (h : (a = none ∧ len = 0 ∧ cap = 0 ∧ zs = []) ∨
    ∃ x, a = some x ∧ len ≤ cap ∧ cap ≤ maxLen ∧ zs.length = cap ∧ (∀ i, i < zs.length → w.cell? (x.add i) = some (.int k (zs.getD i 0))) ∧ ∀ n ∈ zs, (Lit.int k n).wf = true) :
    Nums k w a len cap (zs.take len) := by
  rcases h with ⟨rfl, rfl, rfl, rfl⟩ | ⟨x, rfl, hl, hm, hz, hc, hw⟩
  · exact Nums.nil _ _ _ _ (Nat.zero_le _)
  · have htl : (zs.take len).length = len := by rw [List.length_take]; omega
    refine ⟨htl, hl, hm, fun y hy => hw y (List.mem_of_mem_take hy), fun hn => ?_⟩
    obtain ⟨b, off, spot⟩ := x
    have h0 := hc 0 (by omega)
    have hspot : spot = none := by simpa [Addr.add] using World.cell?_spot h0
    subst hspot
    have hb : b < w.heap.size := by simpa [Addr.add] using World.block_lt_of_cell? w _ h0
    refine ⟨b, off, rfl, hb, fun i hi => ?_⟩
    rw [htl] at hi
    have := hc i (by omega)
    have he : (⟨b, off, none⟩ : Addr).add i = ⟨b, off + i, none⟩ := by
      unfold Addr.add
      split
      · rename_i h; subst h; rfl
      · rfl
    rw [he] at this
    rw [this, List.getElem_take]
    simp [List.getD, List.getElem?_eq_getElem (show i < zs.length by omega)]

/-- A row of the call's own, from block base on, that holds the numbers l. -/
def Own (k : IntKind) (T : TypeId) (w : World) (base : Nat) (A : Option Addr) (n c : Nat) (l : List Int) : Prop :=
  l.length = n ∧ w.ownsRow base T 1 (.slice A n c) n (l.map (Value.int k)) ∧ ∀ x ∈ l, (Lit.int k x).wf = true

section
variable {k : IntKind} {T : TypeId} {w w' : World} {base base' : Nat} {A : Option Addr} {n c : Nat} {l : List Int}
theorem Own.nil (k : IntKind) (T : TypeId) (w : World) (base : Nat) : Own k T w base none 0 0 [] := ⟨rfl, World.ownsRow_nil _ _ _ _, by simp⟩
theorem Own.form (h : Own k T w base A n c l) : (A = none ∧ n = 0 ∧ c = 0) ∨ ∃ g, A = some ⟨g, 0, none⟩ ∧ base ≤ g ∧ g < w.heap.size ∧ n ≤ c ∧ c ≤ maxLen := by
  obtain ⟨h1, h2, h3⟩ := h
  rcases h2.2 with ⟨hv, hn⟩ | ⟨g, cap, cur, hv, hb, hh, hnc, hcm, _, _⟩
  · left; injection hv with e1 e2 e3; exact ⟨e1, e2, e3⟩
  · right
    injection hv with e1 e2 e3
    subst e1 e3
    refine ⟨g, rfl, hb, ?_, hnc, hcm⟩
    rcases Nat.lt_or_ge g w.heap.size with hlt | hge
    · exact hlt
    · rw [Array.getElem?_eq_none hge] at hh; cases hh
theorem Own.reads (h : Own k T w base A n c l) : Nums k w A n c l := by
  have hf := h.form
  obtain ⟨h1, h2, h3⟩ := h
  refine ⟨h1, ?_, ?_, h3, fun hn => ?_⟩
  · rcases hf with ⟨_, h, _⟩ | ⟨_, _, _, _, h, _⟩ <;> omega
  · rcases hf with ⟨_, _, h⟩ | ⟨_, _, _, _, _, h⟩ <;> (unfold maxLen at *; omega)
  · rcases hf with ⟨_, h, _⟩ | ⟨g, rfl, _, hlt, hnc, hcm⟩
    · omega
    · refine ⟨g, 0, rfl, hlt, fun i hi => ?_⟩
      have := World.ownsRow.cellAt h2 i (by omega)
      rw [Nat.zero_add, this, List.getElem?_map, List.getElem?_eq_getElem hi]
      rfl
theorem Own.e (h : Own k T w base A n c l) (he : E w w') : Own k T w' base A n c l := by
  obtain ⟨h1, h2, h3⟩ := h
  refine ⟨h1, ?_, h3⟩
  obtain ⟨a1, a2⟩ := h2
  refine ⟨a1, ?_⟩
  rcases a2 with a2 | ⟨g, cap, cur, hv, hb, hh, r⟩
  · exact .inl a2
  · refine .inr ⟨g, cap, cur, hv, hb, ?_, r⟩
    have hlt : g < w.heap.size := by
      rcases Nat.lt_or_ge g w.heap.size with hlt | hge
      · exact hlt
      · rw [Array.getElem?_eq_none hge] at hh; cases hh
    rw [he.block hlt]; exact hh
theorem Own.q (h : Own k T w base A n c l) (he : Q w w') : Own k T w' base A n c l := h.e (E.of_q he)
theorem Own.rebase (h : Own k T w base A n c l) (hb : base' ≤ base) : Own k T w base' A n c l := by
  obtain ⟨h1, ⟨a1, a2⟩, h3⟩ := h
  refine ⟨h1, ⟨a1, ?_⟩, h3⟩
  rcases a2 with a2 | ⟨g, cap, cur, hv, hb', r⟩
  · exact .inl a2
  · exact .inr ⟨g, cap, cur, hv, by omega, r⟩
theorem Own.cast {l' : List Int} (h : Own k T w base A n c l) (e : l = l') : Own k T w base A n c l' := e ▸ h
end
end Go.Proofs.Ytgbamgijpgjmgaa
/- Laws for append, make and copy on rows of the call's own, in the words of A. -/
namespace Go.Proofs.Ytgbamgijpgjmgaa
open Go.RowKit

/-- the row of the table of an integer type: zero, one cell, so many bytes -/
structure IntT (P : Program) (S T : TypeId) (k : IntKind) (by8 : Nat) : Prop where
  und : P.underlying S = some (.slice T)
  info : (P.info? T).map (fun i => (i.zero, i.size, i.bytes)) = some (some (.int k 0), 1, by8)
  small : by8 ≤ 8

theorem wf_zero (k : IntKind) : (Lit.int k 0).wf = true := by cases k <;> decide

section
variable {P : Program} {S T : TypeId} {k : IntKind} {by8 : Nat}

theorem own_of_row {w : World} {base : Nat} {v : Value} {n : Nat} {l : List Int} (h : w.ownsRow base T 1 v n (l.map (Value.int k))) (hw : ∀ x ∈ l, (Lit.int k x).wf = true) (hn : 0 < n) :
    ∃ g c, v = .slice (some ⟨g, 0, none⟩) n c ∧ Own k T w base (some ⟨g, 0, none⟩) n c l := by
  have h1 := h.1
  rw [List.length_map, Nat.mul_one] at h1
  rcases h.2 with ⟨_, h0⟩ | ⟨g, cap, cur, rfl, _⟩
  · omega
  · exact ⟨g, cap, rfl, h1, h, hw⟩

theorem ownBlock_le {w : World} {base : Nat} {A : Option Addr} {n c : Nat} {l : List Int} (h : Own k T w base A n c l) : ∀ b, (Value.slice A n c).ownBlock = some b → base ≤ b := by
  intro b hb
  exact (World.ownsRow.lt h.2.1 b hb).1

/-- out = append(out, x), x one number that lies in a block of its own: the source slice is any that reads as [v]. -/
theorem wpList_app1 (it : IntT P S T k by8) (w : World) {ops : Array Oper} {rest : List Oper} {o : Oper} {a : Act} {Q : Exit → Act → World → Prop} (hgd : o.guard = none) (s x : Operand)
    (ho : o.op = .call { callee := .builtin .append, args := #[s, x], argTypes := #[S, S] })
    (base : Nat) (A : Option Addr) (n c : Nat) (l : List Int) (hs : a.eval s = .slice A n c) (hown : Own k T w base A n c l)
    (g : Nat) (v : Int) (hx : a.eval x = .slice (some ⟨g, 0, none⟩) 1 1) (hcell : w.cell? ⟨g, 0, none⟩ = some (.int k v)) (hwf : (Lit.int k v).wf = true)
    (hlen : n ≤ 1099511627776) (hbase : base ≤ w.heap.size)
    (h : ∀ g' c' w', Own k T w' base (some ⟨g', 0, none⟩) (n + 1) c' (l ++ [v]) → w.grownBy w' (Value.slice A n c).ownBlock → Below base w w' → ((Value.slice A n c).ownBlock = some g' ∨ g' = w.heap.size) → wpList P ops Q rest (a.put o.dst (.slice (some ⟨g', 0, none⟩) (n + 1) c')) w') :
    wpList P ops Q (o :: rest) a w := by
  obtain ⟨i, hi, hz0, hz1, hz2⟩ := info_parts it.info
  have hsm := it.small
  refine wpList_plain hgd fun K hK' => ?_
  obtain ⟨v', w', hrun, h2, h3, h4, h5⟩ := run_append_own_at (P := P) w base S o.type T i (.int k 0) 1 by8 it.und hi hz0 hz1 hz2 rfl (by decide) _ n _ hown.2.1 ⟨g, 0, none⟩ 1 1 [.int k v] rfl
    (by intro j u hu
        cases j with
        | zero => simp at hu; subst hu; simpa [Addr.add] using hcell
        | succ j => simp at hu)
    (by intro u hu; simp at hu; subst hu; rfl) (by unfold maxLen; omega)
    (by have : (n + 1) * by8 ≤ (n + 1) * 8 := Nat.mul_le_mul_left _ hsm
        omega) hbase
  unfold Oper.wp execOp
  simp only [ho, resolve, invoke, builtin, Sem.run_bind, Sem.run_pure, Result.andThen_ok, List.map_toArray, List.map_cons, List.map_nil, hs, hx, hrun]
  have hm : l.map (Value.int k) ++ [.int k v] = (l ++ [v]).map (Value.int k) := by simp
  rw [hm] at h2
  obtain ⟨g', c', rfl, hO⟩ := own_of_row h2 (by intro y hy; rcases List.mem_append.1 hy with hy | hy; exact hown.2.2 y hy; simp at hy; subst hy; exact hwf) (by omega)
  refine hK' _ _ (h g' c' w' hO h3 ((Below.refl base w).grown h3 hbase (ownBlock_le hown)) ?_)
  rcases h5 with h5 | h5
  · left; rw [← h5]; rfl
  · right; simpa [Value.ownBlock] using h5

theorem cell_new (w : World) (x : Value) (t : TypeId) : (w.alloc (.cells #[x] t)).cell? ⟨w.heap.size, 0, none⟩ = some x := by
  exact (cell_one_new w x t 0 x rfl)

theorem grown_of_alloc {w w' : World} {o : Obj} {row : Option Nat} (h : (w.alloc o).grownBy w' row) : w.grownBy w' row :=
  ⟨h.os, h.tape, h.output, by have := h.size; simp at this; omega, fun b hb hne => (h.block b (by simp; omega) hne).trans (Below.heap_alloc w o b hb)⟩

/-- out = append(out, v): the source has just been built in a new block -/
theorem wpList_app1n (it : IntT P S T k by8) (w : World) {ops : Array Oper} {rest : List Oper} {o : Oper} {a : Act} {Q : Exit → Act → World → Prop} (hgd : o.guard = none) (s x : Operand)
    (ho : o.op = .call { callee := .builtin .append, args := #[s, x], argTypes := #[S, S] })
    (base : Nat) (A : Option Addr) (n c : Nat) (l : List Int) (hs : a.eval s = .slice A n c) (hown : Own k T w base A n c l)
    (v : Int) (hx : a.eval x = .slice (some ⟨w.heap.size, 0, none⟩) 1 1) (hwf : (Lit.int k v).wf = true)
    (hlen : n ≤ 1099511627776) (hbase : base ≤ w.heap.size)
    (h : ∀ g' c' w', Own k T w' base (some ⟨g', 0, none⟩) (n + 1) c' (l ++ [v]) → w.grownBy w' (Value.slice A n c).ownBlock → Below base w w' → ((Value.slice A n c).ownBlock = some g' ∨ w.heap.size ≤ g') → wpList P ops Q rest (a.put o.dst (.slice (some ⟨g', 0, none⟩) (n + 1) c')) w') :
    wpList P ops Q (o :: rest) a (w.alloc (.cells #[.int k v] T)) := by
  refine wpList_app1 it (w.alloc (.cells #[.int k v] T)) hgd s x ho base A n c l hs (hown.e ((E.refl w).alloc _)) w.heap.size v hx (cell_new _ _ _) hwf hlen (by simp; omega) ?_
  intro g' c' w' hO hG hB hor
  have hG' := grown_of_alloc hG
  refine h g' c' w' hO hG' ((Below.refl base w).grown hG' hbase (ownBlock_le hown)) ?_
  rcases hor with h | h
  · exact .inl h
  · right; rw [h]; simp

/-- make([]T, n): n zeros of the call's own, in the new block -/
theorem wpList_mk (it : IntT P S T k by8) (w : World) {ops : Array Oper} {rest : List Oper} {o : Oper} {a : Act} {Q : Exit → Act → World → Prop} (hgd : o.guard = none) (x y : Operand)
    (ho : o.op = Op.makeSlice S x y) (kl kc : IntKind) (L C : Int) (n : Nat) (hl : a.eval x = .int kl L) (hc : a.eval y = .int kc C) (hL : L = (n : Int)) (hC : C = (n : Int)) (hn : n ≤ 17592186044416)
    (h : ∀ w', Own k T w' w.heap.size (some ⟨w.heap.size, 0, none⟩) n n (List.replicate n 0) → E w w' → w'.heap.size = w.heap.size + 1 → wpList P ops Q rest (a.put o.dst (.slice (some ⟨w.heap.size, 0, none⟩) n n)) w') :
    wpList P ops Q (o :: rest) a w := by
  obtain ⟨i, hi, hz0, hz1, hz2⟩ := info_parts it.info
  have hsm := it.small
  have hb : i.bytes * n ≤ 281474976710656 := by
    rw [hz2]
    have : by8 * n ≤ 8 * n := Nat.mul_le_mul_right _ hsm
    omega
  refine wpList_plain hgd fun K hK' => ?_
  have hbI : (i.bytes : Int) * (n : Int) ≤ 281474976710656 := by
    have h : ((i.bytes * n : Nat) : Int) ≤ 281474976710656 := by omega
    rwa [Int.natCast_mul] at h
  have hr := run_make (P := P) w S T i (.int k 0) it.und hi hz0 kl kc n n (by omega) (by omega) hbI (by omega)
  simp only [Int.toNat_natCast] at hr
  subst hL
  subst hC
  unfold Oper.wp
  simp [execOp, ho, hl, hc, hr, Result.andThen]
  refine hK' _ _ (h _ ⟨by simp, ⟨by simp, .inr ⟨w.heap.size, n, _, rfl, Nat.le_refl _, heap_alloc_new w _, Nat.le_refl _, by unfold maxLen; omega, by rw [size_madeCells, hz1], ?_⟩⟩, ?_⟩ ((E.refl w).alloc _) (by simp))
  · rw [hz1, Nat.mul_one]
    show (madeCells #[Value.int k 0] n).toList.take n = _
    rw [toList_madeCells_one]
    simp
  · intro y hy
    rw [List.eq_of_mem_replicate hy]
    exact wf_zero k

/-- copy(dst, src): dst a row of the call's own, as long as src -/
theorem wpList_cp (it : IntT P S T k by8) (w : World) {ops : Array Oper} {rest : List Oper} {o : Oper} {a : Act} {Q : Exit → Act → World → Prop} (hgd : o.guard = none) (d s : Operand)
    (ho : o.op = .call { callee := .builtin .copy, args := #[d, s], argTypes := #[S, S] }) (base g n c' : Nat) (A : Option Addr) (c : Nat) (cur l : List Int)
    (hd : a.eval d = .slice (some ⟨g, 0, none⟩) n c') (hs : a.eval s = .slice A n c) (hown : Own k T w base (some ⟨g, 0, none⟩) n c' cur) (hc : c' = n) (hr : Nums k w A n c l)
    (h : ∀ w', Own k T w' base (some ⟨g, 0, none⟩) n c' l → Below base w w' → wpList P ops Q rest (a.put o.dst (goInt n)) w') : wpList P ops Q (o :: rest) a w := by
  subst hc
  obtain ⟨i, hi, hz0, hz1, hz2⟩ := info_parts it.info
  obtain ⟨h1, ⟨a1, a2⟩, h3⟩ := hown
  rcases a2 with ⟨hv, _⟩ | ⟨g', cap, cu, hv, hb, hh, hnc, hcm, hsz, htk⟩
  · injection hv with e1; cases e1
  · injection hv with e1 e2 e3
    injection e1 with e1
    injection e1 with e1
    subst e1 e3
    have hcl : (l.map (Value.int k)).length = c' := by rw [List.length_map, hr.len]
    have key : (splice cu.toList 0 (l.map (Value.int k))) = l.map (Value.int k) := by
      unfold splice
      rw [List.take_zero, List.nil_append, Nat.zero_add, hcl, List.drop_eq_nil_of_le (by rw [Array.length_toList, hsz]; omega), List.append_nil]
    refine wpList_copy_splice hgd d s S S ho T it.und (by rw [hi]; simp [hz1]) _ _ _ _ _ _ hd hs g 0 cu.toList T (by simpa using hh) (l.map (Value.int k)) (by rw [hcl]; exact (Nat.min_self _).symm) ?_ (by rw [hcl]; simp [hsz]) ?_ base w (Below.refl _ _) hb ?_
    · intro hpos
      rw [hcl] at hpos
      obtain ⟨b, off, rfl, _, hce⟩ := hr.at_ hpos
      refine ⟨rfl, _, rfl, fun j v hj => ?_⟩
      rw [List.getElem?_map] at hj
      obtain ⟨x, hx, rfl⟩ := Option.map_eq_some_iff.1 hj
      obtain ⟨hj', rfl⟩ := List.getElem?_eq_some_iff.1 hx
      have := hce j hj'
      rw [← this]
      unfold Addr.add
      split
      · rename_i h0; subst h0; rfl
      · rfl
    · exact ints_oneCell k l
    · intro w' HG hB
      rw [hcl]
      refine h w' ⟨hr.len, ⟨by rw [hcl, Nat.mul_one], .inr ⟨g, c', _, rfl, hb, HG.out, Nat.le_refl _, hcm, ?_, ?_⟩⟩, hr.wf⟩ hB
      · rw [key]; simp [hr.len]
      · rw [key]; simp only [Nat.mul_one]; rw [List.take_of_length_le (by rw [hcl]; omega)]

/-- a store into a row of the call's own -/
theorem Own.set {w : World} {base : Nat} {g n c : Nat} {l : List Int} (h : Own k T w base (some ⟨g, 0, none⟩) n c l) (j : Nat) (v : Int) (hw : (Lit.int k v).wf = true) :
    Own k T (w.setCell ⟨g, j, none⟩ (.int k v)) base (some ⟨g, 0, none⟩) n c (l.set j v) := by
  obtain ⟨h1, h2, h3⟩ := h
  refine ⟨by simpa using h1, ?_, ?_⟩
  · have := (World.ownsRow.stored h2 j (.int k v)).1
    rwa [← List.map_set] at this
  · intro y hy
    rcases List.mem_or_eq_of_mem_set hy with h | h
    · exact h3 y h
    · subst h; exact hw
theorem Own.get {w : World} {base : Nat} {A : Option Addr} {n c : Nat} {l : List Int} (h : Own k T w base A n c l) {i : Nat} (hi : i < n) :
    ∃ g x, A = some ⟨g, 0, none⟩ ∧ base ≤ g ∧ g < w.heap.size ∧ l[i]? = some x ∧ (Lit.int k x).wf = true ∧ w.cell? ⟨g, i, none⟩ = some (.int k x) ∧ w.frozen? ⟨g, i, none⟩ = false := by
  rcases h.form with ⟨_, h0, _⟩ | ⟨g, rfl, hb, hlt, _, _⟩
  · omega
  · have hl : i < l.length := by rw [h.1]; exact hi
    refine ⟨g, l[i], rfl, hb, hlt, List.getElem?_eq_getElem hl, h.2.2 _ (List.getElem_mem hl), ?_, World.ownsRow.frozenAt h.2.1 i⟩
    rw [World.ownsRow.cellAt h.2.1 i (by omega), List.getElem?_map, List.getElem?_eq_getElem hl]; rfl

theorem Own.getg {w : World} {base g n c : Nat} {l : List Int} (h : Own k T w base (some ⟨g, 0, none⟩) n c l) {i : Nat} (hi : i < n) :
    ∃ x, base ≤ g ∧ g < w.heap.size ∧ l[i]? = some x ∧ (Lit.int k x).wf = true ∧ w.cell? ⟨g, i, none⟩ = some (.int k x) ∧ w.frozen? ⟨g, i, none⟩ = false := by
  obtain ⟨g', x, e, r⟩ := h.get hi
  injection e with e
  injection e with e
  subst e
  exact ⟨x, r⟩

/-- what is handed back: a slice of the call's own with the numbers l; nothing that was there has turned -/
def RetOwn (k : IntKind) (T : TypeId) (w : World) (l : List Int) (e : Ending) (w' : World) : Prop :=
  ∃ A n c, e = .returned (.slice A n c) ∧ Own k T w' w.heap.size A n c l ∧ E w w'
def RetOwnErr (k : IntKind) (T : TypeId) (w : World) (r : List Int × Int) (e : Ending) (w' : World) : Prop :=
  ∃ A n c, e = .returned (.tuple #[.slice A n c, .int .i64 r.2]) ∧ Own k T w' w.heap.size A n c r.1 ∧ E w w'
theorem RetOwnErr.cast {w w' : World} {r r' : List Int × Int} {e : Ending} (h : RetOwnErr k T w r e w') (hr : r = r') : RetOwnErr k T w r' e w' := hr ▸ h
theorem RetOwnErr.mk_ {w w' : World} {r : List Int × Int} {A : Option Addr} {n c : Nat} {l : List Int} {e : Int} (hr : r = (l, e)) (hO : Own k T w' w.heap.size A n c l) (hE : E w w') :
    RetOwnErr k T w r (.returned (.tuple #[.slice A n c, .int .i64 e])) w' := ⟨A, n, c, by rw [hr], by rw [hr]; exact hO, hE⟩
theorem RetOwn.mk_ {w w' : World} {r : List Int} {A : Option Addr} {n c : Nat} {l : List Int} (hr : r = l) (hO : Own k T w' w.heap.size A n c l) (hE : E w w') :
    RetOwn k T w r (.returned (.slice A n c)) w' := ⟨A, n, c, rfl, by rw [hr]; exact hO, hE⟩
end
end Go.Proofs.Ytgbamgijpgjmgaa
/- append of a whole slice to a row of the call's own. -/
namespace Go.Proofs.Ytgbamgijpgjmgaa
open Go.RowKit

section
variable {P : Program} {S T : TypeId} {k : IntKind} {by8 : Nat}
theorem own_of_row' {w : World} {base : Nat} {v : Value} {n : Nat} {l : List Int} (h : w.ownsRow base T 1 v n (l.map (Value.int k))) (hw : ∀ x ∈ l, (Lit.int k x).wf = true) :
    ∃ A c, v = .slice A n c ∧ Own k T w base A n c l := by
  have h1 := h.1
  rw [List.length_map, Nat.mul_one] at h1
  have h' := h
  rcases h.2 with ⟨rfl, rfl⟩ | ⟨g, cap, cur, rfl, _⟩
  · exact ⟨none, 0, rfl, h1, h', hw⟩
  · exact ⟨_, cap, rfl, h1, h', hw⟩
theorem add_plain (b o j : Nat) : (⟨b, o, none⟩ : Addr).add j = ⟨b, o + j, none⟩ := by
  unfold Addr.add
  split
  · rename_i h0; subst h0; rfl
  · rfl
/-- append(out, src...): src any slice that reads as l2 -/
theorem run_appN (it : IntT P S T k by8) (w : World) (ty : TypeId) (base : Nat) (A : Option Addr) (n c : Nat) (l : List Int) (hown : Own k T w base A n c l)
    (A2 : Option Addr) (m c2 : Nat) (l2 : List Int) (hr : Nums k w A2 m c2 l2) (hlen : n + m ≤ 1099511627776) (hbase : base ≤ w.heap.size) :
    ∃ A' c' w', (Builtin.append_ #[S, S] ty #[.slice A n c, .slice A2 m c2]).run P w = .ok (.slice A' (n + m) c') w' ∧ Own k T w' base A' (n + m) c' (l ++ l2) ∧ w.grownBy w' (Value.slice A n c).ownBlock ∧
      ((Value.slice A' (n + m) c').ownBlock = (Value.slice A n c).ownBlock ∨ (Value.slice A' (n + m) c').ownBlock = some w.heap.size) := by
  obtain ⟨i, hi, hz0, hz1, hz2⟩ := info_parts it.info
  have hsm := it.small
  rcases A2 with _ | ad
  · have hm : m = 0 := by
      rcases Nat.eq_zero_or_pos m with h0 | h0
      · exact h0
      · obtain ⟨_, _, h, _⟩ := hr.at_ h0; cases h
    subst hm
    have hn : l2 = [] := List.eq_nil_of_length_eq_zero hr.len
    subst hn
    refine ⟨A, c, w, ?_, by simpa using hown, World.grownBy.refl w _, .inl rfl⟩
    rcases hown.form with ⟨rfl, rfl, rfl⟩ | ⟨g, rfl, _, _, hnc, _⟩
    · simp [Builtin.append_, run_underlying it.und, sizeOf, typeInfo, hi, Builtin.lenOf, Builtin.firstCells]
    · simp [Builtin.append_, run_underlying it.und, sizeOf, typeInfo, hi, Builtin.lenOf, Builtin.firstCells, hnc, storeCells]
  · have hcells : ∀ j u, (l2.map (Value.int k))[j]? = some u → w.cell? (ad.add j) = some u := by
      intro j u hu
      rw [List.getElem?_map] at hu
      obtain ⟨x, hx, rfl⟩ := Option.map_eq_some_iff.1 hu
      obtain ⟨hj', rfl⟩ := List.getElem?_eq_some_iff.1 hx
      obtain ⟨b, o, hh, _, hc⟩ := hr.at_ (by have := hr.len; omega)
      injection hh with hh
      subst hh
      rw [add_plain]
      exact hc j hj'
    obtain ⟨v', w', hrun, h2, h3, _, h5⟩ := run_append_own_at (P := P) w base S ty T i (.int k 0) 1 by8 it.und hi hz0 hz1 hz2 rfl (by decide) _ n _ hown.2.1 ad m c2 (l2.map (Value.int k)) (by rw [List.length_map, hr.len, Nat.mul_one]) hcells (ints_oneCell k l2) (by unfold maxLen; omega)
      (by have : (n + m) * by8 ≤ (n + m) * 8 := Nat.mul_le_mul_left _ hsm
          omega) hbase
    rw [← List.map_append] at h2
    obtain ⟨A', c', rfl, hO⟩ := own_of_row' h2 (by intro y hy; rcases List.mem_append.1 hy with hy | hy; exact hown.2.2 y hy; exact hr.wf y hy)
    exact ⟨A', c', w', hrun, hO, h3, h5⟩
theorem wpList_appN (it : IntT P S T k by8) (w : World) {ops : Array Oper} {rest : List Oper} {o : Oper} {a : Act} {Q : Exit → Act → World → Prop} (hgd : o.guard = none) (s x : Operand)
    (ho : o.op = .call { callee := .builtin .append, args := #[s, x], argTypes := #[S, S] })
    (base : Nat) (A : Option Addr) (n c : Nat) (l : List Int) (hs : a.eval s = .slice A n c) (hown : Own k T w base A n c l)
    (A2 : Option Addr) (m c2 : Nat) (l2 : List Int) (hx : a.eval x = .slice A2 m c2) (hr : Nums k w A2 m c2 l2) (hlen : n + m ≤ 1099511627776) (hbase : base ≤ w.heap.size)
    (h : ∀ A' c' w', Own k T w' base A' (n + m) c' (l ++ l2) → w.grownBy w' (Value.slice A n c).ownBlock → Below base w w' → wpList P ops Q rest (a.put o.dst (.slice A' (n + m) c')) w') :
    wpList P ops Q (o :: rest) a w := by
  obtain ⟨A', c', w', hrun, hO, h3, h5⟩ := run_appN it w o.type base A n c l hown A2 m c2 l2 hr hlen hbase
  refine wpList_plain hgd fun K hK' => ?_
  unfold Oper.wp execOp
  simp only [ho, resolve, invoke, builtin, Sem.run_bind, Sem.run_pure, Result.andThen_ok, List.map_toArray, List.map_cons, List.map_nil, hs, hx, hrun]
  exact hK' _ _ (h A' c' w' hO h3 ((Below.refl base w).grown h3 hbase (ownBlock_le hown)))
/-- append of one number, as a step of a region that draws; W any world, the source lies at block g -/
theorem step_app1 (it : IntT P S T k by8) {W : World} {ops : Array Oper} {o : Oper} {a : Act} {K : Act → World → Prop} {Q : Exit → Act → World → Prop} {R : Prop} (hgd : o.guard = none) (s x : Operand)
    (ho : o.op = .call { callee := .builtin .append, args := #[s, x], argTypes := #[S, S] })
    (base : Nat) (A : Option Addr) (n c : Nat) (l : List Int) (hs : a.eval s = .slice A n c) (hown : Own k T W base A n c l)
    (g : Nat) (v : Int) (hx : a.eval x = .slice (some ⟨g, 0, none⟩) 1 1) (hcell : W.cell? ⟨g, 0, none⟩ = some (.int k v)) (hwf : (Lit.int k v).wf = true)
    (hlen : n + 1 ≤ 1099511627776) (hbase : base ≤ W.heap.size)
    (h : ∀ g' c' w', Own k T w' base (some ⟨g', 0, none⟩) (n + 1) c' (l ++ [v]) → W.grownBy w' (Value.slice A n c).ownBlock → Below base W w' → K (a.put o.dst (.slice (some ⟨g', 0, none⟩) (n + 1) c')) w') :
    if Region.wanted o (yielded ops a.tmps) = true then Oper.wp P o a W K Q else R := by
  have hw : Region.wanted o (yielded ops a.tmps) = true := by simp [Region.wanted, hgd]
  rw [if_pos hw]
  have hN : Nums k W (some ⟨g, 0, none⟩) 1 1 [v] := ⟨rfl, Nat.le_refl _, by unfold maxLen; omega, by intro y hy; simp at hy; subst hy; exact hwf, fun _ => ⟨g, 0, rfl, World.block_lt_of_cell? W _ hcell, fun i hi => by
    have : i = 0 := by simpa using hi
    subst this; exact hcell⟩⟩
  obtain ⟨A', c', w', hrun, hO, h3, h5⟩ := run_appN it W o.type base A n c l hown _ 1 1 [v] hN hlen hbase
  unfold Oper.wp execOp
  simp only [ho, resolve, invoke, builtin, Sem.run_bind, Sem.run_pure, Result.andThen_ok, List.map_toArray, List.map_cons, List.map_nil, hs, hx, hrun]
  rcases hO.form with ⟨_, h0, _⟩ | ⟨g', rfl, _⟩
  · omega
  · exact h g' c' w' hO h3 ((Below.refl base W).grown h3 hbase (ownBlock_le hown))
theorem Own.empty (w : World) (k : IntKind) (T : TypeId) : Own k T (w.alloc (.cells #[] T)) w.heap.size (some ⟨w.heap.size, 0, none⟩) 0 0 [] :=
  ⟨rfl, World.ownsRow_made w #[] 0 (Nat.le_refl _) (by unfold maxLen; omega) rfl, by simp⟩
end

def ob (A : Option Addr) : Option Nat := A.map (·.block)
theorem ob_eq (A : Option Addr) (n c : Nat) : (Value.slice A n c).ownBlock = ob A := by cases A <;> rfl
/-- two rows do not share a block -/
def apartS (A1 A2 : Option Addr) : Prop := ∀ b, ob A1 = some b → ob A2 ≠ some b
theorem apartS.symm {A1 A2 : Option Addr} (h : apartS A1 A2) : apartS A2 A1 := fun b h1 h2 => h b h2 h1
theorem apart_grow {A1 A2 : Option Addr} {n c g B : Nat} (h : apartS A1 A2) (hB : ∀ b, ob A1 = some b → b < B) (hor : (Value.slice A2 n c).ownBlock = some g ∨ B ≤ g) : apartS A1 (some ⟨g, 0, none⟩) := by
  intro b hb hg
  have : g = b := by simpa [ob] using hg
  subst this
  rcases hor with h1 | h1
  · rw [ob_eq] at h1; exact h g hb h1
  · have := hB g hb; omega
theorem Own.ltN {k : IntKind} {T : TypeId} {w : World} {base : Nat} {A : Option Addr} {n c : Nat} {l : List Int} (h : Own k T w base A n c l) : ∀ b, ob A = some b → base ≤ b ∧ b < w.heap.size := by
  intro b hb
  exact World.ownsRow.lt h.2.1 b (by rw [ob_eq]; exact hb)
theorem Own.keptA {k : IntKind} {T : TypeId} {w w' : World} {base : Nat} {A A2 : Option Addr} {n c n2 c2 : Nat} {l : List Int} (h : Own k T w base A n c l) (hG : w.grownBy w' (Value.slice A2 n2 c2).ownBlock) (hap : apartS A A2) : Own k T w' base A n c l := by
  refine ⟨h.1, h.2.1.kept hG ?_, h.2.2⟩
  rw [ob_eq, ob_eq]
  cases ha : ob A with
  | none => exact .inl rfl
  | some b => exact .inr fun e => hap b ha e.symm
theorem apart_none (A : Option Addr) : apartS none A := fun b h => by cases h
end Go.Proofs.Ytgbamgijpgjmgaa
/- Frames with exceptions; words for blocks and boxes (no package in sight). -/
namespace Go.Proofs.Ytgbamgijpgjmgaa
open Go.RowKit

def RetK (w : World) (b : Bool) (e : Ending) (w' : World) : Prop := e = .returned (.bool b) ∧ E w w'
/-- w' extends w, but for the blocks X -/
structure Ex (X : Nat → Prop) (w w' : World) : Prop where
  os : w'.os = w.os
  tape : w'.tape = w.tape
  output : w'.output = w.output
  size : w.heap.size ≤ w'.heap.size
  block : ∀ i, i < w.heap.size → ¬ X i → w'.heap[i]? = w.heap[i]?
theorem Ex.of_e {X : Nat → Prop} {w w' : World} (h : E w w') : Ex X w w' := ⟨h.os, h.tape, h.output, h.size, fun _ hi _ => h.block hi⟩
theorem Ex.refl (X : Nat → Prop) (w : World) : Ex X w w := .of_e (E.refl w)
theorem Ex.trans {X Y Z : Nat → Prop} {a b c : World} (h : Ex X a b) (k : Ex Y b c) (hX : ∀ i, i < a.heap.size → X i → Z i) (hY : ∀ i, i < a.heap.size → Y i → Z i) : Ex Z a c :=
  ⟨k.os.trans h.os, k.tape.trans h.tape, k.output.trans h.output, Nat.le_trans h.size k.size, fun i hi hz => (k.block i (Nat.lt_of_lt_of_le hi h.size) (fun y => hz (hY i hi y))).trans (h.block i hi (fun x => hz (hX i hi x)))⟩
theorem Ex.mono {X Z : Nat → Prop} {a b : World} (h : Ex X a b) (hX : ∀ i, i < a.heap.size → X i → Z i) : Ex Z a b :=
  ⟨h.os, h.tape, h.output, h.size, fun i hi hz => h.block i hi (fun x => hz (hX i hi x))⟩
theorem Ex.e {X : Nat → Prop} {a b : World} (h : Ex X a b) (hX : ∀ i, X i → a.heap.size ≤ i) : E a b :=
  ⟨h.os, h.tape, h.output, h.size, fun i hi => h.block i hi (fun x => by have := hX i x; omega)⟩
theorem Ex.drew {X : Nat → Prop} {a b : World} (h : Ex X a b) : Ex X a b.drew := ⟨h.os, h.tape, h.output, h.size, h.block⟩
theorem Ex.setCell {X : Nat → Prop} {a b : World} (h : Ex X a b) (p : Addr) (hp : a.heap.size ≤ p.block ∨ X p.block) (u : Value) : Ex X a (b.setCell p u) := by
  have hk : Below 0 b (b.setCell p u) := (Below.refl 0 b).setCell (Nat.zero_le _) u
  refine ⟨hk.os.trans h.os, hk.tape.trans h.tape, hk.output.trans h.output, Nat.le_trans h.size hk.size, fun i hi hx => ?_⟩
  rw [Below.heap_setCell _ _ _ _ (fun e => ?_)]
  · exact h.block i hi hx
  · rcases hp with hp | hp
    · omega
    · exact hx (e ▸ hp)
theorem Ex.grown {X : Nat → Prop} {a b c : World} {row : Option Nat} (h : Ex X a b) (hg : b.grownBy c row) (hr : ∀ k, row = some k → a.heap.size ≤ k ∨ X k) : Ex X a c :=
  ⟨hg.os.trans h.os, hg.tape.trans h.tape, hg.output.trans h.output, Nat.le_trans h.size hg.size, fun i hi hx => (hg.block i (Nat.lt_of_lt_of_le hi h.size) (fun e => by
    rcases hr i e.symm with hr | hr
    · omega
    · exact hx hr)).trans (h.block i hi hx)⟩
theorem Ex.cell {X : Nat → Prop} {a b : World} (h : Ex X a b) {p : Addr} (hp : p.block < a.heap.size) (hx : ¬ X p.block) : b.cell? p = a.cell? p := World.cell?_of_block (h.block p.block hp hx)
theorem Ex.put {X : Nat → Prop} {a b : World} (h : Ex X a b) (l : Nat) (o : Obj) (hl : a.heap.size ≤ l ∨ X l) : Ex X a (b.putObj l o) :=
  ⟨h.os, h.tape, h.output, by rw [World.putObj_size]; exact h.size, fun i hi hx => by
    rw [World.putObj_heap_other (fun e => ?_)]
    · exact h.block i hi hx
    · subst e
      rcases hl with hl | hl
      · omega
      · exact hx hl⟩
theorem Ex.fix {X : Nat → Prop} {a b : World} {l : Nat} (h : Ex (fun i => i = l ∨ X i) a b) (hb : b.heap[l]? = a.heap[l]?) : Ex X a b :=
  ⟨h.os, h.tape, h.output, h.size, fun i hi hx => by
    by_cases e : i = l
    · rw [e]; exact hb
    · exact h.block i hi (fun x => x.elim e hx)⟩
theorem Ex.alloc {X : Nat → Prop} {a b : World} (h : Ex X a b) (o : Obj) : Ex X a (b.alloc o) :=
  h.trans (Ex.of_e (X := fun _ => False) ((E.refl b).alloc o)) (fun _ _ x => x) (fun _ _ y => y.elim)
theorem lt_blk {w : World} {g : Nat} {o : Obj} (h : w.heap[g]? = some o) : g < w.heap.size := (Array.getElem?_eq_some_iff.1 h).1
theorem intTk : IntT Try.prog 23 3 .i64 8 := ⟨Try.underlying23, by kernel_rfl, by decide⟩
theorem Own.ex {k : IntKind} {T : TypeId} {X : Nat → Prop} {w w' : World} {base : Nat} {A : Option Addr} {n c : Nat} {l : List Int} (h : Own k T w base A n c l) (hX : Ex X w w') (hb : ∀ b, ob A = some b → ¬ X b) : Own k T w' base A n c l := by
  refine ⟨h.1, ⟨h.2.1.1, ?_⟩, h.2.2⟩
  rcases h.2.1.2 with a2 | ⟨g, cap, cur, hv, hbg, hh, r⟩
  · exact .inl a2
  · have hA : A = some ⟨g, 0, none⟩ := by injection hv
    refine .inr ⟨g, cap, cur, hv, hbg, ?_, r⟩
    rw [hX.block g (Array.getElem?_eq_some_iff.1 hh).1 (hb g (by rw [hA]; rfl))]
    exact hh
theorem keepE {w1 w2 : World} (hE : E w1 w2) : w1.heap.size ≤ w2.heap.size ∧ ∀ b o, b < w1.heap.size → w2.cell? ⟨b, o, none⟩ = w1.cell? ⟨b, o, none⟩ := ⟨hE.le, fun b o hb => hE.cell (p := ⟨b, o, none⟩) hb⟩
theorem sKeepK {N : Nat} {w0 w1 w2 : World} (h : N ≤ w1.heap.size ∧ ∀ b o, b < N → w1.cell? ⟨b, o, none⟩ = w0.cell? ⟨b, o, none⟩) (hE : E w1 w2) : N ≤ w2.heap.size ∧ ∀ b o, b < N → w2.cell? ⟨b, o, none⟩ = w0.cell? ⟨b, o, none⟩ :=
  ⟨Nat.le_trans h.1 hE.le, fun b o hb => (hE.cell (p := ⟨b, o, none⟩) (Nat.lt_of_lt_of_le hb h.1)).trans (h.2 b o hb)⟩
theorem sKeepB {N : Nat} {w0 w1 w2 : World} (h : N ≤ w1.heap.size ∧ ∀ b o, b < N → w1.cell? ⟨b, o, none⟩ = w0.cell? ⟨b, o, none⟩) (hB : Below N w1 w2) : N ≤ w2.heap.size ∧ ∀ b o, b < N → w2.cell? ⟨b, o, none⟩ = w0.cell? ⟨b, o, none⟩ :=
  ⟨Nat.le_trans h.1 hB.size, fun b o hb => (hB.cell (p := ⟨b, o, none⟩) hb).trans (h.2 b o hb)⟩
theorem cells3_new (w : World) (x y z : Value) (t : TypeId) : (w.alloc (.cells #[x, y, z] t)).cell? ⟨w.heap.size, 0, none⟩ = some x ∧ (w.alloc (.cells #[x, y, z] t)).cell? ⟨w.heap.size, 1, none⟩ = some y ∧ (w.alloc (.cells #[x, y, z] t)).cell? ⟨w.heap.size, 2, none⟩ = some z :=
  ⟨cell_of_row _ _ 0 _ _ _ (heap_alloc_new w _), cell_of_row _ _ 1 _ _ _ (heap_alloc_new w _), cell_of_row _ _ 2 _ _ _ (heap_alloc_new w _)⟩
end Go.Proofs.Ytgbamgijpgjmgaa
/- Lots as lists of units: putting together, and what a list of units determines. -/
namespace Go.Proofs.Ytgbamgijpgjmgaa

abbrev Lt := Int × Int × Int
abbrev Un := Int × Int
def unitsOf (f a : Int) : Nat → List Un
  | 0 => []
  | n + 1 => (f, a) :: unitsOf f (a + 1) n
def ul (x : Lt) : List Un := unitsOf x.1 x.2.1 x.2.2.toNat
def U (l : List Lt) : List Un := l.flatMap ul
theorem U_nil : U [] = [] := rfl
theorem U_cons (x : Lt) (l : List Lt) : U (x :: l) = ul x ++ U l := rfl
theorem U_app (a b : List Lt) : U (a ++ b) = U a ++ U b := List.flatMap_append
theorem U_one (x : Lt) : U [x] = ul x := by simp [U]
theorem unitsOf_len (f a : Int) (n : Nat) : (unitsOf f a n).length = n := by
  induction n generalizing a with
  | zero => rfl
  | succ n ih => rw [unitsOf, List.length_cons, ih]
theorem unitsOf_add (f a : Int) (m n : Nat) : unitsOf f a (m + n) = unitsOf f a m ++ unitsOf f (a + m) n := by
  induction m generalizing a with
  | zero => simp [unitsOf]
  | succ m ih =>
    rw [show m + 1 + n = (m + n) + 1 by omega, unitsOf, ih, unitsOf, List.cons_append, show a + ((m + 1 : Nat) : Int) = a + 1 + (m : Int) by omega]
theorem mem_unitsOf {f a : Int} {n : Nat} {u : Un} : u ∈ unitsOf f a n ↔ u.1 = f ∧ a ≤ u.2 ∧ u.2 < a + n := by
  induction n generalizing a with
  | zero => simp [unitsOf]
  | succ n ih =>
    obtain ⟨g, v⟩ := u
    rw [unitsOf, List.mem_cons, ih]
    simp only [Prod.mk.injEq]
    omega
theorem ul_len (x : Lt) : (ul x).length = x.2.2.toNat := unitsOf_len _ _ _
theorem mem_ul {x : Lt} {u : Un} : u ∈ ul x ↔ u.1 = x.1 ∧ x.2.1 ≤ u.2 ∧ u.2 < x.2.1 + x.2.2 := by
  unfold ul
  rw [mem_unitsOf]
  omega
/-- a lot in two pieces -/
theorem ul_cut {f a n k : Int} (h0 : 0 ≤ k) (h1 : k ≤ n) : ul (f, a, n) = ul (f, a, k) ++ ul (f, a + k, n - k) := by
  unfold ul
  simp only
  rw [show n.toNat = k.toNat + (n - k).toNat by omega, unitsOf_add, show ((k.toNat : Nat) : Int) = k by omega]
theorem ul_none {x : Lt} (h : x.2.2 ≤ 0) : ul x = [] := by
  have := ul_len x
  exact List.eq_nil_of_length_eq_zero (by omega)
theorem ul_head {x : Lt} (h : 1 ≤ x.2.2) : ul x = (x.1, x.2.1) :: ul (x.1, x.2.1 + 1, x.2.2 - 1) := by
  unfold ul
  simp only
  rw [show x.2.2.toNat = (x.2.2 - 1).toNat + 1 by omega, unitsOf]
theorem mem_U {l : List Lt} {u : Un} : u ∈ U l ↔ ∃ x ∈ l, u ∈ ul x := by simp [U]
def totL (l : List Lt) : Int := (l.map fun x => x.2.2).sum
theorem totL_nil : totL [] = 0 := rfl
theorem totL_cons (x : Lt) (l : List Lt) : totL (x :: l) = x.2.2 + totL l := by simp [totL]
theorem totL_app (a b : List Lt) : totL (a ++ b) = totL a + totL b := by simp [totL]
theorem U_len {l : List Lt} (h : ∀ x ∈ l, 0 ≤ x.2.2) : ((U l).length : Int) = totL l := by
  induction l with
  | nil => rfl
  | cons x l ih =>
    have := ih fun y hy => h y (List.mem_cons_of_mem _ hy)
    have := h x List.mem_cons_self
    rw [U_cons, List.length_append, ul_len, totL_cons]
    omega

/-- x begins where p ends -/
def contB (p x : Lt) : Bool := decide (p.1 = x.1) && decide (p.2.1 + p.2.2 = x.2.1)
theorem contB_iff {p x : Lt} : contB p x = true ↔ p.1 = x.1 ∧ p.2.1 + p.2.2 = x.2.1 := by simp [contB]
def addL (s : List Lt) (x : Lt) : List Lt :=
  if x.2.2 = 0 then s else
    match s.getLast? with
    | some p => if contB p x then s.dropLast ++ [(p.1, p.2.1, p.2.2 + x.2.2)] else s ++ [x]
    | none => [x]
theorem addL_zero {s : List Lt} {x : Lt} (h : x.2.2 = 0) : addL s x = s := by rw [addL, if_pos h]
theorem addL_nil {x : Lt} (h : x.2.2 ≠ 0) : addL [] x = [x] := by rw [addL, if_neg h]; rfl
theorem addL_join {s : List Lt} {p x : Lt} (h : x.2.2 ≠ 0) (hc : contB p x = true) : addL (s ++ [p]) x = s ++ [(p.1, p.2.1, p.2.2 + x.2.2)] := by
  rw [addL, if_neg h, List.getLast?_concat]
  simp only [hc, if_true, List.dropLast_concat]
theorem addL_new {s : List Lt} {p x : Lt} (h : x.2.2 ≠ 0) (hc : contB p x = false) : addL (s ++ [p]) x = s ++ [p] ++ [x] := by
  rw [addL, if_neg h, List.getLast?_concat]
  simp only [hc, Bool.false_eq_true, if_false]
theorem snoc_cases {α : Type} (l : List α) : l = [] ∨ ∃ s p, l = s ++ [p] := by
  rcases List.eq_nil_or_concat l with h | ⟨s, p, h⟩
  · exact .inl h
  · exact .inr ⟨s, p, by rw [h, List.concat_eq_append]⟩

/-- put together: no lot is empty, none begins where the one ahead of it ends -/
def Glued : List Lt → Prop
  | [] => True
  | [x] => 1 ≤ x.2.2
  | x :: y :: l => 1 ≤ x.2.2 ∧ contB x y = false ∧ Glued (y :: l)
theorem Glued.tail {x : Lt} {l : List Lt} (h : Glued (x :: l)) : Glued l := by
  cases l with
  | nil => trivial
  | cons y l => exact h.2.2
theorem Glued.pos {x : Lt} {l : List Lt} (h : Glued (x :: l)) : 1 ≤ x.2.2 := by
  cases l with
  | nil => exact h
  | cons y l => exact h.1
theorem Glued.mem {l : List Lt} (h : Glued l) : ∀ x ∈ l, 1 ≤ x.2.2 := by
  induction l with
  | nil => simp
  | cons a l ih =>
    intro x hx
    rcases List.mem_cons.1 hx with rfl | hx
    · exact h.pos
    · exact ih h.tail x hx
theorem glued_snoc {s : List Lt} {p : Lt} : Glued (s ++ [p]) ↔ Glued s ∧ 1 ≤ p.2.2 ∧ ∀ q, s.getLast? = some q → contB q p = false := by
  induction s with
  | nil => simp [Glued]
  | cons a s ih =>
    cases s with
    | nil =>
      show (1 ≤ a.2.2 ∧ contB a p = false ∧ 1 ≤ p.2.2) ↔ 1 ≤ a.2.2 ∧ 1 ≤ p.2.2 ∧ ∀ q, [a].getLast? = some q → contB q p = false
      have e : [a].getLast? = some a := rfl
      rw [e]
      constructor
      · rintro ⟨h1, h2, h3⟩; exact ⟨h1, h3, fun q hq => by injection hq with hq; subst hq; exact h2⟩
      · rintro ⟨h1, h3, h2⟩; exact ⟨h1, h2 a rfl, h3⟩
    | cons b s =>
      have e1 : (a :: b :: s).getLast? = (b :: s).getLast? := by simp [List.getLast?_cons]
      show (1 ≤ a.2.2 ∧ contB a b = false ∧ Glued (b :: s ++ [p])) ↔ (1 ≤ a.2.2 ∧ contB a b = false ∧ Glued (b :: s)) ∧ _
      rw [ih, e1]
      constructor
      · rintro ⟨h1, h2, h3, h4⟩; exact ⟨⟨h1, h2, h3⟩, h4⟩
      · rintro ⟨⟨h1, h2, h3⟩, h4⟩; exact ⟨h1, h2, h3, h4⟩
theorem glued_wide {s : List Lt} {p p' : Lt} (h : Glued (s ++ [p])) (h1 : p'.1 = p.1) (h2 : p'.2.1 = p.2.1) (h3 : 1 ≤ p'.2.2) : Glued (s ++ [p']) := by
  rw [glued_snoc] at h ⊢
  refine ⟨h.1, h3, fun q hq => ?_⟩
  have := h.2.2 q hq
  unfold contB at *
  rw [h1, h2]; exact this
theorem glued_add {s : List Lt} {x : Lt} (h : Glued s) (hx : 0 ≤ x.2.2) : Glued (addL s x) := by
  by_cases h0 : x.2.2 = 0
  · rw [addL_zero h0]; exact h
  · rcases snoc_cases s with rfl | ⟨t, p, rfl⟩
    · rw [addL_nil h0]; show 1 ≤ x.2.2; omega
    · by_cases hc : contB p x = true
      · rw [addL_join h0 hc]
        have := h.mem p (by simp)
        exact glued_wide h rfl rfl (by show 1 ≤ p.2.2 + x.2.2; omega)
      · have hc : contB p x = false := by simpa using hc
        rw [addL_new h0 hc, glued_snoc]
        refine ⟨h, by omega, fun q hq => ?_⟩
        rw [List.getLast?_concat] at hq
        injection hq with hq
        subst hq; exact hc
theorem U_add {s : List Lt} {x : Lt} (h : ∀ y ∈ s, 0 ≤ y.2.2) (hx : 0 ≤ x.2.2) : U (addL s x) = U s ++ ul x := by
  by_cases h0 : x.2.2 = 0
  · rw [addL_zero h0, ul_none (by omega), List.append_nil]
  · rcases snoc_cases s with rfl | ⟨t, p, rfl⟩
    · rw [addL_nil h0, U_one]; rfl
    · by_cases hc : contB p x = true
      · rw [addL_join h0 hc, U_app, U_app, U_one, U_one, List.append_assoc]
        congr 1
        have hp := h p (by simp)
        obtain ⟨e1, e2⟩ := contB_iff.1 hc
        obtain ⟨f, a, n⟩ := p
        obtain ⟨g, b, m⟩ := x
        simp only at *
        subst e1 e2
        rw [ul_cut (n := n + m) (k := n) hp (by omega), show n + m - n = m by omega]
      · have hc : contB p x = false := by simpa using hc
        rw [addL_new h0 hc, U_app, U_one]
theorem glued_same_first {x y : Lt} {s t : List Lt} (hs : Glued (x :: s)) (ht : Glued (y :: t)) (h : U (x :: s) = U (y :: t)) : x.1 = y.1 ∧ x.2.1 = y.2.1 := by
  rw [U_cons, U_cons, ul_head hs.pos, ul_head ht.pos] at h
  simp only [List.cons_append, List.cons.injEq, Prod.mk.injEq] at h
  exact ⟨h.1.1, h.1.2⟩
theorem glued_not_less {x y : Lt} {s t : List Lt} (hs : Glued (x :: s)) (ht : Glued (y :: t)) (h : U (x :: s) = U (y :: t)) : ¬ x.2.2 < y.2.2 := by
  intro hlt
  obtain ⟨e1, e2⟩ := glued_same_first hs ht h
  have hx := hs.pos
  obtain ⟨f, a, n⟩ := x
  obtain ⟨g, b, m⟩ := y
  simp only at *
  subst e1 e2
  rw [U_cons, U_cons, ul_cut (n := m) (k := n) (by omega) (by omega), List.append_assoc] at h
  have h := List.append_cancel_left h
  rw [ul_head (by show 1 ≤ m - n; omega)] at h
  cases s with
  | nil => rw [U_nil] at h; cases h
  | cons z s =>
    rw [U_cons, ul_head hs.tail.pos] at h
    simp only [List.cons_append, List.cons.injEq, Prod.mk.injEq] at h
    have hc : contB (f, a, n) z = false := hs.2.1
    have : contB (f, a, n) z = true := contB_iff.2 ⟨h.1.1.symm, h.1.2.symm⟩
    rw [this] at hc; cases hc
theorem glued_unique : ∀ {s t : List Lt}, Glued s → Glued t → U s = U t → s = t
  | [], [], _, _, _ => rfl
  | [], y :: t, _, ht, h => by rw [U_nil, U_cons, ul_head ht.pos] at h; cases h
  | x :: s, [], hs, _, h => by rw [U_nil, U_cons, ul_head hs.pos] at h; cases h
  | x :: s, y :: t, hs, ht, h => by
    obtain ⟨e1, e2⟩ := glued_same_first hs ht h
    have h1 := glued_not_less hs ht h
    have h2 := glued_not_less ht hs h.symm
    have e3 : x.2.2 = y.2.2 := by omega
    have e : x = y := Prod.ext e1 (Prod.ext e2 e3)
    subst e
    rw [U_cons, U_cons] at h
    rw [glued_unique hs.tail ht.tail (List.append_cancel_left h)]

def putL (s l : List Lt) : List Lt := l.foldl addL s
theorem putL_cons (s : List Lt) (x : Lt) (l : List Lt) : putL s (x :: l) = putL (addL s x) l := rfl
theorem putL_app (s a b : List Lt) : putL s (a ++ b) = putL (putL s a) b := List.foldl_append
theorem putL_snoc (s a : List Lt) (x : Lt) : putL s (a ++ [x]) = addL (putL s a) x := by rw [putL_app]; rfl
theorem putL_glued {s l : List Lt} (h : Glued s) (hl : ∀ x ∈ l, 0 ≤ x.2.2) : Glued (putL s l) ∧ U (putL s l) = U s ++ U l := by
  induction l generalizing s with
  | nil => exact ⟨h, by simp [putL, U_nil]⟩
  | cons x l ih =>
    have hx := hl x List.mem_cons_self
    obtain ⟨h1, h2⟩ := ih (glued_add h hx) fun y hy => hl y (List.mem_cons_of_mem _ hy)
    refine ⟨h1, ?_⟩
    rw [putL_cons, h2, U_add (fun y hy => by have := h.mem y hy; omega) hx, U_cons, List.append_assoc]
/-- the lots of a list of units -/
def glue (us : List Un) : List Lt := putL [] (us.map fun u => (u.1, u.2, 1))
theorem U_singles (us : List Un) : U (us.map fun u => ((u.1, u.2, 1) : Lt)) = us := by
  induction us with
  | nil => rfl
  | cons u us ih => rw [List.map_cons, U_cons, ih]; rfl
theorem glue_glued (us : List Un) : Glued (glue us) := (putL_glued (s := []) trivial (by intro x hx; obtain ⟨u, _, rfl⟩ := List.mem_map.1 hx; show (0 : Int) ≤ 1; omega)).1
theorem U_glue (us : List Un) : U (glue us) = us := by
  have h := (putL_glued (s := []) (l := us.map fun u => (u.1, u.2, 1)) trivial (by intro x hx; obtain ⟨u, _, rfl⟩ := List.mem_map.1 hx; show (0 : Int) ≤ 1; omega)).2
  rw [U_singles, U_nil, List.nil_append] at h
  exact h
theorem glued_eq {s : List Lt} {us : List Un} (h : Glued s) (e : U s = us) : s = glue us := glued_unique h (glue_glued us) (e.trans (U_glue us).symm)
theorem putL_eq {s l : List Lt} (h : Glued s) (hl : ∀ x ∈ l, 0 ≤ x.2.2) : putL s l = glue (U s ++ U l) := by
  obtain ⟨h1, h2⟩ := putL_glued h hl
  exact glued_eq h1 h2
theorem putN_eq {l : List Lt} (hl : ∀ x ∈ l, 0 ≤ x.2.2) : putL [] l = glue (U l) := putL_eq (s := []) trivial hl
theorem add_glue {us : List Un} {x : Lt} (hx : 0 ≤ x.2.2) : addL (glue us) x = glue (us ++ ul x) := by
  refine glued_eq (glued_add (glue_glued us) hx) ?_
  rw [U_add (fun y hy => by have := (glue_glued us).mem y hy; omega) hx, U_glue]

/-! possible lots -/
def possB (x : Lt) : Bool := decide (0 ≤ x.1) && (decide (0 ≤ x.2.1) && (decide (x.2.1 ≤ 1099511627776) && (decide (1 ≤ x.2.2) && decide (x.2.2 ≤ 1099511627776 - x.2.1))))
theorem possB_iff {x : Lt} : possB x = true ↔ 0 ≤ x.1 ∧ 0 ≤ x.2.1 ∧ x.2.1 ≤ 1099511627776 ∧ 1 ≤ x.2.2 ∧ x.2.2 ≤ 1099511627776 - x.2.1 := by simp [possB]
def validB (l : List Lt) : Bool := decide (l.length ≤ 4096) && l.all possB
theorem validB_iff {l : List Lt} : validB l = true ↔ l.length ≤ 4096 ∧ ∀ x ∈ l, possB x = true := by simp [validB]
def totalS (l : List Lt) : Int := if validB l then totL l else 0
def putS (s : List Lt) (x : Lt) : List Lt := if validB s && possB x then addL s x else []
/-- a lot that is joined with a possible one behind it is possible -/
theorem poss_join {p x : Lt} (hp : possB p = true) (hx : possB x = true) (hc : contB p x = true) : possB (p.1, p.2.1, p.2.2 + x.2.2) = true := by
  rw [possB_iff] at *
  rw [contB_iff] at hc
  simp only
  omega
theorem poss_add {s : List Lt} {x : Lt} (hs : ∀ y ∈ s, possB y = true) (hx : x.2.2 ≠ 0 → possB x = true) : ∀ y ∈ addL s x, possB y = true := by
  by_cases h0 : x.2.2 = 0
  · rw [addL_zero h0]; exact hs
  · have hx := hx h0
    rcases snoc_cases s with rfl | ⟨t, p, rfl⟩
    · rw [addL_nil h0]; intro y hy; rw [List.mem_singleton] at hy; subst hy; exact hx
    · by_cases hc : contB p x = true
      · rw [addL_join h0 hc]
        intro y hy
        rcases List.mem_append.1 hy with hy | hy
        · exact hs y (List.mem_append_left _ hy)
        · rw [List.mem_singleton] at hy; subst hy; exact poss_join (hs p (by simp)) hx hc
      · have hc : contB p x = false := by simpa using hc
        rw [addL_new h0 hc]
        intro y hy
        rcases List.mem_append.1 hy with hy | hy
        · exact hs y hy
        · rw [List.mem_singleton] at hy; subst hy; exact hx
theorem add_len (s : List Lt) (x : Lt) : (addL s x).length ≤ s.length + 1 := by
  by_cases h0 : x.2.2 = 0
  · rw [addL_zero h0]; omega
  · rcases snoc_cases s with rfl | ⟨t, p, rfl⟩
    · rw [addL_nil h0]; simp
    · by_cases hc : contB p x = true
      · rw [addL_join h0 hc]; simp
      · have hc : contB p x = false := by simpa using hc
        rw [addL_new h0 hc]; simp
theorem totL_le {l : List Lt} (h : ∀ x ∈ l, possB x = true) : 0 ≤ totL l ∧ totL l ≤ 1099511627776 * (l.length : Int) := by
  induction l with
  | nil => simp [totL]
  | cons x l ih =>
    have h1 := ih fun y hy => h y (List.mem_cons_of_mem _ hy)
    have h2 := possB_iff.1 (h x List.mem_cons_self)
    rw [totL_cons, List.length_cons]
    omega
end Go.Proofs.Ytgbamgijpgjmgaa
/- Sets of units: sorted lists, the one set that lots stand for, what lies inside a set and outside. -/
namespace Go.Proofs.Ytgbamgijpgjmgaa

def ltU (u v : Un) : Prop := u.1 < v.1 ∨ (u.1 = v.1 ∧ u.2 < v.2)
theorem ltU_irrefl (u : Un) : ¬ ltU u u := by unfold ltU; omega
theorem ltU_asymm {u v : Un} (h : ltU u v) : ¬ ltU v u := by unfold ltU at *; omega
theorem ltU_trans {u v x : Un} (h : ltU u v) (k : ltU v x) : ltU u x := by unfold ltU at *; omega
theorem ltU_total {u v : Un} (h : ¬ ltU u v) (h2 : ¬ ltU v u) : u = v := by
  unfold ltU at *
  exact Prod.ext (by omega) (by omega)
def Srt (l : List Un) : Prop := l.Pairwise ltU
theorem srt_ext : ∀ {a b : List Un}, Srt a → Srt b → (∀ u, u ∈ a ↔ u ∈ b) → a = b
  | [], [], _, _, _ => rfl
  | [], y :: b, _, _, h => by have := (h y).2 List.mem_cons_self; cases this
  | x :: a, [], _, _, h => by have := (h x).1 List.mem_cons_self; cases this
  | x :: a, y :: b, ha, hb, h => by
    have ha' := List.pairwise_cons.1 ha
    have hb' := List.pairwise_cons.1 hb
    have e : x = y := by
      rcases List.mem_cons.1 ((h x).1 List.mem_cons_self) with e | e
      · exact e
      · rcases List.mem_cons.1 ((h y).2 List.mem_cons_self) with e2 | e2
        · exact e2.symm
        · exact absurd (hb'.1 x e) (ltU_asymm (ha'.1 y e2))
    subst e
    rw [srt_ext ha'.2 hb'.2 fun u => ?_]
    constructor
    · intro hu
      rcases List.mem_cons.1 ((h u).1 (List.mem_cons_of_mem _ hu)) with e | e
      · subst e; exact absurd (ha'.1 u hu) (ltU_irrefl u)
      · exact e
    · intro hu
      rcases List.mem_cons.1 ((h u).2 (List.mem_cons_of_mem _ hu)) with e | e
      · subst e; exact absurd (hb'.1 u hu) (ltU_irrefl u)
      · exact e
instance (u v : Un) : Decidable (ltU u v) := by unfold ltU; infer_instance
def insU (u : Un) : List Un → List Un
  | [] => [u]
  | v :: l => if ltU u v then u :: v :: l else if ltU v u then v :: insU u l else v :: l
theorem mem_insU {u x : Un} {l : List Un} : x ∈ insU u l ↔ x = u ∨ x ∈ l := by
  induction l with
  | nil => simp [insU]
  | cons v l ih =>
    rw [insU]
    by_cases h1 : ltU u v
    · rw [if_pos h1]; simp
    · rw [if_neg h1]
      by_cases h2 : ltU v u
      · rw [if_pos h2]
        simp only [List.mem_cons, ih]
        constructor
        · rintro (h | h | h) <;> simp [h]
        · rintro (h | h | h) <;> simp [h]
      · rw [if_neg h2]
        have := ltU_total h1 h2
        subst this
        simp
theorem srt_insU {u : Un} {l : List Un} (h : Srt l) : Srt (insU u l) := by
  induction l with
  | nil => simp [insU, Srt]
  | cons v l ih =>
    have h' := List.pairwise_cons.1 h
    rw [insU]
    by_cases h1 : ltU u v
    · rw [if_pos h1]
      refine List.pairwise_cons.2 ⟨fun x hx => ?_, h⟩
      rcases List.mem_cons.1 hx with rfl | hx
      · exact h1
      · exact ltU_trans h1 (h'.1 x hx)
    · rw [if_neg h1]
      by_cases h2 : ltU v u
      · rw [if_pos h2]
        refine List.pairwise_cons.2 ⟨fun x hx => ?_, ih h'.2⟩
        rcases mem_insU.1 hx with rfl | hx
        · exact h2
        · exact h'.1 x hx
      · rw [if_neg h2]; exact h
def sortU (l : List Un) : List Un := l.foldr insU []
theorem mem_sortU {x : Un} {l : List Un} : x ∈ sortU l ↔ x ∈ l := by
  induction l with
  | nil => simp [sortU]
  | cons u l ih =>
    show x ∈ insU u (sortU l) ↔ _
    rw [mem_insU, ih, List.mem_cons]
theorem srt_sortU (l : List Un) : Srt (sortU l) := by
  induction l with
  | nil => exact List.Pairwise.nil
  | cons u l ih => exact srt_insU ih
/-- the set of lots -/
def setS (l : List Lt) : List Lt := glue (sortU (U l))
theorem U_setS (l : List Lt) : U (setS l) = sortU (U l) := U_glue _
theorem mem_setS {l : List Lt} {u : Un} : u ∈ U (setS l) ↔ u ∈ U l := by rw [U_setS, mem_sortU]
theorem srt_setS (l : List Lt) : Srt (U (setS l)) := by rw [U_setS]; exact srt_sortU _
theorem setS_nil : setS [] = [] := rfl

/-- x lies behind p, with room between them -/
def gapL (p x : Lt) : Prop := p.1 < x.1 ∨ (p.1 = x.1 ∧ p.2.1 + p.2.2 < x.2.1)
structure Canon (s : List Lt) : Prop where
  pos : ∀ x ∈ s, 1 ≤ x.2.2
  gap : s.Pairwise gapL
theorem Canon.nil : Canon [] := ⟨by simp, List.Pairwise.nil⟩
theorem gap_lt {p x : Lt} (h : gapL p x) {u v : Un} (hu : u ∈ ul p) (hv : v ∈ ul x) : ltU u v := by
  have h1 := mem_ul.1 hu
  have h2 := mem_ul.1 hv
  unfold gapL at h
  unfold ltU
  omega
theorem gap_trans {p q x : Lt} (h : gapL p q) (hq : 1 ≤ q.2.2) (k : gapL q x) : gapL p x := by unfold gapL at *; omega
theorem gap_cont {p x : Lt} (h : gapL p x) : contB p x = false := by
  rw [Bool.eq_false_iff, ne_eq, contB_iff]
  unfold gapL at h
  omega
theorem srt_units (f a : Int) (n : Nat) : Srt (unitsOf f a n) := by
  induction n generalizing a with
  | zero => exact List.Pairwise.nil
  | succ n ih =>
    refine List.pairwise_cons.2 ⟨fun u hu => ?_, ih _⟩
    have := mem_unitsOf.1 hu
    unfold ltU
    simp only
    omega
theorem Canon.tail {x : Lt} {s : List Lt} (h : Canon (x :: s)) : Canon s := ⟨fun y hy => h.pos y (List.mem_cons_of_mem _ hy), (List.pairwise_cons.1 h.gap).2⟩
theorem Canon.glued : ∀ {s : List Lt}, Canon s → Glued s
  | [], _ => trivial
  | [x], h => h.pos x (by simp)
  | x :: y :: s, h => ⟨h.pos x (by simp), gap_cont ((List.pairwise_cons.1 h.gap).1 y (by simp)), Canon.glued h.tail⟩
theorem Canon.srt {s : List Lt} (h : Canon s) : Srt (U s) := by
  induction s with
  | nil => exact List.Pairwise.nil
  | cons x s ih =>
    rw [U_cons]
    refine List.pairwise_append.2 ⟨srt_units _ _ _, ih h.tail, fun u hu v hv => ?_⟩
    obtain ⟨y, hy, hv⟩ := mem_U.1 hv
    exact gap_lt ((List.pairwise_cons.1 h.gap).1 y hy) hu hv
theorem Canon.eq_set {s l : List Lt} (h : Canon s) (e : ∀ u, u ∈ U s ↔ u ∈ U l) : s = setS l :=
  glued_eq h.glued (srt_ext h.srt (srt_sortU _) fun u => by rw [e, mem_sortU])
theorem canon_snoc {s : List Lt} {x : Lt} : Canon (s ++ [x]) ↔ Canon s ∧ 1 ≤ x.2.2 ∧ ∀ p ∈ s, gapL p x := by
  constructor
  · intro h
    obtain ⟨h1, h2, h3⟩ := List.pairwise_append.1 h.gap
    exact ⟨⟨fun y hy => h.pos y (List.mem_append_left _ hy), h1⟩, h.pos x (by simp), fun p hp => h3 p hp x (by simp)⟩
  · rintro ⟨h1, h2, h3⟩
    refine ⟨fun y hy => ?_, List.pairwise_append.2 ⟨h1.gap, by simp, fun p hp y hy => ?_⟩⟩
    · rcases List.mem_append.1 hy with hy | hy
      · exact h1.pos y hy
      · rw [List.mem_singleton] at hy; subst hy; exact h2
    · rw [List.mem_singleton] at hy; subst hy; exact h3 p hp
/-- behind the last lot, with room -/
theorem canon_new {s : List Lt} {p x : Lt} (h : Canon (s ++ [p])) (hx : 1 ≤ x.2.2) (hg : gapL p x) : Canon (s ++ [p] ++ [x]) := by
  refine canon_snoc.2 ⟨h, hx, fun q hq => ?_⟩
  rcases List.mem_append.1 hq with hq | hq
  · exact gap_trans ((canon_snoc.1 h).2.2 q hq) (canon_snoc.1 h).2.1 hg
  · rw [List.mem_singleton] at hq; subst hq; exact hg
theorem canon_one {x : Lt} (hx : 1 ≤ x.2.2) : Canon [x] := ⟨by intro y hy; rw [List.mem_singleton] at hy; subst hy; exact hx, by simp⟩
/-- the last lot grows -/
theorem canon_wide {s : List Lt} {p p' : Lt} (h : Canon (s ++ [p])) (h1 : p'.1 = p.1) (h2 : p'.2.1 = p.2.1) (h3 : 1 ≤ p'.2.2) : Canon (s ++ [p']) := by
  obtain ⟨c1, c2, c3⟩ := canon_snoc.1 h
  refine canon_snoc.2 ⟨c1, h3, fun q hq => ?_⟩
  have := c3 q hq
  unfold gapL at *
  rw [h1, h2]; exact this

def hasB (l : List Lt) (u : Un) : Bool := l.any fun x => decide (x.1 = u.1) && (decide (x.2.1 ≤ u.2) && decide (u.2 < x.2.1 + x.2.2))
theorem hasB_iff {l : List Lt} {u : Un} : hasB l u = true ↔ u ∈ U l := by
  rw [hasB, List.any_eq_true, mem_U]
  constructor
  · rintro ⟨x, hx, h⟩
    refine ⟨x, hx, mem_ul.2 ?_⟩
    simp only [Bool.and_eq_true, decide_eq_true_eq] at h
    omega
  · rintro ⟨x, hx, h⟩
    have h := mem_ul.1 h
    refine ⟨x, hx, ?_⟩
    simp only [Bool.and_eq_true, decide_eq_true_eq]
    omega
theorem hasB_congr {a b : List Lt} (h : ∀ u, u ∈ U a ↔ u ∈ U b) : hasB a = hasB b := by
  funext u
  rw [Bool.eq_iff_iff, hasB_iff, hasB_iff, h]
theorem hasB_set (l : List Lt) : hasB (setS l) = hasB l := hasB_congr fun _ => mem_setS
def inU (s : List Lt) (us : List Un) : List Un := us.filter (hasB s)
def outU (s : List Lt) (us : List Un) : List Un := us.filter fun u => !hasB s u
theorem mem_inU {s : List Lt} {us : List Un} {u : Un} : u ∈ inU s us ↔ u ∈ us ∧ u ∈ U s := by rw [inU, List.mem_filter, hasB_iff]
theorem mem_outU {s : List Lt} {us : List Un} {u : Un} : u ∈ outU s us ↔ u ∈ us ∧ ¬ u ∈ U s := by rw [outU, List.mem_filter, ← hasB_iff]; simp
theorem inU_app (s : List Lt) (a b : List Un) : inU s (a ++ b) = inU s a ++ inU s b := List.filter_append ..
theorem outU_app (s : List Lt) (a b : List Un) : outU s (a ++ b) = outU s a ++ outU s b := List.filter_append ..
theorem inU_all {s : List Lt} {us : List Un} (h : ∀ u ∈ us, u ∈ U s) : inU s us = us ∧ outU s us = [] := by
  refine ⟨List.filter_eq_self.2 fun u hu => hasB_iff.2 (h u hu), ?_⟩
  rw [outU, List.filter_eq_nil_iff]
  intro u hu
  simp [hasB_iff.2 (h u hu)]
theorem outU_all {s : List Lt} {us : List Un} (h : ∀ u ∈ us, ¬ u ∈ U s) : inU s us = [] ∧ outU s us = us := by
  have h' : ∀ u ∈ us, hasB s u = false := fun u hu => by
    rw [Bool.eq_false_iff, ne_eq, hasB_iff]; exact h u hu
  refine ⟨?_, List.filter_eq_self.2 fun u hu => by simp [h' u hu]⟩
  rw [inU, List.filter_eq_nil_iff]
  intro u hu
  simp [h' u hu]
theorem inU_congr {a b : List Lt} (h : ∀ u, u ∈ U a ↔ u ∈ U b) (us : List Un) : inU a us = inU b us := by rw [inU, inU, hasB_congr h]
theorem outU_congr {a b : List Lt} (h : ∀ u, u ∈ U a ↔ u ∈ U b) (us : List Un) : outU a us = outU b us := by rw [outU, outU, hasB_congr h]
theorem srt_inU {s : List Lt} {us : List Un} (h : Srt us) : Srt (inU s us) := List.Pairwise.filter _ h
theorem srt_outU {s : List Lt} {us : List Un} (h : Srt us) : Srt (outU s us) := List.Pairwise.filter _ h

def lset (l : List Lt) : List Lt := if validB l then setS l else []
def lunion (a b : List Lt) : List Lt := if validB a && validB b then setS (a ++ b) else []
def lminus (a b : List Lt) : List Lt := if validB a && validB b then glue (outU b (U (setS a))) else []
def lmeet (a b : List Lt) : List Lt := if validB a && validB b then glue (inU b (U (setS a))) else []
def lwithout (a b : List Lt) : List Lt := if validB a && validB b then glue (outU b (U a)) else []
def lwithin (a b : List Lt) : Bool := validB a && (validB b && (U a).all (hasB b))

/-! how many lots -/
theorem glue_app_len (a b : List Un) : (glue (a ++ b)).length ≤ (glue a).length + (glue b).length := by
  have h : glue (a ++ b) = putL (glue a) (glue b) := by
    rw [putL_eq (glue_glued a) (fun x hx => by have := (glue_glued b).mem x hx; omega), U_glue, U_glue]
  rw [h]
  have key : ∀ (l s : List Lt), (putL s l).length ≤ s.length + l.length := by
    intro l
    induction l with
    | nil => intro s; simp [putL]
    | cons x l ih =>
      intro s
      have h1 := ih (addL s x)
      have h2 := add_len s x
      rw [putL_cons, List.length_cons]
      omega
  exact key _ _
theorem glue_ul_len (x : Lt) : (glue (ul x)).length ≤ 1 := by
  by_cases h : 1 ≤ x.2.2
  · rw [← glued_eq (s := [x]) h (U_one x)]; simp
  · rw [ul_none (by omega)]; exact Nat.zero_le _
theorem glue_U_len (l : List Lt) : (glue (U l)).length ≤ l.length := by
  induction l with
  | nil => exact Nat.zero_le _
  | cons x l ih =>
    have h1 := glue_app_len (ul x) (U l)
    have h2 := glue_ul_len x
    rw [U_cons, List.length_cons]
    omega
/-- the ends of lots of s in flow f, strictly between a and b -/
def ends (s : List Lt) (f a b : Int) : Nat := s.countP fun x => decide (x.1 = f) && (decide (a < x.2.1 + x.2.2) && decide (x.2.1 + x.2.2 < b))
theorem ends_le (s : List Lt) (f a b : Int) : ends s f a b ≤ s.length := List.countP_le_length
theorem ends_mono (s : List Lt) (f a b : Int) : ends s f (a + 1) b ≤ ends s f a b := by
  refine List.countP_mono_left fun x _ h => ?_
  simp only [Bool.and_eq_true, decide_eq_true_eq] at h ⊢
  omega
theorem ends_more {s : List Lt} {f a b : Int} {x : Lt} (hx : x ∈ s) (h1 : x.1 = f) (h2 : x.2.1 + x.2.2 = a + 1) (h3 : a + 1 < b) : ends s f (a + 1) b + 1 ≤ ends s f a b := by
  induction s with
  | nil => cases hx
  | cons y s ih =>
    unfold ends at *
    rw [List.countP_cons, List.countP_cons]
    have hmono : ∀ t : List Lt, t.countP (fun x => decide (x.1 = f) && (decide (a + 1 < x.2.1 + x.2.2) && decide (x.2.1 + x.2.2 < b))) ≤ t.countP (fun x => decide (x.1 = f) && (decide (a < x.2.1 + x.2.2) && decide (x.2.1 + x.2.2 < b))) := fun t => ends_mono t f a b
    rcases List.mem_cons.1 hx with rfl | hx
    · have e1 : (decide (x.1 = f) && (decide (a + 1 < x.2.1 + x.2.2) && decide (x.2.1 + x.2.2 < b))) = false := by
        rw [Bool.eq_false_iff]; simp only [ne_eq, Bool.and_eq_true, decide_eq_true_eq]; omega
      have e2 : (decide (x.1 = f) && (decide (a < x.2.1 + x.2.2) && decide (x.2.1 + x.2.2 < b))) = true := by
        simp only [Bool.and_eq_true, decide_eq_true_eq]; omega
      rw [e1, e2]
      have := hmono s
      simp
      omega
    · have := ih hx
      have h4 : (if (decide (y.1 = f) && (decide (a + 1 < y.2.1 + y.2.2) && decide (y.2.1 + y.2.2 < b))) = true then 1 else 0) ≤ (if (decide (y.1 = f) && (decide (a < y.2.1 + y.2.2) && decide (y.2.1 + y.2.2 < b))) = true then 1 else 0) := by
        split
        · rename_i h5
          simp only [Bool.and_eq_true, decide_eq_true_eq] at h5
          rw [if_pos (by simp only [Bool.and_eq_true, decide_eq_true_eq]; omega)]
          exact Nat.le_refl _
        · exact Nat.zero_le _
      omega
theorem glue_cons_next {f a : Int} {us : List Un} (h : us.head? = some (f, a + 1)) : (glue ((f, a) :: us)).length ≤ (glue us).length := by
  -- the first lot of the rest grows by one in front
  have hg := glue_glued us
  have hu := U_glue us
  cases hs : glue us with
  | nil => rw [hs, U_nil] at hu; subst hu; simp at h
  | cons x l =>
    rw [hs] at hg hu
    have hx := hg.pos
    rw [U_cons, ul_head hx] at hu
    have e : (x.1, x.2.1) = (f, a + 1) := by
      rw [← hu] at h
      simpa using h
    have e1 : x.1 = f := congrArg Prod.fst e
    have e2 : x.2.1 = a + 1 := congrArg Prod.snd e
    have hG : Glued ((f, a, x.2.2 + 1) :: l) := by
      cases l with
      | nil => show 1 ≤ x.2.2 + 1; omega
      | cons y l =>
        refine ⟨by show 1 ≤ x.2.2 + 1; omega, ?_, hg.tail⟩
        have := hg.2.1
        rw [Bool.eq_false_iff, ne_eq, contB_iff] at this ⊢
        simp only
        omega
    have hU : U ((f, a, x.2.2 + 1) :: l) = (f, a) :: us := by
      have h2 : ul (f, a, x.2.2 + 1) = (f, a) :: ul x := by
        rw [ul_head (by show 1 ≤ x.2.2 + 1; omega)]
        have e3 : ((f, a + 1, x.2.2 + 1 - 1) : Lt) = x := Prod.ext e1.symm (Prod.ext e2.symm (by show x.2.2 + 1 - 1 = x.2.2; omega))
        simp only
        rw [e3]
      rw [U_cons, h2, List.cons_append, ul_head hx, hu]
    rw [← glued_eq hG hU]
    simp
end Go.Proofs.Ytgbamgijpgjmgaa
/- Lots in memory: slices that read as lists of lots, rows of the call's own, append, the last lot's growth. -/
namespace Go.Proofs.Ytgbamgijpgjmgaa
open Go.RowKit

def WfL (x : Lt) : Prop := (Lit.int .i64 x.1).wf = true ∧ (Lit.int .i64 x.2.1).wf = true ∧ (Lit.int .i64 x.2.2).wf = true
theorem wfL_of {x : Lt} (h : possB x = true) (h1 : x.1 ≤ 9223372036854775807) : WfL x := by
  have := possB_iff.1 h
  exact ⟨wf_of_i64 (by omega) h1, wf_of_i64 (by omega) (by omega), wf_of_i64 (by omega) (by omega)⟩
/-- the value of a lot -/
def ltV (x : Lt) : Value := .agg #[.int .i64 x.1, .int .i64 x.2.1, .int .i64 x.2.2]
/-- A slice that reads as a list of lots. -/
structure LotsAt (w : World) (A : Option Addr) (n c : Nat) (l : List Lt) : Prop where
  len : l.length = n
  cap : n ≤ c
  mx : c ≤ maxLen
  wf : ∀ x ∈ l, WfL x
  at_ : 0 < n → ∃ b o, A = some ⟨b, o, none⟩ ∧ b < w.heap.size ∧ ∀ i x, l[i]? = some x →
    w.cell? ⟨b, o + i * 3, none⟩ = some (.int .i64 x.1) ∧ w.cell? ⟨b, o + i * 3 + 1, none⟩ = some (.int .i64 x.2.1) ∧ w.cell? ⟨b, o + i * 3 + 2, none⟩ = some (.int .i64 x.2.2)
section
variable {w w' : World} {A : Option Addr} {n c : Nat} {l : List Lt}
theorem LotsAt.ex {X : Nat → Prop} (h : LotsAt w A n c l) (he : Ex X w w') (hX : 0 < n → ∀ b, ob A = some b → ¬ X b) : LotsAt w' A n c l :=
  ⟨h.len, h.cap, h.mx, h.wf, fun hn => by
    obtain ⟨b, o, h1, h2, h3⟩ := h.at_ hn
    have hx := hX hn b (by rw [h1]; rfl)
    refine ⟨b, o, h1, Nat.lt_of_lt_of_le h2 he.size, fun i x hi => ?_⟩
    obtain ⟨c1, c2, c3⟩ := h3 i x hi
    exact ⟨(he.cell (p := ⟨b, _, none⟩) h2 hx).trans c1, (he.cell (p := ⟨b, _, none⟩) h2 hx).trans c2, (he.cell (p := ⟨b, _, none⟩) h2 hx).trans c3⟩⟩
theorem LotsAt.e (h : LotsAt w A n c l) (he : E w w') : LotsAt w' A n c l := h.ex (Ex.of_e (X := fun _ => False) he) (fun _ _ _ x => x)
theorem LotsAt.obl (h : LotsAt w A n c l) (h0 : 0 < n) : ∀ b, ob A = some b → b < w.heap.size := fun b hb => by
  obtain ⟨b', o, e, hb', _⟩ := h.at_ h0
  rw [e] at hb
  have : b' = b := by simpa [ob] using hb
  omega
theorem LotsAt.q (h : LotsAt w A n c l) (he : Q w w') : LotsAt w' A n c l := h.e (E.of_q he)
theorem LotsAt.nil (w : World) (A : Option Addr) (c : Nat) (hc : c ≤ maxLen) : LotsAt w A 0 c [] := ⟨rfl, Nat.zero_le _, hc, by simp, fun h => absurd h (by omega)⟩
theorem LotsAt.cast {l' : List Lt} (h : LotsAt w A n c l) (e : l = l') : LotsAt w A n c l' := e ▸ h
theorem LotsAt.n63 (h : LotsAt w A n c l) : n ≤ 9223372036854775807 := by have := h.cap; have := h.mx; unfold maxLen at this; omega
theorem LotsAt.c63 (h : LotsAt w A n c l) : c ≤ 9223372036854775807 := by have := h.mx; unfold maxLen at this; omega
theorem LotsAt.get (h : LotsAt w A n c l) {i : Nat} (hi : i < n) :
    ∃ b o x, A = some ⟨b, o, none⟩ ∧ b < w.heap.size ∧ l[i]? = some x ∧ WfL x ∧ w.cell? ⟨b, o + i * 3, none⟩ = some (.int .i64 x.1) ∧ w.cell? ⟨b, o + i * 3 + 1, none⟩ = some (.int .i64 x.2.1) ∧ w.cell? ⟨b, o + i * 3 + 2, none⟩ = some (.int .i64 x.2.2) := by
  obtain ⟨b, o, h1, h2, h3⟩ := h.at_ (by omega)
  have hx : l[i]? = some (l[i]'(by rw [h.len]; exact hi)) := List.getElem?_eq_getElem _
  obtain ⟨c1, c2, c3⟩ := h3 i _ hx
  exact ⟨b, o, _, h1, h2, hx, h.wf _ (List.getElem_mem _), c1, c2, c3⟩
/-- a slice of it -/
theorem LotsAt.sub (h : LotsAt w A n c l) (i k : Nat) (hik : i + k ≤ n) (hk : 0 < k) : ∃ b o, A = some ⟨b, o, none⟩ ∧ LotsAt w (some ⟨b, o + i * 3, none⟩) k (c - i) ((l.drop i).take k) := by
  obtain ⟨b, o, h1, h2, h3⟩ := h.at_ (by omega)
  have hc := h.cap
  refine ⟨b, o, h1, ⟨by rw [List.length_take, List.length_drop, h.len]; omega, by omega, Nat.le_trans (Nat.sub_le _ _) h.mx, fun x hx => h.wf x (List.mem_of_mem_drop (List.mem_of_mem_take hx)), fun _ => ⟨b, _, rfl, h2, fun j x hj => ?_⟩⟩⟩
  rw [List.getElem?_take] at hj
  split at hj
  · rw [List.getElem?_drop] at hj
    have := h3 (i + j) x hj
    rw [Nat.add_assoc o, ← Nat.add_mul]
    exact this
  · cases hj
end

def flatL (l : List Lt) : List Value := l.flatMap fun p => [.int .i64 p.1, .int .i64 p.2.1, .int .i64 p.2.2]
theorem flatL_cons (x : Lt) (l : List Lt) : flatL (x :: l) = .int .i64 x.1 :: .int .i64 x.2.1 :: .int .i64 x.2.2 :: flatL l := rfl
theorem flatL_len (l : List Lt) : (flatL l).length = l.length * 3 := by
  induction l with
  | nil => rfl
  | cons x l ih => rw [flatL_cons, List.length_cons, List.length_cons, List.length_cons, ih, List.length_cons]; omega
theorem flatL_at (l : List Lt) (i : Nat) (x : Lt) (h : l[i]? = some x) : (flatL l)[i * 3]? = some (.int .i64 x.1) ∧ (flatL l)[i * 3 + 1]? = some (.int .i64 x.2.1) ∧ (flatL l)[i * 3 + 2]? = some (.int .i64 x.2.2) := by
  induction l generalizing i with
  | nil => simp at h
  | cons y l ih =>
    rw [flatL_cons]
    cases i with
    | zero => simp at h; subst h; exact ⟨rfl, rfl, rfl⟩
    | succ i =>
      obtain ⟨h1, h2, h3⟩ := ih i (by simpa using h)
      rw [show (i + 1) * 3 = i * 3 + 1 + 1 + 1 by omega]
      exact ⟨h1, h2, h3⟩
theorem flatL_app (a b : List Lt) : flatL (a ++ b) = flatL a ++ flatL b := List.flatMap_append
theorem flatL_one (l : List Lt) : ∀ u ∈ flatL l, u.oneCell' = true := by
  intro u hu
  simp only [flatL, List.mem_flatMap] at hu
  obtain ⟨p, _, hp⟩ := hu
  simp at hp
  rcases hp with rfl | rfl | rfl <;> rfl
theorem flatL_cell (l : List Lt) (j : Nat) (u : Value) (h : (flatL l)[j]? = some u) : ∃ x, l[j / 3]? = some x ∧ ((j % 3 = 0 ∧ u = .int .i64 x.1) ∨ (j % 3 = 1 ∧ u = .int .i64 x.2.1) ∨ (j % 3 = 2 ∧ u = .int .i64 x.2.2)) := by
  have hj : j < l.length * 3 := by rw [← flatL_len]; exact (List.getElem?_eq_some_iff.1 h).1
  have hi : j / 3 < l.length := by omega
  obtain ⟨c0, c1, c2⟩ := flatL_at l (j / 3) _ (List.getElem?_eq_getElem hi)
  refine ⟨_, List.getElem?_eq_getElem hi, ?_⟩
  have h3 : j % 3 = 0 ∨ j % 3 = 1 ∨ j % 3 = 2 := by omega
  rcases h3 with h3 | h3 | h3
  · rw [show j = j / 3 * 3 by omega, c0] at h
    injection h with h
    exact .inl ⟨h3, h.symm⟩
  · rw [show j = j / 3 * 3 + 1 by omega, c1] at h
    injection h with h
    exact .inr (.inl ⟨h3, h.symm⟩)
  · rw [show j = j / 3 * 3 + 2 by omega, c2] at h
    injection h with h
    exact .inr (.inr ⟨h3, h.symm⟩)
theorem flatL_set (l : List Lt) (i : Nat) (x y : Lt) (h : l[i]? = some x) (h1 : y.1 = x.1) (h2 : y.2.1 = x.2.1) : (flatL l).set (i * 3 + 2) (.int .i64 y.2.2) = flatL (l.set i y) := by
  induction l generalizing i with
  | nil => simp at h
  | cons z l ih =>
    cases i with
    | zero =>
      simp at h; subst h
      rw [List.set_cons_zero, flatL_cons, flatL_cons, h1, h2]; rfl
    | succ i =>
      have := ih i (by simpa using h)
      rw [flatL_cons, show (i + 1) * 3 + 2 = (i * 3 + 2) + 1 + 1 + 1 by omega, List.set_cons_succ, List.set_cons_succ, List.set_cons_succ, this, List.set_cons_succ, flatL_cons]

/-- A row of the call's own, from block base on, that holds the lots l. -/
def OwnL (w : World) (base : Nat) (A : Option Addr) (n c : Nat) (l : List Lt) : Prop :=
  l.length = n ∧ w.ownsRow base 39 3 (.slice A n c) n (flatL l) ∧ ∀ x ∈ l, WfL x
section
variable {w w' : World} {base base' : Nat} {A : Option Addr} {n c : Nat} {l : List Lt}
theorem OwnL.nil (w : World) (base : Nat) : OwnL w base none 0 0 [] := ⟨rfl, World.ownsRow_nil _ _ _ _, by simp⟩
theorem OwnL.form (h : OwnL w base A n c l) : (A = none ∧ n = 0 ∧ c = 0) ∨ ∃ g, A = some ⟨g, 0, none⟩ ∧ base ≤ g ∧ g < w.heap.size ∧ n ≤ c ∧ c ≤ maxLen := by
  obtain ⟨h1, h2, h3⟩ := h
  rcases h2.2 with ⟨hv, hn⟩ | ⟨g, cap, cur, hv, hb, hh, hnc, hcm, _, _⟩
  · left; injection hv with e1 e2 e3; exact ⟨e1, e2, e3⟩
  · right
    injection hv with e1 e2 e3
    subst e1 e3
    exact ⟨g, rfl, hb, lt_blk hh, hnc, hcm⟩
theorem OwnL.ltN (h : OwnL w base A n c l) : ∀ b, ob A = some b → base ≤ b ∧ b < w.heap.size := by
  intro b hb
  exact World.ownsRow.lt h.2.1 b (by rw [ob_eq]; exact hb)
theorem OwnL.reads (h : OwnL w base A n c l) : LotsAt w A n c l := by
  have hf := h.form
  obtain ⟨h1, h2, h3⟩ := h
  refine ⟨h1, ?_, ?_, h3, fun hn => ?_⟩
  · rcases hf with ⟨_, h, _⟩ | ⟨_, _, _, _, h, _⟩ <;> omega
  · rcases hf with ⟨_, _, h⟩ | ⟨_, _, _, _, _, h⟩ <;> (unfold maxLen at *; omega)
  · rcases hf with ⟨_, h, _⟩ | ⟨g, rfl, _, hlt, hnc, hcm⟩
    · omega
    · refine ⟨g, 0, rfl, hlt, fun i x hi => ?_⟩
      have hf := flatL_at l i x hi
      have hil := (List.getElem?_eq_some_iff.1 hi).1
      rw [Nat.zero_add, World.ownsRow.cellAt h2 _ (by omega), World.ownsRow.cellAt h2 _ (by omega), World.ownsRow.cellAt h2 _ (by omega)]
      exact hf
theorem OwnL.ex {X : Nat → Prop} (h : OwnL w base A n c l) (hX : Ex X w w') (hb : ∀ b, ob A = some b → ¬ X b) : OwnL w' base A n c l := by
  refine ⟨h.1, ⟨h.2.1.1, ?_⟩, h.2.2⟩
  rcases h.2.1.2 with a2 | ⟨g, cap, cur, hv, hbg, hh, r⟩
  · exact .inl a2
  · have hA : A = some ⟨g, 0, none⟩ := by injection hv
    refine .inr ⟨g, cap, cur, hv, hbg, ?_, r⟩
    rw [hX.block g (lt_blk hh) (hb g (by rw [hA]; rfl))]
    exact hh
theorem OwnL.e (h : OwnL w base A n c l) (he : E w w') : OwnL w' base A n c l := h.ex (Ex.of_e (X := fun _ => False) he) (fun _ _ x => x)
theorem OwnL.q (h : OwnL w base A n c l) (he : Q w w') : OwnL w' base A n c l := h.e (E.of_q he)
theorem OwnL.rebase (h : OwnL w base A n c l) (hb : base' ≤ base) : OwnL w base' A n c l := by
  obtain ⟨h1, ⟨a1, a2⟩, h3⟩ := h
  refine ⟨h1, ⟨a1, ?_⟩, h3⟩
  rcases a2 with a2 | ⟨g, cap, cur, hv, hb', r⟩
  · exact .inl a2
  · exact .inr ⟨g, cap, cur, hv, by omega, r⟩
theorem OwnL.cast {l' : List Lt} (h : OwnL w base A n c l) (e : l = l') : OwnL w base A n c l' := e ▸ h
theorem OwnL.kept {A2 : Option Addr} (h : OwnL w base A n c l) (hG : w.grownBy w' (ob A2)) (hap : apartS A A2) : OwnL w' base A n c l := by
  refine ⟨h.1, h.2.1.kept hG ?_, h.2.2⟩
  rw [ob_eq]
  cases ha : ob A with
  | none => exact .inl rfl
  | some b => exact .inr fun e => hap b ha e.symm
theorem OwnL.empty (w : World) (base : Nat) (hb : base ≤ w.heap.size) : OwnL (w.alloc (.cells #[] 39)) base (some ⟨w.heap.size, 0, none⟩) 0 0 [] :=
  ⟨rfl, World.ownsRow_made w #[] 0 hb (by unfold maxLen; omega) rfl, by simp⟩
/-- the number of units of lot i is overwritten -/
theorem OwnL.setN {g : Nat} (h : OwnL w base (some ⟨g, 0, none⟩) n c l) {i : Nat} {x y : Lt} (hi : l[i]? = some x) (h1 : y.1 = x.1) (h2 : y.2.1 = x.2.1) (hw : (Lit.int .i64 y.2.2).wf = true) :
    OwnL (w.setCell ⟨g, i * 3 + 2, none⟩ (.int .i64 y.2.2)) base (some ⟨g, 0, none⟩) n c (l.set i y) ∧ w.grownBy (w.setCell ⟨g, i * 3 + 2, none⟩ (.int .i64 y.2.2)) (some g) := by
  obtain ⟨a1, a2, a3⟩ := h
  have hs := World.ownsRow.stored a2 (i * 3 + 2) (.int .i64 y.2.2)
  rw [flatL_set l i x y hi h1 h2] at hs
  refine ⟨⟨by simpa using a1, hs.1, fun z hz => ?_⟩, hs.2⟩
  rcases List.mem_or_eq_of_mem_set hz with hz | rfl
  · exact a3 z hz
  · have := a3 x (List.mem_of_getElem? hi)
    unfold WfL at *
    rw [h1, h2]
    exact ⟨this.1, this.2.1, hw⟩
end
theorem set_last {α : Type} (s : List α) (p q : α) : (s ++ [p]).set s.length q = s ++ [q] := by simp
theorem last_get {α : Type} (s : List α) (p : α) : (s ++ [p])[s.length]? = some p := by simp

theorem lotInfo : (Try.prog.info? 39).map (fun i => (i.zero, i.size, i.bytes)) = some (some (.agg #[.int .i64 0, .int .i64 0, .int .i64 0]), 3, 24) := by kernel_rfl
set_option maxRecDepth 100000 in
/-- append(out, src...): src any slice that reads as l2 -/
theorem run_appL (w : World) (ty : TypeId) (base : Nat) (A : Option Addr) (n c : Nat) (l : List Lt) (hown : OwnL w base A n c l)
    (A2 : Option Addr) (m c2 : Nat) (l2 : List Lt) (hr : LotsAt w A2 m c2 l2) (hlen : n + m ≤ 1099511627776) (hbase : base ≤ w.heap.size) :
    ∃ A' c' w', (Builtin.append_ #[22, 22] ty #[.slice A n c, .slice A2 m c2]).run Try.prog w = .ok (.slice A' (n + m) c') w' ∧ OwnL w' base A' (n + m) c' (l ++ l2) ∧ w.grownBy w' (ob A) ∧
      (ob A' = ob A ∨ ob A' = some w.heap.size) := by
  obtain ⟨i, hi, hz0, hz1, hz2⟩ := info_parts lotInfo
  rcases A2 with _ | ad
  · have hm : m = 0 := by
      rcases Nat.eq_zero_or_pos m with h0 | h0
      · exact h0
      · obtain ⟨_, _, h, _⟩ := hr.at_ h0; cases h
    subst hm
    have hn : l2 = [] := List.eq_nil_of_length_eq_zero hr.len
    subst hn
    refine ⟨A, c, w, ?_, by simpa using hown, World.grownBy.refl w _, .inl rfl⟩
    rcases hown.form with ⟨rfl, rfl, rfl⟩ | ⟨g, rfl, _, _, hnc, _⟩
    · simp [Builtin.append_, run_underlying Try.underlying22, sizeOf, typeInfo, hi, Builtin.lenOf, Builtin.firstCells]
    · simp [Builtin.append_, run_underlying Try.underlying22, sizeOf, typeInfo, hi, Builtin.lenOf, Builtin.firstCells, hnc, storeCells]
  · have hcells : ∀ j u, (flatL l2)[j]? = some u → w.cell? (ad.add j) = some u := by
      intro j u hu
      obtain ⟨x, hx, hor⟩ := flatL_cell l2 j u hu
      have hi2 := (List.getElem?_eq_some_iff.1 hx).1
      obtain ⟨b, o, hh, _, hc⟩ := hr.at_ (by have := hr.len; omega)
      injection hh with hh
      subst hh
      rw [add_plain]
      obtain ⟨c1, c2, c3⟩ := hc _ x hx
      rcases hor with ⟨h3, rfl⟩ | ⟨h3, rfl⟩ | ⟨h3, rfl⟩
      · rw [show o + j = o + j / 3 * 3 by omega]; exact c1
      · rw [show o + j = o + j / 3 * 3 + 1 by omega]; exact c2
      · rw [show o + j = o + j / 3 * 3 + 2 by omega]; exact c3
    obtain ⟨v', w', hrun, h2, h3, _, h5⟩ := run_append_own_at (P := Try.prog) w base 22 ty 39 i _ 3 24 Try.underlying22 hi hz0 hz1 hz2 rfl (by decide) _ n _ hown.2.1 ad m c2 (flatL l2) (by rw [flatL_len, hr.len]) hcells (flatL_one l2) (by unfold maxLen; omega) (by omega) hbase
    rw [← flatL_app] at h2
    have hw : ∀ x ∈ l ++ l2, WfL x := by
      intro y hy; rcases List.mem_append.1 hy with hy | hy; exact hown.2.2 y hy; exact hr.wf y hy
    have h2' := h2
    rw [ob_eq] at h3
    rcases h2.2 with ⟨rfl, h0⟩ | ⟨g, cap, cur, rfl, _⟩
    · have : n = 0 ∧ m = 0 := by omega
      obtain ⟨rfl, rfl⟩ := this
      rw [ob_eq, ob_eq] at h5
      exact ⟨none, 0, w', hrun, ⟨by simp [hown.1, hr.len], h2', hw⟩, h3, h5⟩
    · rw [ob_eq, ob_eq] at h5
      exact ⟨_, cap, w', hrun, ⟨by simp [hown.1, hr.len], h2', hw⟩, h3, h5⟩
/-- a lot that lies in a block by itself -/
theorem lot_box {w : World} {g : Nat} {x : Lt} (hx : WfL x) (h : w.cell? ⟨g, 0, none⟩ = some (.int .i64 x.1) ∧ w.cell? ⟨g, 1, none⟩ = some (.int .i64 x.2.1) ∧ w.cell? ⟨g, 2, none⟩ = some (.int .i64 x.2.2)) : LotsAt w (some ⟨g, 0, none⟩) 1 1 [x] :=
  ⟨rfl, Nat.le_refl _, by unfold maxLen; omega, by intro y hy; rw [List.mem_singleton] at hy; subst hy; exact hx, fun _ => ⟨g, 0, rfl, World.block_lt_of_cell? w _ h.1, fun i y hy => by
    cases i with
    | zero => simp at hy; subst hy; exact h
    | succ i => simp at hy⟩⟩
theorem lot_new {w : World} {x : Lt} (hx : WfL x) : LotsAt (w.alloc (.cells #[.int .i64 x.1, .int .i64 x.2.1, .int .i64 x.2.2] 39)) (some ⟨w.heap.size, 0, none⟩) 1 1 [x] := lot_box hx (cells3_new w _ _ _ _)
theorem wpList_appL (w : World) {ops : Array Oper} {rest : List Oper} {o : Oper} {a : Act} {Q : Exit → Act → World → Prop} (hgd : o.guard = none) (s x : Operand)
    (ho : o.op = .call { callee := .builtin .append, args := #[s, x], argTypes := #[22, 22] })
    (base : Nat) (A : Option Addr) (n c : Nat) (l : List Lt) (hs : a.eval s = .slice A n c) (hown : OwnL w base A n c l)
    (A2 : Option Addr) (m c2 : Nat) (l2 : List Lt) (hx : a.eval x = .slice A2 m c2) (hr : LotsAt w A2 m c2 l2) (hlen : n + m ≤ 1099511627776) (hbase : base ≤ w.heap.size)
    (h : ∀ A' c' w', OwnL w' base A' (n + m) c' (l ++ l2) → w.grownBy w' (ob A) → Below base w w' → (ob A' = ob A ∨ ob A' = some w.heap.size) → wpList Try.prog ops Q rest (a.put o.dst (.slice A' (n + m) c')) w') :
    wpList Try.prog ops Q (o :: rest) a w := by
  refine wpList_plain hgd fun K hK' => ?_
  obtain ⟨A', c', w', hrun, hO, h3, h5⟩ := run_appL w o.type base A n c l hown A2 m c2 l2 hr hlen hbase
  unfold Oper.wp execOp
  simp only [ho, resolve, invoke, builtin, Sem.run_bind, Sem.run_pure, Result.andThen_ok, List.map_toArray, List.map_cons, List.map_nil, hs, hx, hrun]
  exact hK' _ _ (h A' c' w' hO h3 ((Below.refl base w).grown h3 hbase (fun k hk => (hown.ltN k hk).1)) h5)
theorem step_appL {W : World} {ops : Array Oper} {o : Oper} {a : Act} {K : Act → World → Prop} {Q : Exit → Act → World → Prop} {R : Prop} (hgd : o.guard = none) (s x : Operand)
    (ho : o.op = .call { callee := .builtin .append, args := #[s, x], argTypes := #[22, 22] })
    (base : Nat) (A : Option Addr) (n c : Nat) (l : List Lt) (hs : a.eval s = .slice A n c) (hown : OwnL W base A n c l)
    (A2 : Option Addr) (m c2 : Nat) (l2 : List Lt) (hx : a.eval x = .slice A2 m c2) (hr : LotsAt W A2 m c2 l2) (hlen : n + m ≤ 1099511627776) (hbase : base ≤ W.heap.size)
    (h : ∀ A' c' w', OwnL w' base A' (n + m) c' (l ++ l2) → W.grownBy w' (ob A) → Below base W w' → (ob A' = ob A ∨ ob A' = some W.heap.size) → K (a.put o.dst (.slice A' (n + m) c')) w') :
    if Region.wanted o (yielded ops a.tmps) = true then Oper.wp Try.prog o a W K Q else R := by
  have hw : Region.wanted o (yielded ops a.tmps) = true := by simp [Region.wanted, hgd]
  rw [if_pos hw]
  obtain ⟨A', c', w', hrun, hO, h3, h5⟩ := run_appL W o.type base A n c l hown A2 m c2 l2 hr hlen hbase
  unfold Oper.wp execOp
  simp only [ho, resolve, invoke, builtin, Sem.run_bind, Sem.run_pure, Result.andThen_ok, List.map_toArray, List.map_cons, List.map_nil, hs, hx, hrun]
  exact h A' c' w' hO h3 ((Below.refl base W).grown h3 hbase (fun k hk => (hown.ltN k hk).1)) h5

/-- what is handed back: lots of the call's own; nothing that was there has turned -/
def RetL (w : World) (l : List Lt) (e : Ending) (w' : World) : Prop := ∃ A n c, e = .returned (.slice A n c) ∧ OwnL w' w.heap.size A n c l ∧ E w w'
theorem RetL.mk_ {w w' : World} {r : List Lt} {A : Option Addr} {n c : Nat} {l : List Lt} (hr : r = l) (hO : OwnL w' w.heap.size A n c l) (hE : E w w') : RetL w r (.returned (.slice A n c)) w' := ⟨A, n, c, rfl, by rw [hr]; exact hO, hE⟩
/-- append(l, x) as put does it: the row is the caller's own, it may be written in place -/
def RetPut (w : World) (base : Nat) (A : Option Addr) (l : List Lt) (e : Ending) (w' : World) : Prop :=
  ∃ A' n' c', e = .returned (.slice A' n' c') ∧ OwnL w' base A' n' c' l ∧ w.grownBy w' (ob A) ∧ (ob A' = ob A ∨ ∀ b, ob A' = some b → w.heap.size ≤ b)
end Go.Proofs.Ytgbamgijpgjmgaa
/- possible, continues, Valid, Total and their models. -/
namespace Go.Proofs.Ytgbamgijpgjmgaa
open Go.RowKit

theorem retK_alloc {w : World} {a b : Bool} (h : b = a) (o : Obj) : RetK w a (.returned (.bool b)) (w.alloc o) := ⟨by rw [h], (E.refl w).alloc o⟩

set_option maxHeartbeats 1000000 in
theorem possible_c (x : Lt) (w : World) (hw : WfL x) : Calls Try.prog 55 #[ltV x] w (RetK w (possB x)) := by
  obtain ⟨f, a, n⟩ := x
  obtain ⟨w1, w2, w3⟩ := hw
  simp only at w1 w2 w3
  obtain ⟨f1, f2⟩ := wf_i64 w1
  obtain ⟨a1, a2⟩ := wf_i64 w2
  obtain ⟨n1, n2⟩ := wf_i64 w3
  clear w1 w2 w3
  have HF := Lib.hid (show possB (f, a, n) = (decide (0 ≤ f) && (decide (0 ≤ a) && (decide (a ≤ 1099511627776) && (decide (1 ≤ n) && decide (n ≤ 1099511627776 - a))))) from rfl)
  generalize possB (f, a, n) = r at *
  unfold ltV
  by_cases h1 : 0 ≤ f
  · have d1 : decide (0 ≤ f) = true := by simpa using h1
    by_cases h2 : 0 ≤ a
    · have d2 : decide (0 ≤ a) = true := by simpa using h2
      by_cases h3 : a ≤ 1099511627776
      · have d3 : decide (a ≤ 1099511627776) = true := by simpa using h3
        by_cases h4 : 1 ≤ n
        · have d4 : decide (1 ≤ n) = true := by simpa using h4
          go_enter Try.func55, Try.ntmps55
          go_wp2
          go_ret
          exact retK_alloc (by rw [HF.out]; simp [h1, h2, h3, h4]) _
        · have d4 : decide (1 ≤ n) = false := by simpa using h4
          go_enter Try.func55, Try.ntmps55
          go_wp2
          go_ret
          exact retK_alloc (by rw [HF.out]; simp; omega) _
      · have d3 : decide (a ≤ 1099511627776) = false := by simpa using h3
        go_enter Try.func55, Try.ntmps55
        go_wp2
        go_ret
        exact retK_alloc (by rw [HF.out]; simp; omega) _
    · have d2 : decide (0 ≤ a) = false := by simpa using h2
      go_enter Try.func55, Try.ntmps55
      go_wp2
      go_ret
      exact retK_alloc (by rw [HF.out]; simp; omega) _
  · have d1 : decide (0 ≤ f) = false := by simpa using h1
    go_enter Try.func55, Try.ntmps55
    go_wp2
    go_ret
    exact retK_alloc (by rw [HF.out]; simp; omega) _

theorem possB_ref (f a n : Int) : possB (f, a, n) = (decide (0 ≤ f) && (decide (0 ≤ a) && (decide (1 ≤ n) && (decide (n ≤ 1099511627776) && decide (a ≤ 1099511627776 - n))))) := by
  rw [Bool.eq_iff_iff, possB_iff]
  simp only [Bool.and_eq_true, decide_eq_true_eq]
  omega
set_option maxHeartbeats 1000000 in
theorem refPossible_c (x : Lt) (w : World) (hw : WfL x) : Calls Try.prog 56 #[ltV x] w (RetK w (possB x)) := by
  obtain ⟨f, a, n⟩ := x
  obtain ⟨w1, w2, w3⟩ := hw
  simp only at w1 w2 w3
  obtain ⟨f1, f2⟩ := wf_i64 w1
  obtain ⟨a1, a2⟩ := wf_i64 w2
  obtain ⟨n1, n2⟩ := wf_i64 w3
  clear w1 w2 w3
  have HF := Lib.hid (possB_ref f a n)
  generalize possB (f, a, n) = r at *
  unfold ltV
  by_cases h1 : 0 ≤ f
  · have d1 : decide (0 ≤ f) = true := by simpa using h1
    by_cases h2 : 0 ≤ a
    · have d2 : decide (0 ≤ a) = true := by simpa using h2
      by_cases h3 : 1 ≤ n
      · have d3 : decide (1 ≤ n) = true := by simpa using h3
        by_cases h4 : n ≤ 1099511627776
        · have d4 : decide (n ≤ 1099511627776) = true := by simpa using h4
          go_enter Try.func56, Try.ntmps56
          go_wp2
          go_ret
          exact retK_alloc (by rw [HF.out]; simp [h1, h2, h3, h4]) _
        · have d4 : decide (n ≤ 1099511627776) = false := by simpa using h4
          go_enter Try.func56, Try.ntmps56
          go_wp2
          go_ret
          exact retK_alloc (by rw [HF.out]; simp; omega) _
      · have d3 : decide (1 ≤ n) = false := by simpa using h3
        go_enter Try.func56, Try.ntmps56
        go_wp2
        go_ret
        exact retK_alloc (by rw [HF.out]; simp; omega) _
    · have d2 : decide (0 ≤ a) = false := by simpa using h2
      go_enter Try.func56, Try.ntmps56
      go_wp2
      go_ret
      exact retK_alloc (by rw [HF.out]; simp; omega) _
  · have d1 : decide (0 ≤ f) = false := by simpa using h1
    go_enter Try.func56, Try.ntmps56
    go_wp2
    go_ret
    exact retK_alloc (by rw [HF.out]; simp; omega) _

set_option maxHeartbeats 1000000 in
theorem continues_c (x p : Lt) (w : World) (hx : possB x = true) (hp : possB p = true) : Calls Try.prog 83 #[ltV x, ltV p] w (RetK w (contB p x)) := by
  obtain ⟨f, a, n⟩ := x
  obtain ⟨g, b, m⟩ := p
  have hx := possB_iff.1 hx
  have hp := possB_iff.1 hp
  simp only at hx hp
  have HF := Lib.hid (show contB (g, b, m) (f, a, n) = (decide (g = f) && decide (b + m = a)) from rfl)
  generalize contB (g, b, m) (f, a, n) = r at *
  unfold ltV
  go_enter Try.func83, Try.ntmps83
  go_wp2
  all_goals go_ret
  all_goals exact ⟨ret_bool (by rw [HF.out]; first | (simp; done) | (simp; omega) | (simp [*]; done)), ((E.refl w).alloc _).alloc _⟩

theorem lots_last {s : List Lt} {p : Lt} {w : World} {base : Nat} {A : Option Addr} {k c : Nat} (h : OwnL w base A (k + 1) c (s ++ [p])) : s.length = k ∧ ∃ g, A = some ⟨g, 0, none⟩ ∧ base ≤ g ∧ g < w.heap.size ∧ WfL p ∧
    w.cell? ⟨g, k * 3, none⟩ = some (.int .i64 p.1) ∧ w.cell? ⟨g, k * 3 + 1, none⟩ = some (.int .i64 p.2.1) ∧ w.cell? ⟨g, k * 3 + 2, none⟩ = some (.int .i64 p.2.2) ∧ w.frozen? ⟨g, k * 3 + 2, none⟩ = false := by
  have hk : s.length = k := by have := h.1; simpa using this
  refine ⟨hk, ?_⟩
  obtain ⟨b, o, x, hA, hb, hx, hwx, c1, c2, c3⟩ := h.reads.get (i := k) (by omega)
  rw [← hk, last_get] at hx
  injection hx with hx
  subst hx
  rcases h.form with ⟨_, h0, _⟩ | ⟨g, hA', hbg, hlt, _, _⟩
  · omega
  · rw [hA'] at hA
    injection hA with hA
    injection hA with hA1 hA2
    subst hA1 hA2
    simp only [Nat.zero_add] at c1 c2 c3
    subst hA'
    exact ⟨g, rfl, hbg, hb, hwx, c1, c2, c3, World.ownsRow.frozenAt h.2.1 _⟩
end Go.Proofs.Ytgbamgijpgjmgaa
