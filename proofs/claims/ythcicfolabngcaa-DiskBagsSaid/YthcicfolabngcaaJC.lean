/- Lemmas of the claim, joined: DB DC DE DF DG DH DI DJ Sk DL So DM DN DU DR DV DO DP DW DX DZ. No condition. -/
import Derived.Maps.Own
import Derived.Maps.Views
import Derived.Maps.OwnOps
import Derived.Maps.OwnSet
import Derived.Maps.RangeWalk
import Derived.Test.YthcicfolabngcaaJA
import Derived.Shelf.SlIterI.Nil
import Derived.Ground.GgzProg
import Derived.Test.YthcicfolabngcaaProg
import Derived.Ground.SlgmProg
import Derived.Shelf.SortM.Plain
import Derived.Shelf.SortM.SortNone
import Derived.Test.YthcicfolabngcaaJB
/- Maps from numbers to any values (pointers, slices): look-up, store, delete, ranging. -/
namespace Go.Proofs.Ythcicfolabngcaa
open Go.RowKit

structure MapT' (mt vt : TypeId) (z : Value) : Prop where
  und : Try.prog.underlying mt = some (.map 3 vt)
  zero : ∀ w, (zeroValue vt).run Try.prog w = .ok z w
def heldD (v : Value) : Option (DataW Value × List MemPlace) := some (.held v, [])
def pickV' (o : Option Value) (d : DataW Value) : DataW Value := match o with | some v => .held v | none => d
/-- block b is a map that holds f x at the key x -/
def MapD (w : World) (b n : Nat) (f : Int → Option Value) : Prop :=
  ∃ D : DataW Value, w.ownsMap Try.prog 3 heldD b n D ∧ Maps.IsMap D ∧ (∀ x d, D.atKey (.int .i64 x) d = pickV' (f x) d) ∧ ∀ x, Maps.has D (.int .i64 x) = (f x).isSome
theorem MapD.made (w : World) : MapD (w.alloc (.map #[] 0)) w.heap.size 0 (fun _ => none) := ⟨_, World.ownsMap_made _ _ _ _, Maps.isMap_empty, fun _ _ => rfl, fun _ => rfl⟩
section
variable {w w' : World} {b n : Nat} {f : Int → Option Value} {mt vt : TypeId} {z : Value}
theorem MapD.lt (h : MapD w b n f) : b < w.heap.size := by obtain ⟨D, h1, _⟩ := h; exact h1.lt
theorem MapD.block (h : MapD w b n f) (hb : w'.heap[b]? = w.heap[b]?) : MapD w' b n f := by
  obtain ⟨D, ⟨es, clock, h1, h2⟩, h3⟩ := h
  exact ⟨D, ⟨es, clock, hb.trans h1, h2⟩, h3⟩
theorem MapD.e (h : MapD w b n f) (hE : E w w') : MapD w' b n f := h.block (hE.block h.lt)
theorem MapD.ext {g : Int → Option Value} (h : MapD w b n f) (e : ∀ x, f x = g x) : MapD w b n g := by
  have : f = g := funext e
  rw [← this]; exact h
theorem MapD.mono {n' : Nat} (h : MapD w b n f) (hn : n ≤ n') : MapD w b n' f := by
  obtain ⟨D, h1, h2⟩ := h
  exact ⟨D, h1.mono hn, h2⟩
set_option maxRecDepth 100000 in
theorem MapD.look (h : MapD w b n f) (T : MapT' mt vt z) {x : Int} (hx : (Lit.int .i64 x).wf = true) : (Instr.lookup mt (.map (some b)) (.int .i64 x) false).run Try.prog w = .ok ((f x).getD z) w := by
  obtain ⟨D, h1, h2, h3, _⟩ := h
  obtain ⟨v, ps, hrun, hv⟩ := h1.lookup (Maps.int_keyed Try.underlying3) T.und (T.zero _) (zd := .held z) (zp := []) rfl (Maps.keyOf_int_mk Try.underlying3 hx)
  rw [hrun]
  rw [h3] at hv
  simp only [heldD, Option.some.injEq, Prod.mk.injEq] at hv
  have h4 := hv.1
  cases hf : f x with
  | none => rw [hf] at h4; simp only [pickV', DataW.held.injEq] at h4; rw [h4]; simp only [Option.getD]
  | some u => rw [hf] at h4; simp only [pickV', DataW.held.injEq] at h4; rw [h4]; simp only [Option.getD]
set_option maxRecDepth 100000 in
theorem MapD.lookOk (h : MapD w b n f) (T : MapT' mt vt z) {x : Int} (hx : (Lit.int .i64 x).wf = true) : (Instr.lookup mt (.map (some b)) (.int .i64 x) true).run Try.prog w = .ok (.tuple #[(f x).getD z, .bool (f x).isSome]) w := by
  obtain ⟨D, h1, h2, h3, h5⟩ := h
  obtain ⟨v, ps, hrun, hv⟩ := h1.look_ok (Maps.int_keyed Try.underlying3) T.und (T.zero _) (zd := .held z) (zp := []) rfl (Maps.keyOf_int_mk Try.underlying3 hx)
  rw [hrun, h5]
  rw [h3] at hv
  simp only [heldD, Option.some.injEq, Prod.mk.injEq] at hv
  have h4 := hv.1
  cases hf : f x with
  | none => rw [hf] at h4; simp only [pickV', DataW.held.injEq] at h4; rw [h4]; simp only [Option.getD]
  | some u => rw [hf] at h4; simp only [pickV', DataW.held.injEq] at h4; rw [h4]; simp only [Option.getD]
set_option maxRecDepth 100000 in
theorem MapD.put (h : MapD w b n f) (T : MapT' mt vt z) {x : Int} (v : Value) (hx : (Lit.int .i64 x).wf = true) (hn : n < maxLen) : ∃ w', (Instr.mapUpdate mt (.map (some b)) (.int .i64 x) v).run Try.prog w = .ok () w' ∧ MapD w' b (n + 1) (fun y => if y = x then some v else f y) ∧ w.grownBy w' (some b) := by
  obtain ⟨D, h1, h2, h3, h4⟩ := h
  obtain ⟨w', r1, r2, r3⟩ := h1.update (Maps.int_keyed Try.underlying3) T.und hn (Maps.keyOf_int_mk Try.underlying3 hx) (show heldD v = some (.held v, []) from rfl)
  refine ⟨w', r1, ⟨_, r2, h2.put _ _, fun y d => ?_, fun y => ?_⟩, r3⟩
  · by_cases e : y = x
    · subst e; rw [Maps.atKey_put_same h2 (by trivial)]; simp [pickV']
    · rw [Maps.atKey_put_other (by intro e'; injection e' with _ e'; exact e e'), h3]; simp [e]
  · by_cases e : y = x
    · subst e; rw [Maps.has_put_same h2 (by trivial)]; simp
    · rw [Maps.has_put_other (by intro e'; injection e' with _ e'; exact e e'), h4]; simp [e]
set_option maxRecDepth 100000 in
/-- delete(m, x) -/
theorem wpList_delD {ops : Array Oper} {rest : List Oper} {o : Oper} {a : Act} {Q : Exit → Act → World → Prop} (h : MapD w b n f) (T : MapT' mt vt z) (hg : o.guard = none) (m k : Operand) (hop : o.op = Op.call { callee := Callee.builtin Builtin.delete, args := #[m, k], argTypes := #[mt, 3] })
    (x : Int) (hm : a.eval m = .map (some b)) (hk : a.eval k = .int .i64 x) (hx : (Lit.int .i64 x).wf = true)
    (hK : ∀ w', MapD w' b n (fun y => if y = x then none else f y) → w.grownBy w' (some b) → w'.heap.size = w.heap.size → wpList Try.prog ops Q rest (a.put o.dst (.tuple #[])) w') :
    wpList Try.prog ops Q (o :: rest) a w := by
  obtain ⟨D, h1, h2, h3, h4⟩ := h
  refine wpList_delete_own w hg m k mt 3 hop vt (Maps.int_keyed Try.underlying3) T.und heldD b n D hm h1 _ _ hk (Maps.keyOf_int_mk Try.underlying3 hx) fun w' r1 r2 => ?_
  have hsz : w'.heap.size = w.heap.size := by
    obtain ⟨es, clock, es', clock', _, rfl⟩ := r2
    simp [ChangeMaps.setBlock]
  refine hK w' ⟨_, r1, h2.del _, fun y d => ?_, fun y => ?_⟩ r2.grown hsz
  · by_cases e : y = x
    · subst e; rw [Maps.atKey_del_same]; simp [pickV']
    · rw [Maps.atKey_del_other (by intro e'; injection e' with _ e'; exact e e'), h3]; simp [e]
  · by_cases e : y = x
    · subst e; rw [Maps.has_del_same]; simp
    · rw [Maps.has_del_other (by intro e'; injection e' with _ e'; exact e e'), h4]; simp [e]
/-- 'for k, v := range m' under way over the map in block b; left: what is still to come -/
def RngD (w : World) (b r n : Nat) (f : Int → Option Value) (left : Int → Bool) (cnt : Nat) : Prop :=
  ∃ (D : DataW Value) (lf : Lit → Bool), w.ranges Try.prog 3 heldD b r n D lf cnt ∧ Maps.IsMap D ∧ (∀ x d, D.atKey (.int .i64 x) d = pickV' (f x) d) ∧ (∀ x, Maps.has D (.int .i64 x) = (f x).isSome) ∧ ∀ x, lf (.int .i64 x) = left x
theorem RngD.map {r cnt : Nat} {left : Int → Bool} (h : RngD w b r n f left cnt) : MapD w b n f := by
  obtain ⟨D, lf, h1, h2, h3, h4, _⟩ := h
  exact ⟨D, h1.owns, h2, h3, h4⟩
theorem RngD.left_eq {r cnt : Nat} {left : Int → Bool} (h : RngD w b r n f left cnt) : w.rangeLeft b r = cnt := by obtain ⟨D, lf, h1, _⟩ := h; exact h1.left_eq
theorem RngD.lt {r cnt : Nat} {left : Int → Bool} (h : RngD w b r n f left cnt) : r < w.heap.size := by obtain ⟨D, lf, h1, _⟩ := h; exact h1.lt
theorem RngD.ne {r cnt : Nat} {left : Int → Bool} (h : RngD w b r n f left cnt) : r ≠ b := by obtain ⟨D, lf, h1, _⟩ := h; exact h1.ne
theorem RngD.blocks {r cnt : Nat} {left : Int → Bool} (h : RngD w b r n f left cnt) (hb : w'.heap[b]? = w.heap[b]?) (hr : w'.heap[r]? = w.heap[r]?) : RngD w' b r n f left cnt := by
  obtain ⟨D, lf, ⟨es, clock, since, seen, c0, a1, a2, a3, a4, a5, a6⟩, h2⟩ := h
  exact ⟨D, lf, ⟨es, clock, since, seen, c0, hb.trans a1, a2, a3, a4, hr.trans a5, a6⟩, h2⟩
set_option maxRecDepth 100000 in
theorem wpList_rangeD {ops : Array Oper} {rest : List Oper} {o : Oper} {a : Act} {Q : Exit → Act → World → Prop} (hS : MapD w b n f) (T : MapT' mt vt z) (hg : o.guard = none) (m : Operand) (hop : o.op = Op.range mt m)
    (hm : a.eval m = .map (some b))
    (hK : ∀ w' cnt, RngD w' b w.heap.size n f (fun x => (f x).isSome) cnt → w.grownBy w' none → w'.heap.size = w.heap.size + 1 → cnt ≤ n → wpList Try.prog ops Q rest (a.put o.dst (.pointer (some ⟨w.heap.size, 0, none⟩))) w') :
    wpList Try.prog ops Q (o :: rest) a w := by
  obtain ⟨D, h1, h2, h3, h4⟩ := hS
  refine wpList_range_own w hg m mt hop 3 vt (Maps.int_keyed Try.underlying3) T.und _ b n D hm h1 fun w' hr hg' hs => ?_
  refine hK w' _ ⟨D, _, hr, h2, h3, h4, h4⟩ hg' hs ?_
  obtain ⟨es, clock, since, seen, c0, _, _, hsz, _, _, _, hc, _⟩ := hr
  have : (leftOf es seen).size ≤ es.size := by
    unfold leftOf
    exact Array.size_filter_le
  omega
set_option maxRecDepth 100000 in
theorem wpList_nextD {ops : Array Oper} {rest : List Oper} {o : Oper} {a : Act} {Q : Exit → Act → World → Prop} (hg : o.guard = none) (it : Operand) (hop : o.op = Op.next it false) (r : Nat) (left : Int → Bool) (cnt : Nat)
    (hit : a.eval it = .pointer (some ⟨r, 0, none⟩)) (h : RngD w b r n f left cnt)
    (hDone : (∀ x, left x = false) → wpList Try.prog ops Q rest (a.put o.dst (.tuple #[.bool false])) w)
    (hMore : ∀ (x : Int) (v : Value) (w' : World) (cnt' : Nat), (Lit.int .i64 x).wf = true → left x = true → f x = some v → RngD w' b r n f (fun y => left y && y != x) cnt' → cnt' < cnt → w.grownBy w' (some r) → w'.heap.size = w.heap.size →
      (Instr.entry (.pointer (some ⟨r, 0, none⟩))).run Try.prog w' = .ok (.tuple #[.int .i64 x, v]) w' → wpList Try.prog ops Q rest (a.put o.dst (.tuple #[.bool true, .int .i64 x, v])) w') :
    wpList Try.prog ops Q (o :: rest) a w := by
  obtain ⟨D, lf, h1, h2, h3, h4, h5⟩ := h
  refine wpList_next_ranges w hg it hop 3 (Maps.int_keyed Try.underlying3) heldD (Value.int .i64) (fun v : Value => v) (fun key kl hkey => by obtain ⟨x, rfl, _⟩ := Maps.keyOf_int_inv Try.underlying3 hkey; exact ⟨x, rfl⟩)
    (fun v y _ => ⟨v, rfl⟩) b r n D lf cnt hit h1 (fun _ hl => hDone fun x => by rw [← h5]; exact hl _) ?_
  intro x c kl y w' cnt' hkey hlk hv hat hrg hlt hgr hsz hen
  obtain ⟨x', ex, rfl, hwx⟩ := Maps.keyOf_int_inv Try.underlying3 hkey
  cases ex
  have hv2 : y = (.held c, []) := by simpa [heldD] using hv.symm
  have hf : f x = some c := by
    have ha := hat (.held undef)
    rw [h3, hv2] at ha
    have hh := Maps.has_true_of_atKey hat
    rw [h4] at hh
    cases hfx : f x with
    | none => rw [hfx] at hh; cases hh
    | some u => rw [hfx] at ha; simp only [pickV', DataW.held.injEq] at ha; rw [ha]
  refine hMore x c w' cnt' hwx (by rw [← h5]; exact hlk) hf ⟨D, _, hrg, h2, h3, h4, fun z => ?_⟩ hlt hgr hsz hen
  simp only [h5]
  congr 1
  by_cases e : z = x
  · subst e; simp [Lit.sameKey]
  · have : (Lit.int .i64 z).sameKey (.int .i64 x) = false := by simp [Lit.sameKey, e]
    rw [this]
    simp [e]
end
end Go.Proofs.Ythcicfolabngcaa
/- A disk in memory; the small functions of package disk. -/
namespace Go.Proofs.Ythcicfolabngcaa
open Go.RowKit

def ptrV (p : Nat) : Value := .pointer (some ⟨p, 0, none⟩)
theorem mapTF : MapT' 77 81 (.pointer none) := ⟨Try.underlying77, Try.zeroValue81⟩
def headV (s : DS) (mb : Nat) : Obj := .cells #[.int .i64 s.room, .int .i64 (usedF s.b : Nat), .map (some mb), .bool s.off, .int .i64 s.plan] 79 (0, 0)
def boxV (A : Option Addr) (n c f : Nat) : Obj := .cells #[.slice A n c, .int .i64 (f : Nat)] 83 (0, 0)
/-- the struct lies in block g, its map in block mb, the box of file i in block F i; all of its blocks are among X; the map has had at most k stores -/
structure DiskM (w : World) (X : Nat → Prop) (g k : Nat) (s : DS) (mb : Nat) (F : Int → Option Nat) (A : Int → Option Addr) (c : Int → Nat) : Prop where
  hd : w.heap[g]? = some (headV s mb)
  hm : MapD w mb k (fun i => (F i).map ptrV)
  bx : ∀ i p, F i = some p → w.heap[p]? = some (boxV (A i) (s.b i).length (c i) (s.firm i))
  row : ∀ i p, F i = some p → Own .u8 5 w 0 (A i) (s.b i).length (c i) (s.b i)
  nn : ∀ i, F i = none ↔ s.b i = []
  inj : ∀ i j p, F i = some p → F j = some p → i = j
  ap : ∀ i j p q, i ≠ j → F i = some p → F j = some q → apartS (A i) (A j)
  xg : X g
  xm : X mb
  xb : ∀ i p, F i = some p → X p
  xr : ∀ i p, F i = some p → ∀ b, ob (A i) = some b → X b
  xl : ∀ i, X i → i < w.heap.size
  ok : DOk s
def DiskAt (w : World) (X : Nat → Prop) (g k : Nat) (s : DS) : Prop := ∃ mb F A c, DiskM w X g k s mb F A c
/-- after an operation on the disk: its new state, and what else may have turned -/
def After (w : World) (X : Nat → Prop) (g k : Nat) (s : DS) (w' : World) : Prop := ∃ X', DiskAt w' X' g k s ∧ Ex X w w' ∧ ∀ i, X' i → X i ∨ w.heap.size ≤ i

section
variable {w w' : World} {X : Nat → Prop} {g k mb : Nat} {s s' : DS} {F : Int → Option Nat} {A : Int → Option Addr} {c : Int → Nat}
theorem DiskM.cells (h : DiskM w X g k s mb F A c) : w.cell? ⟨g, 0, none⟩ = some (.int .i64 s.room) ∧ w.cell? ⟨g, 1, none⟩ = some (.int .i64 (usedF s.b : Nat)) ∧ w.cell? ⟨g, 2, none⟩ = some (.map (some mb)) ∧ w.cell? ⟨g, 3, none⟩ = some (.bool s.off) ∧ w.cell? ⟨g, 4, none⟩ = some (.int .i64 s.plan) :=
  ⟨cell_of_row _ _ _ _ _ _ h.hd, cell_of_row _ _ _ _ _ _ h.hd, cell_of_row _ _ _ _ _ _ h.hd, cell_of_row _ _ _ _ _ _ h.hd, cell_of_row _ _ _ _ _ _ h.hd⟩
theorem DiskM.frz (h : DiskM w X g k s mb F A c) (i : Nat) : w.frozen? ⟨g, i, none⟩ = false := frozen_of_row _ _ _ _ _ h.hd
theorem DiskM.box (h : DiskM w X g k s mb F A c) {i : Int} {p : Nat} (hp : F i = some p) : w.cell? ⟨p, 0, none⟩ = some (.slice (A i) (s.b i).length (c i)) ∧ w.cell? ⟨p, 1, none⟩ = some (.int .i64 (s.firm i : Nat)) ∧ (∀ j, w.frozen? ⟨p, j, none⟩ = false) :=
  ⟨cell_of_row _ _ _ _ _ _ (h.bx i p hp), cell_of_row _ _ _ _ _ _ (h.bx i p hp), fun _ => frozen_of_row _ _ _ _ _ (h.bx i p hp)⟩
theorem DiskM.neg (h : DiskM w X g k s mb F A c) {i : Int} {p : Nat} (hp : F i = some p) : p ≠ g := fun e => by
  have h1 := h.bx i p hp
  rw [e, h.hd] at h1
  injection h1 with h1
  injection h1 with _ h1
  exact absurd h1 (by decide)
theorem DiskM.map_ne (h : DiskM w X g k s mb F A c) {q : Nat} {cs : Array Value} {T : TypeId} (hq : w.heap[q]? = some (.cells cs T (0, 0))) : mb ≠ q := fun e => by
  obtain ⟨D, ⟨es, clock, h1, _⟩, _⟩ := h.hm
  rw [e, hq] at h1
  injection h1 with h1
  cases h1
theorem DiskM.row_ne (h : DiskM w X g k s mb F A c) {i : Int} {p : Nat} (hp : F i = some p) {q : Nat} {cs : Array Value} {T : TypeId} (hq : w.heap[q]? = some (.cells cs T (0, 0))) (hT : 5 ≠ T) : ob (A i) ≠ some q := fun e => by
  rcases (h.row i p hp).2.1.2 with ⟨hv, _⟩ | ⟨g', cap, cur, hv, hb, hh, r⟩
  · injection hv with hA; rw [hA] at e; cases e
  · injection hv with hA
    rw [hA] at e
    have : g' = q := by simpa [ob] using e
    subst this
    rw [hq] at hh
    injection hh with hh
    injection hh with _ ht
    exact hT ht.symm
theorem DiskM.row_map (h : DiskM w X g k s mb F A c) {i : Int} {p : Nat} (hp : F i = some p) : ob (A i) ≠ some mb := fun e => by
  rcases (h.row i p hp).2.1.2 with ⟨hv, _⟩ | ⟨g', cap, cur, hv, hb, hh, r⟩
  · injection hv with hA; rw [hA] at e; cases e
  · injection hv with hA
    rw [hA] at e
    have : g' = mb := by simpa [ob] using e
    exact h.map_ne hh this.symm
/-- nothing of the disk's has turned -/
theorem DiskM.same (h : DiskM w X g k s mb F A c) (hz : w.heap.size ≤ w'.heap.size) (hb : ∀ i, X i → w'.heap[i]? = w.heap[i]?) : DiskM w' X g k s mb F A c := by
  refine ⟨(hb g h.xg).trans h.hd, h.hm.block (hb mb h.xm), fun i p hp => (hb p (h.xb i p hp)).trans (h.bx i p hp), fun i p hp => ?_, h.nn, h.inj, h.ap, h.xg, h.xm, h.xb, h.xr, fun i hi => Nat.lt_of_lt_of_le (h.xl i hi) hz, h.ok⟩
  obtain ⟨h1, ⟨a1, a2⟩, h3⟩ := h.row i p hp
  refine ⟨h1, ⟨a1, ?_⟩, h3⟩
  rcases a2 with a2 | ⟨g', cap, cur, hv, hbg, hh, r⟩
  · exact .inl a2
  · refine .inr ⟨g', cap, cur, hv, hbg, ?_, r⟩
    have hA : A i = some ⟨g', 0, none⟩ := by injection hv
    rw [hb g' (h.xr i p hp g' (by rw [hA]; rfl))]; exact hh
theorem DiskM.e (h : DiskM w X g k s mb F A c) (hE : E w w') : DiskM w' X g k s mb F A c := h.same hE.le fun i hi => hE.block (h.xl i hi)
theorem DiskM.ex (h : DiskM w X g k s mb F A c) {Y : Nat → Prop} (hY : Ex Y w w') (hd : ∀ i, X i → ¬ Y i) : DiskM w' X g k s mb F A c := h.same hY.size fun i hi => hY.block i (h.xl i hi) (hd i hi)
/-- only the struct's own block has turned -/
theorem DiskM.head (h : DiskM w X g k s mb F A c) (hG : w.grownBy w' (some g)) (hh : w'.heap[g]? = some (headV s' mb)) (hb : s'.b = s.b) (hf : s'.firm = s.firm) (ho : DOk s') : DiskM w' X g k s' mb F A c := by
  have hne : ∀ i, X i → i ≠ g → w'.heap[i]? = w.heap[i]? := fun i hi e => hG.block i (h.xl i hi) (fun e' => e (by injection e'))
  refine ⟨hh, h.hm.block (hne mb h.xm (h.map_ne h.hd)), fun i p hp => ?_, fun i p hp => ?_, by rw [hb]; exact h.nn, h.inj, h.ap, h.xg, h.xm, h.xb, h.xr, fun i hi => Nat.lt_of_lt_of_le (h.xl i hi) hG.size, ho⟩
  · rw [hne p (h.xb i p hp) (h.neg hp), hb, hf]; exact h.bx i p hp
  · rw [hb]
    obtain ⟨h1, ⟨a1, a2⟩, h3⟩ := h.row i p hp
    refine ⟨h1, ⟨a1, ?_⟩, h3⟩
    rcases a2 with a2 | ⟨g', cap, cur, hv, hbg, h4, r⟩
    · exact .inl a2
    · have hA : A i = some ⟨g', 0, none⟩ := by injection hv
      refine .inr ⟨g', cap, cur, hv, hbg, ?_, r⟩
      rw [hne g' (h.xr i p hp g' (by rw [hA]; rfl)) (fun e => h.row_ne hp h.hd (by decide) (by rw [hA, e]; rfl))]; exact h4
theorem DiskM.after (h : DiskM w' X g k s mb F A c) (hE : Ex X w w') : After w X g k s w' := ⟨X, ⟨mb, F, A, c, h⟩, hE, fun _ hi => .inl hi⟩
theorem ex_of_grown (hG : w.grownBy w' (some g)) (hX : X g) : Ex X w w' := (Ex.refl X w).grown hG fun i hi => by injection hi with hi; exact .inr (hi ▸ hX)
theorem DiskAt.e (h : DiskAt w X g k s) (hE : E w w') : DiskAt w' X g k s := by obtain ⟨mb, F, A, c, h⟩ := h; exact ⟨mb, F, A, c, h.e hE⟩
theorem DiskAt.ex (h : DiskAt w X g k s) {Y : Nat → Prop} (hY : Ex Y w w') (hd : ∀ i, X i → ¬ Y i) : DiskAt w' X g k s := by obtain ⟨mb, F, A, c, h⟩ := h; exact ⟨mb, F, A, c, h.ex hY hd⟩
theorem DiskAt.lt (h : DiskAt w X g k s) : ∀ i, X i → i < w.heap.size := by obtain ⟨mb, F, A, c, h⟩ := h; exact h.xl
theorem DiskAt.ok (h : DiskAt w X g k s) : DOk s := by obtain ⟨mb, F, A, c, h⟩ := h; exact h.ok
end

theorem isFile_c (i : Int) (w : World) (h1 : -9223372036854775808 ≤ i) (h2 : i ≤ 9223372036854775807) : Calls Try.prog 43 #[.int .i64 i] w (fun e w' => e = .returned (.bool (isF i)) ∧ w' = w) := by
  by_cases h : 0 ≤ i
  · have d : decide (0 ≤ i) = true := by simpa using h
    go_enter Try.func43, Try.ntmps43
    go_wp2
    go_ret
    exact ⟨ret_bool (by simp [isF, h]), rfl⟩
  · have d : decide (0 ≤ i) = false := by simpa using h
    go_enter Try.func43, Try.ntmps43
    go_wp2
    go_ret
    exact ⟨ret_bool (by simp [isF]; omega), rfl⟩
section
variable {X : Nat → Prop} {g k mb : Nat} {s : DS} {F : Int → Option Nat} {A : Int → Option Addr} {c : Int → Nat}
theorem used_c (w : World) (h : DiskM w X g k s mb F A c) : Calls Try.prog 21 #[ptrV g] w (fun e w' => e = .returned (.int .i64 (usedF s.b : Nat)) ∧ w' = w) := by
  obtain ⟨_, c1, _, _, _⟩ := h.cells
  unfold ptrV
  go_enter Try.func21, Try.ntmps21
  go_wp2
  go_ret
  exact ⟨rfl, rfl⟩
theorem on_c (w : World) (h : DiskM w X g k s mb F A c) : Calls Try.prog 24 #[ptrV g] w (fun e w' => e = .returned (.bool (!s.off)) ∧ w' = w) := by
  obtain ⟨_, _, _, c3, _⟩ := h.cells
  unfold ptrV
  go_enter Try.func24, Try.ntmps24
  go_wp2
  go_ret
  exact ⟨rfl, rfl⟩
theorem fails_c (w : World) (h : DiskM w X g k s mb F A c) (ho : s.off = false) : Calls Try.prog 44 #[ptrV g] w (fun e w' => e = .returned (.bool (stepS s).off) ∧ DiskM w' X g k (stepS s) mb F A c ∧ w.grownBy w' (some g)) := by
  obtain ⟨_, _, _, c3, c4⟩ := h.cells
  have f3 := h.frz 3
  have f4 := h.frz 4
  have hp := h.ok.plan
  have H := Lib.hid h
  have HO := Lib.hid ho
  clear h ho
  unfold ptrV
  by_cases h0 : s.plan = 0
  · have d0 : (s.plan == 0) = true := by simp [h0]
    have d1 : decide (0 ≤ s.plan) = true := by simp [h0]
    have H0 := Lib.hid h0
    clear h0
    go_enter Try.func44, Try.ntmps44
    go_wp2
    go_ret
    have hs : stepS s = { s with plan := s.plan - 1, off := true } := by simp [stepS, H0.out]
    refine ⟨ret_bool (by rw [hs]), H.out.head (grownBy_trans (grownBy_set _ _ _ _) (grownBy_set _ _ _ _)) ?_ (stepS_b s) (stepS_firm s) H.out.ok.step, grownBy_trans (grownBy_set _ _ _ _) (grownBy_set _ _ _ _)⟩
    rw [heap_setCell_same _ _ _ _ _ _ (heap_setCell_same _ _ _ _ _ _ H.out.hd), hs]; rfl
  · have d0 : (s.plan == 0) = false := by simp [h0]
    have H0 := Lib.hid h0
    clear h0
    by_cases h1 : 0 ≤ s.plan
    · have d1 : decide (0 ≤ s.plan) = true := by simpa using h1
      go_enter Try.func44, Try.ntmps44
      go_wp2
      go_ret
      have hs : stepS s = { s with plan := s.plan - 1 } := by
        unfold stepS; rw [if_neg (by omega)]; simp [H0.out]
      refine ⟨ret_bool (by rw [hs]), H.out.head (grownBy_set _ _ _ _) ?_ (stepS_b s) (stepS_firm s) H.out.ok.step, grownBy_set _ _ _ _⟩
      rw [heap_setCell_same _ _ _ _ _ _ H.out.hd, hs]; rfl
    · have d1 : decide (0 ≤ s.plan) = false := by simpa using h1
      have hs : stepS s = s := by unfold stepS; rw [if_pos (by omega)]
      have HS := Lib.hid hs
      clear hs
      go_enter Try.func44, Try.ntmps44
      go_wp2
      go_ret
      rw [HS.out]
      exact ⟨rfl, H.out, World.grownBy.refl _ _⟩
theorem arm_c (n : Int) (w : World) (h : DiskM w X g k s mb F A c) (_h1 : -9223372036854775808 ≤ n) (h2 : n ≤ 9223372036854775807) : Calls Try.prog 23 #[ptrV g, .int .i64 n] w (fun e w' => e = .returned (.tuple #[]) ∧ DiskM w' X g k (armS s n) mb F A c ∧ w.grownBy w' (some g)) := by
  obtain ⟨_, _, _, c3, c4⟩ := h.cells
  have f4 := h.frz 4
  have H := Lib.hid h
  clear h
  unfold ptrV
  cases ho : s.off with
  | true =>
    rw [ho] at c3
    have hs : armS s n = s := by unfold armS; rw [if_pos ho]
    have HS := Lib.hid hs
    clear hs ho
    go_enter Try.func23, Try.ntmps23
    go_wp2
    go_end0
    rw [HS.out]
    exact ⟨rfl, H.out, World.grownBy.refl _ _⟩
  | false =>
    rw [ho] at c3
    have hs : armS s n = { s with plan := max n (-1) } := by unfold armS; rw [if_neg (by rw [ho]; decide)]
    have HO := H.out.ok.arm h2
    have HS := Lib.hid hs
    clear hs ho
    go_enter Try.func23, Try.ntmps23
    go_wp2
    all_goals go_end0
    all_goals refine ⟨rfl, H.out.head (grownBy_set _ _ _ _) ?_ (by rw [HS.out]) (by rw [HS.out]) HO, grownBy_set _ _ _ _⟩
    all_goals rw [heap_setCell_same _ _ _ _ _ _ H.out.hd, HS.out]
    all_goals simp [headV]
    all_goals omega
end
end Go.Proofs.Ythcicfolabngcaa
/- New, Read. -/
namespace Go.Proofs.Ythcicfolabngcaa
open Go.RowKit

section
variable {X : Nat → Prop} {g k mb : Nat} {s : DS} {F : Int → Option Nat} {A : Int → Option Addr} {c : Int → Nat}
theorem dread_c (i : Int) (w : World) (h : DiskM w X g k s mb F A c) (h1 : -9223372036854775808 ≤ i) (h2 : i ≤ 9223372036854775807) :
    Calls Try.prog 17 #[ptrV g, .int .i64 i] w (RetOwnErr .u8 5 w (readR s i)) := by
  obtain ⟨_, _, c2, c3, _⟩ := h.cells
  have H := Lib.hid h
  have hwi := wf_of_i64 h1 h2
  unfold ptrV
  have HI := Lib.hid (And.intro h1 h2)
  clear h h1 h2
  cases hf : isF i with
  | false =>
    have HR := Lib.hid (show readR s i = ([], 1) by unfold readR; rw [if_pos hf])
    have HF := Lib.hid hf
    clear hf
    go_enter Try.func17, Try.ntmps17
    go_wp2_with (go_at_call 43; refine (isFile_c _ _ HI.out.1 HI.out.2).mono ?_; rintro e w' ⟨rfl, rfl⟩; rw [HF.out])
    go_ret2
    exact RetOwnErr.mk_ HR.out (Own.nil _ _ _ _) (E.refl _)
  | true =>
    cases ho : s.off with
    | true =>
      rw [ho] at c3
      have HR := Lib.hid (show readR s i = ([], 23) by unfold readR; rw [if_neg (by rw [hf]; decide), if_pos ho])
      have HF := Lib.hid hf
      clear hf ho
      go_enter Try.func17, Try.ntmps17
      go_wp2_with (go_at_call 43; refine (isFile_c _ _ HI.out.1 HI.out.2).mono ?_; rintro e w' ⟨rfl, rfl⟩; rw [HF.out])
      go_ret2
      exact RetOwnErr.mk_ HR.out (Own.nil _ _ _ _) (E.refl _)
    | false =>
      rw [ho] at c3
      have HR := Lib.hid (show readR s i = (s.b i, 0) by unfold readR; rw [if_neg (by rw [hf]; decide), if_neg (by rw [ho]; decide)])
      have HF := Lib.hid hf
      clear hf ho
      have hlk := H.out.hm.lookOk mapTF hwi
      cases hp : F i with
      | none =>
        simp only [hp, Option.map_none, Option.getD_none, Option.isSome_none] at hlk
        have HB := Lib.hid ((H.out.nn i).1 hp)
        clear hp
        go_enter Try.func17, Try.ntmps17
        go_wp2_with (go_at_call 43; refine (isFile_c _ _ HI.out.1 HI.out.2).mono ?_; rintro e w' ⟨rfl, rfl⟩; rw [HF.out])
        go_ret2
        exact RetOwnErr.mk_ (by rw [HR.out, HB.out]) (Own.nil _ _ _ _) (E.refl _)
      | some p =>
        simp only [hp, Option.map_some, Option.getD_some, Option.isSome_some, ptrV] at hlk
        obtain ⟨b0, _, _⟩ := H.out.box hp
        have HP := Lib.hid hp
        clear hp
        have HN := Lib.hid (H.out.ok.len24 i)
        go_enter Try.func17, Try.ntmps17
        go_wp2_with (first
          | (go_at_call 43; refine (isFile_c _ _ HI.out.1 HI.out.2).mono ?_; rintro e w' ⟨rfl, rfl⟩; rw [HF.out])
          | (go_at_call 48; refine (cloneB_c _ _ _ _ _ (H.out.row i p HP.out).reads (by have := HN.out; omega)).mono ?_; rintro e w' ⟨A', n', c', rfl, hO', hE'⟩))
        go_ret2
        exact RetOwnErr.mk_ HR.out hO' hE'
theorem DiskAt.read (i : Int) {w : World} (h : DiskAt w X g k s) (h1 : -9223372036854775808 ≤ i) (h2 : i ≤ 9223372036854775807) :
    Calls Try.prog 17 #[ptrV g, .int .i64 i] w (RetOwnErr .u8 5 w (readR s i)) := by
  obtain ⟨mb, F, A, c, h⟩ := h
  exact dread_c i w h h1 h2
end
/-- what New hands back -/
def RetNew (w : World) (room : Int) (e : Ending) (w' : World) : Prop :=
  E w w' ∧ if 0 ≤ room ∧ room ≤ 16777216 then ∃ g X, e = .returned (.tuple #[ptrV g, .int .i64 0]) ∧ DiskAt w' X g 0 (newS room) ∧ ∀ i, X i → w.heap.size ≤ i
  else e = .returned (.tuple #[.pointer none, .int .i64 1])
theorem new_c (room : Int) (w : World) (h1 : -9223372036854775808 ≤ room) (h2 : room ≤ 9223372036854775807) :
    Calls Try.prog 11 #[.int .i64 room] w (RetNew w room) := by
  by_cases h : 0 ≤ room
  · by_cases h' : room ≤ 16777216
    · have d0 : decide (room < 0) = false := by simp; omega
      have d1 : decide (16777216 < room) = false := by simp; omega
      have HH := Lib.hid (And.intro h h')
      clear h h'
      have hmm := @run_makeMap Try.prog
      go_enter Try.func11, Try.ntmps11
      go_wp2
      go_ret2
      refine ⟨((E.refl w).alloc _).alloc _, ?_⟩
      rw [if_pos HH.out]
      refine ⟨w.heap.size + 1, fun i => i = w.heap.size ∨ i = w.heap.size + 1, by simp [ptrV], ⟨w.heap.size, fun _ => none, fun _ => none, fun _ => 0, ?_⟩, fun i hi => by rcases hi with hi | hi <;> omega⟩
      refine ⟨?_, (MapD.made w).e ((E.refl _).alloc _), fun _ _ h => (by cases h), fun _ _ h => (by cases h), fun _ => ⟨fun _ => rfl, fun _ => rfl⟩, fun _ _ _ h => (by cases h), fun _ _ _ _ _ h => (by cases h), .inr rfl, .inl rfl, fun _ _ h => (by cases h), fun _ _ h => (by cases h), fun i hi => by simp; omega, DOk.new HH.out⟩
      have h2 := heap_alloc_new (w.alloc (.map #[] 0)) (headV (newS room) w.heap.size)
      have h3 : (w.alloc (.map #[] 0)).heap.size = w.heap.size + 1 := by simp
      rw [h3] at h2
      rw [← h2]
      simp only [headV, newS, usedF_nil]
      rfl
    · have d0 : decide (room < 0) = false := by simp; omega
      have d1 : decide (16777216 < room) = true := by simp; omega
      have HH := Lib.hid h'
      clear h h'
      go_enter Try.func11, Try.ntmps11
      go_wp2
      go_ret2
      refine ⟨E.refl _, ?_⟩
      rw [if_neg (fun x => by have := HH.out; omega)]; rfl
  · have d0 : decide (room < 0) = true := by simp; omega
    have HH := Lib.hid h
    clear h
    go_enter Try.func11, Try.ntmps11
    go_wp2
    go_ret2
    refine ⟨E.refl _, ?_⟩
    rw [if_neg (fun x => by have := HH.out; omega)]; rfl
end Go.Proofs.Ythcicfolabngcaa
/- How a disk turns at one file; cut. -/
namespace Go.Proofs.Ythcicfolabngcaa
open Go.RowKit

theorem Own.same {k : IntKind} {T : TypeId} {w w' : World} {base : Nat} {A : Option Addr} {n c : Nat} {l : List Int} (h : Own k T w base A n c l) (hb : ∀ b, ob A = some b → w'.heap[b]? = w.heap[b]?) : Own k T w' base A n c l := by
  obtain ⟨h1, ⟨a1, a2⟩, h3⟩ := h
  refine ⟨h1, ⟨a1, ?_⟩, h3⟩
  rcases a2 with a2 | ⟨g', cap, cur, hv, hbg, hh, r⟩
  · exact .inl a2
  · refine .inr ⟨g', cap, cur, hv, hbg, ?_, r⟩
    have hA : A = some ⟨g', 0, none⟩ := by injection hv
    rw [hb g' (by rw [hA]; rfl)]; exact hh
theorem Own.take_ {k : IntKind} {T : TypeId} {w : World} {base : Nat} {g n c : Nat} {l : List Int} (h : Own k T w base (some ⟨g, 0, none⟩) n c l) {m : Nat} (hm : m ≤ n) : Own k T w base (some ⟨g, 0, none⟩) m c (l.take m) := by
  have hl := h.1
  refine ⟨by rw [List.length_take]; omega, ⟨by rw [List.length_map, List.length_take]; omega, ?_⟩, fun y hy => h.2.2 y (List.mem_of_mem_take hy)⟩
  rcases h.2.1.2 with ⟨hv, _⟩ | ⟨g', cap, cur, hv, hb, hh, h1, h2, h3, h4⟩
  · injection hv with e; cases e
  · injection hv with e1 e2 e3
    subst e3
    refine .inr ⟨g', _, cur, by rw [e1], hb, hh, by omega, h2, h3, ?_⟩
    have := congrArg (List.take (m * 1)) h4
    rw [List.take_take, Nat.min_eq_left (by omega)] at this
    rw [this, Nat.mul_one, List.map_take]
section
variable {w w' : World} {X X' : Nat → Prop} {g k k' mb : Nat} {s s' : DS} {F : Int → Option Nat} {A : Int → Option Addr} {c : Int → Nat}
/-- the file i has turned, the others have not -/
theorem DiskM.turn (h : DiskM w X g k s mb F A c) (i : Int) (F1 : Option Nat) (A1 : Option Addr) (c1 : Nat) (_hz : w.heap.size ≤ w'.heap.size) (hg : w'.heap[g]? = some (headV s' mb)) (hm : MapD w' mb k' (fun j => (upd F i F1 j).map ptrV))
    (hb : ∀ p, F1 = some p → w'.heap[p]? = some (boxV A1 (s'.b i).length c1 (s'.firm i)) ∧ Own .u8 5 w' 0 A1 (s'.b i).length c1 (s'.b i) ∧ X' p ∧ ∀ b, ob A1 = some b → X' b)
    (hF : F1 = F i ∨ ∀ p, F1 = some p → w.heap.size ≤ p) (hA : (F i ≠ none ∧ ob A1 = ob (A i)) ∨ ∀ b, ob A1 = some b → w.heap.size ≤ b) (hn : F1 = none ↔ s'.b i = [])
    (hX : ∀ j, X j → X' j) (hl : ∀ j, X' j → j < w'.heap.size) (hs : ∀ j, j ≠ i → s'.b j = s.b j ∧ s'.firm j = s.firm j)
    (ho : ∀ j, X j → j ≠ g → j ≠ mb → (∀ p, F i = some p → j ≠ p ∧ ob (A i) ≠ some j) → w'.heap[j]? = w.heap[j]?) (ok : DOk s') : DiskM w' X' g k' s' mb (upd F i F1) (upd A i A1) (upd c i c1) := by
  have keep : ∀ j q, j ≠ i → F j = some q → w'.heap[q]? = w.heap[q]? := fun j q hj hq => by
    refine ho q (h.xb j q hq) (h.neg hq) (fun e => h.map_ne (h.bx j q hq) e.symm) fun p hp => ⟨fun e => hj (h.inj j i q hq (e ▸ hp)), h.row_ne hp (h.bx j q hq) (by decide)⟩
  have keepR : ∀ j q, j ≠ i → F j = some q → ∀ b, ob (A j) = some b → w'.heap[b]? = w.heap[b]? := fun j q hj hq b hb => by
    refine ho b (h.xr j q hq b hb) (fun e => h.row_ne hq h.hd (by decide) (e ▸ hb)) (fun e => h.row_map hq (e ▸ hb)) fun p hp => ⟨fun e => h.row_ne hq (h.bx i p hp) (by decide) (e ▸ hb), h.ap j i q p hj hq hp b hb⟩
  refine ⟨hg, hm, fun j q hq => ?_, fun j q hq => ?_, fun j => ?_, fun a b q ha hb' => ?_, fun a b p q hab ha hb' => ?_, hX _ h.xg, hX _ h.xm, fun j q hq => ?_, fun j q hq => ?_, hl, ok⟩
  · by_cases e : j = i
    · subst e; rw [upd_same] at hq ⊢; rw [upd_same]; exact (hb q hq).1
    · rw [upd_other _ _ e] at hq ⊢; rw [upd_other _ _ e, (hs j e).1, (hs j e).2, keep j q e hq]; exact h.bx j q hq
  · by_cases e : j = i
    · subst e; rw [upd_same] at hq ⊢; rw [upd_same]; exact (hb q hq).2.1
    · rw [upd_other _ _ e] at hq ⊢; rw [upd_other _ _ e, (hs j e).1]; exact (h.row j q hq).same (keepR j q e hq)
  · by_cases e : j = i
    · subst e; rw [upd_same]; exact hn
    · rw [upd_other _ _ e, (hs j e).1]; exact h.nn j
  · by_cases ea : a = i
    · by_cases eb : b = i
      · rw [ea, eb]
      · rw [ea, upd_same] at ha
        rw [upd_other _ _ eb] at hb'
        rcases hF with hF | hF
        · exact ea.trans (h.inj i b q (hF ▸ ha) hb')
        · have := hF q ha; have := h.xl _ (h.xb b q hb'); omega
    · rw [upd_other _ _ ea] at ha
      by_cases eb : b = i
      · rw [eb, upd_same] at hb'
        rcases hF with hF | hF
        · exact (h.inj a i q ha (hF ▸ hb')).trans eb.symm
        · have := hF q hb'; have := h.xl _ (h.xb a q ha); omega
      · rw [upd_other _ _ eb] at hb'; exact h.inj a b q ha hb'
  · have far : ∀ j q, j ≠ i → F j = some q → apartS A1 (A j) := fun j q hj hq t ht ht' => by
      rcases hA with ⟨h1, h2⟩ | h2
      · cases hi : F i with
        | none => exact h1 hi
        | some r => exact h.ap i j r q (fun e => hj e.symm) hi hq t (h2 ▸ ht) ht'
      · have := h2 t ht; have := h.xl _ (h.xr j q hq t ht'); omega
    by_cases ea : a = i
    · have eb : b ≠ i := fun e => hab (ea.trans e.symm)
      rw [ea, upd_same, upd_other _ _ eb]
      rw [upd_other _ _ eb] at hb'
      exact far b q eb hb'
    · rw [upd_other _ _ ea] at ha
      by_cases eb : b = i
      · rw [eb, upd_same, upd_other _ _ ea]; exact (far a p ea ha).symm
      · rw [upd_other _ _ eb] at hb'; rw [upd_other _ _ ea, upd_other _ _ eb]; exact h.ap a b p q hab ha hb'
  · by_cases e : j = i
    · subst e; rw [upd_same] at hq; exact (hb q hq).2.2.1
    · rw [upd_other _ _ e] at hq; exact hX _ (h.xb j q hq)
  · by_cases e : j = i
    · subst e; rw [upd_same] at hq ⊢; exact (hb q hq).2.2.2
    · rw [upd_other _ _ e] at hq ⊢; exact fun b hb => hX _ (h.xr j q hq b hb)
theorem cutS_used {s : DS} (h : DOk s) {i : Int} {n : Nat} (hi : s.b i ≠ []) (hn : n ≤ (s.b i).length) : ((usedF (cutS s i n).b : Nat) : Int) = (usedF s.b : Nat) - (((s.b i).length : Nat) - (n : Int)) := by
  have hu := usedF_upd s.b ((s.b i).take n) (h.ne hi)
  rw [List.length_take, Nat.min_eq_left hn] at hu
  simp only [cutS]
  omega
end
section
variable {X : Nat → Prop} {g k mb : Nat} {s : DS} {F : Int → Option Nat} {A : Int → Option Addr} {c : Int → Nat}
def W3 (w : World) (g p : Nat) (u v f : Value) : World := ((w.setCell ⟨g, 1, none⟩ u).setCell ⟨p, 0, none⟩ v).setCell ⟨p, 1, none⟩ f
theorem W3_other (w : World) {g p : Nat} (u v f : Value) {j : Nat} (h1 : j ≠ g) (h2 : j ≠ p) : (W3 w g p u v f).heap[j]? = w.heap[j]? := by
  unfold W3
  rw [Below.heap_setCell _ _ _ _ h2, Below.heap_setCell _ _ _ _ h2, Below.heap_setCell _ _ _ _ h1]
theorem W3_size (w : World) (g p : Nat) (u v f : Value) : (W3 w g p u v f).heap.size = w.heap.size := by simp [W3, World.setCell]
theorem W3_g {w : World} {g p : Nat} (hne : p ≠ g) (u v f : Value) {a0 a1 a2 a3 a4 : Value} {T : TypeId} (hg : w.heap[g]? = some (.cells #[a0, a1, a2, a3, a4] T (0, 0))) : (W3 w g p u v f).heap[g]? = some (.cells #[a0, u, a2, a3, a4] T (0, 0)) := by
  unfold W3
  rw [Below.heap_setCell _ _ _ _ (fun e => hne e.symm), Below.heap_setCell _ _ _ _ (fun e => hne e.symm), heap_setCell_same _ _ _ _ _ _ hg]; rfl
theorem W3_p {w : World} {g p : Nat} (hne : p ≠ g) (u v f : Value) {a0 a1 : Value} {T : TypeId} (hg : w.heap[p]? = some (.cells #[a0, a1] T (0, 0))) : (W3 w g p u v f).heap[p]? = some (.cells #[v, f] T (0, 0)) := by
  unfold W3
  rw [heap_setCell_same _ _ _ _ _ _ (heap_setCell_same _ _ _ _ _ _ ((Below.heap_setCell _ _ _ _ hne).trans hg))]; rfl
theorem W3_ex {w : World} {g p : Nat} (u v f : Value) : Ex (fun j => j = g ∨ j = p) w (W3 w g p u v f) := ⟨rfl, rfl, rfl, by rw [W3_size]; exact Nat.le_refl _, fun j _ hj => W3_other _ _ _ _ (fun e => hj (.inl e)) (fun e => hj (.inr e))⟩
theorem cut_done {w W' : World} (h : DiskM w X g k s mb F A c) {i : Int} {n p r : Nat} (hp : F i = some p) (hr : A i = some ⟨r, 0, none⟩) (hn : n ≤ (s.b i).length) {u f : Int} (hu : u = (usedF (cutS s i n).b : Nat)) (hf : f = (min (s.firm i) n : Nat))
    (F1 : Option Nat) (hF : F1 = F i ∨ F1 = none) (hF0 : F1 = none ↔ n = 0) (hG : (W3 w g p (.int .i64 u) (.slice (some ⟨r, 0, none⟩) n (c i)) (.int .i64 f)).grownBy W' (some mb)) (hm : MapD W' mb k (fun j => (upd F i F1 j).map ptrV)) : After w X g k (cutS s i n) W' := by
  have hne := h.neg hp
  have hmg := h.map_ne h.hd
  have hmp := h.map_ne (h.bx i p hp)
  have hsz := hG.size
  rw [W3_size] at hsz
  have hlg := h.xl g h.xg
  have hlp := h.xl p (h.xb i p hp)
  have hnil : s.b i ≠ [] := fun e => by have := (h.nn i).2 e; rw [hp] at this; cases this
  have blk : ∀ j, j < w.heap.size → j ≠ mb → W'.heap[j]? = (W3 w g p (.int .i64 u) (.slice (some ⟨r, 0, none⟩) n (c i)) (.int .i64 f)).heap[j]? := fun j hj e => hG.block j (by rw [W3_size]; exact hj) (fun e' => e (by injection e'))
  have hbi : (cutS s i n).b i = (s.b i).take n := upd_same _ _ _
  have hfi : (cutS s i n).firm i = min (s.firm i) n := upd_same _ _ _
  have hrow := h.row i p hp
  have D : DiskM W' X g k (cutS s i n) mb (upd F i F1) (upd A i (A i)) (upd c i (c i)) := by
    refine h.turn i F1 (A i) (c i) hsz ?_ hm (fun q hq => ?_) (hF.imp_right fun e q hq => by rw [e] at hq; cases hq) (.inl ⟨by rw [hp]; simp, rfl⟩) ?_ (fun _ hj => hj) (fun j hj => Nat.lt_of_lt_of_le (h.xl j hj) hsz) (fun j hj => ⟨upd_other _ _ hj, upd_other _ _ hj⟩) (fun j hj e1 e2 e3 => ?_) (h.ok.cut i n)
    · rw [blk g hlg (fun e => hmg e.symm), W3_g hne _ _ _ h.hd, hu]; rfl
    · have hq' : q = p := by
        rcases hF with e | e
        · rw [e, hp] at hq; injection hq with hq; exact hq.symm
        · rw [e] at hq; cases hq
      subst hq'
      have hln : ((s.b i).take n).length = n := by rw [List.length_take]; omega
      refine ⟨?_, ?_, h.xb i q hp, h.xr i q hp⟩
      · rw [blk q hlp (fun e => hmp e.symm), W3_p hne _ _ _ (h.bx i q hp), hbi, hfi, hln, hf, hr]; rfl
      · rw [hbi, hln, hr]
        rw [hr] at hrow
        have hob : ob (A i) = some r := by rw [hr]; rfl
        refine (hrow.take_ hn).same fun b hb => ?_
        have hbr : b = r := by simpa [ob] using hb.symm
        subst hbr
        have e1 : b ≠ g := fun e => h.row_ne hp h.hd (by decide) (e ▸ hob)
        have e2 : b ≠ q := fun e => h.row_ne hp (h.bx i q hp) (by decide) (e ▸ hob)
        have e3 : b ≠ mb := fun e => h.row_map hp (e ▸ hob)
        rw [blk b (h.xl b (h.xr i q hp b hob)) e3, W3_other _ _ _ _ e1 e2]
    · rw [hbi, hF0]
      constructor
      · intro e; rw [e]; rfl
      · intro e
        have := congrArg List.length e
        rw [List.length_take, Nat.min_eq_left hn] at this
        simpa using this
    · rw [blk j (h.xl j hj) e2, W3_other _ _ _ _ e1 (e3 p hp).1]
  rw [upd_id, upd_id] at D
  refine D.after ?_
  refine (W3_ex _ _ _).trans (Z := X) (Y := fun j => j = mb) ⟨hG.os, hG.tape, hG.output, hG.size, fun j hj e => hG.block j hj (fun e' => e (by injection e'))⟩ (fun j _ hj => ?_) (fun j _ hj => hj ▸ h.xm)
  rcases hj with e | e
  · exact e ▸ h.xg
  · exact e ▸ h.xb i p hp
set_option maxHeartbeats 2000000 in
set_option maxRecDepth 100000 in
theorem cut_c (i : Int) (n p : Nat) (w : World) (h : DiskM w X g k s mb F A c) (hwi : (Lit.int .i64 i).wf = true) (hp : F i = some p) (hn : n ≤ (s.b i).length) :
    Calls Try.prog 46 #[ptrV g, .int .i64 i, .int .i64 n] w (fun e w' => e = .returned (.tuple #[]) ∧ After w X g k (cutS s i n) w') := by
  obtain ⟨_, c1, c2, _, _⟩ := h.cells
  have f1 := h.frz 1
  obtain ⟨b0, b1, fb⟩ := h.box hp
  have fb0 := fb 0
  have fb1 := fb 1
  have hlk := h.hm.look mapTF hwi
  simp only [hp, Option.map_some, Option.getD_some, ptrV] at hlk
  have hne := h.neg hp
  have h24 : (((s.b i).length : Nat) : Int) ≤ 16777216 := by have := h.ok.len24 i; omega
  have hus := h.ok.used
  have hro := h.ok.room
  have hfi := h.ok.firm i
  have hlen : (((s.b i).length : Nat) : Int) ≤ (usedF s.b : Nat) := by have := h.ok.len i; omega
  have hnil : s.b i ≠ [] := fun e => by have := (h.nn i).2 e; rw [hp] at this; cases this
  have hA : ∃ r, A i = some ⟨r, 0, none⟩ := by
    rcases (h.row i p hp).form with ⟨_, h0, _⟩ | ⟨r, hr, _⟩
    · exact absurd (List.eq_nil_of_length_eq_zero h0) hnil
    · exact ⟨r, hr⟩
  obtain ⟨r, hr⟩ := hA
  have hcap := (h.row i p hp).reads.cap
  have hc63 : ((c i : Nat) : Int) ≤ 9223372036854775807 := by have := (h.row i p hp).reads.c63; omega
  rw [hr] at b0
  have H := Lib.hid h
  have HP := Lib.hid hp
  have HN := Lib.hid hn
  have HR := Lib.hid hr
  have HL := Lib.hid hnil
  have HMP := Lib.hid (h.map_ne (h.bx i p hp))
  have HMG := Lib.hid (h.map_ne h.hd)
  clear h hp hr hnil fb
  unfold ptrV
  by_cases hn0 : n = 0
  · have d0 : ((n : Int) == 0) = true := by simp [hn0]
    have HN0 := Lib.hid hn0
    clear hn0
    go_enter Try.func46, Try.ntmps46
    go_wp2
    go_still_tail 12, (by kernel_rfl)
    go_wp2_with (at_delete; refine wpList_delD (f := fun j => (F j).map ptrV) (b := mb) (n := k) (H.out.hm.block (W3_other w _ _ _ HMG.out HMP.out)) mapTF rfl _ _ rfl i rfl rfl hwi ?_; intro W' hM hG hsz)
    all_goals go_end0
    all_goals refine ⟨rfl, cut_done H.out HP.out HR.out HN.out (cutS_used H.out.ok HL.out HN.out).symm ?_ none (.inr rfl) ⟨fun _ => HN0.out, fun _ => rfl⟩ ⟨hG.os, hG.tape, hG.output, hG.size, hG.block⟩ (hM.ext fun y => ?_)⟩
    all_goals first
      | (by_cases e : y = i
         · rw [if_pos e, e, upd_same]; rfl
         · rw [if_neg e, upd_other _ _ e])
      | (try split) <;> omega
  · have d0 : ((n : Int) == 0) = false := by simp [hn0]
    have HN0 := Lib.hid hn0
    clear hn0
    go_enter Try.func46, Try.ntmps46
    go_wp2
    go_still_tail 12, (by kernel_rfl)
    go_wp2_with fail
    all_goals go_end0
    all_goals refine ⟨rfl, cut_done H.out HP.out HR.out HN.out (cutS_used H.out.ok HL.out HN.out).symm ?_ (F i) (.inl rfl) (by rw [HP.out]; simp; exact HN0.out) ⟨rfl, rfl, rfl, Nat.le_refl _, fun _ _ _ => rfl⟩ ?_⟩
    all_goals first
      | (rw [upd_id]; exact (H.out.hm.block (W3_other w _ _ _ HMG.out HMP.out)).block rfl)
      | (try split) <;> omega
end
end Go.Proofs.Ythcicfolabngcaa
/- Truncate. -/
namespace Go.Proofs.Ythcicfolabngcaa
open Go.RowKit

theorem cutS_none {s : DS} (h : DOk s) {i : Int} (hi : s.b i = []) (n : Nat) : cutS s i n = s := by
  unfold cutS
  rw [hi, List.take_nil, ← hi, upd_id, h.firm0 hi, Nat.zero_min, ← h.firm0 hi, upd_id]
theorem After.trans {w w1 w2 : World} {X X1 : Nat → Prop} {g k : Nat} {s : DS} (hE : Ex X w w1) (hX : ∀ i, X1 i → X i ∨ w.heap.size ≤ i) (h : After w1 X1 g k s w2) : After w X g k s w2 := by
  obtain ⟨X2, h1, h2, h3⟩ := h
  refine ⟨X2, h1, hE.trans h2 (fun _ _ x => x) (fun i hi x => (hX i x).resolve_right (by omega)), fun i hi => ?_⟩
  rcases h3 i hi with h4 | h4
  · exact hX i h4
  · exact .inr (Nat.le_trans hE.size h4)
def RetE (w : World) (X : Nat → Prop) (g k : Nat) (r : Int × DS) (e : Ending) (w' : World) : Prop := e = .returned (.int .i64 r.1) ∧ After w X g k r.2 w'
section
variable {X : Nat → Prop} {g k mb : Nat} {s : DS} {F : Int → Option Nat} {A : Int → Option Addr} {c : Int → Nat}
theorem DiskM.now {w : World} (h : DiskM w X g k s mb F A c) : After w X g k s w := h.after (Ex.refl _ _)
theorem DiskM.stepped {w w' : World} (h : DiskM w' X g k s mb F A c) (hG : w.grownBy w' (some g)) : After w X g k s w' := h.after (ex_of_grown hG h.xg)
set_option maxHeartbeats 4000000 in
set_option maxRecDepth 100000 in
theorem trunc_c (i n : Int) (w : World) (h : DiskM w X g k s mb F A c) (h1 : -9223372036854775808 ≤ i) (h2 : i ≤ 9223372036854775807) :
    Calls Try.prog 20 #[ptrV g, .int .i64 i, .int .i64 n] w (RetE w X g k (truncR s i n)) := by
  obtain ⟨_, _, c2, c3, _⟩ := h.cells
  have hwi := wf_of_i64 h1 h2
  have HI := Lib.hid (And.intro h1 h2)
  have hlk := h.hm.lookOk mapTF hwi
  have H := Lib.hid h
  clear h h1 h2
  cases hf : isF i with
  | false =>
    have HR := Lib.hid (show truncR s i n = (1, s) by unfold truncR; rw [if_pos (.inl hf)])
    have HF := Lib.hid hf
    clear hf
    unfold ptrV
    go_enter Try.func20, Try.ntmps20
    go_wp2_with (go_at_call 43; refine (isFile_c _ _ HI.out.1 HI.out.2).mono ?_; rintro e w' ⟨rfl, rfl⟩; rw [HF.out])
    go_ret
    rw [HR.out]
    exact ⟨rfl, H.out.now⟩
  | true =>
    have HF := Lib.hid hf
    clear hf
    by_cases hn : 0 ≤ n
    · obtain ⟨m, rfl⟩ : ∃ m : Nat, n = m := ⟨n.toNat, by omega⟩
      have d0 : decide ((m : Int) < 0) = false := by simp
      clear hn
      cases hp : F i with
      | none =>
        have hb := (H.out.nn i).1 hp
        simp only [hp, Option.map_none, Option.getD_none, Option.isSome_none] at hlk
        have HB := Lib.hid hb
        clear hp hb
        by_cases hm : m = 0
        · have d1 : decide (0 < m) = false := by simp; omega
          have HM := Lib.hid hm
          clear hm
          cases ho : s.off with
          | true =>
            rw [ho] at c3
            have HR := Lib.hid (show truncR s i m = (23, s) by unfold truncR; rw [if_neg (by rw [HF.out, HB.out, HM.out]; simp), if_pos ho])
            clear ho
            unfold ptrV
            go_enter Try.func20, Try.ntmps20
            go_wp2_with (go_at_call 43; refine (isFile_c _ _ HI.out.1 HI.out.2).mono ?_; rintro e w' ⟨rfl, rfl⟩; rw [HF.out])
            go_ret
            rw [HR.out]
            exact ⟨rfl, H.out.now⟩
          | false =>
            rw [ho] at c3
            have HO := Lib.hid ho
            clear ho
            cases hq : (stepS s).off with
            | true =>
              have HR := Lib.hid (show truncR s i m = (23, stepS s) by unfold truncR; rw [if_neg (by rw [HF.out, HB.out, HM.out]; simp), if_neg (by rw [HO.out]; decide), if_pos hq])
              have HQ := Lib.hid hq
              clear hq
              unfold ptrV
              go_enter Try.func20, Try.ntmps20
              go_wp2_with (first | (go_at_call 43; refine (isFile_c _ _ HI.out.1 HI.out.2).mono ?_; rintro e w' ⟨rfl, rfl⟩; rw [HF.out]) | (go_at_call 44; refine (fails_c _ H.out HO.out).mono ?_; rintro e w' ⟨rfl, hD, hG⟩; rw [HQ.out]))
              go_ret
              rw [HR.out]
              exact ⟨rfl, hD.stepped hG⟩
            | false =>
              have HR := Lib.hid (show truncR s i m = (0, stepS s) by unfold truncR; rw [if_neg (by rw [HF.out, HB.out, HM.out]; simp), if_neg (by rw [HO.out]; decide), if_neg (by rw [hq]; decide), cutS_none H.out.ok.step (by rw [stepS_b]; exact HB.out)])
              have HQ := Lib.hid hq
              clear hq
              unfold ptrV
              go_enter Try.func20, Try.ntmps20
              go_wp2_with (first | (go_at_call 43; refine (isFile_c _ _ HI.out.1 HI.out.2).mono ?_; rintro e w' ⟨rfl, rfl⟩; rw [HF.out]) | (go_at_call 44; refine (fails_c _ H.out HO.out).mono ?_; rintro e w' ⟨rfl, hD, hG⟩; rw [HQ.out]))
              go_ret
              rw [HR.out]
              exact ⟨rfl, hD.stepped hG⟩
        · have d1 : decide (0 < m) = true := by simp; omega
          have HR := Lib.hid (show truncR s i m = (1, s) by unfold truncR; rw [if_pos (.inr (.inr (by rw [HB.out]; simp; omega)))])
          clear hm
          unfold ptrV
          go_enter Try.func20, Try.ntmps20
          go_wp2_with (go_at_call 43; refine (isFile_c _ _ HI.out.1 HI.out.2).mono ?_; rintro e w' ⟨rfl, rfl⟩; rw [HF.out])
          go_ret
          rw [HR.out]
          exact ⟨rfl, H.out.now⟩
      | some p =>
        obtain ⟨b0, b1, fb⟩ := H.out.box hp
        simp only [hp, Option.map_some, Option.getD_some, Option.isSome_some, ptrV] at hlk
        have HP := Lib.hid hp
        clear hp fb
        have h24 : (((s.b i).length : Nat) : Int) ≤ 16777216 := by have := H.out.ok.len24 i; omega
        by_cases hl : m ≤ (s.b i).length
        · have HL := Lib.hid hl
          have hg : ∀ d : Bool, decide (0 < (m : Int)) = d → d = decide (0 < (m : Int)) := fun d h => h.symm
          have d2 : decide ((s.b i).length < m) = false := by simp; omega
          clear hl
          cases ho : s.off with
          | true =>
            rw [ho] at c3
            have HR := Lib.hid (show truncR s i m = (23, s) by unfold truncR; rw [if_neg (by rw [HF.out]; have := HL.out; simp; omega), if_pos ho])
            clear ho hg
            unfold ptrV
            go_enter Try.func20, Try.ntmps20
            go_wp2_with (go_at_call 43; refine (isFile_c _ _ HI.out.1 HI.out.2).mono ?_; rintro e w' ⟨rfl, rfl⟩; rw [HF.out])
            all_goals go_ret
            all_goals rw [HR.out]
            all_goals exact ⟨rfl, H.out.now⟩
          | false =>
            rw [ho] at c3
            have HO := Lib.hid ho
            clear ho hg
            cases hq : (stepS s).off with
            | true =>
              have HR := Lib.hid (show truncR s i m = (23, stepS s) by unfold truncR; rw [if_neg (by rw [HF.out]; have := HL.out; simp; omega), if_neg (by rw [HO.out]; decide), if_pos hq])
              have HQ := Lib.hid hq
              clear hq
              unfold ptrV
              go_enter Try.func20, Try.ntmps20
              go_wp2_with (first | (go_at_call 43; refine (isFile_c _ _ HI.out.1 HI.out.2).mono ?_; rintro e w' ⟨rfl, rfl⟩; rw [HF.out]) | (go_at_call 44; refine (fails_c _ H.out HO.out).mono ?_; rintro e w' ⟨rfl, hD, hG⟩; rw [HQ.out]))
              all_goals go_ret
              all_goals rw [HR.out]
              all_goals exact ⟨rfl, hD.stepped hG⟩
            | false =>
              have HR := Lib.hid (show truncR s i m = (0, cutS (stepS s) i m) by unfold truncR; rw [if_neg (by rw [HF.out]; have := HL.out; simp; omega), if_neg (by rw [HO.out]; decide), if_neg (by rw [hq]; decide)]; rfl)
              have HQ := Lib.hid hq
              clear hq
              unfold ptrV
              go_enter Try.func20, Try.ntmps20
              go_wp2_with (first | (go_at_call 43; refine (isFile_c _ _ HI.out.1 HI.out.2).mono ?_; rintro e w' ⟨rfl, rfl⟩; rw [HF.out]) | (go_at_call 44; refine (fails_c _ H.out HO.out).mono ?_; rintro e w' ⟨rfl, hD, hG⟩; rw [HQ.out]) | (go_at_call 46; refine (cut_c i m p _ hD hwi HP.out (by rw [stepS_b]; exact HL.out)).mono ?_; rintro e w2 ⟨rfl, hA⟩))
              all_goals go_ret
              all_goals rw [HR.out]
              all_goals exact ⟨rfl, After.trans (ex_of_grown hG H.out.xg) (fun _ x => .inl x) hA⟩
        · have d1 : decide (0 < m) = true := by simp; omega
          have d2 : decide ((s.b i).length < m) = true := by simp; omega
          have HR := Lib.hid (show truncR s i m = (1, s) by unfold truncR; rw [if_pos (.inr (.inr (by omega)))])
          clear hl
          unfold ptrV
          go_enter Try.func20, Try.ntmps20
          go_wp2_with (go_at_call 43; refine (isFile_c _ _ HI.out.1 HI.out.2).mono ?_; rintro e w' ⟨rfl, rfl⟩; rw [HF.out])
          go_ret
          rw [HR.out]
          exact ⟨rfl, H.out.now⟩
    · have d0 : decide (n < 0) = true := by simp; omega
      have HR := Lib.hid (show truncR s i n = (1, s) by unfold truncR; rw [if_pos (.inr (.inl (by omega)))])
      clear hn
      unfold ptrV
      go_enter Try.func20, Try.ntmps20
      go_wp2_with (go_at_call 43; refine (isFile_c _ _ HI.out.1 HI.out.2).mono ?_; rintro e w' ⟨rfl, rfl⟩; rw [HF.out])
      go_ret
      rw [HR.out]
      exact ⟨rfl, H.out.now⟩
theorem DiskAt.trunc (i n : Int) {w : World} (h : DiskAt w X g k s) (h1 : -9223372036854775808 ≤ i) (h2 : i ≤ 9223372036854775807) :
    Calls Try.prog 20 #[ptrV g, .int .i64 i, .int .i64 n] w (RetE w X g k (truncR s i n)) := by
  obtain ⟨mb, F, A, c, h⟩ := h
  exact trunc_c i n w h h1 h2
end
end Go.Proofs.Ythcicfolabngcaa
/- Append. -/
namespace Go.Proofs.Ythcicfolabngcaa
open Go.RowKit

section
variable {P : Program} {S T : TypeId} {k : IntKind} {by8 : Nat}
/-- append(s, x...): the row stays, or a new one is made -/
theorem wpList_appF (it : IntT P S T k by8) (w : World) {ops : Array Oper} {rest : List Oper} {o : Oper} {a : Act} {Q : Exit → Act → World → Prop} (hgd : o.guard = none) (s x : Operand)
    (ho : o.op = .call { callee := .builtin .append, args := #[s, x], argTypes := #[S, S] })
    (A : Option Addr) (n c : Nat) (l : List Int) (hs : a.eval s = .slice A n c) (hown : Own k T w 0 A n c l)
    (A2 : Option Addr) (m c2 : Nat) (l2 : List Int) (hx : a.eval x = .slice A2 m c2) (hr : Nums k w A2 m c2 l2) (hlen : n + m ≤ 1099511627776)
    (h : ∀ A' c' w', Own k T w' 0 A' (n + m) c' (l ++ l2) → w.grownBy w' (ob A) → (ob A' = ob A ∨ ob A' = some w.heap.size) → wpList P ops Q rest (a.put o.dst (.slice A' (n + m) c')) w') :
    wpList P ops Q (o :: rest) a w := by
  obtain ⟨A', c', w', hrun, hO, h3, h5⟩ := run_appN it w o.type 0 A n c l hown A2 m c2 l2 hr hlen (Nat.zero_le _)
  rw [ob_eq] at h3
  rw [ob_eq, ob_eq] at h5
  refine wpList_plain hgd fun K hK' => ?_
  unfold Oper.wp execOp
  simp only [ho, resolve, invoke, builtin, Sem.run_bind, Sem.run_pure, Result.andThen_ok, List.map_toArray, List.map_cons, List.map_nil, hs, hx, hrun]
  exact hK' _ _ (h A' c' w' hO h3 h5)
theorem Own.neq_ {w : World} {base : Nat} {A : Option Addr} {n c g : Nat} {l : List Int} {cs : Array Value} {T' : TypeId} (h : Own k T w base A n c l) (hg : w.heap[g]? = some (.cells cs T' (0, 0))) (hT : T ≠ T') : ob A ≠ some g := by
  intro e
  rcases h.2.1.2 with ⟨hv, _⟩ | ⟨g', cap, cur, hv, hb, hh, r⟩
  · injection hv with hA; rw [hA] at e; cases e
  · injection hv with hA
    rw [hA] at e
    have : g' = g := by simpa [ob] using e
    subst this
    rw [hg] at hh
    injection hh with hh
    injection hh with _ ht
    exact hT ht.symm
end
theorem Own.neqm {k : IntKind} {T : TypeId} {w : World} {base n' mb : Nat} {f : Int → Option Value} {A : Option Addr} {n c : Nat} {l : List Int} (h : Own k T w base A n c l) (hg : MapD w mb n' f) : ob A ≠ some mb := by
  intro e
  rcases h.2.1.2 with ⟨hv, _⟩ | ⟨g', cap, cur, hv, hb, hh, r⟩
  · injection hv with hA; rw [hA] at e; cases e
  · injection hv with hA
    rw [hA] at e
    have : g' = mb := by simpa [ob] using e
    subst this
    obtain ⟨D, ⟨es, clock, h1, _⟩, _⟩ := hg
    rw [h1] at hh
    injection hh with hh
    cases hh
theorem MapD.neq_ {w : World} {n' mb g : Nat} {f : Int → Option Value} {cs : Array Value} {T' : TypeId} (hm : MapD w mb n' f) (hg : w.heap[g]? = some (.cells cs T' (0, 0))) : mb ≠ g := by
  intro e
  obtain ⟨D, ⟨es, clock, h1, _⟩, _⟩ := hm
  rw [e, hg] at h1
  injection h1 with h1
  cases h1
theorem Nums.ex {k : IntKind} {w w' : World} {A : Option Addr} {n c : Nat} {l : List Int} {X : Nat → Prop} (h : Nums k w A n c l) (hX : Ex X w w') (hb : 0 < n → ∀ b, ob A = some b → ¬ X b) : Nums k w' A n c l :=
  ⟨h.len, h.cap, h.mx, h.wf, fun hn => by
    obtain ⟨b, o, h1, h2, h3⟩ := h.at_ hn
    exact ⟨b, o, h1, Nat.lt_of_lt_of_le h2 hX.size, fun i hi => (hX.cell (p := ⟨b, o + i, none⟩) h2 (hb hn b (by rw [h1]; rfl))).trans (h3 i hi)⟩⟩
section
variable {X : Nat → Prop} {g k k' mb : Nat} {s : DS} {F : Int → Option Nat} {A : Int → Option Addr} {c : Int → Nat}
def W2 (V : World) (g p : Nat) (v u : Value) : World := (V.setCell ⟨p, 0, none⟩ v).setCell ⟨g, 1, none⟩ u
theorem app_done {w V : World} (h : DiskM w X g k s mb F A c) {i : Int} {p : Nat} {l : List Int} (hV : Ex X w V) (hg : V.heap[g]? = some (headV s mb)) {A0 : Option Addr} {n0 c0 : Nat} (hp : V.heap[p]? = some (boxV A0 n0 c0 (s.firm i)))
    (hm : MapD V mb k' (fun j => (upd F i (some p) j).map ptrV)) {A1 : Option Addr} {c1 n1 : Nat} (hO : Own .u8 5 V 0 A1 n1 c1 (s.b i ++ l)) (hF : some p = F i ∨ w.heap.size ≤ p) (hA : (F i ≠ none ∧ ob A1 = ob (A i)) ∨ ∀ b, ob A1 = some b → w.heap.size ≤ b)
    (ho : ∀ j, X j → j ≠ g → j ≠ mb → (∀ q, F i = some q → j ≠ q ∧ ob (A i) ≠ some j) → V.heap[j]? = w.heap[j]?) (hl : l ≠ []) (hi : isF i = true) (hfit : (l.length : Int) ≤ s.room - usedF s.b) {u : Int} (hu : u = (usedF s.b : Nat) + (l.length : Nat)) :
    After w X g k' (appS s i l) (W2 V g p (.slice A1 n1 c1) (.int .i64 u)) := by
  have hpg : p ≠ g := fun e => by
    rw [e, hg] at hp
    injection hp with hp
    injection hp with _ hp
    exact absurd hp (by decide)
  have hmp := hm.neq_ hp
  have hmg := hm.neq_ hg
  have hn1 := hO.1
  have hplt := lt_blk hp
  have wo : ∀ j, j ≠ p → j ≠ g → (W2 V g p (.slice A1 n1 c1) (.int .i64 u)).heap[j]? = V.heap[j]? := fun j e1 e2 => by
    unfold W2; rw [Below.heap_setCell _ _ _ _ e2, Below.heap_setCell _ _ _ _ e1]
  have wz : (W2 V g p (.slice A1 n1 c1) (.int .i64 u)).heap.size = V.heap.size := by simp [W2, World.setCell]
  have hsz := hV.size
  have hbi : (appS s i l).b i = s.b i ++ l := upd_same _ _ _
  have hus := usedF_upd s.b (s.b i ++ l) hi
  rw [List.length_append] at hus
  have hob1 : ∀ b, ob A1 = some b → X b ∨ (w.heap.size ≤ b ∧ b < V.heap.size) := fun b hb => by
    rcases hA with ⟨e1, e2⟩ | e
    · cases hq : F i with
      | none => exact absurd hq e1
      | some q => exact .inl (h.xr i q hq b (e2 ▸ hb))
    · exact .inr ⟨e b hb, (hO.ltN b hb).2⟩
  have D : DiskM (W2 V g p (.slice A1 n1 c1) (.int .i64 u)) (fun j => X j ∨ (w.heap.size ≤ j ∧ j < V.heap.size)) g k' (appS s i l) mb (upd F i (some p)) (upd A i A1) (upd c i c1) := by
    refine h.turn i (some p) A1 c1 (by rw [wz]; exact hsz) ?_ (hm.block (wo mb hmp hmg)) (fun q hq => ?_) (hF.imp_right fun e q hq => by injection hq with hq; exact hq ▸ e) hA (by rw [hbi]; simp [hl]) (fun _ hj => .inl hj) (fun j hj => ?_) (fun j hj => ⟨upd_other _ _ hj, rfl⟩) (fun j hj e1 e2 e3 => ?_) (h.ok.app hi hfit)
    · unfold W2
      rw [heap_setCell_same _ _ _ _ _ _ ((Below.heap_setCell _ _ _ _ (fun e => hpg e.symm)).trans hg), hu]
      have : ((usedF (appS s i l).b : Nat) : Int) = (usedF s.b : Nat) + (l.length : Nat) := by simp only [appS]; omega
      rw [← this]; rfl
    · injection hq with hq
      subst hq
      refine ⟨?_, ?_, ?_, hob1⟩
      · unfold W2
        rw [Below.heap_setCell _ _ _ _ hpg, heap_setCell_same _ _ _ _ _ _ hp, hbi, hn1]; rfl
      · rw [hbi, hn1]
        exact hO.same fun b hb => wo b (fun e => hO.neq_ hp (by decide) (e ▸ hb)) (fun e => hO.neq_ hg (by decide) (e ▸ hb))
      · rcases hF with e | e
        · exact .inl (h.xb i p e.symm)
        · exact .inr ⟨e, hplt⟩
    · rw [wz]
      rcases hj with hj | hj
      · exact Nat.lt_of_lt_of_le (h.xl j hj) hsz
      · exact hj.2
    · have hjp : j ≠ p := by
        rcases hF with e | e
        · exact (e3 p e.symm).1
        · have := h.xl j hj; omega
      rw [wo j hjp e1]; exact ho j hj e1 e2 e3
  refine ⟨_, ⟨_, _, _, _, D⟩, ?_, fun j hj => hj.imp_right fun e => e.1⟩
  refine ⟨hV.os, hV.tape, hV.output, by rw [wz]; exact hsz, fun j hj hx => ?_⟩
  rw [wo j (fun e => ?_) (fun e => hx (e ▸ h.xg))]
  · exact hV.block j hj hx
  · rcases hF with e' | e'
    · exact hx (e ▸ h.xb i p e'.symm)
    · omega
end
end Go.Proofs.Ythcicfolabngcaa
/- Append, the walk. -/
namespace Go.Proofs.Ythcicfolabngcaa
open Go.RowKit

theorem appS_nil (s : DS) (i : Int) : appS s i [] = s := by unfold appS; rw [List.append_nil, upd_id]
section
variable {X : Nat → Prop} {g k k' mb : Nat} {s : DS} {F : Int → Option Nat} {A : Int → Option Addr} {c : Int → Nat}
theorem DiskM.mono {w : World} (h : DiskM w X g k s mb F A c) (hk : k ≤ k') : DiskM w X g k' s mb F A c := ⟨h.hd, h.hm.mono hk, h.bx, h.row, h.nn, h.inj, h.ap, h.xg, h.xm, h.xb, h.xr, h.xl, h.ok⟩
theorem DiskAt.mono {w : World} (h : DiskAt w X g k s) (hk : k ≤ k') : DiskAt w X g k' s := by obtain ⟨mb, F, A, c, h⟩ := h; exact ⟨mb, F, A, c, h.mono hk⟩
theorem After.mono {w w' : World} (h : After w X g k s w') (hk : k ≤ k') : After w X g k' s w' := by obtain ⟨X', h, h2⟩ := h; exact ⟨X', h.mono hk, h2⟩
/-- what must hold of bytes that come from elsewhere -/
def away (X : Nat → Prop) (B : Option Addr) (n : Nat) : Prop := 0 < n → ∀ b, ob B = some b → ¬ X b
theorem After.e_ {w w' w'' : World} (h : After w X g k s w') (hE : E w' w'') : After w X g k s w'' := by
  obtain ⟨X', h1, h2, h3⟩ := h
  exact ⟨X', h1.e hE, h2.trans (Ex.of_e (X := fun _ => False) hE) (fun _ _ x => x) (fun _ _ x => x.elim), h3⟩
theorem MapD.keep {w w' : World} {b n : Nat} {f : Int → Option Value} {r : Option Nat} (h : MapD w b n f) (hG : w.grownBy w' r) (hr : r ≠ some b) : MapD w' b n f := h.block (hG.block b h.lt (fun e => hr e.symm))
set_option maxHeartbeats 8000000 in
set_option maxRecDepth 100000 in
theorem append_c (i : Int) (B : Option Addr) (n c' : Nat) (l : List Int) (w : World) (h : DiskM w X g k s mb F A c) (h1 : -9223372036854775808 ≤ i) (h2 : i ≤ 9223372036854775807) (hN : Nums .u8 w B n c' l) (hB : away X B n) (hk : k < 1000000) :
    Calls Try.prog 14 #[ptrV g, .int .i64 i, .slice B n c'] w (RetE w X g (k + 1) (appR s i l)) := by
  obtain ⟨c0, c1, c2, c3, _⟩ := h.cells
  have hwi := wf_of_i64 h1 h2
  have HI := Lib.hid (And.intro h1 h2)
  have H := Lib.hid h
  have hro := h.ok.room
  have hus := h.ok.used
  have hnl := hN.len
  have HNL := Lib.hid hnl
  have hn63 : ((n : Nat) : Int) ≤ 9223372036854775807 := by have := hN.n63; omega
  have HK := Lib.hid hk
  have HB := Lib.hid hB
  have HN := Lib.hid hN
  have HWR := Lib.hid (show IntKind.i64.wrap (s.room - ((usedF s.b : Nat) : Int)) = s.room - ((usedF s.b : Nat) : Int) by rw [IntKind.wrap_i64]; omega)
  clear h h1 h2 hk hB hN hnl
  cases hf : isF i with
  | false =>
    have HR := Lib.hid (show appR s i l = (1, s) by unfold appR; rw [if_pos hf])
    have HF := Lib.hid hf
    clear hf
    unfold ptrV
    go_enter Try.func14, Try.ntmps14
    go_wp2_with (go_at_call 43; refine (isFile_c _ _ HI.out.1 HI.out.2).mono ?_; rintro e w' ⟨rfl, rfl⟩; rw [HF.out])
    go_ret
    rw [HR.out]
    exact ⟨rfl, H.out.now.mono (by omega)⟩
  | true =>
    have HF := Lib.hid hf
    clear hf
    cases ho : s.off with
    | true =>
      rw [ho] at c3
      have HR := Lib.hid (show appR s i l = (23, s) by unfold appR; rw [if_neg (by rw [HF.out]; decide), if_pos ho])
      clear ho
      unfold ptrV
      go_enter Try.func14, Try.ntmps14
      go_wp2_with (go_at_call 43; refine (isFile_c _ _ HI.out.1 HI.out.2).mono ?_; rintro e w' ⟨rfl, rfl⟩; rw [HF.out])
      go_ret
      rw [HR.out]
      exact ⟨rfl, H.out.now.mono (by omega)⟩
    | false =>
      rw [ho] at c3
      have HO := Lib.hid ho
      clear ho
      by_cases hfit : (n : Int) ≤ s.room - (usedF s.b : Nat)
      · have HFT := Lib.hid hfit
        by_cases hz : n = 0
        · have hl : l = [] := List.eq_nil_of_length_eq_zero (by rw [HNL.out, hz])
          have dz : decide (0 < n) = false := by simp [hz]
          have HR := Lib.hid (show appR s i l = (if (stepS s).off = true then 23 else 0, stepS s) by
            unfold appR; rw [if_neg (by rw [HF.out]; decide), if_neg (by rw [HO.out]; decide), if_neg (by rw [hl]; simp; omega), hl, appS_nil])
          clear hl hz hfit
          cases hq : (stepS s).off with
          | true =>
            have HQ := Lib.hid hq
            clear hq
            unfold ptrV
            go_enter Try.func14, Try.ntmps14
            go_wp2_with (go_at_call 43; refine (isFile_c _ _ HI.out.1 HI.out.2).mono ?_; rintro e w' ⟨rfl, rfl⟩; rw [HF.out])
            have dfit : decide (IntKind.i64.wrap (s.room - ((usedF s.b : Nat) : Int)) < (n : Int)) = false := by rw [HWR.out]; have := HFT.out; simp; omega
            (refine wp_region_quiet_lit (by kernel_rfl) (by kernel_rfl) ?_; (repeat (first | ((with_reducible refine wpQuiet_step (fun K hK => ?_)); go_simp; (with_reducible refine hK _ ?_); clear hK K) | ((with_reducible refine wpQuiet_off (by kernel_rfl) (fun K hK => ?_)); go_simp; (with_reducible refine hK _ ?_); clear hK K))); (with_reducible refine wpQuiet_nil ?_); intro _ hw'; obtain ⟨nq, hw''⟩ := hw'; subst hw'')
            go_wp2_with (go_at_call 44; refine (fails_c _ (H.out.e ((E.refl w').drewN nq)) HO.out).mono ?_; rintro e w1 ⟨rfl, hD, hG⟩; rw [HQ.out])
            go_ret
            rw [HR.out, HQ.out]
            exact ⟨rfl, (After.trans (Ex.of_e ((E.refl w').drewN nq)) (fun _ x => .inl x) (hD.stepped hG)).mono (by omega)⟩
          | false =>
            have HQ := Lib.hid hq
            clear hq
            unfold ptrV
            go_enter Try.func14, Try.ntmps14
            go_wp2_with (go_at_call 43; refine (isFile_c _ _ HI.out.1 HI.out.2).mono ?_; rintro e w' ⟨rfl, rfl⟩; rw [HF.out])
            have dfit : decide (IntKind.i64.wrap (s.room - ((usedF s.b : Nat) : Int)) < (n : Int)) = false := by rw [HWR.out]; have := HFT.out; simp; omega
            (refine wp_region_quiet_lit (by kernel_rfl) (by kernel_rfl) ?_; (repeat (first | ((with_reducible refine wpQuiet_step (fun K hK => ?_)); go_simp; (with_reducible refine hK _ ?_); clear hK K) | ((with_reducible refine wpQuiet_off (by kernel_rfl) (fun K hK => ?_)); go_simp; (with_reducible refine hK _ ?_); clear hK K))); (with_reducible refine wpQuiet_nil ?_); intro _ hw'; obtain ⟨nq, hw''⟩ := hw'; subst hw'')
            go_wp2_with (go_at_call 44; refine (fails_c _ (H.out.e ((E.refl w').drewN nq)) HO.out).mono ?_; rintro e w1 ⟨rfl, hD, hG⟩; rw [HQ.out])
            go_ret
            rw [HR.out, HQ.out]
            exact ⟨rfl, (After.trans (Ex.of_e ((E.refl w').drewN nq)) (fun _ x => .inl x) (hD.stepped hG)).mono (by omega)⟩
        · have dz : decide (0 < n) = true := by simp; omega
          have HZ := Lib.hid (show l ≠ [] from fun e => hz (by rw [← HNL.out, e]; rfl))
          have HR := Lib.hid (show appR s i l = (if (stepS s).off = true then 23 else 0, appS (stepS s) i l) by
            unfold appR; rw [if_neg (by rw [HF.out]; decide), if_neg (by rw [HO.out]; decide), if_neg (by rw [HNL.out]; omega)])
          have HRO := Lib.hid hro
          clear hz hfit
          cases hp : F i with
          | none =>
            have HP := Lib.hid hp
            clear hp
            cases hq : (stepS s).off with
            | true =>
              have HQ := Lib.hid hq
              clear hq
              unfold ptrV
              go_enter Try.func14, Try.ntmps14
              go_wp2_with (go_at_call 43; refine (isFile_c _ _ HI.out.1 HI.out.2).mono ?_; rintro e w' ⟨rfl, rfl⟩; rw [HF.out])
              have dfit : decide (IntKind.i64.wrap (s.room - ((usedF s.b : Nat) : Int)) < (n : Int)) = false := by rw [HWR.out]; have := HFT.out; simp; omega
              (refine wp_region_quiet_lit (by kernel_rfl) (by kernel_rfl) ?_; (repeat (first | ((with_reducible refine wpQuiet_step (fun K hK => ?_)); go_simp; (with_reducible refine hK _ ?_); clear hK K) | ((with_reducible refine wpQuiet_off (by kernel_rfl) (fun K hK => ?_)); go_simp; (with_reducible refine hK _ ?_); clear hK K))); (with_reducible refine wpQuiet_nil ?_); intro _ hw'; obtain ⟨nq, hw''⟩ := hw'; subst hw'')
              go_wp2_with (first | (go_at_call 44; refine (fails_c _ (H.out.e ((E.refl w').drewN nq)) HO.out).mono ?_; rintro e w1 ⟨rfl, hD, hG⟩; rw [HQ.out]; have hE1 : Ex X w' w1 := (Ex.of_e ((E.refl w').drewN nq)).trans (ex_of_grown hG H.out.xg) (fun _ _ x => x) (fun _ _ x => x); have hN1 := HN.out.ex hE1 HB.out; obtain ⟨_, a1, a2, _, _⟩ := hD.cells; have hlk1 := hD.hm.look mapTF hwi; simp only [HP.out, Option.map_none, Option.getD_none] at hlk1; have hmA : MapD (w1.alloc (boxV none 0 0 0)) mb k _ := hD.hm.e ((E.refl w1).alloc _); obtain ⟨w2, hup, hM2, hG2⟩ := hmA.put mapTF (ptrV w1.heap.size) hwi (by have := HK.out; unfold maxLen; omega); have hup' : (Instr.mapUpdate 77 (.map (some mb)) (.int .i64 i) (.pointer (some ⟨w1.heap.size, 0, none⟩))).run Try.prog (w1.alloc (.cells #[.slice none 0 0, .int .i64 0] 83)) = .ok () w2 := hup; have hsz : (w1.alloc (boxV none 0 0 0)).heap.size = w1.heap.size + 1 := (by simp); have hlt := hD.xl g hD.xg; have hmb := hD.map_ne hD.hd; have hg2 : w2.heap[g]? = some (headV (stepS s) mb) := (hG2.block g (by omega) (fun e => hmb (Option.some.inj e).symm)).trans (((E.refl w1).alloc _).block hlt |>.trans hD.hd); have hbn : w1.heap.size ≠ mb := (fun e => by have := hD.xl mb hD.xm; omega); have hp2 : w2.heap[w1.heap.size]? = some (boxV none 0 0 0) := (hG2.block w1.heap.size (by omega) (fun e => hbn (by injection e))).trans (heap_alloc_new w1 _); have hlk2 := hM2.look mapTF hwi; simp only [if_true, Option.getD_some, ptrV] at hlk2; have e2 : w2.cell? ⟨g, 2, none⟩ = some (.map (some mb)) := cell_of_row _ _ _ _ _ _ hg2; have p0 : w2.cell? ⟨w1.heap.size, 0, none⟩ = some (.slice none 0 0) := cell_of_row _ _ _ _ _ _ hp2; have hE2 : Ex X w1 w2 := ((Ex.of_e ((E.refl w1).alloc _)).trans (Z := X) (Y := fun j => j = mb) ⟨hG2.os, hG2.tape, hG2.output, hG2.size, fun j hj e => hG2.block j hj (fun e' => e (by injection e'))⟩ (fun _ _ x => x) (fun j _ e => e ▸ hD.xm)); have hN2 := hN1.ex hE2 HB.out) | (at_builtin; refine wpList_appF byteT w2 rfl _ _ rfl none 0 0 [] rfl (Own.nil _ _ _ _) B n c' l rfl hN2 (by have := HFT.out; have := HRO.out; omega) ?_; intro A1 c1' w3 hO3 hG3 hor3; have hg3 := (hG3.block g (lt_blk hg2) (fun e => by cases e)).trans hg2; have hp3 := (hG3.block w1.heap.size (lt_blk hp2) (fun e => by cases e)).trans hp2; have q0 : w3.cell? ⟨w1.heap.size, 0, none⟩ = some (.slice none 0 0) := cell_of_row _ _ _ _ _ _ hp3; have q1 : w3.cell? ⟨g, 1, none⟩ = some (.int .i64 (usedF s.b : Nat)) := (by rw [cell_of_row _ _ _ _ _ _ hg3, stepS_b] <;> rfl); have r0 : w3.frozen? ⟨w1.heap.size, 0, none⟩ = false := frozen_of_row _ _ _ _ _ hp3; have r1 : w3.frozen? ⟨g, 1, none⟩ = false := frozen_of_row _ _ _ _ _ hg3))
              go_ret
              rw [HR.out, HQ.out]
              refine ⟨rfl, After.trans hE1 (fun _ x => .inl x) ?_⟩
              have hfree : ∀ b, ob A1 = some b → w1.heap.size ≤ b := fun b hb => by
                rcases hor3 with e | e
                · rw [e] at hb; cases hb
                · rw [e] at hb; injection hb with hb; have := hE2.size; omega
              have hE3 : Ex X w1 w3 := hE2.trans (Z := X) (Y := fun _ => False) ⟨hG3.os, hG3.tape, hG3.output, hG3.size, fun j hj _ => hG3.block j hj (fun e => by cases e)⟩ (fun _ _ x => x) (fun _ _ x => x.elim)
              rw [Nat.zero_add] at hO3
              refine app_done (c1 := c1') (n1 := n) (u := RowKit.wrap64 ((usedF s.b : Nat) + (n : Nat))) hD hE3 hg3 (p := w1.heap.size) (A0 := none) (n0 := 0) (c0 := 0) ?_ ((hM2.ext fun y => ?_).keep hG3 (fun e => by cases e)) (by rw [stepS_b, (H.out.nn i).1 HP.out]; exact hO3) (.inr (Nat.le_refl _)) (.inr hfree) (fun j hj e1 e2 _ => ?_) HZ.out HF.out (by rw [stepS_b, stepS_room, HNL.out]; exact HFT.out) (by rw [stepS_b, HNL.out]; have := HFT.out; have := HRO.out; unfold RowKit.wrap64; omega)
              · rw [hp3, hD.ok.firm0 (by rw [stepS_b]; exact (H.out.nn i).1 HP.out)]
              · by_cases e : y = i
                · rw [if_pos e, e, upd_same]; rfl
                · rw [if_neg e, upd_other _ _ e]
              · have hjl := hD.xl j hj
                rw [hG3.block j (Nat.lt_of_lt_of_le hjl hE2.size) (fun e => by cases e), hG2.block j (by omega) (fun e => e2 (by injection e))]
                exact ((E.refl w1).alloc _).block hjl
            | false =>
              have HQ := Lib.hid hq
              clear hq
              unfold ptrV
              go_enter Try.func14, Try.ntmps14
              go_wp2_with (go_at_call 43; refine (isFile_c _ _ HI.out.1 HI.out.2).mono ?_; rintro e w' ⟨rfl, rfl⟩; rw [HF.out])
              have dfit : decide (IntKind.i64.wrap (s.room - ((usedF s.b : Nat) : Int)) < (n : Int)) = false := by rw [HWR.out]; have := HFT.out; simp; omega
              (refine wp_region_quiet_lit (by kernel_rfl) (by kernel_rfl) ?_; (repeat (first | ((with_reducible refine wpQuiet_step (fun K hK => ?_)); go_simp; (with_reducible refine hK _ ?_); clear hK K) | ((with_reducible refine wpQuiet_off (by kernel_rfl) (fun K hK => ?_)); go_simp; (with_reducible refine hK _ ?_); clear hK K))); (with_reducible refine wpQuiet_nil ?_); intro _ hw'; obtain ⟨nq, hw''⟩ := hw'; subst hw'')
              go_wp2_with (first | (go_at_call 44; refine (fails_c _ (H.out.e ((E.refl w').drewN nq)) HO.out).mono ?_; rintro e w1 ⟨rfl, hD, hG⟩; rw [HQ.out]; have hE1 : Ex X w' w1 := (Ex.of_e ((E.refl w').drewN nq)).trans (ex_of_grown hG H.out.xg) (fun _ _ x => x) (fun _ _ x => x); have hN1 := HN.out.ex hE1 HB.out; obtain ⟨_, a1, a2, _, _⟩ := hD.cells; have hlk1 := hD.hm.look mapTF hwi; simp only [HP.out, Option.map_none, Option.getD_none] at hlk1; have hmA : MapD (w1.alloc (boxV none 0 0 0)) mb k _ := hD.hm.e ((E.refl w1).alloc _); obtain ⟨w2, hup, hM2, hG2⟩ := hmA.put mapTF (ptrV w1.heap.size) hwi (by have := HK.out; unfold maxLen; omega); have hup' : (Instr.mapUpdate 77 (.map (some mb)) (.int .i64 i) (.pointer (some ⟨w1.heap.size, 0, none⟩))).run Try.prog (w1.alloc (.cells #[.slice none 0 0, .int .i64 0] 83)) = .ok () w2 := hup; have hsz : (w1.alloc (boxV none 0 0 0)).heap.size = w1.heap.size + 1 := (by simp); have hlt := hD.xl g hD.xg; have hmb := hD.map_ne hD.hd; have hg2 : w2.heap[g]? = some (headV (stepS s) mb) := (hG2.block g (by omega) (fun e => hmb (Option.some.inj e).symm)).trans (((E.refl w1).alloc _).block hlt |>.trans hD.hd); have hbn : w1.heap.size ≠ mb := (fun e => by have := hD.xl mb hD.xm; omega); have hp2 : w2.heap[w1.heap.size]? = some (boxV none 0 0 0) := (hG2.block w1.heap.size (by omega) (fun e => hbn (by injection e))).trans (heap_alloc_new w1 _); have hlk2 := hM2.look mapTF hwi; simp only [if_true, Option.getD_some, ptrV] at hlk2; have e2 : w2.cell? ⟨g, 2, none⟩ = some (.map (some mb)) := cell_of_row _ _ _ _ _ _ hg2; have p0 : w2.cell? ⟨w1.heap.size, 0, none⟩ = some (.slice none 0 0) := cell_of_row _ _ _ _ _ _ hp2; have hE2 : Ex X w1 w2 := ((Ex.of_e ((E.refl w1).alloc _)).trans (Z := X) (Y := fun j => j = mb) ⟨hG2.os, hG2.tape, hG2.output, hG2.size, fun j hj e => hG2.block j hj (fun e' => e (by injection e'))⟩ (fun _ _ x => x) (fun j _ e => e ▸ hD.xm)); have hN2 := hN1.ex hE2 HB.out) | (at_builtin; refine wpList_appF byteT w2 rfl _ _ rfl none 0 0 [] rfl (Own.nil _ _ _ _) B n c' l rfl hN2 (by have := HFT.out; have := HRO.out; omega) ?_; intro A1 c1' w3 hO3 hG3 hor3; have hg3 := (hG3.block g (lt_blk hg2) (fun e => by cases e)).trans hg2; have hp3 := (hG3.block w1.heap.size (lt_blk hp2) (fun e => by cases e)).trans hp2; have q0 : w3.cell? ⟨w1.heap.size, 0, none⟩ = some (.slice none 0 0) := cell_of_row _ _ _ _ _ _ hp3; have q1 : w3.cell? ⟨g, 1, none⟩ = some (.int .i64 (usedF s.b : Nat)) := (by rw [cell_of_row _ _ _ _ _ _ hg3, stepS_b] <;> rfl); have r0 : w3.frozen? ⟨w1.heap.size, 0, none⟩ = false := frozen_of_row _ _ _ _ _ hp3; have r1 : w3.frozen? ⟨g, 1, none⟩ = false := frozen_of_row _ _ _ _ _ hg3))
              go_ret
              rw [HR.out, HQ.out]
              refine ⟨rfl, After.trans hE1 (fun _ x => .inl x) ?_⟩
              have hfree : ∀ b, ob A1 = some b → w1.heap.size ≤ b := fun b hb => by
                rcases hor3 with e | e
                · rw [e] at hb; cases hb
                · rw [e] at hb; injection hb with hb; have := hE2.size; omega
              have hE3 : Ex X w1 w3 := hE2.trans (Z := X) (Y := fun _ => False) ⟨hG3.os, hG3.tape, hG3.output, hG3.size, fun j hj _ => hG3.block j hj (fun e => by cases e)⟩ (fun _ _ x => x) (fun _ _ x => x.elim)
              rw [Nat.zero_add] at hO3
              refine app_done (c1 := c1') (n1 := n) (u := RowKit.wrap64 ((usedF s.b : Nat) + (n : Nat))) hD hE3 hg3 (p := w1.heap.size) (A0 := none) (n0 := 0) (c0 := 0) ?_ ((hM2.ext fun y => ?_).keep hG3 (fun e => by cases e)) (by rw [stepS_b, (H.out.nn i).1 HP.out]; exact hO3) (.inr (Nat.le_refl _)) (.inr hfree) (fun j hj e1 e2 _ => ?_) HZ.out HF.out (by rw [stepS_b, stepS_room, HNL.out]; exact HFT.out) (by rw [stepS_b, HNL.out]; have := HFT.out; have := HRO.out; unfold RowKit.wrap64; omega)
              · rw [hp3, hD.ok.firm0 (by rw [stepS_b]; exact (H.out.nn i).1 HP.out)]
              · by_cases e : y = i
                · rw [if_pos e, e, upd_same]; rfl
                · rw [if_neg e, upd_other _ _ e]
              · have hjl := hD.xl j hj
                rw [hG3.block j (Nat.lt_of_lt_of_le hjl hE2.size) (fun e => by cases e), hG2.block j (by omega) (fun e => e2 (by injection e))]
                exact ((E.refl w1).alloc _).block hjl
          | some p =>
            have HP := Lib.hid hp
            have hpg := H.out.neg hp
            clear hp
            cases hq : (stepS s).off with
            | true =>
              have HQ := Lib.hid hq
              clear hq
              unfold ptrV
              go_enter Try.func14, Try.ntmps14
              go_wp2_with (go_at_call 43; refine (isFile_c _ _ HI.out.1 HI.out.2).mono ?_; rintro e w' ⟨rfl, rfl⟩; rw [HF.out])
              have dfit : decide (IntKind.i64.wrap (s.room - ((usedF s.b : Nat) : Int)) < (n : Int)) = false := by rw [HWR.out]; have := HFT.out; simp; omega
              (refine wp_region_quiet_lit (by kernel_rfl) (by kernel_rfl) ?_; (repeat (first | ((with_reducible refine wpQuiet_step (fun K hK => ?_)); go_simp; (with_reducible refine hK _ ?_); clear hK K) | ((with_reducible refine wpQuiet_off (by kernel_rfl) (fun K hK => ?_)); go_simp; (with_reducible refine hK _ ?_); clear hK K))); (with_reducible refine wpQuiet_nil ?_); intro _ hw'; obtain ⟨nq, hw''⟩ := hw'; subst hw'')
              go_wp2_with (first | (go_at_call 44; refine (fails_c _ (H.out.e ((E.refl w').drewN nq)) HO.out).mono ?_; rintro e w1 ⟨rfl, hD, hG⟩; rw [HQ.out]; have hE1 : Ex X w' w1 := (Ex.of_e ((E.refl w').drewN nq)).trans (ex_of_grown hG H.out.xg) (fun _ _ x => x) (fun _ _ x => x); have hN1 := HN.out.ex hE1 HB.out; obtain ⟨_, a1, a2, _, _⟩ := hD.cells; rw [stepS_b] at a1; have ga := hD.frz 1; have hlk1 := hD.hm.look mapTF hwi; simp only [HP.out, Option.map_some, Option.getD_some, ptrV] at hlk1; obtain ⟨p0, _, pf⟩ := hD.box HP.out; have pf0 := pf 0; rw [stepS_b] at p0; have hrw := hD.row i p HP.out; rw [stepS_b] at hrw; clear pf) | (at_builtin; refine wpList_appF byteT w1 rfl _ _ rfl (A i) (s.b i).length (c i) (s.b i) rfl hrw B n c' l rfl hN1 (by have := HFT.out; have := HRO.out; have := H.out.ok.len24 i; omega) ?_; intro A1 c1' w3 hO3 hG3 hor3; have hng := hrw.neq_ hD.hd (by decide); have hnp := hrw.neq_ (hD.bx i p HP.out) (by decide); have hg3 := (hG3.block g (lt_blk hD.hd) (fun e => hng e.symm)).trans hD.hd; have hp3 := (hG3.block p (lt_blk (hD.bx i p HP.out)) (fun e => hnp e.symm)).trans (hD.bx i p HP.out); have q0 : w3.cell? ⟨p, 0, none⟩ = some (.slice (A i) (s.b i).length (c i)) := (by rw [cell_of_row _ _ _ _ _ _ hp3, stepS_b] <;> rfl); have q1 : w3.cell? ⟨g, 1, none⟩ = some (.int .i64 (usedF s.b : Nat)) := (by rw [cell_of_row _ _ _ _ _ _ hg3, stepS_b] <;> rfl); have r0 : w3.frozen? ⟨p, 0, none⟩ = false := frozen_of_row _ _ _ _ _ hp3; have r1 : w3.frozen? ⟨g, 1, none⟩ = false := frozen_of_row _ _ _ _ _ hg3))
              go_ret
              rw [HR.out, HQ.out]
              refine ⟨rfl, After.trans hE1 (fun _ x => .inl x) ?_⟩
              have hE3 : Ex X w1 w3 := ⟨hG3.os, hG3.tape, hG3.output, hG3.size, fun j hj hx => hG3.block j hj (fun e => hx (hD.xr i p HP.out j e.symm))⟩
              have hnm := hrw.neqm hD.hm
              refine After.mono (k := k) (app_done (c1 := c1') (n1 := (s.b i).length + n) (u := RowKit.wrap64 ((usedF s.b : Nat) + (n : Nat))) hD hE3 hg3 (p := p) (A0 := A i) (n0 := ((stepS s).b i).length) (c0 := c i) hp3 ((hD.hm.ext fun y => ?_).keep hG3 hnm) (by rw [stepS_b]; exact hO3) (.inl HP.out.symm) ?_ (fun j hj e1 e2 e3 => hG3.block j (hD.xl j hj) (fun e => (e3 p HP.out).2 e.symm)) HZ.out HF.out (by rw [stepS_b, stepS_room, HNL.out]; exact HFT.out) (by rw [stepS_b, HNL.out]; have := HFT.out; have := HRO.out; unfold RowKit.wrap64; omega)) (by omega)
              · rw [← HP.out, upd_id]
              · rcases hor3 with e | e
                · exact .inl ⟨by rw [HP.out]; simp, e⟩
                · exact .inr fun b hb => by rw [e] at hb; injection hb with hb; omega
            | false =>
              have HQ := Lib.hid hq
              clear hq
              unfold ptrV
              go_enter Try.func14, Try.ntmps14
              go_wp2_with (go_at_call 43; refine (isFile_c _ _ HI.out.1 HI.out.2).mono ?_; rintro e w' ⟨rfl, rfl⟩; rw [HF.out])
              have dfit : decide (IntKind.i64.wrap (s.room - ((usedF s.b : Nat) : Int)) < (n : Int)) = false := by rw [HWR.out]; have := HFT.out; simp; omega
              (refine wp_region_quiet_lit (by kernel_rfl) (by kernel_rfl) ?_; (repeat (first | ((with_reducible refine wpQuiet_step (fun K hK => ?_)); go_simp; (with_reducible refine hK _ ?_); clear hK K) | ((with_reducible refine wpQuiet_off (by kernel_rfl) (fun K hK => ?_)); go_simp; (with_reducible refine hK _ ?_); clear hK K))); (with_reducible refine wpQuiet_nil ?_); intro _ hw'; obtain ⟨nq, hw''⟩ := hw'; subst hw'')
              go_wp2_with (first | (go_at_call 44; refine (fails_c _ (H.out.e ((E.refl w').drewN nq)) HO.out).mono ?_; rintro e w1 ⟨rfl, hD, hG⟩; rw [HQ.out]; have hE1 : Ex X w' w1 := (Ex.of_e ((E.refl w').drewN nq)).trans (ex_of_grown hG H.out.xg) (fun _ _ x => x) (fun _ _ x => x); have hN1 := HN.out.ex hE1 HB.out; obtain ⟨_, a1, a2, _, _⟩ := hD.cells; rw [stepS_b] at a1; have ga := hD.frz 1; have hlk1 := hD.hm.look mapTF hwi; simp only [HP.out, Option.map_some, Option.getD_some, ptrV] at hlk1; obtain ⟨p0, _, pf⟩ := hD.box HP.out; have pf0 := pf 0; rw [stepS_b] at p0; have hrw := hD.row i p HP.out; rw [stepS_b] at hrw; clear pf) | (at_builtin; refine wpList_appF byteT w1 rfl _ _ rfl (A i) (s.b i).length (c i) (s.b i) rfl hrw B n c' l rfl hN1 (by have := HFT.out; have := HRO.out; have := H.out.ok.len24 i; omega) ?_; intro A1 c1' w3 hO3 hG3 hor3; have hng := hrw.neq_ hD.hd (by decide); have hnp := hrw.neq_ (hD.bx i p HP.out) (by decide); have hg3 := (hG3.block g (lt_blk hD.hd) (fun e => hng e.symm)).trans hD.hd; have hp3 := (hG3.block p (lt_blk (hD.bx i p HP.out)) (fun e => hnp e.symm)).trans (hD.bx i p HP.out); have q0 : w3.cell? ⟨p, 0, none⟩ = some (.slice (A i) (s.b i).length (c i)) := (by rw [cell_of_row _ _ _ _ _ _ hp3, stepS_b] <;> rfl); have q1 : w3.cell? ⟨g, 1, none⟩ = some (.int .i64 (usedF s.b : Nat)) := (by rw [cell_of_row _ _ _ _ _ _ hg3, stepS_b] <;> rfl); have r0 : w3.frozen? ⟨p, 0, none⟩ = false := frozen_of_row _ _ _ _ _ hp3; have r1 : w3.frozen? ⟨g, 1, none⟩ = false := frozen_of_row _ _ _ _ _ hg3))
              go_ret
              rw [HR.out, HQ.out]
              refine ⟨rfl, After.trans hE1 (fun _ x => .inl x) ?_⟩
              have hE3 : Ex X w1 w3 := ⟨hG3.os, hG3.tape, hG3.output, hG3.size, fun j hj hx => hG3.block j hj (fun e => hx (hD.xr i p HP.out j e.symm))⟩
              have hnm := hrw.neqm hD.hm
              refine After.mono (k := k) (app_done (c1 := c1') (n1 := (s.b i).length + n) (u := RowKit.wrap64 ((usedF s.b : Nat) + (n : Nat))) hD hE3 hg3 (p := p) (A0 := A i) (n0 := ((stepS s).b i).length) (c0 := c i) hp3 ((hD.hm.ext fun y => ?_).keep hG3 hnm) (by rw [stepS_b]; exact hO3) (.inl HP.out.symm) ?_ (fun j hj e1 e2 e3 => hG3.block j (hD.xl j hj) (fun e => (e3 p HP.out).2 e.symm)) HZ.out HF.out (by rw [stepS_b, stepS_room, HNL.out]; exact HFT.out) (by rw [stepS_b, HNL.out]; have := HFT.out; have := HRO.out; unfold RowKit.wrap64; omega)) (by omega)
              · rw [← HP.out, upd_id]
              · rcases hor3 with e | e
                · exact .inl ⟨by rw [HP.out]; simp, e⟩
                · exact .inr fun b hb => by rw [e] at hb; injection hb with hb; omega
      · have HFT := Lib.hid hfit
        have HR := Lib.hid (show appR s i l = (22, s) by unfold appR; rw [if_neg (by rw [HF.out]; decide), if_neg (by rw [HO.out]; decide), if_pos (by rw [HNL.out]; omega)])
        clear hfit
        unfold ptrV
        go_enter Try.func14, Try.ntmps14
        go_wp2_with (go_at_call 43; refine (isFile_c _ _ HI.out.1 HI.out.2).mono ?_; rintro e w' ⟨rfl, rfl⟩; rw [HF.out])
        have dfit : decide (IntKind.i64.wrap (s.room - ((usedF s.b : Nat) : Int)) < (n : Int)) = true := by rw [HWR.out]; have := HFT.out; simp; omega
        (refine wp_region_quiet_lit (by kernel_rfl) (by kernel_rfl) ?_; (repeat (first | ((with_reducible refine wpQuiet_step (fun K hK => ?_)); go_simp; (with_reducible refine hK _ ?_); clear hK K) | ((with_reducible refine wpQuiet_off (by kernel_rfl) (fun K hK => ?_)); go_simp; (with_reducible refine hK _ ?_); clear hK K))); (with_reducible refine wpQuiet_nil ?_); intro _ hw'; obtain ⟨nq, hw''⟩ := hw'; subst hw'')
        go_wp2
        go_ret
        rw [HR.out]
        exact ⟨rfl, (H.out.now.mono (by omega)).e_ ((E.refl w').drewN nq)⟩
end
end Go.Proofs.Ythcicfolabngcaa
/- Sync. -/
namespace Go.Proofs.Ythcicfolabngcaa
open Go.RowKit

/-- all files but those that are left are firm -/
def firmP (s : DS) (left : Int → Bool) : DS := { s with firm := fun i => if left i = true then s.firm i else (s.b i).length }
theorem DOk.firmP {s : DS} (h : DOk s) (left : Int → Bool) : DOk (firmP s left) := ⟨h.out, fun i => by simp only [Proofs.Ythcicfolabngcaa.firmP]; split; exact h.firm i; exact Nat.le_refl _, h.room, h.used, h.plan⟩
theorem firmP_all {s : DS} {left : Int → Bool} (h : ∀ i, left i = false) : firmP s left = firmS s := by
  unfold firmP firmS
  congr 1
  funext i
  rw [h i]; rfl
theorem firmP_none {s : DS} (ok : DOk s) {left : Int → Bool} (h : ∀ i, left i = false → s.b i = []) : firmP s left = s := by
  unfold firmP
  have : (fun i => if left i = true then s.firm i else (s.b i).length) = s.firm := by
    funext i
    cases e : left i
    · rw [h i e, ok.firm0 (h i e)]; rfl
    · rfl
  rw [this]
theorem firmP_step (s : DS) (left : Int → Bool) (x : Int) : (firmP s (fun y => left y && y != x)).firm = upd (firmP s left).firm x (s.b x).length := by
  funext y
  simp only [firmP]
  by_cases e : y = x
  · rw [e, upd_same]; simp
  · rw [upd_other _ _ e]; simp [e]
section
variable {X : Nat → Prop} {g k mb : Nat} {s : DS} {F : Int → Option Nat} {A : Int → Option Addr} {c : Int → Nat}
/-- f.durable = len(f.bytes) -/
theorem DiskM.firm1 {w : World} (h : DiskM w X g k s mb F A c) {x : Int} {p : Nat} (hp : F x = some p) {s' : DS} (hb : s'.b = s.b) (hf : s'.firm = upd s.firm x (s.b x).length) (h3 : s'.off = s.off ∧ s'.plan = s.plan ∧ s'.room = s.room) (ok : DOk s') :
    DiskM (w.setCell ⟨p, 1, none⟩ (.int .i64 ((s.b x).length : Nat))) X g k s' mb F A c := by
  have hpg := h.neg hp
  have hmp := h.map_ne (h.bx x p hp)
  have hother : ∀ j, j ≠ p → (w.setCell ⟨p, 1, none⟩ (.int .i64 ((s.b x).length : Nat))).heap[j]? = w.heap[j]? := fun j e => Below.heap_setCell _ _ _ _ e
  have hz : (w.setCell ⟨p, 1, none⟩ (.int .i64 ((s.b x).length : Nat))).heap.size = w.heap.size := by simp [World.setCell]
  have hh : headV s' mb = headV s mb := by unfold headV; rw [hb, h3.1, h3.2.1, h3.2.2]
  have D := h.turn (w' := w.setCell ⟨p, 1, none⟩ (.int .i64 ((s.b x).length : Nat))) (X' := X) (k' := k) (s' := s') x (F x) (A x) (c x) (by rw [hz]; exact Nat.le_refl _) (by rw [hother g (fun e => hpg e.symm), hh]; exact h.hd) (by rw [upd_id]; exact h.hm.block (hother mb hmp)) (fun q hq => ?_) (.inl rfl) (.inl ⟨by rw [hp]; simp, rfl⟩) (by rw [hb]; exact h.nn x) (fun _ hj => hj) (fun j hj => by rw [hz]; exact h.xl j hj) (fun j hj => ⟨by rw [hb], by rw [hf, upd_other _ _ hj]⟩) (fun j _ _ _ e3 => hother j (e3 p hp).1) ok
  · rw [upd_id, upd_id, upd_id] at D; exact D
  · have hq' : q = p := by rw [hp] at hq; injection hq with hq; exact hq.symm
    subst hq'
    refine ⟨?_, ?_, h.xb x q hp, h.xr x q hp⟩
    · rw [heap_setCell_same _ _ _ _ _ _ (h.bx x q hp), hb, hf, upd_same]; rfl
    · rw [hb]
      exact (h.row x q hp).same fun b hb' => hother b (fun e => h.row_ne hp (h.bx x q hp) (by decide) (e ▸ hb'))
set_option maxHeartbeats 4000000 in
set_option maxRecDepth 100000 in
theorem sync_c (w : World) (h : DiskM w X g k s mb F A c) :
    Calls Try.prog 15 #[ptrV g] w (RetE w X g k (syncR s)) := by
  obtain ⟨_, _, c2, c3, _⟩ := h.cells
  have H := Lib.hid h
  clear h
  unfold ptrV
  cases ho : s.off with
  | true =>
    rw [ho] at c3
    have HR := Lib.hid (show syncR s = (23, s) by unfold syncR; rw [if_pos ho])
    clear ho
    go_enter Try.func15, Try.ntmps15
    go_wp2
    go_ret
    rw [HR.out]
    exact ⟨rfl, H.out.now⟩
  | false =>
    rw [ho] at c3
    have HO := Lib.hid ho
    clear ho
    cases hq : (stepS s).off with
    | true =>
      have HR := Lib.hid (show syncR s = (23, stepS s) by unfold syncR; rw [if_neg (by rw [HO.out]; decide), if_pos hq])
      have HQ := Lib.hid hq
      clear hq
      go_enter Try.func15, Try.ntmps15
      go_wp2_with (go_at_call 44; refine (fails_c _ H.out HO.out).mono ?_; rintro e w1 ⟨rfl, hD, hG⟩; rw [HQ.out])
      go_ret
      rw [HR.out]
      exact ⟨rfl, hD.stepped hG⟩
    | false =>
      have HR := Lib.hid (show syncR s = (0, firmS (stepS s)) by unfold syncR; rw [if_neg (by rw [HO.out]; decide), if_neg (by rw [hq]; decide)])
      have HQ := Lib.hid hq
      clear hq
      go_enter Try.func15, Try.ntmps15
      go_wp2_with (first | (go_at_call 44; refine (fails_c _ H.out HO.out).mono ?_; rintro e w1 ⟨rfl, hD, hG⟩; rw [HQ.out]; obtain ⟨_, _, d2, _, _⟩ := hD.cells; have hM1 := hD.hm) | (at_range; refine wpList_rangeD hM1 mapTF rfl _ rfl rfl ?_; intro w2 cnt2 hR2 hG2 hz2 hc2))
      go_frame
      obtain ⟨r, hr⟩ : ∃ r, w1.heap.size = r := ⟨_, rfl⟩
      rw [hr] at hR2 ⊢
      have HD2 := Lib.hid (hD.e ((E.refl w1).grown hG2 (fun j hj => by cases hj)))
      have hX2 : Ex X w w2 := (ex_of_grown hG H.out.xg).trans (Ex.of_e (X := fun _ => False) ((E.refl w1).grown hG2 (fun j hj => by cases hj))) (fun _ _ x => x) (fun _ _ x => x.elim)
      have HRZ := Lib.hid (show w.heap.size ≤ r by rw [← hr]; exact hG.size)
      have HXR := Lib.hid (show ∀ j, X j → j < r from fun j hj => by rw [← hr]; exact hD.xl j hj)
      clear hM1 d2 hG2 hz2 hc2 hr hD hG
      go_loopw [4] (fun _ wr => ∃ (left : Int → Bool) (cnt : Nat), RngD wr mb r k (fun i => (F i).map ptrV) left cnt ∧ DiskM wr X g k (firmP (stepS s) left) mb F A c ∧ Ex X w wr) (fun _ wr => wr.rangeLeft mb r)
      case atStart => exact ⟨_, cnt2, hR2, by rw [firmP_none HD2.out.ok (fun i hi => (HD2.out.nn i).1 (by simpa using hi))]; exact HD2.out, hX2⟩
      case round =>
        obtain ⟨left, cnt, hrg, hDr, hXr⟩ := hrel
        clear hR2 hX2
        go_wp2_with (first | (at_next; refine wpList_nextD rfl _ rfl r _ _ rfl hrg ?_ ?_) | fail)
        · intro hl0
          have HA := Lib.hid (show After w X g k (firmS (stepS s)) wr by rw [← firmP_all hl0]; exact hDr.after hXr)
          clear hl0 hDr hXr hrg
          go_wp2_with fail
          go_ret
          rw [HR.out]
          exact ⟨rfl, HA.out⟩
        · intro x v w3 cnt3 hwx hlx p hp hpv hrg3 hcl hg3 hz3 hen
          subst hpv
          have hD3 : DiskM w3 X g k (firmP (stepS s) left) mb F A c := hDr.same (Nat.le_of_eq hz3.symm) (fun j hj => hg3.block j (hDr.xl j hj) (fun e => by have := HXR.out j hj; injection e with e; omega))
          have hX3 : Ex X w w3 := hXr.grown hg3 (fun j hj => by injection hj with hj; left; have := HRZ.out; omega)
          have hpx := HXR.out p (H.out.xb x p hp)
          have hpm := hD3.map_ne (hD3.bx x p hp)
          obtain ⟨b0, b1, fb⟩ := hD3.box hp
          have fb1 := fb 1
          have HM := Lib.hid (show cnt3 < wr.rangeLeft mb r by rw [hrg.left_eq]; exact hcl)
          have HD4 := Lib.hid (hD3.firm1 hp (s' := firmP (stepS s) (fun y => left y && y != x)) rfl (firmP_step _ _ _) ⟨rfl, rfl, rfl⟩ ((hD3.ok.firmP (fun y => left y && y != x)) |> fun o => ⟨o.out, (H.out.ok.step.firmP _).firm, o.room, o.used, o.plan⟩))
          have HX4 := Lib.hid (hX3.setCell ⟨p, 1, none⟩ (.inr (H.out.xb x p hp)) (.int .i64 (((firmP (stepS s) left).b x).length : Nat)))
          have HR4 := Lib.hid (hrg3.blocks (w' := w3.setCell ⟨p, 1, none⟩ (.int .i64 (((firmP (stepS s) left).b x).length : Nat))) (Below.heap_setCell _ _ _ _ hpm) (Below.heap_setCell _ _ _ _ (show r ≠ p by omega)))
          unfold ptrV at hen
          clear hrg hDr hXr hcl hg3 hz3 hrg3 fb hD3 hX3
          go_wp2_with fail
          exact ⟨⟨_, cnt3, HR4.out, HD4.out, HX4.out⟩, by rw [HR4.out.left_eq]; exact HM.out⟩
end
end Go.Proofs.Ythcicfolabngcaa
/-
  DERIVED: THE SHELF's CONTRACTS AT THIS DUMP, IN PLAIN WORDS (tools/lay-plain.mjs out of 'YthcicfolabngcaaSk.lean', which tools/lay-shelf.mjs wrote): THE SAME DECLARATIONS UNDER THE SAME NAMES: 'import', 'namespace', 'open', 'def', 'theorem' AND NOTHING ELSE: no command of the shelf's: FOR A HAND-IN. Each laying: the table of numbers ('.._ren') and one theorem, a field a fact of the dump's own or the kernel's comparison; each contract: ONE APPLICATION.
-/
namespace Go.Proofs
open Go.Shelf
def Try.keysM_ren : Go.Shelf.Ren := ⟨fun | 7 => 73 | 10 => 83 | n => n, fun | 23 => 77 | 26 => 3 | 3 => 81 | 28 => 112 | 0 => 0 | 27 => 111 | 33 => 80 | 4 => 4 | n => n, fun | n => n⟩
theorem Try.keysM : Go.Proofs.SlLaysZI.n7 Try.prog Try.keysM_ren := {
  mixed := by kernel_rfl
  f7 := ⟨Try.f73.name, by decide, Try.func73.trans (congrArg some (by kernel_rfl))⟩
  f10 := ⟨Try.f83.name, by decide, Try.func83.trans (congrArg some (by kernel_rfl))⟩
  t0 := Try.underlying0
  a0 := Try.isAgg0
  z0 := Try.sizeOf0
  v0 := Try.zeroValue0
  t4 := Try.underlying4
  a4 := Try.isAgg4
  z4 := Try.sizeOf4
  v4 := Try.zeroValue4
  t23 := Try.underlying77
  a23 := Try.isAgg77
  z23 := Try.sizeOf77
  v23 := Try.zeroValue77
  t26 := Try.underlying3
  a26 := Try.isAgg3
  z26 := Try.sizeOf3
  v26 := Try.zeroValue3
  t27 := Try.underlying111
  a27 := Try.isAgg111
  z27 := Try.sizeOf111
  v27 := Try.zeroValue111
  t28 := Try.underlying112
  a28 := Try.isAgg112
  z28 := Try.sizeOf112
  v28 := Try.zeroValue112
  t33 := Try.underlying80
  a33 := Try.isAgg80
  z33 := Try.sizeOf80
  v33 := Try.zeroValue80 }
def Try.sortedM_ren : Go.Shelf.Ren := ⟨fun | 6 => 72 | 8 => 81 | 9 => 82 | 11 => 85 | 13 => 87 | 12 => 86 | 23 => 97 | 24 => 98 | 14 => 88 | 15 => 89 | 16 => 90 | 17 => 91 | 18 => 92 | 19 => 93 | 20 => 94 | 21 => 95 | 22 => 96 | 25 => 99 | 26 => 100 | 27 => 101 | 28 => 102 | 29 => 103 | 30 => 104 | 31 => 105 | n => n, fun | 26 => 3 | 28 => 112 | 24 => 33 | 0 => 0 | 3 => 3 | 37 => 88 | 48 => 134 | 50 => 61 | 4 => 4 | 40 => 126 | 39 => 125 | 45 => 131 | 5 => 5 | 9 => 9 | 51 => 135 | 55 => 138 | 57 => 140 | 58 => 141 | 33 => 80 | n => n, fun | n => n⟩
theorem Try.sortedM : Go.Proofs.SlLaysZI.n6 Try.prog Try.sortedM_ren := {
  mixed := by kernel_rfl
  f6 := ⟨Try.f72.name, by decide, Try.func72.trans (congrArg some (by kernel_rfl))⟩
  f8 := ⟨Try.f81.name, by decide, Try.func81.trans (congrArg some (by kernel_rfl))⟩
  f11 := ⟨Try.f85.name, by decide, Try.func85.trans (congrArg some (by kernel_rfl))⟩
  t0 := Try.underlying0
  a0 := Try.isAgg0
  z0 := Try.sizeOf0
  v0 := Try.zeroValue0
  t24 := Try.underlying33
  a24 := Try.isAgg33
  z24 := Try.sizeOf33
  v24 := Try.zeroValue33
  t26 := Try.underlying3
  a26 := Try.isAgg3
  z26 := Try.sizeOf3
  v26 := Try.zeroValue3
  t28 := Try.underlying112
  a28 := Try.isAgg112
  z28 := Try.sizeOf112
  v28 := Try.zeroValue112
  i26 := by kernel_rfl }
end Go.Proofs
/- Files: the sorted keys of the map. -/
namespace Go.Proofs.Ythcicfolabngcaa
open Go.RowKit Go.Maps Go.Sort Go.Shelf

theorem MapD.keys {w : World} {b n : Nat} {f : Int → Option Value} (h : MapD w b n f) : ∃ D : DataW Value, w.ownsMap Try.prog 3 heldD b n D ∧ ∀ l : List Int, l.Nodup → (∀ x, x ∈ l ↔ (f x).isSome = true) → l.Perm (intKeys D) ∧ Maps.size D = l.length := by
  obtain ⟨D, h1, h2, h3, h4⟩ := h
  refine ⟨D, h1, fun l hn hm => ?_⟩
  obtain ⟨es, hD, hpw, _⟩ := h1.entries (Maps.int_keyed Try.underlying3)
  obtain ⟨es', hD', hko⟩ := h1.keysOf
  obtain rfl : es = es' := by rw [hD] at hD'; simpa using hD'
  subst hD
  have hp := perm_intKeys hpw (fun p hp => by obtain ⟨v, hv⟩ := hko p hp; obtain ⟨x, _, hx, _⟩ := Maps.keyOf_i64 Try.underlying3 hv; exact ⟨x, hx⟩) hn (fun x => by rw [hm, h4])
  refine ⟨hp, ?_⟩
  rw [hp.length_eq]
  simp [intKeys, Maps.size]
section
variable {X : Nat → Prop} {g k mb : Nat} {s : DS} {F : Int → Option Nat} {A : Int → Option Addr} {c : Int → Nat}
set_option maxHeartbeats 1000000 in
theorem files_c0 (hsorts : ∀ m, AnyZI.SortsIn Try.prog Try.sortedM_ren Fence.wide m) (w : World) (h : DiskM w X g k s mb F A c) :
    Calls Try.prog 45 #[ptrV g] w (RetOwn .i64 3 w (liveI s.b)) := by
  obtain ⟨_, _, c2, _, _⟩ := h.cells
  obtain ⟨D0, hown, hperm⟩ := h.hm.keys
  have hmem : ∀ x, x ∈ liveI s.b ↔ ((fun i => (F i).map ptrV) x).isSome = true := fun x => by
    rw [mem_liveI h.ok]
    have := h.nn x
    cases e : F x with
    | none => exact ⟨fun hne => absurd (this.1 e) hne, fun hh => by simp [e] at hh⟩
    | some p => exact ⟨fun _ => by simp [e], fun _ e' => by rw [this.2 e'] at e; cases e⟩
  obtain ⟨hP, hsz⟩ := hperm _ (liveI_nodup _) hmem
  have h64 := liveI_len s.b
  have hmax : Maps.size D0 ≤ maxLen := by rw [hsz]; unfold maxLen; omega
  have hbytes : Maps.size D0 * 8 ≤ 140737488355328 := by rw [hsz]; omega
  have HO := Lib.hid h.ok
  have HL := Lib.hid (And.intro hP h64)
  clear h hsz h64 hmem hperm hP
  refine (callsIn_wide (n := 6)).1 ?_
  have hbl := hown.lt
  have hseq : SeqGives Fence.wide 2 Try.prog 83 #[.pointer (some ⟨w.heap.size, 0, none⟩)] encZ (fun ss => ss.Perm (intKeys D0)) (Maps.size D0) (w.alloc (.cells #[.map (some mb)] 77)) :=
    AnyZI.keys_gives (ρ := Try.keysM_ren) { Try.keysM with } Fence.wide _ trivial rfl (by omega) w.heap.size mb k D0 _ (by simp) (by simp) (by
      obtain ⟨es, clock, hb, Ft, hs, hD⟩ := hown
      exact ⟨es, clock, (Below.heap_alloc _ _ mb hbl).trans hb, Ft, hs, hD⟩)
  have cK : ∀ mb W, CallsIn Fence.wide 5 Try.prog 73 #[.map mb] W fun e w' => e = .returned (.func (.func 83) #[] #[.pointer (some ⟨W.heap.size, 0, none⟩)]) ∧ w' = W.alloc (.cells #[.map mb] 77) := fun mb W => AnyZI.keys_in Try.keysM Fence.wide 5 trivial rfl mb W
  have cS := AnyZI.sorted_in Try.sortedM Fence.wide 5 trivial trivial trivial trivial rfl (by omega) (hsorts _) (enters_of Try.func82 (by kernel_rfl) rfl) 83 #[.pointer (some ⟨w.heap.size, 0, none⟩)] trivial (enters_of Try.func83 (by kernel_rfl) rfl) _ _ hmax hbytes _ hseq
  change CallsIn _ _ Try.prog 72 _ _ _ at cS
  have hfK : Fence.wide.fn 73 := trivial
  have hfS : Fence.wide.fn 72 := trivial
  unfold ptrV
  refine callsIn_of_wp Try.func45 rfl trivial ?_ rfl
  simp only [Try.ntmps45, List.size_toArray, List.length_cons, List.length_nil, Nat.reduceAdd, Nat.reduceSub, Array.replicate_succ, Array.replicate_zero, List.push_toArray, List.append_toArray, List.nil_append, List.cons_append]
  gi_wp2_with (first
    | (gi_at_call 73; refine (cK _ _).mono ?_; rintro e w' ⟨rfl, rfl⟩)
    | (gi_at_call 72; refine cS.mono ?_; rintro e w' ⟨v, ss, rfl, hS, hrow, hnil, hb⟩))
  go_ret
  have hpl : (liveI s.b).Perm ss := HL.out.1.trans hS.symm
  have hso := sort_live HO.out (l := ss) (hpl.nodup_iff.1 (liveI_nodup _)) (fun x => by rw [← hpl.mem_iff, mem_liveI HO.out])
  have hE : E w _ := ((Below.refl _ w).alloc (Nat.le_refl _) _).trans (hb.mono (by simp))
  have hrow' := ownsRow_base_a hrow (show w.heap.size ≤ _ by simp)
  have hso' : ss.mergeSort (fun x y => decide (x ≤ y)) = liveI s.b := hso
  rw [hso'] at hrow'
  have hll : ss.length = (liveI s.b).length := hpl.length_eq.symm
  obtain ⟨A', c', rfl, hO⟩ := own_of_row' (k := .i64) (l := liveI s.b) hrow' (fun x hx => by
    have := isF_iff.1 (HO.out.ne ((mem_liveI HO.out).1 hx))
    exact wf_of_i64 (by omega) (by omega))
  exact ⟨A', _, c', rfl, hO, hE⟩
end
end Go.Proofs.Ythcicfolabngcaa
/-
  DERIVED: THE SHELF's CONTRACTS AT THIS DUMP, IN PLAIN WORDS (tools/lay-plain.mjs out of 'YthcicfolabngcaaSo.lean', which tools/lay-shelf.mjs wrote): THE SAME DECLARATIONS UNDER THE SAME NAMES: 'import', 'namespace', 'open', 'def', 'theorem' AND NOTHING ELSE: no command of the shelf's: FOR A HAND-IN. Each laying: the table of numbers ('.._ren') and one theorem, a field a fact of the dump's own or the kernel's comparison; each contract: ONE APPLICATION.
-/
namespace Go.Proofs
open Go.Shelf
def Try.sortI_ren : Go.Shelf.Ren := ⟨fun | 5 => 82 | 8 => 87 | 7 => 86 | 19 => 97 | 20 => 98 | 10 => 88 | 11 => 89 | 12 => 90 | 13 => 91 | 14 => 92 | 15 => 93 | 16 => 94 | 17 => 95 | 18 => 96 | 30 => 99 | 31 => 100 | 32 => 101 | 33 => 102 | 34 => 103 | 35 => 104 | 40 => 105 | n => n, fun | 23 => 33 | 25 => 3 | 3 => 3 | 32 => 88 | 22 => 33 | 0 => 0 | 44 => 134 | 46 => 61 | 4 => 4 | 36 => 126 | 35 => 125 | 41 => 131 | 5 => 5 | 9 => 9 | 53 => 135 | 57 => 138 | 63 => 140 | 64 => 141 | n => n, fun | n => n⟩
theorem Try.sortI : Go.Proofs.SlLaysM.n5 Try.prog Try.sortI_ren := {
  mixed := by kernel_rfl
  f5 := ⟨Try.f82.name, by decide, Try.func82.trans (congrArg some (by kernel_rfl))⟩
  f7 := ⟨Try.f86.name, by decide, Try.func86.trans (congrArg some (by kernel_rfl))⟩
  f8 := Try.func87.trans (congrArg some (by kernel_rfl))
  f10 := ⟨Try.f88.name, by decide, Try.func88.trans (congrArg some (by kernel_rfl))⟩
  f11 := ⟨Try.f89.name, by decide, Try.func89.trans (congrArg some (by kernel_rfl))⟩
  f12 := ⟨Try.f90.name, by decide, Try.func90.trans (congrArg some (by kernel_rfl))⟩
  f13 := ⟨Try.f91.name, by decide, Try.func91.trans (congrArg some (by kernel_rfl))⟩
  f14 := ⟨Try.f92.name, by decide, Try.func92.trans (congrArg some (by kernel_rfl))⟩
  f15 := ⟨Try.f93.name, by decide, Try.func93.trans (congrArg some (by kernel_rfl))⟩
  f16 := ⟨Try.f94.name, by decide, Try.func94.trans (congrArg some (by kernel_rfl))⟩
  f17 := ⟨Try.f95.name, by decide, Try.func95.trans (congrArg some (by kernel_rfl))⟩
  f18 := ⟨Try.f96.name, by decide, Try.func96.trans (congrArg some (by kernel_rfl))⟩
  f19 := Try.func97.trans (congrArg some (by kernel_rfl))
  f20 := Try.func98.trans (congrArg some (by kernel_rfl))
  f30 := ⟨Try.f99.name, by decide, Try.func99.trans (congrArg some (by kernel_rfl))⟩
  f31 := Try.func100.trans (congrArg some (by kernel_rfl))
  f32 := Try.func101.trans (congrArg some (by kernel_rfl))
  f33 := ⟨Try.f102.name, by decide, Try.func102.trans (congrArg some (by kernel_rfl))⟩
  f34 := ⟨Try.f103.name, by decide, Try.func103.trans (congrArg some (by kernel_rfl))⟩
  f35 := ⟨Try.f104.name, by decide, Try.func104.trans (congrArg some (by kernel_rfl))⟩
  f40 := ⟨Try.f105.name, by decide, Try.func105.trans (congrArg some (by kernel_rfl))⟩
  t0 := Try.underlying0
  a0 := Try.isAgg0
  z0 := Try.sizeOf0
  v0 := Try.zeroValue0
  t3 := Try.underlying3
  a3 := Try.isAgg3
  z3 := Try.sizeOf3
  v3 := Try.zeroValue3
  t4 := Try.underlying4
  a4 := Try.isAgg4
  z4 := Try.sizeOf4
  v4 := Try.zeroValue4
  t5 := Try.underlying5
  a5 := Try.isAgg5
  z5 := Try.sizeOf5
  v5 := Try.zeroValue5
  t9 := Try.underlying9
  a9 := Try.isAgg9
  z9 := Try.sizeOf9
  v9 := Try.zeroValue9
  t22 := Try.underlying33
  a22 := Try.isAgg33
  z22 := Try.sizeOf33
  v22 := Try.zeroValue33
  t23 := Try.underlying33
  a23 := Try.isAgg33
  z23 := Try.sizeOf33
  v23 := Try.zeroValue33
  t25 := Try.underlying3
  a25 := Try.isAgg3
  z25 := Try.sizeOf3
  v25 := Try.zeroValue3
  t32 := Try.underlying88
  a32 := Try.isAgg88
  z32 := Try.sizeOf88
  v32 := Try.zeroValue88
  t35 := Try.underlying125
  a35 := Try.isAgg125
  z35 := Try.sizeOf125
  v35 := Try.zeroValue125
  t36 := Try.underlying126
  a36 := Try.isAgg126
  z36 := Try.sizeOf126
  v36 := Try.zeroValue126
  t41 := Try.underlying131
  a41 := Try.isAgg131
  z41 := Try.sizeOf131
  v41 := Try.zeroValue131
  t44 := Try.underlying134
  a44 := Try.isAgg134
  z44 := Try.sizeOf134
  v44 := Try.zeroValue134
  t46 := Try.underlying61
  a46 := Try.isAgg61
  z46 := Try.sizeOf61
  v46 := Try.zeroValue61
  t53 := Try.underlying135
  a53 := Try.isAgg135
  z53 := Try.sizeOf135
  v53 := Try.zeroValue135
  t57 := Try.underlying138
  a57 := Try.isAgg138
  z57 := Try.sizeOf138
  v57 := Try.zeroValue138
  t63 := Try.underlying140
  a63 := Try.isAgg140
  z63 := Try.sizeOf140
  v63 := Try.zeroValue140
  t64 := Try.underlying141
  a64 := Try.isAgg141
  z64 := Try.sizeOf141
  v64 := Try.zeroValue141 }
end Go.Proofs
/- Files, with slices.Sort laid at the dump. -/
namespace Go.Proofs.Ythcicfolabngcaa
open Go.RowKit Go.Maps Go.Sort Go.Shelf

theorem sortsM (m : Nat) : AnyZI.SortsIn Try.prog Try.sortedM_ren Fence.wide m :=
  ⟨fun blk off cap ss W hH hblk hsz => callsIn_wide.2 (AnyM.slices_Sort_int Try.sortI blk off cap ss W hH hblk hsz),
   fun p cap W => callsIn_wide.2 (AnyM.slices_Sort_int_none Try.sortI p cap W)⟩
theorem files_c {X : Nat → Prop} {g k mb : Nat} {s : DS} {F : Int → Option Nat} {A : Int → Option Addr} {c : Int → Nat} (w : World) (h : DiskM w X g k s mb F A c) :
    Calls Try.prog 45 #[ptrV g] w (RetOwn .i64 3 w (liveI s.b)) := files_c0 sortsM w h
end Go.Proofs.Ythcicfolabngcaa
/- invert. -/
namespace Go.Proofs.Ythcicfolabngcaa
open Go.RowKit

section
variable {X : Nat → Prop} {g k mb : Nat} {s : DS} {F : Int → Option Nat} {A : Int → Option Addr} {c : Int → Nat}
/-- one byte is written -/
def putS (s : DS) (x : Int) (j : Nat) (v : Int) : DS := { s with b := upd s.b x ((s.b x).set j v) }
theorem putS_len (s : DS) (x : Int) (j : Nat) (v : Int) (i : Int) : ((putS s x j v).b i).length = (s.b i).length := by
  simp only [putS]
  by_cases e : i = x
  · rw [e, upd_same, List.length_set]
  · rw [upd_other _ _ e]
theorem DOk.put {s : DS} (h : DOk s) (x : Int) (j : Nat) (v : Int) : DOk (putS s x j v) := by
  refine ⟨fun i hi => ?_, fun i => by rw [putS_len]; exact h.firm i, h.room, by rw [show usedF _ = usedF s.b from usedF_same (putS_len s x j v)]; exact h.used, h.plan⟩
  have := putS_len s x j v i
  rw [h.out i hi] at this
  exact List.eq_nil_of_length_eq_zero this
theorem DiskM.put1 {w : World} (h : DiskM w X g k s mb F A c) {x : Int} {p r : Nat} (hp : F x = some p) (hr : A x = some ⟨r, 0, none⟩) (j : Nat) (v : Int) (hv : (Lit.int .u8 v).wf = true) :
    DiskM (w.setCell ⟨r, j, none⟩ (.int .u8 v)) X g k (putS s x j v) mb F A c := by
  have hrow := h.row x p hp
  have hxr := h.xr x p hp r (by rw [hr]; rfl)
  have hother : ∀ q, q ≠ r → (w.setCell ⟨r, j, none⟩ (.int .u8 v)).heap[q]? = w.heap[q]? := fun q e => Below.heap_setCell _ _ _ _ e
  have hz : (w.setCell ⟨r, j, none⟩ (.int .u8 v)).heap.size = w.heap.size := by simp [World.setCell]
  have hh : headV (putS s x j v) mb = headV s mb := by unfold headV; rw [show usedF (putS s x j v).b = usedF s.b from usedF_same (putS_len s x j v)]; rfl
  have hgr : g ≠ r := fun e => h.row_ne hp h.hd (by decide) (by rw [hr, e]; rfl)
  have hmr : mb ≠ r := fun e => h.row_map hp (by rw [hr, e]; rfl)
  have D := h.turn (w' := w.setCell ⟨r, j, none⟩ (.int .u8 v)) (X' := X) (k' := k) (s' := putS s x j v) x (F x) (A x) (c x) (by rw [hz]; exact Nat.le_refl _) (by rw [hother g hgr, hh]; exact h.hd) (by rw [upd_id]; exact h.hm.block (hother mb hmr)) (fun q hq => ?_) (.inl rfl) (.inl ⟨by rw [hp]; simp, rfl⟩) ?_ (fun _ hj => hj) (fun q hq => by rw [hz]; exact h.xl q hq) (fun q hq => ⟨upd_other _ _ hq, rfl⟩) (fun q _ _ _ e3 => hother q (fun e => (e3 p hp).2 (by rw [hr, e]; rfl))) (h.ok.put x j v)
  · rw [upd_id, upd_id, upd_id] at D; exact D
  · have hq' : q = p := by rw [hp] at hq; injection hq with hq; exact hq.symm
    subst hq'
    have hqr : q ≠ r := fun e => h.row_ne hp (h.bx x q hp) (by decide) (by rw [hr, e]; rfl)
    refine ⟨?_, ?_, h.xb x q hp, h.xr x q hp⟩
    · rw [hother q hqr, putS_len]; exact h.bx x q hp
    · rw [putS_len, hr]
      rw [hr] at hrow
      simp only [putS, upd_same]
      exact hrow.set j v hv
  · rw [h.nn x]
    have := putS_len s x j v x
    constructor
    · intro e; rw [e] at this; exact List.eq_nil_of_length_eq_zero this
    · intro e; rw [e] at this; exact List.eq_nil_of_length_eq_zero this.symm
theorem invertF_here {s : DS} {i : Int} {r : List Int} {bit : Nat} (h : bit < 8 * ((s.b i).length - s.firm i)) : invertF s (i :: r) bit = putS s i (s.firm i + bit / 8) (flipB ((s.b i).getD (s.firm i + bit / 8) 0) (bit % 8)) := by
  rw [invertF, if_pos h]; rfl
theorem invertF_next {s : DS} {i : Int} {r : List Int} {bit : Nat} (h : ¬ bit < 8 * ((s.b i).length - s.firm i)) : invertF s (i :: r) bit = invertF s r (bit - 8 * ((s.b i).length - s.firm i)) := by
  rw [invertF, if_neg h]
theorem flip_fin : ∀ (x : Fin 256) (p : Fin 8), bits .xor .u8 ((x.val : Nat) : Int) (128 / 2 ^ p.val) = flipB ((x.val : Nat) : Int) p.val := by decide +kernel
theorem flip_bits {y : Int} (hy : (Lit.int .u8 y).wf = true) {m : Nat} (hm : m < 8) : bits .xor .u8 y (128 / 2 ^ m) = flipB y m := by
  obtain ⟨h0, h1⟩ := wf_u8 hy
  obtain ⟨n, rfl⟩ : ∃ n : Nat, y = n := ⟨y.toNat, by omega⟩
  exact flip_fin ⟨n, by omega⟩ ⟨m, hm⟩
theorem flip_fwf : ∀ (x : Fin 256) (p : Fin 8), (Lit.int .u8 (flipB ((x.val : Nat) : Int) p.val)).wf = true := by decide +kernel
theorem flip_wf {y : Int} (hy : (Lit.int .u8 y).wf = true) {m : Nat} (hm : m < 8) : (Lit.int .u8 (flipB y m)).wf = true := by
  obtain ⟨h0, h1⟩ := wf_u8 hy
  obtain ⟨n, rfl⟩ : ∃ n : Nat, y = n := ⟨y.toNat, by omega⟩
  exact flip_fwf ⟨n, by omega⟩ ⟨m, hm⟩
theorem inv_in {L f b : Nat} (h1 : f ≤ L) (h2 : L ≤ 16777216) (h : (b : Int) < RowKit.wrap64 (8 * RowKit.wrap64 ((L : Int) - (f : Nat)))) : b < 8 * (L - f) := by
  unfold RowKit.wrap64 at h; omega
theorem inv_out {L f b : Nat} (h1 : f ≤ L) (h2 : L ≤ 16777216) (hb : b ≤ 1099511627776) (h : RowKit.wrap64 (8 * RowKit.wrap64 ((L : Int) - (f : Nat))) ≤ (b : Int)) :
    ¬ b < 8 * (L - f) ∧ RowKit.wrap64 ((b : Int) - RowKit.wrap64 (8 * RowKit.wrap64 ((L : Int) - (f : Nat)))) = ((b - 8 * (L - f) : Nat) : Int) := by
  unfold RowKit.wrap64 at *; omega
theorem inv_at {L f b : Nat} (h1 : f ≤ L) (h2 : L ≤ 16777216) (hb : b ≤ 1099511627776) (h : b < 8 * (L - f)) :
    ∃ q j m : Nat, Hid (q = b / 8) ∧ Hid (j = f + b / 8) ∧ Hid (m = b % 8) ∧ Hid (j < L) ∧ IntKind.i64.wrap ((b : Int) / 8) = (q : Int) ∧ (b : Int).tmod 8 = (m : Int) ∧ IntKind.i64.wrap ((b : Int) % 8) = (m : Int) ∧ IntKind.i64.wrap (((f : Nat) : Int) + (q : Int)) = (j : Int) ∧ (j : Int) < (L : Int) ∧ (m : Int) < 8 := by
  have hj : f + b / 8 < L := by omega
  refine ⟨b / 8, f + b / 8, b % 8, rfl, rfl, rfl, hj, ?_, ?_, ?_, ?_, Int.ofNat_lt.2 hj, by omega⟩
  · rw [IntKind.wrap_i64]; omega
  · rw [Int.tmod_eq_emod_of_nonneg (by omega)]; omega
  · rw [IntKind.wrap_i64]; omega
  · rw [IntKind.wrap_i64]; omega
theorem meas_up {i n : Nat} (h : i < n) (hn : n ≤ 64) : n - (intOf (.int .i64 (RowKit.wrap64 ((i : Int) + 1)))).toNat < n - (intOf (.int .i64 (i : Int))).toNat := by
  rw [IntWalk.wrap64_in _ (by omega)]; simp only [intOf]; omega
set_option maxHeartbeats 4000000 in
set_option maxRecDepth 100000 in
theorem invert_c (bit : Nat) (w : World) (h : DiskM w X g k s mb F A c) (hb : (bit : Int) ≤ 1099511627776) :
    Calls Try.prog 47 #[ptrV g, .int .i64 bit] w (fun e w' => e = .returned (.tuple #[]) ∧ After w X g k (invertF s (liveI s.b) bit) w') := by
  have H := Lib.hid h
  have h64 : (((liveI s.b).length : Nat) : Int) ≤ 64 := by have := liveI_len s.b; omega
  clear h
  unfold ptrV
  go_enter Try.func47, Try.ntmps47
  go_wp2_with (go_at_call 45; refine (files_c _ H.out).mono ?_; rintro e w1 ⟨A1, n1, c1, rfl, hO1, hE1⟩)
  have hln := hO1.1
  have HD := Lib.hid (H.out.e hE1)
  have HLN := Lib.hid hln
  clear hln
  go_loopw [11, 1] (fun t11 t1 wr => ∃ (i b : Nat), t11 = .int .i64 i ∧ t1 = .int .i64 b ∧ i ≤ n1 ∧ b ≤ bit ∧ E w1 wr ∧ Hid (invertF s ((liveI s.b).drop i) b = invertF s (liveI s.b) bit)) (fun t11 _ _ => n1 - (intOf t11).toNat)
  case atStart => exact ⟨0, bit, rfl, rfl, Nat.zero_le _, Nat.le_refl _, E.refl _, rfl⟩
  case round =>
    obtain ⟨i, b, rfl, rfl, hi, hbb, hEr, hs⟩ := hrel
    by_cases hlt : i < n1
    · obtain ⟨r1, x, rfl, _, _, hx, hwx, hcx, _⟩ := (hO1.e hEr).get hlt
      have hxm : x ∈ liveI s.b := List.mem_of_getElem? hx
      have hne := (mem_liveI H.out.ok).1 hxm
      have hDr := HD.out.e hEr
      obtain ⟨p, hp⟩ : ∃ p, F x = some p := by
        cases e : F x with
        | none => exact absurd ((H.out.nn x).1 e) hne
        | some p => exact ⟨p, rfl⟩
      have hlk := hDr.hm.look mapTF hwx
      simp only [hp, Option.map_some, Option.getD_some, ptrV] at hlk
      obtain ⟨b0, b1, fb⟩ := hDr.box hp
      obtain ⟨_, _, d2, _, _⟩ := hDr.cells
      have HX := Lib.hid hx
      have HP := Lib.hid hp
      have HDR := Lib.hid hDr
      have dlt : decide (i < n1) = true := by simpa using hlt
      clear hx hp hDr hxm hne
      go_wp2_with fail
      (refine wp_region_quiet_lit (by kernel_rfl) (by kernel_rfl) ?_; (repeat (first | ((with_reducible refine wpQuiet_step (fun K hK => ?_)); go_simp; (with_reducible refine hK _ ?_); clear hK K) | ((with_reducible refine wpQuiet_off (by kernel_rfl) (fun K hK => ?_)); go_simp; (with_reducible refine hK _ ?_); clear hK K))); (with_reducible refine wpQuiet_nil ?_); intro _ hw'; obtain ⟨nq, hw''⟩ := hw'; subst hw'')
      have HFL := Lib.hid (And.intro (H.out.ok.firm x) (H.out.ok.len24 x))
      have hdr := drop_at HX.out
      have hEq : E w1 (wr.drewN nq) := hEr.drewN _
      generalize wr.drewN nq = wq at hEq ⊢
      obtain ⟨r, hr⟩ : ∃ r, A x = some ⟨r, 0, none⟩ := by
        rcases (HDR.out.row x p HP.out).form with ⟨_, h0, _⟩ | ⟨r, hr, _⟩
        · exfalso
          have e1 := List.eq_nil_of_length_eq_zero h0
          have e2 := (HDR.out.nn x).2 e1
          rw [HP.out] at e2; cases e2
        · exact ⟨r, hr⟩
      clear b0 b1 fb d2 hlk HDR
      have HDR := Lib.hid (HD.out.e hEq)
      obtain ⟨b0, b1, fb⟩ := HDR.out.box HP.out
      rw [hr] at b0
      have HR := Lib.hid hr
      have HDP := Lib.hid hdr
      have HS := Lib.hid hs.out
      have HLL := Lib.hid (And.intro hlt (show n1 ≤ 64 by rw [← HLN.out]; exact liveI_len _))
      have HBI := Lib.hid (And.intro hbb hb)
      clear hr hdr hs hbb
      go_wp2_with fail
      case _ =>
        have hbit := inv_in HFL.out.1 HFL.out.2 (by assumption)
        obtain ⟨q, jj, m, HQ, HJ, HM, HJL, hq, hm1, hm2, hjj, hjl, hm8⟩ := inv_at HFL.out.1 HFL.out.2 (show b ≤ 1099511627776 by have := HBI.out; omega) hbit
        have hrow := HDR.out.row x p HP.out
        rw [HR.out] at hrow
        obtain ⟨y, _, _, hy, hwy, hcy, hfy⟩ := hrow.getg HJL.out
        have HB := Lib.hid hbit
        have HY := Lib.hid hy
        have HWY := Lib.hid hwy
        clear hbit hrow hy hwy
        refine wp_region_still_tail 17 (by kernel_rfl) (by kernel_rfl) ?_
        simp only [List.take_succ_cons, List.take_zero, List.drop_succ_cons, List.drop_zero]
        repeat still_step
        refine wpStill_nil ?_
        go_wp2_with fail
        refine bodyPost_ret (results_none rfl _ _ _) rfl ?_
        have hm8' : m < 8 := by omega
        rw [flip_bits HWY.out hm8']
        refine ⟨rfl, ?_⟩
        have hD' := HDR.out.put1 HP.out HR.out jj (flipB y m) (flip_wf HWY.out hm8')
        have hD2 : DiskM (wq.setCell ⟨r, jj, none⟩ (.int .u8 (flipB y m))).drew X g k (putS s x jj (flipB y m)) mb F A c := hD'.same (Nat.le_refl _) (fun _ _ => rfl)
        have hS : invertF s (liveI s.b) bit = putS s x jj (flipB y m) := by
          rw [← HS.out, HDP.out, invertF_here HB.out, ← HJ.out, ← HM.out]
          congr 2
          rw [List.getD_eq_getElem?_getD, HY.out]; rfl
        rw [hS]
        exact hD2.after (((Ex.of_e (hE1.trans hEq)).setCell ⟨r, jj, none⟩ (.inr (H.out.xr x p HP.out r (by rw [HR.out]; rfl))) _).drew)
      case _ =>
        obtain ⟨hbit, e7⟩ := inv_out HFL.out.1 HFL.out.2 (show b ≤ 1099511627776 by have := HBI.out; omega) (by assumption)
        have hR := HS.out
        rw [HDP.out, invertF_next hbit] at hR
        refine ⟨⟨i + 1, b - 8 * ((s.b x).length - s.firm x), ?_, by rw [e7], HLL.out.1, by have := HBI.out.1; omega, hEq, hR⟩, meas_up HLL.out.1 HLL.out.2⟩
        rw [IntWalk.wrap64_in _ (by have := HLL.out; omega)]; rfl
    · have dlt : decide (i < n1) = false := by simpa using hlt
      have HI := Lib.hid (show i = n1 by omega)
      clear hlt
      go_wp2_with fail
      go_end0
      refine ⟨rfl, ?_⟩
      have hs' := hs.out
      rw [HI.out, ← HLN.out, List.drop_length] at hs'
      rw [← hs']
      exact ((HD.out.e hEr).after (Ex.of_e (hE1.trans hEr)))
end
end Go.Proofs.Ythcicfolabngcaa
/- Crash. -/
namespace Go.Proofs.Ythcicfolabngcaa
open Go.RowKit

/-- what holds of the state while the first loop of a crash runs: the files to come are as they were -/
structure Losing (s : DS) (keep : List Int) (i : Nat) (s' : DS) (n : Nat) : Prop where
  eq : loseF keep ((liveI s.b).drop i) i (s', n) = loseF keep (liveI s.b) 0 (s, 0)
  same : ∀ j x, i ≤ j → (liveI s.b)[j]? = some x → s'.b x = s.b x
  top : n ≤ i * 16777216
  emp : ∀ x, s.b x = [] → s'.b x = []
theorem Losing.zero (s : DS) (keep : List Int) : Losing s keep 0 s 0 := ⟨rfl, fun _ _ _ _ => rfl, Nat.le_refl _, fun _ h => h⟩
theorem Losing.step {s s' : DS} {keep : List Int} {i n : Nat} {x : Int} (h : Losing s keep i s' n) (ok : DOk s') (hx : (liveI s.b)[i]? = some x) :
    Losing s keep (i + 1) (cutS s' x (s'.firm x + keptF s' keep i x)) (n + keptF s' keep i x) := by
  have hnd := liveI_nodup s.b
  refine ⟨?_, fun j y hj hy => ?_, ?_, fun y hy => ?_⟩
  · rw [← h.eq, drop_at hx, loseF]
  · have hne : y ≠ x := fun e => by
      rw [e] at hy
      have h1 := (List.getElem?_eq_some_iff.1 hx)
      have h2 := (List.getElem?_eq_some_iff.1 hy)
      have := (List.pairwise_iff_getElem.1 hnd) i j h1.1 h2.1 (by omega)
      exact this (h1.2.trans h2.2.symm)
    simp only [cutS, upd_other _ _ hne]
    exact h.same j y (by omega) hy
  · have h1 := keptF_le s' ok keep i x
    have h2 := ok.len24 x
    have := h.top
    omega
  · simp only [cutS]
    by_cases e : y = x
    · rw [e, upd_same, h.emp x (e ▸ hy)]; simp
    · rw [upd_other _ _ e]; exact h.emp y hy
theorem keptF_none (s : DS) (keep : List Int) (j : Nat) (i : Int) (h : keep.length ≤ j) : keptF s keep j i = 0 := by
  unfold keptF
  rw [List.getElem?_eq_none h]
theorem keptF_some (s : DS) (keep : List Int) (j : Nat) (i : Int) {y : Int} (h : keep[j]? = some y) : keptF s keep j i = (max 0 (min y ((s.b i).length - (s.firm i : Nat)))).toNat := by
  unfold keptF
  rw [h]
theorem kept_val {L f : Nat} {y : Int} (h1 : f ≤ L) (h2 : L ≤ 16777216) : max 0 (min y (IntKind.i64.wrap ((L : Int) - (f : Nat)))) = (((max 0 (min y ((L : Int) - (f : Nat)))).toNat : Nat) : Int) := by
  rw [IntKind.wrap_i64, show ((L : Int) - (f : Nat) + 9223372036854775808) % 18446744073709551616 - 9223372036854775808 = (L : Int) - (f : Nat) by omega]
  omega
theorem sum_nat {a b : Nat} (ha : a ≤ 1099511627776) (hb : b ≤ 1099511627776) : ∃ z : Nat, Hid (z = a + b) ∧ RowKit.wrap64 ((a : Int) + (b : Int)) = (z : Int) ∧ IntKind.i64.wrap ((a : Int) + (b : Int)) = (z : Int) := by
  refine ⟨a + b, rfl, ?_, ?_⟩
  · unfold RowKit.wrap64; omega
  · rw [IntKind.wrap_i64]; omega
set_option linter.unusedVariables false in
theorem flip_mod {flip : Int} {n : Nat} (h0 : 0 ≤ flip) (hn : 0 < n) (hn2 : (n : Int) ≤ 1073741824) :
    ∃ (v : Nat) (q : Int), RowKit.wrap64 (8 * (n : Int)) = q ∧ IntKind.i64.wrap (8 * (n : Int)) = q ∧ (q == 0) = false ∧ (q == -1) = false ∧ flip.tmod q = (v : Int) ∧ Hid (v = (flip % (8 * n : Nat)).toNat) ∧ (v : Int) ≤ 1099511627776 := by
  have h8 : (0 : Int) < ((8 * n : Nat) : Int) := by omega
  have hr := Int.emod_nonneg flip (show ((8 * n : Nat) : Int) ≠ 0 by omega)
  have hl := Int.emod_lt_of_pos flip h8
  refine ⟨(flip % (8 * n : Nat)).toNat, (8 * n : Nat), by unfold RowKit.wrap64; omega, by rw [IntKind.wrap_i64]; omega, by simp; omega, by simp; omega, ?_, rfl, by omega⟩
  rw [Int.tmod_eq_emod_of_nonneg h0]
  omega
theorem top_int {n i : Nat} (h : n ≤ i * 16777216) (hi : i ≤ 64) : (n : Int) ≤ 1073741824 := by omega
/-- a disk that is calmed: all is firm, the power is on, nothing is planned -/
theorem calm_firmP (s : DS) (left : Int → Bool) (h : ∀ i, left i = false) : { firmP s left with off := false, plan := -1 } = calmS s := by rw [firmP_all h]; rfl
section
variable {X : Nat → Prop} {g k mb : Nat} {s : DS} {F : Int → Option Nat} {A : Int → Option Addr} {c : Int → Nat}
set_option maxHeartbeats 4000000 in
set_option maxRecDepth 100000 in
theorem crash_c (K : Option Addr) (m cK : Nat) (keep : List Int) (flip : Int) (w : World) (h : DiskM w X g k s mb F A c) (hK : Nums .i64 w K m cK keep) (hKX : away X K m) (hf1 : -9223372036854775808 ≤ flip) (hf2 : flip ≤ 9223372036854775807) :
    Calls Try.prog 16 #[ptrV g, .slice K m cK, .int .i64 flip] w (fun e w' => e = .returned (.tuple #[]) ∧ After w X g k (crashS s keep flip) w') := by
  have H := Lib.hid h
  have HK := Lib.hid hK
  have HKX := Lib.hid hKX
  have hm63 := hK.n63
  have HF := Lib.hid (And.intro hf1 hf2)
  clear h hK hKX hf1 hf2
  unfold ptrV
  go_enter Try.func16, Try.ntmps16
  go_wp2_with (go_at_call 45; refine (files_c _ H.out).mono ?_; rintro e w1 ⟨A1, n1, c1, rfl, hO1, hE1⟩)
  have HLN := Lib.hid hO1.1
  have h64 : n1 ≤ 64 := by rw [← hO1.1]; exact liveI_len _
  have HD := Lib.hid (H.out.e hE1)
  have HO1 := Lib.hid hO1
  have HXB := Lib.hid (show ∀ b, ob A1 = some b → ¬ X b from fun b hb hx => by have := (hO1.ltN b hb).1; have := H.out.xl b hx; omega)
  clear hO1
  go_loopw [16, 6] (fun t16 t6 wr => ∃ (i n : Nat) (s' : DS), t16 = .int .i64 i ∧ t6 = .int .i64 n ∧ i ≤ n1 ∧ Losing s keep i s' n ∧ After w1 X g k s' wr) (fun t16 _ _ => n1 - (intOf t16).toNat)
  case atStart => exact ⟨0, 0, s, rfl, rfl, Nat.zero_le _, Losing.zero _ _, HD.out.now⟩
  case round =>
    obtain ⟨i, n, s', rfl, rfl, hi, hL, hAf⟩ := hrel
    have HL := Lib.hid hL
    have HAF := Lib.hid hAf
    clear hL hAf
    by_cases hlt : i < n1
    · obtain ⟨X', ⟨mb', F', A', c', hD'⟩, hEX, hXX⟩ := HAF.out
      have hO := (HO1.out.ex hEX HXB.out)
      obtain ⟨r1, x, rfl, _, _, hx, hwx, hcx, _⟩ := hO.get hlt
      have hxm : x ∈ liveI s.b := List.mem_of_getElem? hx
      have hne : s'.b x ≠ [] := by rw [HL.out.same i x (Nat.le_refl _) hx]; exact (mem_liveI H.out.ok).1 hxm
      obtain ⟨p, hp⟩ : ∃ p, F' x = some p := by
        cases e : F' x with
        | none => exact absurd ((hD'.nn x).1 e) hne
        | some p => exact ⟨p, rfl⟩
      have hlk := hD'.hm.look mapTF hwx
      simp only [hp, Option.map_some, Option.getD_some, ptrV] at hlk
      obtain ⟨b0, b1, fb⟩ := hD'.box hp
      obtain ⟨_, _, d2, _, _⟩ := hD'.cells
      have hKr := (HK.out.ex (Ex.of_e hE1) HKX.out).ex hEX HKX.out
      have HX := Lib.hid hx
      have HP := Lib.hid hp
      have HDR := Lib.hid hD'
      have HKP := Lib.hid (keptF_le s' hD'.ok keep i x)
      have HEX := Lib.hid (And.intro hEX hXX)
      have HNE := Lib.hid hne
      have dlt : decide (i < n1) = true := by simpa using hlt
      have HLT := Lib.hid hlt
      clear hx hp hD' hxm hO hEX hXX hne
      have HSL := Lib.hid (And.intro (HDR.out.ok.firm x) (HDR.out.ok.len24 x))
      obtain ⟨kv, hkv⟩ : ∃ kv, keptF s' keep i x = kv := ⟨_, rfl⟩
      have HKV := Lib.hid hkv
      clear hkv
      go_upto_if 30 with fail
      go_cut [10] (fun t10 wx => t10 = .int .i64 kv ∧ E wr wx)
      case first =>
        by_cases hk : (i : Int) < (m : Int)
        · obtain ⟨kb, ko, y, rfl, hkb, hy, hwy, hcy⟩ := hKr.get (i := i) (by omega)
          have HKF := Lib.hid (keptF_some s' keep i x hy)
          have HY := Lib.hid (wf_i64 hwy)
          clear hy hwy
          go_wp2_with fail
          (refine wp_region_quiet_lit (by kernel_rfl) (by kernel_rfl) ?_; (repeat (first | ((with_reducible refine wpQuiet_step (fun K hK => ?_)); go_simp; (with_reducible refine hK _ ?_); clear hK K) | ((with_reducible refine wpQuiet_off (by kernel_rfl) (fun K hK => ?_)); go_simp; (with_reducible refine hK _ ?_); clear hK K))); (with_reducible refine wpQuiet_nil ?_); intro _ hw'; obtain ⟨nq, hw''⟩ := hw'; subst hw'')
          go_wp2_with fail
          go_meet
          refine ⟨?_, (E.refl wr).drewN nq⟩
          rw [← HKV.out, HKF.out, kept_val HSL.out.1 HSL.out.2]
        · have HKF := Lib.hid (keptF_none s' keep i x (by rw [hKr.len]; omega))
          go_wp2_with fail
          go_meet
          rw [← HKV.out, HKF.out]
          exact ⟨rfl, E.refl _⟩
      case rest =>
        obtain ⟨rfl, hE⟩ := hcut
        clear b0 b1 fb hlk d2 hcx hKr
        have HDX := Lib.hid (HDR.out.e hE)
        obtain ⟨b0, b1, fb⟩ := HDX.out.box HP.out
        obtain ⟨z, HZ, hz1, hz2⟩ := sum_nat (a := s'.firm x) (b := kv) (by have := HSL.out; omega) (by have h1 := HKP.out; have h2 := HSL.out; rw [HKV.out] at h1; omega)
        obtain ⟨n2, HN2, hn1, hn2⟩ := sum_nat (a := n) (b := kv) (by have := HL.out.top; have := HLT.out; omega) (by have h1 := HKP.out; have h2 := HSL.out; rw [HKV.out] at h1; omega)
        have HZL := Lib.hid (show z ≤ (s'.b x).length by rw [HZ.out, ← HKV.out]; exact HKP.out)
        go_wp2_with (go_at_call 46; refine (cut_c x z p _ HDX.out hwx HP.out HZL.out).mono ?_; rintro e w5 ⟨rfl, hA5⟩)
        have hLs := HL.out.step HDR.out.ok HX.out
        have hA6 : After w1 X g k (cutS s' x z) w5 := After.trans (HEX.out.1.trans (Ex.of_e (X := fun _ => False) hE) (fun _ _ h => h) (fun _ _ h => h.elim)) HEX.out.2 hA5
        rw [HKV.out, ← HZ.out, ← HN2.out] at hLs
        refine ⟨⟨i + 1, n2, _, by go_num, rfl, HLT.out, hLs, hA6⟩, ?_⟩
        have := HLT.out
        simp only [intOf]
        omega
    · have HI := Lib.hid (show i = n1 by omega)
      have dlt : decide (i < n1) = false := by simpa using hlt
      have HLO := Lib.hid (show loseF keep (liveI s.b) 0 (s, 0) = (s', n) by
        rw [← HL.out.eq, HI.out, ← HLN.out, List.drop_length]; rfl)
      have HNT := Lib.hid (top_int HL.out.top (show i ≤ 64 by omega))
      clear hlt
      obtain ⟨bb, hbb⟩ : ∃ bb, (decide (0 ≤ flip) && decide (0 < n)) = bb := ⟨_, rfl⟩
      have HBB := Lib.hid hbb
      clear hbb
      go_upto_region 11 with fail
      go_cut [65] (fun t65 wx => t65 = .bool bb ∧ wr = wx)
      case first =>
        have HNN := Lib.hid (show decide ((0 : Int) < (n : Int)) = decide (0 < n) by simp)
        by_cases hfl : 0 ≤ flip
        · have d1 : decide (0 ≤ flip) = true := by simpa using hfl
          go_wp2_with fail
          all_goals go_meet
          all_goals (refine ⟨?_, rfl⟩; rw [← HBB.out]; simp [hfl])
        · have d1 : decide (0 ≤ flip) = false := by simpa using hfl
          go_wp2_with fail
          all_goals go_meet
          all_goals (refine ⟨?_, rfl⟩; rw [← HBB.out, d1]; rfl)
      case rest =>
        obtain ⟨rfl, rfl⟩ := hcut
        obtain ⟨s2, hs2⟩ : ∃ s2, (if 0 ≤ flip ∧ 0 < n then invertF s' (liveI s'.b) (flip % (8 * n : Nat)).toNat else s') = s2 := ⟨_, rfl⟩
        have HS2 := Lib.hid hs2
        clear hs2
        go_upto_if 65 with fail
        go_cut [] (fun wx => After w1 X g k s2 wx)
        case first =>
          by_cases hc : 0 ≤ flip ∧ 0 < n
          · obtain rfl : bb = true := by rw [← HBB.out]; simp [hc]
            have HC := Lib.hid hc
            obtain ⟨v, q8, hv0, hv1, hv2, hv2', hv3, HV, hv4⟩ := flip_mod hc.1 hc.2 HNT.out
            obtain ⟨X', ⟨mb', F', A', c', hD'⟩, hEX, hXX⟩ := HAF.out
            have HDR := Lib.hid hD'
            have HEX := Lib.hid (And.intro hEX hXX)
            have hv5 : ¬ RowKit.wrap64 (8 * (n : Int)) = 0 := by rw [hv0]; intro e; rw [e] at hv2; cases hv2
            have hv6 : ¬ q8 = 0 := by intro e; rw [e] at hv2; cases hv2
            clear hc hD' hEX hXX
            go_wp2_with (go_at_call 47; refine (invert_c v _ HDR.out hv4).mono ?_; rintro e w5 ⟨rfl, hA5⟩)
            go_meet
            refine After.trans HEX.out.1 HEX.out.2 ?_
            rw [← HS2.out, if_pos HC.out, ← HV.out]
            exact hA5
          · obtain rfl : bb = false := by rw [← HBB.out]; simpa using hc
            have HC := Lib.hid hc
            clear hc
            go_wp2_with fail
            go_meet
            rw [← HS2.out, if_neg HC.out]
            exact HAF.out
        case rest =>
          have HCR := Lib.hid (show crashS s keep flip = calmS s2 by unfold crashS; rw [HLO.out, ← HS2.out])
          obtain ⟨X2, ⟨mb2, F2, A2, c2, hD2⟩, hEX2, hXX2⟩ := hcut
          obtain ⟨_, _, d2, _, _⟩ := hD2.cells
          have hM1 := hD2.hm
          go_wp2_with (at_range; refine wpList_rangeD hM1 mapTF rfl _ rfl rfl ?_; intro w2 cnt2 hR2 hG2 hz2 hc2)
          go_frame
          obtain ⟨r, hr⟩ : ∃ r, wc.heap.size = r := ⟨_, rfl⟩
          rw [hr] at hR2 ⊢
          have HD2 := Lib.hid (hD2.e ((E.refl wc).grown hG2 (fun j hj => by cases hj)))
          have hX2 : Ex X w1 w2 := hEX2.trans (Ex.of_e (X := fun _ => False) ((E.refl wc).grown hG2 (fun j hj => by cases hj))) (fun _ _ x => x) (fun _ _ x => x.elim)
          have HRZ := Lib.hid (show w1.heap.size ≤ r by rw [← hr]; exact hEX2.size)
          have HXR := Lib.hid (show ∀ j, X2 j → j < r from fun j hj => by rw [← hr]; exact hD2.xl j hj)
          have HXX := Lib.hid hXX2
          clear hM1 d2 hG2 hz2 hc2 hr hD2 hEX2 hXX2
          obtain ⟨w5, hw5⟩ : ∃ w5, w5 = wr := ⟨_, rfl⟩
          subst hw5
          go_loopw [12] (fun _ wr => ∃ (left : Int → Bool) (cnt : Nat), RngD wr mb2 r k (fun i => (F2 i).map ptrV) left cnt ∧ DiskM wr X2 g k (firmP s2 left) mb2 F2 A2 c2 ∧ Ex X w1 wr) (fun _ wr => wr.rangeLeft mb2 r)
          case atStart => exact ⟨_, cnt2, hR2, by rw [firmP_none HD2.out.ok (fun i hi => (HD2.out.nn i).1 (by simpa using hi))]; exact HD2.out, hX2⟩
          case round =>
            obtain ⟨left, cnt, hrg, hDr, hXr⟩ := hrel
            clear hR2 hX2
            go_wp2_with (first | (at_next; refine wpList_nextD rfl _ rfl r _ _ rfl hrg ?_ ?_) | fail)
            · intro hl0
              have hDf : DiskM wr X2 g k (firmS s2) mb2 F2 A2 c2 := by rw [← firmP_all hl0]; exact hDr
              have HDF := Lib.hid hDf
              have HXF := Lib.hid hXr
              have f3 := hDf.frz 3
              have f4 := hDf.frz 4
              obtain ⟨_, _, _, d3, d4⟩ := hDf.cells
              clear hl0 hDr hXr hrg hDf
              go_wp2_with fail
              go_end0
              have hG2 := grownBy_trans (grownBy_set wr g 3 (.bool false)) (grownBy_set (wr.setCell ⟨g, 3, none⟩ (.bool false)) g 4 (.int .i64 (-1)))
              have hD5 := HDF.out.head (s' := calmS s2) hG2 (by rw [heap_setCell_same _ _ _ _ _ _ (heap_setCell_same _ _ _ _ _ _ HDF.out.hd)]; rfl) rfl rfl (HD2.out.ok.calm)
              rw [HCR.out]
              refine ⟨rfl, X2, ⟨mb2, F2, A2, c2, hD5⟩, ?_, fun j hj => ?_⟩
              · refine (Ex.of_e (X := X) hE1).trans (HXF.out.trans (Z := fun j => X j ∨ w1.heap.size ≤ j) (Y := X2) (ex_of_grown hG2 HD2.out.xg) (fun _ _ h => .inl h) (fun j _ h => HXX.out j h)) (fun _ _ h => h) (fun j hj h => ?_)
                rcases h with h | h
                · exact h
                · exfalso
                  have := hE1.le
                  omega
              · rcases HXX.out j hj with h | h
                · exact .inl h
                · exact .inr (Nat.le_trans hE1.le h)
            · intro x v w3 cnt3 hwx hlx p hp hpv hrg3 hcl hg3 hz3 hen
              subst hpv
              have hD3 : DiskM w3 X2 g k (firmP s2 left) mb2 F2 A2 c2 := hDr.same (Nat.le_of_eq hz3.symm) (fun j hj => hg3.block j (hDr.xl j hj) (fun e => by have := HXR.out j hj; injection e with e; omega))
              have hX3 : Ex X w1 w3 := hXr.grown hg3 (fun j hj => by injection hj with hj; left; have := HRZ.out; omega)
              have hpx := HXR.out p (HD2.out.xb x p hp)
              have hpm := hD3.map_ne (hD3.bx x p hp)
              obtain ⟨b0, b1, fb⟩ := hD3.box hp
              have fb1 := fb 1
              have HM := Lib.hid (show cnt3 < wr.rangeLeft mb2 r by rw [hrg.left_eq]; exact hcl)
              have HD4 := Lib.hid (hD3.firm1 hp (s' := firmP s2 (fun y => left y && y != x)) rfl (firmP_step _ _ _) ⟨rfl, rfl, rfl⟩ ((hD3.ok.firmP (fun y => left y && y != x)) |> fun o => ⟨o.out, (HD2.out.ok.firmP _).firm, o.room, o.used, o.plan⟩))
              have HX4 := Lib.hid (hX3.setCell ⟨p, 1, none⟩ ((HXX.out p (HD2.out.xb x p hp)).symm) (.int .i64 (((firmP s2 left).b x).length : Nat)))
              have HR4 := Lib.hid (hrg3.blocks (w' := w3.setCell ⟨p, 1, none⟩ (.int .i64 (((firmP s2 left).b x).length : Nat))) (Below.heap_setCell _ _ _ _ hpm) (Below.heap_setCell _ _ _ _ (show r ≠ p by omega)))
              unfold ptrV at hen
              clear hrg hDr hXr hcl hg3 hz3 hrg3 fb hD3 hX3
              go_wp2_with fail
              exact ⟨⟨_, cnt3, HR4.out, HD4.out, HX4.out⟩, by rw [HR4.out.left_eq]; exact HM.out⟩
end
end Go.Proofs.Ythcicfolabngcaa
/- The files of a disk that is being copied. -/
namespace Go.Proofs.Ythcicfolabngcaa
open Go.RowKit

/-- the files alone, without the disk's own block -/
structure FilesM (w : World) (X : Nat → Prop) (k : Nat) (s : DS) (mb : Nat) (F : Int → Option Nat) (A : Int → Option Addr) (c : Int → Nat) : Prop where
  hm : MapD w mb k (fun i => (F i).map ptrV)
  bx : ∀ i p, F i = some p → w.heap[p]? = some (boxV (A i) (s.b i).length (c i) (s.firm i))
  row : ∀ i p, F i = some p → Own .u8 5 w 0 (A i) (s.b i).length (c i) (s.b i)
  nn : ∀ i, F i = none ↔ s.b i = []
  inj : ∀ i j p, F i = some p → F j = some p → i = j
  ap : ∀ i j p q, i ≠ j → F i = some p → F j = some q → apartS (A i) (A j)
  xm : X mb
  xb : ∀ i p, F i = some p → X p
  xr : ∀ i p, F i = some p → ∀ b, ob (A i) = some b → X b
  xl : ∀ i, X i → i < w.heap.size
theorem Own.low {k : IntKind} {T : TypeId} {w : World} {b : Nat} {A : Option Addr} {n c : Nat} {l : List Int} (h : Own k T w b A n c l) : Own k T w 0 A n c l := by
  obtain ⟨h1, ⟨a1, a2⟩, h3⟩ := h
  refine ⟨h1, ⟨a1, ?_⟩, h3⟩
  rcases a2 with a2 | ⟨g', cap, cur, hv, hbg, r⟩
  · exact .inl a2
  · exact .inr ⟨g', cap, cur, hv, Nat.zero_le _, r⟩
theorem Own.lowTo {k : IntKind} {T : TypeId} {w : World} {b b' : Nat} {A : Option Addr} {n c : Nat} {l : List Int} (h : Own k T w b A n c l) (hb : b' ≤ b) : Own k T w b' A n c l := by
  obtain ⟨h1, ⟨a1, a2⟩, h3⟩ := h
  refine ⟨h1, ⟨a1, ?_⟩, h3⟩
  rcases a2 with a2 | ⟨g', cap, cur, hv, hbg, r⟩
  · exact .inl a2
  · exact .inr ⟨g', cap, cur, hv, Nat.le_trans hb hbg, r⟩
theorem MapD.cell {w : World} {b n : Nat} {f : Int → Option Value} (h : MapD w b n f) (o : Nat) : w.cell? ⟨b, o, none⟩ = none := by
  obtain ⟨D, ⟨es, clock, h1, _⟩, _⟩ := h
  simp [World.cell?, h1]
/-- a store into a map leaves all cells -/
theorem keepM {N : Nat} {w0 w1 w2 : World} {b n n' : Nat} {f f' : Int → Option Value} (h : N ≤ w1.heap.size ∧ ∀ b o, b < N → w1.cell? ⟨b, o, none⟩ = w0.cell? ⟨b, o, none⟩) (h1 : MapD w1 b n f) (h2 : MapD w2 b n' f') (hG : w1.grownBy w2 (some b)) :
    N ≤ w2.heap.size ∧ ∀ b o, b < N → w2.cell? ⟨b, o, none⟩ = w0.cell? ⟨b, o, none⟩ :=
  ⟨Nat.le_trans h.1 hG.size, fun q o hq => by
    rw [← h.2 q o hq]
    by_cases e : q = b
    · rw [e, h1.cell, h2.cell]
    · exact World.cell?_of_block (a := ⟨q, o, none⟩) (hG.block q (Nat.lt_of_lt_of_le hq h.1) (fun e' => e (by injection e')))⟩
section
variable {w w' : World} {X : Nat → Prop} {g k mb : Nat} {s s' : DS} {F : Int → Option Nat} {A : Int → Option Addr} {c : Int → Nat}
theorem FilesM.disk (h : FilesM w X k s mb F A c) (hg : w.heap[g]? = some (headV s mb)) (xg : X g) (ok : DOk s) : DiskM w X g k s mb F A c :=
  ⟨hg, h.hm, h.bx, h.row, h.nn, h.inj, h.ap, xg, h.xm, h.xb, h.xr, h.xl, ok⟩
theorem FilesM.same (h : FilesM w X k s mb F A c) (hz : w.heap.size ≤ w'.heap.size) (hb : ∀ i, X i → w'.heap[i]? = w.heap[i]?) : FilesM w' X k s mb F A c :=
  ⟨h.hm.block (hb mb h.xm), fun i p hp => (hb p (h.xb i p hp)).trans (h.bx i p hp), fun i p hp => (h.row i p hp).same fun b hb' => hb b (h.xr i p hp b hb'), h.nn, h.inj, h.ap, h.xm, h.xb, h.xr, fun i hi => Nat.lt_of_lt_of_le (h.xl i hi) hz⟩
theorem FilesM.wide (h : FilesM w X k s mb F A c) {Y : Nat → Prop} (hY : ∀ i, X i → Y i) (hl : ∀ i, Y i → i < w.heap.size) : FilesM w Y k s mb F A c :=
  ⟨h.hm, h.bx, h.row, h.nn, h.inj, h.ap, hY _ h.xm, fun i p hp => hY _ (h.xb i p hp), fun i p hp b hb => hY _ (h.xr i p hp b hb), hl⟩
/-- a new file has come in -/
theorem FilesM.add (h : FilesM w X k s mb F A c) {k' : Nat} {x : Int} {p : Nat} {A1 : Option Addr} {c1 : Nat} (hz : w.heap.size ≤ w'.heap.size) (hm : MapD w' mb k' (fun y => if y = x then some (ptrV p) else (F y).map ptrV))
    (hb : w'.heap[p]? = some (boxV A1 (s'.b x).length c1 (s'.firm x))) (hr : Own .u8 5 w' w.heap.size A1 (s'.b x).length c1 (s'.b x)) (hp : w.heap.size ≤ p) (hne : s'.b x ≠ [])
    (hs : ∀ j, j ≠ x → s'.b j = s.b j ∧ s'.firm j = s.firm j) (hk : ∀ j, X j → j ≠ mb → w'.heap[j]? = w.heap[j]?) :
    FilesM w' (fun j => X j ∨ w.heap.size ≤ j ∧ j < w'.heap.size) k' s' mb (upd F x (some p)) (upd A x A1) (upd c x c1) := by
  have hmn : ∀ {q : Nat} {cs : Array Value} {T : TypeId}, w.heap[q]? = some (.cells cs T (0, 0)) → mb ≠ q := fun hq e => by
    obtain ⟨D, ⟨es, clock, h1, _⟩, _⟩ := h.hm
    rw [e, hq] at h1
    injection h1 with h1
    cases h1
  have hrm : ∀ i q, F i = some q → ob (A i) ≠ some mb := fun i q hq => (h.row i q hq).neqm h.hm
  have hlt := lt_blk hb
  have hA : ∀ b, ob A1 = some b → w.heap.size ≤ b ∧ b < w'.heap.size := fun b hb' => hr.ltN b hb'
  refine ⟨hm.ext fun y => ?_, fun j q hq => ?_, fun j q hq => ?_, fun j => ?_, fun a b q ha hb' => ?_, fun a b q q2 hab ha hb' => ?_, .inl h.xm, fun j q hq => ?_, fun j q hq b hb' => ?_, fun j hj => ?_⟩
  · by_cases e : y = x
    · rw [if_pos e, e, upd_same]; rfl
    · rw [if_neg e, upd_other _ _ e]
  · by_cases e : j = x
    · subst e; rw [upd_same] at hq ⊢; rw [upd_same]; injection hq with hq; subst hq; exact hb
    · rw [upd_other _ _ e] at hq ⊢; rw [upd_other _ _ e, (hs j e).1, (hs j e).2, hk q (h.xb j q hq) (fun e' => hmn (h.bx j q hq) e'.symm)]; exact h.bx j q hq
  · by_cases e : j = x
    · subst e; rw [upd_same, upd_same]; exact hr.low
    · rw [upd_other _ _ e] at hq ⊢; rw [upd_other _ _ e, (hs j e).1]; exact (h.row j q hq).same fun b hb' => hk b (h.xr j q hq b hb') (fun e' => hrm j q hq (e' ▸ hb'))
  · by_cases e : j = x
    · subst e; rw [upd_same]; exact ⟨fun e' => (by cases e'), fun e' => absurd e' hne⟩
    · rw [upd_other _ _ e, (hs j e).1]; exact h.nn j
  · by_cases ea : a = x
    · by_cases eb : b = x
      · rw [ea, eb]
      · rw [ea, upd_same] at ha
        rw [upd_other _ _ eb] at hb'
        injection ha with ha
        have := h.xl _ (h.xb b q hb'); omega
    · rw [upd_other _ _ ea] at ha
      by_cases eb : b = x
      · rw [eb, upd_same] at hb'
        injection hb' with hb'
        have := h.xl _ (h.xb a q ha); omega
      · rw [upd_other _ _ eb] at hb'; exact h.inj a b q ha hb'
  · have far : ∀ j q, F j = some q → apartS A1 (A j) := fun j q hq t ht ht' => by
      have := (hA t ht).1; have := h.xl _ (h.xr j q hq t ht'); omega
    by_cases ea : a = x
    · have eb : b ≠ x := fun e => hab (ea.trans e.symm)
      rw [ea, upd_same, upd_other _ _ eb]
      rw [upd_other _ _ eb] at hb'
      exact far b _ hb'
    · rw [upd_other _ _ ea] at ha
      by_cases eb : b = x
      · rw [eb, upd_same, upd_other _ _ ea]; exact (far a _ ha).symm
      · rw [upd_other _ _ eb] at hb'; rw [upd_other _ _ ea, upd_other _ _ eb]; exact h.ap a b q q2 hab ha hb'
  · by_cases e : j = x
    · subst e; rw [upd_same] at hq; injection hq with hq; exact .inr ⟨by omega, by omega⟩
    · rw [upd_other _ _ e] at hq; exact .inl (h.xb j q hq)
  · by_cases e : j = x
    · subst e; rw [upd_same] at hb'; exact .inr (hA b hb')
    · rw [upd_other _ _ e] at hq hb'; exact .inl (h.xr j q hq b hb')
  · rcases hj with hj | hj
    · exact Nat.lt_of_lt_of_le (h.xl j hj) hz
    · exact hj.2
end
/-- the files that are left are not there yet -/
def partS (s : DS) (left : Int → Bool) : DS := { s with b := fun i => if left i = true then [] else s.b i, firm := fun i => if left i = true then 0 else s.firm i }
theorem partS_all {s : DS} {left : Int → Bool} (h : ∀ i, left i = false) : partS s left = s := by
  unfold partS
  have e1 : (fun i => if left i = true then [] else s.b i) = s.b := by funext i; rw [h i]; rfl
  have e2 : (fun i => if left i = true then 0 else s.firm i) = s.firm := by funext i; rw [h i]; rfl
  rw [e1, e2]
theorem partS_at (s : DS) (left : Int → Bool) (x : Int) : (partS s fun y => left y && y != x).b x = s.b x ∧ (partS s fun y => left y && y != x).firm x = s.firm x := by simp [partS]
theorem partS_other (s : DS) (left : Int → Bool) {x j : Int} (h : j ≠ x) : (partS s fun y => left y && y != x).b j = (partS s left).b j ∧ (partS s fun y => left y && y != x).firm j = (partS s left).firm j := by simp [partS, h]
theorem run_makeMap_hint {P : Program} {mt kt vt : TypeId} (hu : P.underlying mt = some (.map kt vt)) (w : World) (x : Int) : (Instr.makeMap mt (some (.int .i64 x))).run P w = .ok (.map (some w.heap.size)) (w.alloc (.map #[] 0)) := by
  simp [Instr.makeMap, run_underlying hu, asInt, asIntOf, Result.andThen]
theorem wpList_lenD {ops : Array Oper} {rest : List Oper} {o : Oper} {a : Act} {Q : Exit → Act → World → Prop} {w : World} {b n : Nat} {f : Int → Option Value} {mt vt : TypeId} {z : Value} (h : MapD w b n f) (T : MapT' mt vt z) (hg : o.guard = none) (m : Operand)
    (hop : o.op = Op.call { callee := Callee.builtin Builtin.len, args := #[m], argTypes := #[mt] }) (hm : a.eval m = .map (some b)) (hK : ∀ x : Nat, wpList Try.prog ops Q rest (a.put o.dst (.int .i64 (x : Int))) w) :
    wpList Try.prog ops Q (o :: rest) a w := by
  obtain ⟨D, h1, _⟩ := h
  exact wpList_len_own w hg m mt hop 3 vt T.und _ b n D hm h1 (hK _)
end Go.Proofs.Ythcicfolabngcaa
/- Copy. -/
namespace Go.Proofs.Ythcicfolabngcaa
open Go.RowKit

/-- what Copy hands back: another disk in the same state, of new blocks -/
def RetCopy (w : World) (k : Nat) (s : DS) (e : Ending) (w' : World) : Prop := E w w' ∧ ∃ g X, e = .returned (ptrV g) ∧ DiskAt w' X g k s ∧ ∀ i, X i → w.heap.size ≤ i
section
variable {X : Nat → Prop} {g k mb : Nat} {s : DS} {F : Int → Option Nat} {A : Int → Option Addr} {c : Int → Nat}
set_option maxHeartbeats 4000000 in
set_option maxRecDepth 100000 in
theorem copy_c (w : World) (h : DiskM w X g k s mb F A c) (hk : k < 1000000) :
    Calls Try.prog 25 #[ptrV g] w (RetCopy w k s) := by
  obtain ⟨c0, c1, c2, c3, c4⟩ := h.cells
  have hmk := fun w x => run_makeMap_hint (P := Try.prog) mapTF.und w x
  have H := Lib.hid h
  clear h
  unfold ptrV
  go_enter Try.func25, Try.ntmps25
  go_upto_region 2 with fail
  obtain ⟨w1, hw1⟩ : ∃ w1, w.alloc (.cells #[.int .i64 s.room, .int .i64 (usedF s.b : Nat), .map (some mb), .bool s.off, .int .i64 s.plan] 79) = w1 := ⟨_, rfl⟩
  have hE1 : E w w1 := by rw [← hw1]; exact (E.refl w).alloc _
  have hg1 : w1.heap[w.heap.size]? = some (headV s mb) := by rw [← hw1]; exact heap_alloc_new w _
  have hz1 : w1.heap.size = w.heap.size + 1 := by rw [← hw1]; simp
  rw [hw1]
  clear hw1
  obtain ⟨g2, hg2⟩ : ∃ g2, w.heap.size = g2 := ⟨_, rfl⟩
  rw [hg2] at hg1 hz1 ⊢
  have HG2 := Lib.hid hg2
  clear hg2 c0 c1 c2 c3 c4
  have HD1 := Lib.hid (H.out.e hE1)
  obtain ⟨_, _, c2, _, _⟩ := HD1.out.cells
  have hM1 := HD1.out.hm
  have ha1 : (w1.alloc (.map #[] 0)).heap[g2]? = some (headV s mb) := (((E.refl w1).alloc _).block (by omega)).trans hg1
  have n2 : (w1.alloc (.map #[] 0)).cell? ⟨g2, 2, none⟩ = some (.map (some mb)) := cell_of_row _ _ _ _ _ _ ha1
  have nf : (w1.alloc (.map #[] 0)).frozen? ⟨g2, 2, none⟩ = false := frozen_of_row _ _ _ _ _ ha1
  have HA1 := Lib.hid ha1
  clear ha1
  have HZ1 := Lib.hid hz1
  have HG1 := Lib.hid hg1
  have HE1 := Lib.hid hE1
  clear hz1 hg1 hE1
  go_upto_region 3 with (at_len; refine wpList_lenD hM1 mapTF rfl _ rfl rfl ?_; intro lm)
  obtain ⟨mb2, hmb2⟩ : ∃ mb2, w1.heap.size = mb2 := ⟨_, rfl⟩
  rw [hmb2]
  obtain ⟨w2, hw2⟩ : ∃ w2, (w1.alloc (.map #[] 0)).setCell ⟨g2, 2, none⟩ (.map (some mb2)) = w2 := ⟨_, rfl⟩
  rw [hw2]
  have HW2 := Lib.hid hw2
  clear hw2
  have hs2 : w2.heap.size = w1.heap.size + 1 := by rw [← HW2.out]; simp [World.setCell]
  have hg2 : w2.heap[g2]? = some (headV s mb2) := by rw [← HW2.out, heap_setCell_same _ _ _ _ _ _ HA1.out]; rfl
  have hmn : MapD w2 mb2 0 (fun _ => none) := by
    rw [← HW2.out, ← hmb2]
    exact (MapD.made w1).block (Below.heap_setCell _ _ _ _ (show w1.heap.size ≠ g2 by have := HZ1.out; omega))
  have hE2 : E w w2 := by
    rw [← HW2.out]
    exact (HE1.out.alloc _).setCell (Nat.le_of_eq HG2.out) _
  have HFM := Lib.hid (show FilesM w2 (fun j => j = mb2) 0 (partS s (fun i => ((F i).map ptrV).isSome)) mb2 (fun _ => none) (fun _ => none) (fun _ => 0) from
    ⟨hmn, fun _ _ h => (by cases h), fun _ _ h => (by cases h), fun i => ⟨fun _ => (by
      simp only [partS]
      by_cases e : ((F i).map ptrV).isSome = true
      · exact if_pos e
      · rw [if_neg e]
        refine (H.out.nn i).1 ?_
        cases h : F i with
        | none => rfl
        | some p => rw [h] at e; simp at e), fun _ => rfl⟩, fun _ _ _ h => (by cases h), fun _ _ _ _ _ h => (by cases h), rfl, fun _ _ h => (by cases h), fun _ _ h => (by cases h), fun i hi => by rw [hi, hs2]; omega⟩)
  have HD2 := Lib.hid (H.out.e hE2)
  obtain ⟨_, _, c2, _, _⟩ := HD2.out.cells
  have hM2 := HD2.out.hm
  have HG3 := Lib.hid hg2
  have HE2 := Lib.hid hE2
  have HMB := Lib.hid (show w.heap.size ≤ mb2 by rw [← hmb2]; exact HE1.out.le)
  clear hM1 n2 nf hs2 hg2 hmn hE2 hmb2 hmk
  go_wp2_with (at_range; refine wpList_rangeD hM2 mapTF rfl _ rfl rfl ?_; intro w3 cnt3 hR3 hG3 hz3 hc3)
  go_frame
  obtain ⟨r, hr⟩ : ∃ r, w2.heap.size = r := ⟨_, rfl⟩
  rw [hr] at hR3 ⊢
  have hE23 : E w2 w3 := (E.refl w2).grown hG3 (fun j hj => by cases hj)
  have HRW := Lib.hid (show w.heap.size ≤ r by rw [← hr]; exact HE2.out.le)
  have HF3 := Lib.hid (HFM.out.same (w' := w3) hE23.le (fun j hj => hE23.block (HFM.out.xl j hj)))
  have HG4 := Lib.hid (show w3.heap[g2]? = some (headV s mb2) from (hE23.block (lt_blk HG3.out)).trans HG3.out)
  have HE3 := Lib.hid (HE2.out.trans hE23)
  have HX0 := Lib.hid (show ∀ j, j = mb2 → w.heap.size ≤ j ∧ j ≠ r ∧ j ≠ g2 from fun j hj => by
    rw [hj]
    refine ⟨HMB.out, ?_, fun e => ?_⟩
    · have := HFM.out.xl mb2 rfl; omega
    · have := HFM.out.hm
      rw [e] at this
      obtain ⟨D, ⟨es, clock, h1, _⟩, _⟩ := this
      rw [HG3.out] at h1
      cases h1)
  have HGR := Lib.hid (show g2 ≠ r by have := lt_blk HG3.out; omega)
  have HC3 := Lib.hid hc3
  clear hM2 c2 hG3 hz3 hr hE23 hc3
  go_loopw [4] (fun _ wr => ∃ (left : Int → Bool) (cnt k2 : Nat) (X2 : Nat → Prop) (F2 : Int → Option Nat) (A2 : Int → Option Addr) (c2 : Int → Nat), RngD wr mb r k (fun i => (F i).map ptrV) left cnt ∧ FilesM wr X2 k2 (partS s left) mb2 F2 A2 c2 ∧ wr.heap[g2]? = some (headV s mb2) ∧ E w wr ∧ k2 + cnt ≤ k ∧ (∀ j, X2 j → w.heap.size ≤ j ∧ j ≠ r ∧ j ≠ g2) ∧ ∀ i, left i = true → s.b i ≠ []) (fun _ wr => wr.rangeLeft mb r)
  case atStart => exact ⟨_, cnt3, 0, _, _, _, _, hR3, HF3.out, HG4.out, HE3.out, by have := HC3.out; omega, HX0.out, fun i hi e => by rw [(H.out.nn i).2 e] at hi; cases hi⟩
  case round =>
    obtain ⟨left, cnt, k2, X2, F2, A2, c2, hrg, hFr, hgr, hEr, hkc, hX2, hlf⟩ := hrel
    clear hR3
    go_wp2_with (first | (at_next; refine wpList_nextD rfl _ rfl r _ _ rfl hrg ?_ ?_) | fail)
    · intro hl0
      have HFR := Lib.hid hFr
      have HGR2 := Lib.hid hgr
      have HX2 := Lib.hid hX2
      have HRG := Lib.hid hl0
      have HEE := Lib.hid hEr
      have HKC := Lib.hid hkc
      clear hl0 hFr hrg hgr hX2 hEr hkc hlf
      go_wp2_with fail
      go_ret
      have hF := HFR.out
      rw [partS_all HRG.out] at hF
      refine ⟨HEE.out, g2, fun j => X2 j ∨ j = g2, rfl, ⟨mb2, F2, A2, c2, ((hF.wide (Y := fun j => X2 j ∨ j = g2) (fun _ h => .inl h) (fun j hj => ?_)).disk HGR2.out (.inr rfl) H.out.ok).mono (by have := HKC.out; omega)⟩, fun j hj => ?_⟩
      · rcases hj with hj | hj
        · exact hF.xl j hj
        · rw [hj]; exact lt_blk HGR2.out
      · rcases hj with hj | hj
        · exact (HX2.out j hj).1
        · rw [hj, HG2.out]; exact Nat.le_refl _
    · intro x v w4 cnt4 hwx hlx p hp hpv hrg4 hcl hg4 hz4 hen
      subst hpv
      have hE4 : E w w4 := hEr.grown hg4 (fun j hj => by injection hj with hj; have := HRW.out; omega)
      have hF4 : FilesM w4 X2 k2 (partS s left) mb2 F2 A2 c2 := hFr.same (Nat.le_of_eq hz4.symm) (fun j hj => hg4.block j (hFr.xl j hj) (fun e => (hX2 j hj).2.1 (by injection e)))
      have hgr4 : w4.heap[g2]? = some (headV s mb2) := (hg4.block g2 (lt_blk hgr) (fun e => HGR.out (by injection e))).trans hgr
      have hD4 := H.out.e hE4
      obtain ⟨b0, b1, fb⟩ := hD4.box hp
      have n2 : w4.cell? ⟨g2, 2, none⟩ = some (.map (some mb2)) := cell_of_row _ _ _ _ _ _ hgr4
      have HROW := Lib.hid (hD4.row x p hp)
      have hpl := hD4.xl p (hD4.xb x p hp)
      have hgl := lt_blk hgr4
      have HM := Lib.hid (show cnt4 < wr.rangeLeft mb r by rw [hrg.left_eq]; exact hcl)
      have HKC := Lib.hid (show k2 + 1 + cnt4 ≤ k by omega)
      have HF4 := Lib.hid hF4
      have HG4' := Lib.hid hgr4
      have HE4 := Lib.hid hE4
      have HRG4 := Lib.hid hrg4
      have HX2 := Lib.hid hX2
      have HLX := Lib.hid (hlf x hlx)
      have HLF := Lib.hid hlf
      have HL24 := Lib.hid (H.out.ok.len24 x)
      have HP := Lib.hid hp
      unfold ptrV at hen
      clear hrg hFr hgr hEr hkc hX2 hlf hrg4 hcl hg4 hz4 hE4 hF4 hgr4 hD4 fb hp hlx
      go_upto_region 6 with fail
      have hEa := (E.refl w4).drew
      go_region_held3 (fun w' => w4.heap.size ≤ w'.heap.size ∧ ∀ b o, b < w4.heap.size → w'.cell? ⟨b, o, none⟩ = w4.cell? ⟨b, o, none⟩) (first | exact keepE hEa | exact keepE (hEa.alloc _) | exact hS5)
        (first | (go_at_call 48; refine (cloneB_c _ _ _ _ _ (HROW.out.e hEa).reads (by have := HL24.out; omega)).mono ?_; rintro e wn ⟨A6, n6, c6, rfl, hO6, hEn⟩; have hSZ := hEa.le; replace hEa := hEa.trans hEn; have hmA : MapD (wn.alloc (boxV A6 n6 c6 (s.firm x))) mb2 k2 _ := (HF4.out.hm.e hEa).e ((E.refl wn).alloc _); obtain ⟨w5, hup, hM5, hG5⟩ := hmA.put mapTF (ptrV wn.heap.size) hwx (by have := HKC.out; unfold maxLen; omega); have hup' : (Instr.mapUpdate 77 (.map (some mb2)) (.int .i64 x) (.pointer (some ⟨wn.heap.size, 0, none⟩))).run Try.prog (wn.alloc (.cells #[.slice A6 n6 c6, .int .i64 (s.firm x : Nat)] 83)) = .ok () w5 := hup; have hS5 := keepM (keepE (hEa.alloc _)) hmA hM5 hG5))
      rename_i hHeld
      clear hHeld hup' hup
      have hdz : w4.heap.size ≤ wn.heap.size := hEa.le
      have hn6 : n6 = (s.b x).length := hO6.1.symm
      have hz5 := hG5.size
      have hzA : (wn.alloc (boxV A6 n6 c6 (s.firm x))).heap.size = wn.heap.size + 1 := by simp
      have hmn : wn.heap.size ≠ mb2 := fun e => by have := hEa.le; have := HF4.out.xl mb2 HF4.out.xm; omega
      have hb5 : w5.heap[wn.heap.size]? = some (boxV A6 n6 c6 (s.firm x)) := (hG5.block wn.heap.size (by omega) (fun e => hmn (by injection e))).trans (heap_alloc_new wn _)
      have hr5 : Own .u8 5 w5 w4.heap.size A6 n6 c6 (s.b x) := by
        have h1 := hO6.lowTo hSZ
        have h2 := h1.e ((E.refl wn).alloc (boxV A6 n6 c6 (s.firm x)))
        refine h2.same fun b hb => hG5.block b (h2.ltN b hb).2 (fun e => ?_)
        exact h2.neqm hmA (by rw [hb]; injection e with e; rw [e])
      subst hn6
      have hpt := partS_at s left x
      have hF5 := HF4.out.add (w' := w5) (k' := k2 + 1) (s' := partS s fun y => left y && y != x) (x := x) (p := wn.heap.size) (A1 := A6) (c1 := c6) (by omega) hM5 (by rw [hpt.1, hpt.2]; exact hb5) (by rw [hpt.1]; exact hr5) hdz (by rw [hpt.1]; exact HLX.out) (fun j hj => partS_other s left hj) (fun j hj e => by
        have := HF4.out.xl j hj
        rw [hG5.block j (by omega) (fun e' => e (by injection e'))]
        exact (hEa.alloc (boxV A6 (s.b x).length c6 (s.firm x))).block this)
      have hE45 : Ex (fun j => j = mb2) w4 w5 := ⟨hG5.os.trans (hEa.alloc _).os, hG5.tape.trans (hEa.alloc _).tape, hG5.output.trans (hEa.alloc _).output, by omega, fun j hj e => by
        rw [hG5.block j (by omega) (fun e' => e (by injection e'))]
        exact (hEa.alloc (boxV A6 (s.b x).length c6 (s.firm x))).block hj⟩
      have hE5 : E w w5 := (Ex.trans (Z := fun j => j = mb2) (Ex.of_e (X := fun _ => False) HE4.out) hE45 (fun _ _ h => h.elim) (fun _ _ h => h)).e (fun j hj => by rw [hj]; exact HMB.out)
      have hrm : mb ≠ mb2 := fun e => by have := H.out.xl mb H.out.xm; have := HMB.out; omega
      have hrr : r ≠ mb2 := fun e => (HX2.out mb2 HF4.out.xm).2.1 e.symm
      have hR5 := HRG4.out.blocks (w' := w5) (hE45.block mb (HRG4.out.map.lt) hrm) (hE45.block r HRG4.out.lt hrr)
      have hg5 : w5.heap[g2]? = some (headV s mb2) := (hE45.block g2 hgl (fun e => (HX2.out mb2 HF4.out.xm).2.2 e.symm)).trans HG4'.out
      have HREL := Lib.hid (show (∃ (left : Int → Bool) (cnt k2 : Nat) (X2 : Nat → Prop) (F2 : Int → Option Nat) (A2 : Int → Option Addr) (c2 : Int → Nat), RngD w5 mb r k (fun i => (F i).map ptrV) left cnt ∧ FilesM w5 X2 k2 (partS s left) mb2 F2 A2 c2 ∧ w5.heap[g2]? = some (headV s mb2) ∧ E w w5 ∧ k2 + cnt ≤ k ∧ (∀ j, X2 j → w.heap.size ≤ j ∧ j ≠ r ∧ j ≠ g2) ∧ ∀ i, left i = true → s.b i ≠ []) ∧ w5.rangeLeft mb r < wr.rangeLeft mb r from
        ⟨⟨_, cnt4, k2 + 1, _, _, _, _, hR5, hF5, hg5, hE5, HKC.out, fun j hj => by
          rcases hj with hj | hj
          · exact HX2.out j hj
          · have := HE4.out.le; have := HRG4.out.lt; exact ⟨by omega, by omega, by omega⟩, fun i hi => HLF.out i (by revert hi; cases left i <;> simp)⟩, by rw [hR5.left_eq]; exact HM.out⟩)
      go_wp2_with fail
      exact HREL.out
end
end Go.Proofs.Ythcicfolabngcaa
/- Small functions of the model 01 at the disk seat: Around, SameInts, SameBytes, Few (turned from KJ, KTa). -/
namespace Go.Proofs.Ythcicfolabngcaa
open Go.RowKit

theorem neI_k {a b : Nat} (h : ¬ a = b) : ((a : Int) != (b : Int)) = true := by simp; omega
def aroN (a m : Int) : Int := (if a < 0 then -(a + 1) else a) % m
theorem aroN_range (a : Int) {m : Int} (hm : 0 < m) : 0 ≤ aroN a m ∧ aroN a m < m := ⟨Int.emod_nonneg _ (by omega), Int.emod_lt_of_pos _ hm⟩
set_option maxHeartbeats 400000 in
theorem around1_c (a m : Int) (w : World) (h1 : -9223372036854775808 ≤ a) (h2 : a ≤ 9223372036854775807) (hm : 0 < m) (hm2 : m ≤ 9223372036854775807) :
    Calls Try.prog 12 #[.int .i64 a, .int .i64 m] w fun e w' => e = .returned (.int .i64 (aroN a m)) ∧ w = w' := by
  have hz : (m == 0) = false := by simp; omega
  have hz1 : (m == -1) = false := by simp; omega
  by_cases h : a < 0
  · have HF := Lib.hid (show (-(a + 1)).tmod m = aroN a m by rw [aroN, if_pos h, Int.tmod_eq_emod_of_nonneg (by omega)])
    go_enter Try.func12, Try.ntmps12
    go_wp2
    go_ret
    exact ⟨ret_int (by rw [← HF.out, Int.neg_tmod]), rfl⟩
  · have HF := Lib.hid (show a % m = aroN a m by rw [aroN, if_neg h])
    go_enter Try.func12, Try.ntmps12
    go_wp2
    go_ret
    exact ⟨ret_int HF.out, rfl⟩

def pickV (l : List Int) (i : Nat) (m : Int) : Int := match l[i]? with | some x => aroN x m | none => 0
theorem pickV_range (l : List Int) (i : Nat) {m : Int} (hm : 0 < m) : 0 ≤ pickV l i m ∧ pickV l i m < m := by
  unfold pickV
  split
  · exact aroN_range _ hm
  · exact ⟨Int.le_refl _, hm⟩
set_option maxHeartbeats 400000 in
theorem sameInts_c (A1 A2 : Option Addr) (n1 c1 n2 c2 : Nat) (l1 l2 : List Int) (w : World) (h1 : Nums .i64 w A1 n1 c1 l1) (h2 : Nums .i64 w A2 n2 c2 l2) :
    Calls Try.prog 41 #[.slice A1 n1 c1, .slice A2 n2 c2] w fun e w' => e = .returned (.bool (sameB l1 l2)) ∧ ∃ m, w' = w.drewN m := by
  have m1 := h1.n63
  have m2 := h2.n63
  by_cases hn : n1 = n2
  · subst hn
    go_enter Try.func41, Try.ntmps41
    go_wp2
    go_loopw [5] (fun i wr => ∃ k : Nat, k ≤ n1 ∧ i = .int .i64 k ∧ Q w wr ∧ Hid (sameB (l1.drop k) (l2.drop k) = sameB l1 l2)) (fun i _ => n1 - (intOf i).toNat)
    case atStart => exact ⟨0, Nat.zero_le _, rfl, Q.refl _, rfl⟩
    case round =>
      obtain ⟨k, hk, rfl, hq, hs⟩ := hrel
      by_cases hlt : k < n1
      · obtain ⟨b1, o1, x, rfl, hb1, hx, hwx, hc1⟩ := (h1.q hq).get hlt
        obtain ⟨b2, o2, y, rfl, hb2, hy, hwy, hc2⟩ := (h2.q hq).get hlt
        have HX := Lib.hid (drop_at hx)
        have HY := Lib.hid (drop_at hy)
        clear hx hy hwx hwy
        by_cases he : x = y
        · have hd : (x != y) = false := by simp [he]
          have HE := Lib.hid he
          clear he
          go_wp2
          go_quiet (fail)
          go_wp2
          go_roundw
          case rel => exact ⟨k + 1, by omega, by go_num, hq.drewN _, show _ = _ by rw [← hs.out, HX.out, HY.out, HE.out]; simp [sameB]⟩
          case measure => simp [intOf]; omega
        · have hd : (x != y) = true := by simpa using he
          go_wp2
          go_quiet (fail)
          go_wp2
          go_ret
          exact ⟨ret_bool (by rw [← hs.out, HX.out, HY.out]; simp [sameB, he]), hq.drewN _⟩
      · have HF := Lib.hid (show sameB l1 l2 = true by rw [← hs.out, drop_end h1.len (by omega), drop_end h2.len (by omega)]; rfl)
        go_wp2
        go_ret
        exact ⟨ret_bool HF.out.symm, hq⟩
  · have hb := neI_k hn
    have HF := Lib.hid (show sameB l1 l2 = false by
      have := h1.len; have := h2.len; simp only [sameB, decide_eq_false_iff_not]; rintro rfl; omega)
    go_enter Try.func41, Try.ntmps41
    go_wp2
    go_ret
    exact ⟨ret_bool HF.out.symm, Q.refl _⟩

theorem sameInts_e (A1 A2 : Option Addr) (n1 c1 n2 c2 : Nat) (l1 l2 : List Int) (w : World) (h1 : Nums .i64 w A1 n1 c1 l1) (h2 : Nums .i64 w A2 n2 c2 l2) :
    Calls Try.prog 41 #[.slice A1 n1 c1, .slice A2 n2 c2] w (RetK w (sameB l1 l2)) :=
  (sameInts_c A1 A2 n1 c1 n2 c2 l1 l2 w h1 h2).mono fun _ _ h => ⟨h.1, E.of_q h.2⟩

set_option maxHeartbeats 400000 in
theorem sameBytes_c (A1 A2 : Option Addr) (n1 c1 n2 c2 : Nat) (l1 l2 : List Int) (w : World) (h1 : Nums .u8 w A1 n1 c1 l1) (h2 : Nums .u8 w A2 n2 c2 l2) :
    Calls Try.prog 18 #[.slice A1 n1 c1, .slice A2 n2 c2] w fun e w' => e = .returned (.bool (sameB l1 l2)) ∧ ∃ m, w' = w.drewN m := by
  have m1 := h1.n63
  have m2 := h2.n63
  by_cases hn : n1 = n2
  · subst hn
    go_enter Try.func18, Try.ntmps18
    go_wp2
    go_loopw [5] (fun i wr => ∃ k : Nat, k ≤ n1 ∧ i = .int .i64 k ∧ Q w wr ∧ Hid (sameB (l1.drop k) (l2.drop k) = sameB l1 l2)) (fun i _ => n1 - (intOf i).toNat)
    case atStart => exact ⟨0, Nat.zero_le _, rfl, Q.refl _, rfl⟩
    case round =>
      obtain ⟨k, hk, rfl, hq, hs⟩ := hrel
      by_cases hlt : k < n1
      · obtain ⟨b1, o1, x, rfl, hb1, hx, hwx, hc1⟩ := (h1.q hq).get hlt
        obtain ⟨b2, o2, y, rfl, hb2, hy, hwy, hc2⟩ := (h2.q hq).get hlt
        have HX := Lib.hid (drop_at hx)
        have HY := Lib.hid (drop_at hy)
        clear hx hy hwx hwy
        by_cases he : x = y
        · have hd : (x != y) = false := by simp [he]
          have HE := Lib.hid he
          clear he
          go_wp2
          go_quiet (fail)
          go_wp2
          go_roundw
          case rel => exact ⟨k + 1, by omega, by go_num, hq.drewN _, show _ = _ by rw [← hs.out, HX.out, HY.out, HE.out]; simp [sameB]⟩
          case measure => simp [intOf]; omega
        · have hd : (x != y) = true := by simpa using he
          go_wp2
          go_quiet (fail)
          go_wp2
          go_ret
          exact ⟨ret_bool (by rw [← hs.out, HX.out, HY.out]; simp [sameB, he]), hq.drewN _⟩
      · have HF := Lib.hid (show sameB l1 l2 = true by rw [← hs.out, drop_end h1.len (by omega), drop_end h2.len (by omega)]; rfl)
        go_wp2
        go_ret
        exact ⟨ret_bool HF.out.symm, hq⟩
  · have hb := neI_k hn
    have HF := Lib.hid (show sameB l1 l2 = false by
      have := h1.len; have := h2.len; simp only [sameB, decide_eq_false_iff_not]; rintro rfl; omega)
    go_enter Try.func18, Try.ntmps18
    go_wp2
    go_ret
    exact ⟨ret_bool HF.out.symm, Q.refl _⟩


theorem Nums.takeB {w : World} {A : Option Addr} {n c : Nat} {l : List Int} (h : Nums .u8 w A n c l) (k : Nat) (hk : k ≤ n) : Nums .u8 w A k c (l.take k) :=
  ⟨by rw [List.length_take, h.len]; omega, Nat.le_trans hk h.cap, h.mx, fun x hx => h.wf x (List.mem_of_mem_take hx), fun h0 => by
    obtain ⟨b, o, e, hb, hc⟩ := h.at_ (by omega)
    refine ⟨b, o, e, hb, fun i hi => ?_⟩
    rw [List.getElem_take]
    exact hc i _⟩
set_option maxHeartbeats 1000000 in
theorem fewN_c (m : Nat) (hm0 : m ≤ 1000000) (A : Option Addr) (n c : Nat) (l : List Int) (w : World) (h : Nums .u8 w A n c l) :
    Calls Try.prog 13 #[.slice A n c, .int .i64 m] w (RetOwn .u8 5 w (l.take m)) := by
  have hm := h.n63
  have HM := Lib.hid hm0
  have hmI : (m : Int) ≤ 1000000 := by omega
  have hcap := h.cap
  have hc63 := h.c63
  obtain ⟨k, hk⟩ : ∃ k : Nat, min n m = k := ⟨_, rfl⟩
  have hkn : k ≤ n := by omega
  have hkm : k ≤ m := by omega
  have hmin : min (n : Int) (m : Int) = (k : Int) := by omega
  have HT := Lib.hid (show l.take k = l.take m by
    rw [← hk, ← h.len]
    rcases Nat.le_total l.length m with h1 | h1
    · rw [Nat.min_eq_left h1, List.take_of_length_le (Nat.le_refl _), List.take_of_length_le h1]
    · rw [Nat.min_eq_right h1])
  have hT := h.takeB k hkn
  clear hk hm0
  have hkc : (k : Int) ≤ (c : Int) := by omega
  go_enter Try.func13, Try.ntmps13
  go_wp2_with (at_builtin; refine wpList_appN byteT _ rfl _ _ rfl w.heap.size _ _ _ [] rfl (Own.nil _ _ _ _) _ _ _ (l.take k) rfl hT (by have := HM.out; omega) (Nat.le_refl _) ?_; intro A' c' w1 hO hG hB)
  go_ret
  exact RetOwn.mk_ HT.out.symm (by simpa using hO) hB
end Go.Proofs.Ythcicfolabngcaa
/- The functions of package disk, said of DiskAt. -/
namespace Go.Proofs.Ythcicfolabngcaa
open Go.RowKit

section
variable {X : Nat → Prop} {g k : Nat} {s : DS} {w : World}
theorem DiskAt.append (h : DiskAt w X g k s) (i : Int) (B : Option Addr) (n c' : Nat) (l : List Int) (h1 : -9223372036854775808 ≤ i) (h2 : i ≤ 9223372036854775807) (hN : Nums .u8 w B n c' l) (hB : away X B n) (hk : k < 1000000) :
    Calls Try.prog 14 #[ptrV g, .int .i64 i, .slice B n c'] w (RetE w X g (k + 1) (appR s i l)) := by
  obtain ⟨mb, F, A, c, h⟩ := h
  exact append_c i B n c' l w h h1 h2 hN hB hk
theorem DiskAt.sync (h : DiskAt w X g k s) : Calls Try.prog 15 #[ptrV g] w (RetE w X g k (syncR s)) := by
  obtain ⟨mb, F, A, c, h⟩ := h
  exact sync_c w h
theorem DiskAt.used (h : DiskAt w X g k s) : Calls Try.prog 21 #[ptrV g] w (fun e w' => e = .returned (.int .i64 (usedF s.b : Nat)) ∧ w' = w) := by
  obtain ⟨mb, F, A, c, h⟩ := h
  exact used_c w h
theorem DiskAt.on (h : DiskAt w X g k s) : Calls Try.prog 24 #[ptrV g] w (fun e w' => e = .returned (.bool (!s.off)) ∧ w' = w) := by
  obtain ⟨mb, F, A, c, h⟩ := h
  exact on_c w h
theorem DiskAt.arm (h : DiskAt w X g k s) (n : Int) (h1 : -9223372036854775808 ≤ n) (h2 : n ≤ 9223372036854775807) : Calls Try.prog 23 #[ptrV g, .int .i64 n] w (fun e w' => e = .returned (.tuple #[]) ∧ After w X g k (armS s n) w') := by
  obtain ⟨mb, F, A, c, h⟩ := h
  refine (arm_c n w h h1 h2).mono ?_
  rintro e w' ⟨rfl, hD, hG⟩
  exact ⟨rfl, hD.stepped hG⟩
theorem DiskAt.files (h : DiskAt w X g k s) : Calls Try.prog 45 #[ptrV g] w (RetOwn .i64 3 w (liveI s.b)) := by
  obtain ⟨mb, F, A, c, h⟩ := h
  exact files_c w h
end
end Go.Proofs.Ythcicfolabngcaa
/- Several things in memory that do not touch one another (disks, their models, rows). -/
namespace Go.Proofs.Ythcicfolabngcaa
open Go.RowKit

/-- a thing lies in the blocks X: it stays while these stay -/
structure Thing (T : World → (Nat → Prop) → Prop) : Prop where
  same : ∀ {w w' X}, T w X → w.heap.size ≤ w'.heap.size → (∀ i, X i → w'.heap[i]? = w.heap[i]?) → T w' X
  lt : ∀ {w X}, T w X → ∀ i, X i → i < w.heap.size
def DiskT (g k : Nat) (s : DS) (w : World) (X : Nat → Prop) : Prop := DiskAt w X g k s
theorem diskT (g k : Nat) (s : DS) : Thing (DiskT g k s) :=
  ⟨fun h hz hb => by obtain ⟨mb, F, A, c, h⟩ := h; exact ⟨mb, F, A, c, h.same hz hb⟩, fun h => DiskAt.lt h⟩
/-- the numbers l can be read there -/
def NumsT (k : IntKind) (A : Option Addr) (n c : Nat) (l : List Int) (w : World) (X : Nat → Prop) : Prop := Nums k w A n c l ∧ (0 < n → ∀ b, ob A = some b → X b) ∧ ∀ i, X i → i < w.heap.size
theorem Nums.same {k : IntKind} {w w' : World} {A : Option Addr} {n c : Nat} {l : List Int} (h : Nums k w A n c l) (hz : w.heap.size ≤ w'.heap.size) (hb : 0 < n → ∀ b, ob A = some b → w'.heap[b]? = w.heap[b]?) : Nums k w' A n c l :=
  ⟨h.len, h.cap, h.mx, h.wf, fun hn => by
    obtain ⟨b, o, h1, h2, h3⟩ := h.at_ hn
    refine ⟨b, o, h1, Nat.lt_of_lt_of_le h2 hz, fun i hi => ?_⟩
    rw [← h3 i hi]
    exact World.cell?_of_block (hb hn b (by rw [h1]; rfl))⟩
theorem numsT (k : IntKind) (A : Option Addr) (n c : Nat) (l : List Int) : Thing (NumsT k A n c l) :=
  ⟨fun h hz hb => ⟨h.1.same hz fun hn b hb' => hb b (h.2.1 hn b hb'), h.2.1, fun i hi => Nat.lt_of_lt_of_le (h.2.2 i hi) hz⟩, fun h => h.2.2⟩
structure Fam (w0 w : World) (L : List (World → (Nat → Prop) → Prop)) (Xs : Nat → Nat → Prop) : Prop where
  e : E w0 w
  at_ : ∀ (j : Nat) (T : World → (Nat → Prop) → Prop), L[j]? = some T → T w (Xs j)
  thing : ∀ T ∈ L, Thing T
  own : ∀ j, j < L.length → ∀ i, Xs j i → w0.heap.size ≤ i
  ap : ∀ j j' i, j < L.length → j' < L.length → j ≠ j' → Xs j i → ¬ Xs j' i
def Room (w0 w : World) (L : List (World → (Nat → Prop) → Prop)) : Prop := ∃ Xs, Fam w0 w L Xs
section
variable {w0 w w' : World} {L : List (World → (Nat → Prop) → Prop)} {Xs : Nat → Nat → Prop}
theorem Room.nil (w : World) : Room w w [] := ⟨fun _ _ => False, E.refl w, fun _ _ h => by simp at h, fun _ h => by simp at h, fun _ h => by simp at h, fun _ _ _ h => by simp at h⟩
theorem Room.e_ (h : Room w0 w L) : E w0 w := h.elim fun _ h => h.e
theorem getL {α : Type} {L : List α} {j : Nat} {T : α} (h : L[j]? = some T) : j < L.length ∧ T ∈ L := ⟨(List.getElem?_eq_some_iff.1 h).1, List.mem_of_getElem? h⟩
theorem Fam.lt (h : Fam w0 w L Xs) {j : Nat} (hj : j < L.length) : ∀ i, Xs j i → i < w.heap.size :=
  (h.thing _ (List.getElem_mem hj)).lt (h.at_ j _ (List.getElem?_eq_getElem hj))
/-- new blocks alone -/
theorem Room.e (h : Room w0 w L) (hE : E w w') : Room w0 w' L := by
  obtain ⟨Xs, h⟩ := h
  exact ⟨Xs, h.e.trans hE, fun j T hj => (h.thing T (getL hj).2).same (h.at_ j T hj) hE.le fun i hi => hE.block (h.lt (getL hj).1 i hi), h.thing, h.own, h.ap⟩
/-- one thing has turned -/
theorem Fam.turn (h : Fam w0 w L Xs) {j : Nat} (hj : j < L.length) {T' : World → (Nat → Prop) → Prop} {X' : Nat → Prop} (hT : Thing T') (h' : T' w' X') (hE : Ex (Xs j) w w') (hX : ∀ i, X' i → Xs j i ∨ w.heap.size ≤ i) : Room w0 w' (L.set j T') := by
  have hlt := h.lt hj
  have h0 := h.e.le
  refine ⟨fun i => if i = j then X' else Xs i, ?_, fun i T hi => ?_, fun T hT' => ?_, fun i hi b hb => ?_, fun i i' b hi hi' hne hb hb' => ?_⟩
  · exact ⟨hE.os.trans h.e.os, hE.tape.trans h.e.tape, hE.output.trans h.e.output, Nat.le_trans h0 hE.size, fun i hi => (hE.block i (by omega) (fun x => by have := h.own j hj i x; omega)).trans (h.e.block hi)⟩
  · by_cases e : i = j
    · subst e
      rw [List.getElem?_set_self hj] at hi
      injection hi with hi
      subst hi
      simp only [if_true]
      exact h'
    · rw [List.getElem?_set_ne (fun e' => e e'.symm)] at hi
      simp only [e, if_false]
      exact (h.thing T (getL hi).2).same (h.at_ i T hi) hE.size fun b hb => hE.block b (h.lt (getL hi).1 b hb) (fun x => h.ap i j b (getL hi).1 hj e hb x)
  · rcases List.mem_or_eq_of_mem_set hT' with h1 | h1
    · exact h.thing T h1
    · exact h1 ▸ hT
  · rw [List.length_set] at hi
    by_cases e : i = j
    · simp only [e, if_true] at hb
      rcases hX b hb with h1 | h1
      · exact h.own j hj b h1
      · exact Nat.le_trans h0 h1
    · simp only [e, if_false] at hb
      exact h.own i hi b hb
  · rw [List.length_set] at hi hi'
    by_cases e : i = j
    · have e' : i' ≠ j := fun e' => hne (e.trans e'.symm)
      simp only [e, if_true] at hb
      simp only [e', if_false] at hb'
      rcases hX b hb with h1 | h1
      · exact h.ap j i' b hj hi' (fun e2 => e' e2.symm) h1 hb'
      · have := h.lt hi' b hb'; omega
    · simp only [e, if_false] at hb
      by_cases e' : i' = j
      · simp only [e', if_true] at hb'
        rcases hX b hb' with h1 | h1
        · exact h.ap i j b hi hj e hb h1
        · have := h.lt hi b hb; omega
      · simp only [e', if_false] at hb'
        exact h.ap i i' b hi hi' hne hb hb'
/-- a thing of new blocks has come in -/
theorem Room.add (h : Room w0 w L) {T : World → (Nat → Prop) → Prop} {X : Nat → Prop} (hE : E w w') (hT : Thing T) (h' : T w' X) (hX : ∀ i, X i → w.heap.size ≤ i) : Room w0 w' (L ++ [T]) := by
  have hw := h.e hE
  have hl : w0.heap.size ≤ w.heap.size := h.e_.le
  obtain ⟨Xs, h⟩ := h
  have hr : ∀ j, j < L.length → ∀ i, Xs j i → i < w.heap.size := fun j hj => h.lt hj
  refine ⟨fun i => if i = L.length then X else Xs i, h.e.trans hE, fun i T' hi => ?_, fun T' hT' => ?_, fun i hi b hb => ?_, fun i i' b hi hi' hne hb hb' => ?_⟩
  · by_cases e : i = L.length
    · subst e
      rw [List.getElem?_append_right (Nat.le_refl _)] at hi
      simp at hi
      subst hi
      simp only [if_true]
      exact h'
    · have hlt : i < L.length := by
        have := (getL hi).1
        rw [List.length_append] at this
        simp at this
        omega
      rw [List.getElem?_append_left hlt] at hi
      simp only [e, if_false]
      exact (h.thing T' (getL hi).2).same (h.at_ i T' hi) hE.le fun b hb => hE.block (hr i hlt b hb)
  · rcases List.mem_append.1 hT' with h1 | h1
    · exact h.thing T' h1
    · simp at h1; exact h1 ▸ hT
  · rw [List.length_append] at hi
    simp at hi
    by_cases e : i = L.length
    · simp only [e, if_true] at hb
      exact Nat.le_trans hl (hX b hb)
    · simp only [e, if_false] at hb
      exact h.own i (by omega) b hb
  · rw [List.length_append] at hi hi'
    simp at hi hi'
    by_cases e : i = L.length
    · have e' : i' ≠ L.length := fun e' => hne (e.trans e'.symm)
      simp only [e, if_true] at hb
      simp only [e', if_false] at hb'
      have := hX b hb
      have := hr i' (by omega) b hb'
      omega
    · simp only [e, if_false] at hb
      by_cases e' : i' = L.length
      · simp only [e', if_true] at hb'
        have := hX b hb'
        have := hr i (by omega) b hb
        omega
      · simp only [e', if_false] at hb'
        exact h.ap i i' b (by omega) (by omega) hne hb hb'
/-- what lies in old blocks, or in new ones, is away from every thing -/
theorem Fam.away_old (h : Fam w0 w L Xs) {j : Nat} (hj : j < L.length) {B : Option Addr} {n : Nat} (hB : 0 < n → ∀ b, ob B = some b → b < w0.heap.size) : away (Xs j) B n := fun hn b hb hx => by
  have := hB hn b hb; have := h.own j hj b hx; omega
theorem Fam.away_thing (h : Fam w0 w L Xs) {j j' : Nat} (hj : j < L.length) (hj' : j' < L.length) (hne : j ≠ j') {B : Option Addr} {n : Nat} (hB : 0 < n → ∀ b, ob B = some b → Xs j' b) : away (Xs j) B n := fun hn b hb hx =>
  h.ap j j' b hj hj' hne hx (hB hn b hb)
theorem Room.keepX (h : Room w0 w L) (hE : E w w') : ∃ Xs, Fam w0 w' L Xs ∧ ∀ j, j < L.length → ∀ i, Xs j i → i < w.heap.size := by
  obtain ⟨Xs, h⟩ := h
  exact ⟨Xs, ⟨h.e.trans hE, fun j T hj => (h.thing T (getL hj).2).same (h.at_ j T hj) hE.le fun i hi => hE.block (h.lt (getL hj).1 i hi), h.thing, h.own, h.ap⟩, fun j hj => h.lt hj⟩
/-- a call that turns one thing -/
theorem Room.op (h : Room w0 w L) {w1 : World} (hE : E w w1) (j : Nat) {T T' : World → (Nat → Prop) → Prop} (hj : L[j]? = some T) (hT : Thing T') {f : FuncId} {args : Array Value} {R : Ending → Prop}
    (H : ∀ Xs, Fam w0 w1 L Xs → T w1 (Xs j) → (∀ i, Xs j i → w0.heap.size ≤ i ∧ i < w.heap.size) → Calls Try.prog f args w1 (fun e w' => R e ∧ ∃ X', T' w' X' ∧ Ex (Xs j) w1 w' ∧ ∀ i, X' i → Xs j i ∨ w1.heap.size ≤ i)) :
    Calls Try.prog f args w1 (fun e w' => R e ∧ Room w0 w' (L.set j T')) := by
  obtain ⟨Xs, h, hl⟩ := h.keepX hE
  refine (H Xs h (h.at_ j T hj) (fun i hi => ⟨h.own j (getL hj).1 i hi, hl j (getL hj).1 i hi⟩)).mono ?_
  rintro e w' ⟨hR, X', h1, h2, h3⟩
  exact ⟨hR, h.turn (getL hj).1 hT h1 h2 h3⟩
/-- a call that reads one thing -/
theorem Room.look (h : Room w0 w L) (j : Nat) {T : World → (Nat → Prop) → Prop} (hj : L[j]? = some T) : ∃ X, T w X := h.elim fun Xs h => ⟨Xs j, h.at_ j T hj⟩
theorem Room.drop (h : Room w0 w L) (n : Nat) : Room w0 w (L.take n) := by
  obtain ⟨Xs, h⟩ := h
  have hl : ∀ {j}, j < (L.take n).length → j < L.length := fun hj => by rw [List.length_take] at hj; omega
  exact ⟨Xs, h.e, fun j T hj => h.at_ j T (by
    have := (getL hj).1
    rw [List.length_take] at this
    rwa [List.getElem?_take_of_lt (by omega)] at hj), fun T hT => h.thing T (List.mem_of_mem_take hT), fun j hj => h.own j (hl hj), fun j j' i hj hj' => h.ap j j' i (hl hj) (hl hj')⟩
end
/-- a slice of the call's own that was just built -/
theorem newNums (w : World) (k : IntKind) (T : TypeId) (l : List Int) (hw : ∀ x ∈ l, (Lit.int k x).wf = true) (hl : l.length ≤ 1000) : Nums k (w.alloc (.cells (l.map (Value.int k)).toArray T)) (some ⟨w.heap.size, 0, none⟩) l.length l.length l :=
  ⟨rfl, Nat.le_refl _, by unfold maxLen; omega, hw, fun _ => ⟨w.heap.size, 0, rfl, by simp, fun i hi => by
    have h1 := cell_of_row (w.alloc (.cells (l.map (Value.int k)).toArray T)) w.heap.size (0 + i) _ T _ (heap_alloc_new w _)
    rw [h1]
    simp [hi]⟩⟩
end Go.Proofs.Ythcicfolabngcaa
/- The operations on a disk that lies among other things. -/
namespace Go.Proofs.Ythcicfolabngcaa
open Go.RowKit

section
variable {w0 w w1 : World} {L : List (World → (Nat → Prop) → Prop)} {g k : Nat} {s : DS} (j : Nat)
/-- away from all that is the call's own at w -/
def apartW (w0 w : World) (B : Option Addr) (n : Nat) : Prop := 0 < n → ∀ b, ob B = some b → b < w0.heap.size ∨ w.heap.size ≤ b
theorem apartW.away {w0 w : World} {B : Option Addr} {n : Nat} (h : apartW w0 w B n) {X : Nat → Prop} (hX : ∀ i, X i → w0.heap.size ≤ i ∧ i < w.heap.size) : away X B n := fun hn b hb hx => by
  have := hX b hx
  rcases h hn b hb with h | h <;> omega
theorem apartW.new (w0 w : World) (n : Nat) : apartW w0 w (some ⟨w.heap.size, 0, none⟩) n := fun _ b hb => by
  have : w.heap.size = b := by simpa [ob] using hb
  exact .inr (by omega)
theorem apartW.nil (w0 w : World) : apartW w0 w none 0 := fun h => absurd h (by omega)
theorem Room.append (h : Room w0 w L) (hj : L[j]? = some (DiskT g k s)) (hE : E w w1) (i : Int) (B : Option Addr) (n c' : Nat) (l : List Int) (h1 : -9223372036854775808 ≤ i) (h2 : i ≤ 9223372036854775807) (hN : Nums .u8 w1 B n c' l) (hB : apartW w0 w B n) (hk : k < 1000000) :
    Calls Try.prog 14 #[ptrV g, .int .i64 i, .slice B n c'] w1 (fun e w' => e = .returned (.int .i64 (appR s i l).1) ∧ Room w0 w' (L.set j (DiskT g (k + 1) (appR s i l).2))) :=
  h.op hE j hj (diskT _ _ _) fun _ _ hD hX => DiskAt.append hD i B n c' l h1 h2 hN (hB.away hX) hk
theorem Room.appendT (h : Room w0 w L) (hj : L[j]? = some (DiskT g k s)) (j' : Nat) (hne : j ≠ j') {A : Option Addr} {m c : Nat} {l' : List Int} (hj' : L[j']? = some (NumsT .u8 A m c l')) (i : Int) (B : Option Addr) (n c' : Nat) (l : List Int) (h1 : -9223372036854775808 ≤ i) (h2 : i ≤ 9223372036854775807)
    (hN : Nums .u8 w A m c l' → Nums .u8 w B n c' l) (hB : 0 < n → 0 < m ∧ ob B = ob A) (hk : k < 1000000) :
    Calls Try.prog 14 #[ptrV g, .int .i64 i, .slice B n c'] w (fun e w' => e = .returned (.int .i64 (appR s i l).1) ∧ Room w0 w' (L.set j (DiskT g (k + 1) (appR s i l).2))) :=
  h.op (E.refl w) j hj (diskT _ _ _) fun _ hF hD _ => by
    have hT := hF.at_ j' _ hj'
    exact DiskAt.append hD i B n c' l h1 h2 (hN hT.1) (hF.away_thing (getL hj).1 (getL hj').1 hne fun hn b hb => hT.2.1 (hB hn).1 b (by rw [← (hB hn).2]; exact hb)) hk
theorem Room.sync (h : Room w0 w L) (hj : L[j]? = some (DiskT g k s)) :
    Calls Try.prog 15 #[ptrV g] w (fun e w' => e = .returned (.int .i64 (syncR s).1) ∧ Room w0 w' (L.set j (DiskT g k (syncR s).2))) :=
  h.op (E.refl w) j hj (diskT _ _ _) fun _ _ hD _ => DiskAt.sync hD
theorem Room.trunc (h : Room w0 w L) (hj : L[j]? = some (DiskT g k s)) (i n : Int) (h1 : -9223372036854775808 ≤ i) (h2 : i ≤ 9223372036854775807) :
    Calls Try.prog 20 #[ptrV g, .int .i64 i, .int .i64 n] w (fun e w' => e = .returned (.int .i64 (truncR s i n).1) ∧ Room w0 w' (L.set j (DiskT g k (truncR s i n).2))) :=
  h.op (E.refl w) j hj (diskT _ _ _) fun _ _ hD _ => DiskAt.trunc i n hD h1 h2
theorem Room.arm (h : Room w0 w L) (hj : L[j]? = some (DiskT g k s)) (n : Int) (h1 : -9223372036854775808 ≤ n) (h2 : n ≤ 9223372036854775807) :
    Calls Try.prog 23 #[ptrV g, .int .i64 n] w (fun e w' => e = .returned (.tuple #[]) ∧ Room w0 w' (L.set j (DiskT g k (armS s n)))) :=
  h.op (E.refl w) j hj (diskT _ _ _) fun _ _ hD _ => DiskAt.arm hD n h1 h2
theorem Room.crash (h : Room w0 w L) (hj : L[j]? = some (DiskT g k s)) (hE : E w w1) (K : Option Addr) (m cK : Nat) (keep : List Int) (flip : Int) (hK : Nums .i64 w1 K m cK keep) (hB : apartW w0 w K m) (h1 : -9223372036854775808 ≤ flip) (h2 : flip ≤ 9223372036854775807) :
    Calls Try.prog 16 #[ptrV g, .slice K m cK, .int .i64 flip] w1 (fun e w' => e = .returned (.tuple #[]) ∧ Room w0 w' (L.set j (DiskT g k (crashS s keep flip)))) :=
  h.op hE j hj (diskT _ _ _) fun _ _ hD hX => by
    obtain ⟨mb, F, A, c, hD⟩ := hD
    exact crash_c K m cK keep flip w1 hD hK (hB.away hX) h1 h2
theorem Room.crashT (h : Room w0 w L) (hj : L[j]? = some (DiskT g k s)) (j' : Nat) (hne : j ≠ j') {A : Option Addr} {m c : Nat} {l' : List Int} (hj' : L[j']? = some (NumsT .i64 A m c l')) (K : Option Addr) (n cK : Nat) (keep : List Int) (flip : Int)
    (hK : Nums .i64 w A m c l' → Nums .i64 w K n cK keep) (hB : 0 < n → 0 < m ∧ ob K = ob A) (h1 : -9223372036854775808 ≤ flip) (h2 : flip ≤ 9223372036854775807) :
    Calls Try.prog 16 #[ptrV g, .slice K n cK, .int .i64 flip] w (fun e w' => e = .returned (.tuple #[]) ∧ Room w0 w' (L.set j (DiskT g k (crashS s keep flip)))) :=
  h.op (E.refl w) j hj (diskT _ _ _) fun _ hF hD _ => by
    have hT := hF.at_ j' _ hj'
    obtain ⟨mb, F, A, c, hD⟩ := hD
    exact crash_c K n cK keep flip w hD (hK hT.1) (hF.away_thing (getL hj).1 (getL hj').1 hne fun hn b hb => hT.2.1 (hB hn).1 b (by rw [← (hB hn).2]; exact hb)) h1 h2
theorem Room.copy (h : Room w0 w L) (hj : L[j]? = some (DiskT g k s)) (hk : k < 1000000) :
    Calls Try.prog 25 #[ptrV g] w (fun e w' => ∃ g2, e = .returned (.pointer (some ⟨g2, 0, none⟩)) ∧ Room w0 w' (L ++ [DiskT g2 k s]) ∧ E w w') := by
  obtain ⟨X, mb, F, A, c, hD⟩ := h.look j hj
  refine (copy_c w hD hk).mono ?_
  rintro e w' ⟨hE, g2, X2, rfl, h1, h2⟩
  exact ⟨g2, rfl, h.add hE (diskT _ _ _) h1 h2, hE⟩
theorem Room.read (h : Room w0 w L) (hj : L[j]? = some (DiskT g k s)) (i : Int) (h1 : -9223372036854775808 ≤ i) (h2 : i ≤ 9223372036854775807) :
    Calls Try.prog 17 #[ptrV g, .int .i64 i] w (fun e w' => RetOwnErr .u8 5 w (readR s i) e w' ∧ Room w0 w' L) := by
  obtain ⟨X, hD⟩ := h.look j hj
  refine (DiskAt.read i hD h1 h2).mono ?_
  rintro e w' hr
  exact ⟨hr, h.e (by obtain ⟨_, _, _, _, _, hE⟩ := hr; exact hE)⟩
theorem Room.used (h : Room w0 w L) (hj : L[j]? = some (DiskT g k s)) : Calls Try.prog 21 #[ptrV g] w (fun e w' => e = .returned (.int .i64 (usedF s.b : Nat)) ∧ w' = w) := by
  obtain ⟨X, hD⟩ := h.look j hj
  exact DiskAt.used hD
theorem Room.on (h : Room w0 w L) (hj : L[j]? = some (DiskT g k s)) : Calls Try.prog 24 #[ptrV g] w (fun e w' => e = .returned (.bool (!s.off)) ∧ w' = w) := by
  obtain ⟨X, hD⟩ := h.look j hj
  exact DiskAt.on hD
theorem Room.files (h : Room w0 w L) (hj : L[j]? = some (DiskT g k s)) : Calls Try.prog 45 #[ptrV g] w (fun e w' => RetOwn .i64 3 w (liveI s.b) e w' ∧ Room w0 w' L) := by
  obtain ⟨X, hD⟩ := h.look j hj
  refine (DiskAt.files hD).mono ?_
  rintro e w' hr
  exact ⟨hr, h.e (by obtain ⟨_, _, _, _, _, hE⟩ := hr; exact hE)⟩
end
/-- a new row stays, whatever the things around it do -/
theorem Room.own {w0 w w' : World} {L : List (World → (Nat → Prop) → Prop)} (h : Room w0 w L) (hE : E w w') {k : IntKind} {T : TypeId} {A : Option Addr} {n c : Nat} {l : List Int} (hO : Own k T w' w.heap.size A n c l) : Room w0 w' (L ++ [NumsT k A n c l]) :=
  h.add (X := fun i => ob A = some i) hE (numsT _ _ _ _ _) ⟨hO.reads, fun _ _ hb => hb, fun i hi => (hO.ltN i hi).2⟩ fun i hi => (hO.ltN i hi).1
theorem Room.nums {w0 w : World} {L : List (World → (Nat → Prop) → Prop)} (h : Room w0 w L) (j : Nat) {k : IntKind} {A : Option Addr} {n c : Nat} {l : List Int} (hj : L[j]? = some (NumsT k A n c l)) : Nums k w A n c l := by
  obtain ⟨X, hD⟩ := h.look j hj
  exact hD.1
theorem Nums.nil_ (w : World) (k : IntKind) : Nums k w none 0 0 [] := ⟨rfl, Nat.le_refl _, by unfold maxLen; omega, fun x h => (by cases h), fun h => absurd h (by omega)⟩
theorem Room.ok {w0 w : World} {L : List (World → (Nat → Prop) → Prop)} {g k : Nat} {s : DS} (h : Room w0 w L) (j : Nat) (hj : L[j]? = some (DiskT g k s)) : DOk s := by
  obtain ⟨X, hD⟩ := h.look j hj
  exact DiskAt.ok hD
/-- New, for a valid room -/
theorem room_new {w0 w : World} {L : List (World → (Nat → Prop) → Prop)} (h : Room w0 w L) (room : Int) (h1 : 0 ≤ room) (h2 : room ≤ 16777216) :
    Calls Try.prog 11 #[.int .i64 room] w (fun e w' => ∃ g, e = .returned (.tuple #[.pointer (some ⟨g, 0, none⟩), .int .i64 0]) ∧ Room w0 w' (L ++ [DiskT g 0 (newS room)]) ∧ E w w') := by
  refine (new_c room w (by omega) (by omega)).mono ?_
  rintro e w' ⟨hE, hr⟩
  rw [if_pos ⟨h1, h2⟩] at hr
  obtain ⟨g, X, rfl, hD, hX⟩ := hr
  exact ⟨g, rfl, h.add hE (diskT _ _ _) hD hX, hE⟩
end Go.Proofs.Ythcicfolabngcaa
/- Rows of the call's own among other things. -/
namespace Go.Proofs.Ythcicfolabngcaa
open Go.RowKit

def OwnT (k : IntKind) (T : TypeId) (A : Option Addr) (n c : Nat) (l : List Int) (w : World) (X : Nat → Prop) : Prop := Own k T w 0 A n c l ∧ (∀ b, ob A = some b → X b) ∧ ∀ i, X i → i < w.heap.size
theorem ownT (k : IntKind) (T : TypeId) (A : Option Addr) (n c : Nat) (l : List Int) : Thing (OwnT k T A n c l) :=
  ⟨fun h hz hb => ⟨h.1.same fun b hb' => hb b (h.2.1 b hb'), h.2.1, fun i hi => Nat.lt_of_lt_of_le (h.2.2 i hi) hz⟩, fun h => h.2.2⟩
section
variable {w0 w w' : World} {L : List (World → (Nat → Prop) → Prop)} {k : IntKind} {T : TypeId} {A A' : Option Addr} {n c n' c' : Nat} {l l' : List Int}
theorem Room.nilRow (h : Room w0 w L) (k : IntKind) (T : TypeId) : Room w0 w (L ++ [OwnT k T none 0 0 []]) :=
  h.add (X := fun _ => False) (E.refl w) (ownT _ _ _ _ _ _) ⟨Own.nil _ _ _ _, fun _ hb => (by cases hb), fun _ hi => hi.elim⟩ fun _ hi => hi.elim
theorem Room.newRow (h : Room w0 w L) (hE : E w w') (hO : Own k T w' w.heap.size A n c l) : Room w0 w' (L ++ [OwnT k T A n c l]) :=
  h.add (X := fun i => ob A = some i) hE (ownT _ _ _ _ _ _) ⟨hO.low, fun _ hb => hb, fun i hi => (hO.ltN i hi).2⟩ fun i hi => (hO.ltN i hi).1
theorem Room.ownAt (h : Room w0 w L) (j : Nat) (hj : L[j]? = some (OwnT k T A n c l)) : Own k T w 0 A n c l := by
  obtain ⟨X, hD⟩ := h.look j hj
  exact hD.1
theorem Room.appOwn (h : Room w0 w L) (j : Nat) (hj : L[j]? = some (OwnT k T A n c l)) (hO : Own k T w' 0 A' n' c' l') (hG : w.grownBy w' (ob A)) (hb : ob A' = ob A ∨ ob A' = some w.heap.size) : Room w0 w' (L.set j (OwnT k T A' n' c' l')) := by
  obtain ⟨Xs, F⟩ := h
  have h1 := F.at_ j _ hj
  refine F.turn (getL hj).1 (X' := fun i => ob A' = some i) (ownT _ _ _ _ _ _) ⟨hO, fun _ hb => hb, fun i hi => (hO.ltN i hi).2⟩ ((Ex.refl (Xs j) w).grown hG fun i hi => .inr (h1.2.1 i hi)) fun i hi => ?_
  rcases hb with e | e
  · exact .inl (h1.2.1 i (e ▸ hi))
  · rw [e] at hi; injection hi with hi; exact .inr (by omega)
/-- a thing is seen as another -/
theorem Room.as {T1 T2 : World → (Nat → Prop) → Prop} (h : Room w0 w L) (j : Nat) (hj : L[j]? = some T1) (hT : Thing T2) (hi : ∀ X, T1 w X → T2 w X) : Room w0 w (L.set j T2) := by
  obtain ⟨Xs, F⟩ := h
  exact F.turn (getL hj).1 hT (hi _ (F.at_ j _ hj)) (Ex.refl _ _) fun i hi => .inl hi
theorem Room.reads (h : Room w0 w L) (j : Nat) (hj : L[j]? = some (OwnT k T A n c l)) : Room w0 w (L.set j (NumsT k A n c l)) :=
  h.as j hj (numsT _ _ _ _ _) fun _ hX => ⟨hX.1.reads, fun _ => hX.2.1, hX.2.2⟩
end
end Go.Proofs.Ythcicfolabngcaa
