/- Lemmas of the claim, joined: DB QD QG QH QI QJ QY GL GMi. No condition. -/
import Derived.Maps.Own
import Derived.Maps.Views
import Derived.Maps.OwnOps
import Derived.Maps.OwnSet
import Derived.Maps.RangeWalk
import Derived.Test.YtmeplpiamkaniaaJA
import Derived.Test.YtmeplpiamkaniaaJB
import Derived.Deep.RegionHeld3
import Derived.Test.YtmeplpiamkaniaaJC
/- Maps from numbers to any values (pointers, slices): look-up, store, delete, ranging. -/
namespace Go.Proofs.Ytmeplpiamkaniaa
set_option linter.unusedVariables false
set_option linter.unusedSimpArgs false
open Go.RowKit

structure MapT' (mt vt : TypeId) (z : Value) : Prop where
  und : Try.prog.underlying mt = some (.map 3 vt)
  zero : ∀ w, (zeroValue vt).run Try.prog w = .ok z w
def heldD (v : Value) : Option (DataW Value × List MemPlace) := some (.held v, [])
def pickV' (o : Option Value) (d : DataW Value) : DataW Value := match o with | some v => .held v | none => d
/-- block b is a map that holds f x at the key x -/
def MapD (w : World) (b n : Nat) (f : Int → Option Value) : Prop :=
  ∃ D : DataW Value, w.ownsMap Try.prog 3 heldD b n D ∧ Maps.IsMap D ∧ (∀ x d, D.atKey (.int .i64 x) d = pickV' (f x) d) ∧ ∀ x, Maps.has D (.int .i64 x) = (f x).isSome
theorem MapD.made (w : World) : MapD (w.alloc (.map #[] 0)) w.heap.size 0 (fun _ => none) := ⟨_, World.ownsMap_made _ _ _ _, Maps.isMap_empty, fun _ _ => rfl, fun _ => rfl⟩
section
variable {w w' : World} {b n : Nat} {f : Int → Option Value} {mt vt : TypeId} {z : Value}
theorem MapD.lt (h : MapD w b n f) : b < w.heap.size := by obtain ⟨D, h1, _⟩ := h; exact h1.lt
theorem MapD.block (h : MapD w b n f) (hb : w'.heap[b]? = w.heap[b]?) : MapD w' b n f := by
  obtain ⟨D, ⟨es, clock, h1, h2⟩, h3⟩ := h
  exact ⟨D, ⟨es, clock, hb.trans h1, h2⟩, h3⟩
theorem MapD.e (h : MapD w b n f) (hE : E w w') : MapD w' b n f := h.block (hE.block h.lt)
theorem MapD.ext {g : Int → Option Value} (h : MapD w b n f) (e : ∀ x, f x = g x) : MapD w b n g := by
  have : f = g := funext e
  rw [← this]; exact h
theorem MapD.mono {n' : Nat} (h : MapD w b n f) (hn : n ≤ n') : MapD w b n' f := by
  obtain ⟨D, h1, h2⟩ := h
  exact ⟨D, h1.mono hn, h2⟩
set_option maxRecDepth 100000 in
theorem MapD.look (h : MapD w b n f) (T : MapT' mt vt z) {x : Int} (hx : (Lit.int .i64 x).wf = true) : (Instr.lookup mt (.map (some b)) (.int .i64 x) false).run Try.prog w = .ok ((f x).getD z) w := by
  obtain ⟨D, h1, h2, h3, _⟩ := h
  obtain ⟨v, ps, hrun, hv⟩ := h1.lookup (Maps.int_keyed Try.underlying3) T.und (T.zero _) (zd := .held z) (zp := []) rfl (Maps.keyOf_int_mk Try.underlying3 hx)
  rw [hrun]
  rw [h3] at hv
  simp only [heldD, Option.some.injEq, Prod.mk.injEq] at hv
  have h4 := hv.1
  cases hf : f x with
  | none => rw [hf] at h4; simp only [pickV', DataW.held.injEq] at h4; rw [h4]; simp only [Option.getD]
  | some u => rw [hf] at h4; simp only [pickV', DataW.held.injEq] at h4; rw [h4]; simp only [Option.getD]
set_option maxRecDepth 100000 in
theorem MapD.lookOk (h : MapD w b n f) (T : MapT' mt vt z) {x : Int} (hx : (Lit.int .i64 x).wf = true) : (Instr.lookup mt (.map (some b)) (.int .i64 x) true).run Try.prog w = .ok (.tuple #[(f x).getD z, .bool (f x).isSome]) w := by
  obtain ⟨D, h1, h2, h3, h5⟩ := h
  obtain ⟨v, ps, hrun, hv⟩ := h1.look_ok (Maps.int_keyed Try.underlying3) T.und (T.zero _) (zd := .held z) (zp := []) rfl (Maps.keyOf_int_mk Try.underlying3 hx)
  rw [hrun, h5]
  rw [h3] at hv
  simp only [heldD, Option.some.injEq, Prod.mk.injEq] at hv
  have h4 := hv.1
  cases hf : f x with
  | none => rw [hf] at h4; simp only [pickV', DataW.held.injEq] at h4; rw [h4]; simp only [Option.getD]
  | some u => rw [hf] at h4; simp only [pickV', DataW.held.injEq] at h4; rw [h4]; simp only [Option.getD]
set_option maxRecDepth 100000 in
theorem MapD.put (h : MapD w b n f) (T : MapT' mt vt z) {x : Int} (v : Value) (hx : (Lit.int .i64 x).wf = true) (hn : n < maxLen) : ∃ w', (Instr.mapUpdate mt (.map (some b)) (.int .i64 x) v).run Try.prog w = .ok () w' ∧ MapD w' b (n + 1) (fun y => if y = x then some v else f y) ∧ w.grownBy w' (some b) := by
  obtain ⟨D, h1, h2, h3, h4⟩ := h
  obtain ⟨w', r1, r2, r3⟩ := h1.update (Maps.int_keyed Try.underlying3) T.und hn (Maps.keyOf_int_mk Try.underlying3 hx) (show heldD v = some (.held v, []) from rfl)
  refine ⟨w', r1, ⟨_, r2, h2.put _ _, fun y d => ?_, fun y => ?_⟩, r3⟩
  · by_cases e : y = x
    · subst e; rw [Maps.atKey_put_same h2 (by trivial)]; simp [pickV']
    · rw [Maps.atKey_put_other (by intro e'; injection e' with _ e'; exact e e'), h3]; simp [e]
  · by_cases e : y = x
    · subst e; rw [Maps.has_put_same h2 (by trivial)]; simp
    · rw [Maps.has_put_other (by intro e'; injection e' with _ e'; exact e e'), h4]; simp [e]
set_option maxRecDepth 100000 in
/-- delete(m, x) -/
theorem wpList_delD {ops : Array Oper} {rest : List Oper} {o : Oper} {a : Act} {Q : Exit → Act → World → Prop} (h : MapD w b n f) (T : MapT' mt vt z) (hg : o.guard = none) (m k : Operand) (hop : o.op = Op.call { callee := Callee.builtin Builtin.delete, args := #[m, k], argTypes := #[mt, 3] })
    (x : Int) (hm : a.eval m = .map (some b)) (hk : a.eval k = .int .i64 x) (hx : (Lit.int .i64 x).wf = true)
    (hK : ∀ w', MapD w' b n (fun y => if y = x then none else f y) → w.grownBy w' (some b) → w'.heap.size = w.heap.size → wpList Try.prog ops Q rest (a.put o.dst (.tuple #[])) w') :
    wpList Try.prog ops Q (o :: rest) a w := by
  obtain ⟨D, h1, h2, h3, h4⟩ := h
  refine wpList_delete_own w hg m k mt 3 hop vt (Maps.int_keyed Try.underlying3) T.und heldD b n D hm h1 _ _ hk (Maps.keyOf_int_mk Try.underlying3 hx) fun w' r1 r2 => ?_
  have hsz : w'.heap.size = w.heap.size := by
    obtain ⟨es, clock, es', clock', _, rfl⟩ := r2
    simp [ChangeMaps.setBlock]
  refine hK w' ⟨_, r1, h2.del _, fun y d => ?_, fun y => ?_⟩ r2.grown hsz
  · by_cases e : y = x
    · subst e; rw [Maps.atKey_del_same]; simp [pickV']
    · rw [Maps.atKey_del_other (by intro e'; injection e' with _ e'; exact e e'), h3]; simp [e]
  · by_cases e : y = x
    · subst e; rw [Maps.has_del_same]; simp
    · rw [Maps.has_del_other (by intro e'; injection e' with _ e'; exact e e'), h4]; simp [e]
/-- 'for k, v := range m' under way over the map in block b; left: what is still to come -/
def RngD (w : World) (b r n : Nat) (f : Int → Option Value) (left : Int → Bool) (cnt : Nat) : Prop :=
  ∃ (D : DataW Value) (lf : Lit → Bool), w.ranges Try.prog 3 heldD b r n D lf cnt ∧ Maps.IsMap D ∧ (∀ x d, D.atKey (.int .i64 x) d = pickV' (f x) d) ∧ (∀ x, Maps.has D (.int .i64 x) = (f x).isSome) ∧ ∀ x, lf (.int .i64 x) = left x
theorem RngD.map {r cnt : Nat} {left : Int → Bool} (h : RngD w b r n f left cnt) : MapD w b n f := by
  obtain ⟨D, lf, h1, h2, h3, h4, _⟩ := h
  exact ⟨D, h1.owns, h2, h3, h4⟩
theorem RngD.left_eq {r cnt : Nat} {left : Int → Bool} (h : RngD w b r n f left cnt) : w.rangeLeft b r = cnt := by obtain ⟨D, lf, h1, _⟩ := h; exact h1.left_eq
theorem RngD.lt {r cnt : Nat} {left : Int → Bool} (h : RngD w b r n f left cnt) : r < w.heap.size := by obtain ⟨D, lf, h1, _⟩ := h; exact h1.lt
theorem RngD.ne {r cnt : Nat} {left : Int → Bool} (h : RngD w b r n f left cnt) : r ≠ b := by obtain ⟨D, lf, h1, _⟩ := h; exact h1.ne
theorem RngD.blocks {r cnt : Nat} {left : Int → Bool} (h : RngD w b r n f left cnt) (hb : w'.heap[b]? = w.heap[b]?) (hr : w'.heap[r]? = w.heap[r]?) : RngD w' b r n f left cnt := by
  obtain ⟨D, lf, ⟨es, clock, since, seen, c0, a1, a2, a3, a4, a5, a6⟩, h2⟩ := h
  exact ⟨D, lf, ⟨es, clock, since, seen, c0, hb.trans a1, a2, a3, a4, hr.trans a5, a6⟩, h2⟩
set_option maxRecDepth 100000 in
theorem wpList_rangeD {ops : Array Oper} {rest : List Oper} {o : Oper} {a : Act} {Q : Exit → Act → World → Prop} (hS : MapD w b n f) (T : MapT' mt vt z) (hg : o.guard = none) (m : Operand) (hop : o.op = Op.range mt m)
    (hm : a.eval m = .map (some b))
    (hK : ∀ w' cnt, RngD w' b w.heap.size n f (fun x => (f x).isSome) cnt → w.grownBy w' none → w'.heap.size = w.heap.size + 1 → cnt ≤ n → wpList Try.prog ops Q rest (a.put o.dst (.pointer (some ⟨w.heap.size, 0, none⟩))) w') :
    wpList Try.prog ops Q (o :: rest) a w := by
  obtain ⟨D, h1, h2, h3, h4⟩ := hS
  refine wpList_range_own w hg m mt hop 3 vt (Maps.int_keyed Try.underlying3) T.und _ b n D hm h1 fun w' hr hg' hs => ?_
  refine hK w' _ ⟨D, _, hr, h2, h3, h4, h4⟩ hg' hs ?_
  obtain ⟨es, clock, since, seen, c0, _, _, hsz, _, _, _, hc, _⟩ := hr
  have : (leftOf es seen).size ≤ es.size := by
    unfold leftOf
    exact Array.size_filter_le
  omega
set_option maxRecDepth 100000 in
theorem wpList_nextD {ops : Array Oper} {rest : List Oper} {o : Oper} {a : Act} {Q : Exit → Act → World → Prop} (hg : o.guard = none) (it : Operand) (hop : o.op = Op.next it false) (r : Nat) (left : Int → Bool) (cnt : Nat)
    (hit : a.eval it = .pointer (some ⟨r, 0, none⟩)) (h : RngD w b r n f left cnt)
    (hDone : (∀ x, left x = false) → wpList Try.prog ops Q rest (a.put o.dst (.tuple #[.bool false])) w)
    (hMore : ∀ (x : Int) (v : Value) (w' : World) (cnt' : Nat), (Lit.int .i64 x).wf = true → left x = true → f x = some v → RngD w' b r n f (fun y => left y && y != x) cnt' → cnt' < cnt → w.grownBy w' (some r) → w'.heap.size = w.heap.size →
      (Instr.entry (.pointer (some ⟨r, 0, none⟩))).run Try.prog w' = .ok (.tuple #[.int .i64 x, v]) w' → wpList Try.prog ops Q rest (a.put o.dst (.tuple #[.bool true, .int .i64 x, v])) w') :
    wpList Try.prog ops Q (o :: rest) a w := by
  obtain ⟨D, lf, h1, h2, h3, h4, h5⟩ := h
  refine wpList_next_ranges w hg it hop 3 (Maps.int_keyed Try.underlying3) heldD (Value.int .i64) (fun v : Value => v) (fun key kl hkey => by obtain ⟨x, rfl, _⟩ := Maps.keyOf_int_inv Try.underlying3 hkey; exact ⟨x, rfl⟩)
    (fun v y _ => ⟨v, rfl⟩) b r n D lf cnt hit h1 (fun _ hl => hDone fun x => by rw [← h5]; exact hl _) ?_
  intro x c kl y w' cnt' hkey hlk hv hat hrg hlt hgr hsz hen
  obtain ⟨x', ex, rfl, hwx⟩ := Maps.keyOf_int_inv Try.underlying3 hkey
  cases ex
  have hv2 : y = (.held c, []) := by simpa [heldD] using hv.symm
  have hf : f x = some c := by
    have ha := hat (.held undef)
    rw [h3, hv2] at ha
    have hh := Maps.has_true_of_atKey hat
    rw [h4] at hh
    cases hfx : f x with
    | none => rw [hfx] at hh; cases hh
    | some u => rw [hfx] at ha; simp only [pickV', DataW.held.injEq] at ha; rw [ha]
  refine hMore x c w' cnt' hwx (by rw [← h5]; exact hlk) hf ⟨D, _, hrg, h2, h3, h4, fun z => ?_⟩ hlt hgr hsz hen
  simp only [h5]
  congr 1
  by_cases e : z = x
  · subst e; simp [Lit.sameKey]
  · have : (Lit.int .i64 z).sameKey (.int .i64 x) = false := by simp [Lit.sameKey, e]
    rw [this]
    simp [e]
end
end Go.Proofs.Ytmeplpiamkaniaa
/- references: what a flow refers to. -/
namespace Go.Proofs.Ytmeplpiamkaniaa
set_option linter.unusedVariables false
set_option linter.unusedSimpArgs false
open Go.RowKit

theorem mapIT : MapT' 66 3 (.int .i64 0) := ⟨Try.underlying66, fun w => Try.zeroValue3 w⟩
/-- the places of the IDs, as the map holds them -/
def plcV (fs : List Fl) (i : Int) : Option Value := (posF fs i).map fun k : Nat => .int .i64 k
theorem plc_none {fs : List Fl} {i : Int} (h : posF fs i = none) : plcV fs i = none := by rw [plcV, h]; rfl
theorem plc_some {fs : List Fl} {i : Int} {k : Nat} (h : posF fs i = some k) : plcV fs i = some (.int .i64 k) := by rw [plcV, h]; rfl
theorem MapD.drewN {w : World} {b n : Nat} {f : Int → Option Value} (h : MapD w b n f) (m : Nat) : MapD (w.drewN m) b n f := h.e ((E.refl w).drewN m)
theorem firstE_at {l m : List Int} {k : Nat} {e : Int} (h0 : firstE (l.take k) = 0) (hk : l[k]? = some e) (he : e ≠ 0) : firstE (l ++ m) = e := by
  obtain ⟨hlt, hke⟩ := List.getElem?_eq_some_iff.1 hk
  have hl : l = l.take k ++ e :: l.drop (k + 1) := by
    have := List.take_append_drop k l
    rw [List.drop_eq_getElem_cons hlt, hke] at this
    exact this.symm
  rw [hl, List.append_assoc, firstE_app, if_pos h0, List.cons_append, firstE, if_neg he]
theorem firstE_step {l : List Int} {k : Nat} {e : Int} (h0 : firstE (l.take k) = 0) (hk : l[k]? = some e) (he : e = 0) : firstE (l.take (k + 1)) = 0 := by
  rw [List.take_add_one, hk, firstE_app, if_pos h0]
  simp [firstE, he]
theorem pos_get {fs : List Fl} {i : Int} {j : Nat} {q : Fl} (h : posF fs i = some j) (hq : fs[j]? = some q) : getF fs i = some q := by
  obtain ⟨f, h1, h2, _⟩ := posF_some h
  rw [hq] at h1
  injection h1 with h1
  rw [h1]; exact h2
set_option maxHeartbeats 2000000 in
set_option maxRecDepth 100000 in
theorem references_c (g mb km : Nat) (A : Option Addr) (n c : Nat) (fs : List Fl) (f : Fl) (s t : Sl) (w : World) (hg : g < w.heap.size) (hcm : w.cell? ⟨g, 2, none⟩ = some (.map (some mb))) (hM : MapD w mb km (plcV fs)) (h : FlowsAt w A n c fs) (hwf : WfF f) (hb : FlB w f s t) (hpp : ∀ x ∈ f.parts, possB x = true) :
    Calls Try.prog 40 #[.pointer (some ⟨g, 0, none⟩), .slice A n c, flV f s.1 s.2.1 s.2.2 t.1 t.2.1 t.2.2] w (fun e w' => e = .returned (.int .i64 (linkE fs f)) ∧ E w w') := by
  obtain ⟨w1, hw1⟩ : ∃ w1, w.alloc (.cells #[.int .i64 f.id, .int .i64 f.step, .int .i64 f.kind, .int .i64 f.tick, .int .i64 f.actor, .int .i64 f.frm, .int .i64 f.to, .int .i64 f.item, .int .i64 f.n, .slice s.1 s.2.1 s.2.2, .slice t.1 t.2.1 t.2.2] 47) = w1 := ⟨_, rfl⟩
  have hE1 : E w w1 := by rw [← hw1]; exact (E.refl w).alloc _
  have hbx : FlBox w1 w.heap.size f s t := by rw [← hw1]; exact FlBox.new w f s t
  have HBX := Lib.hid hbx
  have h1 := hb.1.e hE1
  have h2 := hb.2.e hE1
  have hA := h.e hE1
  have HM := Lib.hid (hM.e hE1)
  have HG := Lib.hid (show ∀ W, E w1 W → W.cell? ⟨g, 2, none⟩ = some (.map (some mb)) from fun W hE => ((hE1.trans hE).cell (p := ⟨g, 2, none⟩) hg).trans hcm)
  have hm := h1.n63
  have hm2 := h2.n63
  have hm3 := h.n63
  have HL1 := Lib.hid h1.len
  have HL2 := Lib.hid h2.len
  have HL3 := Lib.hid h.len
  have HF := Lib.hid (show linkE fs f = firstE (f.parts.map (partE fs f) ++ f.made.map (madeE fs)) from rfl)
  have HPP := Lib.hid hpp
  generalize linkE fs f = res at *
  clear hM hpp h hb hcm
  unfold flV
  go_enter Try.func40, Try.ntmps40
  go_upto_region 1 with fail
  try rw [hw1]
  clear hw1
  obtain ⟨_, _, _, _, _, _, _, _, _, c9, _⟩ := hbx.cells
  simp only [Nat.zero_add] at c9
  go_wp2_with fail
  clear c9 hbx
  go_loopw [18] (fun ti wr => ∃ k : Nat, k ≤ s.2.1 ∧ ti = .int .i64 k ∧ E w1 wr ∧ Hid (firstE ((f.parts.take k).map (partE fs f)) = 0)) (fun ti _ => s.2.1 - (intOf ti).toNat)
  case atStart => exact ⟨0, Nat.zero_le _, rfl, E.refl _, show _ = _ by rw [List.take_zero]; rfl⟩
  case round =>
    obtain ⟨k, hk, rfl, hE, hz⟩ := hrel
    by_cases hlt : k < s.2.1
    · obtain ⟨b, o, x, hsA, hbb, hx, hwx, d0, d1, d2⟩ := (h1.e hE).get hlt
      have hkI : (k : Int) < (s.2.1 : Int) := by omega
      rw [hsA]
      have hE' := hE.alloc (.cells #[.int .i64 x.1, .int .i64 x.2.1, .int .i64 x.2.2] 32)
      obtain ⟨w2, hw2⟩ : ∃ w2, wr.alloc (.cells #[.int .i64 x.1, .int .i64 x.2.1, .int .i64 x.2.2] 32) = w2 := ⟨_, rfl⟩
      have hx3 := cells3_new wr (.int .i64 x.1) (.int .i64 x.2.1) (.int .i64 x.2.2) 32
      rw [hw2] at hE' hx3
      obtain ⟨x0, x1, x2⟩ := hx3
      have hg2 := HG.out _ hE'
      have hlk := fun m => ((HM.out.e hE').drewN m).lookOk mapIT hwx.1
      have hlk0 := (HM.out.e hE').lookOk mapIT hwx.1
      have hE2 := Lib.hid hE'
      cases hp : posF fs x.1 with
      | none =>
        rw [plc_none hp] at hlk hlk0
        simp only [Option.getD, Option.isSome] at hlk hlk0
        go_upto_region 4 with fail
        try rw [hw2]
        (refine wp_region_quiet_lit (by kernel_rfl) (by kernel_rfl) ?_; (repeat (first | ((with_reducible refine wpQuiet_step (fun K hK => ?_)); go_simp; (with_reducible refine hK _ ?_); clear hK K) | ((with_reducible refine wpQuiet_off (by kernel_rfl) (fun K hK => ?_)); go_simp; (with_reducible refine hK _ ?_); clear hK K))); (with_reducible refine wpQuiet_nil ?_); intro _ hw'; obtain ⟨nq, hw''⟩ := hw'; subst hw'')
        have HR := Lib.hid (show res = 7 by
          have he : partE fs f x = 7 := by rw [partE, posF_none.1 hp]
          rw [HF.out, firstE_at (l := f.parts.map (partE fs f)) (k := k) (by rw [← List.map_take]; exact hz.out) (by rw [List.getElem?_map, hx]; rfl) (by rw [he]; decide), he])
        go_wp2_with fail
        go_ret
        exact ⟨ret_int HR.out.symm, (hE1.trans hE2.out).drewN nq⟩
      | some j =>
        rw [plc_some hp] at hlk hlk0
        simp only [Option.getD, Option.isSome] at hlk hlk0
        obtain ⟨q0, hq0, _, _⟩ := posF_some hp
        have hjn : j < n := by rw [← HL3.out]; exact (List.getElem?_eq_some_iff.1 hq0).1
        obtain ⟨b3, o3, q, s3, t3, hAe, hb3, hq, hwq, hcq, _⟩ := (hA.e hE').get hjn
        have hgq := pos_get hp hq
        have hjI : (j : Int) < (n : Int) := by omega
        have hpx := possB_iff.1 (HPP.out x (List.mem_of_getElem? hx))
        have hwr1 : IntKind.i64.wrap (x.2.1 + x.2.2) = x.2.1 + x.2.2 := by rw [IntKind.wrap_i64]; omega
        rw [hAe]
        unfold FlCells at hcq
        obtain ⟨_, _, _, _, _, _, _, q7, q8, _, _⟩ := hcq
        have hbc := (HBX.out.e hE').cells
        unfold FlCells at hbc
        simp only [Nat.zero_add] at hbc
        obtain ⟨_, _, _, _, _, _, _, f7, _, _, _⟩ := hbc
        have HPE := Lib.hid (show partE fs f x = if q.n < x.2.1 + x.2.2 then 5 else if q.item = f.item then 0 else 9 by rw [partE, hgq])
        have HXK := Lib.hid (show (f.parts.map (partE fs f))[k]? = some (partE fs f x) by rw [List.getElem?_map, hx]; rfl)
        have HZ := Lib.hid (show firstE ((f.parts.map (partE fs f)).take k) = 0 by rw [← List.map_take]; exact hz.out)
        clear hx hp hq hq0 hz hgq hpx
        by_cases h5 : q.n < x.2.1 + x.2.2
        · have d5 : decide (q.n < x.2.1 + x.2.2) = true := by simpa using h5
          have HR := Lib.hid (show res = 5 by
            have he : partE fs f x = 5 := by rw [HPE.out, if_pos h5]
            rw [HF.out, firstE_at HZ.out HXK.out (by rw [he]; decide), he])
          clear h5
          go_upto_region 4 with fail
          try rw [hw2]
          (refine wp_region_quiet_lit (by kernel_rfl) (by kernel_rfl) ?_; (repeat (first | ((with_reducible refine wpQuiet_step (fun K hK => ?_)); go_simp; (with_reducible refine hK _ ?_); clear hK K) | ((with_reducible refine wpQuiet_off (by kernel_rfl) (fun K hK => ?_)); go_simp; (with_reducible refine hK _ ?_); clear hK K))); (with_reducible refine wpQuiet_nil ?_); intro _ hw'; obtain ⟨nq, hw''⟩ := hw'; subst hw'')
          go_upto_region 7 with fail
          (refine wp_region_quiet_lit (by kernel_rfl) (by kernel_rfl) ?_; (repeat (first | ((with_reducible refine wpQuiet_step (fun K hK => ?_)); go_simp; (with_reducible refine hK _ ?_); clear hK K) | ((with_reducible refine wpQuiet_off (by kernel_rfl) (fun K hK => ?_)); go_simp; (with_reducible refine hK _ ?_); clear hK K))); (with_reducible refine wpQuiet_nil ?_); intro _ hw'; obtain ⟨nq, hw''⟩ := hw'; subst hw'')
          go_wp2_with fail
          go_ret
          exact ⟨ret_int HR.out.symm, (((hE1.trans hE2.out).drewN _).drewN _)⟩
        · have d5 : decide (q.n < x.2.1 + x.2.2) = false := by simpa using h5
          by_cases h9 : q.item = f.item
          · have d9 : (q.item != f.item) = false := by simpa using h9
            have HS := Lib.hid (show firstE ((f.parts.take (k + 1)).map (partE fs f)) = 0 by
              rw [List.map_take]
              exact firstE_step HZ.out HXK.out (by rw [HPE.out, if_neg h5, if_pos h9]))
            clear h5 h9
            go_upto_region 4 with fail
            try rw [hw2]
            (refine wp_region_quiet_lit (by kernel_rfl) (by kernel_rfl) ?_; (repeat (first | ((with_reducible refine wpQuiet_step (fun K hK => ?_)); go_simp; (with_reducible refine hK _ ?_); clear hK K) | ((with_reducible refine wpQuiet_off (by kernel_rfl) (fun K hK => ?_)); go_simp; (with_reducible refine hK _ ?_); clear hK K))); (with_reducible refine wpQuiet_nil ?_); intro _ hw'; obtain ⟨nq, hw''⟩ := hw'; subst hw'')
            go_upto_region 7 with fail
            (refine wp_region_quiet_lit (by kernel_rfl) (by kernel_rfl) ?_; (repeat (first | ((with_reducible refine wpQuiet_step (fun K hK => ?_)); go_simp; (with_reducible refine hK _ ?_); clear hK K) | ((with_reducible refine wpQuiet_off (by kernel_rfl) (fun K hK => ?_)); go_simp; (with_reducible refine hK _ ?_); clear hK K))); (with_reducible refine wpQuiet_nil ?_); intro _ hw'; obtain ⟨nq, hw''⟩ := hw'; subst hw'')
            go_upto_region 9 with fail
            (refine wp_region_quiet_lit (by kernel_rfl) (by kernel_rfl) ?_; (repeat (first | ((with_reducible refine wpQuiet_step (fun K hK => ?_)); go_simp; (with_reducible refine hK _ ?_); clear hK K) | ((with_reducible refine wpQuiet_off (by kernel_rfl) (fun K hK => ?_)); go_simp; (with_reducible refine hK _ ?_); clear hK K))); (with_reducible refine wpQuiet_nil ?_); intro _ hw'; obtain ⟨nq, hw''⟩ := hw'; subst hw'')
            go_wp2_with fail
            go_roundw
            case rel => exact ⟨k + 1, by omega, by go_num, hE2.out.drewN _, HS⟩
            case measure => simp [intOf]; omega
          · have d9 : (q.item != f.item) = true := by simpa using h9
            have HR := Lib.hid (show res = 9 by
              have he : partE fs f x = 9 := by rw [HPE.out, if_neg h5, if_neg h9]
              rw [HF.out, firstE_at HZ.out HXK.out (by rw [he]; decide), he])
            clear h5 h9
            go_upto_region 4 with fail
            try rw [hw2]
            (refine wp_region_quiet_lit (by kernel_rfl) (by kernel_rfl) ?_; (repeat (first | ((with_reducible refine wpQuiet_step (fun K hK => ?_)); go_simp; (with_reducible refine hK _ ?_); clear hK K) | ((with_reducible refine wpQuiet_off (by kernel_rfl) (fun K hK => ?_)); go_simp; (with_reducible refine hK _ ?_); clear hK K))); (with_reducible refine wpQuiet_nil ?_); intro _ hw'; obtain ⟨nq, hw''⟩ := hw'; subst hw'')
            go_upto_region 7 with fail
            (refine wp_region_quiet_lit (by kernel_rfl) (by kernel_rfl) ?_; (repeat (first | ((with_reducible refine wpQuiet_step (fun K hK => ?_)); go_simp; (with_reducible refine hK _ ?_); clear hK K) | ((with_reducible refine wpQuiet_off (by kernel_rfl) (fun K hK => ?_)); go_simp; (with_reducible refine hK _ ?_); clear hK K))); (with_reducible refine wpQuiet_nil ?_); intro _ hw'; obtain ⟨nq, hw''⟩ := hw'; subst hw'')
            go_upto_region 9 with fail
            (refine wp_region_quiet_lit (by kernel_rfl) (by kernel_rfl) ?_; (repeat (first | ((with_reducible refine wpQuiet_step (fun K hK => ?_)); go_simp; (with_reducible refine hK _ ?_); clear hK K) | ((with_reducible refine wpQuiet_off (by kernel_rfl) (fun K hK => ?_)); go_simp; (with_reducible refine hK _ ?_); clear hK K))); (with_reducible refine wpQuiet_nil ?_); intro _ hw'; obtain ⟨nq, hw''⟩ := hw'; subst hw'')
            go_wp2_with fail
            go_ret
            exact ⟨ret_int HR.out.symm, (((hE1.trans hE2.out).drewN _).drewN _).drewN _⟩
    · have HZ := Lib.hid (show firstE (f.parts.map (partE fs f)) = 0 by
        have := hz.out
        rwa [List.take_of_length_le (by have := HL1.out; omega)] at this)
      have hbc := (HBX.out.e hE).cells
      unfold FlCells at hbc
      simp only [Nat.zero_add] at hbc
      obtain ⟨_, _, _, _, _, _, _, _, _, _, c10⟩ := hbc
      have HE2 := Lib.hid hE
      clear hz hE
      go_wp2_with fail
      clear c10
      go_loopw [60] (fun ti wq => ∃ k : Nat, k ≤ t.2.1 ∧ ti = .int .i64 k ∧ E w1 wq ∧ Hid (firstE ((f.made.take k).map (madeE fs)) = 0)) (fun ti _ => t.2.1 - (intOf ti).toNat)
      case atStart => exact ⟨0, Nat.zero_le _, rfl, HE2.out, show _ = _ by rw [List.take_zero]; rfl⟩
      case round =>
        clear HE2 hk hlt
        obtain ⟨k2, hk, rfl, hE, hz⟩ := hrel
        by_cases hlt : k2 < t.2.1
        · obtain ⟨b, o, x, hsA, hbb, hx, hwx, d0⟩ := (h2.e hE).get hlt
          have hkI : (k2 : Int) < (t.2.1 : Int) := by omega
          rw [hsA]
          have hg2 := HG.out _ hE
          have hlk0 := (HM.out.e hE).lookOk mapIT hwx
          cases hp : posF fs x with
          | none =>
            rw [plc_none hp] at hlk0
            simp only [Option.getD, Option.isSome] at hlk0
            have HR := Lib.hid (show res = 7 by
              have he : madeE fs x = 7 := by rw [madeE, posF_none.1 hp]; rfl
              rw [HF.out, firstE_app, if_pos HZ.out]
              have := firstE_at (l := f.made.map (madeE fs)) (m := []) (k := k2) (by rw [← List.map_take]; exact hz.out) (by rw [List.getElem?_map, hx]; rfl) (by rw [he]; decide)
              rw [List.append_nil] at this
              rw [this, he])
            clear hx hp hz
            go_wp2_with fail
            go_ret
            exact ⟨ret_int HR.out.symm, hE1.trans hE⟩
          | some j =>
            rw [plc_some hp] at hlk0
            simp only [Option.getD, Option.isSome] at hlk0
            have HS := Lib.hid (show firstE ((f.made.take (k2 + 1)).map (madeE fs)) = 0 by
              obtain ⟨q, _, h2, _⟩ := posF_some hp
              rw [List.map_take]
              exact firstE_step (by rw [← List.map_take]; exact hz.out) (by rw [List.getElem?_map, hx]; rfl) (by rw [madeE, h2]; rfl))
            clear hx hp hz
            go_wp2_with fail
            go_roundw
            case rel => exact ⟨k2 + 1, by omega, by go_num, hE, HS⟩
            case measure => simp [intOf]; omega
        · have HR := Lib.hid (show res = 0 by
            have h5 := hz.out
            rw [List.take_of_length_le (by have := HL2.out; omega)] at h5
            rw [HF.out, firstE_app, if_pos HZ.out, h5])
          go_wp2_with fail
          go_ret
          exact ⟨ret_int HR.out.symm, hE1.trans hE⟩
end Go.Proofs.Ytmeplpiamkaniaa
/- arrange: the function that is called with every ID to which a flow refers. -/
namespace Go.Proofs.Ytmeplpiamkaniaa
set_option linter.unusedVariables false
set_option linter.unusedSimpArgs false
open Go.RowKit

theorem IRow.frz {w : World} {base g n c : Nat} {q : List GR} (h : IRow w base g n c q) (k : Nat) : w.frozen? ⟨g, k, none⟩ = false := by
  rcases h.row.2 with ⟨hv, _⟩ | ⟨g', cap, cur, hv, hb, hh, r⟩
  · injection hv with e1; cases e1
  · have := sl_inj hv
    subst this
    exact frozen_of_row _ _ k _ _ hh
theorem Own.frz {k : IntKind} {T : TypeId} {w : World} {base g n c : Nat} {l : List Int} (h : Own k T w base (some ⟨g, 0, none⟩) n c l) (j : Nat) : w.frozen? ⟨g, j, none⟩ = false := by
  rcases h.2.1.2 with ⟨hv, _⟩ | ⟨g', cap, cur, hv, hb, hh, r⟩
  · injection hv with e1; cases e1
  · have := sl_inj hv
    subst this
    exact frozen_of_row _ _ j _ _ hh
/-- the rows of arrange: who refers to a place; how many references of a flow are missing -/
structure AU (W : World) (b0 gu gm n : Nat) (q : List GR) (ms : List Int) : Prop where
  us : IRow W b0 gu n n q
  ms : Own .i64 3 W b0 (some ⟨gm, 0, none⟩) n n ms
  ne : gu ≠ gm
  ap : ∀ p ∈ q, ob p.2.1 ≠ some gm
def AUX (gu gm : Nat) (q : List GR) (i : Nat) : Prop := i = gu ∨ i = gm ∨ ∃ p ∈ q, ob p.2.1 = some i
/-- what arrange's function reads: boxes, the map of the places -/
structure AK (fs : List Fl) (g mb km G0 B3 B4 D gu gm n i : Nat) (W : World) : Prop where
  c1 : W.heap[G0]? = some (.cells #[.pointer (some ⟨g, 0, none⟩)] 25 (0, 0))
  c2 : W.heap[B3]? = some (.cells #[.slice (some ⟨gu, 0, none⟩) n n] 67 (0, 0))
  c3 : W.heap[B4]? = some (.cells #[.slice (some ⟨gm, 0, none⟩) n n] 22 (0, 0))
  c4 : W.heap[D]? = some (.cells #[.int .i64 (i : Int)] 3 (0, 0))
  cg : W.cell? ⟨g, 2, none⟩ = some (.map (some mb))
  m : MapD W mb km (plcV fs)
def AKB (g mb G0 B3 B4 D b : Nat) : Prop := b = G0 ∨ b = B3 ∨ b = B4 ∨ b = D ∨ b = g ∨ b = mb
section
variable {fs : List Fl} {g mb km G0 B3 B4 D gu gm n i b0 : Nat} {W W' : World} {q : List GR} {ms : List Int}
theorem AU.e (h : AU W b0 gu gm n q ms) (hE : E W W') : AU W' b0 gu gm n q ms := ⟨h.us.e hE, h.ms.e hE, h.ne, h.ap⟩
theorem AU.xlt (h : AU W b0 gu gm n q ms) {j : Nat} (hj : AUX gu gm q j) : b0 ≤ j ∧ j < W.heap.size := by
  rcases hj with rfl | rfl | ⟨p, hp, hj⟩
  · exact h.us.lt
  · exact h.ms.ltN _ rfl
  · exact (h.us.own p hp).ltN j hj
theorem AK.keep (h : AK fs g mb km G0 B3 B4 D gu gm n i W) (hk : ∀ b, AKB g mb G0 B3 B4 D b → W'.heap[b]? = W.heap[b]?) : AK fs g mb km G0 B3 B4 D gu gm n i W' :=
  ⟨(hk _ (.inl rfl)).trans h.c1, (hk _ (.inr (.inl rfl))).trans h.c2, (hk _ (.inr (.inr (.inl rfl)))).trans h.c3, (hk _ (.inr (.inr (.inr (.inl rfl))))).trans h.c4,
    (World.cell?_of_block (a := ⟨g, 2, none⟩) (hk _ (.inr (.inr (.inr (.inr (.inl rfl))))))).trans h.cg, h.m.block (hk _ (.inr (.inr (.inr (.inr (.inr rfl))))))⟩
theorem AK.lt (h : AK fs g mb km G0 B3 B4 D gu gm n i W) {b : Nat} (hb : AKB g mb G0 B3 B4 D b) : b < W.heap.size := by
  rcases hb with rfl | rfl | rfl | rfl | rfl | rfl
  · exact lt_blk h.c1
  · exact lt_blk h.c2
  · exact lt_blk h.c3
  · exact lt_blk h.c4
  · exact World.block_lt_of_cell? _ _ h.cg
  · exact h.m.lt
theorem AK.e (h : AK fs g mb km G0 B3 B4 D gu gm n i W) (hE : E W W') : AK fs g mb km G0 B3 B4 D gu gm n i W' := h.keep fun _ hb => hE.block (h.lt hb)
end
/-- reference to p: i stands behind the users of p, and one more is missing of i -/
def ArrPost (W : World) (b0 gu gm n : Nat) (q : List GR) (ms : List Int) (p i : Nat) (x : Int) (e : Ending) (W' : World) : Prop :=
  e = .returned (.tuple #[]) ∧ ∃ (r : GR) (A' : Option Addr) (c' : Nat), q[p]? = some r ∧ AU W' b0 gu gm n (q.set p (r.1 ++ [(i : Int)], A', r.2.2.1 + 1, c')) (ms.set i (x + 1)) ∧ Ex (AUX gu gm q) W W' ∧ ∀ b, AUX gu gm (q.set p (r.1 ++ [(i : Int)], A', r.2.2.1 + 1, c')) b → AUX gu gm q b ∨ W.heap.size ≤ b
theorem step_app_runQ {P : Program} {S : TypeId} {W w' : World} {ops : Array Oper} {o : Oper} {a : Act} {K : Act → World → Prop} {Q : Exit → Act → World → Prop} {R : Prop} (hgd : o.guard = none) (s x : Operand)
    (ho : o.op = .call { callee := .builtin .append, args := #[s, x], argTypes := #[S, S] }) {v1 v2 v : Value} (hs : a.eval s = v1) (hx : a.eval x = v2) (hrun : (Builtin.append_ #[S, S] o.type #[v1, v2]).run P W = .ok v w') (h : K (a.put o.dst v) w') :
    if Region.wanted o (yielded ops a.tmps) = true then Oper.wp P o a W K Q else R := by
  have hw : Region.wanted o (yielded ops a.tmps) = true := by simp [Region.wanted, hgd]
  rw [if_pos hw]
  unfold Oper.wp execOp
  simp only [ho, resolve, invoke, builtin, Sem.run_bind, Sem.run_pure, Result.andThen_ok, List.map_toArray, List.map_cons, List.map_nil, hs, hx, hrun]
  exact h
set_option linter.unusedSimpArgs false in
set_option maxHeartbeats 4000000 in
set_option maxRecDepth 100000 in
theorem arr1_c (fs : List Fl) (g mb km G0 B3 B4 D gu gm n i b0 : Nat) (W : World) (q : List GR) (ms : List Int) (id : Int) (p : Nat) (hA : AK fs g mb km G0 B3 B4 D gu gm n i W) (hU : AU W b0 gu gm n q ms) (hK : ∀ b, AKB g mb G0 B3 B4 D b → ¬ AUX gu gm q b)
    (hid : (Lit.int .i64 id).wf = true) (hp : posF fs id = some p) (hpn : p < n) (hin : i < n) (hn : n ≤ 100000) (hsm : ∀ r ∈ q, r.2.2.1 ≤ 1000000) (x : Int) (hx : ms[i]? = some x) (hx1 : 0 ≤ x ∧ x ≤ 1000000) :
    Calls Try.prog 80 #[.int .i64 id, .pointer (some ⟨G0, 0, none⟩), .pointer (some ⟨B3, 0, none⟩), .pointer (some ⟨D, 0, none⟩), .pointer (some ⟨B4, 0, none⟩)] W (ArrPost W b0 gu gm n q ms p i x) := by
  obtain ⟨r, hr⟩ : ∃ r, q[p]? = some r := ⟨q[p]'(by rw [hU.us.len]; exact hpn), List.getElem?_eq_getElem _⟩
  have HR := Lib.hid hr
  have hrm := List.mem_of_getElem? hr
  have HA := Lib.hid hA
  have HU := Lib.hid hU
  have HK := Lib.hid hK
  have HS := Lib.hid (hsm r hrm)
  have HX := Lib.hid (And.intro hx hx1)
  have hwi : (Lit.int .i64 (i : Int)).wf = true := wf_of_i64 (by omega) (by omega)
  have hlk := hA.m.lookOk mapIT hid
  have hl1 := hA.m.look mapIT hid
  rw [plc_some hp] at hl1
  simp only [Option.getD] at hl1
  have k1 := (cell_one hA.c1).1
  have k2 := (cell_one hA.c2).1
  have k3 := (cell_one hA.c3).1
  have k4 := (cell_one hA.c4).1
  have kg := hA.cg
  have hpI : (p : Int) < (n : Int) := by omega
  clear hlk hr hA hU hK hsm hx hx1
  -- the world behind the slice that is built
  obtain ⟨V, hV⟩ : ∃ V, W.drew.alloc (.cells #[.int .i64 (i : Int)] 3) = V := ⟨_, rfl⟩
  have hEd : E W W.drew := (E.refl W).drew
  have hEV : E W V := by rw [← hV]; exact hEd.alloc _
  have hVz : V.heap.size = W.heap.size + 1 := by rw [← hV]; simp
  have hVc : V.cell? ⟨W.heap.size, 0, none⟩ = some (.int .i64 (i : Int)) := by rw [← hV]; exact cell_new _ _ _
  obtain ⟨A', c', V1, hrun, hG, hor, hcg, hI, hB⟩ := (HU.out.us.e hEV).add HR.out (i : Int) hwi (by have := HS.out; omega) (by have h1 := HU.out.us.lt; have h2 := hEV.le; omega) 22 1 W.heap.size hVc
  have hrO := HU.out.us.own r hrm
  have hXV : Ex (AUX gu gm q) W V := Ex.of_e hEV
  have hX1 : Ex (AUX gu gm q) W V1 := hXV.grown hG (fun k hk => .inr (.inr (.inr ⟨r, hrm, hk⟩)))
  have hX2 : Ex (AUX gu gm q) W (V1.setCell ⟨gu, p, none⟩ (.slice A' (r.2.2.1 + 1) c')) := hX1.setCell ⟨gu, p, none⟩ (.inr (.inl rfl)) _
  have a1 := HA.out.e hEV
  have a2 : AK fs g mb km G0 B3 B4 D gu gm n i V1 := HA.out.keep fun b hb => hX1.block b (HA.out.lt hb) (HK.out b hb)
  have a3 : AK fs g mb km G0 B3 B4 D gu gm n i (V1.setCell ⟨gu, p, none⟩ (.slice A' (r.2.2.1 + 1) c')) := HA.out.keep fun b hb => hX2.block b (HA.out.lt hb) (HK.out b hb)
  have s0 := (hEd.cell (p := ⟨B3, 0, none⟩) (lt_blk HA.out.c2)).trans k2
  have s0' := (hEd.cell (p := ⟨D, 0, none⟩) (lt_blk HA.out.c4)).trans k4
  have s1 := (cell_one a1.c2).1
  have s2 := (cell_one a1.c4).1
  have s3 := (cell_one a2.c2).1
  have s4 := (cell_one a2.c4).1
  have s5 := (cell_one a3.c2).1
  have s6 := (cell_one a3.c4).1
  have s7 := (cell_one a3.c3).1
  have r0 := (hEd.cell (p := ⟨gu, p, none⟩) HU.out.us.lt.2).trans (HU.out.us.cell HR.out)
  have r1 := (HU.out.us.e hEV).cell HR.out
  have r2 := (hcg p).trans r1
  have hgu1 : V1.heap[gu]? = V.heap[gu]? := hG.block gu (by have := HU.out.us.lt.2; omega) (fun e => HU.out.us.ne r hrm e.symm)
  have f2 : V1.frozen? ⟨gu, p, none⟩ = false := (World.frozen?_of_block (a := ⟨gu, p, none⟩) hgu1).trans ((HU.out.us.e hEV).frz p)
  have hgm1 : V1.heap[gm]? = W.heap[gm]? := (hG.block gm (by have := (HU.out.ms.ltN gm rfl).2; omega) (fun e => HU.out.ap r hrm e.symm)).trans (hEV.block (HU.out.ms.ltN gm rfl).2)
  have hXg : Ex (fun j => j = gu) V1 (V1.setCell ⟨gu, p, none⟩ (.slice A' (r.2.2.1 + 1) c')) := (Ex.refl (fun j => j = gu) V1).setCell ⟨gu, p, none⟩ (.inr rfl) _
  have hXo : Ex (fun j => ob r.2.1 = some j) W V1 := (Ex.of_e hEV).grown hG (fun k hk => .inr hk)
  have hms2 : Own .i64 3 (V1.setCell ⟨gu, p, none⟩ (.slice A' (r.2.2.1 + 1) c')) b0 (some ⟨gm, 0, none⟩) n n ms :=
    (HU.out.ms.ex hXo (fun b hb e => HU.out.ap r hrm (by rw [e]; injection hb with hb; rw [← hb]))).ex hXg (fun b hb e => by injection hb with hb; exact HU.out.ne (e.symm.trans hb.symm))
  have hAp : ∀ b, ob A' = some b → ob r.2.1 = some b ∨ W.heap.size + 1 ≤ b := fun b hb => by
    rcases hor with e | e
    · exact .inl (e ▸ hb)
    · rw [e] at hb; injection hb with hb; right; omega
  have hgmV : gm < W.heap.size := (HU.out.ms.ltN gm rfl).2
  obtain ⟨b9, o9, x9, e9, _, hx9, _, d9⟩ := hms2.reads.get (i := i) hin
  injection e9 with e9
  injection e9 with e91 e92
  subst e91 e92
  have hx9' : x9 = x := by have := HX.out.1; rw [this] at hx9; exact (Option.some.inj hx9).symm
  subst hx9'
  simp only [Nat.zero_add] at d9
  have f9 := hms2.frz i
  have hinI : (i : Int) < (n : Int) := by omega
  have hwx : IntKind.i64.wrap (x9 + 1) = x9 + 1 := by have := HX.out.2; rw [IntKind.wrap_i64]; omega
  have hst := hms2.set i (x9 + 1) (wf_of_i64 (by have := HX.out.2; omega) (by have := HX.out.2; omega))
  have HFin := Lib.hid (show AU ((V1.setCell ⟨gu, p, none⟩ (.slice A' (r.2.2.1 + 1) c')).setCell ⟨gm, i, none⟩ (.int .i64 (x9 + 1))) b0 gu gm n (q.set p (r.1 ++ [(i : Int)], A', r.2.2.1 + 1, c')) (ms.set i (x9 + 1)) ∧ Ex (AUX gu gm q) W ((V1.setCell ⟨gu, p, none⟩ (.slice A' (r.2.2.1 + 1) c')).setCell ⟨gm, i, none⟩ (.int .i64 (x9 + 1))) ∧ ∀ b, AUX gu gm (q.set p (r.1 ++ [(i : Int)], A', r.2.2.1 + 1, c')) b → AUX gu gm q b ∨ W.heap.size ≤ b from by
    have hXm : Ex (fun j => j = gm) (V1.setCell ⟨gu, p, none⟩ (.slice A' (r.2.2.1 + 1) c')) ((V1.setCell ⟨gu, p, none⟩ (.slice A' (r.2.2.1 + 1) c')).setCell ⟨gm, i, none⟩ (.int .i64 (x9 + 1))) := (Ex.refl (fun j => j = gm) _).setCell ⟨gm, i, none⟩ (.inr rfl) _
    have hap' : ∀ y ∈ q.set p (r.1 ++ [(i : Int)], A', r.2.2.1 + 1, c'), ob y.2.1 ≠ some gm := fun y hy => by
      rcases List.mem_or_eq_of_mem_set hy with hy | rfl
      · exact HU.out.ap y hy
      · intro e
        rcases hAp gm e with h | h
        · exact HU.out.ap r hrm h
        · omega
    refine ⟨⟨hI.ex hXm (fun e => HU.out.ne e) (fun y hy b hb e => hap' y hy (by rw [hb, e])), hst, HU.out.ne, hap'⟩, hX2.setCell ⟨gm, i, none⟩ (.inr (.inr (.inl rfl))) _, fun b hb => ?_⟩
    rcases hb with hb | hb | ⟨y, hy, hb⟩
    · exact .inl (.inl hb)
    · exact .inl (.inr (.inl hb))
    · rcases List.mem_or_eq_of_mem_set hy with hy | rfl
      · exact .inl (.inr (.inr ⟨y, hy, hb⟩))
      · rcases hAp b hb with h | h
        · exact .inl (.inr (.inr ⟨r, hrm, h⟩))
        · right; omega)
  clear hst hI hB hcg hor hG hX1 hX2 hXV hXg hXo hms2 hgu1 hgm1 hrO a1 a2 a3 hAp hx9
  go_enter Try.func80, Try.ntmps80
  go_upto_region 1 with fail
  refine wp_region_held_drew (S := (fun w' => w'.cell? ⟨B3, 0, none⟩ = some (.slice (some ⟨gu, 0, none⟩) n n) ∧ w'.cell? ⟨D, 0, none⟩ = some (.int .i64 (i : Int)))) (by kernel_rfl) ⟨s0, s0'⟩ (fun hHeld => ?_)
  (((refine wpAnyH_take (i := 0) (v := ?_) rfl (by kernel_rfl) (by kernel_rfl) (by kernel_rfl) (fun _ _ _ h => h) (Or.inl ⟨by kernel_rfl, ?_⟩) (by assumption) ?_); rotate_left 1; (focus (intro w hSw; (try dsimp only at hSw); go_simp; (try with_reducible rfl))); (try simp only [Act.put, List.setIfInBounds_toArray, List.set_cons_zero, List.set_cons_succ])); ((refine wpAnyH_take (i := 1) (v := ?_) rfl (by kernel_rfl) (by kernel_rfl) (by kernel_rfl) (fun _ _ _ h => h) (Or.inl ⟨by kernel_rfl, ?_⟩) (by assumption) ?_); rotate_left 1; (focus (intro w hSw; (try dsimp only at hSw); go_simp; (try with_reducible rfl))); (try simp only [Act.put, List.setIfInBounds_toArray, List.set_cons_zero, List.set_cons_succ])); ((refine wpAnyH_take (i := 2) (v := ?_) rfl (by kernel_rfl) (by kernel_rfl) (by kernel_rfl) (fun _ _ _ h => h) (Or.inl ⟨by kernel_rfl, ?_⟩) (by assumption) ?_); rotate_left 1; (focus (intro w hSw; (try dsimp only at hSw); go_simp; (try with_reducible rfl))); (try simp only [Act.put, List.setIfInBounds_toArray, List.set_cons_zero, List.set_cons_succ])); ((refine wpAnyH_take (i := 3) (v := ?_) rfl (by kernel_rfl) (by kernel_rfl) (by kernel_rfl) (fun _ _ _ h => h) (Or.inl ⟨by kernel_rfl, ?_⟩) (by assumption) ?_); rotate_left 1; (focus (intro w hSw; (try dsimp only at hSw); go_simp; (try with_reducible rfl))); (try simp only [Act.put, List.setIfInBounds_toArray, List.set_cons_zero, List.set_cons_succ])); ((refine wpAnyH_take (i := 4) (v := ?_) rfl (by kernel_rfl) (by kernel_rfl) (by kernel_rfl) (fun _ _ _ h => h) (Or.inl ⟨by kernel_rfl, ?_⟩) (by assumption) ?_); rotate_left 1; (focus (intro w hSw; (try dsimp only at hSw); go_simp; (try with_reducible rfl))); (try simp only [Act.put, List.setIfInBounds_toArray, List.set_cons_zero, List.set_cons_succ])); ((refine wpAnyH_take (i := 6) (v := ?_) rfl (by kernel_rfl) (by kernel_rfl) (by kernel_rfl) (fun _ _ _ h => h) (Or.inl ⟨by kernel_rfl, ?_⟩) (by assumption) ?_); rotate_left 1; (focus (intro w hSw; (try dsimp only at hSw); go_simp; (try with_reducible rfl))); (try simp only [Act.put, List.setIfInBounds_toArray, List.set_cons_zero, List.set_cons_succ])))
  clear hHeld
  refine wpAnyH_ready (rs := [5, 7]) (by kernel_rfl) (by simp) ?_
  refine AllReadyH.cons rfl (fun K hK => ?_) (AllReadyH.cons rfl (fun K hK => ?_) AllReadyH.nil)
  · rw [if_pos (by kernel_rfl)]
    go_simp
    refine hK _ _ ⟨s0, s0'⟩ (fun hh => ?_)
    clear hK K hh
    (try simp only [Act.put, List.setIfInBounds_toArray, List.set_cons_zero, List.set_cons_succ])
    (((refine wpAnyH_ready (rs := [7]) (by kernel_rfl) (by simp) ?_); (refine AllReadyH.cons rfl (fun K hK => ?_) AllReadyH.nil); (rw [if_pos (by kernel_rfl)]); go_simp))
    (try rw [hV])
    refine hK _ _ ⟨s1, s2⟩ (fun hh => ?_)
    clear hK K hh
    (try simp only [Act.put, List.setIfInBounds_toArray, List.set_cons_zero, List.set_cons_succ])
    refine wpAnyH_ready (rs := [8]) (by kernel_rfl) (by simp) ?_
    refine AllReadyH.cons rfl (fun K hK => ?_) AllReadyH.nil
    refine step_app_runQ (by rfl) _ _ (by rfl) (by rfl) (by rfl) hrun ?_
    refine hK _ _ ⟨s3, s4⟩ (fun hh => ?_)
    clear hK K
    (try simp only [Act.put, List.setIfInBounds_toArray, List.set_cons_zero, List.set_cons_succ])
    (((refine wpAnyH_take (i := 9) (v := ?_) rfl (by kernel_rfl) (by kernel_rfl) (by kernel_rfl) (fun _ _ _ h => h) (Or.inl ⟨by kernel_rfl, ?_⟩) (by assumption) ?_); rotate_left 1; (focus (intro w hSw; (try dsimp only at hSw); go_simp; (try with_reducible rfl))); (try simp only [Act.put, List.setIfInBounds_toArray, List.set_cons_zero, List.set_cons_succ])))
    (((refine wpAnyH_ready (rs := [10]) (by kernel_rfl) (by simp) ?_); (refine AllReadyH.cons rfl (fun K hK => ?_) AllReadyH.nil); (rw [if_pos (by kernel_rfl)]); go_simp))
    refine hK _ _ ⟨s5, s6⟩ (fun hh2 => ?_)
    clear hK K hh hh2
    (try simp only [Act.put, List.setIfInBounds_toArray, List.set_cons_zero, List.set_cons_succ])
    refine wpAnyH_done (by kernel_rfl) ?_ _
    go_simp
    go_wp2_with fail
    go_end0
    exact ⟨rfl, r, A', c', HR.out, HFin.out⟩
  · rw [if_pos (by kernel_rfl)]
    go_simp
    (try rw [hV])
    refine hK _ _ ⟨s1, s2⟩ (fun hh => ?_)
    clear hK K hh
    (try simp only [Act.put, List.setIfInBounds_toArray, List.set_cons_zero, List.set_cons_succ])
    (((refine wpAnyH_ready (rs := [5]) (by kernel_rfl) (by simp) ?_); (refine AllReadyH.cons rfl (fun K hK => ?_) AllReadyH.nil); (rw [if_pos (by kernel_rfl)]); go_simp))
    refine hK _ _ ⟨s1, s2⟩ (fun hh => ?_)
    clear hK K hh
    (try simp only [Act.put, List.setIfInBounds_toArray, List.set_cons_zero, List.set_cons_succ])
    refine wpAnyH_ready (rs := [8]) (by kernel_rfl) (by simp) ?_
    refine AllReadyH.cons rfl (fun K hK => ?_) AllReadyH.nil
    refine step_app_runQ (by rfl) _ _ (by rfl) (by rfl) (by rfl) hrun ?_
    refine hK _ _ ⟨s3, s4⟩ (fun hh => ?_)
    clear hK K
    (try simp only [Act.put, List.setIfInBounds_toArray, List.set_cons_zero, List.set_cons_succ])
    (((refine wpAnyH_take (i := 9) (v := ?_) rfl (by kernel_rfl) (by kernel_rfl) (by kernel_rfl) (fun _ _ _ h => h) (Or.inl ⟨by kernel_rfl, ?_⟩) (by assumption) ?_); rotate_left 1; (focus (intro w hSw; (try dsimp only at hSw); go_simp; (try with_reducible rfl))); (try simp only [Act.put, List.setIfInBounds_toArray, List.set_cons_zero, List.set_cons_succ])))
    (((refine wpAnyH_ready (rs := [10]) (by kernel_rfl) (by simp) ?_); (refine AllReadyH.cons rfl (fun K hK => ?_) AllReadyH.nil); (rw [if_pos (by kernel_rfl)]); go_simp))
    refine hK _ _ ⟨s5, s6⟩ (fun hh2 => ?_)
    clear hK K hh hh2
    (try simp only [Act.put, List.setIfInBounds_toArray, List.set_cons_zero, List.set_cons_succ])
    refine wpAnyH_done (by kernel_rfl) ?_ _
    go_simp
    go_wp2_with fail
    go_end0
    exact ⟨rfl, r, A', c', HR.out, HFin.out⟩
end Go.Proofs.Ytmeplpiamkaniaa
/- arrange: the users of all flows are gathered. -/
namespace Go.Proofs.Ytmeplpiamkaniaa
set_option linter.unusedVariables false
set_option linter.unusedSimpArgs false
open Go.RowKit

def plc (fs : List Fl) (j : Int) : Nat := (posF fs j).getD 0
def edAux (fs : List Fl) : Nat → List Fl → List Ed
  | _, [] => []
  | i, f :: r => ((refsF f).map fun j => (i, plc fs j)) ++ edAux fs (i + 1) r
theorem edAux_app (fs : List Fl) (i : Nat) (a b : List Fl) : edAux fs i (a ++ b) = edAux fs i a ++ edAux fs (i + a.length) b := by
  induction a generalizing i with
  | nil => simp [edAux]
  | cons f a ih => rw [List.cons_append, edAux, edAux, ih, List.append_assoc, List.length_cons, show i + 1 + a.length = i + (a.length + 1) by omega]
def edF (fs : List Fl) (k : Nat) : List Ed := edAux fs 0 (fs.take k)
theorem edF_succ {fs : List Fl} {k : Nat} {f : Fl} (h : fs[k]? = some f) : edF fs (k + 1) = edF fs k ++ (refsF f).map fun j => (k, plc fs j) := by
  have hk := (List.getElem?_eq_some_iff.1 h).1
  unfold edF
  rw [List.take_add_one, h, edAux_app, List.length_take, Nat.min_eq_left (by omega), Nat.zero_add]
  simp [edAux]
theorem edAux_mem {fs : List Fl} {l : List Fl} {b : Nat} {i p : Nat} : (i, p) ∈ edAux fs b l ↔ ∃ k f, l[k]? = some f ∧ i = b + k ∧ ∃ j ∈ refsF f, plc fs j = p := by
  induction l generalizing b with
  | nil => simp [edAux]
  | cons f l ih =>
    rw [edAux, List.mem_append, ih, List.mem_map]
    constructor
    · rintro (⟨j, hj, e⟩ | ⟨k, g, h1, h2, h3⟩)
      · injection e with e1 e2
        exact ⟨0, f, rfl, by omega, j, hj, e2⟩
      · exact ⟨k + 1, g, by simpa using h1, by omega, h3⟩
    · rintro ⟨k, g, h1, h2, j, hj, h4⟩
      cases k with
      | zero => simp at h1; subst h1; exact .inl ⟨j, hj, by rw [h4, h2, Nat.add_zero]⟩
      | succ k => exact .inr ⟨k, g, by simpa using h1, by omega, j, hj, h4⟩
theorem edF_of {fs : List Fl} (h : ∀ f ∈ fs, ∀ j ∈ refsF f, ∃ p, posF fs j = some p) : EdOf fs (edF fs fs.length) := by
  intro i p
  rw [edF, List.take_length, edAux_mem]
  constructor
  · rintro ⟨k, f, h1, h2, j, hj, h4⟩
    obtain ⟨p', hp⟩ := h f (List.mem_of_getElem? h1) j hj
    refine ⟨f, by rw [h2, Nat.zero_add]; exact h1, j, hj, ?_⟩
    rw [plc, hp] at h4
    simp only [Option.getD_some] at h4
    rw [hp, h4]
  · rintro ⟨f, h1, j, hj, h4⟩
    exact ⟨i, f, h1, by omega, j, hj, by rw [plc, h4]; rfl⟩
def refCnt (fs : List Fl) : Nat := (fs.map fun f => (refsF f).length).sum
theorem edAux_len (fs l : List Fl) (b : Nat) : (edAux fs b l).length = refCnt l := by
  induction l generalizing b with
  | nil => rfl
  | cons f l ih => rw [edAux, List.length_append, ih, List.length_map]; simp [refCnt]
theorem edF_len (fs : List Fl) (k : Nat) : (edF fs k).length ≤ refCnt fs := by
  rw [edF, edAux_len]
  have h := List.take_append_drop k fs
  have : refCnt fs = refCnt (fs.take k) + refCnt (fs.drop k) := by
    conv => lhs; rw [← h]
    simp only [refCnt, List.map_append, List.sum_append]
  omega
theorem us_len (E : List Ed) (p : Nat) : (us E p).length ≤ E.length := by rw [us, List.length_map]; exact List.length_filter_le _ _
theorem misN_le (E : List Ed) (i : Nat) : misN E i ≤ E.length := List.countP_le_length
/-- the rows hold what is known of the references E -/
structure AE (n : Nat) (E : List Ed) (q : List GR) (ms : List Int) : Prop where
  q : ∀ (p : Nat) (r : GR), q[p]? = some r → r.1 = ints (us E p)
  ms : ∀ i, i < n → ms[i]? = some ((misN E i : Nat) : Int)
theorem AE.add {n : Nat} {E : List Ed} {q : List GR} {ms : List Int} (h : AE n E q ms) {p i : Nat} {r : GR} (hr : q[p]? = some r) (hl : ms.length = n) (s : Sl) :
    AE n (E ++ [(i, p)]) (q.set p (r.1 ++ [(i : Int)], s)) (ms.set i (((misN E i : Nat) : Int) + 1)) := by
  have hp := (List.getElem?_eq_some_iff.1 hr).1
  refine ⟨fun p' r' h' => ?_, fun i' hi' => ?_⟩
  · rw [us_app]
    by_cases e : p = p'
    · subst e
      rw [List.getElem?_set_self hp] at h'
      injection h' with h'
      subst h'
      rw [if_pos rfl, ints_app, h.q p r hr]; rfl
    · rw [List.getElem?_set_ne e] at h'
      rw [if_neg e]
      exact h.q p' r' h'
  · rw [misN_app]
    by_cases e : i = i'
    · subst e
      rw [if_pos rfl, List.getElem?_set_self (by omega)]
      simp
    · rw [if_neg e, List.getElem?_set_ne e]
      exact h.ms i' hi'
/-- what arrange's function has made of the IDs so far -/
def JA (fs : List Fl) (g mb km G0 B3 B4 D gu gm n i b0 : Nat) (E0 : List Ed) (pre : List Int) (X : Nat → Prop) (W : World) : Prop :=
  ∃ q ms, AU W b0 gu gm n q ms ∧ AK fs g mb km G0 B3 B4 D gu gm n i W ∧ (∀ b, AKB g mb G0 B3 B4 D b → ¬ AUX gu gm q b) ∧ X = AUX gu gm q ∧ AE n (E0 ++ pre.map fun j => (i, plc fs j)) q ms
theorem arr_visits (fs : List Fl) (g mb km G0 B3 B4 D gu gm n i b0 : Nat) (E0 : List Ed) (f : Fl) (hn : n ≤ 100000) (hin : i < n) (hE : E0.length + (refsF f).length ≤ 900000) (hf : ∀ j ∈ refsF f, (Lit.int .i64 j).wf = true ∧ ∃ p, posF fs j = some p ∧ p < n) :
    Visits 80 [.pointer (some ⟨G0, 0, none⟩), .pointer (some ⟨B3, 0, none⟩), .pointer (some ⟨D, 0, none⟩), .pointer (some ⟨B4, 0, none⟩)] (fun pre id => ∃ k : Nat, (refsF f)[k]? = some id ∧ pre = (refsF f).take k) (JA fs g mb km G0 B3 B4 D gu gm n i b0 E0) := by
  refine ⟨?_, ?_, ?_⟩
  · rintro pre X W W' ⟨q, ms, h1, h2, h3, h4, h5⟩ hE
    exact ⟨q, ms, h1.e hE, h2.e hE, h3, h4, h5⟩
  · rintro pre X W ⟨q, ms, h1, h2, h3, rfl, h5⟩ j hj
    exact (h1.xlt hj).2
  · rintro pre X W id ⟨k, hk, rfl⟩ ⟨q, ms, h1, h2, h3, rfl, h5⟩
    obtain ⟨hwf, p, hp, hpn⟩ := hf id (List.mem_of_getElem? hk)
    have hlk : k < (refsF f).length := (List.getElem?_eq_some_iff.1 hk).1
    have hlen : (E0 ++ ((refsF f).take k).map fun j => (i, plc fs j)).length ≤ 900000 := by
      rw [List.length_append, List.length_map, List.length_take]; omega
    have hsm : ∀ r ∈ q, r.2.2.1 ≤ 1000000 := fun r hr => by
      obtain ⟨p', hp'⟩ := List.getElem?_of_mem hr
      have e1 := h5.q p' r hp'
      have e2 := (h1.us.own r hr).1
      have e3 := us_len (E0 ++ ((refsF f).take k).map fun j => (i, plc fs j)) p'
      have e4 : r.1.length = (us (E0 ++ ((refsF f).take k).map fun j => (i, plc fs j)) p').length := by rw [e1, ints_len]
      omega
    refine (arr1_c fs g mb km G0 B3 B4 D gu gm n i b0 W q ms id p h2 h1 h3 hwf hp hpn hin hn hsm _ (h5.ms i hin) ⟨by omega, by have := misN_le (E0 ++ ((refsF f).take k).map fun j => (i, plc fs j)) i; omega⟩).mono ?_
    rintro e W' ⟨rfl, r, A', c', hr, hU, hX, hN⟩
    refine ⟨rfl, _, ⟨_, _, hU, ?_, ?_, rfl, ?_⟩, hX, hN⟩
    · exact h2.keep fun b hb => hX.block b (h2.lt hb) (h3 b hb)
    · intro b hb hx
      rcases hN b hx with h | h
      · exact h3 b hb h
      · have := h2.lt hb; omega
    · have hlm : ms.length = n := h1.ms.1
      have := h5.add (i := i) hr hlm (A', r.2.2.1 + 1, c')
      rw [List.map_append, ← List.append_assoc]
      have e : plc fs id = p := by rw [plc, hp]; rfl
      simp only [List.map_cons, List.map_nil, e]
      exact this
end Go.Proofs.Ytmeplpiamkaniaa
/- arrange. -/
namespace Go.Proofs.Ytmeplpiamkaniaa
set_option linter.unusedVariables false
set_option linter.unusedSimpArgs false
open Go.RowKit

theorem FRow.ex {X : Nat → Prop} {w w' : World} {base : Nat} {A : Option Addr} {n c : Nat} {q : List FlSl} (h : FRow w base A n c q) (hX : Ex X w w') (hA : ∀ b, ob A = some b → ¬ X b) (hs : ∀ p ∈ q, (∀ b, ob p.2.1.1 = some b → ¬ X b) ∧ (∀ b, ob p.2.2.1 = some b → ¬ X b)) : FRow w' base A n c q := by
  obtain ⟨h1, h2, h3⟩ := h
  refine ⟨h1, ⟨h2.1, ?_⟩, fun p hp => ?_⟩
  · rcases h2.2 with a2 | ⟨g, cap, cur, hv, hb, hh, r⟩
    · exact .inl a2
    · have hg : ob A = some g := by injection hv with e1; rw [e1]; rfl
      exact .inr ⟨g, cap, cur, hv, hb, by rw [hX.block g (lt_blk hh) (hA g hg)]; exact hh, r⟩
  · obtain ⟨a, b, c⟩ := h3 p hp
    exact ⟨a, ⟨b.1.exX hX (fun _ => (hs p hp).1), b.2.exX hX (fun _ => (hs p hp).2)⟩, c⟩
theorem FRow.exX {X : Nat → Prop} {w w' : World} {base : Nat} {A : Option Addr} {n c : Nat} {q : List FlSl} (h : FRow w base A n c q) (hX : Ex X w w') (hA : ∀ b, ob A = some b → ¬ X b) (hs : ∀ p ∈ q, (0 < p.2.1.2.1 → ∀ b, ob p.2.1.1 = some b → ¬ X b) ∧ (0 < p.2.2.2.1 → ∀ b, ob p.2.2.1 = some b → ¬ X b)) : FRow w' base A n c q := by
  obtain ⟨h1, h2, h3⟩ := h
  refine ⟨h1, ⟨h2.1, ?_⟩, fun p hp => ?_⟩
  · rcases h2.2 with a2 | ⟨g, cap, cur, hv, hb, hh, r⟩
    · exact .inl a2
    · have hg : ob A = some g := by injection hv with e1; rw [e1]; rfl
      exact .inr ⟨g, cap, cur, hv, hb, by rw [hX.block g (lt_blk hh) (hA g hg)]; exact hh, r⟩
  · obtain ⟨a, b, c⟩ := h3 p hp
    exact ⟨a, ⟨b.1.exX hX (hs p hp).1, b.2.exX hX (hs p hp).2⟩, c⟩
/-- the block of a graph -/
def GBlk (w : World) (g : Nat) (F S O H : Value) (mb : Nat) : Prop := w.heap[g]? = some (.cells #[F, S, .map (some mb), O, H] 70 (0, 0))
theorem GBlk.cells {w : World} {g : Nat} {F S O H : Value} {mb : Nat} (h : GBlk w g F S O H mb) : w.cell? ⟨g, 0, none⟩ = some F ∧ w.cell? ⟨g, 1, none⟩ = some S ∧ w.cell? ⟨g, 2, none⟩ = some (.map (some mb)) ∧ w.cell? ⟨g, 3, none⟩ = some O ∧ w.cell? ⟨g, 4, none⟩ = some H :=
  ⟨cell_of_row _ _ 0 _ _ _ h, cell_of_row _ _ 1 _ _ _ h, cell_of_row _ _ 2 _ _ _ h, cell_of_row _ _ 3 _ _ _ h, cell_of_row _ _ 4 _ _ _ h⟩
theorem GBlk.frz {w : World} {g : Nat} {F S O H : Value} {mb : Nat} (h : GBlk w g F S O H mb) (k : Nat) : w.frozen? ⟨g, k, none⟩ = false := frozen_of_row _ _ k _ _ h
theorem GBlk.setO {w : World} {g : Nat} {F S O H : Value} {mb : Nat} (h : GBlk w g F S O H mb) (O' : Value) : GBlk (w.setCell ⟨g, 3, none⟩ O') g F S O' H mb := by
  have := heap_setCell_same _ _ 3 _ _ O' h
  simpa [GBlk] using this
/-- the order under way -/
structure PH (w0 : World) (g : Nat) (F S H : Value) (mb G0 B3 B4 gu gm n b0 : Nat) (q : List GR) (W : World) (ms : List Int) (Ao : Option Addr) (no co : Nat) (ord : List Nat) : Prop where
  c1 : W.heap[G0]? = some (.cells #[.pointer (some ⟨g, 0, none⟩)] 25 (0, 0))
  c2 : W.heap[B3]? = some (.cells #[.slice (some ⟨gu, 0, none⟩) n n] 67 (0, 0))
  c3 : W.heap[B4]? = some (.cells #[.slice (some ⟨gm, 0, none⟩) n n] 22 (0, 0))
  au : AU W b0 gu gm n q ms
  blk : GBlk W g F S (.slice Ao no co) H mb
  own : Own .i64 3 W b0 Ao no co (ints ord)
  ap : ∀ b, ob Ao = some b → ¬ AUX gu gm q b ∧ b ≠ G0 ∧ b ≠ B3 ∧ b ≠ B4
  bx : ¬ AUX gu gm q G0 ∧ ¬ AUX gu gm q B3 ∧ ¬ AUX gu gm q B4
  lt : g < w0.heap.size ∧ w0.heap.size ≤ b0 ∧ w0.heap.size ≤ G0 ∧ w0.heap.size ≤ B3 ∧ w0.heap.size ≤ B4
  ex : Ex (fun i => i = g) w0 W
theorem ob_some {g b : Nat} (h : ob (some (⟨g, 0, none⟩ : Addr)) = some b) : g = b := by injection h
section
variable {w0 W : World} {g : Nat} {F S H : Value} {mb G0 B3 B4 gu gm n b0 : Nat} {q : List GR} {ms : List Int} {Ao : Option Addr} {no co : Nat} {ord : List Nat}
theorem PH.e {W' : World} (h : PH w0 g F S H mb G0 B3 B4 gu gm n b0 q W ms Ao no co ord) (hE : E W W') : PH w0 g F S H mb G0 B3 B4 gu gm n b0 q W' ms Ao no co ord :=
  ⟨(hE.block (lt_blk h.c1)).trans h.c1, (hE.block (lt_blk h.c2)).trans h.c2, (hE.block (lt_blk h.c3)).trans h.c3, h.au.e hE, (hE.block (lt_blk h.blk)).trans h.blk, h.own.e hE, h.ap, h.bx, h.lt,
    h.ex.trans (Ex.of_e (X := fun _ => False) hE) (fun _ _ x => x) (fun _ _ x => x.elim)⟩
theorem PH.g_ne (h : PH w0 g F S H mb G0 B3 B4 gu gm n b0 q W ms Ao no co ord) : ¬ AUX gu gm q g ∧ g ≠ G0 ∧ g ≠ B3 ∧ g ≠ B4 ∧ ob Ao ≠ some g := by
  obtain ⟨l1, l2, l3, l4, l5⟩ := h.lt
  refine ⟨fun hx => by have := (h.au.xlt hx).1; omega, by omega, by omega, by omega, fun e => by have := (h.own.ltN g e).1; omega⟩
theorem PH.gm_ne (h : PH w0 g F S H mb G0 B3 B4 gu gm n b0 q W ms Ao no co ord) : gm ≠ G0 ∧ gm ≠ B3 ∧ gm ≠ B4 ∧ gm ≠ g := by
  have hx : AUX gu gm q gm := .inr (.inl rfl)
  obtain ⟨x1, x2, x3⟩ := h.bx
  exact ⟨fun e => x1 (e ▸ hx), fun e => x2 (e ▸ hx), fun e => x3 (e ▸ hx), fun e => h.g_ne.1 (e ▸ hx)⟩
/-- a number of missing references is overwritten -/
theorem PH.dec (h : PH w0 g F S H mb G0 B3 B4 gu gm n b0 q W ms Ao no co ord) (u : Nat) (x : Int) (hx : (Lit.int .i64 x).wf = true) : PH w0 g F S H mb G0 B3 B4 gu gm n b0 q (W.setCell ⟨gm, u, none⟩ (.int .i64 x)) (ms.set u x) Ao no co ord := by
  have hX : Ex (fun i => i = gm) W (W.setCell ⟨gm, u, none⟩ (.int .i64 x)) := (Ex.refl (fun i => i = gm) W).setCell ⟨gm, u, none⟩ (.inr rfl) _
  obtain ⟨n1, n2, n3, n4⟩ := h.gm_ne
  have hst := h.au.ms.set u x hx
  refine ⟨(hX.block _ (lt_blk h.c1) (fun e => n1 e.symm)).trans h.c1, (hX.block _ (lt_blk h.c2) (fun e => n2 e.symm)).trans h.c2, (hX.block _ (lt_blk h.c3) (fun e => n3 e.symm)).trans h.c3,
    ⟨h.au.us.ex hX h.au.ne (fun p hp b hb e => h.au.ap p hp (by rw [hb, e])), hst, h.au.ne, h.au.ap⟩, (hX.block _ (lt_blk h.blk) (fun e => n4 e.symm)).trans h.blk, h.own.ex hX (fun b hb e => (h.ap b hb).1 (e ▸ .inr (.inl rfl))), h.ap, h.bx, h.lt, ?_⟩
  have hg := (h.au.ms.ltN gm rfl).1
  exact h.ex.setCell ⟨gm, u, none⟩ (.inl (by have := h.lt.2.1; show w0.heap.size ≤ gm; omega)) _
/-- g.order = append(g.order, v) -/
theorem PH.push (h : PH w0 g F S H mb G0 B3 B4 gu gm n b0 q W ms Ao no co ord) (v : Nat) (hv : (Lit.int .i64 (v : Int)).wf = true) {V : World} (hE : E W V) (b2 : Nat) (hb2 : V.cell? ⟨b2, 0, none⟩ = some (.int .i64 (v : Int))) (hno : no ≤ 1000000) (ty : TypeId) :
    ∃ A' c' V1, (Builtin.append_ #[22, 22] ty #[.slice Ao no co, .slice (some ⟨b2, 0, none⟩) 1 1]).run Try.prog V = .ok (.slice A' (no + 1) c') V1 ∧ V1.cell? ⟨G0, 0, none⟩ = some (.pointer (some ⟨g, 0, none⟩)) ∧ (V1.cell? ⟨g, 3, none⟩).isSome = true ∧ V1.cell? ⟨g, 3, none⟩ = some (.slice Ao no co) ∧ V1.frozen? ⟨g, 3, none⟩ = false ∧
      PH w0 g F S H mb G0 B3 B4 gu gm n b0 q (V1.setCell ⟨g, 3, none⟩ (.slice A' (no + 1) c')) ms A' (no + 1) c' (ord ++ [v]) ∧ (V1.setCell ⟨g, 3, none⟩ (.slice A' (no + 1) c')).cell? ⟨G0, 0, none⟩ = some (.pointer (some ⟨g, 0, none⟩)) := by
  have hV := h.e hE
  have hbase : b0 ≤ V.heap.size := by have := hV.au.us.lt; omega
  have hN : Nums .i64 V (some ⟨b2, 0, none⟩) 1 1 [(v : Int)] :=
    ⟨rfl, Nat.le_refl _, by unfold maxLen; omega, by intro y hy; rw [List.mem_singleton] at hy; subst hy; exact hv, fun _ => ⟨b2, 0, rfl, World.block_lt_of_cell? V _ hb2, fun j hj => by
      have : j = 0 := by simpa using hj
      subst this; exact hb2⟩⟩
  obtain ⟨A', c', V1, hrun, hO1, hG, hor⟩ := run_appN intTk V ty b0 Ao no co (ints ord) hV.own _ 1 1 [(v : Int)] hN (by omega) hbase
  clear hno hN
  rw [ob_eq] at hG
  rw [ob_eq, ob_eq] at hor
  have hX1 : Ex (fun j => ob Ao = some j) V V1 := ⟨hG.os, hG.tape, hG.output, hG.size, fun j hj hx => hG.block j hj (fun e => hx e.symm)⟩
  obtain ⟨g1, g2, g3, g4, g5⟩ := hV.g_ne
  have hAo : ∀ b, ob Ao = some b → ¬ AUX gu gm q b := fun b hb => (hV.ap b hb).1
  have hl := fun b (hb : ob A' = some b) => show ob Ao = some b ∨ b = V.heap.size from by
    rcases hor with e | e
    · exact .inl (e ▸ hb)
    · rw [e] at hb; injection hb with hb; exact .inr hb.symm
  have b1 : V1.heap[G0]? = _ := (hX1.block _ (lt_blk hV.c1) (fun e => (hV.ap _ e).2.1 rfl)).trans hV.c1
  have b2' : V1.heap[B3]? = _ := (hX1.block _ (lt_blk hV.c2) (fun e => (hV.ap _ e).2.2.1 rfl)).trans hV.c2
  have b3 : V1.heap[B4]? = _ := (hX1.block _ (lt_blk hV.c3) (fun e => (hV.ap _ e).2.2.2 rfl)).trans hV.c3
  have bk : GBlk V1 g F S (.slice Ao no co) H mb := (hX1.block _ (lt_blk hV.blk) g5).trans hV.blk
  have hau : AU V1 b0 gu gm n q ms := ⟨hV.au.us.ex hX1 (fun e => hAo _ e (.inl rfl)) (fun p hp b hb e => hAo b e (.inr (.inr ⟨p, hp, hb⟩))), hV.au.ms.ex hX1 (fun b hb e => hAo b e (.inr (.inl ((ob_some hb).symm)))), hV.au.ne, hV.au.ap⟩
  have hX2 : Ex (fun j => j = g) V1 (V1.setCell ⟨g, 3, none⟩ (.slice A' (no + 1) c')) := (Ex.refl (fun j => j = g) V1).setCell ⟨g, 3, none⟩ (.inr rfl) _
  have hgl : ∀ b, b0 ≤ b → b ≠ g := fun b hb e => by have := h.lt; omega
  have c1' : (V1.setCell ⟨g, 3, none⟩ (.slice A' (no + 1) c')).heap[G0]? = _ := (hX2.block _ (lt_blk b1) (fun e => g2 e.symm)).trans b1
  refine ⟨A', c', V1, hrun, (cell_one b1).1, by rw [bk.cells.2.2.2.1]; rfl, bk.cells.2.2.2.1, bk.frz 3, ⟨c1', (hX2.block _ (lt_blk b2') (fun e => g3 e.symm)).trans b2', (hX2.block _ (lt_blk b3) (fun e => g4 e.symm)).trans b3,
    ⟨hau.us.ex hX2 (fun e => g1 (e ▸ .inl rfl)) (fun p hp b hb e => g1 (e ▸ .inr (.inr ⟨p, hp, hb⟩))), hau.ms.ex hX2 (fun b hb e => g1 (e ▸ .inr (.inl ((ob_some hb).symm)))), hau.ne, hau.ap⟩,
    bk.setO _, ?_, fun b hb => ?_, hV.bx, hV.lt, ?_⟩, (cell_one c1').1⟩
  · have := hO1.ex hX2 (fun b hb e => hgl b (hO1.ltN b hb).1 e)
    rw [ints_app]; exact this
  · rcases hl b hb with e | e
    · exact hV.ap b e
    · refine ⟨fun hx => by have := (hV.au.xlt hx).2; omega, ?_, ?_, ?_⟩
      · have := lt_blk hV.c1; omega
      · have := lt_blk hV.c2; omega
      · have := lt_blk hV.c3; omega
  · have e1 : Ex (fun i => i = g) w0 V1 := hV.ex.grown hG (fun k hk => .inl (by have := (hV.own.ltN k hk).1; have := h.lt; omega))
    exact e1.setCell ⟨g, 3, none⟩ (.inr rfl) _
end
end Go.Proofs.Ytmeplpiamkaniaa
/- arrange: the walk. -/
namespace Go.Proofs.Ytmeplpiamkaniaa
set_option linter.unusedVariables false
set_option linter.unusedSimpArgs false
open Go.RowKit

/-- what arrange hands back: whether the order is whole -/
def ArrRet (w : World) (g mb : Nat) (F S H : Value) (fs : List Fl) (e : Ending) (w' : World) : Prop :=
  ∃ (Ao : Option Addr) (no co : Nat) (ord : List Nat) (ms : List Int), e = .returned (.bool (decide (no = fs.length))) ∧ ord.length = no ∧ GBlk w' g F S (.slice Ao no co) H mb ∧ Own .i64 3 w' w.heap.size Ao no co (ints ord) ∧ KSt fs.length (edF fs fs.length) ord.length [] ord ms ∧ Ex (fun i => i = g) w w'
/-- the users of the first k flows are gathered -/
structure P1 (w : World) (fs : List Fl) (g mb G0 B3 B4 gu gm n b0 k : Nat) (q : List GR) (ms : List Int) (W : World) : Prop where
  c1 : W.heap[G0]? = some (.cells #[.pointer (some ⟨g, 0, none⟩)] 25 (0, 0))
  c2 : W.heap[B3]? = some (.cells #[.slice (some ⟨gu, 0, none⟩) n n] 67 (0, 0))
  c3 : W.heap[B4]? = some (.cells #[.slice (some ⟨gm, 0, none⟩) n n] 22 (0, 0))
  au : AU W b0 gu gm n q ms
  ae : AE n (edF fs k) q ms
  bx : ∀ b, (b = G0 ∨ b = B3 ∨ b = B4 ∨ b = g ∨ b = mb) → ¬ AUX gu gm q b
  ex : E w W
theorem ob_some' {b b' o : Nat} (h : ob (some (⟨b, o, none⟩ : Addr)) = some b') : b = b' := by injection h
theorem P1.next {w : World} {fs : List Fl} {g mb km G0 B3 B4 gu gm n b0 k : Nat} {q : List GR} {ms : List Int} {W : World} (h : P1 w fs g mb G0 B3 B4 gu gm n b0 k q ms W) (hb0 : w.heap.size ≤ b0) {V : World} (hE : E W V) (hD : V.heap[W.heap.size]? = some (.cells #[.int .i64 (k : Int)] 3 (0, 0))) (hg : w.cell? ⟨g, 2, none⟩ = some (.map (some mb))) (hM : MapD w mb km (plcV fs)) {f : Fl} (hf : fs[k]? = some f) :
    JA fs g mb km G0 B3 B4 W.heap.size gu gm n k b0 (edF fs k) [] (AUX gu gm q) V ∧ ∀ X' w5, JA fs g mb km G0 B3 B4 W.heap.size gu gm n k b0 (edF fs k) (refsF f) X' w5 → Ex (AUX gu gm q) V w5 → ∃ q' ms', P1 w fs g mb G0 B3 B4 gu gm n b0 (k + 1) q' ms' w5 := by
  have hgl := World.block_lt_of_cell? _ _ hg
  refine ⟨⟨q, ms, h.au.e hE, ⟨(hE.block (lt_blk h.c1)).trans h.c1, (hE.block (lt_blk h.c2)).trans h.c2, (hE.block (lt_blk h.c3)).trans h.c3, hD, ((h.ex.trans hE).cell (p := ⟨g, 2, none⟩) hgl).trans hg, hM.e (h.ex.trans hE)⟩, fun b hb hx => ?_, rfl, by simpa using h.ae⟩, ?_⟩
  · rcases hb with rfl | rfl | rfl | rfl | rfl | rfl
    · exact h.bx _ (.inl rfl) hx
    · exact h.bx _ (.inr (.inl rfl)) hx
    · exact h.bx _ (.inr (.inr (.inl rfl))) hx
    · have := (h.au.xlt hx).2; omega
    · exact h.bx _ (.inr (.inr (.inr (.inl rfl)))) hx
    · exact h.bx _ (.inr (.inr (.inr (.inr rfl)))) hx
  · rintro X' w5 ⟨q', ms', h1, h2, h3, _, h5⟩ hX
    refine ⟨q', ms', h2.c1, h2.c2, h2.c3, h1, ?_, fun b hb => ?_, ?_⟩
    · rw [edF_succ hf]; exact h5
    · rcases hb with rfl | rfl | rfl | rfl | rfl
      · exact h3 _ (.inl rfl)
      · exact h3 _ (.inr (.inl rfl))
      · exact h3 _ (.inr (.inr (.inl rfl)))
      · exact h3 _ (.inr (.inr (.inr (.inr (.inl rfl)))))
      · exact h3 _ (.inr (.inr (.inr (.inr (.inr rfl)))))
    · exact ((Ex.of_e (X := AUX gu gm q) (h.ex.trans hE)).trans hX (fun _ _ x => x) (fun _ _ x => x)).e (fun i hi => by have := (h.au.xlt hi).1; omega)
set_option linter.unusedSimpArgs false in
set_option maxHeartbeats 8000000 in
set_option maxRecDepth 100000 in
theorem arrange_c (g mb km bF n cf : Nat) (Af : Option Addr) (S H : Value) (fs : List Fl) (qf : List FlSl) (w : World) (hG : GBlk w g (.slice Af n cf) S (.slice none 0 0) H mb) (hF : FRow w bF Af n cf qf) (hfs : qf.map Prod.fst = fs) (hSF : SlFrom bF qf) (hgb : g < bF) (hM : MapD w mb km (plcV fs)) (hmg : mb ≠ g)
    (hr : ∀ f ∈ fs, ∀ j ∈ refsF f, (Lit.int .i64 j).wf = true ∧ ∃ p, posF fs j = some p) (hn : n ≤ 100000) (hcnt : refCnt fs ≤ 900000) :
    Calls Try.prog 43 #[.pointer (some ⟨g, 0, none⟩)] w (ArrRet w g mb (.slice Af n cf) S H fs) := by
  have hfl : fs.length = n := by rw [← hfs, List.length_map]; exact hF.1
  have HFL := Lib.hid hfl
  have HG := Lib.hid hG
  have HF := Lib.hid hF
  have HM := Lib.hid hM
  have HR := Lib.hid (show ∀ f ∈ fs, ∀ j ∈ refsF f, (Lit.int .i64 j).wf = true ∧ ∃ p, posF fs j = some p ∧ p < n from fun f hf j hj => by
    obtain ⟨h1, p, h2⟩ := hr f hf j hj
    obtain ⟨x, h3, _⟩ := posF_some h2
    exact ⟨h1, p, h2, by rw [← hfl]; exact (List.getElem?_eq_some_iff.1 h3).1⟩)
  have HFS := Lib.hid hfs
  have HSF := Lib.hid hSF
  have HGB := Lib.hid (And.intro hgb (And.intro hmg (lt_blk hG)))
  have HCN := Lib.hid hcnt
  have hcf := hF.flows.mx
  have hncf := hF.flows.cap
  obtain ⟨W0, hW0⟩ : ∃ W0, w.alloc (.cells #[.pointer (some ⟨g, 0, none⟩)] 25) = W0 := ⟨_, rfl⟩
  have hE0 : E w W0 := by rw [← hW0]; exact (E.refl w).alloc _
  have hz0 : W0.heap.size = w.heap.size + 1 := by rw [← hW0]; simp
  have hb0 : W0.heap[w.heap.size]? = some (.cells #[.pointer (some ⟨g, 0, none⟩)] 25 (0, 0)) := by rw [← hW0]; exact heap_alloc_new _ _
  have HB0 := Lib.hid hb0
  have HC := Lib.hid (fun W (hE : E W0 W) => show W.cell? ⟨w.heap.size, 0, none⟩ = some (.pointer (some ⟨g, 0, none⟩)) ∧ W.cell? ⟨g, 0, none⟩ = some (.slice Af n cf) from
    ⟨(cell_one ((hE.block (lt_blk hb0)).trans hb0)).1, ((hE0.trans hE).cell (p := ⟨g, 0, none⟩) (lt_blk hG)).trans hG.cells.1⟩)
  have HZ0 := Lib.hid hz0
  have HE0 := Lib.hid hE0
  clear hG hF hM hr hfs hSF hgb hmg hcnt hb0 hfl hz0 hE0
  obtain ⟨d0, d1⟩ := HC.out _ (E.refl W0)
  go_enter Try.func43, Try.ntmps43
  go_upto_region 1 with fail
  try rw [hW0]
  clear hW0
  go_upto_region 2 with (refine wpList_mkG _ rfl _ _ rfl .i64 .i64 _ _ n rfl rfl rfl rfl (by omega) ?_; intro W1 hI1 hE1 hz1; have HZ1 := Lib.hid hz1; clear hz1; obtain ⟨d2, d3⟩ := HC.out _ hE1)
  clear d0 d1 d2 d3
  obtain ⟨W2, hW2⟩ : ∃ W2, W1.alloc (.cells #[.slice (some ⟨W0.heap.size, 0, none⟩) n n] 67) = W2 := ⟨_, rfl⟩
  have hE12 : E W1 W2 := by rw [← hW2]; exact (E.refl W1).alloc _
  have HZ2 := Lib.hid (show W2.heap.size = W1.heap.size + 1 by rw [← hW2, World.size_alloc])
  have HB2 := Lib.hid (show W2.heap[W1.heap.size]? = some (.cells #[.slice (some ⟨W0.heap.size, 0, none⟩) n n] 67 (0, 0)) by rw [← hW2]; exact heap_alloc_new _ _)
  try rw [hW2]
  clear hW2
  have HE1 := Lib.hid (hE1.trans hE12)
  have HI1 := Lib.hid (hI1.e hE12)
  clear hI1 hE1 hE12
  obtain ⟨d0, d1⟩ := HC.out _ HE1.out
  go_upto_region 3 with (refine wpList_mk intTk _ rfl _ _ rfl .i64 .i64 _ _ n rfl rfl rfl rfl (by omega) ?_; intro W3 hO3 hE3 hz3; have HZ3 := Lib.hid hz3; clear hz3; obtain ⟨d2, d3⟩ := HC.out _ (HE1.out.trans hE3))
  clear d0 d1 d2 d3
  obtain ⟨W4, hW4⟩ : ∃ W4, W3.alloc (.cells #[.slice (some ⟨W2.heap.size, 0, none⟩) n n] 22) = W4 := ⟨_, rfl⟩
  have hE34 : E W3 W4 := by rw [← hW4]; exact (E.refl W3).alloc _
  have HZ4 := Lib.hid (show W4.heap.size = W3.heap.size + 1 by rw [← hW4, World.size_alloc])
  have HB4 := Lib.hid (show W4.heap[W3.heap.size]? = some (.cells #[.slice (some ⟨W2.heap.size, 0, none⟩) n n] 22 (0, 0)) by rw [← hW4]; exact heap_alloc_new _ _)
  try rw [hW4]
  clear hW4
  have HE4 := Lib.hid (show E W2 W4 from hE3.trans hE34)
  have HO4 := Lib.hid (hO3.e hE34)
  clear hO3 hE3 hE34
  obtain ⟨d0, d1⟩ := HC.out _ (HE1.out.trans HE4.out)
  go_wp2_with fail
  clear d0 d1
  have hst : P1 w fs g mb w.heap.size W1.heap.size W3.heap.size W0.heap.size W2.heap.size n W0.heap.size 0 (List.replicate n (([], zS) : GR)) (List.replicate n 0) W4 := by
    have z0 := HZ0.out
    have z1 := HZ1.out
    have z2 := HZ2.out
    have z3 := HZ3.out
    have z4 := HZ4.out
    have hb := HB0.out
    have hg := HGB.out.2.2
    have hm := HM.out.lt
    refine ⟨((HE1.out.trans HE4.out).block (by omega)).trans hb, (HE4.out.block (by omega)).trans HB2.out, HB4.out, ⟨HI1.out.e HE4.out, HO4.out.rebase (by omega), by omega, fun p hp => by rw [List.eq_of_mem_replicate hp]; simp [zS, ob]⟩, ⟨fun p r hr => by rw [List.eq_of_mem_replicate (List.mem_of_getElem? hr)]; rfl, fun i hi => by rw [List.getElem?_replicate, if_pos hi]; rfl⟩, fun b hb hx => ?_, (HE0.out.trans HE1.out).trans HE4.out⟩
    rcases hx with hx | hx | ⟨p, hp, hx⟩
    · rcases hb with hb | hb | hb | hb | hb <;> omega
    · rcases hb with hb | hb | hb | hb | hb <;> omega
    · rw [List.eq_of_mem_replicate hp] at hx; simp [zS, ob] at hx
  have HLT0 := Lib.hid (show w.heap.size ≤ W0.heap.size by have := HZ0.out; omega)
  have HST := Lib.hid hst
  clear hst
  go_loopw [29] (fun ti wr => ∃ (k : Nat) (q : List GR) (ms : List Int), k ≤ n ∧ ti = .int .i64 k ∧ P1 w fs g mb w.heap.size W1.heap.size W3.heap.size W0.heap.size W2.heap.size n W0.heap.size k q ms wr) (fun ti _ => n - (intOf ti).toNat)
  case atStart => exact ⟨0, _, _, Nat.zero_le _, rfl, HST.out⟩
  case round =>
    obtain ⟨k, q, ms, hk, rfl, hP⟩ := hrel
    by_cases hlt : k < n
    · obtain ⟨gf, rfl⟩ : ∃ gf, Af = some ⟨gf, 0, none⟩ := by
        rcases HF.out.form with ⟨_, h0, _⟩ | ⟨gf, h0, _⟩
        · omega
        · exact ⟨gf, h0⟩
      obtain ⟨⟨f, s, t⟩, hp0⟩ : ∃ p0, qf[k]? = some p0 := ⟨qf[k]'(by rw [HF.out.1]; exact hlt), List.getElem?_eq_getElem _⟩
      have hff : fs[k]? = some f := by rw [← HFS.out, List.getElem?_map, hp0]; rfl
      have hBw := (HF.out.2.2 _ (List.mem_of_getElem? hp0)).2.1
      have hcl := ((HF.out.e hP.ex).cells hp0)
      obtain ⟨V, hV⟩ : ∃ V, (wr.alloc (.cells #[.int .i64 (k : Int)] 3)).alloc (.cells #[.int .i64 f.id, .int .i64 f.step, .int .i64 f.kind, .int .i64 f.tick, .int .i64 f.actor, .int .i64 f.frm, .int .i64 f.to, .int .i64 f.item, .int .i64 f.n, .slice s.1 s.2.1 s.2.2, .slice t.1 t.2.1 t.2.2] 47) = V := ⟨_, rfl⟩
      have hEV : E wr V := by rw [← hV]; exact ((E.refl wr).alloc _).alloc _
      have hDV : V.heap[wr.heap.size]? = some (.cells #[.int .i64 (k : Int)] 3 (0, 0)) := by rw [← hV, Below.heap_alloc _ _ _ (by simp)]; exact heap_alloc_new _ _
      have hBX : FlBox V (wr.heap.size + 1) f s t := by
        have := FlBox.new (wr.alloc (.cells #[.int .i64 (k : Int)] 3)) f s t
        rw [World.size_alloc, hV] at this
        exact this
      obtain ⟨hJ0, hJn⟩ := hP.next HLT0.out hEV hDV HG.out.cells.2.2.1 HM.out hff
      have hXs : ∀ b, b < w.heap.size → ¬ AUX W0.heap.size W2.heap.size q b := fun b hb hx => by have := (hP.au.xlt hx).1; have := HLT0.out; omega
      have hcntk : (edF fs k).length + (refsF f).length ≤ 900000 := by
        have h1 := edF_len fs (k + 1)
        rw [edF_succ hff, List.length_append, List.length_map] at h1
        have := HCN.out; omega
      have hvis := visit_c Try.call80 (arr_visits fs g mb km w.heap.size W1.heap.size W3.heap.size wr.heap.size W0.heap.size W2.heap.size n k W0.heap.size (edF fs k) f hn hlt hcntk (fun j hj => HR.out f (List.mem_of_getElem? hff) j hj))
        f s.1 s.2.1 s.2.2 t.1 t.2.1 t.2.2 V (hBw.e (hP.ex.trans hEV)) _ hJ0 (fun h0 b hb => hXs b (by obtain ⟨b', o', e, hl, _⟩ := hBw.1.at_ h0; simp only at e; rw [e] at hb; rw [← ob_some' hb]; exact hl)) (fun h0 b hb => hXs b (by obtain ⟨b', o', e, hl, _⟩ := hBw.2.at_ h0; simp only at e; rw [e] at hb; rw [← ob_some' hb]; exact hl)) (fun k' id h => ⟨k', h, rfl⟩)
      have HV := Lib.hid hvis
      have HJN := Lib.hid hJn
      have HBXV := Lib.hid hBX
      unfold FlCells at hcl
      obtain ⟨x0, x1, x2, x3, x4, x5, x6, x7, x8, x9, x10⟩ := hcl
      have hkI : (k : Int) < (n : Int) := by omega
      clear hvis hJ0 hJn hXs hP hBw hff hp0 hcntk hBX hDV
      unfold flV at HV
      go_upto_region 6 with fail
      try rw [hV]
      clear hV x0 x1 x2 x3 x4 x5 x6 x7 x8 x9 x10
      obtain ⟨b0, b1, b2, b3, b4, b5, b6, b7, b8, b9, b10⟩ := HBXV.out.cells
      simp only [Nat.zero_add] at b1 b2 b3 b4 b5 b6 b7 b8 b9 b10
      go_wp2_with (go_at_call 79; refine HV.out.mono ?_; rintro e w5 ⟨rfl, X5, hJ5, hX5, _⟩)
      obtain ⟨q', ms', hP5⟩ := HJN.out X5 w5 hJ5 hX5
      go_roundw
      case rel => exact ⟨k + 1, q', ms', by omega, by go_num, hP5⟩
      case measure => simp [intOf]; omega
    · have hkn : k = n := by omega
      obtain ⟨Ed, hEd0⟩ : ∃ Ed, edF fs n = Ed := ⟨_, rfl⟩
      have hp1 : PH w g (.slice Af n cf) S H mb w.heap.size W1.heap.size W3.heap.size W0.heap.size W2.heap.size n W0.heap.size q wr ms none 0 0 [] := by
        refine ⟨hP.c1, hP.c2, hP.c3, hP.au, (hP.ex.block HGB.out.2.2).trans HG.out, Own.nil _ _ _ _, fun b hb => (by cases hb), ⟨hP.bx _ (.inl rfl), hP.bx _ (.inr (.inl rfl)), hP.bx _ (.inr (.inr (.inl rfl)))⟩, ⟨HGB.out.2.2, HLT0.out, Nat.le_refl _, ?_, ?_⟩, Ex.of_e hP.ex⟩
        · have := HZ1.out; have := HZ0.out; omega
        · have := HZ3.out; have := HZ2.out; have := HZ1.out; have := HZ0.out; omega
      have hae := hP.ae
      rw [hkn, hEd0] at hae
      have HAE := Lib.hid hae
      have HED := Lib.hid hEd0
      have HP1 := Lib.hid hp1
      have hcm := (cell_one hP.c3).1
      have hms := hP.au.ms.1
      clear hae hEd0 hp1 hP
      go_wp2_with fail
      clear hcm
      go_loopw [40] (fun ti wr => ∃ (k : Nat) (Ao : Option Addr) (no co : Nat), k ≤ n ∧ no ≤ k ∧ ti = .int .i64 k ∧ PH w g (.slice Af n cf) S H mb w.heap.size W1.heap.size W3.heap.size W0.heap.size W2.heap.size n W0.heap.size q wr ms Ao no co ((List.range k).filter fun i => misN Ed i == 0)) (fun ti _ => n - (intOf ti).toNat)
      case atStart => exact ⟨0, none, 0, 0, Nat.zero_le _, Nat.le_refl _, rfl, HP1.out⟩
      case round =>
        clear HP1 hlt hkn hk
        obtain ⟨k, Ao, no, co, hk, hno, rfl, hP⟩ := hrel
        by_cases hlt : k < n
        · obtain ⟨b9, o9, x9, e9, _, hx9, _, d9⟩ := hP.au.ms.reads.get (i := k) hlt
          injection e9 with e9
          injection e9 with e91 e92
          subst e91 e92
          rw [HAE.out.ms k hlt] at hx9
          injection hx9 with hx9
          subst hx9
          simp only [Nat.zero_add] at d9
          have hkI : (k : Int) < (n : Int) := by omega
          have hwv : (Lit.int .i64 (k : Int)).wf = true := wf_of_i64 (by omega) (by omega)
          by_cases h0 : misN Ed k = 0
          · have dz : (((misN Ed k : Nat) : Int) == 0) = true := by simp [h0]
            have HF2 := Lib.hid (show ((List.range (k + 1)).filter fun i => misN Ed i == 0) = ((List.range k).filter fun i => misN Ed i == 0) ++ [k] by rw [List.range_succ, List.filter_append]; simp [h0])
            go_upto_region 12 with fail
            generalize ((List.range k).filter fun i => misN Ed i == 0) = od at *
            clear h0 hms
            obtain ⟨V, hV⟩ : ∃ V, wr.drew.alloc (.cells #[.int .i64 ((k : Nat) : Int)] 3) = V := ⟨_, rfl⟩
            have hEd : E wr wr.drew := (E.refl wr).drew
            have hEV : E wr V := by rw [← hV]; exact hEd.alloc _
            have hVc : V.cell? ⟨wr.heap.size, 0, none⟩ = some (.int .i64 ((k : Nat) : Int)) := by rw [← hV]; exact cell_new _ _ _
            obtain ⟨A5, c5, V1, hrun, s3, _, o3, f3, hP5, s5⟩ := hP.push k hwv hEV wr.heap.size hVc (by omega) 22
            have s0 := (cell_one (hP.e hEd).c1).1
            have s1 := (cell_one (hP.e hEV).c1).1
            have o0 := (hP.e hEd).blk.cells.2.2.2.1
            have o1 := (hP.e hEV).blk.cells.2.2.2.1
            have HP5 := Lib.hid hP5
            clear hP5
            refine wp_region_held_drew (S := (fun w' => w'.cell? ⟨w.heap.size, 0, none⟩ = some (.pointer (some ⟨g, 0, none⟩)))) (by kernel_rfl) s0 (fun hHeld => ?_)
            (((refine wpAnyH_take (i := 0) (v := ?_) rfl (by kernel_rfl) (by kernel_rfl) (by kernel_rfl) (fun _ _ _ h => h) (Or.inl ⟨by kernel_rfl, ?_⟩) (by assumption) ?_); rotate_left 1; (focus (intro w hSw; (try dsimp only at hSw); go_simp; (try with_reducible rfl))); (try simp only [Act.put, List.setIfInBounds_toArray, List.set_cons_zero, List.set_cons_succ])); ((refine wpAnyH_take (i := 1) (v := ?_) rfl (by kernel_rfl) (by kernel_rfl) (by kernel_rfl) (fun _ _ _ h => h) (Or.inl ⟨by kernel_rfl, ?_⟩) (by assumption) ?_); rotate_left 1; (focus (intro w hSw; (try dsimp only at hSw); go_simp; (try with_reducible rfl))); (try simp only [Act.put, List.setIfInBounds_toArray, List.set_cons_zero, List.set_cons_succ])); ((refine wpAnyH_take (i := 2) (v := ?_) rfl (by kernel_rfl) (by kernel_rfl) (by kernel_rfl) (fun _ _ _ h => h) (Or.inl ⟨by kernel_rfl, ?_⟩) (by assumption) ?_); rotate_left 1; (focus (intro w hSw; (try dsimp only at hSw); go_simp; (try with_reducible rfl))); (try simp only [Act.put, List.setIfInBounds_toArray, List.set_cons_zero, List.set_cons_succ])); ((refine wpAnyH_take (i := 3) (v := ?_) rfl (by kernel_rfl) (by kernel_rfl) (by kernel_rfl) (fun _ _ _ h => h) (Or.inl ⟨by kernel_rfl, ?_⟩) (by assumption) ?_); rotate_left 1; (focus (intro w hSw; (try dsimp only at hSw); go_simp; (try with_reducible rfl))); (try simp only [Act.put, List.setIfInBounds_toArray, List.set_cons_zero, List.set_cons_succ])); ((refine wpAnyH_take (i := 5) (v := ?_) rfl (by kernel_rfl) (by kernel_rfl) (by kernel_rfl) (fun _ _ _ h => h) (Or.inl ⟨by kernel_rfl, ?_⟩) (by assumption) ?_); rotate_left 1; (focus (intro w hSw; (try dsimp only at hSw); go_simp; (try with_reducible rfl))); (try simp only [Act.put, List.setIfInBounds_toArray, List.set_cons_zero, List.set_cons_succ])))
            clear hHeld
            refine wpAnyH_ready (rs := [4, 6]) (by kernel_rfl) (by simp) ?_
            refine AllReadyH.cons rfl (fun K hK => ?_) (AllReadyH.cons rfl (fun K hK => ?_) AllReadyH.nil)
            · rw [if_pos (by kernel_rfl)]
              go_simp
              refine hK _ _ s0 (fun hh => ?_)
              clear hK K hh
              (try simp only [Act.put, List.setIfInBounds_toArray, List.set_cons_zero, List.set_cons_succ])
              (((refine wpAnyH_ready (rs := [6]) (by kernel_rfl) (by simp) ?_); (refine AllReadyH.cons rfl (fun K hK => ?_) AllReadyH.nil); (rw [if_pos (by kernel_rfl)]); go_simp))
              (try rw [hV])
              refine hK _ _ s1 (fun hh => ?_)
              clear hK K hh
              (try simp only [Act.put, List.setIfInBounds_toArray, List.set_cons_zero, List.set_cons_succ])
              refine wpAnyH_ready (rs := [7]) (by kernel_rfl) (by simp) ?_
              refine AllReadyH.cons rfl (fun K hK => ?_) AllReadyH.nil
              refine step_app_runQ (by rfl) _ _ (by rfl) (by rfl) (by rfl) hrun ?_
              refine hK _ _ s3 (fun hh => ?_)
              clear hK K
              (try simp only [Act.put, List.setIfInBounds_toArray, List.set_cons_zero, List.set_cons_succ])
              (((refine wpAnyH_take (i := 8) (v := ?_) rfl (by kernel_rfl) (by kernel_rfl) (by kernel_rfl) (fun _ _ _ h => h) (Or.inl ⟨by kernel_rfl, ?_⟩) (by assumption) ?_); rotate_left 1; (focus (intro w hSw; (try dsimp only at hSw); go_simp; (try with_reducible rfl))); (try simp only [Act.put, List.setIfInBounds_toArray, List.set_cons_zero, List.set_cons_succ])); ((refine wpAnyH_take (i := 9) (v := ?_) rfl (by kernel_rfl) (by kernel_rfl) (by kernel_rfl) (fun _ _ _ h => h) (Or.inl ⟨by kernel_rfl, ?_⟩) (by assumption) ?_); rotate_left 1; (focus (intro w hSw; (try dsimp only at hSw); go_simp; (try with_reducible rfl))); (try simp only [Act.put, List.setIfInBounds_toArray, List.set_cons_zero, List.set_cons_succ])))
              (((refine wpAnyH_ready (rs := [10]) (by kernel_rfl) (by simp) ?_); (refine AllReadyH.cons rfl (fun K hK => ?_) AllReadyH.nil); (rw [if_pos (by kernel_rfl)]); go_simp))
              refine hK _ _ s5 (fun hh2 => ?_)
              clear hK K hh hh2
              (try simp only [Act.put, List.setIfInBounds_toArray, List.set_cons_zero, List.set_cons_succ])
              refine wpAnyH_done (by kernel_rfl) ?_ _
              go_simp
              go_wp2_with fail
              first
                | exact ⟨⟨k + 1, A5, no + 1, c5, by omega, by omega, by go_num, by rw [HF2.out]; exact HP5.out⟩, by simp [intOf]; omega⟩
                | (go_roundw
                   case rel => exact ⟨k + 1, A5, no + 1, c5, by omega, by omega, by go_num, by rw [HF2.out]; exact HP5.out⟩
                   case measure => simp [intOf]; omega)
            · rw [if_pos (by kernel_rfl)]
              go_simp
              (try rw [hV])
              refine hK _ _ s1 (fun hh => ?_)
              clear hK K hh
              (try simp only [Act.put, List.setIfInBounds_toArray, List.set_cons_zero, List.set_cons_succ])
              (((refine wpAnyH_ready (rs := [4]) (by kernel_rfl) (by simp) ?_); (refine AllReadyH.cons rfl (fun K hK => ?_) AllReadyH.nil); (rw [if_pos (by kernel_rfl)]); go_simp))
              refine hK _ _ s1 (fun hh => ?_)
              clear hK K hh
              (try simp only [Act.put, List.setIfInBounds_toArray, List.set_cons_zero, List.set_cons_succ])
              refine wpAnyH_ready (rs := [7]) (by kernel_rfl) (by simp) ?_
              refine AllReadyH.cons rfl (fun K hK => ?_) AllReadyH.nil
              refine step_app_runQ (by rfl) _ _ (by rfl) (by rfl) (by rfl) hrun ?_
              refine hK _ _ s3 (fun hh => ?_)
              clear hK K
              (try simp only [Act.put, List.setIfInBounds_toArray, List.set_cons_zero, List.set_cons_succ])
              (((refine wpAnyH_take (i := 8) (v := ?_) rfl (by kernel_rfl) (by kernel_rfl) (by kernel_rfl) (fun _ _ _ h => h) (Or.inl ⟨by kernel_rfl, ?_⟩) (by assumption) ?_); rotate_left 1; (focus (intro w hSw; (try dsimp only at hSw); go_simp; (try with_reducible rfl))); (try simp only [Act.put, List.setIfInBounds_toArray, List.set_cons_zero, List.set_cons_succ])); ((refine wpAnyH_take (i := 9) (v := ?_) rfl (by kernel_rfl) (by kernel_rfl) (by kernel_rfl) (fun _ _ _ h => h) (Or.inl ⟨by kernel_rfl, ?_⟩) (by assumption) ?_); rotate_left 1; (focus (intro w hSw; (try dsimp only at hSw); go_simp; (try with_reducible rfl))); (try simp only [Act.put, List.setIfInBounds_toArray, List.set_cons_zero, List.set_cons_succ])))
              (((refine wpAnyH_ready (rs := [10]) (by kernel_rfl) (by simp) ?_); (refine AllReadyH.cons rfl (fun K hK => ?_) AllReadyH.nil); (rw [if_pos (by kernel_rfl)]); go_simp))
              refine hK _ _ s5 (fun hh2 => ?_)
              clear hK K hh hh2
              (try simp only [Act.put, List.setIfInBounds_toArray, List.set_cons_zero, List.set_cons_succ])
              refine wpAnyH_done (by kernel_rfl) ?_ _
              go_simp
              go_wp2_with fail
              first
                | exact ⟨⟨k + 1, A5, no + 1, c5, by omega, by omega, by go_num, by rw [HF2.out]; exact HP5.out⟩, by simp [intOf]; omega⟩
                | (go_roundw
                   case rel => exact ⟨k + 1, A5, no + 1, c5, by omega, by omega, by go_num, by rw [HF2.out]; exact HP5.out⟩
                   case measure => simp [intOf]; omega)

          · have dz : (((misN Ed k : Nat) : Int) == 0) = false := by simp; exact h0
            have HF2 := Lib.hid (show ((List.range (k + 1)).filter fun i => misN Ed i == 0) = ((List.range k).filter fun i => misN Ed i == 0) by rw [List.range_succ, List.filter_append]; simp [h0])
            clear h0
            go_wp2_with fail
            go_roundw
            case rel => exact ⟨k + 1, Ao, no, co, by omega, by omega, by go_num, by rw [HF2.out]; exact hP⟩
            case measure => simp [intOf]; omega
        · have hkn : k = n := by omega
          subst hkn
          have hks := KSt.start k Ed hms (fun i hi => HAE.out.ms i hi)
          have HP2 := Lib.hid hP
          have HKS := Lib.hid hks
          have HUS := Lib.hid (show ∀ p i, i ∈ us Ed p → i < k from fun p i h => by
            obtain ⟨e, he, rfl⟩ := List.mem_map.1 h
            have he := (List.mem_filter.1 he).1
            rw [← HED.out, edF] at he
            obtain ⟨m, f, h1, h2, _⟩ := edAux_mem.1 he
            have := (List.getElem?_eq_some_iff.1 h1).1
            rw [List.length_take] at this
            omega)
          clear hP hks hk hms
          go_wp2_with fail
          go_loopw [9] (fun ti wr => ∃ (at_ : Nat) (ms2 : List Int) (Ao : Option Addr) (no co : Nat) (ord : List Nat), ti = .int .i64 at_ ∧ PH w g (.slice Af k cf) S H mb w.heap.size W1.heap.size W3.heap.size W0.heap.size W2.heap.size k W0.heap.size q wr ms2 Ao no co ord ∧ KSt k Ed at_ [] ord ms2) (fun ti _ => k - (intOf ti).toNat)
          case atStart => exact ⟨0, _, _, _, _, _, rfl, HP2.out, HKS.out⟩
          case round =>
            clear HP2 HKS
            obtain ⟨at_, ms2, Ao, no, co, ord, rfl, hP, hK⟩ := hrel
            have hlen : ord.length = no := by have := hP.own.1; rwa [ints_len] at this
            have hmx := hK.max
            have hle := hK.le
            rw [hlen] at hmx hle
            have c1 := (cell_one hP.c1).1
            have c3g := hP.blk.cells.2.2.2.1
            by_cases hlt2 : at_ < no
            · obtain ⟨go, rfl⟩ : ∃ go, Ao = some ⟨go, 0, none⟩ := by
                rcases hP.own.form with ⟨_, h0, _⟩ | ⟨go, h0, _⟩
                · omega
                · exact ⟨go, h0⟩
              obtain ⟨xp, _, _, hxp, _, cat, _⟩ := hP.own.getg (i := at_) hlt2
              obtain ⟨p, hp, rfl⟩ : ∃ p, ord[at_]? = some p ∧ xp = (p : Int) := by
                rw [ints_get] at hxp
                obtain ⟨p, h1, h2⟩ := Option.map_eq_some_iff.1 hxp
                exact ⟨p, h1, h2.symm⟩
              have hpn := hK.lt p (List.mem_of_getElem? hp)
              obtain ⟨⟨rl, rA, rn, rc⟩, hr⟩ : ∃ r, q[p]? = some r := ⟨_, List.getElem?_eq_getElem (by rw [hP.au.us.len]; exact hpn)⟩
              have cr := hP.au.us.cell hr
              have c2 := (cell_one hP.c2).1
              have hrl : rl = ints (us Ed p) := HAE.out.q p _ hr
              have hrO : Own .i64 3 wr W0.heap.size rA rn rc rl := hP.au.us.own _ (List.mem_of_getElem? hr)
              have hrn : rn = (us Ed p).length := by rw [← hrO.1, hrl, ints_len]
              have hrn63 := hrO.reads.n63
              have hatI : (at_ : Int) < (no : Int) := by omega
              have hpI : (p : Int) < (k : Int) := by omega
              have HPN := Lib.hid hpn
              have HPP := Lib.hid hp
              have HRL := Lib.hid (And.intro hr (And.intro hrl hrn))
              have HK0 := Lib.hid hK
              have HP3 := Lib.hid hP
              have HLN := Lib.hid (And.intro hmx hlt2)
              simp only at cr
              clear hK hP hr hrl hrO hrn hxp hp hlen hle
              go_wp2_with fail
              (refine wp_region_quiet_lit (by kernel_rfl) (by kernel_rfl) ?_; (repeat (first | ((with_reducible refine wpQuiet_step (fun K hK => ?_)); go_simp; (with_reducible refine hK _ ?_); clear hK K) | ((with_reducible refine wpQuiet_off (by kernel_rfl) (fun K hK => ?_)); go_simp; (with_reducible refine hK _ ?_); clear hK K))); (with_reducible refine wpQuiet_nil ?_); intro _ hw'; obtain ⟨nq, hw''⟩ := hw'; subst hw'')
              have HP4 := Lib.hid (HP3.out.e ((E.refl wr).drewN nq))
              clear HP3 c1 c3g cat cr c2
              generalize wr.drewN nq = wq at *
              go_wp2_with fail
              go_loopw [78] (fun ti w6 => ∃ (j : Nat) (ms3 : List Int) (Ao3 : Option Addr) (no3 co3 : Nat) (ord3 : List Nat), j ≤ rn ∧ ti = .int .i64 j ∧ PH w g (.slice Af k cf) S H mb w.heap.size W1.heap.size W3.heap.size W0.heap.size W2.heap.size k W0.heap.size q w6 ms3 Ao3 no3 co3 ord3 ∧ KSt k Ed at_ ((us Ed p).take j) ord3 ms3 ∧ ord3[at_]? = some p) (fun ti _ => rn - (intOf ti).toNat)
              case atStart => exact ⟨0, _, _, _, _, _, Nat.zero_le _, rfl, HP4.out, HK0.out, HPP.out⟩
              case round =>
                clear HP4 HK0
                obtain ⟨j, ms3, Ao3, no3, co3, ord3, hj, rfl, hP, hK, hp3⟩ := hrel
                by_cases hjl : j < rn
                · have hrO : Own .i64 3 wr W0.heap.size rA rn rc rl := hP.au.us.own _ (List.mem_of_getElem? HRL.out.1)
                  obtain ⟨gr, rfl⟩ : ∃ gr, rA = some ⟨gr, 0, none⟩ := by
                    rcases hrO.form with ⟨_, h0, _⟩ | ⟨go, h0, _⟩
                    · omega
                    · exact ⟨go, h0⟩
                  obtain ⟨xi, _, _, hxi, _, ci, _⟩ := hrO.getg (i := j) hjl
                  obtain ⟨i, hi, rfl⟩ : ∃ i, (us Ed p)[j]? = some i ∧ xi = (i : Int) := by
                    rw [HRL.out.2.1, ints_get] at hxi
                    obtain ⟨i, h1, h2⟩ := Option.map_eq_some_iff.1 hxi
                    exact ⟨i, h1, h2.symm⟩
                  have hin : i < k := HUS.out p i (List.mem_of_getElem? hi)
                  obtain ⟨r, hmi, hno, hK'⟩ := hK.user hp3 rfl hi hin
                  obtain ⟨xm, _, _, hxm, hwm, cm, fm⟩ := hP.au.ms.getg (i := i) hin
                  rw [hmi] at hxm
                  injection hxm with hxm
                  have c4 := (cell_one hP.c3).1
                  have hri : (r : Int) ≤ 9223372036854775806 := by have := (wf_i64 hwm).2; rw [← hxm] at this; omega
                  have hwr : (Lit.int .i64 (r : Int)).wf = true := wf_of_i64 (by omega) (by omega)
                  have hPd := hP.dec i r hwr
                  have HPD := Lib.hid hPd
                  have HK3 := Lib.hid hK'
                  have HNO := Lib.hid hno
                  have HP3' := Lib.hid hp3
                  have hjI : (j : Int) < (rn : Int) := by omega
                  have hiI : (i : Int) < (k : Int) := by omega
                  have hw1 : xm - 1 = r := by omega
                  clear hK' hK hno hPd hmi hrO hxi hp3 hxm
                  go_upto_region 21 with fail
                  obtain ⟨w7, hw7⟩ : ∃ w7, wr.setCell ⟨W2.heap.size, i, none⟩ (.int .i64 (r : Int)) = w7 := ⟨_, rfl⟩
                  have HPD7 := Lib.hid (hw7 ▸ HPD.out)
                  rw [hw7]
                  clear HPD cm fm c4 hw7 hw1 hwm
                  have d4 := (cell_one HPD7.out.c3).1
                  have hno3 : no3 ≤ k := by
                    have h1 := HK3.out.max
                    have h2 := HPD7.out.own.1
                    rw [ints_len] at h2
                    by_cases h0 : r = 0
                    · rw [if_pos h0, List.length_append, List.length_singleton] at h1; omega
                    · rw [if_neg h0] at h1; omega
                  obtain ⟨x9, _, _, hx9, _, d9, _⟩ := HPD7.out.au.ms.getg (i := i) hin
                  rw [List.getElem?_set_self (by have := HPD7.out.au.ms.1; rw [List.length_set] at this; omega)] at hx9
                  injection hx9 with hx9
                  subst hx9
                  by_cases h0 : r = 0
                  · subst h0
                    have hatl : at_ < ord3.length := (List.getElem?_eq_some_iff.1 HP3'.out).1
                    have HAT := Lib.hid (show (ord3 ++ [i])[at_]? = some p by rw [List.getElem?_append_left hatl]; exact HP3'.out)
                    have hwv : (Lit.int .i64 (i : Int)).wf = true := wf_of_i64 (by omega) (by omega)
                    clear hatl
                    go_upto_region 22 with fail
                    obtain ⟨V, hV⟩ : ∃ V, w7.drew.alloc (.cells #[.int .i64 ((i : Nat) : Int)] 3) = V := ⟨_, rfl⟩
                    have hEd : E w7 w7.drew := (E.refl w7).drew
                    have hEV : E w7 V := by rw [← hV]; exact hEd.alloc _
                    have hVc : V.cell? ⟨w7.heap.size, 0, none⟩ = some (.int .i64 ((i : Nat) : Int)) := by rw [← hV]; exact cell_new _ _ _
                    obtain ⟨A5, c5, V1, hrun, s3, _, o3, f3, hP5, s5⟩ := (HPD7.out).push i hwv hEV w7.heap.size hVc (by omega) 22
                    have s0 := (cell_one ((HPD7.out).e hEd).c1).1
                    have s1 := (cell_one ((HPD7.out).e hEV).c1).1
                    have o0 := ((HPD7.out).e hEd).blk.cells.2.2.2.1
                    have o1 := ((HPD7.out).e hEV).blk.cells.2.2.2.1
                    have HP5 := Lib.hid hP5
                    clear hP5
                    refine wp_region_held_drew (S := (fun w' => w'.cell? ⟨w.heap.size, 0, none⟩ = some (.pointer (some ⟨g, 0, none⟩)))) (by kernel_rfl) s0 (fun hHeld => ?_)
                    (((refine wpAnyH_take (i := 0) (v := ?_) rfl (by kernel_rfl) (by kernel_rfl) (by kernel_rfl) (fun _ _ _ h => h) (Or.inl ⟨by kernel_rfl, ?_⟩) (by assumption) ?_); rotate_left 1; (focus (intro w hSw; (try dsimp only at hSw); go_simp; (try with_reducible rfl))); (try simp only [Act.put, List.setIfInBounds_toArray, List.set_cons_zero, List.set_cons_succ])); ((refine wpAnyH_take (i := 1) (v := ?_) rfl (by kernel_rfl) (by kernel_rfl) (by kernel_rfl) (fun _ _ _ h => h) (Or.inl ⟨by kernel_rfl, ?_⟩) (by assumption) ?_); rotate_left 1; (focus (intro w hSw; (try dsimp only at hSw); go_simp; (try with_reducible rfl))); (try simp only [Act.put, List.setIfInBounds_toArray, List.set_cons_zero, List.set_cons_succ])); ((refine wpAnyH_take (i := 2) (v := ?_) rfl (by kernel_rfl) (by kernel_rfl) (by kernel_rfl) (fun _ _ _ h => h) (Or.inl ⟨by kernel_rfl, ?_⟩) (by assumption) ?_); rotate_left 1; (focus (intro w hSw; (try dsimp only at hSw); go_simp; (try with_reducible rfl))); (try simp only [Act.put, List.setIfInBounds_toArray, List.set_cons_zero, List.set_cons_succ])); ((refine wpAnyH_take (i := 3) (v := ?_) rfl (by kernel_rfl) (by kernel_rfl) (by kernel_rfl) (fun _ _ _ h => h) (Or.inl ⟨by kernel_rfl, ?_⟩) (by assumption) ?_); rotate_left 1; (focus (intro w hSw; (try dsimp only at hSw); go_simp; (try with_reducible rfl))); (try simp only [Act.put, List.setIfInBounds_toArray, List.set_cons_zero, List.set_cons_succ])); ((refine wpAnyH_take (i := 5) (v := ?_) rfl (by kernel_rfl) (by kernel_rfl) (by kernel_rfl) (fun _ _ _ h => h) (Or.inl ⟨by kernel_rfl, ?_⟩) (by assumption) ?_); rotate_left 1; (focus (intro w hSw; (try dsimp only at hSw); go_simp; (try with_reducible rfl))); (try simp only [Act.put, List.setIfInBounds_toArray, List.set_cons_zero, List.set_cons_succ])))
                    clear hHeld
                    refine wpAnyH_ready (rs := [4, 6]) (by kernel_rfl) (by simp) ?_
                    refine AllReadyH.cons rfl (fun K hK => ?_) (AllReadyH.cons rfl (fun K hK => ?_) AllReadyH.nil)
                    · rw [if_pos (by kernel_rfl)]
                      go_simp
                      refine hK _ _ s0 (fun hh => ?_)
                      clear hK K hh
                      (try simp only [Act.put, List.setIfInBounds_toArray, List.set_cons_zero, List.set_cons_succ])
                      (((refine wpAnyH_ready (rs := [6]) (by kernel_rfl) (by simp) ?_); (refine AllReadyH.cons rfl (fun K hK => ?_) AllReadyH.nil); (rw [if_pos (by kernel_rfl)]); go_simp))
                      (try rw [hV])
                      refine hK _ _ s1 (fun hh => ?_)
                      clear hK K hh
                      (try simp only [Act.put, List.setIfInBounds_toArray, List.set_cons_zero, List.set_cons_succ])
                      refine wpAnyH_ready (rs := [7]) (by kernel_rfl) (by simp) ?_
                      refine AllReadyH.cons rfl (fun K hK => ?_) AllReadyH.nil
                      refine step_app_runQ (by rfl) _ _ (by rfl) (by rfl) (by rfl) hrun ?_
                      refine hK _ _ s3 (fun hh => ?_)
                      clear hK K
                      (try simp only [Act.put, List.setIfInBounds_toArray, List.set_cons_zero, List.set_cons_succ])
                      (((refine wpAnyH_take (i := 8) (v := ?_) rfl (by kernel_rfl) (by kernel_rfl) (by kernel_rfl) (fun _ _ _ h => h) (Or.inl ⟨by kernel_rfl, ?_⟩) (by assumption) ?_); rotate_left 1; (focus (intro w hSw; (try dsimp only at hSw); go_simp; (try with_reducible rfl))); (try simp only [Act.put, List.setIfInBounds_toArray, List.set_cons_zero, List.set_cons_succ])); ((refine wpAnyH_take (i := 9) (v := ?_) rfl (by kernel_rfl) (by kernel_rfl) (by kernel_rfl) (fun _ _ _ h => h) (Or.inl ⟨by kernel_rfl, ?_⟩) (by assumption) ?_); rotate_left 1; (focus (intro w hSw; (try dsimp only at hSw); go_simp; (try with_reducible rfl))); (try simp only [Act.put, List.setIfInBounds_toArray, List.set_cons_zero, List.set_cons_succ])))
                      (((refine wpAnyH_ready (rs := [10]) (by kernel_rfl) (by simp) ?_); (refine AllReadyH.cons rfl (fun K hK => ?_) AllReadyH.nil); (rw [if_pos (by kernel_rfl)]); go_simp))
                      refine hK _ _ s5 (fun hh2 => ?_)
                      clear hK K hh hh2
                      (try simp only [Act.put, List.setIfInBounds_toArray, List.set_cons_zero, List.set_cons_succ])
                      refine wpAnyH_done (by kernel_rfl) ?_ _
                      go_simp
                      go_wp2_with fail
                      first
                        | exact ⟨⟨j + 1, _, A5, no3 + 1, c5, _, by omega, by go_num, HP5.out, by have := HK3.out; rw [if_pos rfl] at this; exact this, HAT.out⟩, by simp [intOf]; omega⟩
                        | (go_roundw
                           case rel => exact ⟨j + 1, _, A5, no3 + 1, c5, _, by omega, by go_num, HP5.out, by have := HK3.out; rw [if_pos rfl] at this; exact this, HAT.out⟩
                           case measure => simp [intOf]; omega)
                    · rw [if_pos (by kernel_rfl)]
                      go_simp
                      (try rw [hV])
                      refine hK _ _ s1 (fun hh => ?_)
                      clear hK K hh
                      (try simp only [Act.put, List.setIfInBounds_toArray, List.set_cons_zero, List.set_cons_succ])
                      (((refine wpAnyH_ready (rs := [4]) (by kernel_rfl) (by simp) ?_); (refine AllReadyH.cons rfl (fun K hK => ?_) AllReadyH.nil); (rw [if_pos (by kernel_rfl)]); go_simp))
                      refine hK _ _ s1 (fun hh => ?_)
                      clear hK K hh
                      (try simp only [Act.put, List.setIfInBounds_toArray, List.set_cons_zero, List.set_cons_succ])
                      refine wpAnyH_ready (rs := [7]) (by kernel_rfl) (by simp) ?_
                      refine AllReadyH.cons rfl (fun K hK => ?_) AllReadyH.nil
                      refine step_app_runQ (by rfl) _ _ (by rfl) (by rfl) (by rfl) hrun ?_
                      refine hK _ _ s3 (fun hh => ?_)
                      clear hK K
                      (try simp only [Act.put, List.setIfInBounds_toArray, List.set_cons_zero, List.set_cons_succ])
                      (((refine wpAnyH_take (i := 8) (v := ?_) rfl (by kernel_rfl) (by kernel_rfl) (by kernel_rfl) (fun _ _ _ h => h) (Or.inl ⟨by kernel_rfl, ?_⟩) (by assumption) ?_); rotate_left 1; (focus (intro w hSw; (try dsimp only at hSw); go_simp; (try with_reducible rfl))); (try simp only [Act.put, List.setIfInBounds_toArray, List.set_cons_zero, List.set_cons_succ])); ((refine wpAnyH_take (i := 9) (v := ?_) rfl (by kernel_rfl) (by kernel_rfl) (by kernel_rfl) (fun _ _ _ h => h) (Or.inl ⟨by kernel_rfl, ?_⟩) (by assumption) ?_); rotate_left 1; (focus (intro w hSw; (try dsimp only at hSw); go_simp; (try with_reducible rfl))); (try simp only [Act.put, List.setIfInBounds_toArray, List.set_cons_zero, List.set_cons_succ])))
                      (((refine wpAnyH_ready (rs := [10]) (by kernel_rfl) (by simp) ?_); (refine AllReadyH.cons rfl (fun K hK => ?_) AllReadyH.nil); (rw [if_pos (by kernel_rfl)]); go_simp))
                      refine hK _ _ s5 (fun hh2 => ?_)
                      clear hK K hh hh2
                      (try simp only [Act.put, List.setIfInBounds_toArray, List.set_cons_zero, List.set_cons_succ])
                      refine wpAnyH_done (by kernel_rfl) ?_ _
                      go_simp
                      go_wp2_with fail
                      first
                        | exact ⟨⟨j + 1, _, A5, no3 + 1, c5, _, by omega, by go_num, HP5.out, by have := HK3.out; rw [if_pos rfl] at this; exact this, HAT.out⟩, by simp [intOf]; omega⟩
                        | (go_roundw
                           case rel => exact ⟨j + 1, _, A5, no3 + 1, c5, _, by omega, by go_num, HP5.out, by have := HK3.out; rw [if_pos rfl] at this; exact this, HAT.out⟩
                           case measure => simp [intOf]; omega)

                  · have dz : ((r : Int) == 0) = false := by simp; exact h0
                    have HK4 := Lib.hid (show KSt k Ed at_ (List.take (j + 1) (us Ed p)) ord3 (ms3.set i ↑r) by have := HK3.out; rw [if_neg h0] at this; exact this)
                    clear h0 HK3
                    go_wp2_with fail
                    go_roundw
                    case rel => exact ⟨j + 1, _, Ao3, no3, co3, ord3, by omega, by go_num, HPD7.out, HK4.out, HP3'.out⟩
                    case measure => simp [intOf]; omega
                · have hjn : j = rn := by omega
                  have hju : (us Ed p).take j = us Ed p := by rw [hjn, HRL.out.2.2, List.take_length]
                  have hKn := hK.next hp3 hju
                  have HKN := Lib.hid hKn
                  have HPn := Lib.hid hP
                  clear hKn hK hP hju
                  have hat3 : at_ < k := by have := HLN.out; omega
                  have hjI : ¬ ((j : Int) < (rn : Int)) := by omega
                  go_wp2_with fail
                  go_roundw
                  case rel => exact ⟨at_ + 1, _, _, _, _, _, by go_num, HPn.out, HKN.out⟩
                  case measure => simp [intOf]; omega
            · have hatn : at_ = no := by omega
              have HPn := Lib.hid hP
              have HKn := Lib.hid hK
              have hlen2 := Lib.hid hlen
              have hatI : ¬ ((at_ : Int) < (no : Int)) := by omega
              have c0g := hP.blk.cells.1
              clear hP hK hlen hle
              go_wp2_with fail
              (refine wp_region_quiet_lit (by kernel_rfl) (by kernel_rfl) ?_; (repeat (first | ((with_reducible refine wpQuiet_step (fun K hK => ?_)); go_simp; (with_reducible refine hK _ ?_); clear hK K) | ((with_reducible refine wpQuiet_off (by kernel_rfl) (fun K hK => ?_)); go_simp; (with_reducible refine hK _ ?_); clear hK K))); (with_reducible refine wpQuiet_nil ?_); intro _ hw'; obtain ⟨nq, hw''⟩ := hw'; subst hw'')
              go_wp2_with fail
              go_ret
              have hPq := HPn.out.e ((E.refl wr).drewN nq)
              refine ⟨Ao, no, co, ord, ms2, ?_, hlen2.out, hPq.blk, hPq.own.rebase HLT0.out, ?_, hPq.ex⟩
              · exact ret_bool (show ((no : Int) == (k : Int)) = decide (no = fs.length) by rw [HFL.out, Bool.eq_iff_iff]; simp; omega)
              · have e1 : fs.length = k := HFL.out
                rw [e1, HED.out, hlen2.out, ← hatn]
                exact HKn.out
end Go.Proofs.Ytmeplpiamkaniaa
/- A graph in memory. -/
namespace Go.Proofs.Ytmeplpiamkaniaa
set_option linter.unusedVariables false
set_option linter.unusedSimpArgs false
open Go.RowKit

/-- a graph of small size -/
structure Sm (fs : List Fl) : Prop where
  n : fs.length ≤ 10
  u : cntU fs ≤ 5000
  m : ∀ f ∈ fs, f.made.length ≤ 500
/-- what the block of a graph holds -/
structure GP where
  mb : Nat
  km : Nat
  bF : Nat
  Af : Option Addr
  cf : Nat
  qf : List FlSl
  bS : Nat
  gs : Nat
  qs : List GR
  bO : Nat
  Ao : Option Addr
  co : Nat
  ord : List Nat
  Ah : Option Addr
  nh : Nat
  ch : Nat
structure GrM (w : World) (X : Nat → Prop) (g : Nat) (fs : List Fl) (p : GP) : Prop where
  ok : GOk fs
  blk : GBlk w g (.slice p.Af fs.length p.cf) (.slice (some ⟨p.gs, 0, none⟩) fs.length fs.length) (.slice p.Ao fs.length p.co) (.slice p.Ah p.nh p.ch) p.mb
  fl : FRow w p.bF p.Af fs.length p.cf p.qf
  flv : p.qf.map Prod.fst = fs
  st : IRow w p.bS p.gs fs.length fs.length p.qs
  stv : ∀ (i : Nat) (r : GR) (f : Fl), p.qs[i]? = some r → fs[i]? = some f → r.1 = startsF 0 f.parts
  mp : MapD w p.mb p.km (plcV fs)
  od : Own .i64 3 w p.bO p.Ao fs.length p.co (ints p.ord)
  topo : Topo fs p.ord
  hs : (p.Ah = none ∧ p.nh = 0 ∧ p.ch = 0) ∨ ∃ h bh gh, HashOf fs h ∧ p.Ah = some ⟨gh, 0, none⟩ ∧ p.nh = fs.length ∧ Own .u64 50 w bh p.Ah fs.length p.ch (fs.map fun f => h f.id)
  xg : X g ∧ X p.mb ∧ X p.gs
  xf : ∀ b, ob p.Af = some b → X b
  xfs : ∀ q ∈ p.qf, (0 < q.2.1.2.1 → ∀ b, ob q.2.1.1 = some b → X b) ∧ (0 < q.2.2.2.1 → ∀ b, ob q.2.2.1 = some b → X b)
  xs : ∀ q ∈ p.qs, ∀ b, ob q.2.1 = some b → X b
  xo : ∀ b, ob p.Ao = some b → X b
  xh : ∀ b, ob p.Ah = some b → X b
  lt : ∀ i, X i → i < w.heap.size
def GraphAt (w : World) (X : Nat → Prop) (g : Nat) (fs : List Fl) : Prop := ∃ p, GrM w X g fs p
section
variable {w w' : World} {X Y : Nat → Prop} {g : Nat} {fs : List Fl} {p : GP}
theorem GrM.ex (h : GrM w X g fs p) (hY : Ex Y w w') (hd : ∀ i, X i → ¬ Y i) : GrM w' X g fs p :=
  ⟨h.ok, (hY.block g (h.lt _ h.xg.1) (hd _ h.xg.1)).trans h.blk, h.fl.exX hY (fun b hb => hd _ (h.xf b hb)) (fun q hq => ⟨fun h0 b hb => hd _ ((h.xfs q hq).1 h0 b hb), fun h0 b hb => hd _ ((h.xfs q hq).2 h0 b hb)⟩), h.flv,
    h.st.ex hY (hd _ h.xg.2.2) (fun q hq b hb => hd _ (h.xs q hq b hb)), h.stv, h.mp.block (hY.block _ (h.lt _ h.xg.2.1) (hd _ h.xg.2.1)), h.od.ex hY (fun b hb => hd _ (h.xo b hb)), h.topo,
    h.hs.imp id (fun ⟨k, bh, gh, h1, h2, h3, h4⟩ => ⟨k, bh, gh, h1, h2, h3, h4.ex hY (fun b hb => hd _ (h.xh b hb))⟩), h.xg, h.xf, h.xfs, h.xs, h.xo, h.xh, fun i hi => Nat.lt_of_lt_of_le (h.lt i hi) hY.size⟩
theorem GrM.e (h : GrM w X g fs p) (hE : E w w') : GrM w' X g fs p := h.ex (Y := fun _ => False) (Ex.of_e hE) (fun _ _ x => x)
theorem GraphAt.ex (h : GraphAt w X g fs) (hY : Ex Y w w') (hd : ∀ i, X i → ¬ Y i) : GraphAt w' X g fs := by obtain ⟨p, h⟩ := h; exact ⟨p, h.ex hY hd⟩
theorem GraphAt.e (h : GraphAt w X g fs) (hE : E w w') : GraphAt w' X g fs := by obtain ⟨p, h⟩ := h; exact ⟨p, h.e hE⟩
theorem GrM.flows (h : GrM w X g fs p) : FlowsAt w p.Af fs.length p.cf fs := h.fl.flows.cast h.flv
theorem GrM.rows (h : GrM w X g fs p) : RowsAt w (some ⟨p.gs, 0, none⟩) fs.length fs.length (fs.map fun f => startsF 0 f.parts) := by
  refine h.st.rows.cast ?_
  apply List.ext_getElem?
  intro i
  rw [List.getElem?_map, List.getElem?_map]
  rcases Nat.lt_or_ge i fs.length with hi | hi
  · have h1 : p.qs[i]? = some (p.qs[i]'(by rw [h.st.len]; exact hi)) := List.getElem?_eq_getElem _
    have h2 : fs[i]? = some fs[i] := List.getElem?_eq_getElem hi
    rw [h1, h2, Option.map_some, Option.map_some, h.stv i _ _ h1 h2]
  · rw [List.getElem?_eq_none (by rw [h.st.len]; exact hi), List.getElem?_eq_none hi]; rfl
theorem GraphAt.lt (h : GraphAt w X g fs) : ∀ i, X i → i < w.heap.size := by obtain ⟨p, h⟩ := h; exact h.lt
theorem GraphAt.xg (h : GraphAt w X g fs) : X g := by obtain ⟨p, h⟩ := h; exact h.xg.1
theorem GraphAt.ok (h : GraphAt w X g fs) : GOk fs := by obtain ⟨p, h⟩ := h; exact h.ok
end

/-! what New checks, flow by flow -/
theorem take_at {α : Type} {l : List α} {k : Nat} {x : α} (h : l[k]? = some x) : l = l.take k ++ x :: l.drop (k + 1) := by
  have hlt := (List.getElem?_eq_some_iff.1 h).1
  have h2 := List.take_append_drop k l
  rw [List.drop_eq_getElem_cons hlt] at h2
  have h3 : l[k] = x := by rw [List.getElem?_eq_getElem hlt] at h; exact Option.some.inj h
  rw [h3] at h2
  exact h2.symm
theorem take_snoc {α : Type} {l : List α} {k : Nat} {x : α} (h : l[k]? = some x) : l.take (k + 1) = l.take k ++ [x] := by rw [List.take_add_one, h]; rfl
section
variable {fs : List Fl} {k : Nat} {f : Fl}
theorem chk1_bad (h0 : chk1 [] (fs.take k) = 0) (hk : fs[k]? = some f) (hb : okF f = false) : chk1 [] fs = 1 := by
  conv => lhs; rw [take_at hk]
  rw [chk1_app, if_pos h0, chk1, hb]; rfl
theorem pos_take_ne {i : Int} : posF (fs.take k) i = none ↔ i ∉ (fs.take k).map Fl.id := by
  rw [posF_none, getF_none]
  simp only [List.mem_map, not_exists, not_and]
theorem chk1_twice (h0 : chk1 [] (fs.take k) = 0) (hk : fs[k]? = some f) (hb : okF f = true) {j : Nat} (hp : posF (fs.take k) f.id = some j) : chk1 [] fs = 8 := by
  conv => lhs; rw [take_at hk]
  rw [chk1_app, if_pos h0, chk1, if_pos hb, if_pos]
  have : ¬ posF (fs.take k) f.id = none := by rw [hp]; simp
  rw [pos_take_ne] at this
  simpa using this
theorem chk1_next (h0 : chk1 [] (fs.take k) = 0) (hk : fs[k]? = some f) (hb : okF f = true) (hp : posF (fs.take k) f.id = none) : chk1 [] (fs.take (k + 1)) = 0 := by
  rw [take_snoc hk, chk1_app, if_pos h0, chk1, if_pos hb, if_neg, chk1]
  rw [pos_take_ne] at hp
  simpa using hp
theorem pos_next (hk : fs[k]? = some f) (hp : posF (fs.take k) f.id = none) (i : Int) : posF (fs.take (k + 1)) i = if i = f.id then some k else posF (fs.take k) i := by
  have hlt := (List.getElem?_eq_some_iff.1 hk).1
  have hlen : (fs.take k).length = k := by rw [List.length_take]; omega
  rw [take_snoc hk, posF, List.findIdx?_append]
  by_cases e : i = f.id
  · subst e
    rw [if_pos rfl]
    unfold posF at hp
    rw [hp, hlen]
    simp [List.findIdx?_cons]
  · rw [if_neg e]
    have e2 : (f.id == i) = false := by simpa using fun h => e h.symm
    unfold posF
    cases (fs.take k).findIdx? fun f => f.id == i with
    | some j => rfl
    | none => simp [List.findIdx?_cons, e2]
theorem plc_next (hk : fs[k]? = some f) (hp : posF (fs.take k) f.id = none) (i : Int) : plcV (fs.take (k + 1)) i = if i = f.id then some (.int .i64 (k : Int)) else plcV (fs.take k) i := by
  unfold plcV
  rw [pos_next hk hp]
  by_cases e : i = f.id
  · rw [if_pos e, if_pos e]; rfl
  · rw [if_neg e, if_neg e]
end
/-- what New answers -/
def NewRet (w : World) (fs : List Fl) (e : Ending) (w' : World) : Prop :=
  ∃ r, NewE fs r ∧ E w w' ∧ ((r ≠ 0 ∧ e = .returned (.tuple #[.pointer none, .int .i64 r])) ∨ (r = 0 ∧ ∃ g X, e = .returned (.tuple #[.pointer (some ⟨g, 0, none⟩), .int .i64 0]) ∧ GraphAt w' X g fs ∧ ∀ i, X i → w.heap.size ≤ i))
end Go.Proofs.Ytmeplpiamkaniaa
/- The generator of graphs, plain: a flow that refers to flows of the list is put behind it. -/
namespace Go.Proofs.Ytmeplpiamkaniaa
set_option linter.unusedVariables false
set_option linter.unusedSimpArgs false

/-- what a new flow may be -/
structure NewF (fs : List Fl) (f : Fl) : Prop where
  ok : okF f = true
  fresh : ∀ g ∈ fs, g.id ≠ f.id
  part : ∀ p ∈ f.parts, ∃ q, getF fs p.1 = some q ∧ p.2.1 + p.2.2 ≤ q.n ∧ q.item = f.item
  made : ∀ j ∈ f.made, ∃ q, getF fs j = some q
theorem get_snoc {fs : List Fl} {f : Fl} (h : ∀ g ∈ fs, g.id ≠ f.id) (i : Int) : getF (fs ++ [f]) i = if i = f.id then some f else getF fs i := by
  rw [getF, List.find?_append]
  by_cases e : i = f.id
  · subst e
    rw [if_pos rfl]
    have : fs.find? (fun g => g.id == f.id) = none := by rw [List.find?_eq_none]; intro g hg; simpa using h g hg
    rw [this]; simp
  · rw [if_neg e]
    have e2 : (f.id == i) = false := by simpa using fun h => e h.symm
    rw [List.find?_cons, e2]
    simp [getF]
theorem get_old {fs : List Fl} {f q : Fl} (h : ∀ g ∈ fs, g.id ≠ f.id) {i : Int} (hq : getF fs i = some q) : getF (fs ++ [f]) i = some q := by
  rw [get_snoc h, if_neg, hq]
  intro e
  have := getF_some hq
  exact h q this.1 (this.2.trans e)
theorem linkE_zero {fs : List Fl} {f : Fl} (h1 : ∀ p ∈ f.parts, ∃ q, getF fs p.1 = some q ∧ p.2.1 + p.2.2 ≤ q.n ∧ q.item = f.item) (h2 : ∀ j ∈ f.made, ∃ q, getF fs j = some q) : linkE fs f = 0 := by
  rw [linkE, firstE_zero]
  intro e he
  rcases List.mem_append.1 he with he | he
  · obtain ⟨p, hp, rfl⟩ := List.mem_map.1 he
    obtain ⟨q, a, b, c⟩ := h1 p hp
    rw [partE, a]
    simp only
    rw [if_neg (by omega), if_pos c]
  · obtain ⟨j, hj, rfl⟩ := List.mem_map.1 he
    obtain ⟨q, a⟩ := h2 j hj
    rw [madeE, a]; rfl
theorem GOk.nil : GOk [] := ⟨rfl, rfl, fun _ => 0, fun f hf => by cases hf⟩
theorem GOk.snoc {fs : List Fl} {f : Fl} (h : GOk fs) (hf : NewF fs f) : GOk (fs ++ [f]) := by
  refine ⟨?_, ?_, ?_⟩
  · rw [chk1_app, if_pos h.one, chk1, if_pos hf.ok, if_neg, chk1]
    simp only [List.nil_append, List.contains_eq_mem, List.mem_map, decide_eq_true_eq, not_exists, not_and]
    exact fun g hg e => hf.fresh g hg e
  · rw [chk2, firstE_zero]
    intro e he
    obtain ⟨g, hg, rfl⟩ := List.mem_map.1 he
    rcases List.mem_append.1 hg with hg | hg
    · refine linkE_zero (fun p hp => ?_) (fun j hj => ?_)
      · obtain ⟨q, a, b⟩ := link_part (h.link g hg) hp
        exact ⟨q, get_old hf.fresh a, b⟩
      · obtain ⟨q, a⟩ := link_made (h.link g hg) hj
        exact ⟨q, get_old hf.fresh a⟩
    · rw [List.mem_singleton] at hg
      subst hg
      refine linkE_zero (fun p hp => ?_) (fun j hj => ?_)
      · obtain ⟨q, a, b⟩ := hf.part p hp
        exact ⟨q, get_old hf.fresh a, b⟩
      · obtain ⟨q, a⟩ := hf.made j hj
        exact ⟨q, get_old hf.fresh a⟩
  · obtain ⟨rk, hrk⟩ := h.rk
    have hmax : ∃ M, ∀ j ∈ refsF f, rk j < M := by
      generalize refsF f = L
      induction L with
      | nil => exact ⟨0, fun _ h => by cases h⟩
      | cons a L ih =>
        obtain ⟨M, hM⟩ := ih
        refine ⟨M + rk a + 1, fun j hj => ?_⟩
        rcases List.mem_cons.1 hj with rfl | hj
        · omega
        · have := hM j hj; omega
    obtain ⟨M, hM⟩ := hmax
    have hne : ∀ j q, getF fs j = some q → j ≠ f.id := fun j q hq e => hf.fresh q (getF_some hq).1 ((getF_some hq).2.trans e)
    refine ⟨fun i => if i = f.id then M else rk i, fun g hg j hj => ?_⟩
    rcases List.mem_append.1 hg with hg | hg
    · obtain ⟨q, hq⟩ := h.refs hg hj
      simp only
      rw [if_neg (hne j q hq), if_neg (hf.fresh g hg)]
      exact hrk g hg j hj
    · rw [List.mem_singleton] at hg
      subst hg
      have : ∃ q, getF fs j = some q := by
        rcases List.mem_append.1 hj with hj' | hj'
        · obtain ⟨p, hp, rfl⟩ := List.mem_map.1 hj'
          obtain ⟨q, hq, _⟩ := hf.part p hp
          exact ⟨q, hq⟩
        · exact hf.made j hj'
      obtain ⟨q, hq⟩ := this
      show (if j = _ then M else rk j) < (if _ = _ then M else _)
      rw [if_neg (hne j q hq), if_pos rfl]
      exact hM j hj
theorem cntU_snoc (fs : List Fl) (f : Fl) : cntU (fs ++ [f]) = cntU fs + f.n.toNat := by
  rw [cntU, allU, List.flatMap_append, List.length_append, ← allU, ← cntU]
  simp [ul_len]
theorem cntU_n {fs : List Fl} {f : Fl} (hf : f ∈ fs) : f.n.toNat ≤ cntU fs := by
  obtain ⟨i, hi⟩ := List.getElem?_of_mem hf
  have : fs = fs.take i ++ f :: fs.drop (i + 1) := take_at hi
  rw [this, cntU, allU, List.flatMap_append, List.length_append, List.flatMap_cons, List.length_append, ul_len]
  simp only
  omega
/-! the generator -/
def idsG : List Int := [4, 4294967297, 1, 9, 4294967296, 0, 7, 4294967300, 3]
/-- the parts and the IDs that the first k flows give -/
structure PartG (fs : List Fl) (item : Int) (k : Nat) (P : List Lt) (M : List Int) : Prop where
  part : ∀ p ∈ P, ∃ q, getF fs p.1 = some q ∧ q.item = item ∧ 0 ≤ p.2.1 ∧ 1 ≤ p.2.2 ∧ p.2.1 + p.2.2 ≤ q.n
  pl : P.length ≤ k
  tot : totL P ≤ (cntU (fs.take k) : Int)
  made : ∀ j ∈ M, ∃ q, getF fs j = some q
  ml : M.length ≤ k
/-- the flows made so far -/
structure GenG (fs : List Fl) (i : Nat) : Prop where
  ok : GOk fs
  ids : fs.map Fl.id = idsG.take i
  cnt : 2 * cntU fs ≤ 9 * 2 ^ i
  pl : ∀ f ∈ fs, f.parts.length ≤ 9
  ml : ∀ f ∈ fs, f.made.length ≤ 9
theorem GenG.nil : GenG [] 0 := ⟨GOk.nil, rfl, by decide, fun _ h => (by cases h), fun _ h => (by cases h)⟩
theorem GenG.len {fs : List Fl} {i : Nat} (h : GenG fs i) (hi : i ≤ 9) : fs.length = i := by
  have := congrArg List.length h.ids
  rw [List.length_map, List.length_take] at this
  have h9 : idsG.length = 9 := rfl
  omega
theorem GenG.sm {fs : List Fl} {i : Nat} (h : GenG fs i) (hi : i ≤ 9) : Sm fs := by
  refine ⟨by have := h.len hi; omega, ?_, fun f hf => by have := h.ml f hf; omega⟩
  have h1 : 9 * 2 ^ i ≤ 9 * 2 ^ 9 := Nat.mul_le_mul_left _ (Nat.pow_le_pow_right (by decide) hi)
  have := h.cnt
  omega
theorem GenG.c2304 {fs : List Fl} {i : Nat} (h : GenG fs i) (hi : i ≤ 9) : cntU fs ≤ 2304 := by
  have h1 : 9 * 2 ^ i ≤ 9 * 2 ^ 9 := Nat.mul_le_mul_left _ (Nat.pow_le_pow_right (by decide) hi)
  have := h.cnt
  omega
theorem PartG.start (fs : List Fl) (item : Int) : PartG fs item 0 [] [] := ⟨fun _ h => (by cases h), Nat.le_refl _, (by simp [totL_nil]), fun _ h => (by cases h), Nat.le_refl _⟩
theorem cnt_take {fs : List Fl} {k : Nat} {q : Fl} (hk : fs[k]? = some q) : cntU (fs.take (k + 1)) = cntU (fs.take k) + q.n.toNat := by
  rw [take_snoc hk, cntU_snoc]
section
variable {fs : List Fl} {item : Int} {k : Nat} {P : List Lt} {M : List Int} {q : Fl}
theorem PartG.skip (h : PartG fs item k P M) (hk : fs[k]? = some q) : PartG fs item (k + 1) P M :=
  ⟨h.part, Nat.le_succ_of_le h.pl, by have := h.tot; rw [cnt_take hk]; omega, h.made, Nat.le_succ_of_le h.ml⟩
theorem PartG.put (h : PartG fs item k P M) (hi : Ids fs) (hk : fs[k]? = some q) (he : q.item = item) {x : Lt} (h1 : x.1 = q.id) (h2 : 0 ≤ x.2.1) (h3 : 1 ≤ x.2.2) (h4 : x.2.1 + x.2.2 ≤ q.n) : PartG fs item (k + 1) (P ++ [x]) M := by
  refine ⟨fun p hp => ?_, by rw [List.length_append]; have := h.pl; simp; omega, ?_, h.made, Nat.le_succ_of_le h.ml⟩
  · rcases List.mem_append.1 hp with hp | hp
    · exact h.part p hp
    · rw [List.mem_singleton] at hp
      subst hp
      exact ⟨q, by rw [h1]; exact (hi.get hk).2, he, h2, h3, h4⟩
  · rw [totL_app, totL_cons, totL_nil, cnt_take hk]
    have := h.tot
    omega
theorem PartG.add (h : PartG fs item (k + 1) P M) (hm : M.length ≤ k) (hi : Ids fs) (hk : fs[k]? = some q) : PartG fs item (k + 1) P (M ++ [q.id]) := by
  refine ⟨h.part, h.pl, h.tot, fun j hj => ?_, by rw [List.length_append]; simp; omega⟩
  rcases List.mem_append.1 hj with hj | hj
  · exact h.made j hj
  · rw [List.mem_singleton] at hj
    subst hj
    exact ⟨q, (hi.get hk).2⟩
theorem GenG.new {i : Nat} (h : GenG fs i) {f : Fl} (hid : idsG[i]? = some f.id) (h0 : 0 ≤ f.item) (hP : PartG fs f.item fs.length f.parts f.made) (hn : (f.parts = [] ∧ 1 ≤ f.n ∧ f.n ≤ 9) ∨ (f.parts ≠ [] ∧ f.made = [] ∧ f.n = totL f.parts)) : GenG (fs ++ [f]) (i + 1) := by
  have hi9 : i < 9 := (List.getElem?_eq_some_iff.1 hid).1
  have hlen := h.len (by omega)
  have hcf := h.cnt
  have hpow : 9 * 2 ^ (i + 1) = 2 * (9 * 2 ^ i) := by rw [Nat.pow_succ]; omega
  have hle : 9 * 2 ^ i ≤ 9 * 2 ^ 8 := Nat.mul_le_mul_left _ (Nat.pow_le_pow_right (by decide) (by omega))
  have hid0 : 0 ≤ f.id := by
    have hm := List.mem_of_getElem? hid
    simp only [idsG, List.mem_cons, List.not_mem_nil, or_false] at hm
    omega
  have hposs : ∀ p ∈ f.parts, possB p = true := fun p hp => by
    obtain ⟨q, a, _, b, c, d⟩ := hP.part p hp
    obtain ⟨a1, a2⟩ := getF_some a
    obtain ⟨_, o1, _, _, o4, _⟩ := okF_iff.1 (h.ok.ok q a1)
    exact possB_iff.2 ⟨by omega, b, by omega, c, by omega⟩
  have htot : 1 ≤ f.n ∧ f.n.toNat ≤ 9 ∨ 1 ≤ f.n ∧ f.n.toNat ≤ cntU fs := by
    rcases hn with ⟨_, a, b⟩ | ⟨a, _, b⟩
    · exact .inl ⟨a, by omega⟩
    · right
      have h1 := hP.tot
      rw [List.take_length] at h1
      refine ⟨?_, by omega⟩
      obtain ⟨y, hy⟩ := List.exists_mem_of_ne_nil _ a
      have h2 := U_len (l := f.parts) (fun x hx => by have := possB_iff.1 (hposs x hx); omega)
      have h3 : 0 < (U f.parts).length := by
        have hp := possB_iff.1 (hposs y hy)
        exact List.length_pos_of_mem (mem_U.2 ⟨y, hy, mem_ul.2 ⟨rfl, Int.le_refl _, by simp only; omega⟩⟩ : (y.1, y.2.1) ∈ U f.parts)
      omega
  have hpl9 := hP.pl
  have hml9 := hP.ml
  refine ⟨h.ok.snoc ⟨okF_iff.2 ⟨validB_iff.2 ⟨by omega, hposs⟩, hid0, h0, by omega, by omega, ?_⟩, fun g hg e => ?_, fun p hp => ?_, hP.made⟩, ?_, ?_, fun g hg => ?_, fun g hg => ?_⟩
  · rcases hn with ⟨a, _⟩ | ⟨_, a, b⟩
    · exact .inl a
    · exact .inr ⟨a, b.symm⟩
  · have hm : g.id ∈ idsG.take i := by rw [← h.ids]; exact List.mem_map.2 ⟨g, hg, rfl⟩
    rw [e] at hm
    obtain ⟨j, hj, hje⟩ := List.getElem_of_mem hm
    rw [List.length_take] at hj
    rw [List.getElem_take] at hje
    have hnd : idsG.Nodup := by decide
    have h9 : idsG.length = 9 := rfl
    have hie : idsG[i]'(by omega) = f.id := (List.getElem?_eq_some_iff.1 hid).2
    exact (List.pairwise_iff_getElem.1 hnd) j i (by omega) (by omega) (by omega) (hje.trans hie.symm)
  · obtain ⟨q, a, b, _, _, d⟩ := hP.part p hp
    exact ⟨q, a, d, b⟩
  · rw [List.map_append, h.ids, List.take_add_one, hid]; rfl
  · rw [cntU_snoc, hpow]
    rcases Nat.eq_zero_or_pos i with e0 | e0
    · subst e0
      have h2 : fs = [] := List.eq_nil_of_length_eq_zero hlen
      subst h2
      have h3 : cntU [] = 0 := rfl
      rw [h3] at htot ⊢
      have h4 : (9 : Nat) * 2 ^ 0 = 9 := rfl
      omega
    · have h5 : 9 * 2 ^ 1 ≤ 9 * 2 ^ i := Nat.mul_le_mul_left _ (Nat.pow_le_pow_right (by decide) e0)
      omega
  · rcases List.mem_append.1 hg with hg | hg
    · exact h.pl g hg
    · rw [List.mem_singleton] at hg; subst hg; omega
  · rcases List.mem_append.1 hg with hg | hg
    · exact h.ml g hg
    · rw [List.mem_singleton] at hg; subst hg; omega
end
end Go.Proofs.Ytmeplpiamkaniaa
/- A flow under way: its box, its parts, its IDs. -/
namespace Go.Proofs.Ytmeplpiamkaniaa
set_option linter.unusedVariables false
set_option linter.unusedSimpArgs false
open Go.RowKit

/-- some graph of up to nine flows -/
def RetFlows (w : World) (e : Ending) (w' : World) : Prop := ∃ fs A n c, GenG fs n ∧ n ≤ 9 ∧ e = .returned (.slice A n c) ∧ FlowsAt w' A n c fs ∧ E w w'
theorem ids_cells (w : World) : ∀ i x, idsG[i]? = some x → (w.alloc (.cells #[.int .i64 4, .int .i64 4294967297, .int .i64 1, .int .i64 9, .int .i64 4294967296, .int .i64 0, .int .i64 7, .int .i64 4294967300, .int .i64 3] 3)).cell? ⟨w.heap.size, i, none⟩ = some (.int .i64 x) := fun i x h => by
  have hb := heap_alloc_new w (.cells #[.int .i64 4, .int .i64 4294967297, .int .i64 1, .int .i64 9, .int .i64 4294967296, .int .i64 0, .int .i64 7, .int .i64 4294967300, .int .i64 3] 3)
  rw [cell_of_row _ _ i _ _ _ hb]
  have e : (#[Value.int .i64 4, .int .i64 4294967297, .int .i64 1, .int .i64 9, .int .i64 4294967296, .int .i64 0, .int .i64 7, .int .i64 4294967300, .int .i64 3] : Array Value)[i]? = (idsG.map (Value.int .i64))[i]? := by rw [← List.getElem?_toArray]; rfl
  rw [e, List.getElem?_map, h]; rfl
theorem ids_wf {i : Nat} {x : Int} (h : idsG[i]? = some x) : 0 ≤ x ∧ x ≤ 4294967300 := by
  have hm := List.mem_of_getElem? h
  simp only [idsG, List.mem_cons, List.not_mem_nil, or_false] at hm
  omega
theorem FlBox.cells0 {w : World} {b : Nat} {f : Fl} {s t : Sl} (h : FlBox w b f s t) : w.cell? ⟨b, 0, none⟩ = some (.int .i64 f.id) ∧ w.cell? ⟨b, 1, none⟩ = some (.int .i64 f.step) ∧ w.cell? ⟨b, 2, none⟩ = some (.int .i64 f.kind) ∧ w.cell? ⟨b, 3, none⟩ = some (.int .i64 f.tick) ∧ w.cell? ⟨b, 4, none⟩ = some (.int .i64 f.actor) ∧ w.cell? ⟨b, 5, none⟩ = some (.int .i64 f.frm) ∧ w.cell? ⟨b, 6, none⟩ = some (.int .i64 f.to) ∧ w.cell? ⟨b, 7, none⟩ = some (.int .i64 f.item) ∧ w.cell? ⟨b, 8, none⟩ = some (.int .i64 f.n) ∧ w.cell? ⟨b, 9, none⟩ = some (.slice s.1 s.2.1 s.2.2) ∧ w.cell? ⟨b, 10, none⟩ = some (.slice t.1 t.2.1 t.2.2) := by
  have h0 := h.cells
  unfold FlCells at h0
  simp only [Nat.zero_add] at h0
  exact h0
theorem FlBox.frzAll {w : World} {b : Nat} {f : Fl} {s t : Sl} (h : FlBox w b f s t) : w.frozen? ⟨b, 0, none⟩ = false ∧ w.frozen? ⟨b, 1, none⟩ = false ∧ w.frozen? ⟨b, 2, none⟩ = false ∧ w.frozen? ⟨b, 3, none⟩ = false ∧ w.frozen? ⟨b, 4, none⟩ = false ∧ w.frozen? ⟨b, 5, none⟩ = false ∧ w.frozen? ⟨b, 6, none⟩ = false ∧ w.frozen? ⟨b, 7, none⟩ = false ∧ w.frozen? ⟨b, 8, none⟩ = false ∧ w.frozen? ⟨b, 9, none⟩ = false ∧ w.frozen? ⟨b, 10, none⟩ = false :=
  ⟨h.frz 0, h.frz 1, h.frz 2, h.frz 3, h.frz 4, h.frz 5, h.frz 6, h.frz 7, h.frz 8, h.frz 9, h.frz 10⟩
theorem FlBox.both {w : World} {b : Nat} {f : Fl} {s t : Sl} (h : FlBox w b f s t) : (w.cell? ⟨b, 0, none⟩ = some (.int .i64 f.id) ∧ w.cell? ⟨b, 1, none⟩ = some (.int .i64 f.step) ∧ w.cell? ⟨b, 2, none⟩ = some (.int .i64 f.kind) ∧ w.cell? ⟨b, 3, none⟩ = some (.int .i64 f.tick) ∧ w.cell? ⟨b, 4, none⟩ = some (.int .i64 f.actor) ∧ w.cell? ⟨b, 5, none⟩ = some (.int .i64 f.frm) ∧ w.cell? ⟨b, 6, none⟩ = some (.int .i64 f.to) ∧ w.cell? ⟨b, 7, none⟩ = some (.int .i64 f.item) ∧ w.cell? ⟨b, 8, none⟩ = some (.int .i64 f.n) ∧ w.cell? ⟨b, 9, none⟩ = some (.slice s.1 s.2.1 s.2.2) ∧ w.cell? ⟨b, 10, none⟩ = some (.slice t.1 t.2.1 t.2.2)) ∧ w.frozen? ⟨b, 0, none⟩ = false ∧ w.frozen? ⟨b, 1, none⟩ = false ∧ w.frozen? ⟨b, 2, none⟩ = false ∧ w.frozen? ⟨b, 3, none⟩ = false ∧ w.frozen? ⟨b, 4, none⟩ = false ∧ w.frozen? ⟨b, 5, none⟩ = false ∧ w.frozen? ⟨b, 6, none⟩ = false ∧ w.frozen? ⟨b, 7, none⟩ = false ∧ w.frozen? ⟨b, 8, none⟩ = false ∧ w.frozen? ⟨b, 9, none⟩ = false ∧ w.frozen? ⟨b, 10, none⟩ = false := ⟨h.cells0, h.frzAll⟩
theorem FlBox.set10 {w : World} {b : Nat} {f : Fl} {s t : Sl} (h : FlBox w b f s t) (A : Option Addr) (n c : Nat) : FlBox (w.setCell ⟨b, 10, none⟩ (.slice A n c)) b f s (A, n, c) := heap_setCell_same _ _ 10 _ _ (.slice A n c) h
theorem FlBox.set9 {w : World} {b : Nat} {f : Fl} {s t : Sl} (h : FlBox w b f s t) (A : Option Addr) (n c : Nat) : FlBox (w.setCell ⟨b, 9, none⟩ (.slice A n c)) b f (A, n, c) t := heap_setCell_same _ _ 9 _ _ (.slice A n c) h
theorem FlBox.set8 {w : World} {b : Nat} {f : Fl} {s t : Sl} (h : FlBox w b f s t) (v : Int) : FlBox (w.setCell ⟨b, 8, none⟩ (.int .i64 v)) b { f with n := v } s t := heap_setCell_same _ _ 8 _ _ (.int .i64 v) h
theorem ex_set (w : World) (b j : Nat) (v : Value) : Ex (fun i => i = b) w (w.setCell ⟨b, j, none⟩ v) := (Ex.refl (fun i => i = b) w).setCell ⟨b, j, none⟩ (.inr rfl) v
/-- a flow under way: the box, the parts and the IDs -/
structure GmI (wa wr : World) (B : Nat) (f0 : Fl) (Ap : Option Addr) (np cp : Nat) (P : List Lt) (Am : Option Addr) (nm cm : Nat) (M : List Int) : Prop where
  op : OwnL wr (B + 1) Ap np cp P
  om : Own .i64 3 wr (B + 1) Am nm cm M
  ap : apartS Ap Am
  bx : FlBox wr B f0 zS (Am, nm, cm)
  e : E wa wr
  lo : wa.heap.size ≤ B
section
variable {wa wr V : World} {B : Nat} {f0 : Fl} {Ap Am : Option Addr} {np cp nm cm : Nat} {P : List Lt} {M : List Int}
theorem GmI.sz (h : GmI wa wr B f0 Ap np cp P Am nm cm M) : B + 1 ≤ wr.heap.size := h.bx.lt
theorem GmI.e_ (h : GmI wa wr B f0 Ap np cp P Am nm cm M) (hE : E wr V) : GmI wa V B f0 Ap np cp P Am nm cm M :=
  ⟨h.op.e hE, h.om.e hE, h.ap, h.bx.e hE, h.e.trans hE, h.lo⟩
theorem GmI.part (h : GmI wa wr B f0 Ap np cp P Am nm cm M) (hE : E wr V) (A2 : Option Addr) (y : Lt) (hL : LotsAt V A2 1 1 [y]) (hn : np ≤ 1000000) (ty : TypeId) :
    ∃ A' c' V1, (Builtin.append_ #[29, 29] ty #[.slice Ap np cp, .slice A2 1 1]).run Try.prog V = .ok (.slice A' (np + 1) c') V1 ∧ GmI wa V1 B f0 A' (np + 1) c' (P ++ [y]) Am nm cm M := by
  have h' := h.e_ hE
  obtain ⟨A', c', V1, hrun, hO, hG, hor⟩ := run_appL V ty (B + 1) Ap np cp P h'.op A2 1 1 [y] hL (by omega) h'.sz
  have hX : Ex (fun j => ob Ap = some j) V V1 := (Ex.refl _ V).grown hG (fun k hk => .inr hk)
  refine ⟨A', c', V1, hrun, hO, h'.om.ex hX (fun b hb h2 => h'.ap b h2 hb), fun b hb hb2 => ?_, h'.bx.ex hX (fun h2 => by have := (h'.op.ltN B h2).1; omega), h'.e.grown hG (fun k hk => by have := (h'.op.ltN k hk).1; have := h'.lo; omega), h.lo⟩
  rcases hor with h2 | h2
  · exact h'.ap b (by rw [← h2]; exact hb) hb2
  · rw [h2] at hb
    injection hb with hb
    have := (h'.om.ltN b hb2).2
    omega
theorem GmI.made (h : GmI wa wr B f0 Ap np cp P Am nm cm M) (hE : E wr V) (A2 : Option Addr) (y : Int) (hL : Nums .i64 V A2 1 1 [y]) (hn : nm ≤ 1000000) (ty : TypeId) :
    ∃ A' c' V1, (Builtin.append_ #[22, 22] ty #[.slice Am nm cm, .slice A2 1 1]).run Try.prog V = .ok (.slice A' (nm + 1) c') V1 ∧ FlBox V1 B f0 zS (Am, nm, cm) ∧ GmI wa (V1.setCell ⟨B, 10, none⟩ (.slice A' (nm + 1) c')) B f0 Ap np cp P A' (nm + 1) c' (M ++ [y]) := by
  have h' := h.e_ hE
  obtain ⟨A', c', V1, hrun, hO, hG, hor⟩ := run_appN intTk V ty (B + 1) Am nm cm M h'.om A2 1 1 [y] hL (by omega) h'.sz
  rw [ob_eq] at hG
  rw [ob_eq, ob_eq] at hor
  have hX : Ex (fun j => ob Am = some j) V V1 := (Ex.refl _ V).grown hG (fun k hk => .inr hk)
  have hb1 := h'.bx.ex hX (fun h2 => by have := (h'.om.ltN B h2).1; omega)
  have hs := ex_set V1 B 10 (.slice A' (nm + 1) c')
  refine ⟨A', c', V1, hrun, hb1, (h'.op.ex hX (fun b hb h2 => h'.ap b hb h2)).ex hs (fun b hb e => by have := (h'.op.ltN b hb).1; omega), hO.ex hs (fun b hb e => by have := (hO.ltN b hb).1; omega), fun b hb hb2 => ?_, hb1.set10 _ _ _, (h'.e.grown hG (fun k hk => by have := (h'.om.ltN k hk).1; have := h'.lo; omega)).setCell h'.lo _, h.lo⟩
  rcases hor with h2 | h2
  · exact h'.ap b hb (by rw [← h2]; exact hb2)
  · rw [h2] at hb2
    injection hb2 with hb2
    have := (h'.op.ltN b hb).2
    omega
end
theorem nums_one (W : World) {x : Int} (hx : (Lit.int .i64 x).wf = true) : Nums .i64 (W.alloc (.cells #[.int .i64 x] 3)) (some ⟨W.heap.size, 0, none⟩) 1 1 [x] :=
  ⟨rfl, Nat.le_refl _, by unfold maxLen; omega, by intro y hy; rw [List.mem_singleton] at hy; subst hy; exact hx, fun _ => ⟨W.heap.size, 0, rfl, by simp, fun j hj => by
    have : j = 0 := by simpa using hj
    subst this; exact cell_new _ _ _⟩⟩
theorem row_cells {A : Option Addr} {w : World} {base n c b o k : Nat} {q : List FlSl} {f : Fl} (h : FRow w base A n c q) (hk : k < n) (hA : A = some ⟨b, o, none⟩) (hf : (q.map Prod.fst)[k]? = some f) : w.cell? ⟨b, o + k * 11, none⟩ = some (.int .i64 f.id) ∧ w.cell? ⟨b, o + k * 11 + 8, none⟩ = some (.int .i64 f.n) ∧ w.cell? ⟨b, o + k * 11 + 7, none⟩ = some (.int .i64 f.item) := by
  obtain ⟨b', o', f', s, t, e, _, hf', _, hc, _⟩ := h.flows.get hk
  rw [hA] at e
  injection e with e
  injection e with e1 e2
  subst e1 e2
  rw [hf] at hf'
  injection hf' with hf'
  subst hf'
  unfold FlCells at hc
  exact ⟨hc.1, hc.2.2.2.2.2.2.2.2.1, hc.2.2.2.2.2.2.2.1⟩
theorem wpList_app_runM {P : Program} {S : TypeId} {w w' : World} {ops : Array Oper} {rest : List Oper} {o : Oper} {a : Act} {Q : Exit → Act → World → Prop} (hgd : o.guard = none) (s x : Operand)
    (ho : o.op = .call { callee := .builtin .append, args := #[s, x], argTypes := #[S, S] }) {v1 v2 v : Value} (hs : a.eval s = v1) (hx : a.eval x = v2) (hrun : (Builtin.append_ #[S, S] o.type #[v1, v2]).run P w = .ok v w') (h : wpList P ops Q rest (a.put o.dst v) w') :
    wpList P ops Q (o :: rest) a w := by
  refine wpList_plain hgd fun K hK' => ?_
  unfold Oper.wp execOp
  simp only [ho, resolve, invoke, builtin, Sem.run_bind, Sem.run_pure, Result.andThen_ok, List.map_toArray, List.map_cons, List.map_nil, hs, hx, hrun]
  exact hK' _ _ h
theorem fl_new_cells (w : World) (f : Fl) (s t : Sl) : ∀ j u, (flowL f s t)[j]? = some u → (w.alloc (.cells #[.int .i64 f.id, .int .i64 f.step, .int .i64 f.kind, .int .i64 f.tick, .int .i64 f.actor, .int .i64 f.frm, .int .i64 f.to, .int .i64 f.item, .int .i64 f.n, .slice s.1 s.2.1 s.2.2, .slice t.1 t.2.1 t.2.2] 47)).cell? ((⟨w.heap.size, 0, none⟩ : Addr).add j) = some u := fun j u h => by
  have hb := heap_alloc_new w (.cells (flowL f s t).toArray 47)
  have e := cell_of_row _ _ j _ _ _ hb
  rw [List.getElem?_toArray, h] at e
  rw [add_plain, Nat.zero_add]
  exact e
/-- the flow is put behind the row -/
theorem flow_push {wa wr w1 : World} {A : Option Addr} {i c : Nat} {q : List FlSl} (hF : FRow wa w1.heap.size A i c q) (hE1 : E w1 wa) (hE : E wa wr) (f : Fl) (s t : Sl) (hw : WfF f) (hb : FlB wr f s t) (h1 : 0 < s.2.1 → ob s.1 ≠ ob A) (h2 : 0 < t.2.1 → ob t.1 ≠ ob A) (hi : i ≤ 1000) (ty : TypeId) :
    ∃ g' c' V1, (Builtin.append_ #[23, 23] ty #[.slice A i c, .slice (some ⟨wr.heap.size, 0, none⟩) 1 1]).run Try.prog (wr.alloc (.cells #[.int .i64 f.id, .int .i64 f.step, .int .i64 f.kind, .int .i64 f.tick, .int .i64 f.actor, .int .i64 f.frm, .int .i64 f.to, .int .i64 f.item, .int .i64 f.n, .slice s.1 s.2.1 s.2.2, .slice t.1 t.2.1 t.2.2] 47)) = .ok (.slice (some ⟨g', 0, none⟩) (i + 1) c') V1 ∧ FRow V1 w1.heap.size (some ⟨g', 0, none⟩) (i + 1) c' (q ++ [(f, s, t)]) ∧ E w1 V1 := by
  obtain ⟨V, hV⟩ : ∃ V, wr.alloc (.cells #[.int .i64 f.id, .int .i64 f.step, .int .i64 f.kind, .int .i64 f.tick, .int .i64 f.actor, .int .i64 f.frm, .int .i64 f.to, .int .i64 f.item, .int .i64 f.n, .slice s.1 s.2.1 s.2.2, .slice t.1 t.2.1 t.2.2] 47) = V := ⟨_, rfl⟩
  have hEV : E wr V := by rw [← hV]; exact (E.refl wr).alloc _
  have hc := fl_new_cells wr f s t
  rw [hV] at hc ⊢
  have hFV := (hF.e hE).e hEV
  obtain ⟨g', c', V1, hrun, hO, hG, _⟩ := run_appF V ty w1.heap.size A i c q hFV (f, s, t) hw (hb.e hEV) h1 h2 ⟨wr.heap.size, 0, none⟩ hc 1 (by omega) ((hE1.trans hE).trans hEV).le
  exact ⟨g', c', V1, hrun, hO, ((hE1.trans hE).trans hEV).grown hG (fun k hk => (hFV.ltN k hk).1)⟩
theorem ne_low {w : World} {base : Nat} {A : Option Addr} {n c B : Nat} {q : List FlSl} (h : FRow w base A n c q) (hB : w.heap.size ≤ B) {A2 : Option Addr} (h2 : ∀ b, ob A2 = some b → B + 1 ≤ b) (h0 : ∃ b, ob A2 = some b) : ob A2 ≠ ob A := fun e => by
  obtain ⟨b, hb⟩ := h0
  have h3 := h2 b hb
  rw [e] at hb
  have := (h.ltN b hb).2
  omega
theorem PartG.none_ {fs : List Fl} {item : Int} {k : Nat} {P : List Lt} {M : List Int} (h : PartG fs item k P M) : PartG fs item k [] M := ⟨fun _ h => (by cases h), Nat.zero_le _, (by rw [totL_nil]; omega), h.made, h.ml⟩
theorem PartG.some_ {fs : List Fl} {item : Int} {k : Nat} {P : List Lt} {M : List Int} (h : PartG fs item k P M) : PartG fs item k P [] := ⟨h.part, h.pl, h.tot, fun _ h => (by cases h), Nat.zero_le _⟩
theorem PartG.valid {fs : List Fl} {item : Int} {k : Nat} {P : List Lt} {M : List Int} (h : PartG fs item k P M) (hg : GOk fs) (hk : k ≤ 9) : validB P = true :=
  validB_iff.2 ⟨by have := h.pl; omega, fun p hp => by
    obtain ⟨q, a, _, b, c, d⟩ := h.part p hp
    obtain ⟨a1, a2⟩ := getF_some a
    obtain ⟨_, o1, _, _, o4, _⟩ := okF_iff.1 (hg.ok q a1)
    exact possB_iff.2 ⟨by omega, b, by omega, c, by omega⟩⟩
end Go.Proofs.Ytmeplpiamkaniaa
