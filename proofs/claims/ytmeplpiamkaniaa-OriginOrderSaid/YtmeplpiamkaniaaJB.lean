/- Lemmas of the claim, joined: QB QR QC QF QW QX QE QK WU8 HA HB QT QN QS QL QM S1 S2. No condition. -/
import Derived.Test.YtmeplpiamkaniaaJA
import Derived.Test.YtmeplpiamkaniaaJQ
import Derived.RegionTactic
import Derived.RangeFuncNested
import Derived.RangeFuncBound
import Derived.RangeFuncCalls
import Derived.RangeFuncLeaves
import Derived.RangeFuncFrom
import Derived.Shelf.Abstract
import Derived.Shelf.RegionOpen
import Derived.WalkKit
import Derived.OwnWalkIn
import Derived.TacticsInMore
import Derived.LoopNIn
import Derived.LoopIn
import Derived.Laws.Bits64b
import Derived.Test.YtmeplpiamkaniaaChecked
import Derived.RangeFuncBox
import Derived.Lib.ConvBytes
import Derived.Below
/- Flows in memory: slices that read as lists of flows; rows of flows of the call's own. -/
namespace Go.Proofs.Ytmeplpiamkaniaa
set_option linter.unusedVariables false
set_option linter.unusedSimpArgs false
open Go.RowKit

abbrev Sl := Option Addr × Nat × Nat
def WfF (f : Fl) : Prop := (Lit.int .i64 f.id).wf = true ∧ (Lit.int .i64 f.step).wf = true ∧ (Lit.int .i64 f.kind).wf = true ∧ (Lit.int .i64 f.tick).wf = true ∧ (Lit.int .i64 f.actor).wf = true ∧ (Lit.int .i64 f.frm).wf = true ∧ (Lit.int .i64 f.to).wf = true ∧ (Lit.int .i64 f.item).wf = true ∧ (Lit.int .i64 f.n).wf = true
def flowL (f : Fl) (s t : Sl) : List Value := [.int .i64 f.id, .int .i64 f.step, .int .i64 f.kind, .int .i64 f.tick, .int .i64 f.actor, .int .i64 f.frm, .int .i64 f.to, .int .i64 f.item, .int .i64 f.n, .slice s.1 s.2.1 s.2.2, .slice t.1 t.2.1 t.2.2]
def flV (f : Fl) (A : Option Addr) (n c : Nat) (A' : Option Addr) (n' c' : Nat) : Value := .agg #[.int .i64 f.id, .int .i64 f.step, .int .i64 f.kind, .int .i64 f.tick, .int .i64 f.actor, .int .i64 f.frm, .int .i64 f.to, .int .i64 f.item, .int .i64 f.n, .slice A n c, .slice A' n' c']
/-- what a flow's slices read as -/
def FlB (w : World) (f : Fl) (s t : Sl) : Prop := LotsAt w s.1 s.2.1 s.2.2 f.parts ∧ Nums .i64 w t.1 t.2.1 t.2.2 f.made
theorem FlB.e {w w' : World} {f : Fl} {s t : Sl} (h : FlB w f s t) (hE : E w w') : FlB w' f s t := ⟨h.1.e hE, h.2.e hE⟩
/-- the cells of a flow, from o on -/
def FlCells (w : World) (b o : Nat) (f : Fl) (s t : Sl) : Prop :=
  w.cell? ⟨b, o, none⟩ = some (.int .i64 f.id) ∧ w.cell? ⟨b, o + 1, none⟩ = some (.int .i64 f.step) ∧ w.cell? ⟨b, o + 2, none⟩ = some (.int .i64 f.kind) ∧ w.cell? ⟨b, o + 3, none⟩ = some (.int .i64 f.tick) ∧ w.cell? ⟨b, o + 4, none⟩ = some (.int .i64 f.actor) ∧ w.cell? ⟨b, o + 5, none⟩ = some (.int .i64 f.frm) ∧ w.cell? ⟨b, o + 6, none⟩ = some (.int .i64 f.to) ∧ w.cell? ⟨b, o + 7, none⟩ = some (.int .i64 f.item) ∧ w.cell? ⟨b, o + 8, none⟩ = some (.int .i64 f.n) ∧ w.cell? ⟨b, o + 9, none⟩ = some (.slice s.1 s.2.1 s.2.2) ∧ w.cell? ⟨b, o + 10, none⟩ = some (.slice t.1 t.2.1 t.2.2)
theorem FlCells.same {w w' : World} {b o : Nat} {f : Fl} {s t : Sl} (h : FlCells w b o f s t) (hc : ∀ k, w'.cell? ⟨b, k, none⟩ = w.cell? ⟨b, k, none⟩) : FlCells w' b o f s t := by
  unfold FlCells at *
  simp only [hc]
  exact h
structure FlowsAt (w : World) (A : Option Addr) (n c : Nat) (l : List Fl) : Prop where
  len : l.length = n
  cap : n ≤ c
  mx : c ≤ maxLen
  at_ : 0 < n → ∃ b o, A = some ⟨b, o, none⟩ ∧ b < w.heap.size ∧ ∀ i f, l[i]? = some f → WfF f ∧ ∃ s t, FlCells w b (o + i * 11) f s t ∧ FlB w f s t
section
variable {w w' : World} {A : Option Addr} {n c : Nat} {l : List Fl}
theorem FlowsAt.e (h : FlowsAt w A n c l) (he : E w w') : FlowsAt w' A n c l :=
  ⟨h.len, h.cap, h.mx, fun hn => by
    obtain ⟨b, o, e, hb, hc⟩ := h.at_ hn
    refine ⟨b, o, e, Nat.lt_of_lt_of_le hb he.le, fun i x hx => ?_⟩
    obtain ⟨h1, s, t, h2, h3⟩ := hc i x hx
    exact ⟨h1, s, t, h2.same fun k => he.cell (p := ⟨b, k, none⟩) hb, h3.e he⟩⟩
theorem FlowsAt.n63 (h : FlowsAt w A n c l) : n ≤ 9223372036854775807 := by
  have := h.cap; have := h.mx; unfold maxLen at this; omega
theorem FlowsAt.nil (w : World) (A : Option Addr) (c : Nat) (hc : c ≤ maxLen) : FlowsAt w A 0 c [] := ⟨rfl, Nat.zero_le _, hc, fun h => absurd h (by omega)⟩
theorem FlowsAt.get (h : FlowsAt w A n c l) {i : Nat} (hi : i < n) :
    ∃ b o f s t, A = some ⟨b, o, none⟩ ∧ b < w.heap.size ∧ l[i]? = some f ∧ WfF f ∧ FlCells w b (o + i * 11) f s t ∧ FlB w f s t := by
  obtain ⟨b, o, e, hb, hc⟩ := h.at_ (by omega)
  have hx : l[i]? = some (l[i]'(by rw [h.len]; exact hi)) := List.getElem?_eq_getElem _
  obtain ⟨h1, s, t, h2, h3⟩ := hc i _ hx
  exact ⟨b, o, _, s, t, e, hb, hx, h1, h2, h3⟩
theorem FlowsAt.wf (h : FlowsAt w A n c l) : ∀ f ∈ l, WfF f := fun f hf => by
  obtain ⟨i, hi⟩ := List.getElem?_of_mem hf
  have hlt := (List.getElem?_eq_some_iff.1 hi).1
  rw [h.len] at hlt
  obtain ⟨b, o, e, hb, hc⟩ := h.at_ (by omega)
  exact (hc i f hi).1
theorem FlowsAt.cast {l' : List Fl} (h : FlowsAt w A n c l) (e : l = l') : FlowsAt w A n c l' := e ▸ h
/-- a slice of the slice's beginning -/
theorem FlowsAt.take (h : FlowsAt w A n c l) (k : Nat) (hk : k ≤ n) : FlowsAt w A k c (l.take k) :=
  ⟨by rw [List.length_take, h.len]; omega, Nat.le_trans hk h.cap, h.mx, fun h0 => by
    obtain ⟨b, o, e, hb, hc⟩ := h.at_ (by omega)
    refine ⟨b, o, e, hb, fun i x hx => hc i x ?_⟩
    rw [List.getElem?_take] at hx
    split at hx
    · exact hx
    · cases hx⟩
/-- a slice of the slice's end -/
theorem FlowsAt.drop (h : FlowsAt w A n c l) (k : Nat) (hk : k < n) : ∃ b o, A = some ⟨b, o, none⟩ ∧ FlowsAt w (some ⟨b, o + k * 11, none⟩) (n - k) (c - k) (l.drop k) := by
  obtain ⟨b, o, e, hb, hc⟩ := h.at_ (by omega)
  have := h.cap
  have := h.mx
  refine ⟨b, o, e, by rw [List.length_drop, h.len], by omega, by omega, fun _ => ⟨b, _, rfl, hb, fun i x hx => ?_⟩⟩
  rw [List.getElem?_drop] at hx
  have := hc _ x hx
  rw [Nat.add_mul, ← Nat.add_assoc] at this
  exact this
end

abbrev FlSl := Fl × Sl × Sl
def flatF : List FlSl → List Value
  | [] => []
  | (f, s, t) :: r => flowL f s t ++ flatF r
theorem flatF_len (q : List FlSl) : (flatF q).length = q.length * 11 := by
  induction q with
  | nil => rfl
  | cons p q ih => obtain ⟨f, s, t⟩ := p; rw [flatF, List.length_append, ih, List.length_cons]; simp [flowL]; omega
theorem flatF_app (q r : List FlSl) : flatF (q ++ r) = flatF q ++ flatF r := by
  induction q with
  | nil => rfl
  | cons p q ih => obtain ⟨f, s, t⟩ := p; rw [List.cons_append, flatF, flatF, ih, List.append_assoc]
theorem flatF_get : ∀ (q : List FlSl) (i : Nat) (p : FlSl), q[i]? = some p → ∀ k, k < 11 → (flatF q)[i * 11 + k]? = (flowL p.1 p.2.1 p.2.2)[k]?
  | [], i, p, h, _, _ => by simp at h
  | (f, s, t) :: q, 0, p, h, k, hk => by
    simp at h; subst h
    rw [flatF, Nat.zero_mul, Nat.zero_add, List.getElem?_append_left (by simp [flowL]; omega)]
  | (f, s, t) :: q, i + 1, p, h, k, hk => by
    simp only [List.getElem?_cons_succ] at h
    rw [flatF, List.getElem?_append_right (by simp [flowL]; omega), show (i + 1) * 11 + k - (flowL f s t).length = i * 11 + k by simp [flowL]; omega]
    exact flatF_get q i p h k hk
theorem set_app_r {α : Type} (a b : List α) (k : Nat) (v : α) : (a ++ b).set (a.length + k) v = a ++ b.set k v := by
  rw [List.set_append, if_neg (by omega)]; simp
theorem flatF_set (q : List FlSl) (i : Nat) (hi : i < q.length) (p : FlSl) :
    ((((((((((((flatF q).set (i * 11) (.int .i64 p.1.id)).set (i * 11 + 1) (.int .i64 p.1.step)).set (i * 11 + 2) (.int .i64 p.1.kind)).set (i * 11 + 3) (.int .i64 p.1.tick)).set (i * 11 + 4) (.int .i64 p.1.actor)).set (i * 11 + 5) (.int .i64 p.1.frm)).set (i * 11 + 6) (.int .i64 p.1.to)).set (i * 11 + 7) (.int .i64 p.1.item)).set (i * 11 + 8) (.int .i64 p.1.n)).set (i * 11 + 9) (.slice p.2.1.1 p.2.1.2.1 p.2.1.2.2)).set (i * 11 + 10) (.slice p.2.2.1 p.2.2.2.1 p.2.2.2.2)) = flatF (q.set i p) := by
  have hl : (flatF (q.take i)).length = i * 11 := by rw [flatF_len, List.length_take]; congr 1; omega
  obtain ⟨⟨f, s, t⟩, hx⟩ : ∃ x, q[i]? = some x := ⟨q[i], List.getElem?_eq_getElem hi⟩
  have hq : q = q.take i ++ (f, s, t) :: q.drop (i + 1) := by
    have := List.take_append_drop i q
    rw [List.drop_eq_getElem_cons hi] at this
    have e : q[i] = (f, s, t) := by rw [List.getElem?_eq_getElem hi] at hx; exact Option.some.inj hx
    rw [e] at this
    exact this.symm
  have hs : q.set i p = q.take i ++ p :: q.drop (i + 1) := by rw [List.set_eq_take_append_cons_drop, if_pos hi]
  have e1 : flatF q = flatF (q.take i) ++ (flowL f s t ++ flatF (q.drop (i + 1))) := by
    conv => lhs; rw [hq]
    rw [flatF_app, flatF]
  obtain ⟨f', s', t'⟩ := p
  rw [hs, flatF_app, flatF, e1]
  generalize flatF (q.take i) = L at hl ⊢
  generalize flatF (q.drop (i + 1)) = R
  rw [← hl]
  have e0 : ∀ (X : List Value) v, (L ++ X).set L.length v = L ++ X.set 0 v := fun X v => set_app_r L X 0 v
  rw [e0]
  simp only [set_app_r]
  rfl
structure FlowT (S T : TypeId) : Prop where
  und : Try.prog.underlying S = some (.slice T)
  info : (Try.prog.info? T).map (fun i => (i.zero, i.size, i.bytes)) = some (some (.agg #[.int .i64 0, .int .i64 0, .int .i64 0, .int .i64 0, .int .i64 0, .int .i64 0, .int .i64 0, .int .i64 0, .int .i64 0, .slice none 0 0, .slice none 0 0]), 11, 120)
theorem flowT : FlowT 23 47 := ⟨Try.underlying23, by kernel_rfl⟩
/-- a row of the call's own: flows, each with its slices -/
def FRow (w : World) (base : Nat) (A : Option Addr) (n c : Nat) (q : List FlSl) : Prop :=
  q.length = n ∧ w.ownsRow base 47 11 (.slice A n c) n (flatF q) ∧ ∀ p ∈ q, WfF p.1 ∧ FlB w p.1 p.2.1 p.2.2 ∧ (0 < p.2.1.2.1 → ob p.2.1.1 ≠ ob A) ∧ (0 < p.2.2.2.1 → ob p.2.2.1 ≠ ob A)
section
variable {w w' : World} {base base' : Nat} {A : Option Addr} {n c : Nat} {q : List FlSl}
theorem FRow.nil (w : World) (base : Nat) : FRow w base none 0 0 [] := ⟨rfl, World.ownsRow_nil _ _ _ _, by simp⟩
theorem FRow.ltN (h : FRow w base A n c q) : ∀ b, ob A = some b → base ≤ b ∧ b < w.heap.size := fun b hb => World.ownsRow.lt h.2.1 b (by rw [ob_eq]; exact hb)
theorem FRow.rebase (h : FRow w base A n c q) (hb : base' ≤ base) : FRow w base' A n c q := by
  obtain ⟨h1, h2, h3⟩ := h
  refine ⟨h1, ⟨h2.1, ?_⟩, h3⟩
  rcases h2.2 with a2 | ⟨g, cap, cur, hv, hbb, r⟩
  · exact .inl a2
  · exact .inr ⟨g, cap, cur, hv, by omega, r⟩
theorem FRow.e (h : FRow w base A n c q) (hE : E w w') : FRow w' base A n c q := by
  obtain ⟨h1, h2, h3⟩ := h
  refine ⟨h1, ⟨h2.1, ?_⟩, fun p hp => ?_⟩
  · rcases h2.2 with a2 | ⟨g, cap, cur, hv, hb, hh, r⟩
    · exact .inl a2
    · exact .inr ⟨g, cap, cur, hv, hb, by rw [hE.block (lt_blk hh)]; exact hh, r⟩
  · obtain ⟨a, b, c⟩ := h3 p hp
    exact ⟨a, b.e hE, c⟩
theorem FRow.form (h : FRow w base A n c q) : (A = none ∧ n = 0 ∧ c = 0) ∨ ∃ g, A = some ⟨g, 0, none⟩ ∧ base ≤ g ∧ g < w.heap.size ∧ n ≤ c ∧ c ≤ maxLen := by
  obtain ⟨h1, h2, h3⟩ := h
  rcases h2.2 with ⟨hv, hn⟩ | ⟨g, cap, cur, hv, hb, hh, hnc, hcm, _, _⟩
  · left; injection hv with e1 e2 e3; exact ⟨e1, e2, e3⟩
  · right
    injection hv with e1 e2 e3
    subst e1 e3
    exact ⟨g, rfl, hb, lt_blk hh, hnc, hcm⟩
theorem FRow.cells {g : Nat} (h : FRow w base (some ⟨g, 0, none⟩) n c q) {i : Nat} {p : FlSl} (hp : q[i]? = some p) : FlCells w g (i * 11) p.1 p.2.1 p.2.2 := by
  have hil : i < n := by rw [← h.1]; exact (List.getElem?_eq_some_iff.1 hp).1
  have key := fun k (hk : k < 11) => (World.ownsRow.cellAt h.2.1 (i * 11 + k) (by omega)).trans (flatF_get q i p hp k hk)
  exact ⟨key 0 (by omega), key 1 (by omega), key 2 (by omega), key 3 (by omega), key 4 (by omega), key 5 (by omega), key 6 (by omega), key 7 (by omega), key 8 (by omega), key 9 (by omega), key 10 (by omega)⟩
theorem FRow.flows (h : FRow w base A n c q) : FlowsAt w A n c (q.map Prod.fst) := by
  rcases h.form with ⟨rfl, rfl, rfl⟩ | ⟨g, rfl, hb, hlt, hn, hm⟩
  · exact ⟨by simp [h.1], Nat.le_refl _, by unfold maxLen; omega, fun hn => absurd hn (by omega)⟩
  · refine ⟨by simp [h.1], hn, hm, fun _ => ⟨g, 0, rfl, hlt, fun i x hx => ?_⟩⟩
    rw [List.getElem?_map] at hx
    cases hp : q[i]? with
    | none => rw [hp] at hx; simp at hx
    | some p =>
      rw [hp] at hx
      simp at hx
      subst hx
      obtain ⟨g1, g2, _⟩ := h.2.2 p (List.mem_of_getElem? hp)
      refine ⟨g1, p.2.1, p.2.2, ?_, g2⟩
      rw [Nat.zero_add]
      exact h.cells hp
theorem LotsAt.grown {A2 : Option Addr} {l : List Lt} {row : Option Nat} (h : LotsAt w A2 n c l) (hg : w.grownBy w' row) (hr : 0 < n → ob A2 ≠ row) : LotsAt w' A2 n c l :=
  ⟨h.len, h.cap, h.mx, h.wf, fun hn => by
    obtain ⟨b, o, e, hb, hc⟩ := h.at_ hn
    have hne : some b ≠ row := fun e' => hr hn (by rw [e, ← e']; rfl)
    refine ⟨b, o, e, Nat.lt_of_lt_of_le hb hg.size, fun i x hi => ?_⟩
    have hcell := fun k => World.cell?_of_block (a := ⟨b, k, none⟩) (hg.block b hb hne)
    rw [hcell, hcell, hcell]
    exact hc i x hi⟩
theorem Nums.grownF {k : IntKind} {A2 : Option Addr} {l : List Int} {row : Option Nat} (h : Nums k w A2 n c l) (hg : w.grownBy w' row) (hr : 0 < n → ob A2 ≠ row) : Nums k w' A2 n c l :=
  ⟨h.len, h.cap, h.mx, h.wf, fun hn => by
    obtain ⟨b, o, e, hb, hc⟩ := h.at_ hn
    have hne : some b ≠ row := fun e' => hr hn (by rw [e, ← e']; rfl)
    exact ⟨b, o, e, Nat.lt_of_lt_of_le hb hg.size, fun i hi => by rw [← hc i hi]; exact World.cell?_of_block (hg.block b hb hne)⟩⟩
theorem FlB.grown {f : Fl} {s t : Sl} {row : Option Nat} (h : FlB w f s t) (hg : w.grownBy w' row) (h1 : 0 < s.2.1 → ob s.1 ≠ row) (h2 : 0 < t.2.1 → ob t.1 ≠ row) : FlB w' f s t := ⟨h.1.grown hg h1, h.2.grownF hg h2⟩
/-- flow i is overwritten -/
theorem FRow.put {g : Nat} (h : FRow w base (some ⟨g, 0, none⟩) n c q) {i : Nat} (hi : i < n) (p : FlSl) (hw : WfF p.1) (hb : FlB w p.1 p.2.1 p.2.2) (h1 : 0 < p.2.1.2.1 → ob p.2.1.1 ≠ some g) (h2 : 0 < p.2.2.2.1 → ob p.2.2.1 ≠ some g) :
    FRow (((((((((((w.setCell ⟨g, i * 11, none⟩ (.int .i64 p.1.id)).setCell ⟨g, i * 11 + 1, none⟩ (.int .i64 p.1.step)).setCell ⟨g, i * 11 + 2, none⟩ (.int .i64 p.1.kind)).setCell ⟨g, i * 11 + 3, none⟩ (.int .i64 p.1.tick)).setCell ⟨g, i * 11 + 4, none⟩ (.int .i64 p.1.actor)).setCell ⟨g, i * 11 + 5, none⟩ (.int .i64 p.1.frm)).setCell ⟨g, i * 11 + 6, none⟩ (.int .i64 p.1.to)).setCell ⟨g, i * 11 + 7, none⟩ (.int .i64 p.1.item)).setCell ⟨g, i * 11 + 8, none⟩ (.int .i64 p.1.n)).setCell ⟨g, i * 11 + 9, none⟩ (.slice p.2.1.1 p.2.1.2.1 p.2.1.2.2)).setCell ⟨g, i * 11 + 10, none⟩ (.slice p.2.2.1 p.2.2.2.1 p.2.2.2.2)) base (some ⟨g, 0, none⟩) n c (q.set i p) := by
  obtain ⟨a1, a2, a3⟩ := h
  have s0 := World.ownsRow.stored a2 (i * 11) (.int .i64 p.1.id)
  have s1 := World.ownsRow.stored s0.1 (i * 11 + 1) (.int .i64 p.1.step)
  have s2 := World.ownsRow.stored s1.1 (i * 11 + 2) (.int .i64 p.1.kind)
  have s3 := World.ownsRow.stored s2.1 (i * 11 + 3) (.int .i64 p.1.tick)
  have s4 := World.ownsRow.stored s3.1 (i * 11 + 4) (.int .i64 p.1.actor)
  have s5 := World.ownsRow.stored s4.1 (i * 11 + 5) (.int .i64 p.1.frm)
  have s6 := World.ownsRow.stored s5.1 (i * 11 + 6) (.int .i64 p.1.to)
  have s7 := World.ownsRow.stored s6.1 (i * 11 + 7) (.int .i64 p.1.item)
  have s8 := World.ownsRow.stored s7.1 (i * 11 + 8) (.int .i64 p.1.n)
  have s9 := World.ownsRow.stored s8.1 (i * 11 + 9) (.slice p.2.1.1 p.2.1.2.1 p.2.1.2.2)
  have s10 := World.ownsRow.stored s9.1 (i * 11 + 10) (.slice p.2.2.1 p.2.2.2.1 p.2.2.2.2)
  have hg := (((((((((s0.2.trans s1.2).trans s2.2).trans s3.2).trans s4.2).trans s5.2).trans s6.2).trans s7.2).trans s8.2).trans s9.2).trans s10.2
  have hall := s10.1
  rw [flatF_set q i (by omega) p] at hall
  refine ⟨by simpa using a1, hall, fun r hr => ?_⟩
  rcases List.mem_or_eq_of_mem_set hr with hr | rfl
  · obtain ⟨b1, b2, b3, b4⟩ := a3 r hr
    exact ⟨b1, b2.grown hg b3 b4, b3, b4⟩
  · exact ⟨hw, hb.grown hg h1 h2, h1, h2⟩
end
theorem flowL_one (f : Fl) (s t : Sl) : ∀ u ∈ flowL f s t, u.oneCell' = true := by
  intro u hu
  simp only [flowL, List.mem_cons, List.mem_nil_iff, or_false] at hu
  rcases hu with rfl | rfl | rfl | rfl | rfl | rfl | rfl | rfl | rfl | rfl | rfl <;> rfl
/-- append(out, f) -/
theorem run_appF (w : World) (ty : TypeId) (base : Nat) (A : Option Addr) (n c : Nat) (q : List FlSl) (hown : FRow w base A n c q) (p : FlSl) (hw : WfF p.1) (hb : FlB w p.1 p.2.1 p.2.2) (h1 : 0 < p.2.1.2.1 → ob p.2.1.1 ≠ ob A) (h2 : 0 < p.2.2.2.1 → ob p.2.2.1 ≠ ob A)
    (ad : Addr) (hcells : ∀ j u, (flowL p.1 p.2.1 p.2.2)[j]? = some u → w.cell? (ad.add j) = some u) (c2 : Nat) (hlen : n ≤ 1000000) (hbase : base ≤ w.heap.size) :
    ∃ g' c' w', (Builtin.append_ #[23, 23] ty #[.slice A n c, .slice (some ad) 1 c2]).run Try.prog w = .ok (.slice (some ⟨g', 0, none⟩) (n + 1) c') w' ∧ FRow w' base (some ⟨g', 0, none⟩) (n + 1) c' (q ++ [p]) ∧ w.grownBy w' (ob A) ∧ (ob A = some g' ∨ w.heap.size ≤ g') := by
  obtain ⟨i, hi, hz0, hz1, hz2⟩ := info_parts flowT.info
  obtain ⟨v', w', hrun, h2', h3, h4, h5⟩ := run_append_own_at (P := Try.prog) w base 23 ty 47 i _ 11 120 flowT.und hi hz0 hz1 hz2 rfl (by decide) _ n _ hown.2.1 ad 1 c2 (flowL p.1 p.2.1 p.2.2) rfl hcells (flowL_one _ _ _) (by unfold maxLen; omega) (by omega) hbase
  have hfl : flatF q ++ flowL p.1 p.2.1 p.2.2 = flatF (q ++ [p]) := by rw [flatF_app]; obtain ⟨f, s, t⟩ := p; simp [flatF]
  rw [hfl] at h2'
  rw [ob_eq] at h3
  rw [ob_eq] at h5
  rcases h2'.2 with ⟨_, h0⟩ | ⟨g', c', cur, rfl, _⟩
  · omega
  · have hor' : ob A = some g' ∨ w.heap.size ≤ g' := by
      rw [ob_eq] at h5
      rcases h5 with h | h
      · exact .inl (by rw [← h]; rfl)
      · right; simp [ob] at h; omega
    have key : ∀ r : FlSl, FlB w r.1 r.2.1 r.2.2 → (0 < r.2.1.2.1 → ob r.2.1.1 ≠ ob A) → (0 < r.2.2.2.1 → ob r.2.2.1 ≠ ob A) → FlB w' r.1 r.2.1 r.2.2 ∧ (0 < r.2.1.2.1 → ob r.2.1.1 ≠ ob (some (⟨g', 0, none⟩ : Addr))) ∧ (0 < r.2.2.2.1 → ob r.2.2.1 ≠ ob (some (⟨g', 0, none⟩ : Addr))) := fun r hr hn1 hn2 => by
      refine ⟨hr.grown h3 hn1 hn2, fun h0 e => ?_, fun h0 e => ?_⟩
      · obtain ⟨b, o', e1, hb, _⟩ := hr.1.at_ h0
        have hne' := hn1 h0
        rw [e1] at e hne'
        have : b = g' := by simpa [ob] using e
        subst this
        rcases hor' with h | h
        · exact hne' (by rw [h]; rfl)
        · omega
      · obtain ⟨b, o', e1, hb, _⟩ := hr.2.at_ h0
        have hne' := hn2 h0
        rw [e1] at e hne'
        have : b = g' := by simpa [ob] using e
        subst this
        rcases hor' with h | h
        · exact hne' (by rw [h]; rfl)
        · omega
    refine ⟨g', c', w', hrun, ⟨by simp [hown.1], h2', fun r hr => ?_⟩, h3, hor'⟩
    rcases List.mem_append.1 hr with hr | hr
    · obtain ⟨a1, a2, a3, a4⟩ := hown.2.2 r hr
      exact ⟨a1, key r a2 a3 a4⟩
    · rw [List.mem_singleton] at hr
      subst hr
      exact ⟨hw, key r hb h1 h2⟩
def zeroFl : Fl := ⟨0, 0, 0, 0, 0, 0, 0, 0, 0, [], []⟩
def zS : Sl := (none, 0, 0)
theorem zero_wfF : WfF zeroFl := ⟨by decide, by decide, by decide, by decide, by decide, by decide, by decide, by decide, by decide⟩
theorem made_flows (n : Nat) : (madeCells (Value.agg #[.int .i64 0, .int .i64 0, .int .i64 0, .int .i64 0, .int .i64 0, .int .i64 0, .int .i64 0, .int .i64 0, .int .i64 0, .slice none 0 0, .slice none 0 0]).cells (n * 11)).toList = flatF (List.replicate n (zeroFl, zS, zS)) := by
  apply List.ext_getElem?
  intro j
  rcases Nat.lt_or_ge j (n * 11) with hj | hj
  · have hi : j / 11 < n := by omega
    have hp : (List.replicate n (zeroFl, zS, zS))[j / 11]? = some (zeroFl, zS, zS) := by rw [List.getElem?_replicate, if_pos hi]
    have h1 := flatF_get _ _ _ hp (j % 11) (by omega)
    rw [show j / 11 * 11 + j % 11 = j by omega] at h1
    rw [h1]
    have hk : j % 11 < 11 := by omega
    have h2 : (madeCells (Value.agg #[.int .i64 0, .int .i64 0, .int .i64 0, .int .i64 0, .int .i64 0, .int .i64 0, .int .i64 0, .int .i64 0, .int .i64 0, .slice none 0 0, .slice none 0 0]).cells (n * 11)).toList[j]? = some (#[Value.int .i64 0, .int .i64 0, .int .i64 0, .int .i64 0, .int .i64 0, .int .i64 0, .int .i64 0, .int .i64 0, .int .i64 0, .slice none 0 0, .slice none 0 0][j % 11]!) := by
      rw [Array.getElem?_toList]
      simp [madeCells, Value.cells, hj]
    rw [h2]
    generalize j % 11 = k at hk ⊢
    obtain rfl | rfl | rfl | rfl | rfl | rfl | rfl | rfl | rfl | rfl | rfl : k = 0 ∨ k = 1 ∨ k = 2 ∨ k = 3 ∨ k = 4 ∨ k = 5 ∨ k = 6 ∨ k = 7 ∨ k = 8 ∨ k = 9 ∨ k = 10 := by omega
    all_goals rfl
  · rw [List.getElem?_eq_none (by simp [size_madeCells]; omega), List.getElem?_eq_none (by rw [flatF_len, List.length_replicate]; exact hj)]
theorem zero_FlB (w : World) : FlB w zeroFl zS zS := ⟨⟨rfl, Nat.le_refl _, Nat.zero_le _, (fun x hx => by cases hx), fun h => absurd h (by simp [zS])⟩, Nums.nil _ _ _ _ (Nat.zero_le _)⟩
/-- make([]Flow, n) -/
theorem wpList_mkF (w : World) {ops : Array Oper} {rest : List Oper} {o : Oper} {a : Act} {Q : Exit → Act → World → Prop} (hgd : o.guard = none) (x y : Operand)
    (ho : o.op = Op.makeSlice 23 x y) (kl kc : IntKind) (L C : Int) (n : Nat) (hl : a.eval x = .int kl L) (hc : a.eval y = .int kc C) (hL : L = (n : Int)) (hC : C = (n : Int)) (hn : n ≤ 1000000)
    (h : ∀ w', FRow w' w.heap.size (some ⟨w.heap.size, 0, none⟩) n n (List.replicate n (zeroFl, zS, zS)) → E w w' → w'.heap.size = w.heap.size + 1 → wpList Try.prog ops Q rest (a.put o.dst (.slice (some ⟨w.heap.size, 0, none⟩) n n)) w') :
    wpList Try.prog ops Q (o :: rest) a w := by
  obtain ⟨i, hi, hz0, hz1, hz2⟩ := info_parts flowT.info
  refine wpList_plain hgd fun K hK' => ?_
  have hr := run_make (P := Try.prog) w 23 47 i _ flowT.und hi hz0 kl kc n n (by omega) (by omega) (by rw [hz2]; omega) (by omega)
  simp only [Int.toNat_natCast] at hr
  subst hL
  subst hC
  unfold Oper.wp
  simp [execOp, ho, hl, hc, hr, Result.andThen]
  refine hK' _ _ (h _ ⟨by simp, ⟨by rw [flatF_len, List.length_replicate], .inr ⟨w.heap.size, n, _, rfl, Nat.le_refl _, heap_alloc_new w _, Nat.le_refl _, by unfold maxLen; omega, by rw [size_madeCells, hz1], ?_⟩⟩, ?_⟩ ((E.refl w).alloc _) (by simp))
  · rw [hz1, made_flows, List.take_of_length_le (by rw [flatF_len, List.length_replicate]; exact Nat.le_refl _)]
  · intro p hp
    rw [List.eq_of_mem_replicate hp]
    exact ⟨zero_wfF, zero_FlB _, fun h => absurd h (by simp [zS]), fun h => absurd h (by simp [zS])⟩
end Go.Proofs.Ytmeplpiamkaniaa
/- Rows of rows of numbers, each inner row the call's own: made, read, an inner row appended to. -/
namespace Go.Proofs.Ytmeplpiamkaniaa
set_option linter.unusedVariables false
set_option linter.unusedSimpArgs false
open Go.RowKit

def ints (c : List Nat) : List Int := c.map fun i : Nat => (i : Int)
theorem ints_app (a b : List Nat) : ints (a ++ b) = ints a ++ ints b := List.map_append
theorem ints_len (a : List Nat) : (ints a).length = a.length := List.length_map ..
theorem ints_get {a : List Nat} {i : Nat} : (ints a)[i]? = a[i]?.map fun n : Nat => (n : Int) := List.getElem?_map
theorem sl_inj {g g' n c n' c' : Nat} (h : Value.slice (some ⟨g, 0, none⟩) n c = .slice (some ⟨g', 0, none⟩) n' c') : g = g' := by injection h with e1; injection e1 with e1; injection e1 with e1
abbrev GR := List Int × Sl
def flatG (q : List GR) : List Value := q.map fun p => Value.slice p.2.1 p.2.2.1 p.2.2.2
/-- a slice that reads as a list of lists -/
structure RowsAt (w : World) (A : Option Addr) (n c : Nat) (L : List (List Int)) : Prop where
  len : L.length = n
  cap : n ≤ c
  mx : c ≤ maxLen
  at_ : 0 < n → ∃ b o, A = some ⟨b, o, none⟩ ∧ b < w.heap.size ∧ ∀ i x, L[i]? = some x → ∃ A' n' c', w.cell? ⟨b, o + i, none⟩ = some (.slice A' n' c') ∧ Nums .i64 w A' n' c' x
/-- a row of the call's own whose elements are rows of the call's own -/
structure IRow (w : World) (base g n c : Nat) (q : List GR) : Prop where
  len : q.length = n
  row : w.ownsRow base 22 1 (.slice (some ⟨g, 0, none⟩) n c) n (flatG q)
  own : ∀ p ∈ q, Own .i64 3 w base p.2.1 p.2.2.1 p.2.2.2 p.1
  ne : ∀ p ∈ q, ob p.2.1 ≠ some g
  inj : ∀ (i j : Nat) (p p' : GR), i ≠ j → q[i]? = some p → q[j]? = some p' → apartS p.2.1 p'.2.1
section
variable {w w' : World} {base g n c : Nat} {q : List GR} {A : Option Addr} {L : List (List Int)}
theorem RowsAt.e (h : RowsAt w A n c L) (hE : E w w') : RowsAt w' A n c L :=
  ⟨h.len, h.cap, h.mx, fun hn => by
    obtain ⟨b, o, e, hb, hc⟩ := h.at_ hn
    refine ⟨b, o, e, Nat.lt_of_lt_of_le hb hE.le, fun i x hx => ?_⟩
    obtain ⟨A', n', c', h1, h2⟩ := hc i x hx
    exact ⟨A', n', c', by rw [hE.cell (p := ⟨b, _, none⟩) hb]; exact h1, h2.e hE⟩⟩
theorem RowsAt.get (h : RowsAt w A n c L) {i : Nat} (hi : i < n) : ∃ b o x A' n' c', A = some ⟨b, o, none⟩ ∧ b < w.heap.size ∧ L[i]? = some x ∧ w.cell? ⟨b, o + i, none⟩ = some (.slice A' n' c') ∧ Nums .i64 w A' n' c' x := by
  obtain ⟨b, o, e, hb, hc⟩ := h.at_ (by omega)
  have hx : L[i]? = some (L[i]'(by rw [h.len]; exact hi)) := List.getElem?_eq_getElem _
  obtain ⟨A', n', c', h1, h2⟩ := hc i _ hx
  exact ⟨b, o, _, A', n', c', e, hb, hx, h1, h2⟩
theorem RowsAt.cast {L' : List (List Int)} (h : RowsAt w A n c L) (e : L = L') : RowsAt w A n c L' := e ▸ h
theorem RowsAt.n63 (h : RowsAt w A n c L) : n ≤ 9223372036854775807 := by have := h.cap; have := h.mx; unfold maxLen at this; omega
theorem IRow.lt (h : IRow w base g n c q) : base ≤ g ∧ g < w.heap.size := World.ownsRow.lt h.row g (by rw [ob_eq]; rfl)
theorem IRow.caps (h : IRow w base g n c q) : n ≤ c ∧ c ≤ maxLen := by
  rcases h.row.2 with ⟨hv, hn⟩ | ⟨g', cap, cur, hv, hb, hh, hnc, hcm, _, _⟩
  · injection hv with e1; cases e1
  · injection hv with e1 e2 e3; subst e3; exact ⟨hnc, hcm⟩
theorem IRow.cell (h : IRow w base g n c q) {i : Nat} {p : GR} (hp : q[i]? = some p) : w.cell? ⟨g, i, none⟩ = some (.slice p.2.1 p.2.2.1 p.2.2.2) := by
  have hil : i < n := by rw [← h.len]; exact (List.getElem?_eq_some_iff.1 hp).1
  rw [World.ownsRow.cellAt h.row i (by omega)]
  unfold flatG
  rw [List.getElem?_map, hp]; rfl
theorem IRow.rows (h : IRow w base g n c q) : RowsAt w (some ⟨g, 0, none⟩) n c (q.map Prod.fst) := by
  refine ⟨by simp [h.len], h.caps.1, h.caps.2, fun _ => ⟨g, 0, rfl, h.lt.2, fun i x hx => ?_⟩⟩
  rw [List.getElem?_map] at hx
  cases hp : q[i]? with
  | none => rw [hp] at hx; simp at hx
  | some p =>
    rw [hp] at hx
    simp at hx
    subst hx
    exact ⟨p.2.1, p.2.2.1, p.2.2.2, by rw [Nat.zero_add]; exact h.cell hp, (h.own p (List.mem_of_getElem? hp)).reads⟩
theorem IRow.ex {X : Nat → Prop} (h : IRow w base g n c q) (hX : Ex X w w') (hg : ¬ X g) (hp : ∀ p ∈ q, ∀ b, ob p.2.1 = some b → ¬ X b) : IRow w' base g n c q := by
  refine ⟨h.len, ⟨h.row.1, ?_⟩, fun p hpp => (h.own p hpp).ex hX (hp p hpp), h.ne, h.inj⟩
  rcases h.row.2 with ⟨hv, _⟩ | ⟨g', cap, cur, hv, hb, hh, r⟩
  · injection hv with e1; cases e1
  · have hgg : g = g' := sl_inj hv
    exact .inr ⟨g', cap, cur, hv, hb, by rw [hX.block g' (lt_blk hh) (hgg ▸ hg)]; exact hh, r⟩
theorem IRow.e (h : IRow w base g n c q) (hE : E w w') : IRow w' base g n c q := h.ex (X := fun _ => False) (Ex.of_e hE) (fun x => x) (fun _ _ _ _ x => x)
theorem IRow.rebase {base' : Nat} (h : IRow w base g n c q) (hb : base' ≤ base) : IRow w base' g n c q := by
  refine ⟨h.len, ⟨h.row.1, ?_⟩, fun p hpp => (h.own p hpp).rebase hb, h.ne, h.inj⟩
  rcases h.row.2 with a2 | ⟨g, cap, cur, hv, hbb, r⟩
  · exact .inl a2
  · exact .inr ⟨g, cap, cur, hv, by omega, r⟩
/-- rows[i] = append(rows[i], x): the append, then the store -/
theorem IRow.add (h : IRow w base g n c q) {i : Nat} {p : GR} (hp : q[i]? = some p) (x : Int) (hx : (Lit.int .i64 x).wf = true) (hn : p.2.2.1 + 1 ≤ 1099511627776) (hbase : base ≤ w.heap.size) (ty : TypeId) (c2 : Nat) (b2 : Nat) (hb2 : w.cell? ⟨b2, 0, none⟩ = some (.int .i64 x)) :
    ∃ A' c' w1, (Builtin.append_ #[22, 22] ty #[.slice p.2.1 p.2.2.1 p.2.2.2, .slice (some ⟨b2, 0, none⟩) 1 1]).run Try.prog w = .ok (.slice A' (p.2.2.1 + 1) c') w1 ∧
      w.grownBy w1 (ob p.2.1) ∧ (ob A' = ob p.2.1 ∨ ob A' = some w.heap.size) ∧ (∀ j, w1.cell? ⟨g, j, none⟩ = w.cell? ⟨g, j, none⟩) ∧
      IRow (w1.setCell ⟨g, i, none⟩ (.slice A' (p.2.2.1 + 1) c')) base g n c (q.set i (p.1 ++ [x], A', p.2.2.1 + 1, c')) ∧ Below base w (w1.setCell ⟨g, i, none⟩ (.slice A' (p.2.2.1 + 1) c')) := by
  have hpm := List.mem_of_getElem? hp
  have hO := h.own p hpm
  have hil : i < n := by rw [← h.len]; exact (List.getElem?_eq_some_iff.1 hp).1
  have hN : Nums .i64 w (some ⟨b2, 0, none⟩) 1 1 [x] :=
    ⟨rfl, Nat.le_refl _, by unfold maxLen; omega, by intro y hy; rw [List.mem_singleton] at hy; subst hy; exact hx, fun _ => ⟨b2, 0, rfl, World.block_lt_of_cell? w _ hb2, fun j hj => by
      have : j = 0 := by simpa using hj
      subst this; exact hb2⟩⟩
  obtain ⟨A', c', w1, hrun, hO1, hG, hor⟩ := run_appN intTk w ty base p.2.1 p.2.2.1 p.2.2.2 p.1 hO _ 1 1 [x] hN hn hbase
  clear hn
  rw [ob_eq] at hG
  rw [ob_eq, ob_eq] at hor
  have hX1 : Ex (fun j => ob p.2.1 = some j) w w1 := ⟨hG.os, hG.tape, hG.output, hG.size, fun j hj hx => hG.block j hj (fun e => hx e.symm)⟩
  have hgb : w1.heap[g]? = w.heap[g]? := hX1.block g h.lt.2 (h.ne p hpm)
  have hcell : ∀ j, w1.cell? ⟨g, j, none⟩ = w.cell? ⟨g, j, none⟩ := fun j => World.cell?_of_block hgb
  have hrow1 : w1.ownsRow base 22 1 (.slice (some ⟨g, 0, none⟩) n c) n (flatG q) := by
    refine ⟨h.row.1, ?_⟩
    rcases h.row.2 with ⟨hv, _⟩ | ⟨g', cap, cur, hv, hb, hh, r⟩
    · injection hv with e1; cases e1
    · have hgg : g = g' := sl_inj hv
      subst hgg
      exact .inr ⟨g, cap, cur, hv, hb, by rw [hgb]; exact hh, r⟩
  have hst := World.ownsRow.stored hrow1 i (.slice A' (p.2.2.1 + 1) c')
  have hX2 : Ex (fun j => j = g) w1 (w1.setCell ⟨g, i, none⟩ (.slice A' (p.2.2.1 + 1) c')) := (Ex.refl (fun j => j = g) w1).setCell ⟨g, i, none⟩ (.inr rfl) _
  have hAg : ob A' ≠ some g := fun e => by
    rcases hor with e' | e'
    · exact h.ne p hpm (e'.symm.trans e)
    · rw [e'] at e; injection e with e; have := h.lt.2; omega
  have hflat : (flatG q).set i (.slice A' (p.2.2.1 + 1) c') = flatG (q.set i (p.1 ++ [x], A', p.2.2.1 + 1, c')) := by
    unfold flatG; rw [List.map_set]
  rw [hflat] at hst
  have hothers : ∀ j p', j ≠ i → q[j]? = some p' → apartS p'.2.1 A' := fun j p' hne hj b hb hb' => by
    rcases hor with e | e
    · rw [e] at hb'; exact h.inj j i p' p hne hj hp b hb hb'
    · rw [e] at hb'; injection hb' with hb'
      have := ((h.own p' (List.mem_of_getElem? hj)).ltN b hb).2; omega
  refine ⟨A', c', w1, hrun, hG, hor, hcell, ⟨by simp [h.len], hst.1, ?_, ?_, ?_⟩, ?_⟩
  · intro r hr
    obtain ⟨j, hj⟩ := List.getElem?_of_mem hr
    by_cases e : j = i
    · subst e
      rw [List.getElem?_set_self (by rw [h.len]; exact hil)] at hj
      injection hj with hj
      subst hj
      exact hO1.ex hX2 (fun b hb e => hAg (by rw [hb, e]))
    · rw [List.getElem?_set_ne (fun e' => e e'.symm)] at hj
      have hm := List.mem_of_getElem? hj
      have o1 := (h.own r hm).ex hX1 (fun b hb e' => h.inj j i r p e hj hp b hb e')
      exact o1.ex hX2 (fun b hb e' => h.ne r hm (by rw [hb, e']))
  · intro r hr
    rcases List.mem_or_eq_of_mem_set hr with hr | rfl
    · exact h.ne r hr
    · exact hAg
  · intro j k r r' hne hj hk
    by_cases ej : j = i
    · subst ej
      rw [List.getElem?_set_self (by rw [h.len]; exact hil)] at hj
      rw [List.getElem?_set_ne hne] at hk
      injection hj with hj
      subst hj
      exact (hothers k r' (fun e => hne e.symm) hk).symm
    · rw [List.getElem?_set_ne (fun e' => ej e'.symm)] at hj
      by_cases ek : k = i
      · subst ek
        rw [List.getElem?_set_self (by rw [h.len]; exact hil)] at hk
        injection hk with hk
        subst hk
        exact hothers j r ej hj
      · rw [List.getElem?_set_ne (fun e' => ek e'.symm)] at hk
        exact h.inj j k r r' hne hj hk
  · exact ((Below.refl base w).grown hG hbase (fun k hk => (hO.ltN k hk).1)).setCell h.lt.1 _
end
/-- make([][]int, n) -/
theorem slT : (Try.prog.info? 22).map (fun i => (i.zero, i.size, i.bytes)) = some (some (.slice none 0 0), 1, 24) := by kernel_rfl
/-- make([][]int, n) -/
theorem wpList_mkG (w : World) {ops : Array Oper} {rest : List Oper} {o : Oper} {a : Act} {Q : Exit → Act → World → Prop} (hgd : o.guard = none) (x y : Operand)
    (ho : o.op = Op.makeSlice 67 x y) (kl kc : IntKind) (L C : Int) (n : Nat) (hl : a.eval x = .int kl L) (hc : a.eval y = .int kc C) (hL : L = (n : Int)) (hC : C = (n : Int)) (hn : n ≤ 1000000)
    (h : ∀ w', IRow w' w.heap.size w.heap.size n n (List.replicate n (([], zS) : GR)) → E w w' → w'.heap.size = w.heap.size + 1 → wpList Try.prog ops Q rest (a.put o.dst (.slice (some ⟨w.heap.size, 0, none⟩) n n)) w') :
    wpList Try.prog ops Q (o :: rest) a w := by
  obtain ⟨i, hi, hz0, hz1, hz2⟩ := info_parts slT
  refine wpList_plain hgd fun K hK' => ?_
  have hr := run_make (P := Try.prog) w 67 22 i _ Try.underlying67 hi hz0 kl kc n n (by omega) (by omega) (by rw [hz2]; omega) (by omega)
  simp only [Int.toNat_natCast] at hr
  subst hL
  subst hC
  unfold Oper.wp
  simp [execOp, ho, hl, hc, hr, Result.andThen]
  refine hK' _ _ (h _ ⟨by simp, ⟨by simp [flatG], .inr ⟨w.heap.size, n, _, rfl, Nat.le_refl _, heap_alloc_new w _, Nat.le_refl _, by unfold maxLen; omega, by rw [size_madeCells, hz1], ?_⟩⟩, ?_, ?_, ?_⟩ ((E.refl w).alloc _) (by simp))
  · rw [hz1, Nat.mul_one]
    show (madeCells #[Value.slice none 0 0] n).toList.take n = _
    rw [toList_madeCells_one]
    simp [flatG, zS]
  · intro p hp
    rw [List.eq_of_mem_replicate hp]
    exact Own.nil _ _ _ _
  · intro p hp
    rw [List.eq_of_mem_replicate hp]
    simp [zS, ob]
  · intro j k p p' _ hj _
    rw [List.eq_of_mem_replicate (List.mem_of_getElem? hj)]
    exact apart_none _
end Go.Proofs.Ytmeplpiamkaniaa
/- possible: of the program, of the model. -/
namespace Go.Proofs.Ytmeplpiamkaniaa
set_option linter.unusedVariables false
set_option linter.unusedSimpArgs false
open Go.RowKit

theorem fl_box (w : World) (f : Fl) (s t : Sl) (T : TypeId) : FlCells (w.alloc (.cells #[.int .i64 f.id, .int .i64 f.step, .int .i64 f.kind, .int .i64 f.tick, .int .i64 f.actor, .int .i64 f.frm, .int .i64 f.to, .int .i64 f.item, .int .i64 f.n, .slice s.1 s.2.1 s.2.2, .slice t.1 t.2.1 t.2.2] T)) w.heap.size 0 f s t := by
  have key := fun k => cell_of_row _ _ k _ _ _ (heap_alloc_new w (.cells #[.int .i64 f.id, .int .i64 f.step, .int .i64 f.kind, .int .i64 f.tick, .int .i64 f.actor, .int .i64 f.frm, .int .i64 f.to, .int .i64 f.item, .int .i64 f.n, .slice s.1 s.2.1 s.2.2, .slice t.1 t.2.1 t.2.2] T))
  exact ⟨key 0, key 1, key 2, key 3, key 4, key 5, key 6, key 7, key 8, key 9, key 10⟩
theorem FlCells.e {w w' : World} {b o : Nat} {f : Fl} {s t : Sl} (h : FlCells w b o f s t) (hE : E w w') (hb : b < w.heap.size) : FlCells w' b o f s t := h.same fun k => hE.cell (p := ⟨b, k, none⟩) hb
set_option linter.unusedSimpArgs false in
set_option maxHeartbeats 1000000 in
theorem oPossible_c (f : Fl) (A : Option Addr) (n c : Nat) (A' : Option Addr) (n' c' : Nat) (w : World) (hb : FlB w f (A, n, c) (A', n', c')) :
    Calls Try.prog 39 #[flV f A n c A' n' c'] w (RetK w (okF f)) := by
  obtain ⟨w1, hw1⟩ : ∃ w1, w.alloc (.cells #[.int .i64 f.id, .int .i64 f.step, .int .i64 f.kind, .int .i64 f.tick, .int .i64 f.actor, .int .i64 f.frm, .int .i64 f.to, .int .i64 f.item, .int .i64 f.n, .slice A n c, .slice A' n' c'] 47) = w1 := ⟨_, rfl⟩
  have hE1 : E w w1 := by rw [← hw1]; exact (E.refl w).alloc _
  have hz1 : w.heap.size < w1.heap.size := by rw [← hw1]; simp
  have hc1 : FlCells w1 w.heap.size 0 f (A, n, c) (A', n', c') := by rw [← hw1]; exact fl_box w f (A, n, c) (A', n', c') _
  have HB := Lib.hid hb
  have hl1 := hb.1.len
  have hl2 := hb.2.len
  simp only at hl1 hl2
  have hm1 := hb.1.n63
  have hm2 := hb.2.n63
  simp only at hm1 hm2
  have HC := Lib.hid hc1
  have HV := Lib.hid (fun W (hE : E w W) => valid_c A n c f.parts W (hb.1.e hE))
  have HT := Lib.hid (fun W (hE : E w W) => total_c A n c f.parts W (hb.1.e hE))
  have HF0 : okF f = (validB f.parts && (decide (0 ≤ f.id) && (decide (0 ≤ f.item) && (decide (1 ≤ f.n) && (decide (f.n ≤ 1099511627776) && (decide (n = 0) || (decide (n' = 0) && decide (totL f.parts = f.n)))))))) := by
    rw [okF, ← hl1, ← hl2]
    congr 6
    · rw [Bool.eq_iff_iff]; simp
    · congr 1; rw [Bool.eq_iff_iff]; simp
  have HTV := Lib.hid (fun (h : validB f.parts = true) => show totalS f.parts = totL f.parts by rw [totalS, h]; rfl)
  have HF := Lib.hid HF0
  clear HF0
  unfold FlCells at hc1
  simp only [Nat.zero_add] at hc1
  obtain ⟨c0, c1, c2, c3, c4, c5, c6, c7, c8, c9, c10⟩ := hc1
  generalize okF f = res at *
  unfold flV
  by_cases h0 : f.id < 0
  · have HR := Lib.hid (show res = false by rw [HF.out, show decide (0 ≤ f.id) = false by simp; omega]; simp)
    clear hb hl1 hl2
    go_enter Try.func39, Try.ntmps39
    go_upto_region 1 with fail
    try rw [hw1]
    go_wp2_with fail
    go_ret
    exact ⟨ret_bool HR.out.symm, hE1⟩
  by_cases h7 : f.item < 0
  · have HR := Lib.hid (show res = false by rw [HF.out, show decide (0 ≤ f.item) = false by simp; omega]; simp)
    clear hb hl1 hl2
    go_enter Try.func39, Try.ntmps39
    go_upto_region 1 with fail
    try rw [hw1]
    go_wp2_with fail
    go_ret
    exact ⟨ret_bool HR.out.symm, hE1⟩
  by_cases h8 : f.n < 1
  · have HR := Lib.hid (show res = false by rw [HF.out, show decide (1 ≤ f.n) = false by simp; omega]; simp)
    clear hb hl1 hl2
    go_enter Try.func39, Try.ntmps39
    go_upto_region 1 with fail
    try rw [hw1]
    go_wp2_with fail
    go_ret
    exact ⟨ret_bool HR.out.symm, hE1⟩
  by_cases h9 : 1099511627776 < f.n
  · have HR := Lib.hid (show res = false by rw [HF.out, show decide (f.n ≤ 1099511627776) = false by simp; omega]; simp)
    clear hb hl1 hl2
    go_enter Try.func39, Try.ntmps39
    go_upto_region 1 with fail
    try rw [hw1]
    go_wp2_with fail
    go_ret
    exact ⟨ret_bool HR.out.symm, hE1⟩
  have HF20 : res = (validB f.parts && (decide (n = 0) || (decide (n' = 0) && decide (totL f.parts = f.n)))) := by
    rw [HF.out, show decide (0 ≤ f.id) = true by simp; omega, show decide (0 ≤ f.item) = true by simp; omega, show decide (1 ≤ f.n) = true by simp; omega, show decide (f.n ≤ 1099511627776) = true by simp; omega]
    simp only [Bool.true_and]
  have HF2 := Lib.hid HF20
  clear HF20 HF hb hl1 hl2
  obtain ⟨bv, hbv⟩ : ∃ bv, validB f.parts = bv := ⟨_, rfl⟩
  rw [hbv] at HV HTV HF2
  clear hbv
  go_enter Try.func39, Try.ntmps39
  go_upto_region 1 with fail
  try rw [hw1]
  cases bv
  · have HR := Lib.hid (show res = false by rw [HF2.out]; simp)
    go_wp2_with (go_at_call 44; refine (HV.out _ hE1).mono ?_; rintro e w2 ⟨rfl, hE2⟩)
    go_ret
    exact ⟨ret_bool HR.out.symm, hE1.trans hE2⟩
  · go_upto_region 3 with (go_at_call 44; refine (HV.out _ hE1).mono ?_; rintro e w2 ⟨rfl, hE2⟩)
    have hc2 := HC.out.e hE2 hz1
    clear c0 c1 c2 c3 c4 c5 c6 c7 c8 c9 c10
    unfold FlCells at hc2
    simp only [Nat.zero_add] at hc2
    obtain ⟨c0, c1, c2, c3, c4, c5, c6, c7, c8, c9, c10⟩ := hc2
    have hE12 := hE1.trans hE2
    have hz2 : w.heap.size < w2.heap.size := Nat.lt_of_lt_of_le hz1 hE2.le
    clear hw1 hE1 hE2 hz1
    by_cases hn : n = 0
    · subst hn
      have HR := Lib.hid (show res = true by rw [HF2.out]; simp)
      (refine wp_region_quiet_lit (by kernel_rfl) (by kernel_rfl) ?_; (repeat (first | ((with_reducible refine wpQuiet_step (fun K hK => ?_)); go_simp; (with_reducible refine hK _ ?_); clear hK K) | ((with_reducible refine wpQuiet_off (by kernel_rfl) (fun K hK => ?_)); go_simp; (with_reducible refine hK _ ?_); clear hK K))); (with_reducible refine wpQuiet_nil ?_); intro _ hw'; obtain ⟨nq, hw''⟩ := hw'; subst hw'')
      go_wp2_with fail
      go_ret
      exact ⟨ret_bool HR.out.symm, hE12.drewN nq⟩
    · have dn : ((n : Int) == 0) = false := by simp; omega
      by_cases hn' : n' = 0
      · subst hn'
        obtain ⟨tt, htt⟩ : ∃ tt, totL f.parts = tt := ⟨_, rfl⟩
        have hTV := HTV.out trivial
        rw [htt] at hTV HF2
        rw [hTV] at HT
        obtain ⟨eb, heb⟩ : ∃ eb : Bool, (tt == f.n) = eb := ⟨_, rfl⟩
        have HR := Lib.hid (show res = eb by rw [HF2.out, ← heb, show decide (n = 0) = false by simpa using hn]; rw [Bool.eq_iff_iff]; simp)
        clear HF2 HTV hTV htt HV
        have hEa := (E.refl w2).drew
        go_region_held3 (fun w' => w'.cell? ⟨w.heap.size, 8, none⟩ = some (.int .i64 f.n) ∧ w'.cell? ⟨w.heap.size, 9, none⟩ = some (.slice A n c) ∧ w'.cell? ⟨w.heap.size, 10, none⟩ = some (.slice A' 0 c')) (exact ⟨(hEa.cell (p := ⟨w.heap.size, 8, none⟩) hz2).trans c8, (hEa.cell (p := ⟨w.heap.size, 9, none⟩) hz2).trans c9, (hEa.cell (p := ⟨w.heap.size, 10, none⟩) hz2).trans c10⟩)
          ((go_at_call 35; refine (HT.out _ (hE12.trans hEa)).mono ?_; rintro e w3 ⟨rfl, hE3⟩; replace hEa := hEa.trans hE3))
        all_goals (
          go_wp2_with fail
          go_ret
          exact ⟨ret_bool HR.out.symm, hE12.trans hEa⟩)
      · have dn' : ((n' : Int) == 0) = false := by simp; omega
        have HR := Lib.hid (show res = false by rw [HF2.out, show decide (n = 0) = false by simpa using hn, show decide (n' = 0) = false by simpa using hn']; simp)
        (refine wp_region_quiet_lit (by kernel_rfl) (by kernel_rfl) ?_; (repeat (first | ((with_reducible refine wpQuiet_step (fun K hK => ?_)); go_simp; (with_reducible refine hK _ ?_); clear hK K) | ((with_reducible refine wpQuiet_off (by kernel_rfl) (fun K hK => ?_)); go_simp; (with_reducible refine hK _ ?_); clear hK K))); (with_reducible refine wpQuiet_nil ?_); intro _ hw'; obtain ⟨nq, hw''⟩ := hw'; subst hw'')
        go_wp2_with fail
        go_ret
        exact ⟨ret_bool HR.out.symm, hE12.drewN nq⟩
set_option linter.unusedSimpArgs false in
set_option maxHeartbeats 1000000 in
theorem rPossible_c (f : Fl) (A : Option Addr) (n c : Nat) (A' : Option Addr) (n' c' : Nat) (w : World) (hb : FlB w f (A, n, c) (A', n', c')) :
    Calls Try.prog 68 #[flV f A n c A' n' c'] w (RetK w (okF f)) := by
  obtain ⟨w1, hw1⟩ : ∃ w1, w.alloc (.cells #[.int .i64 f.id, .int .i64 f.step, .int .i64 f.kind, .int .i64 f.tick, .int .i64 f.actor, .int .i64 f.frm, .int .i64 f.to, .int .i64 f.item, .int .i64 f.n, .slice A n c, .slice A' n' c'] 47) = w1 := ⟨_, rfl⟩
  have hE1 : E w w1 := by rw [← hw1]; exact (E.refl w).alloc _
  have hz1 : w.heap.size < w1.heap.size := by rw [← hw1]; simp
  have hc1 : FlCells w1 w.heap.size 0 f (A, n, c) (A', n', c') := by rw [← hw1]; exact fl_box w f (A, n, c) (A', n', c') _
  have HB := Lib.hid hb
  have hl1 := hb.1.len
  have hl2 := hb.2.len
  simp only at hl1 hl2
  have hm1 := hb.1.n63
  have hm2 := hb.2.n63
  simp only at hm1 hm2
  have HC := Lib.hid hc1
  have HV := Lib.hid (fun W (hE : E w W) => refValid_c A n c f.parts W (hb.1.e hE))
  have HT := Lib.hid (fun W (hE : E w W) => refTotal_c A n c f.parts W (hb.1.e hE))
  have HF0 : okF f = (validB f.parts && (decide (0 ≤ f.id) && (decide (0 ≤ f.item) && (decide (1 ≤ f.n) && (decide (f.n ≤ 1099511627776) && (decide (n = 0) || (decide (n' = 0) && decide (totL f.parts = f.n)))))))) := by
    rw [okF, ← hl1, ← hl2]
    congr 6
    · rw [Bool.eq_iff_iff]; simp
    · congr 1; rw [Bool.eq_iff_iff]; simp
  have HTV := Lib.hid (fun (h : validB f.parts = true) => show totalS f.parts = totL f.parts by rw [totalS, h]; rfl)
  have HF := Lib.hid HF0
  clear HF0
  unfold FlCells at hc1
  simp only [Nat.zero_add] at hc1
  obtain ⟨c0, c1, c2, c3, c4, c5, c6, c7, c8, c9, c10⟩ := hc1
  generalize okF f = res at *
  unfold flV
  by_cases h0 : f.id < 0
  · have HR := Lib.hid (show res = false by rw [HF.out, show decide (0 ≤ f.id) = false by simp; omega]; simp)
    clear hb hl1 hl2
    go_enter Try.func68, Try.ntmps68
    go_upto_region 1 with fail
    try rw [hw1]
    go_upto_region 2 with (go_at_call 53; refine (HV.out _ hE1).mono ?_; rintro e w2 ⟨rfl, hE2⟩)
    have hc2 := HC.out.e hE2 hz1
    clear c0 c1 c2 c3 c4 c5 c6 c7 c8 c9 c10 hw1
    unfold FlCells at hc2
    simp only [Nat.zero_add] at hc2
    obtain ⟨c0, c1, c2, c3, c4, c5, c6, c7, c8, c9, c10⟩ := hc2
    have hE12 := hE1.trans hE2
    generalize validB f.parts = bv at *
    cases bv <;> (
      go_wp2_with fail
      go_ret
      exact ⟨ret_bool HR.out.symm, hE12⟩)
  by_cases h7 : f.item < 0
  · have HR := Lib.hid (show res = false by rw [HF.out, show decide (0 ≤ f.item) = false by simp; omega]; simp)
    clear hb hl1 hl2
    go_enter Try.func68, Try.ntmps68
    go_upto_region 1 with fail
    try rw [hw1]
    go_upto_region 2 with (go_at_call 53; refine (HV.out _ hE1).mono ?_; rintro e w2 ⟨rfl, hE2⟩)
    have hc2 := HC.out.e hE2 hz1
    clear c0 c1 c2 c3 c4 c5 c6 c7 c8 c9 c10 hw1
    unfold FlCells at hc2
    simp only [Nat.zero_add] at hc2
    obtain ⟨c0, c1, c2, c3, c4, c5, c6, c7, c8, c9, c10⟩ := hc2
    have hE12 := hE1.trans hE2
    generalize validB f.parts = bv at *
    cases bv <;> (
      go_wp2_with fail
      go_ret
      exact ⟨ret_bool HR.out.symm, hE12⟩)
  by_cases h8 : f.n < 1
  · have HR := Lib.hid (show res = false by rw [HF.out, show decide (1 ≤ f.n) = false by simp; omega]; simp)
    clear hb hl1 hl2
    go_enter Try.func68, Try.ntmps68
    go_upto_region 1 with fail
    try rw [hw1]
    go_upto_region 2 with (go_at_call 53; refine (HV.out _ hE1).mono ?_; rintro e w2 ⟨rfl, hE2⟩)
    have hc2 := HC.out.e hE2 hz1
    clear c0 c1 c2 c3 c4 c5 c6 c7 c8 c9 c10 hw1
    unfold FlCells at hc2
    simp only [Nat.zero_add] at hc2
    obtain ⟨c0, c1, c2, c3, c4, c5, c6, c7, c8, c9, c10⟩ := hc2
    have hE12 := hE1.trans hE2
    generalize validB f.parts = bv at *
    cases bv <;> (
      go_wp2_with fail
      go_ret
      exact ⟨ret_bool HR.out.symm, hE12⟩)
  by_cases h9 : 1099511627776 < f.n
  · have HR := Lib.hid (show res = false by rw [HF.out, show decide (f.n ≤ 1099511627776) = false by simp; omega]; simp)
    clear hb hl1 hl2
    go_enter Try.func68, Try.ntmps68
    go_upto_region 1 with fail
    try rw [hw1]
    go_upto_region 2 with (go_at_call 53; refine (HV.out _ hE1).mono ?_; rintro e w2 ⟨rfl, hE2⟩)
    have hc2 := HC.out.e hE2 hz1
    clear c0 c1 c2 c3 c4 c5 c6 c7 c8 c9 c10 hw1
    unfold FlCells at hc2
    simp only [Nat.zero_add] at hc2
    obtain ⟨c0, c1, c2, c3, c4, c5, c6, c7, c8, c9, c10⟩ := hc2
    have hE12 := hE1.trans hE2
    generalize validB f.parts = bv at *
    cases bv <;> (
      go_wp2_with fail
      go_ret
      exact ⟨ret_bool HR.out.symm, hE12⟩)
  have HF20 : res = (validB f.parts && (decide (n = 0) || (decide (n' = 0) && decide (totL f.parts = f.n)))) := by
    rw [HF.out, show decide (0 ≤ f.id) = true by simp; omega, show decide (0 ≤ f.item) = true by simp; omega, show decide (1 ≤ f.n) = true by simp; omega, show decide (f.n ≤ 1099511627776) = true by simp; omega]
    simp only [Bool.true_and]
  have HF2 := Lib.hid HF20
  clear HF20 HF hb hl1 hl2
  obtain ⟨bv, hbv⟩ : ∃ bv, validB f.parts = bv := ⟨_, rfl⟩
  rw [hbv] at HV HTV HF2
  clear hbv
  go_enter Try.func68, Try.ntmps68
  go_upto_region 1 with fail
  try rw [hw1]
  go_upto_region 2 with (go_at_call 53; refine (HV.out _ hE1).mono ?_; rintro e w2 ⟨rfl, hE2⟩)
  have hc2 := HC.out.e hE2 hz1
  clear c0 c1 c2 c3 c4 c5 c6 c7 c8 c9 c10
  unfold FlCells at hc2
  simp only [Nat.zero_add] at hc2
  obtain ⟨c0, c1, c2, c3, c4, c5, c6, c7, c8, c9, c10⟩ := hc2
  have hE12 := hE1.trans hE2
  have hz2 : w.heap.size < w2.heap.size := Nat.lt_of_lt_of_le hz1 hE2.le
  clear hw1 hE1 hE2 hz1
  cases bv
  · have HR := Lib.hid (show res = false by rw [HF2.out]; simp)
    go_wp2_with fail
    go_ret
    exact ⟨ret_bool HR.out.symm, hE12⟩
  · go_upto_region 4 with fail
    by_cases hn : n = 0
    · subst hn
      have HR := Lib.hid (show res = true by rw [HF2.out]; simp)
      (refine wp_region_quiet_lit (by kernel_rfl) (by kernel_rfl) ?_; (repeat (first | ((with_reducible refine wpQuiet_step (fun K hK => ?_)); go_simp; (with_reducible refine hK _ ?_); clear hK K) | ((with_reducible refine wpQuiet_off (by kernel_rfl) (fun K hK => ?_)); go_simp; (with_reducible refine hK _ ?_); clear hK K))); (with_reducible refine wpQuiet_nil ?_); intro _ hw'; obtain ⟨nq, hw''⟩ := hw'; subst hw'')
      go_wp2_with fail
      go_ret
      exact ⟨ret_bool HR.out.symm, hE12.drewN nq⟩
    · have dn : ((n : Int) == 0) = false := by simp; omega
      obtain ⟨tt, htt⟩ : ∃ tt, totL f.parts = tt := ⟨_, rfl⟩
      have hTV := HTV.out rfl
      rw [htt] at hTV HF2
      rw [hTV] at HT
      have hEa := (E.refl w2).drew
      by_cases heq : tt = f.n
      · have dq : (tt == f.n) = true := by simpa using heq
        obtain ⟨eb, heb⟩ : ∃ eb : Bool, ((n' : Int) == 0) = eb := ⟨_, rfl⟩
        have HR := Lib.hid (show res = eb by rw [HF2.out, ← heb, show decide (n = 0) = false by simpa using hn, show decide (tt = f.n) = true by simpa using heq]; rw [Bool.eq_iff_iff]; simp)
        clear HF2 HTV hTV htt HV heq
        go_region_held3 (fun w' => w'.cell? ⟨w.heap.size, 8, none⟩ = some (.int .i64 f.n) ∧ w'.cell? ⟨w.heap.size, 9, none⟩ = some (.slice A n c) ∧ w'.cell? ⟨w.heap.size, 10, none⟩ = some (.slice A' n' c')) (exact ⟨(hEa.cell (p := ⟨w.heap.size, 8, none⟩) hz2).trans c8, (hEa.cell (p := ⟨w.heap.size, 9, none⟩) hz2).trans c9, (hEa.cell (p := ⟨w.heap.size, 10, none⟩) hz2).trans c10⟩)
          ((go_at_call 38; refine (HT.out _ (hE12.trans hEa)).mono ?_; rintro e w3 ⟨rfl, hE3⟩; replace hEa := hEa.trans hE3))
        all_goals (
          go_wp2_with fail
          go_ret
          exact ⟨ret_bool HR.out.symm, hE12.trans hEa⟩)
      · have dq : (tt == f.n) = false := by simpa using heq
        have HR := Lib.hid (show res = false by rw [HF2.out, show decide (n = 0) = false by simpa using hn, show decide (tt = f.n) = false by simpa using heq]; simp)
        clear HF2 HTV hTV htt HV heq
        refine wp_region_held_drew (S := (fun w' => w'.cell? ⟨w.heap.size, 8, none⟩ = some (.int .i64 f.n) ∧ w'.cell? ⟨w.heap.size, 9, none⟩ = some (.slice A n c) ∧ w'.cell? ⟨w.heap.size, 10, none⟩ = some (.slice A' n' c'))) (by kernel_rfl) ⟨(hEa.cell (p := ⟨w.heap.size, 8, none⟩) hz2).trans c8, (hEa.cell (p := ⟨w.heap.size, 9, none⟩) hz2).trans c9, (hEa.cell (p := ⟨w.heap.size, 10, none⟩) hz2).trans c10⟩ (fun hHeld => ?_)
        (((refine wpAnyH_take (i := 0) (v := ?_) rfl (by kernel_rfl) (by kernel_rfl) (by kernel_rfl) (fun _ _ _ h => h) (Or.inl ⟨by kernel_rfl, ?_⟩) (by assumption) ?_); rotate_left 1; (focus (intro w hSw; (try dsimp only at hSw); go_simp; (try with_reducible rfl))); (try simp only [Act.put, List.setIfInBounds_toArray, List.set_cons_zero, List.set_cons_succ])); ((refine wpAnyH_take (i := 1) (v := ?_) rfl (by kernel_rfl) (by kernel_rfl) (by kernel_rfl) (fun _ _ _ h => h) (Or.inl ⟨by kernel_rfl, ?_⟩) (by assumption) ?_); rotate_left 1; (focus (intro w hSw; (try dsimp only at hSw); go_simp; (try with_reducible rfl))); (try simp only [Act.put, List.setIfInBounds_toArray, List.set_cons_zero, List.set_cons_succ])); ((refine wpAnyH_take (i := 2) (v := ?_) rfl (by kernel_rfl) (by kernel_rfl) (by kernel_rfl) (fun _ _ _ h => h) (Or.inl ⟨by kernel_rfl, ?_⟩) (by assumption) ?_); rotate_left 1; (focus (intro w hSw; (try dsimp only at hSw); go_simp; (try with_reducible rfl))); (try simp only [Act.put, List.setIfInBounds_toArray, List.set_cons_zero, List.set_cons_succ])); ((refine wpAnyH_take (i := 3) (v := ?_) rfl (by kernel_rfl) (by kernel_rfl) (by kernel_rfl) (fun _ _ _ h => h) (Or.inl ⟨by kernel_rfl, ?_⟩) (by assumption) ?_); rotate_left 1; (focus (intro w hSw; (try dsimp only at hSw); go_simp; (try with_reducible rfl))); (try simp only [Act.put, List.setIfInBounds_toArray, List.set_cons_zero, List.set_cons_succ])); ((refine wpAnyH_take (i := 4) (v := ?_) rfl (by kernel_rfl) (by kernel_rfl) (by kernel_rfl) (fun _ _ _ h => h) (Or.inl ⟨by kernel_rfl, ?_⟩) (by assumption) ?_); rotate_left 1; (focus (intro w hSw; (try dsimp only at hSw); go_simp; (try with_reducible rfl))); (try simp only [Act.put, List.setIfInBounds_toArray, List.set_cons_zero, List.set_cons_succ])); ((refine wpAnyH_take (i := 5) (v := ?_) rfl (by kernel_rfl) (by kernel_rfl) (by kernel_rfl) (fun _ _ _ h => h) (Or.inl ⟨by kernel_rfl, ?_⟩) (by assumption) ?_); rotate_left 1; (focus (intro w hSw; (try dsimp only at hSw); go_simp; (try with_reducible rfl))); (try simp only [Act.put, List.setIfInBounds_toArray, List.set_cons_zero, List.set_cons_succ])); ((refine wpAnyH_take (i := 6) (v := ?_) rfl (by kernel_rfl) (by kernel_rfl) (by kernel_rfl) (fun _ _ _ h => h) (Or.inl ⟨by kernel_rfl, ?_⟩) (by assumption) ?_); rotate_left 1; (focus (intro w hSw; (try dsimp only at hSw); go_simp; (try with_reducible rfl))); (try simp only [Act.put, List.setIfInBounds_toArray, List.set_cons_zero, List.set_cons_succ])); ((refine wpAnyH_take (i := 8) (v := ?_) rfl (by kernel_rfl) (by kernel_rfl) (by kernel_rfl) (fun _ _ _ h => h) (Or.inl ⟨by kernel_rfl, ?_⟩) (by assumption) ?_); rotate_left 1; (focus (intro w hSw; (try dsimp only at hSw); go_simp; (try with_reducible rfl))); (try simp only [Act.put, List.setIfInBounds_toArray, List.set_cons_zero, List.set_cons_succ])); ((refine wpAnyH_take (i := 9) (v := ?_) rfl (by kernel_rfl) (by kernel_rfl) (by kernel_rfl) (fun _ _ _ h => h) (Or.inl ⟨by kernel_rfl, ?_⟩) (by assumption) ?_); rotate_left 1; (focus (intro w hSw; (try dsimp only at hSw); go_simp; (try with_reducible rfl))); (try simp only [Act.put, List.setIfInBounds_toArray, List.set_cons_zero, List.set_cons_succ])))
        (((refine wpAnyH_ready (rs := [7]) (by kernel_rfl) (by simp) ?_); (refine AllReadyH.cons rfl (fun K hK => ?_) AllReadyH.nil); (rw [if_pos (by kernel_rfl)]); go_simp))
        refine (HT.out _ (hE12.trans hEa)).mono ?_
        rintro e w3 ⟨rfl, hE3⟩
        replace hEa := hEa.trans hE3
        (try go_wp2_with fail)
        refine hK.out _ _ ⟨(hEa.cell (p := ⟨w.heap.size, 8, none⟩) hz2).trans c8, (hEa.cell (p := ⟨w.heap.size, 9, none⟩) hz2).trans c9, (hEa.cell (p := ⟨w.heap.size, 10, none⟩) hz2).trans c10⟩ (fun hHeld2 => ?_)
        clear hK K hHeld
        (try simp only [Act.put, List.setIfInBounds_toArray, List.set_cons_zero, List.set_cons_succ])
        (((refine wpAnyH_take (i := 10) (v := ?_) rfl (by kernel_rfl) (by kernel_rfl) (by kernel_rfl) (fun _ _ _ h => h) (Or.inl ⟨by kernel_rfl, ?_⟩) (by assumption) ?_); rotate_left 1; (focus (intro w hSw; (try dsimp only at hSw); go_simp; (try with_reducible rfl))); (try simp only [Act.put, List.setIfInBounds_toArray, List.set_cons_zero, List.set_cons_succ])); ((refine wpAnyH_take (i := 11) (v := ?_) rfl (by kernel_rfl) (by kernel_rfl) (by kernel_rfl) (fun _ _ _ h => h) (Or.inl ⟨by kernel_rfl, ?_⟩) (by assumption) ?_); rotate_left 1; (focus (intro w hSw; (try dsimp only at hSw); go_simp; (try with_reducible rfl))); (try simp only [Act.put, List.setIfInBounds_toArray, List.set_cons_zero, List.set_cons_succ])))
        (((refine wpAnyH_take (i := 12) (v := undef) rfl (by kernel_rfl) (by kernel_rfl) (by kernel_rfl) (fun _ _ _ h => h) (Or.inr ⟨by kernel_rfl, rfl⟩) (by assumption) ?_); (try simp only [Act.put, List.setIfInBounds_toArray, List.set_cons_zero, List.set_cons_succ])); ((refine wpAnyH_take (i := 13) (v := undef) rfl (by kernel_rfl) (by kernel_rfl) (by kernel_rfl) (fun _ _ _ h => h) (Or.inr ⟨by kernel_rfl, rfl⟩) (by assumption) ?_); (try simp only [Act.put, List.setIfInBounds_toArray, List.set_cons_zero, List.set_cons_succ])); ((refine wpAnyH_take (i := 14) (v := undef) rfl (by kernel_rfl) (by kernel_rfl) (by kernel_rfl) (fun _ _ _ h => h) (Or.inr ⟨by kernel_rfl, rfl⟩) (by assumption) ?_); (try simp only [Act.put, List.setIfInBounds_toArray, List.set_cons_zero, List.set_cons_succ])); ((refine wpAnyH_take (i := 15) (v := undef) rfl (by kernel_rfl) (by kernel_rfl) (by kernel_rfl) (fun _ _ _ h => h) (Or.inr ⟨by kernel_rfl, rfl⟩) (by assumption) ?_); (try simp only [Act.put, List.setIfInBounds_toArray, List.set_cons_zero, List.set_cons_succ])))
        (((refine wpAnyH_take (i := 16) (v := ?_) rfl (by kernel_rfl) (by kernel_rfl) (by kernel_rfl) (fun _ _ _ h => h) (Or.inl ⟨by kernel_rfl, ?_⟩) (by assumption) ?_); rotate_left 1; (focus (intro w hSw; (try dsimp only at hSw); go_simp; (try with_reducible rfl))); (try simp only [Act.put, List.setIfInBounds_toArray, List.set_cons_zero, List.set_cons_succ])); ((refine wpAnyH_take (i := 17) (v := ?_) rfl (by kernel_rfl) (by kernel_rfl) (by kernel_rfl) (fun _ _ _ h => h) (Or.inl ⟨by kernel_rfl, ?_⟩) (by assumption) ?_); rotate_left 1; (focus (intro w hSw; (try dsimp only at hSw); go_simp; (try with_reducible rfl))); (try simp only [Act.put, List.setIfInBounds_toArray, List.set_cons_zero, List.set_cons_succ])); ((refine wpAnyH_take (i := 18) (v := ?_) rfl (by kernel_rfl) (by kernel_rfl) (by kernel_rfl) (fun _ _ _ h => h) (Or.inl ⟨by kernel_rfl, ?_⟩) (by assumption) ?_); rotate_left 1; (focus (intro w hSw; (try dsimp only at hSw); go_simp; (try with_reducible rfl))); (try simp only [Act.put, List.setIfInBounds_toArray, List.set_cons_zero, List.set_cons_succ])))
        refine wpAnyH_done (by kernel_rfl) ?_ _
        go_simp
        go_wp2_with fail
        go_ret
        exact ⟨ret_bool HR.out.symm, hE12.trans hEa⟩
end Go.Proofs.Ytmeplpiamkaniaa
/- Find, has, refers of the model. -/
namespace Go.Proofs.Ytmeplpiamkaniaa
set_option linter.unusedVariables false
set_option linter.unusedSimpArgs false
open Go.RowKit

def findI (fs : List Fl) (i : Int) : Int := match posF fs i with | some k => (k : Int) | none => -1
theorem pos_hit {fs : List Fl} {i : Int} {k : Nat} {f : Fl} (hk : fs[k]? = some f) (e : f.id = i) (h : ∀ j g, j < k → fs[j]? = some g → g.id ≠ i) : posF fs i = some k := by
  obtain ⟨hlt, hke⟩ := List.getElem?_eq_some_iff.1 hk
  rw [posF, List.findIdx?_eq_some_iff_getElem]
  refine ⟨hlt, by rw [hke]; simpa using e, fun j hj => ?_⟩
  have := h j fs[j] hj (List.getElem?_eq_getElem (by omega))
  simpa using this
theorem pos_miss {fs : List Fl} {i : Int} (h : ∀ j g, j < fs.length → fs[j]? = some g → g.id ≠ i) : posF fs i = none := by
  rw [posF_none, getF_none]
  intro f hf
  obtain ⟨j, hj⟩ := List.getElem?_of_mem hf
  exact h j f (List.getElem?_eq_some_iff.1 hj).1 hj
theorem findI_range {fs : List Fl} {i : Int} : -1 ≤ findI fs i ∧ findI fs i < (fs.length : Int) := by
  unfold findI
  cases h : posF fs i with
  | none => simp only; omega
  | some k =>
    obtain ⟨f, h1, _⟩ := posF_some h
    have := (List.getElem?_eq_some_iff.1 h1).1
    simp only; omega
theorem find_c (A : Option Addr) (n c : Nat) (fs : List Fl) (i : Int) (w : World) (h : FlowsAt w A n c fs) :
    Calls Try.prog 60 #[.slice A n c, .int .i64 i] w fun e w' => e = .returned (.int .i64 (findI fs i)) ∧ w = w' := by
  have hm := h.n63
  have HL := Lib.hid h.len
  go_enter Try.func60, Try.ntmps60
  go_wp2_with fail
  go_loopw [5] (fun ti wr => ∃ k : Nat, k ≤ n ∧ ti = .int .i64 k ∧ w = wr ∧ Hid (∀ j g, j < k → fs[j]? = some g → g.id ≠ i)) (fun ti _ => n - (intOf ti).toNat)
  case atStart => exact ⟨0, Nat.zero_le _, rfl, rfl, fun j g hj => by omega⟩
  case round =>
    obtain ⟨k, hk, rfl, rfl, hno⟩ := hrel
    by_cases hlt : k < n
    · obtain ⟨b, o, f, s, t, rfl, hb, hf, hwf, hc, _⟩ := h.get hlt
      have hkI : (k : Int) < (n : Int) := by omega
      have hc0 := hc.1
      by_cases e : f.id = i
      · have hd : (f.id == i) = true := by simpa using e
        have HR := Lib.hid (show (k : Int) = findI fs i by rw [findI, pos_hit hf e hno.out])
        clear hf hc e
        go_wp2_with fail
        go_ret
        exact ⟨ret_int HR.out, rfl⟩
      · have hd : (f.id == i) = false := by simpa using e
        have HN := Lib.hid (show ∀ j g, j < k + 1 → fs[j]? = some g → g.id ≠ i from fun j g hj hg => by
          rcases Nat.lt_or_ge j k with h1 | h1
          · exact hno.out j g h1 hg
          · have : j = k := by omega
            subst this
            rw [hf] at hg; injection hg with hg; subst hg; exact e)
        clear hf hc e
        go_wp2_with fail
        go_roundw
        case rel => exact ⟨k + 1, by omega, by go_num, by first | trivial | rfl, HN⟩
        case measure => simp [intOf]; omega
    · have HR := Lib.hid (show (-1 : Int) = findI fs i by rw [findI, pos_miss fun j g hj hg => hno.out j g (by have := HL.out; omega) hg])
      go_wp2_with fail
      go_ret
      exact ⟨ret_int HR.out, rfl⟩
theorem has_c (A : Option Addr) (n c : Nat) (l : List Int) (x : Int) (w : World) (h : Nums .i64 w A n c l) :
    Calls Try.prog 70 #[.slice A n c, .int .i64 x] w fun e w' => e = .returned (.bool (l.contains x)) ∧ w = w' := by
  have hm := h.n63
  have HL := Lib.hid h.len
  go_enter Try.func70, Try.ntmps70
  go_wp2_with fail
  go_loopw [5] (fun ti wr => ∃ k : Nat, k ≤ n ∧ ti = .int .i64 k ∧ w = wr ∧ Hid (l.contains x = (l.drop k).contains x)) (fun ti _ => n - (intOf ti).toNat)
  case atStart => exact ⟨0, Nat.zero_le _, rfl, rfl, show _ = _ from rfl⟩
  case round =>
    obtain ⟨k, hk, rfl, rfl, hno⟩ := hrel
    by_cases hlt : k < n
    · obtain ⟨b, o, y, rfl, hb, hy, hwy, hc⟩ := h.get hlt
      have hkI : (k : Int) < (n : Int) := by omega
      have hdr : l.drop k = y :: l.drop (k + 1) := by
        have hkl : k < l.length := by rw [HL.out]; exact hlt
        rw [List.drop_eq_getElem_cons hkl]
        rw [List.getElem?_eq_getElem hkl] at hy
        injection hy with hy
        rw [hy]
      by_cases e : y = x
      · have hd : (y == x) = true := by simpa using e
        have HR := Lib.hid (show true = l.contains x by rw [hno.out, hdr, List.contains_cons]; simp [e])
        clear hy hdr e
        go_wp2_with fail
        go_ret
        exact ⟨ret_bool HR.out, rfl⟩
      · have hd : (y == x) = false := by simpa using e
        have HN := Lib.hid (show l.contains x = (l.drop (k + 1)).contains x by
          rw [hno.out, hdr, List.contains_cons]
          have : (x == y) = false := by simpa using fun e' => e e'.symm
          rw [this, Bool.false_or])
        clear hy hdr e
        go_wp2_with fail
        go_roundw
        case rel => exact ⟨k + 1, by omega, by go_num, by first | trivial | rfl, HN⟩
        case measure => simp [intOf]; omega
    · have HR := Lib.hid (show false = l.contains x by rw [hno.out, List.drop_eq_nil_of_le (by have := HL.out; omega)]; rfl)
      go_wp2_with fail
      go_ret
      exact ⟨ret_bool HR.out, rfl⟩
set_option maxHeartbeats 1000000 in
theorem refers_c (f : Fl) (A : Option Addr) (n c : Nat) (A' : Option Addr) (n' c' : Nat) (w : World) (hb : FlB w f (A, n, c) (A', n', c')) (hn : n ≤ 100000) (hn' : n' ≤ 100000) :
    Calls Try.prog 97 #[flV f A n c A' n' c'] w (RetOwn .i64 3 w (refsF f)) := by
  obtain ⟨w1, hw1⟩ : ∃ w1, w.alloc (.cells #[.int .i64 f.id, .int .i64 f.step, .int .i64 f.kind, .int .i64 f.tick, .int .i64 f.actor, .int .i64 f.frm, .int .i64 f.to, .int .i64 f.item, .int .i64 f.n, .slice A n c, .slice A' n' c'] 47) = w1 := ⟨_, rfl⟩
  have hE1 : E w w1 := by rw [← hw1]; exact (E.refl w).alloc _
  have hz1 : w1.heap.size = w.heap.size + 1 := by rw [← hw1]; simp
  have hc1 : FlCells w1 w.heap.size 0 f (A, n, c) (A', n', c') := by rw [← hw1]; exact fl_box w f (A, n, c) (A', n', c') _
  have h1 := hb.1
  have h2 := hb.2
  simp only at h1 h2
  have hm := h1.n63
  have HL := Lib.hid h1.len
  have HR := Lib.hid (show (f.parts.map fun p => p.1) ++ f.made = refsF f from rfl)
  unfold flV
  go_enter Try.func97, Try.ntmps97
  go_upto_region 1 with fail
  try rw [hw1]
  clear hw1
  go_wp2_with fail
  go_loopw [3, 4] (fun t3 ti wr => ∃ (k : Nat) (A3 : Option Addr) (c3 : Nat), k ≤ n ∧ ti = .int .i64 k ∧ t3 = .slice A3 k c3 ∧ Own .i64 3 wr (w.heap.size + 1) A3 k c3 ((f.parts.take k).map fun p => p.1) ∧ E w1 wr) (fun _ ti _ => n - (intOf ti).toNat)
  case atStart => exact ⟨0, none, 0, Nat.zero_le _, rfl, rfl, by rw [List.take_zero]; exact Own.nil _ _ _ _, E.refl _⟩
  case round =>
    obtain ⟨k, A3, c3, hk, rfl, rfl, hO, hE⟩ := hrel
    have hcr := hc1.e hE (by omega)
    unfold FlCells at hcr
    simp only [Nat.zero_add] at hcr
    obtain ⟨_, _, _, _, _, _, _, _, _, c9, c10⟩ := hcr
    have hsz := hE.le
    have hbs : w.heap.size + 1 ≤ wr.heap.size := by omega
    by_cases hlt : k < n
    · obtain ⟨b, o, x, rfl, hbx, hx, hwx, d0, d1, d2⟩ := (h1.e (hE1.trans hE)).get hlt
      have hkI : (k : Int) < (n : Int) := by omega
      have HT := Lib.hid (show ((f.parts.take (k + 1)).map fun p => p.1) = ((f.parts.take k).map fun p => p.1) ++ [x.1] by rw [List.take_add_one, hx, List.map_append]; rfl)
      have hwx1 := hwx.1
      clear hx
      go_wp2_with (at_builtin; refine wpList_app1n intTk _ rfl _ _ rfl _ _ _ _ _ rfl hO _ rfl hwx1 (by omega) hbs ?_; intro g6 c6 w6 hO6 hG6 hB6 hor6)
      go_roundw
      case rel => exact ⟨k + 1, _, _, by omega, by go_num, rfl, by rw [HT.out]; exact hO6, hE.grown hG6 (fun q hq => by rw [ob_eq] at hq; have := (hO.ltN q hq).1; omega)⟩
      case measure => simp [intOf]; omega
    · have hkn : k = n := by omega
      have HT := Lib.hid (show ((f.parts.take k).map fun p => p.1) = f.parts.map fun p => p.1 by rw [List.take_of_length_le (by have := HL.out; omega)])
      rw [HT.out, hkn] at hO
      rw [hkn]
      clear hkn
      have h2r := h2.e (hE1.trans hE)
      go_wp2_with (at_builtin; refine wpList_appN intTk _ rfl _ _ rfl _ _ _ _ _ rfl hO _ _ _ _ rfl h2r (by omega) hbs ?_; intro A7 c7 w7 hO7 hG7 hB7)
      go_ret
      exact RetOwn.mk_ HR.out.symm (hO7.rebase (base' := w.heap.size) (Nat.le_succ _)) ((hE1.trans hE).grown hG7 (fun q hq => by rw [ob_eq] at hq; have := (hO.ltN q hq).1; omega))
end Go.Proofs.Ytmeplpiamkaniaa
/- visit: a function is called with every ID to which a flow refers. -/
namespace Go.Proofs.Ytmeplpiamkaniaa
set_option linter.unusedVariables false
set_option linter.unusedSimpArgs false
open Go.RowKit

theorem LotsAt.exX {X : Nat → Prop} {w w' : World} {A : Option Addr} {n c : Nat} {l : List Lt} (h : LotsAt w A n c l) (hX : Ex X w w') (hb : 0 < n → ∀ b, ob A = some b → ¬ X b) : LotsAt w' A n c l :=
  ⟨h.len, h.cap, h.mx, h.wf, fun hn => by
    obtain ⟨b, o, e, hlt, hc⟩ := h.at_ hn
    have hnx := hb hn b (by rw [e]; rfl)
    refine ⟨b, o, e, Nat.lt_of_lt_of_le hlt hX.size, fun i x hi => ?_⟩
    have hcell := fun k => hX.cell (p := ⟨b, k, none⟩) hlt hnx
    rw [hcell, hcell, hcell]
    exact hc i x hi⟩
theorem Nums.exX {k : IntKind} {X : Nat → Prop} {w w' : World} {A : Option Addr} {n c : Nat} {l : List Int} (h : Nums k w A n c l) (hX : Ex X w w') (hb : 0 < n → ∀ b, ob A = some b → ¬ X b) : Nums k w' A n c l :=
  ⟨h.len, h.cap, h.mx, h.wf, fun hn => by
    obtain ⟨b, o, e, hlt, hc⟩ := h.at_ hn
    have hnx := hb hn b (by rw [e]; rfl)
    exact ⟨b, o, e, Nat.lt_of_lt_of_le hlt hX.size, fun i hi => (hX.cell (p := ⟨b, o + i, none⟩) hlt hnx).trans (hc i hi)⟩⟩
theorem FlCells.ex {X : Nat → Prop} {w w' : World} {b o : Nat} {f : Fl} {s t : Sl} (h : FlCells w b o f s t) (hX : Ex X w w') (hb : b < w.heap.size) (hx : ¬ X b) : FlCells w' b o f s t := h.same fun k => hX.cell (p := ⟨b, k, none⟩) hb hx
/-- a function that takes the IDs one after the other: J what it has made of those so far, X the blocks that it writes into -/
structure Visits (gf : FuncId) (lb : List Value) (ok : List Int → Int → Prop) (J : List Int → (Nat → Prop) → World → Prop) : Prop where
  e : ∀ pre X W W', J pre X W → E W W' → J pre X W'
  lt : ∀ pre X W, J pre X W → ∀ i, X i → i < W.heap.size
  go : ∀ pre X W id, ok pre id → J pre X W → Calls Try.prog gf (Value.int .i64 id :: lb).toArray W (fun e W' => e = .returned (.tuple #[]) ∧ ∃ X', J (pre ++ [id]) X' W' ∧ Ex X W W' ∧ ∀ i, X' i → X i ∨ W.heap.size ≤ i)
theorem ex_chain {X X' X'' : Nat → Prop} {a b c d : World} (h : Ex X a b) (h' : ∀ i, X' i → X i ∨ a.heap.size ≤ i) (e : E b c) (k : Ex X' c d) (k' : ∀ i, X'' i → X' i ∨ c.heap.size ≤ i) : Ex X a d ∧ ∀ i, X'' i → X i ∨ a.heap.size ≤ i := by
  refine ⟨(h.trans (Ex.of_e (X := X) e) (fun _ _ x => x) (fun _ _ x => x)).trans k (fun _ _ x => x) (fun i hi x => ?_), fun i hi => ?_⟩
  · rcases h' i x with h1 | h1
    · exact h1
    · omega
  · rcases k' i hi with h1 | h1
    · exact h' i h1
    · right; have := h.size; have := e.le; omega
set_option maxHeartbeats 2000000 in
set_option maxRecDepth 100000 in
theorem visit_c {gf : FuncId} {lb : List Value} {ok : List Int → Int → Prop} {J : List Int → (Nat → Prop) → World → Prop} (hcall : ∀ (args : Array Value) (wr : World), (callFunc gf args).run Try.prog wr = .ok (.enter gf args) wr) (hV : Visits gf lb ok J)
    (f : Fl) (A : Option Addr) (n c : Nat) (A' : Option Addr) (n' c' : Nat) (w : World) (hb : FlB w f (A, n, c) (A', n', c')) (X : Nat → Prop) (hJ : J [] X w) (hX1 : 0 < n → ∀ b, ob A = some b → ¬ X b) (hX2 : 0 < n' → ∀ b, ob A' = some b → ¬ X b) (hok : ∀ (k : Nat) (id : Int), (refsF f)[k]? = some id → ok ((refsF f).take k) id) :
    Calls Try.prog 79 #[flV f A n c A' n' c', .func (.func gf) #[] lb.toArray] w (fun e w' => e = .returned (.tuple #[]) ∧ ∃ X', J (refsF f) X' w' ∧ Ex X w w' ∧ ∀ i, X' i → X i ∨ w.heap.size ≤ i) := by
  obtain ⟨w1, hw1⟩ : ∃ w1, w.alloc (.cells #[.int .i64 f.id, .int .i64 f.step, .int .i64 f.kind, .int .i64 f.tick, .int .i64 f.actor, .int .i64 f.frm, .int .i64 f.to, .int .i64 f.item, .int .i64 f.n, .slice A n c, .slice A' n' c'] 47) = w1 := ⟨_, rfl⟩
  have hE1 : E w w1 := by rw [← hw1]; exact (E.refl w).alloc _
  have hz1 : w1.heap.size = w.heap.size + 1 := by rw [← hw1]; simp
  have hc1 : FlCells w1 w.heap.size 0 f (A, n, c) (A', n', c') := by rw [← hw1]; exact fl_box w f (A, n, c) (A', n', c') _
  have h1 : LotsAt w1 A n c f.parts := hb.1.e hE1
  have h2 : Nums .i64 w1 A' n' c' f.made := hb.2.e hE1
  have hm := h1.n63
  have hm2 := h2.n63
  have HL1 := Lib.hid h1.len
  have HL2 := Lib.hid h2.len
  have HXw := Lib.hid (hV.lt [] X w hJ)
  have HJ := Lib.hid (hV.e _ _ _ _ hJ hE1)
  have HV := Lib.hid hV
  have HX := Lib.hid (And.intro hX1 hX2)
  have HOK := Lib.hid hok
  have hnb : ¬ X w.heap.size := fun h => by have := HXw.out _ h; omega
  have HNB := Lib.hid hnb
  clear hb hJ hV hX1 hX2 hok hnb
  unfold flV
  go_enter Try.func79, Try.ntmps79
  go_upto_region 1 with fail
  try rw [hw1]
  clear hw1
  have hc9 := hc1
  unfold FlCells at hc9
  simp only [Nat.zero_add] at hc9
  obtain ⟨_, _, _, _, _, _, _, _, _, c9, _⟩ := hc9
  go_wp2_with fail
  clear c9
  go_loopw [11] (fun ti wr => ∃ (k : Nat) (X' : Nat → Prop), k ≤ n ∧ ti = .int .i64 k ∧ J ((f.parts.take k).map fun p => p.1) X' wr ∧ Ex X w1 wr ∧ ∀ i, X' i → X i ∨ w1.heap.size ≤ i) (fun ti _ => n - (intOf ti).toNat)
  case atStart => exact ⟨0, X, Nat.zero_le _, rfl, HJ.out, Ex.refl _ _, fun _ h => .inl h⟩
  case round =>
    obtain ⟨k, X', hk, rfl, hj, hE, hX'⟩ := hrel
    by_cases hlt : k < n
    · obtain ⟨b, o, x, rfl, hbx, hx, hwx, d0, d1, d2⟩ := (h1.exX hE HX.out.1).get hlt
      have hkI : (k : Int) < (n : Int) := by omega
      have HT := Lib.hid (show ((f.parts.take (k + 1)).map fun p => p.1) = ((f.parts.take k).map fun p => p.1) ++ [x.1] by rw [List.take_add_one, hx, List.map_append]; rfl)
      have hokx : ok ((f.parts.take k).map fun p => p.1) x.1 := by
        have h0 := HOK.out k x.1 (by rw [refsF, List.getElem?_append_left (by rw [List.length_map, HL1.out]; exact hlt), List.getElem?_map, hx]; rfl)
        rwa [refsF, List.take_append_of_le_length (by rw [List.length_map, HL1.out]; omega), ← List.map_take] at h0
      have hEa := (E.refl wr).alloc (.cells #[.int .i64 x.1, .int .i64 x.2.1, .int .i64 x.2.2] 32)
      have HG := Lib.hid (HV.out.go _ _ _ x.1 hokx (HV.out.e _ _ _ _ hj hEa))
      have HH := Lib.hid (And.intro hE (And.intro hX' hEa))
      clear hx hokx hj hE hX' hEa
      go_wp2_with fail
      refine HG.out.mono ?_
      rintro e w5 ⟨rfl, X5, hj5, hE5, hX5⟩
      obtain ⟨q1, q2⟩ := ex_chain HH.out.1 HH.out.2.1 HH.out.2.2 hE5 hX5
      go_wp2_with fail
      go_roundw
      case rel => exact ⟨k + 1, X5, by omega, by go_num, by rw [HT.out]; exact hj5, q1, q2⟩
      case measure => simp [intOf]; omega
    · have HT := Lib.hid (show ((f.parts.take k).map fun p => p.1) = f.parts.map fun p => p.1 by rw [List.take_of_length_le (by have := HL1.out; omega)])
      rw [HT.out] at hj
      have hc10 := hc1.ex hE (by omega) HNB.out
      unfold FlCells at hc10
      simp only [Nat.zero_add] at hc10
      obtain ⟨_, _, _, _, _, _, _, _, _, _, c10⟩ := hc10
      have HJ2 := Lib.hid hj
      have HE2 := Lib.hid (And.intro hE hX')
      clear hj hE hX'
      go_wp2_with fail
      clear c10
      go_loopw [23] (fun ti wq => ∃ (k : Nat) (X' : Nat → Prop), k ≤ n' ∧ ti = .int .i64 k ∧ J ((f.parts.map fun p => p.1) ++ f.made.take k) X' wq ∧ Ex X w1 wq ∧ ∀ i, X' i → X i ∨ w1.heap.size ≤ i) (fun ti _ => n' - (intOf ti).toNat)
      case atStart => exact ⟨0, X', Nat.zero_le _, rfl, by rw [List.take_zero, List.append_nil]; exact HJ2.out, HE2.out.1, HE2.out.2⟩
      case round =>
        clear HJ2 HE2 HT hk
        obtain ⟨j, X6, hj', rfl, hj6, hE6, hX6⟩ := hrel
        by_cases hlt : j < n'
        · obtain ⟨b, o, x, rfl, hbx, hx, hwx, d0⟩ := (h2.exX hE6 HX.out.2).get hlt
          have hkI : (j : Int) < (n' : Int) := by omega
          have HT := Lib.hid (show (f.parts.map fun p => p.1) ++ f.made.take (j + 1) = ((f.parts.map fun p => p.1) ++ f.made.take j) ++ [x] by rw [List.take_add_one, hx, List.append_assoc]; rfl)
          have hokx : ok ((f.parts.map fun p => p.1) ++ f.made.take j) x := by
            have hln : (f.parts.map fun p => p.1).length = n := by rw [List.length_map, HL1.out]
            have h0 := HOK.out (n + j) x (by rw [refsF, List.getElem?_append_right (by rw [hln]; omega), hln, show n + j - n = j by omega]; exact hx)
            rwa [refsF, List.take_append, hln, List.take_of_length_le (by rw [hln]; omega), show n + j - n = j by omega] at h0
          have HG := Lib.hid (HV.out.go _ _ _ x hokx hj6)
          have HH := Lib.hid (And.intro hE6 hX6)
          clear hx hokx hj6 hE6 hX6
          go_wp2_with fail
          refine HG.out.mono ?_
          rintro e w5 ⟨rfl, X5, hj5, hE5, hX5⟩
          obtain ⟨q1, q2⟩ := ex_chain HH.out.1 HH.out.2 (E.refl _) hE5 hX5
          go_wp2_with fail
          go_roundw
          case rel => exact ⟨j + 1, X5, by omega, by go_num, by rw [HT.out]; exact hj5, q1, q2⟩
          case measure => simp [intOf]; omega
        · have HT := Lib.hid (show (f.parts.map fun p => p.1) ++ f.made.take j = refsF f by rw [List.take_of_length_le (by have := HL2.out; omega)]; rfl)
          rw [HT.out] at hj6
          go_wp2_with fail
          go_end0
          refine ⟨rfl, X6, hj6, (Ex.of_e (X := X) hE1).trans hE6 (fun _ _ x => x) (fun _ _ x => x), fun i hi => ?_⟩
          rcases hX6 i hi with h | h
          · exact .inl h
          · right; omega
end Go.Proofs.Ytmeplpiamkaniaa
/- copies.Flow, copies.Each. -/
namespace Go.Proofs.Ytmeplpiamkaniaa
set_option linter.unusedVariables false
set_option linter.unusedSimpArgs false
open Go.RowKit Go.Shelf
attribute [local go_sem] Oper.semAt_some

set_option maxHeartbeats 400000 in
theorem cloneI_c (A : Option Addr) (n c : Nat) (l : List Int) (w : World) (h : Nums .i64 w A n c l) (hn : n ≤ 1099511627776) :
    Calls Try.prog 78 #[.slice A n c] w (RetOwn .i64 3 w l) := by
  rcases A with _ | ad
  · have h0 : n = 0 := by
      rcases Nat.eq_zero_or_pos n with h0 | h0
      · exact h0
      · obtain ⟨_, _, hh, _⟩ := h.at_ h0; cases hh
    have hl : l = [] := List.eq_nil_of_length_eq_zero (by rw [h.len, h0])
    have HL := Lib.hid hl
    clear h0 hl hn
    have hnil : ∀ W : World, (binOp .eql 22 (.slice none n c) (.slice none 0 0)).run Try.prog W = .ok (.bool true) W := fun W => Lib.run_eql_slice_nil W _ _ _ _ _ _ _ Try.underlying22
    go_enter Try.func78, Try.ntmps78
    go_wp2
    go_ret
    exact RetOwn.mk_ HL.out (Own.nil _ _ _ _) (E.refl _)
  · have hE := (E.refl w).alloc (.cells #[] 3)
    have h' := h.e hE
    have HN := Lib.hid hn
    clear hn
    have hnil : ∀ W : World, (binOp .eql 22 (.slice (some ad) n c) (.slice none 0 0)).run Try.prog W = .ok (.bool false) W := fun W => Lib.run_eql_slice_nil W _ _ _ _ _ _ _ Try.underlying22
    go_enter Try.func78, Try.ntmps78
    go_wp2_with (at_builtin; refine wpList_appN intTk _ rfl _ _ rfl w.heap.size _ _ _ [] rfl (Own.empty w _ _) _ _ _ l rfl h' (by have := HN.out; omega) (by simp) ?_; intro A' c' w1 hO hG hB)
    go_ret
    exact RetOwn.mk_ rfl (by simpa using hO) (hE.up hB)
/-- what is handed back: a flow with slices of the call's own -/
def RetFl (w : World) (f : Fl) (e : Ending) (w' : World) : Prop := ∃ A n c A' n' c', e = .returned (flV f A n c A' n' c') ∧ OwnL w' w.heap.size A n c f.parts ∧ Own .i64 3 w' w.heap.size A' n' c' f.made ∧ apartS A A' ∧ E w w'
/-- a box that holds a flow -/
def FlBox (w : World) (b : Nat) (f : Fl) (s t : Sl) : Prop := w.heap[b]? = some (.cells #[.int .i64 f.id, .int .i64 f.step, .int .i64 f.kind, .int .i64 f.tick, .int .i64 f.actor, .int .i64 f.frm, .int .i64 f.to, .int .i64 f.item, .int .i64 f.n, .slice s.1 s.2.1 s.2.2, .slice t.1 t.2.1 t.2.2] 47 (0, 0))
section
variable {w w' : World} {b : Nat} {f : Fl} {s t : Sl}
theorem FlBox.new (w : World) (f : Fl) (s t : Sl) : FlBox (w.alloc (.cells #[.int .i64 f.id, .int .i64 f.step, .int .i64 f.kind, .int .i64 f.tick, .int .i64 f.actor, .int .i64 f.frm, .int .i64 f.to, .int .i64 f.item, .int .i64 f.n, .slice s.1 s.2.1 s.2.2, .slice t.1 t.2.1 t.2.2] 47)) w.heap.size f s t := heap_alloc_new _ _
theorem FlBox.lt (h : FlBox w b f s t) : b < w.heap.size := lt_blk h
theorem FlBox.e (h : FlBox w b f s t) (hE : E w w') : FlBox w' b f s t := (hE.block h.lt).trans h
theorem FlBox.ex {X : Nat → Prop} (h : FlBox w b f s t) (hX : Ex X w w') (hb : ¬ X b) : FlBox w' b f s t := (hX.block b h.lt hb).trans h
theorem FlBox.cells (h : FlBox w b f s t) : FlCells w b 0 f s t := by
  have key := fun k => cell_of_row _ _ k _ _ _ h
  exact ⟨key 0, key 1, key 2, key 3, key 4, key 5, key 6, key 7, key 8, key 9, key 10⟩
theorem FlBox.frz (h : FlBox w b f s t) (k : Nat) : w.frozen? ⟨b, k, none⟩ = false := frozen_of_row _ _ k _ _ h
theorem FlBox.set (h : FlBox w b f s t) (s' t' : Sl) : FlBox ((w.setCell ⟨b, 9, none⟩ (.slice s'.1 s'.2.1 s'.2.2)).setCell ⟨b, 10, none⟩ (.slice t'.1 t'.2.1 t'.2.2)) b f s' t' :=
  heap_setCell_same _ _ 10 _ _ (.slice t'.1 t'.2.1 t'.2.2) (heap_setCell_same _ _ 9 _ _ (.slice s'.1 s'.2.1 s'.2.2) h)
set_option linter.unusedSimpArgs false in
theorem FlBox.putAll {g : Fl} {s0 t0 : Sl} (h : FlBox w b g s0 t0) (f : Fl) (s t : Sl) :
    FlBox (((((((((((w.setCell ⟨b, 0, none⟩ (.int .i64 f.id)).setCell ⟨b, 1, none⟩ (.int .i64 f.step)).setCell ⟨b, 2, none⟩ (.int .i64 f.kind)).setCell ⟨b, 3, none⟩ (.int .i64 f.tick)).setCell ⟨b, 4, none⟩ (.int .i64 f.actor)).setCell ⟨b, 5, none⟩ (.int .i64 f.frm)).setCell ⟨b, 6, none⟩ (.int .i64 f.to)).setCell ⟨b, 7, none⟩ (.int .i64 f.item)).setCell ⟨b, 8, none⟩ (.int .i64 f.n)).setCell ⟨b, 9, none⟩ (.slice s.1 s.2.1 s.2.2)).setCell ⟨b, 10, none⟩ (.slice t.1 t.2.1 t.2.2)) b f s t := by
  have h0 := h
  unfold FlBox at h0
  replace h0 := heap_setCell_same _ _ 0 _ _ (.int .i64 f.id) h0
  simp only [List.setIfInBounds_toArray, List.set_cons_zero, List.set_cons_succ] at h0
  replace h0 := heap_setCell_same _ _ 1 _ _ (.int .i64 f.step) h0
  simp only [List.setIfInBounds_toArray, List.set_cons_zero, List.set_cons_succ] at h0
  replace h0 := heap_setCell_same _ _ 2 _ _ (.int .i64 f.kind) h0
  simp only [List.setIfInBounds_toArray, List.set_cons_zero, List.set_cons_succ] at h0
  replace h0 := heap_setCell_same _ _ 3 _ _ (.int .i64 f.tick) h0
  simp only [List.setIfInBounds_toArray, List.set_cons_zero, List.set_cons_succ] at h0
  replace h0 := heap_setCell_same _ _ 4 _ _ (.int .i64 f.actor) h0
  simp only [List.setIfInBounds_toArray, List.set_cons_zero, List.set_cons_succ] at h0
  replace h0 := heap_setCell_same _ _ 5 _ _ (.int .i64 f.frm) h0
  simp only [List.setIfInBounds_toArray, List.set_cons_zero, List.set_cons_succ] at h0
  replace h0 := heap_setCell_same _ _ 6 _ _ (.int .i64 f.to) h0
  simp only [List.setIfInBounds_toArray, List.set_cons_zero, List.set_cons_succ] at h0
  replace h0 := heap_setCell_same _ _ 7 _ _ (.int .i64 f.item) h0
  simp only [List.setIfInBounds_toArray, List.set_cons_zero, List.set_cons_succ] at h0
  replace h0 := heap_setCell_same _ _ 8 _ _ (.int .i64 f.n) h0
  simp only [List.setIfInBounds_toArray, List.set_cons_zero, List.set_cons_succ] at h0
  replace h0 := heap_setCell_same _ _ 9 _ _ (.slice s.1 s.2.1 s.2.2) h0
  simp only [List.setIfInBounds_toArray, List.set_cons_zero, List.set_cons_succ] at h0
  replace h0 := heap_setCell_same _ _ 10 _ _ (.slice t.1 t.2.1 t.2.2) h0
  simp only [List.setIfInBounds_toArray, List.set_cons_zero, List.set_cons_succ] at h0
  exact h0
theorem FlBox.loadVar (h : FlBox w b f s t) : (loadVar 47 ⟨b, 0, none⟩).run Try.prog w = .ok (flV f s.1 s.2.1 s.2.2 t.1 t.2.1 t.2.2) w := run_loadVar_row w b _ _ _ _ _ h Try.underlying47 rfl (by kernel_rfl)
end
set_option linter.unusedSimpArgs false in
theorem results_cell1 {fn : Func} {t : Tmp} {T : TypeId} (h : fn.results = #[.cell t T]) {tmps : Array Value} {P : Program} {w : World} {b1 : Nat} {v1 : Value} (h1 : tmps.getD t undef = .pointer (some ⟨b1, 0, none⟩))
    (l1 : (loadVar T ⟨b1, 0, none⟩).run P w = .ok v1 w) : (results fn tmps).run P w = .ok v1 w := by
  have h1' : tmps[t]?.getD undef = .pointer (some ⟨b1, 0, none⟩) := by simpa using h1
  simp [results, h, h1', l1, asAddr, Result.andThen]
set_option maxHeartbeats 2000000 in
set_option maxRecDepth 100000 in
theorem copyFlow_c (f : Fl) (A : Option Addr) (n c : Nat) (A' : Option Addr) (n' c' : Nat) (w : World) (hb : FlB w f (A, n, c) (A', n', c')) (hn : n ≤ 1000000) (hn' : n' ≤ 1000000) :
    Calls Try.prog 42 #[flV f A n c A' n' c'] w (RetFl w f) := by
  obtain ⟨w1, hw1⟩ : ∃ w1, w.alloc (.cells #[.int .i64 f.id, .int .i64 f.step, .int .i64 f.kind, .int .i64 f.tick, .int .i64 f.actor, .int .i64 f.frm, .int .i64 f.to, .int .i64 f.item, .int .i64 f.n, .slice A n c, .slice A' n' c'] 47) = w1 := ⟨_, rfl⟩
  have hE1 : E w w1 := by rw [← hw1]; exact (E.refl w).alloc _
  have hz1 : w1.heap.size = w.heap.size + 1 := by rw [← hw1]; simp
  have hb1 : FlBox w1 w.heap.size f (A, n, c) (A', n', c') := by rw [← hw1]; exact FlBox.new w f (A, n, c) (A', n', c')
  obtain ⟨w2, hw2⟩ : ∃ w2, w1.alloc (.cells #[.int .i64 0, .int .i64 0, .int .i64 0, .int .i64 0, .int .i64 0, .int .i64 0, .int .i64 0, .int .i64 0, .int .i64 0, .slice none 0 0, .slice none 0 0] 47) = w2 := ⟨_, rfl⟩
  have hE12 : E w1 w2 := by rw [← hw2]; exact (E.refl w1).alloc _
  have hz2 : w2.heap.size = w.heap.size + 2 := by rw [← hw2, World.size_alloc, hz1]
  have hr2 : FlBox w2 (w.heap.size + 1) zeroFl zS zS := by
    have := FlBox.new w1 zeroFl zS zS
    rw [hz1] at this
    rw [← hw2]; exact this
  have hE2 := hE1.trans hE12
  have HB := Lib.hid (And.intro (hb.1.e hE2) (hb.2.e hE2))
  have HBX := Lib.hid (hb1.e hE12)
  have HRX := Lib.hid hr2
  have HLT := Lib.hid (show w.heap.size < w2.heap.size by omega)
  have HC := Lib.hid (fun W (hE : E w2 W) => show (W.cell? ⟨w.heap.size, 9, none⟩ = some (.slice A n c) ∧ W.cell? ⟨w.heap.size, 10, none⟩ = some (.slice A' n' c')) ∧ W.frozen? ⟨w.heap.size, 9, none⟩ = false ∧ W.frozen? ⟨w.heap.size, 10, none⟩ = false from
    ⟨⟨((HBX.out.e hE).cells).2.2.2.2.2.2.2.2.2.1, ((HBX.out.e hE).cells).2.2.2.2.2.2.2.2.2.2⟩, (HBX.out.e hE).frz 9, (HBX.out.e hE).frz 10⟩)
  unfold flV
  clear hb1 hr2 hb
  go_enter Try.func42, Try.ntmps42
  go_upto_region 1 with fail
  try rw [hw1]
  try rw [hw2]
  clear hw1 hw2
  go_cut [] (fun wx => ∃ Aa na ca Ab nb cb wf, wx = (wf.setCell ⟨w.heap.size, 9, none⟩ (.slice Aa na ca)).setCell ⟨w.heap.size, 10, none⟩ (.slice Ab nb cb) ∧ E w2 wf ∧ OwnL wf w2.heap.size Aa na ca f.parts ∧ Own .i64 3 wf w2.heap.size Ab nb cb f.made ∧ apartS Aa Ab)
  case first =>
    have hEa := (E.refl w2).drew
    obtain ⟨⟨c9, c10⟩, f9, f10⟩ := HC.out _ hEa
    go_region_with (first
      | (go_at_call 74; refine (cloneL_c A n c f.parts _ (HB.out.1.e hEa) hn).mono ?_; rintro e wa ⟨Aa, na, ca, rfl, hOa0, hEb⟩; have hLa := hOa0.ltN; have hOa := hOa0.rebase hEa.le; replace hEa := hEa.trans hEb; (try replace hOb := hOb.e hEb); clear hOa0; obtain ⟨⟨c9, c10⟩, f9, f10⟩ := HC.out _ hEa)
      | (go_at_call 78; refine (cloneI_c A' n' c' f.made _ (HB.out.2.e hEa) (by omega)).mono ?_; rintro e wb ⟨Ab, nb, cb, rfl, hOb0, hEb⟩; have hLb := hOb0.ltN; have hOb := hOb0.rebase hEa.le; replace hEa := hEa.trans hEb; (try replace hOa := hOa.e hEb); clear hOb0; obtain ⟨⟨c9, c10⟩, f9, f10⟩ := HC.out _ hEa))
    all_goals (
      go_wp2_with fail
      go_meet
      refine ⟨Aa, na, ca, Ab, nb, cb, _, rfl, hEa, hOa, hOb, fun b h1 h2 => ?_⟩
      have l1 := hLa b h1
      have l2 := hLb b h2
      omega)
  case rest =>
    obtain ⟨Aa, na, ca, Ab, nb, cb, wf, rfl, hEf, hOa, hOb, hap⟩ := hcut
    have hbx := (HBX.out.e hEf).set (Aa, na, ca) (Ab, nb, cb)
    simp only at hbx
    have hX : Ex (fun i => i = w.heap.size) w2 ((wf.setCell ⟨w.heap.size, 9, none⟩ (.slice Aa na ca)).setCell ⟨w.heap.size, 10, none⟩ (.slice Ab nb cb)) := ((Ex.of_e (X := fun i => i = w.heap.size) hEf).setCell ⟨w.heap.size, 9, none⟩ (.inr rfl) _).setCell ⟨w.heap.size, 10, none⟩ (.inr rfl) _
    have hXf : Ex (fun i => i = w.heap.size) wf ((wf.setCell ⟨w.heap.size, 9, none⟩ (.slice Aa na ca)).setCell ⟨w.heap.size, 10, none⟩ (.slice Ab nb cb)) := ((Ex.refl (fun i => i = w.heap.size) wf).setCell ⟨w.heap.size, 9, none⟩ (.inr rfl) _).setCell ⟨w.heap.size, 10, none⟩ (.inr rfl) _
    have hrx : FlBox _ (w.heap.size + 1) zeroFl zS zS := HRX.out.ex hX (by omega)
    have hOa' := hOa.ex hXf (fun b hb e => by have := (hOa.ltN b hb).1; have := HLT.out; omega)
    have hOb' := hOb.ex hXf (fun b hb e => by have := (hOb.ltN b hb).1; have := HLT.out; omega)
    generalize (wf.setCell ⟨w.heap.size, 9, none⟩ (.slice Aa na ca)).setCell ⟨w.heap.size, 10, none⟩ (.slice Ab nb cb) = w5 at *
    have HBX5 := Lib.hid hbx
    have HRX5 := Lib.hid hrx
    have HO5 := Lib.hid (And.intro hOa' (And.intro hOb' hap))
    obtain ⟨b0, b1, b2, b3, b4, b5, b6, b7, b8, b9, b10⟩ := hbx.cells
    obtain ⟨r0, r1, r2, r3, r4, r5, r6, r7, r8, r9, r10⟩ := hrx.cells
    have z0 := hrx.frz 0
    have z1 := hrx.frz 1
    have z2 := hrx.frz 2
    have z3 := hrx.frz 3
    have z4 := hrx.frz 4
    have z5 := hrx.frz 5
    have z6 := hrx.frz 6
    have z7 := hrx.frz 7
    have z8 := hrx.frz 8
    have z9 := hrx.frz 9
    have z10 := hrx.frz 10
    simp only [Nat.zero_add] at b1 b2 b3 b4 b5 b6 b7 b8 b9 b10 r1 r2 r3 r4 r5 r6 r7 r8 r9 r10
    clear hbx hrx hOa hOb hOa' hOb' hXf hap
    go_wp2_with fail
    have hfin := HRX5.out.putAll f (Aa, na, ca) (Ab, nb, cb)
    simp only at hfin
    have hXr : Ex (fun i => i = w.heap.size + 1) w5 _ := (((((((((((Ex.refl (fun i => i = w.heap.size + 1) w5).setCell ⟨w.heap.size + 1, 0, none⟩ (.inr rfl) (.int .i64 f.id)).setCell ⟨w.heap.size + 1, 1, none⟩ (.inr rfl) (.int .i64 f.step)).setCell ⟨w.heap.size + 1, 2, none⟩ (.inr rfl) (.int .i64 f.kind)).setCell ⟨w.heap.size + 1, 3, none⟩ (.inr rfl) (.int .i64 f.tick)).setCell ⟨w.heap.size + 1, 4, none⟩ (.inr rfl) (.int .i64 f.actor)).setCell ⟨w.heap.size + 1, 5, none⟩ (.inr rfl) (.int .i64 f.frm)).setCell ⟨w.heap.size + 1, 6, none⟩ (.inr rfl) (.int .i64 f.to)).setCell ⟨w.heap.size + 1, 7, none⟩ (.inr rfl) (.int .i64 f.item)).setCell ⟨w.heap.size + 1, 8, none⟩ (.inr rfl) (.int .i64 f.n)).setCell ⟨w.heap.size + 1, 9, none⟩ (.inr rfl) (.slice Aa na ca)).setCell ⟨w.heap.size + 1, 10, none⟩ (.inr rfl) (.slice Ab nb cb)
    refine bodyPost_ret (results_cell1 rfl rfl hfin.loadVar) rfl ?_
    obtain ⟨o1, o2, hap⟩ := HO5.out
    have hlt := HLT.out
    refine ⟨Aa, na, ca, Ab, nb, cb, rfl, (o1.ex hXr (fun b hb e => by have := (o1.ltN b hb).1; omega)).rebase (by omega), (o2.ex hXr (fun b hb e => by have := (o2.ltN b hb).1; omega)).rebase (by omega), hap, ?_⟩
    exact ((Ex.of_e (X := fun i => i = w.heap.size ∨ i = w.heap.size + 1) hE2).trans (hX.trans hXr (Z := fun i => i = w.heap.size ∨ i = w.heap.size + 1) (fun _ _ x => .inl x) (fun _ _ x => .inr x)) (fun _ _ x => x) (fun _ _ x => x)).e (fun i hi => by rcases hi with h | h <;> omega)
end Go.Proofs.Ytmeplpiamkaniaa
/- copies.Each. -/
namespace Go.Proofs.Ytmeplpiamkaniaa
set_option linter.unusedVariables false
set_option linter.unusedSimpArgs false
open Go.RowKit Go.Shelf

theorem E.set11 {a w : World} (h : E a w) {g : Nat} (hg : a.heap.size ≤ g) (o : Nat) (f : Fl) (s t : Sl) : E a (((((((((((w.setCell ⟨g, o, none⟩ (.int .i64 f.id)).setCell ⟨g, o + 1, none⟩ (.int .i64 f.step)).setCell ⟨g, o + 2, none⟩ (.int .i64 f.kind)).setCell ⟨g, o + 3, none⟩ (.int .i64 f.tick)).setCell ⟨g, o + 4, none⟩ (.int .i64 f.actor)).setCell ⟨g, o + 5, none⟩ (.int .i64 f.frm)).setCell ⟨g, o + 6, none⟩ (.int .i64 f.to)).setCell ⟨g, o + 7, none⟩ (.int .i64 f.item)).setCell ⟨g, o + 8, none⟩ (.int .i64 f.n)).setCell ⟨g, o + 9, none⟩ (.slice s.1 s.2.1 s.2.2)).setCell ⟨g, o + 10, none⟩ (.slice t.1 t.2.1 t.2.2)) :=
  ((((((((((h.setCell (p := ⟨g, o, none⟩) hg (.int .i64 f.id)).setCell (p := ⟨g, o + 1, none⟩) hg (.int .i64 f.step)).setCell (p := ⟨g, o + 2, none⟩) hg (.int .i64 f.kind)).setCell (p := ⟨g, o + 3, none⟩) hg (.int .i64 f.tick)).setCell (p := ⟨g, o + 4, none⟩) hg (.int .i64 f.actor)).setCell (p := ⟨g, o + 5, none⟩) hg (.int .i64 f.frm)).setCell (p := ⟨g, o + 6, none⟩) hg (.int .i64 f.to)).setCell (p := ⟨g, o + 7, none⟩) hg (.int .i64 f.item)).setCell (p := ⟨g, o + 8, none⟩) hg (.int .i64 f.n)).setCell (p := ⟨g, o + 9, none⟩) hg (.slice s.1 s.2.1 s.2.2)).setCell (p := ⟨g, o + 10, none⟩) hg (.slice t.1 t.2.1 t.2.2)
theorem FRow.frz {w : World} {base g n c : Nat} {q : List FlSl} (h : FRow w base (some ⟨g, 0, none⟩) n c q) (k : Nat) : w.frozen? ⟨g, k, none⟩ = false := by
  rcases h.2.1.2 with ⟨hv, _⟩ | ⟨g', cap, cur, hv, hb, hh, r⟩
  · injection hv with e1; cases e1
  · have := sl_inj hv
    subst this
    exact frozen_of_row _ _ k _ _ hh
/-- the flows' slices lie from block base on -/
def SlFrom (base : Nat) (q : List FlSl) : Prop := ∀ p ∈ q, (∀ b, ob p.2.1.1 = some b → base ≤ b) ∧ (∀ b, ob p.2.2.1 = some b → base ≤ b)
set_option maxHeartbeats 2000000 in
set_option maxRecDepth 100000 in
theorem each_c (A : Option Addr) (n c : Nat) (fs : List Fl) (w : World) (h : FlowsAt w A n c fs) (hn : n ≤ 100000) (hsm : ∀ f ∈ fs, f.parts.length ≤ 1000000 ∧ f.made.length ≤ 1000000) :
    Calls Try.prog 41 #[.slice A n c, .func (.func 42) #[] #[]] w (fun e w' => ∃ A' c' q, e = .returned (.slice A' n c') ∧ FRow w' w.heap.size A' n c' q ∧ q.map Prod.fst = fs ∧ SlFrom w.heap.size q ∧ E w w') := by
  have hm := h.n63
  have HL := Lib.hid h.len
  have HSM := Lib.hid hsm
  have hcall := Try.call42
  clear hsm
  by_cases h0 : n = 0
  · subst h0
    have HF := Lib.hid (show ([] : List FlSl).map Prod.fst = fs from (List.eq_nil_of_length_eq_zero HL.out).symm)
    go_enter Try.func41, Try.ntmps41
    go_wp2_with fail
    go_ret
    exact ⟨none, 0, [], rfl, FRow.nil _ _, HF.out, (fun p hp => by cases hp), E.refl _⟩
  · have hd0 : ((n : Int) == 0) = false := by simp; omega
    go_enter Try.func41, Try.ntmps41
    go_wp2_with (refine wpList_mkF _ rfl _ _ rfl .i64 .i64 _ _ n rfl rfl rfl rfl (by omega) ?_; intro w1 hR1 hE1 hz1)
    go_loopw [16] (fun ti wr => ∃ (k : Nat) (q : List FlSl), k ≤ n ∧ ti = .int .i64 k ∧ FRow wr w.heap.size (some ⟨w.heap.size, 0, none⟩) n n q ∧ Hid ((q.map Prod.fst).take k = fs.take k) ∧ Hid (SlFrom w.heap.size q) ∧ E w wr) (fun ti _ => n - (intOf ti).toNat)
    case atStart => exact ⟨0, _, Nat.zero_le _, rfl, hR1, show _ = _ by simp, fun p hp => by rw [List.eq_of_mem_replicate hp]; exact ⟨fun b h => (by cases h), fun b h => (by cases h)⟩, hE1⟩
    case round =>
      clear hR1 hE1 hz1
      obtain ⟨k, q, hk, rfl, hR, hq, hS, hE⟩ := hrel
      by_cases hlt : k < n
      · obtain ⟨b, o, f, s, t, rfl, hb, hf, hwf, hc, hB⟩ := (h.e hE).get hlt
        have hkI : (k : Int) < (n : Int) := by omega
        have hf1 := HSM.out f (List.mem_of_getElem? hf)
        have hs1 := hB.1.len
        have ht1 := hB.2.len
        have HKQ := Lib.hid (show ∀ s' t', ((q.set k (f, s', t')).map Prod.fst).take (k + 1) = fs.take (k + 1) from fun s' t' => by
          rw [List.map_set, List.take_add_one, List.take_add_one, hf]
          congr 1
          · rw [List.take_set_of_le (Nat.le_refl _)]; exact hq.out
          · rw [List.getElem?_set_self (by rw [List.length_map, hR.1]; exact hlt)])
        have HSN := Lib.hid (show ∀ s' t' : Sl, (∀ b, ob s'.1 = some b → w.heap.size ≤ b) → (∀ b, ob t'.1 = some b → w.heap.size ≤ b) → SlFrom w.heap.size (q.set k (f, s', t')) from fun s' t' h1 h2 p hp => by
          rcases List.mem_or_eq_of_mem_set hp with hp | rfl
          · exact hS.out p hp
          · exact ⟨h1, h2⟩)
        obtain ⟨W, hW⟩ : ∃ W, wr.alloc (.cells #[.int .i64 f.id, .int .i64 f.step, .int .i64 f.kind, .int .i64 f.tick, .int .i64 f.actor, .int .i64 f.frm, .int .i64 f.to, .int .i64 f.item, .int .i64 f.n, .slice s.1 s.2.1 s.2.2, .slice t.1 t.2.1 t.2.2] 47) = W := ⟨_, rfl⟩
        have hEW : E wr W := by rw [← hW]; exact (E.refl wr).alloc _
        have HEW := Lib.hid hEW
        have HBX := Lib.hid (show FlBox W wr.heap.size f s t by rw [← hW]; exact FlBox.new wr f s t)
        have HC := Lib.hid (copyFlow_c f s.1 s.2.1 s.2.2 t.1 t.2.1 t.2.2 W (hB.e hEW) (by omega) (by omega))
        have HR := Lib.hid hR
        have HE := Lib.hid hE
        have HWF := Lib.hid hwf
        unfold FlCells at hc
        obtain ⟨c0, c1, c2, c3, c4, c5, c6, c7, c8, c9, c10⟩ := hc
        have hgl := (hR.ltN _ rfl).2
        unfold flV at HC
        clear hf hq hS hR hB hE hwf hEW
        go_upto_region 7 with fail
        try rw [hW]
        clear hW c0 c1 c2 c3 c4 c5 c6 c7 c8 c9 c10
        obtain ⟨b0, b1, b2, b3, b4, b5, b6, b7, b8, b9, b10⟩ := HBX.out.cells
        simp only [Nat.zero_add] at b1 b2 b3 b4 b5 b6 b7 b8 b9 b10
        obtain ⟨p0, hp0⟩ : ∃ p0, q[k]? = some p0 := ⟨q[k]'(by rw [HR.out.1]; exact hlt), List.getElem?_eq_getElem _⟩
        have HP0 := Lib.hid hp0
        clear hp0
        go_wp2_with (refine HC.out.mono ?_; rintro e w5 ⟨A5, n5, c5, A6, n6, c6, rfl, hO5, hO6, hap5, hE5⟩; have hR5 := HR.out.e (HEW.out.trans hE5); obtain ⟨r0, r1, r2, r3, r4, r5, r6, r7, r8, r9, r10⟩ := hR5.cells HP0.out; unfold flV; have z0 := hR5.frz (k * 11); have z1 := hR5.frz (k * 11 + 1); have z2 := hR5.frz (k * 11 + 2); have z3 := hR5.frz (k * 11 + 3); have z4 := hR5.frz (k * 11 + 4); have z5 := hR5.frz (k * 11 + 5); have z6 := hR5.frz (k * 11 + 6); have z7 := hR5.frz (k * 11 + 7); have z8 := hR5.frz (k * 11 + 8); have z9 := hR5.frz (k * 11 + 9); have z10 := hR5.frz (k * 11 + 10))
        have hlt2 : k < n := hlt
        have hle := HEW.out.le
        have hEf := (HE.out.trans (HEW.out.trans hE5)).set11 (g := w.heap.size) (Nat.le_refl _) (k * 11) f (A5, n5, c5) (A6, n6, c6)
        have hwE := HE.out.le
        have hne5 : 0 < n5 → ob A5 ≠ some w.heap.size := fun _ e => by have := (hO5.ltN _ e).1; omega
        have hne6 : 0 < n6 → ob A6 ≠ some w.heap.size := fun _ e => by have := (hO6.ltN _ e).1; omega
        have hRf := hR5.put hlt2 (f, (A5, n5, c5), (A6, n6, c6)) HWF.out ⟨hO5.reads, hO6.reads⟩ hne5 hne6
        have hS5 := HSN.out (A5, n5, c5) (A6, n6, c6) (fun b hb => by have := (hO5.ltN b hb).1; omega) (fun b hb => by have := (hO6.ltN b hb).1; omega)
        simp only at hEf hRf
        first
          | exact ⟨⟨k + 1, _, by omega, by go_num, hRf, HKQ.out (A5, n5, c5) (A6, n6, c6), hS5, hEf⟩, by simp [intOf]; omega⟩
          | (go_roundw
             case rel => exact ⟨k + 1, _, by omega, by go_num, hRf, HKQ.out (A5, n5, c5) (A6, n6, c6), hS5, hEf⟩
             case measure => simp [intOf]; omega)
      · have HF := Lib.hid (show q.map Prod.fst = fs by
          have h1 := hq.out
          rw [List.take_of_length_le (by rw [List.length_map, hR.1]; omega), List.take_of_length_le (by rw [HL.out]; omega)] at h1
          exact h1)
        go_wp2_with fail
        go_ret
        exact ⟨_, n, q, rfl, hR, HF.out, hS.out, hE⟩
end Go.Proofs.Ytmeplpiamkaniaa
/- The order of the flows, plain: how it is found (users, what is missing), and that it is whole exactly if there is a rank. -/
namespace Go.Proofs.Ytmeplpiamkaniaa
set_option linter.unusedVariables false
set_option linter.unusedSimpArgs false

abbrev Ed := Nat × Nat
/-- who refers to p -/
def us (E : List Ed) (p : Nat) : List Nat := (E.filter fun e => e.2 == p).map Prod.fst
def misN (E : List Ed) (i : Nat) : Nat := E.countP fun e => e.1 == i
/-- how many references of i are to places outside D -/
def remN (E : List Ed) (D : List Nat) (i : Nat) : Nat := E.countP fun e => e.1 == i && !D.contains e.2
theorem us_app (E : List Ed) (e : Ed) (p : Nat) : us (E ++ [e]) p = if e.2 = p then us E p ++ [e.1] else us E p := by
  unfold us
  rw [List.filter_append]
  by_cases h : e.2 = p
  · rw [if_pos h]; simp [h]
  · rw [if_neg h]; simp [h]
theorem misN_app (E : List Ed) (e : Ed) (i : Nat) : misN (E ++ [e]) i = if e.1 = i then misN E i + 1 else misN E i := by
  unfold misN
  rw [List.countP_append]
  by_cases h : e.1 = i
  · rw [if_pos h]; simp [h]
  · rw [if_neg h]; simp [h]
theorem remN_nil (E : List Ed) (i : Nat) : remN E [] i = misN E i := by simp [remN, misN]
theorem remN_snoc (E : List Ed) (D : List Nat) (p i : Nat) (hp : p ∉ D) : remN E D i = remN E (D ++ [p]) i + (us E p).count i := by
  induction E with
  | nil => rfl
  | cons e E ih =>
    have hu : us (e :: E) p = if e.2 = p then e.1 :: us E p else us E p := by
      unfold us
      by_cases h : e.2 = p
      · rw [if_pos h]; simp [h]
      · rw [if_neg h]; simp [h]
    have h1 : ∀ D, remN (e :: E) D i = remN E D i + if (e.1 == i && !D.contains e.2) = true then 1 else 0 := fun D => by unfold remN; rw [List.countP_cons]
    rw [h1, h1, ih, hu]
    by_cases h : e.2 = p
    · rw [if_pos h, List.count_cons]
      have c1 : D.contains e.2 = false := by rw [h]; simpa using hp
      have c2 : (D ++ [p]).contains e.2 = true := by rw [h]; simp
      rw [c1, c2]
      by_cases h2 : e.1 = i
      · simp [h2]; omega
      · simp [h2]
    · rw [if_neg h]
      have c2 : (D ++ [p]).contains e.2 = D.contains e.2 := by
        rw [Bool.eq_iff_iff]; simp [h]
      rw [c2]
      omega
theorem remN_zero {E : List Ed} {D : List Nat} {i : Nat} : remN E D i = 0 ↔ ∀ p, (i, p) ∈ E → p ∈ D := by
  rw [remN, List.countP_eq_zero]
  constructor
  · intro h p hp
    have := h _ hp
    simpa using this
  · rintro h ⟨a, p⟩ he
    simp only [Bool.and_eq_true, beq_iff_eq, Bool.not_eq_true', not_and]
    rintro rfl
    have := h p he
    simp [this]
theorem pre_count {l : List Nat} (j i : Nat) : (l.take j).count i ≤ l.count i := List.Sublist.count_le _ (List.take_sublist _ _)
theorem nodup_lenN {l : List Nat} {n : Nat} (hn : l.Nodup) (hlt : ∀ x ∈ l, x < n) : l.length ≤ n := by
  induction n generalizing l with
  | zero =>
    cases l with
    | nil => exact Nat.le_refl _
    | cons a l => have := hlt a List.mem_cons_self; omega
  | succ n ih =>
    have h1 := ih (l := l.erase n) (hn.erase n) (fun x hx => by
      have h2 := (hn.mem_erase_iff.1 hx)
      have := hlt x h2.2
      omega)
    by_cases hm : n ∈ l
    · have := List.length_erase_of_mem hm
      omega
    · rw [List.erase_of_not_mem hm] at h1
      omega
/-- all of them, if as many -/
theorem nodup_all {l : List Nat} {n : Nat} (hn : l.Nodup) (hlt : ∀ x ∈ l, x < n) (hl : l.length = n) : ∀ x, x < n → x ∈ l := by
  intro x hx
  apply Classical.byContradiction
  intro hm
  have := nodup_lenN (l := x :: l) (n := n) (List.nodup_cons.2 ⟨hm, hn⟩) (fun y hy => by
    rcases List.mem_cons.1 hy with rfl | hy
    · exact hx
    · exact hlt y hy)
  rw [List.length_cons] at this
  omega
structure KSt (n : Nat) (E : List Ed) (at_ : Nat) (pre ord : List Nat) (ms : List Int) : Prop where
  nd : ord.Nodup
  lt : ∀ i ∈ ord, i < n
  le : at_ ≤ ord.length
  ln : ms.length = n
  ms : ∀ i, i < n → pre.count i ≤ remN E (ord.take at_) i ∧ ms[i]? = some (((remN E (ord.take at_) i - pre.count i : Nat)) : Int)
  mem : ∀ i, i < n → (i ∈ ord ↔ remN E (ord.take at_) i - pre.count i = 0)
  topo : ∀ k i, ord[k]? = some i → ∀ p, (i, p) ∈ E → p ∈ ord.take k
section
variable {n : Nat} {E : List Ed} {at_ : Nat} {pre ord : List Nat} {ms : List Int}
theorem take_stay {α : Type} (l : List α) (x : α) {k : Nat} (h : k ≤ l.length) : (l ++ [x]).take k = l.take k := by
  rw [List.take_append_of_le_length h]
/-- at the start: no place has been taken; all flows without references are in the order -/
theorem KSt.start (n : Nat) (E : List Ed) {ms : List Int} (h1 : ms.length = n) (h2 : ∀ i, i < n → ms[i]? = some ((misN E i : Nat) : Int)) : KSt n E 0 [] ((List.range n).filter fun i => misN E i == 0) ms := by
  refine ⟨List.Pairwise.filter _ List.nodup_range, fun i hi => ?_, Nat.zero_le _, h1, fun i hi => ?_, fun i hi => ?_, fun k i hk p hp => ?_⟩
  · exact List.mem_range.1 (List.mem_filter.1 hi).1
  · refine ⟨by simp, ?_⟩
    rw [List.take_zero, remN_nil]; simpa using h2 i hi
  · rw [List.take_zero, remN_nil]
    simp [hi]
  · have h := List.mem_filter.1 (List.mem_of_getElem? hk)
    have h0 : misN E i = 0 := by simpa using h.2
    rw [← remN_nil] at h0
    have := remN_zero.1 h0 p hp
    cases this
/-- one user of the place at hand loses a reference -/
theorem KSt.user (h : KSt n E at_ pre ord ms) {p i j : Nat} (hp : ord[at_]? = some p) (hpre : pre = (us E p).take j) (hi : (us E p)[j]? = some i) (hin : i < n) :
    ∃ r : Nat, ms[i]? = some ((r : Int) + 1) ∧ i ∉ ord ∧
      KSt n E at_ ((us E p).take (j + 1)) (if r = 0 then ord ++ [i] else ord) (ms.set i (r : Int)) := by
  have hat : at_ < ord.length := (List.getElem?_eq_some_iff.1 hp).1
  have hpn : p ∉ ord.take at_ := by
    intro hm
    obtain ⟨k, hk⟩ := List.getElem?_of_mem hm
    rw [List.getElem?_take] at hk
    split at hk
    · rename_i hlt
      have e1 := (List.getElem?_eq_some_iff.1 hk).2
      have e2 := (List.getElem?_eq_some_iff.1 hp).2
      have := (List.getElem_inj h.nd).1 (e1.trans e2.symm)
      omega
    · cases hk
  have hrem := remN_snoc E (ord.take at_) p i hpn
  have htk : (us E p).take (j + 1) = pre ++ [i] := by rw [hpre, List.take_add_one, hi]; rfl
  have hcnt : (pre ++ [i]).count i ≤ (us E p).count i := by rw [← htk]; exact pre_count _ _
  rw [List.count_append, List.count_singleton_self] at hcnt
  obtain ⟨m1, m2⟩ := h.ms i hin
  obtain ⟨r, hr⟩ : ∃ r, remN E (ord.take at_) i - pre.count i = r + 1 := ⟨remN E (ord.take at_) i - pre.count i - 1, by omega⟩
  rw [hr] at m2
  have hno : i ∉ ord := fun hm => by have := (h.mem i hin).1 hm; omega
  refine ⟨r, by simpa using m2, hno, ?_⟩
  rw [htk]
  have hcount : ∀ x, (pre ++ [i]).count x = pre.count x + if x = i then 1 else 0 := fun x => by
    rw [List.count_append]
    congr 1
    by_cases e : x = i
    · subst e; simp
    · rw [if_neg e, List.count_eq_zero]; simpa using e
  have hord : (if r = 0 then ord ++ [i] else ord).take at_ = ord.take at_ := by
    split
    · exact take_stay _ _ h.le
    · rfl
  refine ⟨?_, ?_, ?_, by rw [List.length_set]; exact h.ln, ?_, ?_, ?_⟩
  · split
    · exact List.nodup_append.2 ⟨h.nd, by simp, fun a ha b hb e => by rw [List.mem_singleton] at hb; subst hb; subst e; exact hno ha⟩
    · exact h.nd
  · intro x hx
    split at hx
    · rcases List.mem_append.1 hx with hx | hx
      · exact h.lt x hx
      · rw [List.mem_singleton] at hx; subst hx; exact hin
    · exact h.lt x hx
  · split
    · rw [List.length_append]; have := h.le; omega
    · exact h.le
  · intro x hx
    rw [hord, hcount]
    by_cases e : x = i
    · subst e
      rw [if_pos rfl]
      refine ⟨by omega, ?_⟩
      rw [List.getElem?_set_self (by rw [h.ln]; exact hx)]
      congr 2; omega
    · rw [if_neg e, List.getElem?_set_ne (fun e' => e e'.symm)]
      exact h.ms x hx
  · intro x hx
    rw [hord, hcount]
    by_cases e : x = i
    · subst e
      rw [if_pos rfl]
      by_cases hr0 : r = 0
      · rw [if_pos hr0]
        simp; omega
      · rw [if_neg hr0]
        exact ⟨fun hm => absurd hm hno, fun h0 => by omega⟩
    · rw [if_neg e]
      have := h.mem x hx
      split
      · rw [List.mem_append, List.mem_singleton]
        simp only [e, or_false]
        exact this
      · exact this
  · intro k x hk q hq
    by_cases hr0 : r = 0
    · rw [if_pos hr0] at hk ⊢
      rcases Nat.lt_trichotomy k ord.length with hlt | heq | hgt
      · rw [List.getElem?_append_left hlt] at hk
        rw [take_stay _ _ (Nat.le_of_lt hlt)]
        exact h.topo k x hk q hq
      · subst heq
        rw [List.getElem?_append_right (Nat.le_refl _)] at hk
        simp at hk
        subst hk
        rw [take_stay _ _ (Nat.le_refl _), List.take_length]
        have h0 : remN E (ord.take at_ ++ [p]) i = 0 := by omega
        have := remN_zero.1 h0 q hq
        rcases List.mem_append.1 this with hm | hm
        · exact List.mem_of_mem_take hm
        · rw [List.mem_singleton] at hm; subst hm; exact List.mem_of_getElem? hp
      · rw [List.getElem?_eq_none (by rw [List.length_append, List.length_singleton]; omega)] at hk
        cases hk
    · rw [if_neg hr0] at hk ⊢
      exact h.topo k x hk q hq
/-- all users of the place at hand are through -/
theorem KSt.next (h : KSt n E at_ pre ord ms) {p : Nat} (hp : ord[at_]? = some p) (hpre : pre = us E p) : KSt n E (at_ + 1) [] ord ms := by
  have hat : at_ < ord.length := (List.getElem?_eq_some_iff.1 hp).1
  have hpn : p ∉ ord.take at_ := by
    intro hm
    obtain ⟨k, hk⟩ := List.getElem?_of_mem hm
    rw [List.getElem?_take] at hk
    split at hk
    · rename_i hlt
      have e1 := (List.getElem?_eq_some_iff.1 hk).2
      have e2 := (List.getElem?_eq_some_iff.1 hp).2
      have := (List.getElem_inj h.nd).1 (e1.trans e2.symm)
      omega
    · cases hk
  have ht : ord.take (at_ + 1) = ord.take at_ ++ [p] := by rw [List.take_add_one, hp]; rfl
  have hrem := fun i => remN_snoc E (ord.take at_) p i hpn
  refine ⟨h.nd, h.lt, hat, h.ln, fun i hi => ⟨by simp, ?_⟩, fun i hi => ?_, h.topo⟩
  · have h1 := hrem i
    rw [(h.ms i hi).2, ht, hpre]
    congr 2
    simp only [List.count_nil]; omega
  · have h1 := hrem i
    rw [h.mem i hi, ht, hpre]
    simp only [List.count_nil]; omega
theorem KSt.max (h : KSt n E at_ pre ord ms) : ord.length ≤ n := by
  exact nodup_lenN h.nd h.lt
end
/-- the references, as pairs of places -/
def EdOf (fs : List Fl) (E : List Ed) : Prop := ∀ i p, (i, p) ∈ E ↔ ∃ f, fs[i]? = some f ∧ ∃ j ∈ refsF f, posF fs j = some p
/-- an order of the places: each comes after those to which it refers -/
structure Topo (fs : List Fl) (ord : List Nat) : Prop where
  nd : ord.Nodup
  lt : ∀ i ∈ ord, i < fs.length
  ln : ord.length = fs.length
  topo : ∀ k i f, ord[k]? = some i → fs[i]? = some f → ∀ j ∈ refsF f, ∃ p, posF fs j = some p ∧ p ∈ ord.take k
theorem pos_some {fs : List Fl} {j : Int} {q : Fl} (h : getF fs j = some q) : ∃ p, posF fs j = some p := by
  cases hp : posF fs j with
  | none => rw [posF_none.1 hp] at h; cases h
  | some p => exact ⟨p, rfl⟩
theorem KSt.topoF {fs : List Fl} {E : List Ed} {ord : List Nat} {ms : List Int} (hE : EdOf fs E) (hr : ∀ f ∈ fs, ∀ j ∈ refsF f, ∃ q, getF fs j = some q) (h : KSt fs.length E ord.length [] ord ms) (hl : ord.length = fs.length) : Topo fs ord := by
  refine ⟨h.nd, h.lt, hl, fun k i f hk hf j hj => ?_⟩
  obtain ⟨q, hq⟩ := hr f (List.mem_of_getElem? hf) j hj
  obtain ⟨p, hp⟩ := pos_some hq
  exact ⟨p, hp, h.topo k i hk p ((hE i p).2 ⟨f, hf, j, hj, hp⟩)⟩
theorem Topo.ranked {fs : List Fl} {ord : List Nat} (h : Topo fs ord) (hi : Ids fs) : Ranked fs := by
  refine ⟨fun j => ((posF fs j).map fun p => ord.idxOf p).getD 0, fun f hf j hj => ?_⟩
  obtain ⟨i, hfi⟩ := List.getElem?_of_mem hf
  have hlt : i < fs.length := (List.getElem?_eq_some_iff.1 hfi).1
  have him := nodup_all h.nd h.lt h.ln i hlt
  obtain ⟨k, hk⟩ := List.getElem?_of_mem him
  obtain ⟨p, hp, hpt⟩ := h.topo k i f hk hfi j hj
  simp only [hp, (hi.get hfi).1, Option.map_some, Option.getD_some]
  have e1 : ord.idxOf i = k := by
    have h1 := (List.getElem?_eq_some_iff.1 hk)
    obtain ⟨hkl, hke⟩ := h1
    rw [← hke]
    exact h.nd.idxOf_getElem k hkl
  rw [e1]
  obtain ⟨m, hm⟩ := List.getElem?_of_mem hpt
  rw [List.getElem?_take] at hm
  split at hm
  · rename_i hmk
    obtain ⟨hml, hme⟩ := List.getElem?_eq_some_iff.1 hm
    have : ord.idxOf p = m := by rw [← hme]; exact h.nd.idxOf_getElem m hml
    omega
  · cases hm
/-- an order that is not whole: there is no rank -/
theorem KSt.cyclic {fs : List Fl} {E : List Ed} {ord : List Nat} {ms : List Int} (hE : EdOf fs E) (hi : Ids fs) (h : KSt fs.length E ord.length [] ord ms) (hl : ord.length ≠ fs.length) : ¬ Ranked fs := by
  rintro ⟨rk, hrk⟩
  have key : ∀ (m i : Nat) (f : Fl), fs[i]? = some f → rk f.id < m → i ∈ ord := by
    intro m
    induction m with
    | zero => intro i f _ h; omega
    | succ m ih =>
      intro i f hf hlt
      have hin : i < fs.length := (List.getElem?_eq_some_iff.1 hf).1
      rw [h.mem i hin]
      rw [List.take_length, List.count_nil, Nat.sub_zero, remN_zero]
      intro p hp
      obtain ⟨f', hf', j, hj, hjp⟩ := (hE i p).1 hp
      rw [hf] at hf'
      injection hf' with hf'
      subst hf'
      obtain ⟨g, hg, _, hgj⟩ := posF_some hjp
      have := hrk f (List.mem_of_getElem? hf) j hj
      exact ih p g hg (by rw [hgj]; omega)
  have hall : ∀ i, i < fs.length → i ∈ ord := fun i hi => key _ i fs[i] (List.getElem?_eq_getElem hi) (Nat.lt_succ_self _)
  have h1 := ((List.perm_ext_iff_of_nodup h.nd (List.nodup_range (n := fs.length))).2 (fun x => by
    rw [List.mem_range]
    exact ⟨fun hx => h.lt x hx, fun hx => hall x hx⟩)).length_eq
  rw [List.length_range] at h1
  exact hl h1
end Go.Proofs.Ytmeplpiamkaniaa
/- The range of a byte. -/
namespace Go.Proofs.Ytmeplpiamkaniaa
set_option linter.unusedVariables false
set_option linter.unusedSimpArgs false
open Go.RowKit
theorem wf_u8 {x : Int} (h : (Lit.int .u8 x).wf = true) : 0 ≤ x ∧ x ≤ 255 := by
  have h' : IntKind.u8.min ≤ x ∧ x ≤ IntKind.u8.max := by simpa [Lit.wf] using h
  have e : IntKind.u8.min = 0 := by decide
  have e2 : IntKind.u8.max = 255 := by decide
  rw [e, e2] at h'; exact h'
end Go.Proofs.Ytmeplpiamkaniaa
/- hash.mix and the iterator of the words of a byte slice. -/
namespace Go.Proofs.Ytmeplpiamkaniaa
set_option linter.unusedVariables false
set_option linter.unusedSimpArgs false
open Go.RowKit Go.Shelf
attribute [local go_sem] Oper.semAt_some

def mulF (a b : Int) : Int := IntKind.u64.wrap (bits .xor .u64 a b * 11400714819323198485)
def mixV (a b : Int) : Int := bits .xor .u64 (mulF a b) (mulF a b / 4294967296)
theorem wrapU_range (x : Int) : 0 ≤ IntKind.u64.wrap x ∧ IntKind.u64.wrap x ≤ 18446744073709551615 := by rw [IntKind.wrap_u64]; omega
theorem mulF_range (a b : Int) : 0 ≤ mulF a b ∧ mulF a b ≤ 18446744073709551615 := wrapU_range _
theorem bits_range (op : BinOp) (a b : Int) (h : op = .xor ∨ op = .or) : 0 ≤ bits op .u64 a b ∧ bits op .u64 a b ≤ 18446744073709551615 := by
  rcases h with rfl | rfl
  · exact wrapU_range _
  · exact wrapU_range _
theorem mixV_range (a b : Int) : 0 ≤ mixV a b ∧ mixV a b ≤ 18446744073709551615 := bits_range .xor _ _ (.inl rfl)

set_option maxHeartbeats 400000 in
theorem mix_c (a b : Int) (w : World) : Calls Try.prog 124 #[.int .u64 a, .int .u64 b] w fun e w' => e = .returned (.int .u64 (mixV a b)) ∧ w = w' := by
  obtain ⟨m, hm⟩ : ∃ m, IntKind.u64.wrap (bits .xor .u64 a b * 11400714819323198485) = m := ⟨_, rfl⟩
  have hr := wrapU_range (bits .xor .u64 a b * 11400714819323198485)
  rw [hm] at hr
  obtain ⟨m0, m1⟩ := hr
  have HM := Lib.hid (show mixV a b = bits .xor .u64 m (m / 4294967296) by rw [mixV, mulF, hm])
  generalize mixV a b = v at *
  go_enter Try.func124, Try.ntmps124
  go_wp2
  go_ret
  exact ⟨ret_int HM.out.symm, rfl⟩

/-- a word out of bytes, the first the lowest -/
def wordF (acc : Int) (i : Nat) : List Int → Int
  | [] => acc
  | c :: r => wordF (bits .or .u64 acc (IntKind.u64.wrap (c * 2 ^ (8 * i)))) (i + 1) r
def wordAt (bs : List Int) (k : Nat) : Int := wordF 0 0 ((bs.drop (8 * k)).take 8)
def nWords (n : Nat) : Nat := (n + 7) / 8
def wordsL (bs : List Int) : List Int := (List.range (nWords bs.length)).map (wordAt bs)
def uptoW (bs : List Int) (k : Nat) : List Int := (List.range k).map (wordAt bs)
theorem uptoW_succ (bs : List Int) (k : Nat) : uptoW bs (k + 1) = uptoW bs k ++ [wordAt bs k] := by simp [uptoW, List.range_succ]
theorem uptoW_len (bs : List Int) (k : Nat) : (uptoW bs k).length = k := by simp [uptoW]

/-- two blocks stay as they are -/
def K2 (b c : Nat) (W W' : World) : Prop := W'.heap[b]? = W.heap[b]? ∧ W'.heap[c]? = W.heap[c]?
theorem K2.refl (b c : Nat) (W : World) : K2 b c W W := ⟨rfl, rfl⟩
theorem K2.trans {b c : Nat} {A B C : World} (h : K2 b c A B) (k : K2 b c B C) : K2 b c A C := ⟨k.1.trans h.1, k.2.trans h.2⟩
theorem K2.cell1 {b c : Nat} {A B : World} (h : K2 b c A B) (o : Nat) : B.cell? ⟨b, o, none⟩ = A.cell? ⟨b, o, none⟩ := World.cell?_of_block h.1
theorem K2.cell2 {b c : Nat} {A B : World} (h : K2 b c A B) (o : Nat) : B.cell? ⟨c, o, none⟩ = A.cell? ⟨c, o, none⟩ := World.cell?_of_block h.2

set_option maxRecDepth 100000 in
set_option maxHeartbeats 2000000 in
/-- the closure: for every loop body that keeps what lay below n0 -/
theorem words1_in (F : Fence) (n : Nat) (h7 : F.fn 135) (hro : F.round = none) (hn : 1 ≤ n) (l Bs b off len cap : Nat) (bs : List Int) (hreach : len ≤ 1099511627776) (hlc : len ≤ cap) (hl : bs.length = len) (hwf : ∀ x ∈ bs, 0 ≤ x ∧ x ≤ 255) (J Jx : List Int → World → Prop)
    (hY : ∀ pre x W, J pre W → pre.length < nWords len → YieldAt F (n - 1) Try.prog l #[.int .u64 x] W fun e W' =>
      (e = .returned (.bool true) ∧ J (pre ++ [x]) W' ∧ K2 b Bs W W') ∨ (e = .returned (.bool false) ∧ Jx (pre ++ [x]) W'))
    (W : World) (hBs : W.cell? ⟨Bs, 0, none⟩ = some (.slice (some ⟨b, off, none⟩) len cap)) (hc : ∀ j x, bs[j]? = some x → W.cell? ⟨b, off + j, none⟩ = some (.int .u8 x)) (h0 : J [] W) :
    CallsIn F n Try.prog 135 #[.func (.yield l) #[] #[], .pointer (some ⟨Bs, 0, none⟩)] W fun e W' => (∃ v, e = .returned v) ∧
      ((∃ ys, ys = uptoW bs (nWords len) ∧ J ys W') ∨ (∃ pre, (∃ k, k ≤ nWords len ∧ pre = uptoW bs k) ∧ Jx pre W')) := by
  refine callsIn_of_wp Try.func135 rfl h7 ?_ hro
  simp only [Try.ntmps135, List.size_toArray, List.length_cons, List.length_nil, Nat.reduceAdd, Nat.reduceSub, Array.replicate_succ, Array.replicate_zero, List.push_toArray, List.append_toArray, List.nil_append, List.cons_append]
  gi_wp2
  have HC := Lib.hid hc
  have HW := Lib.hid hwf
  have HLb := Lib.hid hl
  clear hc hwf
  gi_loopw [3] (fun i wr => ∃ k p : Nat, k ≤ nWords len ∧ Hid (p = 8 * k) ∧ i = .int .i64 p ∧ J (uptoW bs k) wr ∧ K2 b Bs W wr)
    (fun i _ => len + 8 - (intOf i).toNat)
  case atStart => exact ⟨0, 0, Nat.zero_le _, rfl, rfl, h0, K2.refl _ _ _⟩
  case round =>
    obtain ⟨k, p, hk, HP, rfl, hJs, hnx⟩ := hrel
    have hBs' : wr.cell? ⟨Bs, 0, none⟩ = some (.slice (some ⟨b, off, none⟩) len cap) := (hnx.cell2 0).trans hBs
    have hp8 : p = 8 * k := HP.out
    have hpk : p ≤ len + 8 := by rw [hp8]; unfold nWords at hk; omega
    by_cases hlt : p < len
    · have hltI : (p : Int) < (len : Int) := by omega
      have hkn : k < nWords len := by unfold nWords; omega
      clear hp8
      by_cases h8 : p + 8 ≤ len
      · have h8I : (p : Int) + 8 ≤ (len : Int) := by omega
        gi_wp2
        gi_loopw [4, 22] (fun tv ti w2 => ∃ (j : Nat) (acc : Int), j ≤ 8 ∧ ti = .int .i64 j ∧ tv = .int .u64 acc ∧ 0 ≤ acc ∧ acc ≤ 18446744073709551615 ∧ Hid (wordF acc j (((bs.drop p).take 8).drop j) = wordAt bs k) ∧ w2 = wr) (fun _ ti _ => 8 - (intOf ti).toNat)
        case atStart => exact ⟨0, 0, Nat.zero_le _, rfl, rfl, by omega, by omega, show _ = _ by rw [HP.out]; rfl, rfl⟩
        case round =>
          obtain ⟨wq, hwq⟩ : ∃ wq : World, wq = wr := ⟨_, rfl⟩
          obtain ⟨j, acc, hj, rfl, rfl, a0, a1, hW, hw2⟩ := hrel
          subst hw2
          by_cases hjM : j < 8
          · obtain ⟨x, hx⟩ : ∃ x, bs[p + j]? = some x := ⟨bs[p + j]'(by omega), List.getElem?_eq_getElem (by omega)⟩
            obtain ⟨x0, x1⟩ := HW.out x (List.mem_of_getElem? hx)
            have hcx : wr.cell? ⟨b, off + p + j, none⟩ = some (.int .u8 x) := by
              rw [Nat.add_assoc]; exact (hnx.cell1 _).trans (HC.out _ x hx)
            have HD := Lib.hid (show ((bs.drop p).take 8).drop j = x :: ((bs.drop p).take 8).drop (j + 1) by
              refine drop_at ?_
              rw [List.getElem?_take_of_lt (by omega), List.getElem?_drop]; exact hx)
            obtain ⟨acc', hacc⟩ : ∃ a, bits .or .u64 acc (IntKind.u64.wrap (x * 2 ^ (8 * j))) = a := ⟨_, rfl⟩
            have hbr := bits_range .or acc (IntKind.u64.wrap (x * 2 ^ (8 * j))) (.inr rfl)
            rw [hacc] at hbr
            obtain ⟨br0, br1⟩ := hbr
            have HA' := Lib.hid hacc
            clear hx
            gi_wp2
            go_roundw
            case rel => exact ⟨j + 1, acc', by omega, by go_num, rfl, br0, br1, show _ = _ by rw [← hW.out, HD.out, wordF, HA'.out], by first | trivial | rfl⟩
            case measure => simp [intOf]; omega
          · have hword : acc = wordAt bs k := by
              rw [← hW.out, List.drop_eq_nil_of_le (by rw [List.length_take, List.length_drop]; omega)]; rfl
            clear hW
            obtain ⟨fn, tmps, assign, body, hy, hR⟩ := hY (uptoW bs k) acc wr hJs (by rw [uptoW_len]; exact hkn)
            have HWd := Lib.hid hword
            clear hword
            gi_wp2
            refine hR.mono ?_
            rintro e W3 (⟨rfl, hJ3, hk3⟩ | ⟨rfl, hJx3⟩)
            · gi_wp2
              go_roundw
              case rel => exact ⟨k + 1, p + 8, hkn, show _ = _ by rw [HP.out]; omega, by go_num, by rw [uptoW_succ, ← HWd.out]; exact hJ3, hnx.trans hk3⟩
              case measure => simp [intOf]; omega
            · gi_wp2
              refine bodyPost_ret (results_none rfl _ _ _) rfl ?_
              exact ⟨⟨_, rfl⟩, .inr ⟨_, ⟨k + 1, hkn, by rw [uptoW_succ, ← HWd.out]⟩, hJx3⟩⟩
      · have h8I : ¬ (p : Int) + 8 ≤ (len : Int) := by omega
        gi_wp2
        gi_loopw [4, 22] (fun tv ti w2 => ∃ (j : Nat) (acc : Int), j ≤ (len - p) ∧ ti = .int .i64 j ∧ tv = .int .u64 acc ∧ 0 ≤ acc ∧ acc ≤ 18446744073709551615 ∧ Hid (wordF acc j (((bs.drop p).take 8).drop j) = wordAt bs k) ∧ w2 = wr) (fun _ ti _ => (len - p) - (intOf ti).toNat)
        case atStart => exact ⟨0, 0, Nat.zero_le _, rfl, rfl, by omega, by omega, show _ = _ by rw [HP.out]; rfl, rfl⟩
        case round =>
          obtain ⟨wq, hwq⟩ : ∃ wq : World, wq = wr := ⟨_, rfl⟩
          obtain ⟨j, acc, hj, rfl, rfl, a0, a1, hW, hw2⟩ := hrel
          subst hw2
          by_cases hjM : j < (len - p)
          · obtain ⟨x, hx⟩ : ∃ x, bs[p + j]? = some x := ⟨bs[p + j]'(by omega), List.getElem?_eq_getElem (by omega)⟩
            obtain ⟨x0, x1⟩ := HW.out x (List.mem_of_getElem? hx)
            have hcx : wr.cell? ⟨b, off + p + j, none⟩ = some (.int .u8 x) := by
              rw [Nat.add_assoc]; exact (hnx.cell1 _).trans (HC.out _ x hx)
            have HD := Lib.hid (show ((bs.drop p).take 8).drop j = x :: ((bs.drop p).take 8).drop (j + 1) by
              refine drop_at ?_
              rw [List.getElem?_take_of_lt (by omega), List.getElem?_drop]; exact hx)
            obtain ⟨acc', hacc⟩ : ∃ a, bits .or .u64 acc (IntKind.u64.wrap (x * 2 ^ (8 * j))) = a := ⟨_, rfl⟩
            have hbr := bits_range .or acc (IntKind.u64.wrap (x * 2 ^ (8 * j))) (.inr rfl)
            rw [hacc] at hbr
            obtain ⟨br0, br1⟩ := hbr
            have HA' := Lib.hid hacc
            clear hx
            gi_wp2
            go_roundw
            case rel => exact ⟨j + 1, acc', by omega, by go_num, rfl, br0, br1, show _ = _ by rw [← hW.out, HD.out, wordF, HA'.out], by first | trivial | rfl⟩
            case measure => simp [intOf]; omega
          · have hword : acc = wordAt bs k := by
              rw [← hW.out, List.drop_eq_nil_of_le (by rw [List.length_take, List.length_drop]; omega)]; rfl
            clear hW
            obtain ⟨fn, tmps, assign, body, hy, hR⟩ := hY (uptoW bs k) acc wr hJs (by rw [uptoW_len]; exact hkn)
            have HWd := Lib.hid hword
            clear hword
            gi_wp2
            refine hR.mono ?_
            rintro e W3 (⟨rfl, hJ3, hk3⟩ | ⟨rfl, hJx3⟩)
            · gi_wp2
              go_roundw
              case rel => exact ⟨k + 1, p + 8, hkn, show _ = _ by rw [HP.out]; omega, by go_num, by rw [uptoW_succ, ← HWd.out]; exact hJ3, hnx.trans hk3⟩
              case measure => simp [intOf]; omega
            · gi_wp2
              refine bodyPost_ret (results_none rfl _ _ _) rfl ?_
              exact ⟨⟨_, rfl⟩, .inr ⟨_, ⟨k + 1, hkn, by rw [uptoW_succ, ← HWd.out]⟩, hJx3⟩⟩
    · have hke : k = nWords len := by unfold nWords at hk ⊢; omega
      clear hp8
      have HK := Lib.hid hke
      clear hke
      gi_wp2
      go_end0
      exact ⟨⟨_, rfl⟩, .inl ⟨_, rfl, by rw [← HK.out]; exact hJs⟩⟩

set_option maxRecDepth 100000 in
set_option maxHeartbeats 1000000 in
/-- no byte: no round -/
theorem words0_in (F : Fence) (n : Nat) (h7 : F.fn 135) (hro : F.round = none) (l Bs cap : Nat) (A : Option Addr) (J : List Int → World → Prop) (W : World) (hBs : W.cell? ⟨Bs, 0, none⟩ = some (.slice A 0 cap)) (h0 : J [] W) :
    CallsIn F n Try.prog 135 #[.func (.yield l) #[] #[], .pointer (some ⟨Bs, 0, none⟩)] W fun e W' => (∃ v, e = .returned v) ∧ J [] W' := by
  refine callsIn_of_wp Try.func135 rfl h7 ?_ hro
  simp only [Try.ntmps135, List.size_toArray, List.length_cons, List.length_nil, Nat.reduceAdd, Nat.reduceSub, Array.replicate_succ, Array.replicate_zero, List.push_toArray, List.append_toArray, List.nil_append, List.cons_append]
  gi_wp2
  gi_loopw [3] (fun i wr => i = .int .i64 0 ∧ wr = W) (fun _ _ => 0)
  case atStart => exact ⟨rfl, rfl⟩
  case round =>
    obtain ⟨rfl, rfl⟩ := hrel
    gi_wp2
    go_end0
    exact ⟨⟨_, rfl⟩, h0⟩
set_option maxHeartbeats 1000000 in
theorem wordsOf_in (F : Fence) (n : Nat) (h5 : F.fn 123) (hro : F.round = none) (a : Option Addr) (len cap : Nat) (w : World) :
    CallsIn F n Try.prog 123 #[.slice a len cap] w fun e w' => e = .returned (.func (.func 135) #[] #[.pointer (some ⟨w.heap.size, 0, none⟩)]) ∧ w' = w.alloc (.cells #[.slice a len cap] 137) := by
  refine callsIn_of_wp Try.func123 rfl h5 ?_ hro
  simp only [Try.ntmps123, List.size_toArray, List.length_cons, List.length_nil, Nat.reduceAdd, Nat.reduceSub, Array.replicate_succ, Array.replicate_zero, List.push_toArray, List.append_toArray, List.nil_append, List.cons_append]
  gi_wp2
  go_ret
  exact ⟨rfl, rfl⟩
/-- the block of a slice's bytes (the box itself where there is none) -/
def blkOf (A : Option Addr) (n Bs : Nat) : Nat := if n = 0 then Bs else (A.map (·.block)).getD Bs
theorem words_stops (F : Fence) (n : Nat) (h7 : F.fn 135) (hro : F.round = none) (hn : 1 ≤ n) (Bs : Nat) (A : Option Addr) (len cap : Nat) (bs : List Int) (hreach : len ≤ 1099511627776) (w : World) (hBs : Bs < w.heap.size)
    (hc : w.cell? ⟨Bs, 0, none⟩ = some (.slice A len cap)) (hI : Nums .u8 w A len cap bs) :
    SeqStopsK F n Try.prog 135 #[.pointer (some ⟨Bs, 0, none⟩)] (fun x : Int => #[Value.int .u64 x]) (K2 (blkOf A len Bs) Bs) (fun ys => ys = wordsL bs) (fun _ => True) (nWords len) w := fun l J Jx W hW _ _ hY h0 => by
  have hc' := (hW.cell (p := ⟨Bs, 0, none⟩) hBs).trans hc
  have hI' := hI.e hW
  rcases Nat.eq_zero_or_pos len with h0' | h0'
  · subst h0'
    have hb : bs = [] := List.eq_nil_of_length_eq_zero hI.len
    subst hb
    exact (words0_in F n h7 hro l Bs cap A J W hc' h0).mono fun e W' ⟨he, hj⟩ => ⟨he, .inl ⟨[], rfl, hj⟩⟩
  · obtain ⟨b, off, rfl, _, hcs⟩ := hI'.at_ h0'
    have hbk : blkOf (some ⟨b, off, none⟩) len Bs = b := by unfold blkOf; rw [if_neg (by omega)]; rfl
    rw [hbk] at hY
    refine (words1_in F n h7 hro hn l Bs b off len cap bs hreach hI.cap hI.len (fun x hx => wf_u8 (hI.wf x hx)) J Jx hY W hc' (fun j x hx => by
      obtain ⟨hj, rfl⟩ := List.getElem?_eq_some_iff.1 hx
      exact hcs j hj) h0).mono ?_
    rintro e W' ⟨he, ⟨ys, rfl, hj⟩ | ⟨pre, _, hj⟩⟩
    · exact ⟨he, .inl ⟨_, by rw [wordsL, hI.len]; rfl, hj⟩⟩
    · exact ⟨he, .inr ⟨_, trivial, hj⟩⟩
end Go.Proofs.Ytmeplpiamkaniaa
/- hash.Sum. -/
namespace Go.Proofs.Ytmeplpiamkaniaa
set_option linter.unusedVariables false
set_option linter.unusedSimpArgs false
open Go.RowKit Go.Shelf
attribute [local go_sem] Oper.semAt_some

def bytS (s : ByteArray) : List Int := s.data.toList.map (fun b => (b.toNat : Int))
theorem bytS_len (s : ByteArray) : (bytS s).length = s.size := by simp [bytS]
def sumS (s : ByteArray) (l : List Int) : Int := mixV ((l.map IntKind.u64.wrap).foldl mixV (mixV (mixV ((wordsL (bytS s)).foldl mixV 0) s.size) (IntKind.u64.wrap l.length))) 0
theorem bytesWorld_e (w : World) (e : TypeId) (s : ByteArray) : E w (Lib.bytesWorld w e s) := by
  refine ⟨?_, ?_, ?_, ?_, ?_⟩
  · simp [Lib.bytesWorld, World.freeze, World.alloc, World.drew, -World.alloc_eq, -World.drew_eq]
  · simp [Lib.bytesWorld, World.freeze, World.alloc, World.drew, -World.alloc_eq, -World.drew_eq]
  · simp [Lib.bytesWorld, World.freeze, World.alloc, World.drew, -World.alloc_eq, -World.drew_eq]
  · rw [Lib.bytesWorld_size]; omega
  · intro b hb; exact Lib.bytesWorld_at_old w e s b hb
theorem bytesWorld_nums (w : World) (e : TypeId) (s : ByteArray) (hs : s.size ≤ 1000) : Nums .u8 (Lib.bytesWorld w e s) (some ⟨w.heap.size, 0, none⟩) s.size (grownCap w s.size 0 e) (bytS s) := by
  refine ⟨bytS_len s, grownCap_ge w _ _ _, grownCap_le_maxLen w _ _ _ (by unfold maxLen; omega), fun x hx => ?_, fun _ => ⟨_, 0, rfl, by rw [Lib.bytesWorld_size]; omega, fun i hi => ?_⟩⟩
  · obtain ⟨b, _, rfl⟩ := List.mem_map.1 hx
    have := b.toNat_lt
    exact WalkArith.wf_u8 ⟨by omega, by omega⟩
  · rw [bytS_len] at hi
    rw [Nat.zero_add, Lib.bytesWorld_cell w e s i hi]
    have : i < s.data.toList.length := by simpa using hi
    simp [bytS, List.getD_eq_getElem?_getD, List.getElem?_eq_getElem this]

theorem box_new (W : World) (v : Value) (t : TypeId) : (W.alloc (.cells #[v] t)).cell? ⟨W.heap.size, 0, none⟩ = some v ∧ (W.alloc (.cells #[v] t)).frozen? ⟨W.heap.size, 0, none⟩ = false := by
  have h := World.alloc_heap_new W (.cells #[v] t)
  constructor
  · unfold World.cell?; dsimp only; rw [h]; rfl
  · unfold World.frozen?; dsimp only; rw [h]; rfl
theorem K2.put {b c : Nat} (W : World) (l : Nat) (o' : Obj) (hb : b ≠ l) (hc : c ≠ l) : K2 b c W (W.putObj l o') := ⟨World.putObj_heap_other hb, World.putObj_heap_other hc⟩
theorem K2.set {b c : Nat} (W : World) (a : Addr) (v : Value) (hb : b ≠ a.block) (hc : c ≠ a.block) : K2 b c W (W.setCell a v) := ⟨Below.heap_setCell _ _ _ _ hb, Below.heap_setCell _ _ _ _ hc⟩
theorem blkOf_cases (b n Bs : Nat) : blkOf (some ⟨b, 0, none⟩) n Bs = Bs ∨ blkOf (some ⟨b, 0, none⟩) n Bs = b := by
  unfold blkOf
  split
  · exact .inl rfl
  · exact .inr rfl

set_option maxRecDepth 100000 in
set_option maxHeartbeats 2000000 in
theorem sum_in (F : Fence) (hro : F.round = none) (f1 : F.fn 96) (f2 : F.fn 123) (f3 : F.fn 135) (f4 : F.fn 124) (hmix : ∀ k a b W, CallsIn F k Try.prog 124 #[.int .u64 a, .int .u64 b] W fun e w' => e = .returned (.int .u64 (mixV a b)) ∧ W = w') (n : Nat) (hn : 3 ≤ n) (s : ByteArray) (hs : s.size ≤ 1000) (A : Option Addr) (m c : Nat) (l : List Int) (w : World) (h : Nums .i64 w A m c l) :
    CallsIn F n Try.prog 96 #[.string s, .slice A m c] w fun e W' => e = .returned (.int .u64 (sumS s l)) ∧ E w W' := by
  have hn1 : 1 ≤ n := by omega
  have hn2 : 1 ≤ n - 1 - 1 := by omega
  have hcv := Lib.run_convert_string_bytes (P := Try.prog) (w.alloc (.cells #[.int .u64 0] 50)) 9 137 5 s (by exact Try.underlying9) (by exact Try.underlying137) (by exact Try.underlying5)
  have hE1 : E w (w.alloc (.cells #[.int .u64 0] 50)) := (E.refl w).alloc _
  have hN2 := bytesWorld_nums (w.alloc (.cells #[.int .u64 0] 50)) 5 s hs
  have hE2 := bytesWorld_e (w.alloc (.cells #[.int .u64 0] 50)) 5 s
  have hS2 := Lib.bytesWorld_size (w.alloc (.cells #[.int .u64 0] 50)) 5 s
  rw [World.size_alloc] at hcv hN2 hS2
  generalize grownCap (w.alloc (.cells #[.int .u64 0] 50)) s.size 0 5 = cc at *
  generalize Lib.bytesWorld (w.alloc (.cells #[.int .u64 0] 50)) 5 s = w2 at *
  refine callsIn_of_wp_marks Try.func96 rfl f1 ?_ hro
  simp only [Try.ntmps96, List.size_toArray, List.length_cons, List.length_nil, Nat.reduceAdd, Nat.reduceSub, Array.replicate_succ, Array.replicate_zero, List.push_toArray, List.append_toArray, List.nil_append, List.cons_append]
  gi_wp2_with (gi_at_call 123; refine (wordsOf_in F (n - 1) f2 hro _ _ _ _).mono ?_; rintro e w' ⟨rfl, rfl⟩)
  have hb0 := box_new w (.int .u64 0) 50
  have hc2 : w2.cell? ⟨w.heap.size, 0, none⟩ = some (.int .u64 0) := (hE2.cell (p := ⟨w.heap.size, 0, none⟩) (by simp)).trans hb0.1
  have hf2 : w2.frozen? ⟨w.heap.size, 0, none⟩ = false := (Below.frozen hE2 (p := ⟨w.heap.size, 0, none⟩) (by simp)).trans hb0.2
  have hb3 := box_new w2 (.slice (some ⟨w.heap.size + 1, 0, none⟩) s.size cc) 137
  rw [hS2] at hb3
  have hE23 : E w2 (w2.alloc (.cells #[.slice (some ⟨w.heap.size + 1, 0, none⟩) s.size cc] 137)) := (E.refl _).alloc _
  have hS3 : (w2.alloc (.cells #[.slice (some ⟨w.heap.size + 1, 0, none⟩) s.size cc] 137)).heap.size = w.heap.size + 1 + 1 + 1 := by rw [World.size_alloc, hS2]
  have hN3 := hN2.e hE23
  have hc3 := (hE23.cell (p := ⟨w.heap.size, 0, none⟩) (by show w.heap.size < w2.heap.size; omega)).trans hc2
  have hf3 := (Below.frozen hE23 (p := ⟨w.heap.size, 0, none⟩) (by show w.heap.size < w2.heap.size; omega)).trans hf2
  have hE3 : E w _ := (hE1.trans hE2).trans hE23
  have hbox := hb3.1
  clear hcv hE1 hN2 hE2 hb0 hc2 hf2 hb3 hE23 hS2
  generalize w2.alloc (.cells #[.slice (some ⟨w.heap.size + 1, 0, none⟩) s.size cc] 137) = w3 at *
  have hblk : blkOf (some ⟨w.heap.size + 1, 0, none⟩) s.size (w.heap.size + 1 + 1) ≠ w.heap.size ∧ blkOf (some ⟨w.heap.size + 1, 0, none⟩) s.size (w.heap.size + 1 + 1) < w3.heap.size := by
    rcases blkOf_cases (w.heap.size + 1) s.size (w.heap.size + 1 + 1) with e | e <;> rw [e, hS3] <;> omega
  refine wpIn_rangeFunc_ownF hro hn1 (gf := 135) (lb := #[.pointer (some ⟨w.heap.size + 1 + 1, 0, none⟩)]) rfl f3 (enters_of Try.func135 (by kernel_rfl) rfl)
    (words_stops F (n - 1) f3 hro (by omega) (w.heap.size + 1 + 1) _ s.size cc (bytS s) (by omega) w3 (by omega) hbox hN3) K2.trans (fun W l o o' hl _ _ _ => K2.put W l o' (by omega) (by omega)) (Below.refl _ _) (fun _ => rfl)
    (fun pre W => (W.cell? ⟨w.heap.size, 0, none⟩ = some (.int .u64 (pre.foldl mixV 0)) ∧ W.frozen? ⟨w.heap.size, 0, none⟩ = false) ∧ Below w.heap.size w W)
    (fun _ _ _ => False)
    (OwnFrom.and (Go.Own.from (fun s A B row hs hg hr => ⟨cell_kept hs.1 hg hr, (frozen_kept hs.1 hg hr).trans hs.2⟩) _) (ownFrom_below (Nat.le_refl _) (by omega)))
    (fun _ _ _ _ _ hs _ _ => hs)
    ⟨⟨hc3, hf3⟩, hE3⟩
    (fun x => { tmps := #[.string s, .slice A m c, undef, undef, .int .u64 0, .pointer (some ⟨w.heap.size, 0, none⟩), .int .u64 x, undef, undef, .string s, .slice (some ⟨w.heap.size + 1, 0, none⟩) s.size cc, .func (.func 135) #[] #[.pointer (some ⟨w.heap.size + 1 + 1, 0, none⟩)], .int .u64 x, undef, undef, undef, undef, undef, undef, undef, undef, undef, undef, undef, undef, undef, undef, undef, undef, undef, undef, undef, undef, undef, undef, undef, undef, undef, undef], defers := [] }) ?assign ?body ?done ?stop
  case assign =>
    intro ℓ x W K hK
    gi_wp2
    exact hK
  case body =>
    rintro ℓ pre x W ⟨⟨hc, hf⟩, hB⟩ _
    gi_wp2_with (gi_at_call 124; refine (CallsIn.inRound ℓ (hmix _ _ _ _)).mono ?_; rintro e w' ⟨rfl, rfl⟩)
    exact ⟨KeepsOthers.setCell _ _ _, K2.set W ⟨w.heap.size, 0, none⟩ _ hblk.1 (by show w.heap.size + 1 + 1 ≠ w.heap.size; omega), ⟨by rw [List.foldl_append]; exact World.cell?_setCell_same' _ _ _ (by rw [hc]; rfl), by rw [World.frozen?_setCell]; exact hf⟩, hB.setCell (p := ⟨w.heap.size, 0, none⟩) (Nat.le_refl _) _⟩
  case done =>
    rintro D ys W hD rfl ⟨⟨hc, hf⟩, hB⟩ hK
    gi_wp2_with (gi_at_call 124; refine (hmix _ _ _ _).mono ?_; rintro e w' ⟨rfl, rfl⟩)
    obtain ⟨st, hst⟩ : ∃ st, mixV (mixV (List.foldl mixV 0 (wordsL (bytS s))) ↑s.size) (IntKind.u64.wrap ↑m) = st := ⟨_, rfl⟩
    have HS := Lib.hid (show sumS s l = mixV ((l.map IntKind.u64.wrap).foldl mixV st) 0 by rw [sumS, h.len, hst])
    rw [hst]
    have hcB := World.cell?_setCell_same' (W.setCell ⟨w.heap.size, 0, none⟩ (.int .u64 (mixV (List.foldl mixV 0 (wordsL (bytS s))) ↑s.size))) ⟨w.heap.size, 0, none⟩ (.int .u64 st) (by rw [World.cell?_setCell_same' _ _ _ (by rw [hc]; rfl)]; rfl)
    have hfB : ((W.setCell ⟨w.heap.size, 0, none⟩ (.int .u64 (mixV (List.foldl mixV 0 (wordsL (bytS s))) ↑s.size))).setCell ⟨w.heap.size, 0, none⟩ (.int .u64 st)).frozen? ⟨w.heap.size, 0, none⟩ = false := by rw [World.frozen?_setCell, World.frozen?_setCell]; exact hf
    have hKB := (KeepsOthers.setCell _ ⟨w.heap.size, 0, none⟩ (.int .u64 st)).same D _ ((KeepsOthers.setCell W ⟨w.heap.size, 0, none⟩ (.int .u64 (mixV (List.foldl mixV 0 (wordsL (bytS s))) ↑s.size))).same D _ hK rfl) rfl
    have hEB : Below w.heap.size w _ := (hB.setCell (p := ⟨w.heap.size, 0, none⟩) (Nat.le_refl _) (.int .u64 (mixV (List.foldl mixV 0 (wordsL (bytS s))) ↑s.size))).setCell (p := ⟨w.heap.size, 0, none⟩) (Nat.le_refl _) (.int .u64 st)
    clear hc hf hK hB
    generalize ((W.setCell ⟨w.heap.size, 0, none⟩ (.int .u64 (mixV (List.foldl mixV 0 (wordsL (bytS s))) ↑s.size))).setCell ⟨w.heap.size, 0, none⟩ (.int .u64 st)) = wB at *
    obtain ⟨R, hRd⟩ : ∃ R, sumS s l = R := ⟨_, rfl⟩
    rw [hRd] at HS
    have HRd := Lib.hid hRd
    clear hRd
    gi_loopw [28] (fun ti wr => ∃ (k : Nat) (acc : Int), k ≤ m ∧ ti = .int .i64 k ∧ wr.cell? ⟨w.heap.size, 0, none⟩ = some (.int .u64 acc) ∧ wr.frozen? ⟨w.heap.size, 0, none⟩ = false ∧ wr.heap[D]? = some (.deferred (some [])) ∧ Below w.heap.size w wr ∧ Hid (R = mixV (((l.drop k).map IntKind.u64.wrap).foldl mixV acc) 0)) (fun ti _ => m - (intOf ti).toNat)
    case atStart => exact ⟨0, st, Nat.zero_le _, rfl, hcB, hfB, hKB, hEB, show _ = _ from HS.out⟩
    case round =>
      clear hcB hfB hKB hEB
      obtain ⟨k, acc, hk, rfl, hc, hf, hK, hB, hR⟩ := hrel
      have hNw := h.e hB
      have hm63 := h.n63
      by_cases hkm : k < m
      · obtain ⟨b, o, rfl, hbl, hcs⟩ := hNw.at_ (by omega)
        obtain ⟨x, hx⟩ : ∃ x, l[k]? = some x := ⟨l[k]'(by rw [h.len]; omega), List.getElem?_eq_getElem (by rw [h.len]; omega)⟩
        have hcx : wr.cell? ⟨b, o + k, none⟩ = some (.int .i64 x) := by
          obtain ⟨hj, rfl⟩ := List.getElem?_eq_some_iff.1 hx
          exact hcs k hj
        have HD := Lib.hid (drop_at hx)
        have hkI : (k : Int) < (m : Int) := by omega
        clear hcs hx
        gi_wp2_with (gi_at_call 124; refine (hmix _ _ _ _).mono ?_; rintro e w' ⟨rfl, rfl⟩)
        go_roundw
        case rel => exact ⟨k + 1, _, by omega, by go_num, World.cell?_setCell_same' _ _ _ (by rw [hc]; rfl), by rw [World.frozen?_setCell]; exact hf, (KeepsOthers.setCell _ _ _).same D _ hK rfl, hB.setCell (p := ⟨w.heap.size, 0, none⟩) (Nat.le_refl _) _, show _ = _ by rw [hR.out, HD.out]; rfl⟩
        case measure => simp [intOf]; omega
      · have hRe : R = mixV acc 0 := by rw [hR.out, List.drop_eq_nil_of_le (by rw [h.len]; omega)]; rfl
        have HR := Lib.hid hRe
        clear hRe hR
        have hkI : ¬ (k : Int) < (m : Int) := by omega
        gi_wp2_with (gi_at_call 124; refine (hmix _ _ _ _).mono ?_; rintro e w' ⟨rfl, rfl⟩)
        refine ⟨by simp, .inl ⟨_, _, rfl, run_takeDeferred hK, ?_⟩⟩
        exact ⟨_, results_tmp rfl _ _ _, by rw [HRd.out, HR.out]; rfl, hB.trans (belowK_b (w := w) (Nat.le_refl _) _ D _ _ (by omega) hK rfl rfl)⟩
  case stop =>
    rintro D c pre W _ _ h _
    exact h.elim
theorem sum_c (s : ByteArray) (hs : s.size ≤ 1000) (A : Option Addr) (m c : Nat) (l : List Int) (w : World) (h : Nums .i64 w A m c l) :
    Calls Try.prog 96 #[.string s, .slice A m c] w fun e W' => e = .returned (.int .u64 (sumS s l)) ∧ E w W' :=
  callsIn_wide.1 (sum_in Fence.wide rfl trivial trivial trivial trivial (fun _ a b W => callsIn_wide.2 (mix_c a b W)) 3 (Nat.le_refl _) s hs A m c l w h)
end Go.Proofs.Ytmeplpiamkaniaa
/- What leads to what, plain: cycles and ranks; ancestors; later units; hashes; derivations. -/
namespace Go.Proofs.Ytmeplpiamkaniaa
set_option linter.unusedVariables false
set_option linter.unusedSimpArgs false

inductive Lead1 (fs : List Fl) (i : Int) : Int → Prop
  | one {f : Fl} {j : Int} : getF fs i = some f → j ∈ refsF f → Lead1 fs i j
  | more {a : Int} {f : Fl} {j : Int} : Lead1 fs i a → getF fs a = some f → j ∈ refsF f → Lead1 fs i j
theorem Lead1.head {fs : List Fl} {i j k : Int} {f : Fl} (hf : getF fs i = some f) (hj : j ∈ refsF f) (h : Lead1 fs j k) : Lead1 fs i k := by
  induction h with
  | one h1 h2 => exact .more (.one hf hj) h1 h2
  | more _ h1 h2 ih => exact .more ih h1 h2
theorem Lead1.rank {fs : List Fl} {rk : Int → Nat} (hrk : ∀ f ∈ fs, ∀ j ∈ refsF f, rk j < rk f.id) {i j : Int} (h : Lead1 fs i j) : rk j < rk i := by
  induction h with
  | one h1 h2 => have := hrk _ (getF_some h1).1 _ h2; rwa [(getF_some h1).2] at this
  | more _ h1 h2 ih => have := hrk _ (getF_some h1).1 _ h2; rw [(getF_some h1).2] at this; omega
theorem countP_lt {α : Type} {p q : α → Bool} {l : List α} (h : ∀ x ∈ l, p x = true → q x = true) {y : α} (hy : y ∈ l) (h1 : q y = true) (h2 : p y = false) : l.countP p < l.countP q := by
  induction l with
  | nil => cases hy
  | cons a l ih =>
    rw [List.countP_cons, List.countP_cons]
    have hle : l.countP p ≤ l.countP q := List.countP_mono_left fun x hx => h x (List.mem_cons_of_mem _ hx)
    rcases List.mem_cons.1 hy with rfl | hy
    · rw [h1, h2]; simp; omega
    · have := ih (fun x hx => h x (List.mem_cons_of_mem _ hx)) hy
      have h3 := h a List.mem_cons_self
      cases hp : p a with
      | false => simp; omega
      | true => rw [h3 hp]; simp; omega
/-- no flow leads to itself: there is a rank -/
theorem ranked_of {fs : List Fl} (hi : Ids fs) (hl : ∀ f ∈ fs, linkE fs f = 0) (hn : ∀ f ∈ fs, ¬ Lead1 fs f.id f.id) : Ranked fs := by
  classical
  refine ⟨fun i => fs.countP fun f => decide (Lead1 fs i f.id), fun f hf j hj => ?_⟩
  have hfi := hi.mem hf
  obtain ⟨g, hg⟩ : ∃ g, getF fs j = some g := by
    rcases List.mem_append.1 hj with hj | hj
    · obtain ⟨p, hp, rfl⟩ := List.mem_map.1 hj
      obtain ⟨q, h1, _⟩ := link_part (hl f hf) hp
      exact ⟨q, h1⟩
    · exact link_made (hl f hf) hj
  obtain ⟨hgm, hgi⟩ := getF_some hg
  refine countP_lt (fun x _ hx => ?_) hgm ?_ ?_
  · have hx := of_decide_eq_true hx
    exact decide_eq_true (Lead1.head hfi hj hx)
  · exact decide_eq_true (hgi ▸ .one hfi hj)
  · have := hn g hgm
    rw [hgi] at this ⊢
    exact decide_eq_false this
theorem not_cyc {fs : List Fl} (h : Ranked fs) : ∀ i, ¬ Lead1 fs i i := fun i hc => by
  obtain ⟨rk, hrk⟩ := h
  have := hc.rank hrk
  omega
/-- the list from which a search goes on: closed as far as it has been worked off -/
theorem lead_closed {fs : List Fl} {i : Int} {out : List Int} (h : ∀ a, (a = i ∨ a ∈ out) → ∀ f, getF fs a = some f → ∀ j ∈ refsF f, j ∈ out) : ∀ j, Lead1 fs i j → j ∈ out := by
  intro j hj
  induction hj with
  | one h1 h2 => exact h i (.inl rfl) _ h1 _ h2
  | more _ h1 h2 ih => exact h _ (.inr ih) _ h1 _ h2

/-! lists of numbers in order -/
theorem sorted_ext : ∀ {a b : List Int}, a.Pairwise (· < ·) → b.Pairwise (· < ·) → (∀ u, u ∈ a ↔ u ∈ b) → a = b
  | [], [], _, _, _ => rfl
  | [], y :: b, _, _, h => by have := (h y).2 List.mem_cons_self; cases this
  | x :: a, [], _, _, h => by have := (h x).1 List.mem_cons_self; cases this
  | x :: a, y :: b, ha, hb, h => by
    have ha' := List.pairwise_cons.1 ha
    have hb' := List.pairwise_cons.1 hb
    have e : x = y := by
      rcases List.mem_cons.1 ((h x).1 List.mem_cons_self) with e | e
      · exact e
      · rcases List.mem_cons.1 ((h y).2 List.mem_cons_self) with e2 | e2
        · exact e2.symm
        · have := hb'.1 x e; have := ha'.1 y e2; omega
    subst e
    rw [sorted_ext ha'.2 hb'.2 fun u => ?_]
    constructor
    · intro hu
      rcases List.mem_cons.1 ((h u).1 (List.mem_cons_of_mem _ hu)) with e | e
      · subst e; have := ha'.1 u hu; omega
      · exact e
    · intro hu
      rcases List.mem_cons.1 ((h u).2 (List.mem_cons_of_mem _ hu)) with e | e
      · subst e; have := hb'.1 u hu; omega
      · exact e
/-- numbers in order, each once: those for which P -/
structure Sorted (P : Int → Prop) (l : List Int) : Prop where
  srt : l.Pairwise (· < ·)
  mem : ∀ x, x ∈ l ↔ P x
theorem Sorted.eq {P : Int → Prop} {a b : List Int} (h : Sorted P a) (k : Sorted P b) : a = b := sorted_ext h.srt k.srt fun u => (h.mem u).trans (k.mem u).symm

/-! ancestors -/
inductive AncU (fs : List Fl) (x : Lt) : Un → Prop
  | base {u : Un} : u ∈ ul x → AncU fs x u
  | src {u v : Un} : AncU fs x u → srcU fs u = some v → AncU fs x v
  | made {u v : Un} {f g : Fl} {j : Int} : AncU fs x u → getF fs u.1 = some f → j ∈ f.made → getF fs j = some g → v ∈ ul (j, 0, g.n) → AncU fs x v
def AncI (fs : List Fl) (x : Lt) (i : Int) : Prop := ∃ u, AncU fs x u ∧ u.1 = i

/-! later units -/
inductive Lat (fs : List Fl) (S : Un → Prop) : Un → Prop
  | base {u : Un} : S u → Lat fs S u
  | src {u v : Un} : srcU fs u = some v → Lat fs S v → Lat fs S u
/-- the set of the later units -/
structure LatL (fs : List Fl) (S : Un → Prop) (l : List Lt) : Prop where
  can : Canon l
  mem : ∀ u, u ∈ U l ↔ Lat fs S u
theorem LatL.eq {fs : List Fl} {S : Un → Prop} {a b : List Lt} (h : LatL fs S a) (k : LatL fs S b) : a = b :=
  glued_unique h.can.glued k.can.glued (srt_ext h.can.srt k.can.srt fun u => (h.mem u).trans (k.mem u).symm)

/-! derivations -/
structure DerOf (fs : List Fl) (i : Int) (ds : List Fl) : Prop where
  srt : (ds.map Fl.id).Pairwise (· < ·)
  mem : ∀ f, f ∈ ds ↔ f ∈ fs ∧ (f.id = i ∨ Lead1 fs i f.id)
theorem map_ids_inj {fs : List Fl} (hi : Ids fs) : ∀ {a b : List Fl}, (∀ f ∈ a, f ∈ fs) → (∀ f ∈ b, f ∈ fs) → a.map Fl.id = b.map Fl.id → a = b
  | [], [], _, _, _ => rfl
  | [], y :: b, _, _, h => by cases h
  | x :: a, [], _, _, h => by cases h
  | x :: a, y :: b, ha, hb, h => by
    simp only [List.map_cons, List.cons.injEq] at h
    have h1 := hi.mem (ha x List.mem_cons_self)
    have h2 := hi.mem (hb y List.mem_cons_self)
    rw [h.1, h2] at h1
    injection h1 with h1
    rw [h1, map_ids_inj hi (fun f hf => ha f (List.mem_cons_of_mem _ hf)) (fun f hf => hb f (List.mem_cons_of_mem _ hf)) h.2]
theorem DerOf.eq {fs : List Fl} (hi : Ids fs) {i : Int} {a b : List Fl} (h : DerOf fs i a) (k : DerOf fs i b) : a = b := by
  refine map_ids_inj hi (fun f hf => ((h.mem f).1 hf).1) (fun f hf => ((k.mem f).1 hf).1) (sorted_ext h.srt k.srt fun u => ?_)
  rw [List.mem_map, List.mem_map]
  constructor
  · rintro ⟨f, hf, e⟩; exact ⟨f, (k.mem f).2 ((h.mem f).1 hf), e⟩
  · rintro ⟨f, hf, e⟩; exact ⟨f, (h.mem f).2 ((k.mem f).1 hf), e⟩

/-! roots of concrete units -/
theorem RootOf.eval {fs : List Fl} {r : Un → Un} (h : RootOf fs r) (n : Nat) : ∀ u : Un, srcU fs (rootN fs n u) = none → r u = rootN fs n u := by
  induction n with
  | zero => intro u hn; exact h.none_ hn
  | succ n ih =>
    intro u hn
    unfold rootN at hn ⊢
    cases hv : srcU fs u with
    | none => exact h.none_ hv
    | some v => rw [hv] at hn; rw [h.some_ hv]; exact ih v hn
end Go.Proofs.Ytmeplpiamkaniaa
/- Hashes of flows, plain. -/
namespace Go.Proofs.Ytmeplpiamkaniaa
set_option linter.unusedVariables false
set_option linter.unusedSimpArgs false
open Go.RowKit

def hwF (f : Fl) (h : Int → Int) : List Int := [f.id, f.step, f.kind, f.tick, f.actor, f.frm, f.to, f.item, f.n, (f.parts.length : Int)] ++ (f.parts.flatMap (fun p => [wrap64 (h p.1), p.2.1, p.2.2]) ++ ((f.made.length : Int) :: f.made.map fun j => wrap64 (h j)))
def flowS : ByteArray := { data := #[102, 108, 111, 119] }
/-- h gives every flow its hash -/
def HashOf (fs : List Fl) (h : Int → Int) : Prop := ∀ f ∈ fs, h f.id = sumS flowS (hwF f h)
theorem hwF_congr {f : Fl} {h h' : Int → Int} (he : ∀ j ∈ refsF f, h j = h' j) : hwF f h = hwF f h' := by
  unfold hwF
  congr 1
  congr 1
  · rw [List.flatMap_def, List.flatMap_def]
    refine congrArg List.flatten (List.map_congr_left fun p hp => ?_)
    rw [he p.1 (List.mem_append_left _ (List.mem_map.2 ⟨p, hp, rfl⟩))]
  · congr 1
    exact List.map_congr_left fun j hj => by rw [he j (List.mem_append_right _ hj)]
def hashN (fs : List Fl) : Nat → Int → Int
  | 0, _ => 0
  | n + 1, i => match getF fs i with | none => 0 | some f => sumS flowS (hwF f (hashN fs n))
theorem hashN_eq {fs : List Fl} (hg : GOk fs) {rk : Int → Nat} (hrk : ∀ f ∈ fs, ∀ j ∈ refsF f, rk j < rk f.id) : ∀ (n m : Nat) (i : Int), rk i < n → rk i < m → hashN fs n i = hashN fs m i
  | 0, _, _, h, _ => absurd h (Nat.not_lt_zero _)
  | _ + 1, 0, _, _, h => absurd h (Nat.not_lt_zero _)
  | n + 1, m + 1, i, h1, h2 => by
    unfold hashN
    cases hf : getF fs i with
    | none => rfl
    | some f =>
      simp only
      obtain ⟨hm, hi⟩ := getF_some hf
      rw [hwF_congr (h' := hashN fs m) fun j hj => hashN_eq hg hrk n m j (by have := hrk f hm j hj; rw [hi] at this; omega) (by have := hrk f hm j hj; rw [hi] at this; omega)]
theorem GOk.hash {fs : List Fl} (hg : GOk fs) : ∃ h, HashOf fs h := by
  obtain ⟨rk, hrk⟩ := hg.rk
  refine ⟨fun i => hashN fs (rk i + 1) i, fun f hf => ?_⟩
  show hashN fs (rk f.id + 1) f.id = _
  rw [hashN, hg.ids.mem hf]
  simp only
  rw [hwF_congr (h' := fun i => hashN fs (rk i + 1) i) fun j hj => hashN_eq hg hrk _ _ j (hrk f hf j hj) (Nat.lt_succ_self _)]
theorem HashOf.eq {fs : List Fl} (hg : GOk fs) {h h' : Int → Int} (a : HashOf fs h) (b : HashOf fs h') : ∀ i f, getF fs i = some f → h i = h' i := by
  obtain ⟨rk, hrk⟩ := hg.rk
  have key : ∀ n i f, rk i < n → getF fs i = some f → h i = h' i := by
    intro n
    induction n with
    | zero => intro i f hn; omega
    | succ n ih =>
      intro i f hn hf
      obtain ⟨hm, hi⟩ := getF_some hf
      rw [← hi, a f hm, b f hm]
      congr 1
      refine hwF_congr fun j hj => ?_
      obtain ⟨q, hq⟩ := hg.refs hm hj
      exact ih j q (by have := hrk f hm j hj; rw [hi] at this; omega) hq
  exact fun i f hf => key _ i f (Nat.lt_succ_self _) hf
theorem sumS_range (s : ByteArray) (l : List Int) : 0 ≤ sumS s l ∧ sumS s l ≤ 18446744073709551615 := mixV_range _ _
theorem HashOf.range {fs : List Fl} {h : Int → Int} (a : HashOf fs h) {i : Int} {f : Fl} (hf : getF fs i = some f) : 0 ≤ h i ∧ h i ≤ 18446744073709551615 := by
  obtain ⟨hm, hi⟩ := getF_some hf
  rw [← hi, a f hm]
  exact sumS_range _ _
end Go.Proofs.Ytmeplpiamkaniaa
/- Where the parts of a flow begin; a stretch of a list of lots, plain. -/
namespace Go.Proofs.Ytmeplpiamkaniaa
set_option linter.unusedVariables false
set_option linter.unusedSimpArgs false

def startsF : Int → List Lt → List Int
  | _, [] => []
  | a, p :: l => a :: startsF (a + p.2.2) l
theorem starts_len (a : Int) (l : List Lt) : (startsF a l).length = l.length := by
  induction l generalizing a with
  | nil => rfl
  | cons p l ih => rw [startsF, List.length_cons, ih, List.length_cons]
theorem starts_get (a : Int) (l : List Lt) (i : Nat) (hi : i < l.length) : (startsF a l)[i]? = some (a + totL (l.take i)) := by
  induction l generalizing a i with
  | nil => simp at hi
  | cons p l ih =>
    cases i with
    | zero => simp [startsF, totL]
    | succ i =>
      rw [startsF, List.getElem?_cons_succ, ih _ _ (by simpa using hi), List.take_succ_cons, totL_cons]
      congr 1; omega
theorem starts_app (a : Int) (l : List Lt) (p : Lt) : startsF a (l ++ [p]) = startsF a l ++ [a + totL l] := by
  induction l generalizing a with
  | nil => simp [startsF, totL]
  | cons x l ih => rw [List.cons_append, startsF, ih, startsF, totL_cons, List.cons_append]; congr 3; omega
theorem totL_le_take {l : List Lt} (h : ∀ x ∈ l, 0 ≤ x.2.2) (i : Nat) : 0 ≤ totL (l.take i) ∧ totL (l.take i) ≤ totL l := by
  have h1 := U_len (l := l.take i) (fun x hx => h x (List.mem_of_mem_take hx))
  have h2 := U_len (l := l.drop i) (fun x hx => h x (List.mem_of_mem_drop hx))
  have h3 := totL_app (l.take i) (l.drop i)
  rw [List.take_append_drop] at h3
  omega
theorem totL_mono {l : List Lt} (h : ∀ x ∈ l, 0 ≤ x.2.2) {i j : Nat} (hij : i ≤ j) : totL (l.take i) ≤ totL (l.take j) := by
  have h1 := (totL_le_take (l := l.take j) (fun x hx => h x (List.mem_of_mem_take hx)) i).2
  rw [List.take_take, Nat.min_eq_left hij] at h1
  exact h1
/-- n units of a list of lots from at on -/
def cutU (l : List Lt) (a n : Int) : List Un := ((U l).drop a.toNat).take n.toNat
/-- the first lots that lie ahead of the position are left out -/
theorem cut_drop {l : List Lt} (h : ∀ x ∈ l, 0 ≤ x.2.2) (k : Nat) (a n : Int) (ha : totL (l.take k) ≤ a) : cutU (l.drop k) (a - totL (l.take k)) n = cutU l a n := by
  have h1 := U_len (l := l.take k) (fun x hx => h x (List.mem_of_mem_take hx))
  have h2 : U l = U (l.take k) ++ U (l.drop k) := by rw [← U_app, List.take_append_drop]
  unfold cutU
  have h3 : (U (l.take k)).drop a.toNat = [] := List.drop_eq_nil_of_le (by omega)
  rw [h2, List.drop_append, h3, List.nil_append]
  congr 2
  omega
theorem cut_skip {x : Lt} {l : List Lt} {a n : Int} (hx : 0 ≤ x.2.2) (h : x.2.2 ≤ a) : cutU (x :: l) a n = cutU l (a - x.2.2) n := by
  unfold cutU
  rw [U_cons, List.drop_append, List.drop_eq_nil_of_le (by rw [ul_len]; omega), List.nil_append, ul_len]
  congr 2
  omega
theorem drop_ul {f a n k : Int} (h0 : 0 ≤ k) (h1 : k ≤ n) : (ul (f, a, n)).drop k.toNat = ul (f, a + k, n - k) := by
  rw [ul_cut h0 h1, List.drop_left' (by rw [ul_len])]
theorem take_ul {f a n k : Int} (h0 : 0 ≤ k) (h1 : k ≤ n) : (ul (f, a, n)).take k.toNat = ul (f, a, k) := by
  rw [ul_cut h0 h1, List.take_left' (by rw [ul_len])]
theorem cut_some {x : Lt} {l : List Lt} {a n : Int} (h0 : 0 ≤ a) (h : a < x.2.2) (hn : 0 ≤ n) : cutU (x :: l) a n = ul (x.1, x.2.1 + a, min n (x.2.2 - a)) ++ cutU l 0 (n - min n (x.2.2 - a)) := by
  obtain ⟨f, b, m⟩ := x
  simp only at *
  unfold cutU
  have hl := ul_len (f, b, m)
  simp only at hl
  rw [U_cons, List.drop_append_of_le_length (by rw [hl]; omega), drop_ul h0 (by omega), List.take_append, ul_len, Int.toNat_zero, List.drop_zero]
  simp only
  rcases Int.le_total n (m - a) with h1 | h1
  · rw [Int.min_eq_left h1, take_ul hn h1, show n.toNat - (m - a).toNat = 0 by omega, show (n - n).toNat = 0 by omega]
  · rw [Int.min_eq_right h1, List.take_of_length_le (by rw [ul_len]; simp only; omega), show (n - (m - a)).toNat = n.toNat - (m - a).toNat by omega]
theorem cut_zero (l : List Lt) (a : Int) {n : Int} (h : n ≤ 0) : cutU l a n = [] := by
  unfold cutU
  rw [show n.toNat = 0 by omega, List.take_zero]
end Go.Proofs.Ytmeplpiamkaniaa
/- Later units, plain: parts and their sources; what one flow adds; what a pass over all flows adds. -/
namespace Go.Proofs.Ytmeplpiamkaniaa
set_option linter.unusedVariables false
set_option linter.unusedSimpArgs false

theorem U_at {l : List Lt} {k : Nat} {v : Un} (h : (U l)[k]? = some v) : ∃ i p j, l[i]? = some p ∧ k = (U (l.take i)).length + j ∧ (ul p)[j]? = some v := by
  induction l generalizing k with
  | nil => simp [U_nil] at h
  | cons x l ih =>
    rw [U_cons] at h
    rcases Nat.lt_or_ge k (ul x).length with hk | hk
    · rw [List.getElem?_append_left hk] at h
      exact ⟨0, x, k, rfl, by simp [U_nil], h⟩
    · rw [List.getElem?_append_right hk] at h
      obtain ⟨i, p, j, h1, h2, h3⟩ := ih h
      refine ⟨i + 1, p, j, by simpa using h1, ?_, h3⟩
      rw [List.take_succ_cons, U_cons, List.length_append]
      omega
theorem ul_at {x : Lt} {j : Nat} {v : Un} : (ul x)[j]? = some v ↔ (j : Int) < x.2.2 ∧ v = (x.1, x.2.1 + j) := by
  rw [ul, unitsOf_range, List.getElem?_map]
  rcases Nat.lt_or_ge j x.2.2.toNat with h | h
  · rw [List.getElem?_range h]
    simp only [Option.map_some, Option.some.injEq]
    exact ⟨fun e => ⟨by omega, e.symm⟩, fun e => e.2.symm⟩
  · rw [List.getElem?_eq_none (by simpa using h)]
    simp only [Option.map_none, reduceCtorEq, false_iff, not_and]
    intro h1; omega
theorem part_src {fs : List Fl} {f : Fl} (hf : getF fs f.id = some f) (hp : ∀ x ∈ f.parts, 0 ≤ x.2.2) {i : Nat} {p : Lt} (hi : f.parts[i]? = some p) {j : Int} (h0 : 0 ≤ j) (h1 : j < p.2.2) :
    srcU fs (f.id, totL (f.parts.take i) + j) = some (p.1, p.2.1 + j) := by
  have hl := U_len (l := f.parts.take i) (fun x hx => hp x (List.mem_of_mem_take hx))
  have hlt := (List.getElem?_eq_some_iff.1 hi).1
  rw [srcU, hf]
  simp only [Option.bind_some]
  rw [if_neg (by omega)]
  have e : f.parts = f.parts.take i ++ p :: f.parts.drop (i + 1) := by
    have h2 := List.take_append_drop i f.parts
    rw [List.drop_eq_getElem_cons hlt] at h2
    have h3 : f.parts[i] = p := by rw [List.getElem?_eq_getElem hlt] at hi; exact Option.some.inj hi
    rw [h3] at h2
    exact h2.symm
  have e2 : U f.parts = U (f.parts.take i) ++ (ul p ++ U (f.parts.drop (i + 1))) := by
    conv => lhs; rw [e]
    rw [U_app, U_cons]
  rw [e2, List.getElem?_append_right (by omega), List.getElem?_append_left (by rw [ul_len]; omega), ul_at]
  refine ⟨by omega, ?_⟩
  congr 1; omega
theorem src_part {fs : List Fl} {f : Fl} {u v : Un} (hf : getF fs u.1 = some f) (hp : ∀ x ∈ f.parts, 0 ≤ x.2.2) (h : srcU fs u = some v) :
    ∃ i p j, f.parts[i]? = some p ∧ 0 ≤ j ∧ j < p.2.2 ∧ u.2 = totL (f.parts.take i) + j ∧ v = (p.1, p.2.1 + j) := by
  rw [srcU, hf] at h
  simp only [Option.bind_some] at h
  by_cases h0 : u.2 < 0
  · rw [if_pos h0] at h; cases h
  · rw [if_neg h0] at h
    obtain ⟨i, p, j, h1, h2, h3⟩ := U_at h
    obtain ⟨h4, h5⟩ := ul_at.1 h3
    have hl := U_len (l := f.parts.take i) (fun x hx => hp x (List.mem_of_mem_take hx))
    exact ⟨i, p, j, h1, by omega, h4, by omega, h5⟩
/-- a piece of a part, as units of the flow -/
def shL (f s : Int) (p x : Lt) : Lt := (f, s + x.2.1 - p.2.1, x.2.2)
theorem mem_sh {f s : Int} {p x : Lt} {u : Un} : u ∈ ul (shL f s p x) ↔ u.1 = f ∧ (x.1, p.2.1 + (u.2 - s)) ∈ ul x := by
  rw [mem_ul, mem_ul]
  simp only [shL]
  constructor
  · rintro ⟨h1, h2, h3⟩; exact ⟨h1, trivial, by omega, by omega⟩
  · rintro ⟨h1, _, h2, h3⟩; exact ⟨h1, by omega, by omega⟩
/-- what one flow's list holds: the units of S, and those whose sources are later, of its first parts -/
structure FInv (fs : List Fl) (S : Un → Prop) (f : Fl) (i : Nat) (l : List Lt) : Prop where
  own : ∀ x ∈ l, x.1 = f.id
  sound : ∀ u ∈ U l, Lat fs S u
  base : ∀ u, S u → u.1 = f.id → u ∈ U l
  got : ∀ u v, u.1 = f.id → srcU fs u = some v → Lat fs S v → u.2 < totL (f.parts.take i) → u ∈ U l
theorem U_own {l : List Lt} {f : Int} (h : ∀ x ∈ l, x.1 = f) : ∀ u ∈ U l, u.1 = f := fun u hu => by
  obtain ⟨x, hx, hu⟩ := mem_U.1 hu
  rw [(mem_ul.1 hu).1]; exact h x hx
section
variable {fs : List Fl} {S : Un → Prop} {f : Fl} {i : Nat} {l : List Lt}
/-- the pieces of part i that are later units were added -/
theorem FInv.part (h : FInv fs S f i l) (hf : getF fs f.id = some f) (hp : ∀ x ∈ f.parts, 1 ≤ x.2.2) {p : Lt} (hi : f.parts[i]? = some p) {ins : List Lt}
    (hins : ∀ u, u ∈ U ins ↔ u ∈ ul p ∧ Lat fs S u) (ho : ∀ x ∈ ins, x.1 = p.1) : FInv fs S f (i + 1) (l ++ ins.map (shL f.id (totL (f.parts.take i)) p)) := by
  have hlt := (List.getElem?_eq_some_iff.1 hi).1
  have htk : f.parts.take (i + 1) = f.parts.take i ++ [p] := by rw [List.take_add_one, hi]; rfl
  have hp0 : ∀ x ∈ f.parts, 0 ≤ x.2.2 := fun x hx => by have := hp x hx; omega
  have key : ∀ u, u ∈ U (ins.map (shL f.id (totL (f.parts.take i)) p)) ↔ u.1 = f.id ∧ (p.1, p.2.1 + (u.2 - totL (f.parts.take i))) ∈ U ins := by
    intro u
    rw [mem_U, mem_U]
    constructor
    · rintro ⟨y, hy, hu⟩
      obtain ⟨x, hx, rfl⟩ := List.mem_map.1 hy
      obtain ⟨h1, h2⟩ := mem_sh.1 hu
      exact ⟨h1, x, hx, by rw [← ho x hx]; exact h2⟩
    · rintro ⟨h1, x, hx, h2⟩
      exact ⟨_, List.mem_map.2 ⟨x, hx, rfl⟩, mem_sh.2 ⟨h1, by rw [ho x hx]; exact h2⟩⟩
  refine ⟨fun x hx => ?_, fun u hu => ?_, fun u h1 h2 => ?_, fun u v h1 h2 h3 h4 => ?_⟩
  · rcases List.mem_append.1 hx with hx | hx
    · exact h.own x hx
    · obtain ⟨y, _, rfl⟩ := List.mem_map.1 hx; rfl
  · rw [U_app, List.mem_append] at hu
    rcases hu with hu | hu
    · exact h.sound u hu
    · obtain ⟨h1, h2⟩ := (key u).1 hu
      obtain ⟨h3, h4⟩ := (hins _).1 h2
      have h5 := mem_ul.1 h3
      simp only at h5
      have h6 := part_src hf hp0 hi (j := u.2 - totL (f.parts.take i)) (by omega) (by omega)
      refine .src (v := _) ?_ h4
      rw [← h6]
      congr 1
      exact Prod.ext h1 (by simp only; omega)
  · rw [U_app, List.mem_append]; exact .inl (h.base u h1 h2)
  · rw [U_app, List.mem_append]
    rcases Int.lt_or_le u.2 (totL (f.parts.take i)) with hlt | hge
    · exact .inl (h.got u v h1 h2 h3 hlt)
    · right
      rw [htk, totL_app, totL_cons, totL_nil] at h4
      have h6 := part_src hf hp0 hi (j := u.2 - totL (f.parts.take i)) (by omega) (by omega)
      have e : (f.id, totL (f.parts.take i) + (u.2 - totL (f.parts.take i))) = u := Prod.ext h1.symm (by simp only; omega)
      rw [e, h2] at h6
      injection h6 with h6
      refine (key u).2 ⟨h1, (hins _).2 ⟨mem_ul.2 ⟨rfl, by simp only; omega, by simp only; omega⟩, ?_⟩⟩
      rw [← h6]; exact h3
/-- all parts are through: the list holds exactly the later units of the flow -/
theorem FInv.all (h : FInv fs S f f.parts.length l) (hg : GOk fs) (hf : getF fs f.id = some f) : ∀ u, u ∈ U l ↔ u.1 = f.id ∧ Lat fs S u := by
  intro u
  refine ⟨fun hu => ⟨U_own h.own u hu, h.sound u hu⟩, fun ⟨h1, h2⟩ => ?_⟩
  cases h2 with
  | base h3 => exact h.base u h3 h1
  | @src _ v h3 h4 =>
    have hok := okF_iff.1 (hg.ok f (getF_some hf).1)
    have hp0 : ∀ x ∈ f.parts, 0 ≤ x.2.2 := fun x hx => by have := possB_iff.1 ((validB_iff.1 hok.1).2 x hx); omega
    obtain ⟨i, p, j, g1, g2, g3, g4, g5⟩ := src_part (by rw [h1]; exact hf) hp0 h3
    refine h.got u v h1 h3 h4 ?_
    rw [List.take_length, g4]
    have hlt := (List.getElem?_eq_some_iff.1 g1).1
    have htk : f.parts.take (i + 1) = f.parts.take i ++ [p] := by rw [List.take_add_one, g1]; rfl
    have h5 := (totL_le_take hp0 (i + 1)).2
    rw [htk, totL_app, totL_cons, totL_nil] at h5
    omega
end
/-- lists of the flows, each a set, put together and sorted are one set -/
theorem canon_of {l : List Lt} (hs : l.Pairwise fun x y => x.1 < y.1 ∨ (x.1 = y.1 ∧ x.2.1 + x.2.2 < y.2.1)) (hp : ∀ x ∈ l, 1 ≤ x.2.2) : Canon l := ⟨hp, hs⟩
end Go.Proofs.Ytmeplpiamkaniaa
/- The model's Later, plain: a pass over all flows; how many units there are. -/
namespace Go.Proofs.Ytmeplpiamkaniaa
set_option linter.unusedVariables false
set_option linter.unusedSimpArgs false

theorem nodup_le {α : Type} [DecidableEq α] {a b : List α} (ha : a.Nodup) (h : ∀ x ∈ a, x ∈ b) : a.length ≤ b.length := by
  induction a generalizing b with
  | nil => exact Nat.zero_le _
  | cons x a ih =>
    have ha' := List.nodup_cons.1 ha
    have hx := h x List.mem_cons_self
    have h1 := ih (b := b.erase x) ha'.2 (fun y hy => by
      have hne : y ≠ x := fun e => ha'.1 (e ▸ hy)
      exact (List.mem_erase_of_ne hne).2 (h y (List.mem_cons_of_mem _ hy)))
    have h2 := List.length_erase_of_mem hx
    have h3 := List.length_pos_of_mem hx
    rw [List.length_cons]
    omega
theorem nodup_lt {α : Type} [DecidableEq α] {a b : List α} (ha : a.Nodup) (h : ∀ x ∈ a, x ∈ b) {y : α} (hy : y ∈ b) (hn : y ∉ a) : a.length < b.length := by
  have := nodup_le (a := y :: a) (b := b) (List.nodup_cons.2 ⟨hn, ha⟩) (fun x hx => by
    rcases List.mem_cons.1 hx with rfl | hx
    · exact hy
    · exact h x hx)
  rw [List.length_cons] at this
  exact this
theorem srt_nd {us : List Un} (h : Srt us) : us.Nodup := List.Pairwise.imp (fun h e => by subst e; exact ltU_irrefl _ h) h
/-- all units of a graph -/
def allU (fs : List Fl) : List Un := fs.flatMap fun f => ul (f.id, 0, f.n)
def cntU (fs : List Fl) : Nat := (allU fs).length
theorem mem_allU {fs : List Fl} {u : Un} (h : InG fs u) : u ∈ allU fs := by
  obtain ⟨f, h1, h2, h3⟩ := h
  refine List.mem_flatMap.2 ⟨f, (getF_some h1).1, mem_ul.2 ⟨(getF_some h1).2.symm, h2, ?_⟩⟩
  simp only; omega
theorem canon_cnt {fs : List Fl} {l : List Lt} (hc : Canon l) (h : ∀ u ∈ U l, InG fs u) : (U l).length ≤ cntU fs := nodup_le (srt_nd hc.srt) fun u hu => mem_allU (h u hu)
theorem len_units {l : List Lt} (h : ∀ x ∈ l, 1 ≤ x.2.2) : l.length ≤ (U l).length := by
  induction l with
  | nil => exact Nat.le_refl _
  | cons x l ih =>
    have h1 := ih fun y hy => h y (List.mem_cons_of_mem _ hy)
    have h2 := h x List.mem_cons_self
    rw [U_cons, List.length_append, ul_len, List.length_cons]
    omega
theorem poss_units {fs : List Fl} (hg : GOk fs) {x : Lt} (hx : 1 ≤ x.2.2) (h : ∀ u ∈ ul x, InG fs u) : possB x = true ∧ hasF fs x = true := by
  obtain ⟨f, h1, h2, _⟩ := h (x.1, x.2.1) (mem_ul.2 ⟨rfl, by simp only; omega, by simp only; omega⟩)
  obtain ⟨f', h1', _, h3⟩ := h (x.1, x.2.1 + x.2.2 - 1) (mem_ul.2 ⟨rfl, by simp only; omega, by simp only; omega⟩)
  simp only at h1 h1' h2 h3
  rw [h1] at h1'
  injection h1' with h1'
  subst h1'
  obtain ⟨_, o1, _, _, o4, _⟩ := okF_iff.1 (hg.ok f (getF_some h1).1)
  have hp : possB x = true := possB_iff.2 ⟨by rw [← (getF_some h1).2]; exact o1, h2, by omega, hx, by omega⟩
  exact ⟨hp, hasF_iff.2 ⟨hp, f, h1, by omega⟩⟩
theorem poss_canon {fs : List Fl} (hg : GOk fs) {l : List Lt} (hc : ∀ x ∈ l, 1 ≤ x.2.2) (h : ∀ u ∈ U l, InG fs u) : ∀ x ∈ l, possB x = true := fun x hx =>
  (poss_units hg (hc x hx) fun u hu => h u (mem_U.2 ⟨x, hx, hu⟩)).1
theorem valid_canon {fs : List Fl} (hg : GOk fs) {l : List Lt} (hc : Canon l) (h : ∀ u ∈ U l, InG fs u) (hn : cntU fs ≤ 4096) : validB l = true := by
  refine validB_iff.2 ⟨?_, poss_canon hg hc.pos h⟩
  have h1 := len_units hc.pos
  have h2 := canon_cnt hc h
  omega
theorem Lat.inG {fs : List Fl} (hg : GOk fs) {S : Un → Prop} (hS : ∀ u, S u → InG fs u) {u : Un} (h : Lat fs S u) : InG fs u := by
  cases h with
  | base h => exact hS u h
  | src h _ => obtain ⟨_, _, _, _, h⟩ := hg.src h; exact h
structure RInv (fs : List Fl) (S : Un → Prop) (before out : List Lt) (i : Nat) (a : Int) : Prop where
  can : Canon out
  sound : ∀ u ∈ U out, Lat fs S u
  base : ∀ u, S u → u ∈ U out
  up : ∀ u ∈ U before, u ∈ U out
  got : ∀ i' f u v, fs[i']? = some f → u.1 = f.id → srcU fs u = some v → v ∈ U before → (i' < i ∨ (i' = i ∧ u.2 < a)) → u ∈ U out
section
variable {fs : List Fl} {S : Un → Prop} {before out : List Lt} {i : Nat}
theorem srcU_nn {u v : Un} (h : srcU fs u = some v) : 0 ≤ u.2 := by
  rw [srcU] at h
  cases hf : getF fs u.1 with
  | none => rw [hf] at h; simp at h
  | some f =>
    rw [hf] at h
    simp only [Option.bind_some] at h
    by_cases h0 : u.2 < 0
    · rw [if_pos h0] at h; cases h
    · omega
theorem RInv.start (h1 : Canon out) (h2 : ∀ u ∈ U out, Lat fs S u) (h3 : ∀ u, S u → u ∈ U out) : RInv fs S out out 0 0 :=
  ⟨h1, h2, h3, fun _ h => h, fun i' f u v _ _ hs _ hor => by have := srcU_nn hs; omega⟩
/-- one piece of a part is put into the set -/
theorem RInv.put {a : Int} (h : RInv fs S before out i a) {f : Fl} (hi : Ids fs) (hfi : fs[i]? = some f) (hp : ∀ x ∈ f.parts, 1 ≤ x.2.2) {k : Nat} {p x : Lt} (hk : f.parts[k]? = some p)
    (hx : ∀ u ∈ ul x, u ∈ ul p ∧ Lat fs S u) (hx1 : x.1 = p.1) (hc : (∀ u ∈ ul (shL f.id (totL (f.parts.take k)) p x), Lat fs S u) → Canon (setS (out ++ [shL f.id (totL (f.parts.take k)) p x]))) :
    (∀ u ∈ ul (shL f.id (totL (f.parts.take k)) p x), Lat fs S u) ∧ RInv fs S before (setS (out ++ [shL f.id (totL (f.parts.take k)) p x])) i a := by
  have hf := (hi.get hfi).2
  have hp0 : ∀ x ∈ f.parts, 0 ≤ x.2.2 := fun x hx => by have := hp x hx; omega
  have hs : ∀ u ∈ ul (shL f.id (totL (f.parts.take k)) p x), Lat fs S u := fun u hu => by
    obtain ⟨h1, h2⟩ := mem_sh.1 hu
    obtain ⟨h3, h4⟩ := hx _ h2
    have h5 := mem_ul.1 h3
    simp only at h5
    have h6 := part_src hf hp0 hk (j := u.2 - totL (f.parts.take k)) (by omega) (by omega)
    refine .src (v := _) ?_ h4
    rw [hx1, ← h6]
    congr 1
    exact Prod.ext h1 (by simp only; omega)
  have hm : ∀ u, u ∈ U (setS (out ++ [shL f.id (totL (f.parts.take k)) p x])) ↔ u ∈ U out ∨ u ∈ ul (shL f.id (totL (f.parts.take k)) p x) := fun u => by
    rw [mem_setS, U_app, List.mem_append, U_one]
  refine ⟨hs, hc hs, fun u hu => ?_, fun u hu => (hm u).2 (.inl (h.base u hu)), fun u hu => (hm u).2 (.inl (h.up u hu)), fun i' f' u v h1 h2 h3 h4 h5 => (hm u).2 (.inl (h.got i' f' u v h1 h2 h3 h4 h5))⟩
  rcases (hm u).1 hu with hu | hu
  · exact h.sound u hu
  · exact hs u hu
/-- all pieces of a part are in -/
theorem RInv.part {out' : List Lt} {f : Fl} {k : Nat} (h : RInv fs S before out i (totL (f.parts.take k))) (h' : RInv fs S before out' i (totL (f.parts.take k))) (hi : Ids fs) (hfi : fs[i]? = some f) (hp : ∀ x ∈ f.parts, 1 ≤ x.2.2) {p : Lt} (hk : f.parts[k]? = some p)
    (hall : ∀ v, v ∈ ul p → v ∈ U out → (f.id, totL (f.parts.take k) + (v.2 - p.2.1)) ∈ U out') : RInv fs S before out' i (totL (f.parts.take (k + 1))) := by
  have hp0 : ∀ x ∈ f.parts, 0 ≤ x.2.2 := fun x hx => by have := hp x hx; omega
  have htk : f.parts.take (k + 1) = f.parts.take k ++ [p] := by rw [List.take_add_one, hk]; rfl
  have hf := (hi.get hfi).2
  refine ⟨h'.can, h'.sound, h'.base, h'.up, fun i' f' u v h1 h2 h3 h4 h5 => ?_⟩
  rcases h5 with h5 | ⟨h5, h6⟩
  · exact h'.got i' f' u v h1 h2 h3 h4 (.inl h5)
  · rcases Int.lt_or_le u.2 (totL (f.parts.take k)) with h7 | h7
    · exact h'.got i' f' u v h1 h2 h3 h4 (.inr ⟨h5, h7⟩)
    · subst h5
      rw [hfi] at h1
      injection h1 with h1
      subst h1
      rw [htk, totL_app, totL_cons, totL_nil] at h6
      have h8 := part_src hf hp0 hk (j := u.2 - totL (f.parts.take k)) (by omega) (by omega)
      have e : (f.id, totL (f.parts.take k) + (u.2 - totL (f.parts.take k))) = u := Prod.ext h2.symm (by simp only; omega)
      rw [e, h3] at h8
      injection h8 with h8
      have h9 := hall v (by rw [h8]; exact mem_ul.2 ⟨rfl, by simp only; omega, by simp only; omega⟩) (h.up v h4)
      rw [h8] at h9
      simp only at h9
      rw [show p.2.1 + (u.2 - totL (f.parts.take k)) - p.2.1 = u.2 - totL (f.parts.take k) by omega, e] at h9
      exact h9
theorem RInv.next {f : Fl} (h : RInv fs S before out i (totL f.parts)) (hfi : fs[i]? = some f) (hi : Ids fs) (hp : ∀ x ∈ f.parts, 0 ≤ x.2.2) : RInv fs S before out (i + 1) 0 := by
  refine ⟨h.can, h.sound, h.base, h.up, fun i' f' u v h1 h2 h3 h4 h5 => ?_⟩
  rcases h5 with h5 | ⟨_, h5⟩
  · rcases Nat.lt_or_ge i' i with h6 | h6
    · exact h.got i' f' u v h1 h2 h3 h4 (.inl h6)
    · have e : i' = i := by omega
      subst e
      refine h.got i' f' u v h1 h2 h3 h4 (.inr ⟨rfl, ?_⟩)
      rw [hfi] at h1
      injection h1 with h1
      subst h1
      obtain ⟨k, p, j, g1, g2, g3, g4, _⟩ := src_part (by rw [h2]; exact (hi.get hfi).2) hp h3
      have htk : f.parts.take (k + 1) = f.parts.take k ++ [p] := by rw [List.take_add_one, g1]; rfl
      have h7 := (totL_le_take hp (k + 1)).2
      rw [htk, totL_app, totL_cons, totL_nil] at h7
      omega
  · have := srcU_nn h3; omega
/-- nothing has changed: the set is whole -/
theorem RInv.done (h : RInv fs S out out fs.length 0) (hg : GOk fs) : LatL fs S out := by
  refine ⟨h.can, fun u => ⟨h.sound u, fun hu => ?_⟩⟩
  induction hu with
  | base h1 => exact h.base _ h1
  | @src u v h1 _ ih =>
    obtain ⟨_, f, h2, _, _⟩ := hg.src h1
    obtain ⟨hm, hid⟩ := getF_some h2
    obtain ⟨i', hi'⟩ := List.getElem?_of_mem hm
    exact h.got i' f u v hi' hid.symm h1 ih (.inl (List.getElem?_eq_some_iff.1 hi').1)
end
end Go.Proofs.Ytmeplpiamkaniaa
/- Plain facts for exact proportions: long division by digits, division bit by bit, fractions. -/
namespace Go.Proofs.Ytmeplpiamkaniaa
set_option linter.unusedVariables false
set_option linter.unusedSimpArgs false

section
variable {u y y1 y0 u1 q r B : Int}
theorem kd_lt (hy : 0 < y) (hu : u < y) (h1 : u1 < B) (hB : 0 < B) : (u * B + u1) / y < B := by
  rw [Int.ediv_lt_iff_lt_mul hy]
  have h : (u + 1) * B ≤ y * B := Int.mul_le_mul_of_nonneg_right (by omega) (by omega)
  rw [Int.add_mul, Int.one_mul, Int.mul_comm y B] at h
  omega
theorem kd_mul (hy : y = y1 * B + y0) (hq : u = q * y1 + r) : q * y = u * B - r * B + q * y0 := by
  subst hy; subst hq; grind
theorem kd_over (h0 : 0 < y) (hy : y = y1 * B + y0) (hq : u = q * y1 + r) (h : r * B + u1 < q * y0) : (u * B + u1) / y ≤ q - 1 := by
  have hm := kd_mul hy hq
  have : (u * B + u1) / y < q := by rw [Int.ediv_lt_iff_lt_mul h0]; omega
  omega
theorem kd_fit (h0 : 0 < y) (hy : y = y1 * B + y0) (hq : u = q * y1 + r) (h : q * y0 ≤ r * B + u1) : q ≤ (u * B + u1) / y := by
  have hm := kd_mul hy hq
  rw [Int.le_ediv_iff_mul_le h0]; omega
theorem kd_far (hB : 0 < B) (hy1 : 0 < y1) (hy0 : 0 ≤ y0) (hy0' : y0 < B) (hy : y = y1 * B + y0) (hu : u < y) (hu1 : 0 ≤ u1) (hq : u = q * y1 + r) (hr : B ≤ r) : q < B ∧ q * y0 ≤ r * B + u1 := by
  have h1 : q * y1 < B * y1 := by grind
  have h2 : q < B := by
    rcases Int.lt_or_le q B with h | h
    · exact h
    · exact absurd (Int.mul_le_mul_of_nonneg_right h (Int.le_of_lt hy1)) (by omega)
  refine ⟨h2, ?_⟩
  have h3 : q * y0 ≤ B * y0 := Int.mul_le_mul_of_nonneg_right (by omega) hy0
  have h4 : B * y0 ≤ B * B := Int.mul_le_mul_of_nonneg_left (by omega) (by omega)
  have h5 : B * B ≤ r * B := Int.mul_le_mul_of_nonneg_right hr (by omega)
  omega
end

section
variable {d n m : Int}
theorem dv_add (hd : 0 < d) (n m : Int) : (n + m) / d = n / d + m / d + (if d ≤ n % d + m % d then 1 else 0) ∧ (n + m) % d = n % d + m % d - (if d ≤ n % d + m % d then d else 0) := by
  rw [Int.ediv_emod_unique hd]
  have h1 := Int.mul_ediv_add_emod n d
  have h2 := Int.mul_ediv_add_emod m d
  have h3 := Int.emod_nonneg n (show d ≠ 0 by omega)
  have h4 := Int.emod_nonneg m (show d ≠ 0 by omega)
  have h5 := Int.emod_lt_of_pos n hd
  have h6 := Int.emod_lt_of_pos m hd
  split <;> refine ⟨?_, by omega, by omega⟩ <;> grind
end

/-- the state of the division bit by bit: p of a0 * b are divided already; a is what is left of a0 below 2 * bit -/
def DvAt (a0 b d : Int) (bit a q r : Int) : Prop :=
  ∃ p : Int, 0 ≤ p ∧ q = p * b / d ∧ r = p * b % d ∧ ((bit = 0 ∧ a0 = p) ∨ ∃ j : Nat, j ≤ 60 ∧ bit = 2 ^ j ∧ a0 = p * (2 * bit) + a ∧ 0 ≤ a ∧ a < 2 * bit)
theorem DvAt.start {a0 b d : Int} (h0 : 0 ≤ a0) (h1 : a0 ≤ 1152921504606846976) : DvAt a0 b d 1152921504606846976 a0 0 0 :=
  ⟨0, by omega, by simp, by simp, .inr ⟨60, by omega, by decide, by omega, h0, by omega⟩⟩
theorem DvAt.done {a0 b d a q r : Int} (h : DvAt a0 b d 0 a q r) : q = a0 * b / d ∧ r = a0 * b % d := by
  obtain ⟨p, _, hq, hr, ⟨_, rfl⟩ | ⟨j, _, hj, _⟩⟩ := h
  · exact ⟨hq, hr⟩
  · exact absurd hj (by have : (0 : Int) < 2 ^ j := Int.pow_pos (by omega); omega)
theorem DvAt.r {a0 b d bit a q r : Int} (hd : 0 < d) (h : DvAt a0 b d bit a q r) : 0 ≤ r ∧ r < d := by
  obtain ⟨p, _, hq, rfl, _⟩ := h
  exact ⟨Int.emod_nonneg _ (by omega), Int.emod_lt_of_pos _ hd⟩
theorem DvAt.big {a0 b d bit a q r M : Int} (hd : 0 < d) (hb : 0 ≤ b) (h : DvAt a0 b d bit a q r) (hM : M < q) : M < a0 * b / d := by
  obtain ⟨p, hp, rfl, _, hor⟩ := h
  have : p ≤ a0 := by
    rcases hor with ⟨_, rfl⟩ | ⟨j, _, hj, e, h0, _⟩
    · omega
    · have : (0 : Int) < 2 ^ j := Int.pow_pos (by omega)
      have : p * 1 ≤ p * (2 * bit) := Int.mul_le_mul_of_nonneg_left (by omega) hp
      omega
  have : p * b ≤ a0 * b := Int.mul_le_mul_of_nonneg_right this hb
  have := Int.ediv_le_ediv hd this
  omega
theorem half_pow (j : Nat) : (2 : Int) ^ (j + 1) / 2 = 2 ^ j := by rw [Int.pow_succ]; omega
/-- one round -/
theorem DvAt.step {a0 b d bit a q r : Int} (hd : 0 < d) (hbit : 0 < bit) (h : DvAt a0 b d bit a q r) :
    let q1 := 2 * q + (if d ≤ 2 * r then 1 else 0)
    let r1 := 2 * r - (if d ≤ 2 * r then d else 0)
    (a < bit → DvAt a0 b d (bit / 2) a q1 r1) ∧ (bit ≤ a → DvAt a0 b d (bit / 2) (a - bit) (q1 + b / d + (if d ≤ r1 + b % d then 1 else 0)) (r1 + b % d - (if d ≤ r1 + b % d then d else 0))) := by
  obtain ⟨p, hp, rfl, rfl, hor⟩ := h
  rcases hor with ⟨h0, _⟩ | ⟨j, hj, hbj, ha, ha0, ha1⟩
  · omega
  intro q1 r1
  obtain ⟨e1, e2⟩ := dv_add hd (p * b) (p * b)
  have f1 : (2 * p) * b / d = q1 := by rw [show 2 * p * b = p * b + p * b by grind, e1]; simp only [q1]; rw [show 2 * (p * b % d) = p * b % d + p * b % d by omega]; omega
  have f2 : (2 * p) * b % d = r1 := by rw [show 2 * p * b = p * b + p * b by grind, e2]; simp only [r1]; rw [show 2 * (p * b % d) = p * b % d + p * b % d by omega]
  have hnew : ∀ (p' a' : Int), a0 = p' * bit + a' → 0 ≤ a' → a' < bit → ((bit / 2 = 0 ∧ a0 = p') ∨ ∃ j : Nat, j ≤ 60 ∧ bit / 2 = 2 ^ j ∧ a0 = p' * (2 * (bit / 2)) + a' ∧ 0 ≤ a' ∧ a' < 2 * (bit / 2)) := by
    intro p' a' e h1 h2
    match j, hj, hbj with
    | 0, _, hbj => left; rw [hbj] at e h2 ⊢; simp at *; omega
    | j + 1, hj, hbj =>
      right
      have hp2 : (2 : Int) ^ (j + 1) = 2 * 2 ^ j := by rw [Int.pow_succ]; omega
      have hh : bit / 2 = 2 ^ j := by rw [hbj]; exact half_pow j
      refine ⟨j, by omega, hh, ?_, h1, ?_⟩
      · rw [hh, ← hp2, ← hbj]; exact e
      · rw [hh, ← hp2, ← hbj]; exact h2
  refine ⟨fun hlt => ⟨2 * p, by omega, f1.symm, f2.symm, hnew _ _ (by rw [ha]; grind) ha0 hlt⟩, fun hle => ⟨2 * p + 1, by omega, ?_, ?_, hnew _ _ (by rw [ha]; grind) (by omega) (by omega)⟩⟩
  · rw [show (2 * p + 1) * b = 2 * p * b + b by grind, (dv_add hd (2 * p * b) b).1, f1, f2]
  · rw [show (2 * p + 1) * b = 2 * p * b + b by grind, (dv_add hd (2 * p * b) b).2, f2]

/-- a/b against c/d -/
def cmpF (a b c d : Int) : Int := if a * d < c * b then -1 else if a * d = c * b then 0 else 1
theorem cmpF_gt {a b c d : Int} (hb : 0 < b) (hd : 0 < d) (h : c / d < a / b) : cmpF a b c d = 1 := by
  have h1 : c * b < a * d := by
    have e1 := Int.mul_ediv_add_emod a b
    have e2 := Int.mul_ediv_add_emod c d
    have m1 := Int.emod_nonneg a (show b ≠ 0 by omega)
    have m2 := Int.emod_lt_of_pos c hd
    have h2 : (c / d + 1) * (b * d) ≤ (a / b) * (b * d) := Int.mul_le_mul_of_nonneg_right (by omega) (Int.le_of_lt (Int.mul_pos hb hd))
    have h3 : c * b < (c / d + 1) * (b * d) := by
      have : c * b < (d * (c / d) + d) * b := Int.mul_lt_mul_of_pos_right (by omega) hb
      grind
    have h4 : (a / b) * (b * d) ≤ a * d := by
      have : (b * (a / b)) * d ≤ a * d := Int.mul_le_mul_of_nonneg_right (by omega) (by omega)
      grind
    omega
  unfold cmpF; rw [if_neg (by omega), if_neg (by omega)]
theorem cmpF_neg (a b c d : Int) : cmpF c d a b = - cmpF a b c d := by
  unfold cmpF
  by_cases h : a * d < c * b
  · rw [if_pos h, if_neg (by omega), if_neg (by omega)]; rfl
  · rw [if_neg h]
    by_cases h2 : a * d = c * b
    · rw [if_pos h2, if_neg (by omega), if_pos h2.symm]; rfl
    · rw [if_neg h2, if_pos (by omega)]
theorem cmpF_lt {a b c d : Int} (hb : 0 < b) (hd : 0 < d) (h : a / b < c / d) : cmpF a b c d = -1 := by
  rw [cmpF_neg, cmpF_gt hd hb h]
theorem cmpF_rests {a b c d : Int} (h : a / b = c / d) : a * d - c * b = (a % b) * d - (c % d) * b := by
  have e1 := Int.mul_ediv_add_emod a b
  have e2 := Int.mul_ediv_add_emod c d
  generalize a % b = p at *
  generalize c % d = q at *
  rw [h] at e1
  generalize c / d = k at *
  subst e1 e2
  grind
theorem cmpF_zero {a b c d : Int} (h : a / b = c / d) (hp : a % b = 0) (hq : c % d = 0) : cmpF a b c d = 0 := by
  have := cmpF_rests h
  rw [hp, hq] at this
  simp at this
  unfold cmpF; rw [if_neg (by omega), if_pos (by omega)]
theorem cmpF_pz {a b c d : Int} (hb : 0 < b) (h : a / b = c / d) (hp : a % b = 0) (hq : 0 < c % d) : cmpF a b c d = -1 := by
  have := cmpF_rests h
  rw [hp] at this
  simp at this
  have := Int.mul_pos hq hb
  unfold cmpF; rw [if_pos (by omega)]
theorem cmpF_qz {a b c d : Int} (hd : 0 < d) (h : a / b = c / d) (hp : 0 < a % b) (hq : c % d = 0) : cmpF a b c d = 1 := by
  rw [cmpF_neg, cmpF_pz hd h.symm hq hp]; rfl
theorem cmpF_next {a b c d : Int} (h : a / b = c / d) : cmpF a b c d = - cmpF b (a % b) d (c % d) := by
  have e := cmpF_rests h
  rw [← cmpF_neg]
  have e' : d * (a % b) - b * (c % d) = a * d - c * b := by rw [e, Int.mul_comm d, Int.mul_comm b]
  have l1 : (d * (a % b) < b * (c % d)) ↔ (a * d < c * b) := by omega
  have l2 : (d * (a % b) = b * (c % d)) ↔ (a * d = c * b) := by omega
  unfold cmpF
  simp only [l1, l2]
/-- two words each, the high ones first -/
theorem cmpF_words (x z : Int) :
    (if x / 18446744073709551616 < z / 18446744073709551616 then (-1 : Int) else if x / 18446744073709551616 = z / 18446744073709551616 then (if x % 18446744073709551616 < z % 18446744073709551616 then -1 else if x % 18446744073709551616 = z % 18446744073709551616 then 0 else 1) else 1) = (if x < z then -1 else if x = z then 0 else 1) := by
  split
  · rw [if_pos (by omega)]
  · split
    · split
      · rw [if_pos (by omega)]
      · split
        · rw [if_neg (by omega), if_pos (by omega)]
        · rw [if_neg (by omega), if_neg (by omega)]
    · rw [if_neg (by omega), if_neg (by omega)]
end Go.Proofs.Ytmeplpiamkaniaa
/- Plain facts for Split: quotas, the order by rests, one more for the first ones. -/
namespace Go.Proofs.Ytmeplpiamkaniaa
set_option linter.unusedVariables false
set_option linter.unusedSimpArgs false

/-- i comes before j: its rest is greater, or equal and i is less -/
def prec (rs : List Int) (i j : Nat) : Bool := decide (rs.getD j 0 < rs.getD i 0) || (decide (rs.getD i 0 = rs.getD j 0) && decide (i < j))
theorem prec_iff {rs : List Int} {i j : Nat} : prec rs i j = true ↔ rs.getD j 0 < rs.getD i 0 ∨ (rs.getD i 0 = rs.getD j 0 ∧ i < j) := by simp [prec]
def ordL (rs : List Int) : List Nat := (List.range rs.length).mergeSort fun i j => !prec rs j i
theorem ordL_perm (rs : List Int) : (ordL rs).Perm (List.range rs.length) := List.mergeSort_perm _ _
theorem ordL_len (rs : List Int) : (ordL rs).length = rs.length := by rw [(ordL_perm rs).length_eq]; simp
theorem ordL_mem {rs : List Int} {i : Nat} : i ∈ ordL rs ↔ i < rs.length := by rw [(ordL_perm rs).mem_iff]; simp
theorem ordL_nodup (rs : List Int) : (ordL rs).Nodup := (ordL_perm rs).nodup_iff.2 List.nodup_range
theorem ordL_sorted (rs : List Int) : (ordL rs).Pairwise fun i j => prec rs j i = false := by
  have h := List.pairwise_mergeSort (le := fun i j => !prec rs j i) (fun a b c h1 h2 => by
      simp only [Bool.not_eq_true', Bool.eq_false_iff, ne_eq, prec_iff] at *; omega) (fun a b => by
      by_cases h : prec rs b a = true
      · have : ¬ prec rs a b = true := by rw [prec_iff] at *; omega
        simp [this]
      · simp [h]) (List.range rs.length)
  exact h.imp fun h => by simpa using h
theorem prec_total {rs : List Int} {i j : Nat} (h : i ≠ j) (hn : prec rs j i = false) : prec rs i j = true := by
  rw [prec_iff]
  have : ¬ prec rs j i = true := by simp [hn]
  rw [prec_iff] at this
  omega
theorem ordL_prec (rs : List Int) : (ordL rs).Pairwise fun i j => prec rs i j = true := by
  have h1 := ordL_sorted rs
  have h2 : (ordL rs).Pairwise fun i j => i ≠ j := ordL_nodup rs
  exact (h1.and h2).imp fun ⟨a, b⟩ => prec_total b a

/-- one more for each of the places -/
def bump (l : List Int) : List Nat → List Int
  | [] => l
  | i :: is => bump (l.set i (l.getD i 0 + 1)) is
theorem bump_len (l : List Int) (is : List Nat) : (bump l is).length = l.length := by
  induction is generalizing l with
  | nil => rfl
  | cons i is ih => rw [bump, ih]; simp
theorem bump_snoc (l : List Int) (is : List Nat) (i : Nat) : bump l (is ++ [i]) = (bump l is).set i ((bump l is).getD i 0 + 1) := by
  induction is generalizing l with
  | nil => rfl
  | cons j is ih => simp only [List.cons_append, bump]; rw [ih]
theorem bump_get (l : List Int) (is : List Nat) (h : is.Nodup) (j : Nat) (hj : j < l.length) : (bump l is).getD j 0 = l.getD j 0 + (if j ∈ is then 1 else 0) := by
  induction is generalizing l with
  | nil => simp [bump]
  | cons i is ih =>
    have hn := List.nodup_cons.1 h
    rw [bump, ih _ hn.2 (by simpa using hj)]
    simp only [List.getD_eq_getElem?_getD, List.getElem?_set, List.mem_cons]
    by_cases e : i = j
    · subst e
      rw [if_pos rfl, if_pos hj, if_neg hn.1, if_pos (.inl rfl)]
      simp
    · rw [if_neg e]
      by_cases hm : j ∈ is
      · simp [hm]
      · have : ¬ (j = i ∨ j ∈ is) := by rintro (h | h); exact e h.symm; exact hm h
        rw [if_neg hm, if_neg this]
def sumL (l : List Int) : Int := l.sum
def quos (t S : Int) (ws : List Int) : List Int := ws.map fun x => t * x / S
def rems (t S : Int) (ws : List Int) : List Int := ws.map fun x => t * x % S
def leftS (t S : Int) (ws : List Int) : Nat := (t - (quos t S ws).sum).toNat
def splitOk (t : Int) (ws : List Int) : Bool := okU t && (ws.all okU && (decide (0 < ws.sum) && decide (ws.sum ≤ 1152921504606846976)))
def splitL (t : Int) (ws : List Int) : List Int := bump (quos t ws.sum ws) ((ordL (rems t ws.sum ws)).take (leftS t ws.sum ws))
def splitS (t : Int) (ws : List Int) : List Int × Int := if splitOk t ws then (splitL t ws, 0) else ([], 1)

theorem sum_nonneg {l : List Int} (h : ∀ x ∈ l, 0 ≤ x) : 0 ≤ l.sum := by
  induction l with
  | nil => simp
  | cons a l ih => rw [List.sum_cons]; have := ih fun x hx => h x (by simp [hx]); have := h a (by simp); omega
theorem le_sum {l : List Int} (h : ∀ x ∈ l, 0 ≤ x) {x : Int} (hx : x ∈ l) : x ≤ l.sum := by
  induction l with
  | nil => simp at hx
  | cons a l ih =>
    rw [List.sum_cons]
    have h0 := sum_nonneg (l := l) fun x hx => h x (by simp [hx])
    have ha := h a (by simp)
    rcases List.mem_cons.1 hx with rfl | hx
    · omega
    · have := ih (fun x hx => h x (by simp [hx])) hx; omega
theorem sum_take_le {l : List Int} (h : ∀ x ∈ l, 0 ≤ x) (k : Nat) : (l.take k).sum ≤ l.sum := by
  have := List.take_append_drop k l
  have h2 : l.sum = (l.take k).sum + (l.drop k).sum := by rw [← List.sum_append, this]
  have := sum_nonneg (l := l.drop k) fun x hx => h x (List.mem_of_mem_drop hx)
  omega
/-- the quotas and the rests make up the total -/
theorem quos_rems (t S : Int) (ws : List Int) : S * (quos t S ws).sum + (rems t S ws).sum = t * ws.sum := by
  induction ws with
  | nil => simp [quos, rems]
  | cons a l ih =>
    simp only [quos, rems, List.map_cons, List.sum_cons] at *
    have := Int.mul_ediv_add_emod (t * a) S
    grind
theorem rems_nonneg {t S : Int} (hS : 0 < S) {ws : List Int} : ∀ x ∈ rems t S ws, 0 ≤ x ∧ x < S := by
  intro x hx
  simp only [rems, List.mem_map] at hx
  obtain ⟨y, _, rfl⟩ := hx
  exact ⟨Int.emod_nonneg _ (by omega), Int.emod_lt_of_pos _ hS⟩
theorem quos_nonneg {t S : Int} (ht : 0 ≤ t) (hS : 0 < S) {ws : List Int} (hw : ∀ x ∈ ws, 0 ≤ x) : ∀ x ∈ quos t S ws, 0 ≤ x := by
  intro x hx
  simp only [quos, List.mem_map] at hx
  obtain ⟨y, hy, rfl⟩ := hx
  exact Int.ediv_nonneg (Int.mul_nonneg ht (hw y hy)) (by omega)
/-- the sum of numbers below S, of which c are not 0, is at most c * (S - 1) -/
theorem sum_le_count {S : Int} (hS : 0 < S) : ∀ (l : List Int), (∀ x ∈ l, 0 ≤ x ∧ x < S) → l.sum ≤ (l.countP fun x => decide (0 < x) : Nat) * (S - 1)
  | [], _ => by simp
  | a :: l, h => by
    have ih := sum_le_count hS l fun x hx => h x (by simp [hx])
    have ha := h a (by simp)
    rw [List.sum_cons, List.countP_cons]
    by_cases h0 : 0 < a
    · simp only [h0, decide_true, if_true]
      rw [Int.natCast_add, Int.add_mul]; omega
    · simp only [h0, decide_false, Bool.false_eq_true, if_false, Nat.add_zero]; omega
theorem left_facts {t : Int} {ws : List Int} (hS : 0 < ws.sum) :
    0 ≤ t - (quos t ws.sum ws).sum ∧ leftS t ws.sum ws ≤ (rems t ws.sum ws).countP fun x => decide (0 < x) := by
  have h1 := quos_rems t ws.sum ws
  have h2 := rems_nonneg (t := t) hS (ws := ws)
  have h3 := sum_nonneg fun x hx => (h2 x hx).1
  have h4 := sum_le_count hS _ h2
  generalize hq : (quos t ws.sum ws).sum = q at *
  generalize hr : (rems t ws.sum ws).sum = r at *
  generalize (rems t ws.sum ws).countP (fun x => decide (0 < x)) = c at *
  unfold leftS
  rw [hq]
  generalize ws.sum = S at *
  have e : S * (t - q) = r := by grind
  have hge : 0 ≤ t - q := by
    rcases Int.lt_or_le (t - q) 0 with h | h
    · have := Int.mul_neg_of_pos_of_neg hS h; omega
    · exact h
  refine ⟨hge, ?_⟩
  have hle : t - q ≤ c := by
    rcases Int.lt_or_le (c : Int) (t - q) with h | h
    · have a1 : S * ((c : Int) + 1) ≤ S * (t - q) := Int.mul_le_mul_of_nonneg_left (by omega) (by omega)
      have a2 : S * ((c : Int) + 1) = c * (S - 1) + c + S := by grind
      omega
    · exact h
  omega
theorem left_le {t : Int} {ws : List Int} (hS : 0 < ws.sum) : leftS t ws.sum ws ≤ ws.length := by
  have := (left_facts (t := t) hS).2
  have := List.countP_le_length (p := fun x : Int => decide (0 < x)) (l := rems t ws.sum ws)
  simp only [rems, List.length_map] at *
  omega
/-- the rests that get one more are not 0 -/
theorem first_pos {rs : List Int} {m : Nat} (hm : m ≤ rs.countP fun x => decide (0 < x)) {i : Nat} (hi : i ∈ (ordL rs).take m) : 0 < rs.getD i 0 := by
  rcases Int.lt_or_le 0 (rs.getD i 0) with h | h
  · exact h
  exfalso
  have hil : i < rs.length := ordL_mem.1 (List.mem_of_mem_take hi)
  -- every place with a positive rest comes before i
  obtain ⟨k, hk, hki⟩ := List.getElem_of_mem hi
  have hkm : k < m := by rw [List.length_take] at hk; omega
  have hkl : k < (ordL rs).length := by rw [List.length_take] at hk; omega
  rw [List.getElem_take] at hki
  have hsp : (ordL rs).countP (fun j => decide (0 < rs.getD j 0)) = rs.countP fun x => decide (0 < x) := by
    rw [(ordL_perm rs).countP_eq]
    have : rs = (List.range rs.length).map fun j => rs.getD j 0 := by
      apply List.ext_getElem?
      intro j
      by_cases hj : j < rs.length
      · simp [hj]
      · simp [hj]
    conv => rhs; rw [this, List.countP_map]
    rfl
  have hcut : (ordL rs).countP (fun j => decide (0 < rs.getD j 0)) ≤ k := by
    rw [← List.take_append_drop k (ordL rs), List.countP_append]
    have hz : ((ordL rs).drop k).countP (fun j => decide (0 < rs.getD j 0)) = 0 := by
      rw [List.countP_eq_zero]
      intro j hj
      rw [List.drop_eq_getElem_cons hkl, List.mem_cons] at hj
      simp only [decide_eq_true_eq, Int.not_lt]
      rcases hj with rfl | hj
      · rw [hki]; exact h
      · have hp : prec rs ((ordL rs)[k]) j = true := by
          have h1 := ordL_prec rs
          rw [← List.take_append_drop k (ordL rs), List.pairwise_append] at h1
          have h2 := h1.2.1
          rw [List.drop_eq_getElem_cons hkl, List.pairwise_cons] at h2
          exact h2.1 j hj
        rw [hki, prec_iff] at hp
        omega
    have := List.countP_le_length (p := fun j => decide (0 < rs.getD j 0)) (l := (ordL rs).take k)
    rw [List.length_take] at this
    omega
  omega
end Go.Proofs.Ytmeplpiamkaniaa
