/- Lemmas of the claim, joined: YA YB YC YD YH YI YE YF YG YK YL YM YN DY DRp DIn DBg YW. No condition. -/
import Derived.Test.YthcicfolabngcaaJC
import Derived.Laws.MakeOwn
import Derived.Test.YthcicfolabngcaaJB
import Derived.Deep.RegionLaw
import Derived.Test.YthcicfolabngcaaJA
/- The model of a disk in memory. -/
namespace Go.Proofs.Ythcicfolabngcaa
open Go.RowKit

/-- a block of 64 values -/
def RowV (w : World) (b : Nat) (T : TypeId) (F : Nat → Value) : Prop := ∃ cs : Array Value, w.heap[b]? = some (.cells cs T (0, 0)) ∧ cs.size = 64 ∧ ∀ i, i < 64 → cs[i]? = some (F i)
theorem RowV.cell {w : World} {b : Nat} {T : TypeId} {F : Nat → Value} (h : RowV w b T F) {i : Nat} (hi : i < 64) : w.cell? ⟨b, i, none⟩ = some (F i) := by
  obtain ⟨cs, h1, h2, h3⟩ := h
  rw [cell_of_row _ _ _ _ _ _ h1]
  exact h3 i hi
theorem RowV.frz {w : World} {b : Nat} {T : TypeId} {F : Nat → Value} (h : RowV w b T F) (i : Nat) : w.frozen? ⟨b, i, none⟩ = false := by
  obtain ⟨cs, h1, _⟩ := h
  exact frozen_of_row _ _ _ _ _ h1
theorem RowV.same {w w' : World} {b : Nat} {T : TypeId} {F : Nat → Value} (h : RowV w b T F) (hb : w'.heap[b]? = w.heap[b]?) : RowV w' b T F := by
  obtain ⟨cs, h1, h2⟩ := h
  exact ⟨cs, hb.trans h1, h2⟩
theorem RowV.ext {w : World} {b : Nat} {T : TypeId} {F G : Nat → Value} (h : RowV w b T F) (e : ∀ i, i < 64 → F i = G i) : RowV w b T G := by
  obtain ⟨cs, h1, h2, h3⟩ := h
  exact ⟨cs, h1, h2, fun i hi => by rw [h3 i hi, e i hi]⟩
theorem RowV.put {w : World} {b : Nat} {T : TypeId} {F : Nat → Value} (h : RowV w b T F) (i : Nat) (v : Value) : RowV (w.setCell ⟨b, i, none⟩ v) b T (fun j => if j = i then v else F j) := by
  obtain ⟨cs, h1, h2, h3⟩ := h
  refine ⟨cs.setIfInBounds i v, by rw [heap_setCell_same _ _ _ _ _ _ h1], by simpa using h2, fun j hj => ?_⟩
  show _ = some (if j = i then v else F j)
  rw [Array.getElem?_setIfInBounds]
  by_cases e : j = i
  · subst e; rw [if_pos rfl, if_pos (by omega), if_pos rfl]
  · rw [if_neg (fun e' => e e'.symm), if_neg e]; exact h3 j hj
theorem RowV.neq {w : World} {b g : Nat} {T T' : TypeId} {F : Nat → Value} {cs : Array Value} (h : RowV w b T F) (hg : w.heap[g]? = some (.cells cs T' (0, 0))) (hT : T ≠ T') : b ≠ g := by
  obtain ⟨cs', h1, _⟩ := h
  intro e
  rw [e, hg] at h1
  injection h1 with h1
  injection h1 with _ h1
  exact hT h1.symm
theorem RowV.own {w : World} {b : Nat} {T T' : TypeId} {F : Nat → Value} {k : IntKind} {A : Option Addr} {n c base : Nat} {l : List Int} (h : RowV w b T F) (hO : Own k T' w base A n c l) (hT : T' ≠ T) : ob A ≠ some b := by
  obtain ⟨cs', h1, _⟩ := h
  exact hO.neq_ h1 hT

def mheadV (s : DS) (bb fb : Nat) : Obj := .cells #[.int .i64 s.room, .slice (some ⟨bb, 0, none⟩) 64 64, .slice (some ⟨fb, 0, none⟩) 64 64, .bool s.off, .int .i64 s.plan] 49 (0, 0)
def bytV (s : DS) (A : Int → Option Addr) (c : Int → Nat) (i : Nat) : Value := .slice (A i) (s.b i).length (c i)
def firV (s : DS) (i : Nat) : Value := .int .i64 (s.firm i : Nat)
/-- the struct lies in block g, its slices in the blocks bb and fb, each file has an own row; all of its blocks are among X -/
structure ModM (w : World) (X : Nat → Prop) (g bb fb : Nat) (s : DS) (A : Int → Option Addr) (c : Int → Nat) : Prop where
  hd : w.heap[g]? = some (mheadV s bb fb)
  hb : RowV w bb 27 (bytV s A c)
  hf : RowV w fb 3 (firV s)
  row : ∀ i, isF i = true → Own .u8 5 w 0 (A i) (s.b i).length (c i) (s.b i)
  ap : ∀ i j, i ≠ j → isF i = true → isF j = true → apartS (A i) (A j)
  xg : X g
  xb : X bb
  xf : X fb
  xr : ∀ i, isF i = true → ∀ b, ob (A i) = some b → X b
  xl : ∀ i, X i → i < w.heap.size
  ok : DOk s
def ModAt (w : World) (X : Nat → Prop) (g : Nat) (s : DS) : Prop := ∃ bb fb A c, ModM w X g bb fb s A c
def AfterM (w : World) (X : Nat → Prop) (g : Nat) (s : DS) (w' : World) : Prop := ∃ X', ModAt w' X' g s ∧ Ex X w w' ∧ ∀ i, X' i → X i ∨ w.heap.size ≤ i
section
variable {w w' : World} {X X' : Nat → Prop} {g bb fb : Nat} {s s' : DS} {A : Int → Option Addr} {c : Int → Nat}
theorem ModM.cells (h : ModM w X g bb fb s A c) : w.cell? ⟨g, 0, none⟩ = some (.int .i64 s.room) ∧ w.cell? ⟨g, 1, none⟩ = some (.slice (some ⟨bb, 0, none⟩) 64 64) ∧ w.cell? ⟨g, 2, none⟩ = some (.slice (some ⟨fb, 0, none⟩) 64 64) ∧ w.cell? ⟨g, 3, none⟩ = some (.bool s.off) ∧ w.cell? ⟨g, 4, none⟩ = some (.int .i64 s.plan) :=
  ⟨cell_of_row _ _ _ _ _ _ h.hd, cell_of_row _ _ _ _ _ _ h.hd, cell_of_row _ _ _ _ _ _ h.hd, cell_of_row _ _ _ _ _ _ h.hd, cell_of_row _ _ _ _ _ _ h.hd⟩
theorem ModM.frz (h : ModM w X g bb fb s A c) (i : Nat) : w.frozen? ⟨g, i, none⟩ = false := frozen_of_row _ _ _ _ _ h.hd
theorem ModM.file (h : ModM w X g bb fb s A c) {i : Nat} (hi : i < 64) : w.cell? ⟨bb, i, none⟩ = some (.slice (A i) (s.b i).length (c i)) ∧ w.cell? ⟨fb, i, none⟩ = some (.int .i64 (s.firm i : Nat)) := ⟨h.hb.cell hi, h.hf.cell hi⟩
theorem ModM.bg (h : ModM w X g bb fb s A c) : bb ≠ g := h.hb.neq h.hd (by decide)
theorem ModM.fg (h : ModM w X g bb fb s A c) : fb ≠ g := h.hf.neq h.hd (by decide)
theorem ModM.bf (h : ModM w X g bb fb s A c) : bb ≠ fb := by
  obtain ⟨cs, h1, _⟩ := h.hf
  exact h.hb.neq h1 (by decide)
theorem ModM.rg (h : ModM w X g bb fb s A c) {i : Int} (hi : isF i = true) : ob (A i) ≠ some g ∧ ob (A i) ≠ some bb ∧ ob (A i) ≠ some fb := ⟨(h.row i hi).neq_ h.hd (by decide), h.hb.own (h.row i hi) (by decide), h.hf.own (h.row i hi) (by decide)⟩
theorem ModM.same (h : ModM w X g bb fb s A c) (hz : w.heap.size ≤ w'.heap.size) (hb : ∀ i, X i → w'.heap[i]? = w.heap[i]?) : ModM w' X g bb fb s A c :=
  ⟨(hb g h.xg).trans h.hd, h.hb.same (hb bb h.xb), h.hf.same (hb fb h.xf), fun i hi => (h.row i hi).same fun b hb' => hb b (h.xr i hi b hb'), h.ap, h.xg, h.xb, h.xf, h.xr, fun i hi => Nat.lt_of_lt_of_le (h.xl i hi) hz, h.ok⟩
theorem ModM.e (h : ModM w X g bb fb s A c) (hE : E w w') : ModM w' X g bb fb s A c := h.same hE.le fun i hi => hE.block (h.xl i hi)
theorem ModM.after (h : ModM w' X g bb fb s A c) (hE : Ex X w w') : AfterM w X g s w' := ⟨X, ⟨bb, fb, A, c, h⟩, hE, fun _ hi => .inl hi⟩
theorem ModM.now (h : ModM w X g bb fb s A c) : AfterM w X g s w := h.after (Ex.refl _ _)
/-- the struct's own block alone has turned -/
theorem ModM.head (h : ModM w X g bb fb s A c) (hG : w.grownBy w' (some g)) (hh : w'.heap[g]? = some (mheadV s' bb fb)) (hb : s'.b = s.b) (hf : s'.firm = s.firm) (ho : DOk s') : ModM w' X g bb fb s' A c := by
  have hne : ∀ i, X i → i ≠ g → w'.heap[i]? = w.heap[i]? := fun i hi e => hG.block i (h.xl i hi) (fun e' => e (by injection e'))
  refine ⟨hh, (h.hb.same (hne bb h.xb h.bg)).ext fun i _ => by unfold bytV; rw [hb], (h.hf.same (hne fb h.xf h.fg)).ext fun i _ => by unfold firV; rw [hf], fun i hi => ?_, h.ap, h.xg, h.xb, h.xf, h.xr, fun i hi => Nat.lt_of_lt_of_le (h.xl i hi) hG.size, ho⟩
  rw [hb]
  exact (h.row i hi).same fun b hb' => hne b (h.xr i hi b hb') (fun e => (h.rg hi).1 (e ▸ hb'))
/-- a number of durable bytes is written -/
theorem ModM.firm1 (h : ModM w X g bb fb s A c) (i : Nat) (n : Nat) (hs : s'.b = s.b ∧ s'.off = s.off ∧ s'.plan = s.plan ∧ s'.room = s.room) (hf : ∀ j : Nat, j < 64 → s'.firm j = if j = i then n else s.firm j) (ho : DOk s') :
    ModM (w.setCell ⟨fb, i, none⟩ (.int .i64 (n : Nat))) X g bb fb s' A c := by
  obtain ⟨h1, h2, h3, h4⟩ := hs
  have hne : ∀ q, q ≠ fb → (w.setCell ⟨fb, i, none⟩ (.int .i64 (n : Nat))).heap[q]? = w.heap[q]? := fun q e => Below.heap_setCell _ _ _ _ e
  have hz : (w.setCell ⟨fb, i, none⟩ (.int .i64 (n : Nat))).heap.size = w.heap.size := by simp [World.setCell]
  refine ⟨by rw [hne g h.fg.symm, h.hd]; unfold mheadV; rw [h2, h3, h4], (h.hb.same (hne bb h.bf)).ext fun j _ => by unfold bytV; rw [h1], (h.hf.put i _).ext fun j hj => ?_, fun j hj => ?_, h.ap, h.xg, h.xb, h.xf, h.xr, fun j hj => by rw [hz]; exact h.xl j hj, ho⟩
  · unfold firV
    rw [hf j hj]
    split <;> rfl
  · rw [h1]
    exact (h.row j hj).same fun b hb' => hne b (fun e => (h.rg hj).2.2 (e ▸ hb'))
theorem Own.sameN {k : IntKind} {T : TypeId} {w w' : World} {A : Option Addr} {n c : Nat} {l : List Int} (h : Own k T w 0 A n c l) (hb : ∀ b, ob A = some b → w'.heap[b]? = w.heap[b]?) : Own k T w' 0 A n c l := h.same hb
/-- a file gets another row: V is the world in which the row lies -/
theorem ModM.turn (h : ModM w X g bb fb s A c) {V : World} (i : Nat) (hi : i < 64) (A1 : Option Addr) (c1 : Nat) (hz : w.heap.size ≤ V.heap.size) (hV : ∀ q, X q → V.heap[q]? = w.heap[q]?) (hE : Ex X w V)
    (hr : Own .u8 5 V 0 A1 (s'.b i).length c1 (s'.b i)) (hA : ob A1 = ob (A i) ∨ ∀ b, ob A1 = some b → w.heap.size ≤ b)
    (hs : s'.firm = s.firm ∧ s'.off = s.off ∧ s'.plan = s.plan ∧ s'.room = s.room) (hj : ∀ j : Int, j ≠ i → s'.b j = s.b j) (ho : DOk s') :
    ∃ X', ModM (V.setCell ⟨bb, i, none⟩ (.slice A1 (s'.b i).length c1)) X' g bb fb s' (upd A i A1) (upd c i c1) ∧ Ex X w (V.setCell ⟨bb, i, none⟩ (.slice A1 (s'.b i).length c1)) ∧ ∀ q, X' q → X q ∨ w.heap.size ≤ q := by
  obtain ⟨h1, h2, h3, h4⟩ := hs
  have D := h.same (w' := V) hz hV
  have hif : isF (i : Int) = true := isF_iff.2 ⟨by omega, by omega⟩
  have hne : ∀ q, q ≠ bb → (V.setCell ⟨bb, i, none⟩ (.slice A1 (s'.b i).length c1)).heap[q]? = V.heap[q]? := fun q e => Below.heap_setCell _ _ _ _ e
  have hsz : (V.setCell ⟨bb, i, none⟩ (.slice A1 (s'.b i).length c1)).heap.size = V.heap.size := by simp [World.setCell]
  have hA1 : ∀ b, ob A1 = some b → b < V.heap.size := fun b hb => (hr.ltN b hb).2
  have hap : ∀ j, j ≠ (i : Int) → isF j = true → apartS A1 (A j) := fun j e hjf => by
    rcases hA with hA | hA
    · have := h.ap i j (fun e' => e e'.symm) hif hjf
      intro t ht ht'
      exact this t (hA ▸ ht) ht'
    · intro t ht ht'
      have := hA t ht
      have := h.xl t (h.xr j hjf t ht')
      omega
  refine ⟨fun q => X q ∨ ob A1 = some q, ⟨by rw [hne g h.bg.symm, D.hd]; unfold mheadV; rw [h2, h3, h4], (D.hb.put i _).ext fun j hj' => ?_, (D.hf.same (hne fb h.bf.symm)).ext fun j _ => by unfold firV; rw [h1], fun j hjf => ?_, fun a b hab haf hbf => ?_, .inl h.xg, .inl h.xb, .inl h.xf, fun j hjf b hb => ?_, fun q hq => ?_, ho⟩, ?_, fun q hq => ?_⟩
  · unfold bytV
    by_cases e : j = i
    · rw [if_pos e, e, upd_same, upd_same]
    · have e' : (j : Int) ≠ (i : Int) := by omega
      rw [if_neg e, upd_other _ _ e', upd_other _ _ e', hj j e']
  · by_cases e : j = i
    · rw [e, upd_same, upd_same]
      exact hr.same fun b hb => hne b (fun e' => (D.hb.own hr (by decide)) (e' ▸ hb))
    · rw [upd_other _ _ e, upd_other _ _ e, hj j e]
      exact (D.row j hjf).same fun b hb => hne b (fun e' => (D.rg hjf).2.1 (e' ▸ hb))
  · by_cases ea : a = i
    · have eb : b ≠ i := fun e => hab (ea.trans e.symm)
      rw [ea, upd_same, upd_other _ _ eb]
      exact hap b eb hbf
    · rw [upd_other _ _ ea]
      by_cases eb : b = i
      · rw [eb, upd_same]; exact (hap a ea haf).symm
      · rw [upd_other _ _ eb]; exact h.ap a b hab haf hbf
  · by_cases e : j = i
    · rw [e, upd_same] at hb; exact .inr hb
    · rw [upd_other _ _ e] at hb; exact .inl (h.xr j hjf b hb)
  · rw [hsz]
    rcases hq with hq | hq
    · exact Nat.lt_of_lt_of_le (h.xl q hq) hz
    · exact hA1 q hq
  · exact ⟨hE.os, hE.tape, hE.output, by rw [hsz]; exact hz, fun q hq hx => by rw [hne q (fun e => hx (e ▸ h.xb))]; exact hE.block q hq hx⟩
  · rcases hq with hq | hq
    · exact .inl hq
    · rcases hA with hA | hA
      · exact .inl (h.xr i hif q (hA ▸ hq))
      · exact .inr (hA q hq)
/-- a byte of an own row is written -/
theorem ModM.byte (h : ModM w X g bb fb s A c) (i : Nat) (hi : i < 64) {r : Nat} (hr : A i = some ⟨r, 0, none⟩) (j : Nat) (v : Int) (hv : (Lit.int .u8 v).wf = true)
    (hs : s'.firm = s.firm ∧ s'.off = s.off ∧ s'.plan = s.plan ∧ s'.room = s.room) (hb : s'.b = upd s.b i ((s.b i).set j v)) (ho : DOk s') :
    ModM (w.setCell ⟨r, j, none⟩ (.int .u8 v)) X g bb fb s' A c := by
  obtain ⟨h1, h2, h3, h4⟩ := hs
  have hif : isF (i : Int) = true := isF_iff.2 ⟨by omega, by omega⟩
  have hne : ∀ q, q ≠ r → (w.setCell ⟨r, j, none⟩ (.int .u8 v)).heap[q]? = w.heap[q]? := fun q e => Below.heap_setCell _ _ _ _ e
  have hz : (w.setCell ⟨r, j, none⟩ (.int .u8 v)).heap.size = w.heap.size := by simp [World.setCell]
  have hr' : ob (A i) = some r := by rw [hr]; rfl
  have hrg := h.rg hif
  rw [hr'] at hrg
  have hl : ∀ q : Int, (s'.b q).length = (s.b q).length := fun q => by
    rw [hb]
    by_cases e : q = i
    · rw [e, upd_same, List.length_set]
    · rw [upd_other _ _ e]
  refine ⟨by rw [hne g (fun e => hrg.1 (by rw [e])), h.hd]; unfold mheadV; rw [h2, h3, h4], (h.hb.same (hne bb (fun e => hrg.2.1 (by rw [e])))).ext fun q _ => by unfold bytV; rw [hl], (h.hf.same (hne fb (fun e => hrg.2.2 (by rw [e])))).ext fun q _ => by unfold firV; rw [h1], fun q hq => ?_, h.ap, h.xg, h.xb, h.xf, h.xr, fun q hq => by rw [hz]; exact h.xl q hq, ho⟩
  by_cases e : q = i
  · rw [hl, hb, e, upd_same, hr]
    have := h.row i hif
    rw [hr] at this
    exact this.set j v hv
  · rw [hl, hb, upd_other _ _ e]
    refine (h.row q hq).same fun b hb' => hne b (fun e' => ?_)
    exact h.ap i q (fun e2 => e e2.symm) hif hq r hr' (e' ▸ hb')
theorem ModAt.e (h : ModAt w X g s) (hE : E w w') : ModAt w' X g s := by obtain ⟨bb, fb, A, c, h⟩ := h; exact ⟨bb, fb, A, c, h.e hE⟩
theorem ModAt.lt (h : ModAt w X g s) : ∀ i, X i → i < w.heap.size := by obtain ⟨bb, fb, A, c, h⟩ := h; exact h.xl
theorem ModAt.ok (h : ModAt w X g s) : DOk s := by obtain ⟨bb, fb, A, c, h⟩ := h; exact h.ok
def ModT (g : Nat) (s : DS) (w : World) (X : Nat → Prop) : Prop := ModAt w X g s
theorem modT (g : Nat) (s : DS) : Thing (ModT g s) :=
  ⟨fun h hz hb => by obtain ⟨bb, fb, A, c, h⟩ := h; exact ⟨bb, fb, A, c, h.same hz hb⟩, fun h => ModAt.lt h⟩
end
end Go.Proofs.Ythcicfolabngcaa
/- The model's New, step, fails, Used, Files, Arm. -/
namespace Go.Proofs.Ythcicfolabngcaa
open Go.RowKit

theorem made_row (w : World) (z : Value) (T : TypeId) : RowV (w.alloc (.cells (madeCells #[z] 64) T)) w.heap.size T (fun _ => z) :=
  ⟨_, heap_alloc_new w _, size_madeCells _ _, fun i hi => by rw [← Array.getElem?_toList, toList_madeCells_one, List.getElem?_replicate, if_pos hi]⟩
theorem mk_bytes (w : World) : (Instr.makeSlice 22 (.int .i64 64) (.int .i64 64)).run Try.prog w = .ok (.slice (some ⟨w.heap.size, 0, none⟩) 64 64) (w.alloc (.cells (madeCells #[.slice none 0 0] 64) 27)) := by
  obtain ⟨i, hi, hz0, hz1, hz2⟩ := info_parts (show (Try.prog.info? 27).map (fun i => (i.zero, i.size, i.bytes)) = some (some (.slice none 0 0), 1, 24) from by kernel_rfl)
  have := run_make (P := Try.prog) w 22 27 i (.slice none 0 0) Try.underlying22 hi hz0 .i64 .i64 64 64 (by decide) (by decide) (by rw [hz2]; decide) (by decide)
  rw [hz1] at this
  exact this
theorem mk_ints (w : World) : (Instr.makeSlice 33 (.int .i64 64) (.int .i64 64)).run Try.prog w = .ok (.slice (some ⟨w.heap.size, 0, none⟩) 64 64) (w.alloc (.cells (madeCells #[.int .i64 0] 64) 3)) := by
  obtain ⟨i, hi, hz0, hz1, hz2⟩ := info_parts (show (Try.prog.info? 3).map (fun i => (i.zero, i.size, i.bytes)) = some (some (.int .i64 0), 1, 8) from by kernel_rfl)
  have := run_make (P := Try.prog) w 33 3 i (.int .i64 0) Try.underlying33 hi hz0 .i64 .i64 64 64 (by decide) (by decide) (by rw [hz2]; decide) (by decide)
  rw [hz1] at this
  exact this
theorem mod_made {w V : World} {g bb fb : Nat} {room : Int} (hd : V.heap[g]? = some (mheadV (newS room) bb fb)) (hb : RowV V bb 27 (fun _ => .slice none 0 0)) (hf : RowV V fb 3 (fun _ => .int .i64 0))
    (h1 : w.heap.size ≤ g) (h2 : w.heap.size ≤ bb) (h3 : w.heap.size ≤ fb) (hr : 0 ≤ room ∧ room ≤ 16777216) : ∃ X, ModAt V X g (newS room) ∧ ∀ i, X i → w.heap.size ≤ i := by
  obtain ⟨cs, c1, _⟩ := id hb
  obtain ⟨ds, d1, _⟩ := id hf
  refine ⟨fun i => i = g ∨ i = bb ∨ i = fb, ⟨bb, fb, fun _ => none, fun _ => 0, hd, hb, hf, fun _ _ => Own.nil _ _ _ _, fun _ _ _ _ _ t ht => (by cases ht), .inl rfl, .inr (.inl rfl), .inr (.inr rfl), fun _ _ b hb => (by cases hb), fun i hi => ?_, DOk.new hr⟩, fun i hi => ?_⟩
  · rcases hi with rfl | rfl | rfl
    · exact blk_lt hd
    · exact blk_lt c1
    · exact blk_lt d1
  · rcases hi with rfl | rfl | rfl <;> assumption
theorem new_done (w : World) (o1 o2 : Obj) (bb fb : Nat) {room : Int} (hr : 0 ≤ room ∧ room ≤ 16777216)
    (h : (o1 = .cells (madeCells #[.slice none 0 0] 64) 27 ∧ o2 = .cells (madeCells #[.int .i64 0] 64) 3 ∧ bb = w.heap.size ∧ fb = w.heap.size + 1) ∨ (o1 = .cells (madeCells #[.int .i64 0] 64) 3 ∧ o2 = .cells (madeCells #[.slice none 0 0] 64) 27 ∧ bb = w.heap.size + 1 ∧ fb = w.heap.size)) :
    ∃ X, ModAt (((w.alloc o1).alloc o2).alloc (mheadV (newS room) bb fb)).drew X (w.heap.size + 1 + 1) (newS room) ∧ ∀ i, X i → w.heap.size ≤ i := by
  have z1 : (w.alloc o1).heap.size = w.heap.size + 1 := by simp
  have z2 : ((w.alloc o1).alloc o2).heap.size = w.heap.size + 1 + 1 := by simp
  have e1 : E (w.alloc o1) (((w.alloc o1).alloc o2).alloc (mheadV (newS room) bb fb)).drew := (((E.refl _).alloc _).alloc _).drew
  have e2 : E ((w.alloc o1).alloc o2) (((w.alloc o1).alloc o2).alloc (mheadV (newS room) bb fb)).drew := ((E.refl _).alloc _).drew
  have e3 : E (((w.alloc o1).alloc o2).alloc (mheadV (newS room) bb fb)) (((w.alloc o1).alloc o2).alloc (mheadV (newS room) bb fb)).drew := (E.refl _).drew
  have hd : (((w.alloc o1).alloc o2).alloc (mheadV (newS room) bb fb)).drew.heap[w.heap.size + 1 + 1]? = some (mheadV (newS room) bb fb) := by
    have := heap_alloc_new ((w.alloc o1).alloc o2) (mheadV (newS room) bb fb)
    rw [z2] at this
    exact (e3.block (by simp)).trans this
  rcases h with ⟨rfl, rfl, rfl, rfl⟩ | ⟨rfl, rfl, rfl, rfl⟩
  · have r1 := (made_row w (.slice none 0 0) 27).same (e1.block (by simp))
    have r2 := (made_row (w.alloc (.cells (madeCells #[.slice none 0 0] 64) 27)) (.int .i64 0) 3).same (e2.block (by simp))
    rw [z1] at r2
    exact mod_made hd r1 r2 (by omega) (by omega) (by omega) hr
  · have r1 := (made_row w (.int .i64 0) 3).same (e1.block (by simp))
    have r2 := (made_row (w.alloc (.cells (madeCells #[.int .i64 0] 64) 3)) (.slice none 0 0) 27).same (e2.block (by simp))
    rw [z1] at r2
    exact mod_made hd r2 r1 (by omega) (by omega) (by omega) hr
set_option maxRecDepth 100000 in
theorem mnew_c (room : Int) (w : World) (h : 0 ≤ room ∧ room ≤ 16777216) :
    Calls Try.prog 27 #[.int .i64 room] w (fun e w' => E w w' ∧ ∃ g X, e = .returned (.pointer (some ⟨g, 0, none⟩)) ∧ ModAt w' X g (newS room) ∧ ∀ i, X i → w.heap.size ≤ i) := by
  have HH := Lib.hid h
  have hm1 := mk_bytes
  have hm2 := mk_ints
  clear h
  go_enter Try.func27, Try.ntmps27
  go_upto_region 1 with fail
  go_region
  all_goals (go_wp2; go_ret)
  · refine ⟨(((E.refl w).alloc _).alloc _).alloc _ |>.drew, w.heap.size + 1 + 1, ?_⟩
    obtain ⟨X, hX⟩ := new_done w (.cells (madeCells #[.slice none 0 0] 64) 27) (.cells (madeCells #[.int .i64 0] 64) 3) w.heap.size (w.heap.size + 1) HH.out (.inl ⟨rfl, rfl, rfl, rfl⟩)
    exact ⟨X, rfl, hX⟩
  · refine ⟨(((E.refl w).alloc _).alloc _).alloc _ |>.drew, w.heap.size + 1 + 1, ?_⟩
    obtain ⟨X, hX⟩ := new_done w (.cells (madeCells #[.int .i64 0] 64) 3) (.cells (madeCells #[.slice none 0 0] 64) 27) (w.heap.size + 1) w.heap.size HH.out (.inr ⟨rfl, rfl, rfl, rfl⟩)
    exact ⟨X, rfl, hX⟩
end Go.Proofs.Ythcicfolabngcaa
/- The model's step, fails, Arm, Used, Files. -/
namespace Go.Proofs.Ythcicfolabngcaa
open Go.RowKit

theorem mex_of_grown {w w' : World} {X : Nat → Prop} {g : Nat} (hG : w.grownBy w' (some g)) (hX : X g) : Ex X w w' := ex_of_grown hG hX
section
variable {X : Nat → Prop} {g bb fb : Nat} {s : DS} {A : Int → Option Addr} {c : Int → Nat}
theorem mfails_c (w : World) (h : ModM w X g bb fb s A c) (ho : s.off = false) (hp : 0 ≤ s.plan) : Calls Try.prog 84 #[ptrV g] w (fun e w' => e = .returned (.bool (stepS s).off) ∧ ModM w' X g bb fb (stepS s) A c ∧ w.grownBy w' (some g)) := by
  obtain ⟨_, _, _, c3, c4⟩ := h.cells
  have f3 := h.frz 3
  have f4 := h.frz 4
  have hp2 := h.ok.plan.2
  have H := Lib.hid h
  have HP := Lib.hid hp
  rw [ho] at c3
  have HO := Lib.hid ho
  have ho' := HO.out
  clear h ho
  unfold ptrV
  have e1 : IntKind.i64.wrap (s.plan - 1) = s.plan - 1 := by rw [IntKind.wrap_i64]; omega
  have e2 : RowKit.wrap64 (s.plan - 1) = s.plan - 1 := by unfold RowKit.wrap64; omega
  have hs0 : stepS s = { s with plan := s.plan - 1, off := s.off || decide (s.plan = 0) } := by unfold stepS; rw [if_neg (by omega)]
  have HS0 := Lib.hid hs0
  have hm : max (s.plan - 1) (-2) = s.plan - 1 := by omega
  clear hs0
  by_cases h0 : s.plan = 0
  · have d0 : (s.plan - 1 == -1) = true := by simp; omega
    have HS := Lib.hid (show stepS s = { s with plan := s.plan - 1, off := true } by rw [HS0.out]; simp [h0])
    clear h0 ho'
    go_enter Try.func84, Try.ntmps84
    go_wp2
    go_ret
    refine ⟨ret_bool (by rw [HS.out]), H.out.head (grownBy_trans (grownBy_set _ _ _ _) (grownBy_set _ _ _ _)) ?_ (stepS_b s) (stepS_firm s) H.out.ok.step, grownBy_trans (grownBy_set _ _ _ _) (grownBy_set _ _ _ _)⟩
    rw [heap_setCell_same _ _ _ _ _ _ (heap_setCell_same _ _ _ _ _ _ H.out.hd), HS.out]; rfl
  · have d0 : (s.plan - 1 == -1) = false := by simp; omega
    have HS := Lib.hid (show stepS s = { s with plan := s.plan - 1 } by rw [HS0.out, ho']; simp [h0])
    clear h0 ho'
    go_enter Try.func84, Try.ntmps84
    go_wp2
    go_ret
    refine ⟨ret_bool (by rw [HS.out]; exact HO.out.symm), H.out.head (grownBy_set _ _ _ _) ?_ (stepS_b s) (stepS_firm s) H.out.ok.step, grownBy_set _ _ _ _⟩
    rw [heap_setCell_same _ _ _ _ _ _ H.out.hd, HS.out]; rfl
theorem mstep_c (w : World) (h : ModM w X g bb fb s A c) (ho : s.off = false) : Calls Try.prog 74 #[ptrV g] w (fun e w' => e = .returned (.bool (stepS s).off) ∧ ModM w' X g bb fb (stepS s) A c ∧ w.grownBy w' (some g)) := by
  obtain ⟨_, _, _, c3, c4⟩ := h.cells
  have H := Lib.hid h
  have HO := Lib.hid ho
  clear h ho
  by_cases h0 : s.plan < 0
  · have d0 : decide (s.plan < 0) = true := by simpa using h0
    have hs : stepS s = s := by unfold stepS; rw [if_pos h0]
    have HS := Lib.hid hs
    clear hs h0
    unfold ptrV
    go_enter Try.func74, Try.ntmps74
    go_wp2
    go_ret
    rw [HS.out, HO.out]
    exact ⟨rfl, H.out, World.grownBy.refl _ _⟩
  · have d0 : decide (s.plan < 0) = false := by simpa using h0
    have HP := Lib.hid (show 0 ≤ s.plan by omega)
    clear h0
    have HF := Lib.hid (mfails_c w H.out HO.out HP.out)
    unfold ptrV at HF ⊢
    go_enter Try.func74, Try.ntmps74
    go_wp2_with (go_at_call 84; refine HF.out.mono ?_; rintro e w' ⟨rfl, h1, h2⟩)
    go_ret
    exact ⟨rfl, h1, h2⟩
theorem marm_c (n : Int) (w : World) (h : ModM w X g bb fb s A c) (h2 : n ≤ 9223372036854775807) : Calls Try.prog 52 #[ptrV g, .int .i64 n] w (fun e w' => e = .returned (.tuple #[]) ∧ AfterM w X g (armS s n) w') := by
  obtain ⟨_, _, _, c3, c4⟩ := h.cells
  have f4 := h.frz 4
  have H := Lib.hid h
  clear h
  unfold ptrV
  cases ho : s.off with
  | true =>
    rw [ho] at c3
    have hs : armS s n = s := by unfold armS; rw [if_pos ho]
    have HS := Lib.hid hs
    clear hs ho
    go_enter Try.func52, Try.ntmps52
    go_wp2
    go_end0
    rw [HS.out]
    exact ⟨rfl, H.out.now⟩
  | false =>
    rw [ho] at c3
    have hs : armS s n = { s with plan := max n (-1) } := by unfold armS; rw [if_neg (by rw [ho]; decide)]
    have HO := H.out.ok.arm h2
    have HS := Lib.hid hs
    have HOO := Lib.hid ho
    clear hs ho
    go_enter Try.func52, Try.ntmps52
    go_wp2
    all_goals go_end0
    all_goals refine ⟨rfl, ModM.after (s := armS s n) (H.out.head (grownBy_set _ _ _ _) ?_ (by rw [HS.out]) (by rw [HS.out]) HO) (mex_of_grown (grownBy_set _ _ _ _) H.out.xg)⟩
    all_goals rw [heap_setCell_same _ _ _ _ _ _ H.out.hd, HS.out]
    all_goals simp [mheadV, HOO.out]
    all_goals omega
theorem sumTo_mono {f : Nat → Nat} {i : Nat} : ∀ {n : Nat}, i ≤ n → sumTo f i ≤ sumTo f n
  | 0, h => by rw [show i = 0 by omega]; exact Nat.le_refl _
  | n + 1, h => by
    rw [sumTo]
    by_cases e : i = n + 1
    · subst e; rw [sumTo]; exact Nat.le_refl _
    · have := sumTo_mono (f := f) (n := n) (show i ≤ n by omega); omega
set_option maxRecDepth 100000 in
theorem mused_c (w : World) (h : ModM w X g bb fb s A c) : Calls Try.prog 54 #[ptrV g] w (fun e w' => e = .returned (.int .i64 (usedF s.b : Nat)) ∧ w = w') := by
  obtain ⟨_, c1, _, _, _⟩ := h.cells
  have hu : usedF s.b ≤ 16777216 := by have := h.ok.used; have := h.ok.room; omega
  have HU := Lib.hid hu
  have H := Lib.hid h
  clear h hu
  unfold ptrV
  go_enter Try.func54, Try.ntmps54
  go_wp2
  go_loopw [4, 3] (fun t4 t3 wr => ∃ i z : Nat, t4 = .int .i64 i ∧ t3 = .int .i64 z ∧ i ≤ 64 ∧ Hid (z = sumTo (fun i => (s.b i).length) i) ∧ w = wr) (fun t4 _ _ => 64 - (intOf t4).toNat)
  case atStart => exact ⟨0, 0, rfl, rfl, by decide, rfl, rfl⟩
  case round =>
    obtain ⟨i, z, rfl, rfl, hi, HZ, rfl⟩ := hrel
    have hz : z ≤ 16777216 := by rw [HZ.out]; exact Nat.le_trans (sumTo_mono hi) HU.out
    by_cases hlt : i < 64
    · have dlt : decide ((i : Int) < 64) = true := by simp; omega
      obtain ⟨b0, _⟩ := H.out.file hlt
      have hl := H.out.ok.len24 i
      go_wp2
      exact ⟨⟨i + 1, z + (s.b i).length, by go_num, by go_num, by omega, show _ = _ by rw [HZ.out]; rfl, by first | trivial | rfl⟩, by simp only [intOf]; omega⟩
    · have dlt : decide ((i : Int) < 64) = false := by simp; omega
      have HI := Lib.hid (show i = 64 by omega)
      clear hlt
      go_wp2
      go_ret
      exact ⟨ret_int (show (z : Int) = (usedF s.b : Nat) by rw [HZ.out, HI.out]; rfl), by first | trivial | rfl⟩
/-- the numbers below i of the files that are not empty -/
def liveU (b : Int → List Int) (i : Nat) : List Int := ((List.range i).filter fun i : Nat => decide (b i ≠ [])).map fun i : Nat => (i : Int)
theorem liveU_succ (b : Int → List Int) (i : Nat) : liveU b (i + 1) = if b i = [] then liveU b i else liveU b i ++ [(i : Int)] := by
  unfold liveU
  rw [List.range_succ, List.filter_append, List.map_append]
  split
  · rename_i h; simp [h]
  · rename_i h; simp [h]
theorem liveU_len (b : Int → List Int) (i : Nat) : (liveU b i).length ≤ i := by
  unfold liveU
  rw [List.length_map]
  have := List.length_filter_le (fun i : Nat => decide (b i ≠ [])) (List.range i)
  simpa using this
set_option maxRecDepth 100000 in
theorem mfiles_c (w : World) (h : ModM w X g bb fb s A c) : Calls Try.prog 55 #[ptrV g] w (RetOwn .i64 3 w (liveI s.b)) := by
  have H := Lib.hid h
  clear h
  unfold ptrV
  go_enter Try.func55, Try.ntmps55
  go_wp2
  go_loopw [4, 3] (fun t4 t3 wr => ∃ (i n' c' : Nat) (A' : Option Addr), t4 = .int .i64 i ∧ t3 = .slice A' n' c' ∧ i ≤ 64 ∧ Own .i64 3 wr w.heap.size A' n' c' (liveU s.b i) ∧ E w wr) (fun t4 _ _ => 64 - (intOf t4).toNat)
  case atStart => exact ⟨0, 0, 0, none, rfl, rfl, by decide, Own.nil _ _ _ _, E.refl _⟩
  case round =>
    obtain ⟨i, n', c', A', rfl, rfl, hi, hO, hE⟩ := hrel
    have HO := Lib.hid hO
    have HE := Lib.hid hE
    obtain ⟨_, c1, _, _, _⟩ := (H.out.e hE).cells
    have hn : n' ≤ 64 := by rw [← hO.1]; exact Nat.le_trans (liveU_len _ _) hi
    clear hO hE
    by_cases hlt : i < 64
    · have dlt : decide ((i : Int) < 64) = true := by simp; omega
      obtain ⟨b0, _⟩ := (H.out.e HE.out).file hlt
      have hl := H.out.ok.len24 i
      by_cases he : s.b i = []
      · have d2 : decide (0 < (s.b i).length) = false := by rw [he]; rfl
        have hlen : (s.b i).length = 0 := by rw [he]; rfl
        have HU := Lib.hid (liveU_succ s.b i)
        rw [if_pos he] at HU
        have HL := Lib.hid hlt
        clear he hlen
        go_wp2
        exact ⟨⟨i + 1, n', c', A', by go_num, rfl, HL.out, by rw [HU.out]; exact HO.out, HE.out⟩, by have := HL.out; simp only [intOf]; omega⟩
      · have hlen : 0 < (s.b i).length := List.length_pos_iff.2 he
        have d2 : decide (0 < (s.b i).length) = true := by simpa using hlen
        have HU := Lib.hid (liveU_succ s.b i)
        rw [if_neg he] at HU
        have HL := Lib.hid hlt
        have HW := Lib.hid (show (Lit.int .i64 (i : Int)).wf = true from wf_of_i64 (by omega) (by omega))
        have HN := Lib.hid (show n' ≤ 1099511627776 by omega)
        clear he hlen
        go_wp2_with (at_builtin; refine wpList_app1n intT wr rfl _ _ rfl w.heap.size A' n' c' _ rfl HO.out i rfl HW.out HN.out HE.out.le ?_; intro g' c'' w4 hO4 hG4 hB4 hor4)
        exact ⟨⟨i + 1, n' + 1, c'', some ⟨g', 0, none⟩, by go_num, rfl, HL.out, by rw [HU.out]; exact hO4, HE.out.up hB4⟩, by have := HL.out; simp only [intOf]; omega⟩
    · have dlt : decide ((i : Int) < 64) = false := by simp; omega
      have HI := Lib.hid (show i = 64 by omega)
      clear hlt
      go_wp2
      go_ret
      exact ⟨A', n', c', rfl, by rw [show liveI s.b = liveU s.b i by rw [HI.out]; rfl]; exact HO.out, HE.out⟩
end
end Go.Proofs.Ythcicfolabngcaa
/- The model's Append. -/
namespace Go.Proofs.Ythcicfolabngcaa
open Go.RowKit

theorem step_app_raw {P : Program} {S : TypeId} {W w' : World} {ops : Array Oper} {o : Oper} {a : Act} {K : Act → World → Prop} {Q : Exit → Act → World → Prop} {R : Prop} (hgd : o.guard = none) (s x : Operand)
    (ho : o.op = .call { callee := .builtin .append, args := #[s, x], argTypes := #[S, S] }) {v1 v2 v : Value} (hs : a.eval s = v1) (hx : a.eval x = v2) (hrun : (Builtin.append_ #[S, S] o.type #[v1, v2]).run P W = .ok v w') (h : K (a.put o.dst v) w') :
    if Region.wanted o (yielded ops a.tmps) = true then Oper.wp P o a W K Q else R := by
  have hw : Region.wanted o (yielded ops a.tmps) = true := by simp [Region.wanted, hgd]
  rw [if_pos hw]
  unfold Oper.wp execOp
  simp only [ho, resolve, invoke, builtin, Sem.run_bind, Sem.run_pure, Result.andThen_ok, List.map_toArray, List.map_cons, List.map_nil, hs, hx, hrun]
  exact h
theorem stepS_app (s : DS) (i : Int) (l : List Int) : stepS (appS s i l) = appS (stepS s) i l := by
  unfold stepS
  by_cases h : s.plan < 0
  · rw [if_pos h, if_pos (show (appS s i l).plan < 0 from h)]
  · rw [if_neg h, if_neg (show ¬ (appS s i l).plan < 0 from h)]; rfl
theorem AfterM.trans {w w1 w2 : World} {X X1 : Nat → Prop} {g : Nat} {s : DS} (hE : Ex X w w1) (hX : ∀ i, X1 i → X i ∨ w.heap.size ≤ i) (h : AfterM w1 X1 g s w2) : AfterM w X g s w2 := by
  obtain ⟨X2, h1, h2, h3⟩ := h
  refine ⟨X2, h1, hE.trans h2 (fun _ _ x => x) (fun i hi x => ?_), fun i hi => ?_⟩
  · rcases hX i x with x | x
    · exact x
    · omega
  · rcases h3 i hi with x | x
    · exact hX i x
    · exact .inr (Nat.le_trans hE.size x)
section
variable {X : Nat → Prop} {g bb fb : Nat} {s : DS} {A : Int → Option Addr} {c : Int → Nat}
set_option maxHeartbeats 4000000 in
set_option maxRecDepth 100000 in
theorem mappend_c (i : Int) (B : Option Addr) (n c' : Nat) (l : List Int) (w : World) (h : ModM w X g bb fb s A c) (h1 : -9223372036854775808 ≤ i) (h2 : i ≤ 9223372036854775807) (hN : Nums .u8 w B n c' l) (hn : n ≤ 1000) :
    Calls Try.prog 49 #[ptrV g, .int .i64 i, .slice B n c'] w (fun e w' => e = .returned (.int .i64 (appR s i l).1) ∧ AfterM w X g (appR s i l).2 w') := by
  obtain ⟨c0, c1, _, c3, _⟩ := h.cells
  have H := Lib.hid h
  have HN := Lib.hid hN
  have HUS := Lib.hid (fun wn (hE : E w wn) => mused_c wn (h.e hE))
  unfold ptrV at HUS ⊢
  clear h hN
  cases hf : isF i with
  | false =>
    have HR := Lib.hid (show appR s i l = (1, s) by unfold appR; rw [if_pos hf])
    by_cases h0 : i < 0
    · have d0 : decide (i < 0) = true := by simpa using h0
      clear h0 hf
      go_enter Try.func49, Try.ntmps49
      go_wp2
      go_ret
      rw [HR.out]
      exact ⟨rfl, H.out.now⟩
    · have d0 : decide (i < 0) = false := by simpa using h0
      have d1 : decide (63 < i) = true := by
        have := isF_iff (i := i)
        rw [hf] at this
        simp at this
        simp; omega
      clear h0 hf
      go_enter Try.func49, Try.ntmps49
      go_wp2
      go_ret
      rw [HR.out]
      exact ⟨rfl, H.out.now⟩
  | true =>
    have hi := isF_iff.1 hf
    obtain ⟨j, rfl⟩ : ∃ j : Nat, i = j := ⟨i.toNat, by omega⟩
    have hj : j < 64 := by omega
    have hjI : (j : Int) < 64 := by omega
    have d0 : decide ((j : Int) < 0) = false := by simp
    have d1 : decide ((63 : Int) < (j : Int)) = false := by simp; omega
    have d1' : decide (63 < j) = false := by simp; omega
    cases ho : s.off with
    | true =>
      rw [ho] at c3
      have HR := Lib.hid (show appR s j l = (23, s) by unfold appR; rw [if_neg (by rw [hf]; decide), if_pos ho])
      clear hi hf ho
      go_enter Try.func49, Try.ntmps49
      go_wp2
      go_ret
      rw [HR.out]
      exact ⟨rfl, H.out.now⟩
    | false =>
      rw [ho] at c3
      have hu := H.out.ok.used
      have hro := H.out.ok.room
      have hlen := HN.out.len
      by_cases hfit : s.room - usedF s.b < l.length
      · have HR := Lib.hid (show appR s j l = (22, s) by unfold appR; rw [if_neg (by rw [hf]; decide), if_neg (by rw [ho]; decide), if_pos hfit])
        have dfit : decide (s.room < ((usedF s.b : Nat) : Int) + (n : Int)) = true := by simp; omega
        have hw : IntKind.i64.wrap (((usedF s.b : Nat) : Int) + (n : Int)) = ((usedF s.b : Nat) : Int) + (n : Int) := by rw [IntKind.wrap_i64]; omega
        have hw2 : RowKit.wrap64 (((usedF s.b : Nat) : Int) + (n : Int)) = ((usedF s.b : Nat) : Int) + (n : Int) := by unfold RowKit.wrap64; omega
        clear hfit hi hf ho
        go_enter Try.func49, Try.ntmps49
        go_upto_region 5 with fail
        go_region_held3 (fun w' => w'.cell? ⟨g, 0, none⟩ = some (.int .i64 s.room)) (exact c0) ((go_at_call 54; refine (HUS.out _ (E.refl w).drew).mono ?_; rintro e w' ⟨rfl, rfl⟩))
        all_goals (
          go_wp2
          go_ret
          rw [HR.out]
          exact ⟨rfl, (H.out.e (E.refl w).drew).after (Ex.of_e (E.refl w).drew)⟩)
      · have HR := Lib.hid (show appR s j l = (if (stepS s).off = true then 23 else 0, appS (stepS s) j l) by unfold appR; rw [if_neg (by rw [hf]; decide), if_neg (by rw [ho]; decide), if_neg hfit])
        have dfit : decide (s.room < ((usedF s.b : Nat) : Int) + (n : Int)) = false := by simp; omega
        have hw : IntKind.i64.wrap (((usedF s.b : Nat) : Int) + (n : Int)) = ((usedF s.b : Nat) : Int) + (n : Int) := by rw [IntKind.wrap_i64]; omega
        have hw2 : RowKit.wrap64 (((usedF s.b : Nat) : Int) + (n : Int)) = ((usedF s.b : Nat) : Int) + (n : Int) := by unfold RowKit.wrap64; omega
        have HF := Lib.hid hf
        have HO := Lib.hid ho
        have HFT := Lib.hid (show (l.length : Int) ≤ s.room - usedF s.b by omega)
        have HLB := Lib.hid (H.out.ok.len24 j)
        clear hfit hi hf ho hlen
        go_enter Try.func49, Try.ntmps49
        go_upto_region 5 with fail
        go_cut [28] (fun t28 wx => t28 = .bool false ∧ E w wx)
        case first =>
          go_region_held3 (fun w' => w'.cell? ⟨g, 0, none⟩ = some (.int .i64 s.room)) (exact c0) ((go_at_call 54; refine (HUS.out _ (E.refl w).drew).mono ?_; rintro e w' ⟨rfl, rfl⟩))
          all_goals (
            go_wp2
            go_meet
            exact ⟨rfl, (E.refl w).drew⟩)
        case rest =>
          obtain ⟨rfl, hE⟩ := hcut
          have HD := Lib.hid (H.out.e hE)
          have HE := Lib.hid hE
          obtain ⟨_, k1, _, _, _⟩ := HD.out.cells
          obtain ⟨b0, _⟩ := HD.out.file hj
          clear c0 c1 c3 hw hw2 dfit hu hro hE
          have HR1 := Lib.hid (HD.out.row j HF.out).reads
          have HL0 := Lib.hid (show 0 + (s.b j).length ≤ 1099511627776 by have := HLB.out; omega)
          go_upto_region 9 with (at_builtin; refine wpList_appF byteT wc rfl _ _ rfl none 0 0 [] rfl (Own.nil _ _ _ _) (A j) (s.b j).length (c j) (s.b j) rfl HR1.out HL0.out ?_; intro A1 c1' w1 hO1 hG1 hor1)
          have hE1 : E wc w1 := (E.refl wc).grown hG1 (fun q hq => by cases hq)
          rw [List.nil_append, Nat.zero_add] at hO1
          have hE1d : E wc w1.drew := hE1.drew
          obtain ⟨A2, c2, w2, hrA, hO2, hG2, hor2⟩ := run_appN byteT w1.drew 27 0 A1 (s.b j).length c1' (s.b j) (hO1.e (E.refl w1).drew) B n c' l ((HN.out.e HE.out).e hE1d) (by have := HLB.out; omega) (Nat.zero_le _)
          rw [ob_eq] at hG2
          rw [ob_eq, ob_eq] at hor2
          have hA1 : ∀ b, ob A1 = some b → wc.heap.size ≤ b := fun b hb => by
            rcases hor1 with e | e
            · rw [e] at hb; cases hb
            · rw [e] at hb; injection hb with hb; omega
          have hA2 : ∀ b, ob A2 = some b → wc.heap.size ≤ b := fun b hb => by
            rcases hor2 with e | e
            · rw [e] at hb; exact hA1 b hb
            · rw [e] at hb; injection hb with hb; have := hE1d.le; omega
          have hV : ∀ q, X q → w2.heap[q]? = wc.heap[q]? := fun q hq => by
            have hlt := HD.out.xl q hq
            rw [hG2.block q (Nat.lt_of_lt_of_le hlt hE1d.le) (fun e => by have := hA1 q e.symm; omega)]
            exact hE1d.block hlt
          have hE2 : E wc w2 := hE1d.grown hG2 (fun q hq => hA1 q hq)
          have HD2 := Lib.hid (HD.out.same (w' := w2) hE2.le hV)
          have k1d : w1.drew.cell? ⟨g, 1, none⟩ = some (.slice (some ⟨bb, 0, none⟩) 64 64) := (HD.out.e hE1d).cells.2.1
          have k1e : w2.cell? ⟨g, 1, none⟩ = some (.slice (some ⟨bb, 0, none⟩) 64 64) := HD2.out.cells.2.1
          obtain ⟨b2, _⟩ := HD2.out.file hj
          have f2 := HD2.out.hb.frz j
          obtain ⟨X', hM, hEX, hXX⟩ := HD.out.turn (s' := appS s j l) j hj (V := w2) A2 c2 hE2.le hV (Ex.of_e hE2) (by
            have e1 : (appS s j l).b (j : Int) = s.b j ++ l := by simp only [appS, upd_same]
            rw [e1]
            have := hO2
            rw [show (s.b (j : Int)).length + n = (s.b (j : Int) ++ l).length by rw [List.length_append, HN.out.len]] at this
            exact this) (.inr hA2) ⟨rfl, rfl, rfl, rfl⟩ (fun q hq => by simp only [appS]; rw [upd_other _ _ hq]) (H.out.ok.app HF.out HFT.out)
          have HM := Lib.hid hM
          have HXX' : ∀ q, X' q → X q ∨ w.heap.size ≤ q := fun q hq => (hXX q hq).imp id (fun h => Nat.le_trans HE.out.le h)
          have HEX := Lib.hid ((Ex.of_e (X := X) HE.out).trans hEX (fun _ _ x => x) (fun _ _ x => x))
          have hLL : ((appS s j l).b (j : Int)).length = (s.b (j : Int)).length + n := by simp only [appS, upd_same, List.length_append, HN.out.len]
          rw [hLL] at HM HEX
          clear hM hEX hXX hLL hO1 hO2 hor1 hor2 hA1 hA2 hV hE1 hE1d hG1 hG2 hE2 b0 k1
          have k1f := HM.out.cells.2.1
          go_cut [] (fun wx => wx = w2.setCell ⟨bb, j, none⟩ (.slice A2 ((s.b (j : Int)).length + n) c2))
          case first =>
            go_region_held3 (fun w' => w'.cell? ⟨g, 1, none⟩ = some (.slice (some ⟨bb, 0, none⟩) 64 64)) (first | exact k1d | exact k1e | exact k1f) ((refine step_app_raw (by rfl) _ _ (by rfl) (by rfl) (by rfl) hrA ?_))
            all_goals (
              go_wp2_with fail
              go_meet
              rfl)
          case rest =>
            subst hcut
            have HST := Lib.hid (mstep_c _ HM.out (show (appS s j l).off = false from HO.out))
            rw [stepS_app] at HST
            unfold ptrV at HST
            obtain ⟨bo, hbo⟩ : ∃ bo, (stepS s).off = bo := ⟨_, rfl⟩
            have HBO := Lib.hid hbo
            rw [show (appS (stepS s) (j : Int) l).off = bo from hbo] at HST
            clear hbo
            cases bo with
            | true =>
              go_wp2_with (go_at_call 74; refine HST.out.mono ?_; rintro e w3 ⟨rfl, hD3, hG3⟩)
              go_ret
              rw [HR.out, if_pos HBO.out]
              exact ⟨rfl, AfterM.trans HEX.out HXX' (hD3.after (mex_of_grown hG3 HM.out.xg))⟩
            | false =>
              go_wp2_with (go_at_call 74; refine HST.out.mono ?_; rintro e w3 ⟨rfl, hD3, hG3⟩)
              go_ret
              rw [HR.out, if_neg (by rw [HBO.out]; decide)]
              exact ⟨rfl, AfterM.trans HEX.out HXX' (hD3.after (mex_of_grown hG3 HM.out.xg))⟩
end
end Go.Proofs.Ythcicfolabngcaa
/- Rows of operations. -/
namespace Go.Proofs.Ythcicfolabngcaa
open Go.RowKit

/-- an operation, and where its two slices lie -/
structure OpE where
  kind : Int
  file : Int
  n : Int
  b : List Int
  keep : List Int
  AB : Option Addr
  nB : Nat
  cB : Nat
  AK : Option Addr
  nK : Nat
  cK : Nat
def opV (p : OpE) : Value := .agg #[.int .i64 p.kind, .int .i64 p.file, .int .i64 p.n, .slice p.AB p.nB p.cB, .slice p.AK p.nK p.cK]
structure OpW (w : World) (p : OpE) : Prop where
  kw : (Lit.int .i64 p.kind).wf = true
  fw : (Lit.int .i64 p.file).wf = true
  nw : (Lit.int .i64 p.n).wf = true
  bs : Nums .u8 w p.AB p.nB p.cB p.b
  ks : Nums .i64 w p.AK p.nK p.cK p.keep
  nb : p.nB ≤ 1000
theorem OpW.e {w w' : World} {p : OpE} (h : OpW w p) (hE : E w w') : OpW w' p := ⟨h.kw, h.fw, h.nw, h.bs.e hE, h.ks.e hE, h.nb⟩
theorem Nums.grown5 {k : IntKind} {w w' : World} {A : Option Addr} {n c : Nat} {l : List Int} {row : Option Nat} (h : Nums k w A n c l) (hg : w.grownBy w' row) (hr : 0 < n → ob A ≠ row) : Nums k w' A n c l :=
  ⟨h.len, h.cap, h.mx, h.wf, fun hn => by
    obtain ⟨b, o, e, hb, hc⟩ := h.at_ hn
    have hne : some b ≠ row := fun e' => hr hn (by rw [e, ← e']; rfl)
    exact ⟨b, o, e, Nat.lt_of_lt_of_le hb hg.size, fun i hi => by rw [← hc i hi]; exact World.cell?_of_block (hg.block b hb hne)⟩⟩
def flat5 : List OpE → List Value
  | [] => []
  | p :: r => .int .i64 p.kind :: .int .i64 p.file :: .int .i64 p.n :: .slice p.AB p.nB p.cB :: .slice p.AK p.nK p.cK :: flat5 r
theorem flat5_app (q r : List OpE) : flat5 (q ++ r) = flat5 q ++ flat5 r := by
  induction q with
  | nil => rfl
  | cons p q ih => simp only [List.cons_append, flat5, ih]
theorem flat5_get : ∀ (q : List OpE) (i : Nat) (p : OpE), q[i]? = some p → (flat5 q)[i * 5]? = some (.int .i64 p.kind) ∧ (flat5 q)[i * 5 + 1]? = some (.int .i64 p.file) ∧ (flat5 q)[i * 5 + 2]? = some (.int .i64 p.n) ∧ (flat5 q)[i * 5 + 3]? = some (.slice p.AB p.nB p.cB) ∧ (flat5 q)[i * 5 + 4]? = some (.slice p.AK p.nK p.cK)
  | [], i, p, h => by simp at h
  | x :: q, 0, p, h => by simp at h; subst h; simp [flat5]
  | x :: q, i + 1, p, h => by
    simp only [List.getElem?_cons_succ] at h
    obtain ⟨h0, h1, h2, h3, h4⟩ := flat5_get q i p h
    simp only [flat5, show (i + 1) * 5 = i * 5 + 4 + 1 by omega]
    exact ⟨by simpa using h0, by simpa using h1, by simpa using h2, by simpa using h3, by simpa using h4⟩
/-- a row of the call's own: operations whose slices lie apart from it, in blocks from base on -/
def ORow (w : World) (base : Nat) (A : Option Addr) (n c : Nat) (q : List OpE) : Prop :=
  q.length = n ∧ w.ownsRow base 56 5 (.slice A n c) n (flat5 q) ∧ ∀ p ∈ q, OpW w p ∧ (0 < p.nB → ob p.AB ≠ ob A ∧ ∀ b, ob p.AB = some b → base ≤ b) ∧ (0 < p.nK → ob p.AK ≠ ob A ∧ ∀ b, ob p.AK = some b → base ≤ b)
theorem ORow.nil (w : World) (base : Nat) : ORow w base none 0 0 [] := ⟨rfl, World.ownsRow_nil _ _ _ _, by simp⟩
theorem ORow.ltN {w : World} {base : Nat} {A : Option Addr} {n c : Nat} {q : List OpE} (h : ORow w base A n c q) : ∀ b, ob A = some b → base ≤ b ∧ b < w.heap.size := fun b hb => World.ownsRow.lt h.2.1 b (by rw [ob_eq]; exact hb)
theorem ORow.same {w w' : World} {base : Nat} {A : Option Addr} {n c : Nat} {q : List OpE} (h : ORow w base A n c q) (hz : w.heap.size ≤ w'.heap.size) (hA : ∀ b, ob A = some b → w'.heap[b]? = w.heap[b]?) (hB : ∀ p ∈ q, 0 < p.nB → ∀ b, ob p.AB = some b → w'.heap[b]? = w.heap[b]?) (hK : ∀ p ∈ q, 0 < p.nK → ∀ b, ob p.AK = some b → w'.heap[b]? = w.heap[b]?) : ORow w' base A n c q := by
  obtain ⟨h1, h2, h3⟩ := h
  refine ⟨h1, ⟨h2.1, ?_⟩, fun p hp => ?_⟩
  · rcases h2.2 with a2 | ⟨g, cap, cur, hv, hb, hh, r⟩
    · exact .inl a2
    · have hA' : A = some ⟨g, 0, none⟩ := by injection hv
      exact .inr ⟨g, cap, cur, hv, hb, by rw [hA g (by rw [hA']; rfl)]; exact hh, r⟩
  · obtain ⟨a, b⟩ := h3 p hp
    exact ⟨⟨a.kw, a.fw, a.nw, a.bs.same hz (hB p hp), a.ks.same hz (hK p hp), a.nb⟩, b⟩
theorem ORow.low {w : World} {base : Nat} {A : Option Addr} {n c : Nat} {q : List OpE} (h : ORow w base A n c q) : ORow w 0 A n c q := by
  obtain ⟨h1, h2, h3⟩ := h
  refine ⟨h1, ⟨h2.1, ?_⟩, fun p hp => ?_⟩
  · rcases h2.2 with a2 | ⟨g, cap, cur, hv, hbb, r⟩
    · exact .inl a2
    · exact .inr ⟨g, cap, cur, hv, Nat.zero_le _, r⟩
  · obtain ⟨a, b, c⟩ := h3 p hp
    exact ⟨a, fun h => ⟨(b h).1, fun _ _ => Nat.zero_le _⟩, fun h => ⟨(c h).1, fun _ _ => Nat.zero_le _⟩⟩
theorem ORow.e {w w' : World} {base : Nat} {A : Option Addr} {n c : Nat} {q : List OpE} (h : ORow w base A n c q) (hE : E w w') : ORow w' base A n c q := by
  refine h.same hE.le (fun b hb => hE.block (h.ltN b hb).2) (fun p hp hn b hb => ?_) (fun p hp hn b hb => ?_)
  · obtain ⟨b', o, e, hlt, _⟩ := (h.2.2 p hp).1.bs.at_ hn
    rw [e] at hb
    injection hb with hb
    exact hE.block (hb ▸ hlt)
  · obtain ⟨b', o, e, hlt, _⟩ := (h.2.2 p hp).1.ks.at_ hn
    rw [e] at hb
    injection hb with hb
    exact hE.block (hb ▸ hlt)
theorem ORow.get {w : World} {base : Nat} {A : Option Addr} {n c : Nat} {q : List OpE} (h : ORow w base A n c q) {i : Nat} (hi : i < n) :
    ∃ g p, A = some ⟨g, 0, none⟩ ∧ q[i]? = some p ∧ OpW w p ∧ w.cell? ⟨g, i * 5, none⟩ = some (.int .i64 p.kind) ∧ w.cell? ⟨g, i * 5 + 1, none⟩ = some (.int .i64 p.file) ∧ w.cell? ⟨g, i * 5 + 2, none⟩ = some (.int .i64 p.n) ∧ w.cell? ⟨g, i * 5 + 3, none⟩ = some (.slice p.AB p.nB p.cB) ∧ w.cell? ⟨g, i * 5 + 4, none⟩ = some (.slice p.AK p.nK p.cK) := by
  obtain ⟨h1, h2, h3⟩ := h
  have h2' := h2
  have hx : q[i]? = some (q[i]'(by omega)) := List.getElem?_eq_getElem _
  rcases h2.2 with ⟨hv, h0⟩ | ⟨g, cap, cur, hv, hb, hh, hn, hm, hsz, htk⟩
  · omega
  · injection hv with e1 e2 e3
    subst e1 e3
    obtain ⟨f0, f1, f2, f3, f4⟩ := flat5_get q i _ hx
    refine ⟨g, _, rfl, hx, (h3 _ (List.mem_of_getElem? hx)).1, ?_, ?_, ?_, ?_, ?_⟩
    · rw [World.ownsRow.cellAt h2' (i * 5) (by omega), f0]
    · rw [World.ownsRow.cellAt h2' (i * 5 + 1) (by omega), f1]
    · rw [World.ownsRow.cellAt h2' (i * 5 + 2) (by omega), f2]
    · rw [World.ownsRow.cellAt h2' (i * 5 + 3) (by omega), f3]
    · rw [World.ownsRow.cellAt h2' (i * 5 + 4) (by omega), f4]
def opC (p : OpE) : Array Value := #[.int .i64 p.kind, .int .i64 p.file, .int .i64 p.n, .slice p.AB p.nB p.cB, .slice p.AK p.nK p.cK]
theorem wpList_appOp (w : World) {ops : Array Oper} {rest : List Oper} {o : Oper} {a : Act} {Q : Exit → Act → World → Prop} (hgd : o.guard = none) (s x : Operand)
    (ho : o.op = .call { callee := .builtin .append, args := #[s, x], argTypes := #[52, 52] })
    (base : Nat) (A : Option Addr) (n c : Nat) (q : List OpE) (hs : a.eval s = .slice A n c) (hown : ORow w base A n c q)
    (p : OpE) (hx : a.eval x = .slice (some ⟨w.heap.size, 0, none⟩) 1 1) (hp : OpW w p ∧ (0 < p.nB → ob p.AB ≠ ob A ∧ ∀ b, ob p.AB = some b → base ≤ b) ∧ (0 < p.nK → ob p.AK ≠ ob A ∧ ∀ b, ob p.AK = some b → base ≤ b))
    (hlen : n ≤ 1000000) (hbase : base ≤ w.heap.size)
    (h : ∀ g' c' w', ORow w' base (some ⟨g', 0, none⟩) (n + 1) c' (q ++ [p]) → w.grownBy w' (ob A) → Below base w w' → wpList Try.prog ops Q rest (a.put o.dst (.slice (some ⟨g', 0, none⟩) (n + 1) c')) w') :
    wpList Try.prog ops Q (o :: rest) a (w.alloc (.cells (opC p) 56)) := by
  obtain ⟨i, hi, hz0, hz1, hz2⟩ := info_parts (show (Try.prog.info? 56).map (fun i => (i.zero, i.size, i.bytes)) = some (some (.agg #[.int .i64 0, .int .i64 0, .int .i64 0, .slice none 0 0, .slice none 0 0]), 5, 72) from by kernel_rfl)
  have hE := (E.refl w).alloc (.cells (opC p) 56)
  have hown' := hown.e hE
  refine wpList_plain hgd fun K hK' => ?_
  obtain ⟨v', w', hrun, h2, h3, h4, h5⟩ := run_append_own_at (P := Try.prog) (w.alloc (.cells (opC p) 56)) base 52 o.type 56 i _ 5 72 Try.underlying52 hi hz0 hz1 hz2 rfl (by decide) _ n _ hown'.2.1 ⟨w.heap.size, 0, none⟩ 1 1 (opC p).toList rfl
    (by intro j u hu
        have hc := fun jj => cell_of_row _ w.heap.size jj _ _ _ (heap_alloc_new w (.cells (opC p) 56))
        unfold opC at hu
        match j with
        | 0 => simp at hu; subst hu; exact hc 0
        | 1 => simp at hu; subst hu; exact hc 1
        | 2 => simp at hu; subst hu; exact hc 2
        | 3 => simp at hu; subst hu; exact hc 3
        | 4 => simp at hu; subst hu; exact hc 4
        | j + 5 => simp at hu)
    (by intro u hu; simp [opC] at hu; rcases hu with rfl | rfl | rfl | rfl | rfl <;> rfl) (by unfold maxLen; omega) (by omega) (by simp; omega)
  unfold Oper.wp execOp
  simp only [ho, resolve, invoke, builtin, Sem.run_bind, Sem.run_pure, Result.andThen_ok, List.map_toArray, List.map_cons, List.map_nil, hs, hx, hrun]
  have hfl : flat5 q ++ (opC p).toList = flat5 (q ++ [p]) := by rw [flat5_app]; rfl
  rw [hfl] at h2
  have hG' := grown_of_alloc h3
  rw [ob_eq] at h3 hG'
  have hor : ob A = v'.ownBlock ∨ v'.ownBlock = some (w.heap.size + 1) := by
    rcases h5 with h5 | h5
    · left; rw [h5, ob_eq]
    · right; rw [h5]; simp
  rcases h2.2 with ⟨_, h0⟩ | ⟨g', c', cur, rfl, _⟩
  · omega
  · have hor' : ob A = some g' ∨ w.heap.size ≤ g' := by
      rcases hor with h | h
      · exact .inl h
      · right; simp [Value.ownBlock] at h; omega
    have key : ∀ {k : IntKind} (B : Option Addr) (nn cc : Nat) (l : List Int), Nums k w B nn cc l → (0 < nn → ob B ≠ ob A ∧ ∀ b, ob B = some b → base ≤ b) → Nums k w' B nn cc l ∧ (0 < nn → ob B ≠ ob (some (⟨g', 0, none⟩ : Addr)) ∧ ∀ b, ob B = some b → base ≤ b) := fun B nn cc l hr hne => by
      refine ⟨(hr.e hE).grown5 h3 (fun h => (hne h).1), fun h0 => ⟨fun e => ?_, (hne h0).2⟩⟩
      obtain ⟨b, o', e1, hb, _⟩ := hr.at_ h0
      have hne' := (hne h0).1
      rw [e1] at e hne'
      have : b = g' := by simpa [ob] using e
      subst this
      rcases hor' with h | h
      · exact hne' (by rw [h]; rfl)
      · omega
    have key2 : ∀ r : OpE, OpW w r ∧ (0 < r.nB → ob r.AB ≠ ob A ∧ ∀ b, ob r.AB = some b → base ≤ b) ∧ (0 < r.nK → ob r.AK ≠ ob A ∧ ∀ b, ob r.AK = some b → base ≤ b) → OpW w' r ∧ (0 < r.nB → ob r.AB ≠ ob (some (⟨g', 0, none⟩ : Addr)) ∧ ∀ b, ob r.AB = some b → base ≤ b) ∧ (0 < r.nK → ob r.AK ≠ ob (some (⟨g', 0, none⟩ : Addr)) ∧ ∀ b, ob r.AK = some b → base ≤ b) := fun r hr => by
      obtain ⟨k1, k2⟩ := key _ _ _ _ hr.1.bs hr.2.1
      obtain ⟨k3, k4⟩ := key _ _ _ _ hr.1.ks hr.2.2
      exact ⟨⟨hr.1.kw, hr.1.fw, hr.1.nw, k1, k3, hr.1.nb⟩, k2, k4⟩
    refine hK' _ _ (h g' c' w' ⟨by simp [hown.1], h2, fun r hr => ?_⟩ hG' ((Below.refl base w).grown hG' hbase (fun k hk => (hown.ltN k hk).1)))
    rcases List.mem_append.1 hr with hr | hr
    · exact key2 r (hown.2.2 r hr)
    · rw [List.mem_singleton] at hr
      subst hr
      exact key2 r hp
/-- the operations as a thing among others -/
def OpsT (A : Option Addr) (n c : Nat) (q : List OpE) (w : World) (X : Nat → Prop) : Prop :=
  ORow w 0 A n c q ∧ (∀ b, ob A = some b → X b) ∧ (∀ p ∈ q, (0 < p.nB → ∀ b, ob p.AB = some b → X b) ∧ (0 < p.nK → ∀ b, ob p.AK = some b → X b)) ∧ ∀ i, X i → i < w.heap.size
theorem opsT (A : Option Addr) (n c : Nat) (q : List OpE) : Thing (OpsT A n c q) :=
  ⟨fun h hz hb => ⟨h.1.same hz (fun b hb' => hb b (h.2.1 b hb')) (fun p hp h0 b hb' => hb b ((h.2.2.1 p hp).1 h0 b hb')) (fun p hp h0 b hb' => hb b ((h.2.2.1 p hp).2 h0 b hb')), h.2.1, h.2.2.1, fun i hi => Nat.lt_of_lt_of_le (h.2.2.2 i hi) hz⟩, fun h => h.2.2.2⟩
theorem Room.newOps {w0 w w' : World} {L : List (World → (Nat → Prop) → Prop)} (h : Room w0 w L) (hE : E w w') {A : Option Addr} {n c : Nat} {q : List OpE} (hO : ORow w' w.heap.size A n c q) : Room w0 w' (L ++ [OpsT A n c q]) := by
  refine h.add (X := fun i => w.heap.size ≤ i ∧ i < w'.heap.size) hE (opsT _ _ _ _) ⟨hO.low, fun b hb => hO.ltN b hb, fun p hp => ⟨fun h0 b hb => ⟨((hO.2.2 p hp).2.1 h0).2 b hb, ?_⟩, fun h0 b hb => ⟨((hO.2.2 p hp).2.2 h0).2 b hb, ?_⟩⟩, fun i hi => hi.2⟩ fun i hi => hi.1
  · obtain ⟨b', o, e, hlt, _⟩ := (hO.2.2 p hp).1.bs.at_ h0
    rw [e] at hb
    injection hb with hb
    exact hb ▸ hlt
  · obtain ⟨b', o, e, hlt, _⟩ := (hO.2.2 p hp).1.ks.at_ h0
    rw [e] at hb
    injection hb with hb
    exact hb ▸ hlt
/-- what an operation answers, and what it leaves -/
def opR (s : DS) (p : OpE) : Int × DS :=
  if p.kind = 0 then appR s p.file p.b else if p.kind = 1 then syncR s else if p.kind = 2 then truncR s p.file p.n else if p.kind = 3 then (0, armS s p.n) else (0, crashS s p.keep p.n)
end Go.Proofs.Ythcicfolabngcaa
/- do: an operation on a disk. -/
namespace Go.Proofs.Ythcicfolabngcaa
open Go.RowKit

theorem opR_0 {s : DS} {p : OpE} (h : p.kind = 0) : opR s p = appR s p.file p.b := by unfold opR; rw [if_pos h]
theorem opR_1 {s : DS} {p : OpE} (h : p.kind = 1) : opR s p = syncR s := by unfold opR; rw [if_neg (by omega), if_pos h]
theorem opR_2 {s : DS} {p : OpE} (h : p.kind = 2) : opR s p = truncR s p.file p.n := by unfold opR; rw [if_neg (by omega), if_neg (by omega), if_pos h]
theorem opR_3 {s : DS} {p : OpE} (h : p.kind = 3) : opR s p = (0, armS s p.n) := by unfold opR; rw [if_neg (by omega), if_neg (by omega), if_neg (by omega), if_pos h]
theorem opR_4 {s : DS} {p : OpE} (h0 : ¬ p.kind = 0) (h1 : ¬ p.kind = 1) (h2 : ¬ p.kind = 2) (h3 : ¬ p.kind = 3) : opR s p = (0, crashS s p.keep p.n) := by unfold opR; rw [if_neg h0, if_neg h1, if_neg h2, if_neg h3]
set_option maxHeartbeats 4000000 in
set_option maxRecDepth 100000 in
theorem do_c {X : Nat → Prop} {g k : Nat} {s : DS} {p : OpE} (w : World) (h : DiskAt w X g k s) (hp : OpW w p) (hB : away X p.AB p.nB) (hK : away X p.AK p.nK) (hk : k < 1000000) :
    Calls Try.prog 29 #[ptrV g, opV p] w (fun e w' => e = .returned (.int .i64 (opR s p).1) ∧ After w X g (k + 1) (opR s p).2 w') := by
  obtain ⟨f1, f2⟩ := wf_i64 hp.fw
  obtain ⟨n1, n2⟩ := wf_i64 hp.nw
  have hE := (E.refl w).alloc (.cells (opC p) 56)
  have HW := Lib.hid (hp.e hE)
  have HD := Lib.hid (h.e hE)
  have HX := Lib.hid (show Ex X w (w.alloc (.cells (opC p) 56)) from Ex.of_e hE)
  have HF := Lib.hid (And.intro (And.intro f1 f2) (And.intro n1 n2))
  have HBK := Lib.hid (And.intro hB (And.intro hK hk))
  have fin : ∀ (s' : DS) (k' : Nat) (w' : World), k' ≤ k + 1 → After (w.alloc (.cells (opC p) 56)) X g k' s' w' → After w X g (k + 1) s' w' := fun s' k' w' hk' hA => After.trans HX.out (fun _ h => .inl h) (hA.mono hk')
  have HFIN := Lib.hid fin
  clear hp h hE f1 f2 n1 n2 hB hK hk fin
  have hld := heap_alloc_new w (.cells (opC p) 56)
  have l0 : (w.alloc (.cells #[.int .i64 p.kind, .int .i64 p.file, .int .i64 p.n, .slice p.AB p.nB p.cB, .slice p.AK p.nK p.cK] 56)).cell? ⟨w.heap.size, 0, none⟩ = some (.int .i64 p.kind) := cell_of_row _ _ _ _ _ _ hld
  have l1 : (w.alloc (.cells #[.int .i64 p.kind, .int .i64 p.file, .int .i64 p.n, .slice p.AB p.nB p.cB, .slice p.AK p.nK p.cK] 56)).cell? ⟨w.heap.size, 1, none⟩ = some (.int .i64 p.file) := cell_of_row _ _ _ _ _ _ hld
  have l2 : (w.alloc (.cells #[.int .i64 p.kind, .int .i64 p.file, .int .i64 p.n, .slice p.AB p.nB p.cB, .slice p.AK p.nK p.cK] 56)).cell? ⟨w.heap.size, 2, none⟩ = some (.int .i64 p.n) := cell_of_row _ _ _ _ _ _ hld
  have l3 : (w.alloc (.cells #[.int .i64 p.kind, .int .i64 p.file, .int .i64 p.n, .slice p.AB p.nB p.cB, .slice p.AK p.nK p.cK] 56)).cell? ⟨w.heap.size, 3, none⟩ = some (.slice p.AB p.nB p.cB) := cell_of_row _ _ _ _ _ _ hld
  have l4 : (w.alloc (.cells #[.int .i64 p.kind, .int .i64 p.file, .int .i64 p.n, .slice p.AB p.nB p.cB, .slice p.AK p.nK p.cK] 56)).cell? ⟨w.heap.size, 4, none⟩ = some (.slice p.AK p.nK p.cK) := cell_of_row _ _ _ _ _ _ hld
  clear hld
  unfold opC at HW HD HX HFIN
  unfold ptrV opV
  by_cases k0 : p.kind = 0
  · have d0 : (p.kind == 0) = true := by simp [k0]
    have HR := Lib.hid (opR_0 (s := s) k0)
    clear k0
    go_enter Try.func29, Try.ntmps29
    go_wp2_with (go_at_call 14; refine (DiskAt.append HD.out p.file p.AB p.nB p.cB p.b HF.out.1.1 HF.out.1.2 HW.out.bs HBK.out.1 HBK.out.2.2).mono ?_; rintro e w1 ⟨rfl, hA⟩)
    go_ret
    rw [HR.out]
    exact ⟨rfl, HFIN.out _ _ _ (Nat.le_refl _) hA⟩
  · have d0 : (p.kind == 0) = false := by simp [k0]
    by_cases k1 : p.kind = 1
    · have d1 : (p.kind == 1) = true := by simp [k1]
      have HR := Lib.hid (opR_1 (s := s) k1)
      clear k0 k1
      go_enter Try.func29, Try.ntmps29
      go_wp2_with (go_at_call 15; refine (DiskAt.sync HD.out).mono ?_; rintro e w1 ⟨rfl, hA⟩)
      go_ret
      rw [HR.out]
      exact ⟨rfl, HFIN.out _ _ _ (Nat.le_succ _) hA⟩
    · have d1 : (p.kind == 1) = false := by simp [k1]
      by_cases k2 : p.kind = 2
      · have d2 : (p.kind == 2) = true := by simp [k2]
        have HR := Lib.hid (opR_2 (s := s) k2)
        clear k0 k1 k2
        go_enter Try.func29, Try.ntmps29
        go_wp2_with (go_at_call 20; refine (DiskAt.trunc p.file p.n HD.out HF.out.1.1 HF.out.1.2).mono ?_; rintro e w1 ⟨rfl, hA⟩)
        go_ret
        rw [HR.out]
        exact ⟨rfl, HFIN.out _ _ _ (Nat.le_succ _) hA⟩
      · have d2 : (p.kind == 2) = false := by simp [k2]
        by_cases k3 : p.kind = 3
        · have d3 : (p.kind == 3) = true := by simp [k3]
          have HR := Lib.hid (opR_3 (s := s) k3)
          clear k0 k1 k2 k3
          go_enter Try.func29, Try.ntmps29
          go_wp2_with (go_at_call 23; refine (DiskAt.arm HD.out p.n HF.out.2.1 HF.out.2.2).mono ?_; rintro e w1 ⟨rfl, hA⟩)
          go_ret
          rw [HR.out]
          exact ⟨rfl, HFIN.out _ _ _ (Nat.le_succ _) hA⟩
        · have d3 : (p.kind == 3) = false := by simp [k3]
          have HR := Lib.hid (opR_4 (s := s) k0 k1 k2 k3)
          clear k0 k1 k2 k3
          obtain ⟨mb, F, A, c, hD⟩ := HD.out
          have HD2 := Lib.hid hD
          clear hD
          go_enter Try.func29, Try.ntmps29
          go_wp2_with (go_at_call 16; refine (crash_c p.AK p.nK p.cK p.keep p.n _ HD2.out HW.out.ks HBK.out.2.1 HF.out.2.1 HF.out.2.2).mono ?_; rintro e w1 ⟨rfl, hA⟩)
          go_ret
          rw [HR.out]
          exact ⟨rfl, HFIN.out _ _ _ (Nat.le_succ _) hA⟩
theorem Room.do_ {w0 w : World} {L : List (World → (Nat → Prop) → Prop)} {g k : Nat} {s : DS} {j jo : Nat} {A : Option Addr} {n c : Nat} {q : List OpE} {p : OpE} (h : Room w0 w L) (hj : L[j]? = some (DiskT g k s)) (hjo : L[jo]? = some (OpsT A n c q)) (hne : j ≠ jo) (hp : p ∈ q) (hk : k < 1000000) :
    Calls Try.prog 29 #[ptrV g, opV p] w (fun e w' => e = .returned (.int .i64 (opR s p).1) ∧ Room w0 w' (L.set j (DiskT g (k + 1) (opR s p).2))) :=
  h.op (E.refl w) j hj (diskT _ _ _) fun _ hF hD _ => by
    obtain ⟨hO, _, hX, _⟩ := hF.at_ jo _ hjo
    obtain ⟨hW, _⟩ := hO.2.2 p hp
    exact do_c w hD hW (hF.away_thing (getL hj).1 (getL hjo).1 hne (hX p hp).1) (hF.away_thing (getL hj).1 (getL hjo).1 hne (hX p hp).2) hk
end Go.Proofs.Ythcicfolabngcaa
/- The model's Sync and Truncate. -/
namespace Go.Proofs.Ythcicfolabngcaa
open Go.RowKit

/-- the files below i are firm -/
def firmU (s : DS) (i : Nat) : DS := { s with firm := fun j => if 0 ≤ j ∧ j < (i : Int) then (s.b j).length else s.firm j }
theorem firmU_zero (s : DS) : firmU s 0 = s := by
  unfold firmU
  have : (fun j : Int => if 0 ≤ j ∧ j < ((0 : Nat) : Int) then (s.b j).length else s.firm j) = s.firm := by funext j; rw [if_neg (by omega)]
  rw [this]
theorem firmU_all {s : DS} (h : DOk s) : firmU s 64 = firmS s := by
  unfold firmU firmS
  congr 1
  funext j
  by_cases e : 0 ≤ j ∧ j < ((64 : Nat) : Int)
  · rw [if_pos e]
  · rw [if_neg e]
    have hj : isF j = false := by
      cases hq : isF j
      · rfl
      · exact absurd (isF_iff.1 hq) e
    rw [h.firm0 (h.out j hj), h.out j hj]; rfl
theorem DOk.firmU {s : DS} (h : DOk s) (i : Nat) : DOk (firmU s i) := by
  refine ⟨h.out, fun j => ?_, h.room, h.used, h.plan⟩
  simp only [Proofs.Ythcicfolabngcaa.firmU]
  split
  · exact Nat.le_refl _
  · exact h.firm j
theorem Ex.putX {X : Nat → Prop} {w w' : World} (h : Ex X w w') {b : Nat} (hb : X b) (i : Nat) (v : Value) : Ex X w (w'.setCell ⟨b, i, none⟩ v) :=
  h.grown (grownBy_set w' b i v) fun k hk => by injection hk with hk; exact .inr (hk ▸ hb)
theorem Ex.drewX {X : Nat → Prop} {w w' : World} (h : Ex X w w') : Ex X w w'.drew := h.trans (Ex.of_e (X := X) (E.refl w').drew) (fun _ _ x => x) (fun _ _ x => x)
section
variable {X : Nat → Prop} {g bb fb : Nat} {s : DS} {A : Int → Option Addr} {c : Int → Nat}
/-- the loop that makes all firm -/
theorem firm_round {w : World} {i : Nat} (hD : ModM w X g bb fb (firmU s i) A c) (ok : DOk s) (_hi : i < 64) : ModM (w.setCell ⟨fb, i, none⟩ (.int .i64 ((s.b (i : Int)).length : Nat))) X g bb fb (firmU s (i + 1)) A c :=
  hD.firm1 i _ ⟨rfl, rfl, rfl, rfl⟩ (fun j _ => by
    simp only [firmU]
    by_cases e : j = i
    · subst e
      rw [if_pos rfl, if_pos (by omega)]
    · rw [if_neg e]
      by_cases e2 : j < i
      · rw [if_pos (by omega), if_pos (by omega)]
      · rw [if_neg (by omega), if_neg (by omega)]) (ok.firmU _)
set_option maxHeartbeats 4000000 in
set_option maxRecDepth 100000 in
theorem msync_c (w : World) (h : ModM w X g bb fb s A c) : Calls Try.prog 50 #[ptrV g] w (fun e w' => e = .returned (.int .i64 (syncR s).1) ∧ AfterM w X g (syncR s).2 w') := by
  obtain ⟨_, _, _, c3, _⟩ := h.cells
  have H := Lib.hid h
  clear h
  cases ho : s.off with
  | true =>
    rw [ho] at c3
    have HR := Lib.hid (show syncR s = (23, s) by unfold syncR; rw [if_pos ho])
    clear ho
    unfold ptrV
    go_enter Try.func50, Try.ntmps50
    go_wp2
    go_ret
    rw [HR.out]
    exact ⟨rfl, H.out.now⟩
  | false =>
    rw [ho] at c3
    have HST := Lib.hid (mstep_c w H.out ho)
    have HO := Lib.hid ho
    clear ho
    obtain ⟨s1, hs1⟩ : ∃ s1, stepS s = s1 := ⟨_, rfl⟩
    have HS1 := Lib.hid hs1
    rw [hs1] at HST
    clear hs1
    unfold ptrV at HST ⊢
    cases hb : s1.off with
    | true =>
      have HR := Lib.hid (show syncR s = (23, s1) by unfold syncR; rw [if_neg (by rw [HO.out]; decide), HS1.out, if_pos hb])
      rw [hb] at HST
      clear hb
      go_enter Try.func50, Try.ntmps50
      go_wp2_with (go_at_call 74; refine HST.out.mono ?_; rintro e w1 ⟨rfl, hD1, hG1⟩)
      go_ret
      rw [HR.out]
      exact ⟨rfl, hD1.after (mex_of_grown hG1 H.out.xg)⟩
    | false =>
      have HR := Lib.hid (show syncR s = (0, firmS s1) by unfold syncR; rw [if_neg (by rw [HO.out]; decide), HS1.out, if_neg (by rw [hb]; decide)])
      rw [hb] at HST
      clear hb
      go_enter Try.func50, Try.ntmps50
      go_wp2_with (go_at_call 74; refine HST.out.mono ?_; rintro e w1 ⟨rfl, hD1, hG1⟩)
      have HOK := Lib.hid hD1.ok
      have hX1 := mex_of_grown hG1 H.out.xg
      clear hG1 c3
      go_loopw [4] (fun t4 wr => ∃ i : Nat, t4 = .int .i64 i ∧ i ≤ 64 ∧ ModM wr X g bb fb (firmU s1 i) A c ∧ Ex X w wr) (fun t4 _ => 64 - (intOf t4).toNat)
      case atStart => exact ⟨0, rfl, by decide, by rw [firmU_zero]; exact hD1, hX1⟩
      case round =>
        clear hD1 hX1
        obtain ⟨i, rfl, hi, hD, hX⟩ := hrel
        have HD := Lib.hid hD
        have HX := Lib.hid hX
        clear hD hX
        by_cases hlt : i < 64
        · have dlt : decide ((i : Int) < 64) = true := by simp; omega
          have hltI : (i : Int) < 64 := by omega
          obtain ⟨_, c1, c2, _, _⟩ := HD.out.cells
          obtain ⟨b0, b1⟩ := HD.out.file hlt
          have f1 := HD.out.hf.frz i
          have HL := Lib.hid hlt
          have HB := Lib.hid (show ((firmU s1 i).b (i : Int)).length = (s1.b (i : Int)).length from rfl)
          go_upto_region 9 with fail
          go_still_tail 14, (by kernel_rfl)
          go_wp2_with fail
          exact ⟨⟨i + 1, rfl, HL.out, (firm_round HD.out HOK.out HL.out).e (E.refl _).drew, (HX.out.putX HD.out.xf i _).drewX⟩, by have := HL.out; simp only [intOf]; omega⟩
        · have dlt : decide ((i : Int) < 64) = false := by simp; omega
          have HI := Lib.hid (show i = 64 by omega)
          clear hlt
          go_wp2_with fail
          go_ret
          rw [HR.out, ← firmU_all HOK.out, ← HI.out]
          exact ⟨rfl, HD.out.after HX.out⟩
theorem Own.takeN {k : IntKind} {T : TypeId} {w : World} {B : Option Addr} {n c0 : Nat} {l : List Int} (h : Own k T w 0 B n c0 l) {m : Nat} (hm : m ≤ n) : Own k T w 0 B m c0 (l.take m) := by
  rcases h.form with ⟨rfl, rfl, hc⟩ | ⟨r, rfl, _⟩
  · have : m = 0 := by omega
    subst this
    have hl : l = [] := List.eq_nil_of_length_eq_zero h.1
    rw [hl, List.take_nil]
    rw [hl] at h
    exact h
  · exact h.take_ hm
/-- a file is cut: its slice first, then how much of it is firm -/
theorem ModM.cut {w w2 : World} (h : ModM w X g bb fb s A c) {j m : Nat} (hj : j < 64) (hm : m ≤ (s.b (j : Int)).length) (h2 : w2.heap = (w.setCell ⟨bb, j, none⟩ (.slice (A j) m (c j))).heap) :
    ModM (w2.setCell ⟨fb, j, none⟩ (.int .i64 (min (s.firm (j : Int)) m : Nat))) X g bb fb (cutS s j m) A c := by
  have hjf : isF (j : Int) = true := isF_iff.2 ⟨by omega, by omega⟩
  have n1 : ∀ q, q ≠ bb → w2.heap[q]? = w.heap[q]? := fun q e => by rw [h2]; exact Below.heap_setCell _ _ _ _ e
  have n2 : ∀ q, q ≠ fb → (w2.setCell ⟨fb, j, none⟩ (.int .i64 (min (s.firm (j : Int)) m : Nat))).heap[q]? = w2.heap[q]? := fun q e => Below.heap_setCell _ _ _ _ e
  have hz : (w2.setCell ⟨fb, j, none⟩ (.int .i64 (min (s.firm (j : Int)) m : Nat))).heap.size = w.heap.size := by
    have : (w2.setCell ⟨fb, j, none⟩ (.int .i64 (min (s.firm (j : Int)) m : Nat))).heap.size = w2.heap.size := by simp [World.setCell]
    rw [this, h2]
    simp [World.setCell]
  have hb2 : RowV w2 bb 27 (fun i => if i = j then .slice (A j) m (c j) else bytV s A c i) := (h.hb.put j (.slice (A j) m (c j))).same (by rw [h2])
  have hf2 := (h.hf.same (n1 fb h.bf.symm)).put j (.int .i64 (min (s.firm (j : Int)) m : Nat))
  refine ⟨by rw [n2 g h.fg.symm, n1 g h.bg.symm, h.hd]; rfl, (hb2.same (n2 bb h.bf)).ext fun i _ => ?_, hf2.ext fun i _ => ?_, fun i hi => ?_, h.ap, h.xg, h.xb, h.xf, h.xr, fun i hi => by rw [hz]; exact h.xl i hi, h.ok.cut _ _⟩
  · unfold bytV
    by_cases e : i = j
    · subst e
      rw [if_pos rfl]
      simp only [cutS, upd_same]
      rw [List.length_take, Nat.min_eq_left hm]
    · rw [if_neg e]
      simp only [cutS]
      rw [upd_other _ _ (by omega)]
  · unfold firV
    by_cases e : i = j
    · subst e
      rw [if_pos rfl]
      simp only [cutS, upd_same]
    · rw [if_neg e]
      simp only [cutS]
      rw [upd_other _ _ (by omega)]
  · have hO : Own .u8 5 (w2.setCell ⟨fb, j, none⟩ (.int .i64 (min (s.firm (j : Int)) m : Nat))) 0 (A i) (s.b i).length (c i) (s.b i) :=
      (h.row i hi).same fun b hb => by rw [n2 b (fun e => (h.rg hi).2.2 (e ▸ hb)), n1 b (fun e => (h.rg hi).2.1 (e ▸ hb))]
    by_cases e : i = j
    · subst e
      simp only [cutS, upd_same]
      rw [List.length_take, Nat.min_eq_left hm]
      exact hO.takeN hm
    · simp only [cutS]
      rw [upd_other _ _ e]
      exact hO
theorem AfterM.put {w w1 : World} (hE : Ex X w w1) (h : ModM w1 X g bb fb s A c) : AfterM w X g s w1 := h.after hE
set_option maxHeartbeats 4000000 in
set_option maxRecDepth 100000 in
theorem mtrunc_c (i n : Int) (w : World) (h : ModM w X g bb fb s A c) (h1 : -9223372036854775808 ≤ i) (h2 : i ≤ 9223372036854775807) (h3 : n ≤ 9223372036854775807) : Calls Try.prog 51 #[ptrV g, .int .i64 i, .int .i64 n] w (fun e w' => e = .returned (.int .i64 (truncR s i n).1) ∧ AfterM w X g (truncR s i n).2 w') := by
  obtain ⟨_, c1, _, c3, _⟩ := h.cells
  have H := Lib.hid h
  clear h
  obtain ⟨bad, hbad⟩ : ∃ bad, decide (isF i = false ∨ n < 0 ∨ ((s.b i).length : Int) < n) = bad := ⟨_, rfl⟩
  have HB := Lib.hid hbad
  clear hbad
  have HST := Lib.hid (fun ho => mstep_c w H.out ho)
  unfold ptrV at HST ⊢
  go_enter Try.func51, Try.ntmps51
  go_upto_region 1 with fail
  go_cut [29] (fun t29 wx => t29 = .bool bad ∧ w = wx)
  case first =>
    by_cases i0 : i < 0
    · have d0 : decide (i < 0) = true := by simpa using i0
      have hb : bad = true := by
        rw [← HB.out]
        have : isF i = false := by
          cases e : isF i
          · rfl
          · have := isF_iff.1 e; omega
        simp [this]
      clear i0
      go_wp2_with fail
      go_meet
      exact ⟨by rw [hb], rfl⟩
    · have d0 : decide (i < 0) = false := by simpa using i0
      by_cases i1 : 63 < i
      · have d1 : decide (63 < i) = true := by simpa using i1
        have hb : bad = true := by
          rw [← HB.out]
          have : isF i = false := by
            cases e : isF i
            · rfl
            · have := isF_iff.1 e; omega
          simp [this]
        clear i0 i1
        go_wp2_with fail
        go_meet
        exact ⟨by rw [hb], rfl⟩
      · obtain ⟨j, rfl⟩ : ∃ j : Nat, i = j := ⟨i.toNat, by omega⟩
        have d1 : decide ((63 : Int) < (j : Int)) = false := by simpa using i1
        have d1' : decide (63 < j) = false := by simp; omega
        have hj : j < 64 := by omega
        have hjI : (j : Int) < 64 := by omega
        have HF := Lib.hid (show isF (j : Int) = true from isF_iff.2 ⟨by omega, by omega⟩)
        by_cases n0 : n < 0
        · have d2 : decide (n < 0) = true := by simpa using n0
          have hb : bad = true := by rw [← HB.out]; simp [n0]
          clear i0 i1 n0
          go_wp2_with fail
          go_meet
          exact ⟨by rw [hb], rfl⟩
        · have d2 : decide (n < 0) = false := by simpa using n0
          obtain ⟨b0, _⟩ := H.out.file hj
          have hb : decide (((s.b (j : Int)).length : Int) < n) = bad := by rw [← HB.out, HF.out]; simp [n0]
          clear i0 i1 n0
          go_wp2_with fail
          go_meet
          exact ⟨by first | rfl | rw [hb], rfl⟩
  case rest =>
    obtain ⟨rfl, rfl⟩ := hcut
    cases bad with
    | true =>
      have HR := Lib.hid (show truncR s i n = (1, s) by unfold truncR; rw [if_pos (by simpa using HB.out)])
      go_wp2_with fail
      go_ret
      rw [HR.out]
      exact ⟨rfl, H.out.now⟩
    | false =>
      have hnb : ¬ (isF i = false ∨ n < 0 ∨ ((s.b i).length : Int) < n) := by simpa using HB.out
      have hif : isF i = true := by
        cases e : isF i
        · exact absurd (.inl e) hnb
        · rfl
      have hi := isF_iff.1 hif
      obtain ⟨j, rfl⟩ : ∃ j : Nat, i = j := ⟨i.toNat, by omega⟩
      have hn0 : ¬ n < 0 := fun e => hnb (.inr (.inl e))
      have hnl : ¬ (((s.b (j : Int)).length : Int) < n) := fun e => hnb (.inr (.inr e))
      obtain ⟨m, rfl⟩ : ∃ m : Nat, n = m := ⟨n.toNat, by omega⟩
      have HNB := Lib.hid hnb
      have hj : j < 64 := by omega
      have hjI : (j : Int) < 64 := by omega
      have HM := Lib.hid (show m ≤ (s.b (j : Int)).length by omega)
      clear hnb hif hi hn0 hnl
      cases ho : s.off with
      | true =>
        rw [ho] at c3
        have HR := Lib.hid (show truncR s j m = (23, s) by unfold truncR; rw [if_neg HNB.out, if_pos ho])
        clear ho
        go_wp2_with fail
        go_ret
        rw [HR.out]
        exact ⟨rfl, H.out.now⟩
      | false =>
        rw [ho] at c3
        have HS := Lib.hid (HST.out ho)
        have HO := Lib.hid ho
        obtain ⟨s1, hs1⟩ : ∃ s1, stepS s = s1 := ⟨_, rfl⟩
        have HS1 := Lib.hid hs1
        rw [hs1] at HS
        clear hs1 ho HST
        cases hb : s1.off with
        | true =>
          have HR := Lib.hid (show truncR s j m = (23, s1) by unfold truncR; rw [if_neg HNB.out, if_neg (by rw [HO.out]; decide), HS1.out, if_pos hb])
          rw [hb] at HS
          clear hb
          go_wp2_with (go_at_call 74; refine HS.out.mono ?_; rintro e w1 ⟨rfl, hD1, hG1⟩)
          go_ret
          rw [HR.out]
          exact ⟨rfl, hD1.after (mex_of_grown hG1 H.out.xg)⟩
        | false =>
          have HR := Lib.hid (show truncR s j m = (0, cutS s1 j m) by unfold truncR; rw [if_neg HNB.out, if_neg (by rw [HO.out]; decide), HS1.out, if_neg (by rw [hb]; decide), Int.toNat_natCast])
          rw [hb] at HS
          clear hb
          go_upto_region 8 with (go_at_call 74; refine HS.out.mono ?_; rintro e w1 ⟨rfl, hD1, hG1⟩)
          have HD := Lib.hid hD1
          have HX := Lib.hid (mex_of_grown hG1 H.out.xg)
          have HM1 := Lib.hid (show m ≤ (s1.b (j : Int)).length by rw [← HS1.out, stepS_b]; exact HM.out)
          clear hD1 hG1 c1 c3 HS HNB
          obtain ⟨_, c1, c2, _, _⟩ := HD.out.cells
          obtain ⟨b0, b1⟩ := HD.out.file hj
          have f0 := HD.out.hb.frz j
          have hcap := (HD.out.row j (isF_iff.2 ⟨by omega, by omega⟩)).reads.cap
          have hc63 := (HD.out.row j (isF_iff.2 ⟨by omega, by omega⟩)).reads.c63
          have hmc : (m : Int) ≤ (c j : Int) := by have := HM1.out; omega
          have hm0 : (0 : Int) ≤ (m : Int) := by omega
          go_still_tail 15, (by kernel_rfl)
          go_upto_region 9 with fail
          obtain ⟨w2, hw2⟩ : ∃ w2, (w1.setCell ⟨bb, j, none⟩ (.slice (A (j : Int)) m (c (j : Int)))).drew = w2 := ⟨_, rfl⟩
          have H2 := Lib.hid (show w2.heap = (w1.setCell ⟨bb, j, none⟩ (.slice (A (j : Int)) m (c (j : Int)))).heap by rw [← hw2]; rfl)
          have HX2 := Lib.hid (show Ex X w w2 by rw [← hw2]; exact (HX.out.setCell ⟨bb, j, none⟩ (.inr HD.out.xb) _).drew)
          have hb2 : ∀ q, q ≠ bb → w2.heap[q]? = w1.heap[q]? := fun q e => by rw [H2.out]; exact Below.heap_setCell _ _ _ _ e
          have c2' : w2.cell? ⟨g, 2, none⟩ = some (.slice (some ⟨fb, 0, none⟩) 64 64) := (World.cell?_of_block (a := ⟨g, 2, none⟩) (hb2 g HD.out.bg.symm)).trans c2
          have hf2 := HD.out.hf.same (hb2 fb HD.out.bf.symm)
          have b1' : w2.cell? ⟨fb, j, none⟩ = some (.int .i64 (s1.firm (j : Int) : Nat)) := hf2.cell hj
          have f1 := hf2.frz j
          have HC := Lib.hid (HD.out.cut hj HM1.out H2.out)
          rw [hw2]
          clear hw2 hb2 hf2 b0 b1 c1 c2 f0
          go_still_tail 15, (by kernel_rfl)
          go_wp2_with fail
          go_ret
          rw [HR.out, show (min ((s1.firm (j : Int) : Nat) : Int) (m : Int)) = ((min (s1.firm (j : Int)) m : Nat) : Int) by omega]
          exact ⟨rfl, (HC.out.e (E.refl _).drew).after ((HX2.out.setCell ⟨fb, j, none⟩ (.inr HD.out.xf) _).drew)⟩
end
end Go.Proofs.Ythcicfolabngcaa
/- The model's Crash: plain part. -/
namespace Go.Proofs.Ythcicfolabngcaa
open Go.RowKit

/-- what is left to be inverted: bit a of the loose bytes of the files l (a < 0: none) -/
def restI (s : DS) (l : List Int) (a : Int) : DS := if 0 ≤ a then invertF s l a.toNat else s
/-- the same, in the middle of file x, from byte k on -/
def restB (s : DS) (x : Int) (k : Nat) (l : List Int) (a : Int) : DS :=
  if 0 ≤ a then (if a.toNat < 8 * ((s.b x).length - k) then putS s x (k + a.toNat / 8) (flipB ((s.b x).getD (k + a.toNat / 8) 0) (a.toNat % 8)) else invertF s l (a.toNat - 8 * ((s.b x).length - k))) else s
theorem restI_cons (s : DS) (x : Int) (l : List Int) (a : Int) : restI s (x :: l) a = restB s x (s.firm x) l a := by
  unfold restI restB
  split
  · by_cases h : a.toNat < 8 * ((s.b x).length - s.firm x)
    · rw [invertF_here h, if_pos h]
    · rw [invertF_next h, if_neg h]
  · rfl
theorem restI_nil (s : DS) (a : Int) : restI s [] a = s := by unfold restI; split <;> rfl
theorem restB_end (s : DS) (x : Int) (k : Nat) (l : List Int) (a : Int) (h : (s.b x).length ≤ k) : restB s x k l a = restI s l a := by
  unfold restI restB
  split
  · rw [if_neg (by omega)]
    congr 1
    omega
  · rfl
theorem restB_hit (s : DS) (x : Int) (k : Nat) (l : List Int) (a : Int) (h0 : 0 ≤ a) (h8 : a < 8) (hk : k < (s.b x).length) :
    restB s x k l a = restB (putS s x k (flipB ((s.b x).getD k 0) a.toNat)) x (k + 1) l (a - 8) := by
  unfold restB
  rw [if_pos h0, if_pos (by omega), if_neg (by omega)]
  rw [show k + a.toNat / 8 = k by omega, show a.toNat % 8 = a.toNat by omega]
theorem restB_miss (s : DS) (x : Int) (k : Nat) (l : List Int) (a : Int) (h : ¬ (0 ≤ a ∧ a < 8)) (hk : k < (s.b x).length) :
    restB s x k l a = restB s x (k + 1) l (a - 8) := by
  unfold restB
  by_cases h0 : 0 ≤ a
  · rw [if_pos h0, if_pos (show 0 ≤ a - 8 by omega)]
    by_cases h1 : a.toNat < 8 * ((s.b x).length - k)
    · rw [if_pos h1, if_pos (show (a - 8).toNat < 8 * ((s.b x).length - (k + 1)) by omega), show k + 1 + (a - 8).toNat / 8 = k + a.toNat / 8 by omega, show (a - 8).toNat % 8 = a.toNat % 8 by omega]
    · rw [if_neg h1, if_neg (show ¬ (a - 8).toNat < 8 * ((s.b x).length - (k + 1)) by omega)]
      congr 1
      omega
  · rw [if_neg h0, if_neg (show ¬ 0 ≤ a - 8 by omega)]
theorem cutS_firm (s : DS) (x : Int) (k : Nat) : (cutS s x (s.firm x + k)).firm = s.firm := by
  simp only [cutS]
  rw [show min (s.firm x) (s.firm x + k) = s.firm x by omega, upd_id]
theorem mflip_fin : ∀ (x : Fin 256) (p : Fin 8), bits .xor .u8 ((x.val : Nat) : Int) ((2 ^ (7 - p.val) : Nat) : Int) = flipB ((x.val : Nat) : Int) p.val := by decide +kernel
theorem mflip_bits {y : Int} (hy : (Lit.int .u8 y).wf = true) {p : Nat} (hp : p < 8) : bits .xor .u8 y ((2 ^ (7 - p) : Nat) : Int) = flipB y p := by
  obtain ⟨h0, h1⟩ := wf_u8 hy
  obtain ⟨n, rfl⟩ : ∃ n : Nat, y = n := ⟨y.toNat, by omega⟩
  exact mflip_fin ⟨n, by omega⟩ ⟨p, hp⟩
theorem shl_val {p : Nat} (hp : p < 8) : (2 : Int) ^ min (7 - p) 8 % 256 = ((2 ^ (7 - p) : Nat) : Int) := by
  rcases p with _ | _ | _ | _ | _ | _ | _ | _ | p <;> first | rfl | omega
section
variable {X X' : Nat → Prop} {g bb fb : Nat} {s : DS} {A : Int → Option Addr} {c : Int → Nat}
/-- the model at wr, whose blocks are those at w and new ones -/
def ModIn (w : World) (X : Nat → Prop) (g bb fb : Nat) (s : DS) (wr : World) : Prop := ∃ X' A c, ModM wr X' g bb fb s A c ∧ Ex X w wr ∧ ∀ q, X' q → X q ∨ w.heap.size ≤ q
theorem ModIn.ex {w wr : World} (h : ModIn w X g bb fb s wr) : Ex X w wr := by obtain ⟨_, _, _, _, h, _⟩ := h; exact h
theorem ModIn.step {w w1 w2 : World} {X2 : Nat → Prop} (hX : ∀ q, X' q → X q ∨ w.heap.size ≤ q) (hE : Ex X w w1) {s' : DS} {A' : Int → Option Addr} {c' : Int → Nat} (h' : ModM w2 X2 g bb fb s' A' c') (hE' : Ex X' w1 w2) (hX2 : ∀ q, X2 q → X' q ∨ w1.heap.size ≤ q) : ModIn w X g bb fb s' w2 :=
  ⟨X2, A', c', h', hE.trans hE' (fun _ _ x => x) (fun i hi x => by
    rcases hX i x with x | x
    · exact x
    · omega), fun q hq => by
    rcases hX2 q hq with h | h
    · exact hX q h
    · exact .inr (Nat.le_trans hE.size h)⟩
theorem ModIn.after {w wr : World} (h : ModIn w X g bb fb s wr) : AfterM w X g s wr := by
  obtain ⟨X', A, c, h1, h2, h3⟩ := h
  exact ⟨X', ⟨bb, fb, A, c, h1⟩, h2, h3⟩
end
end Go.Proofs.Ythcicfolabngcaa
/- The model's Crash. -/
namespace Go.Proofs.Ythcicfolabngcaa
open Go.RowKit

section
variable {X X' : Nat → Prop} {g bb fb : Nat} {s : DS} {A : Int → Option Addr} {c : Int → Nat}
set_option linter.unusedSimpArgs false in
set_option maxHeartbeats 8000000 in
set_option maxRecDepth 100000 in
theorem mcrash_c (K : Option Addr) (m cK : Nat) (keep : List Int) (flip : Int) (w : World) (h : ModM w X g bb fb s A c) (hK : Nums .i64 w K m cK keep) (hKX : away X K m) (hf1 : -9223372036854775808 ≤ flip) (hf2 : flip ≤ 9223372036854775807) :
    Calls Try.prog 53 #[ptrV g, .slice K m cK, .int .i64 flip] w (fun e w' => e = .returned (.tuple #[]) ∧ AfterM w X g (crashS s keep flip) w') := by
  have H := Lib.hid h
  have HK := Lib.hid hK
  have HKX := Lib.hid hKX
  have hm63 := hK.n63
  have HF := Lib.hid (And.intro hf1 hf2)
  have HFI := Lib.hid (mfiles_c w h)
  clear h hK hKX
  unfold ptrV at HFI ⊢
  go_enter Try.func53, Try.ntmps53
  go_wp2_with (go_at_call 55; refine HFI.out.mono ?_; rintro e w1 ⟨A1, n1, c1, rfl, hO1, hE1⟩)
  have HLN := Lib.hid hO1.1
  have h64 : n1 ≤ 64 := by rw [← hO1.1]; exact liveI_len _
  have HD := Lib.hid (H.out.e hE1)
  have HO1 := Lib.hid hO1
  have HE1 := Lib.hid hE1
  have HXB := Lib.hid (show ∀ b, ob A1 = some b → ¬ X b from fun b hb hx => by have := (hO1.ltN b hb).1; have := H.out.xl b hx; omega)
  clear hO1 hE1 hf1 hf2
  go_loopw [8, 7] (fun t8 t7 wr => ∃ (i n : Nat) (s' : DS), t8 = .int .i64 i ∧ t7 = .int .i64 n ∧ i ≤ n1 ∧ Losing s keep i s' n ∧ ModIn w1 X g bb fb s' wr) (fun t8 _ _ => n1 - (intOf t8).toNat)
  case atStart => exact ⟨0, 0, s, rfl, rfl, Nat.zero_le _, Losing.zero _ _, X, A, c, HD.out, Ex.refl _ _, fun _ h => .inl h⟩
  case round =>
    obtain ⟨i, n, s', rfl, rfl, hi, hL, hM⟩ := hrel
    have HL := Lib.hid hL
    have HMI := Lib.hid hM
    clear hL hM
    by_cases hlt : i < n1
    · obtain ⟨X', A', c', hD', hEX, hXX⟩ := HMI.out
      have hO := (HO1.out.ex hEX HXB.out)
      obtain ⟨r1, x, rfl, _, _, hx, hwx, hcx, _⟩ := hO.get hlt
      have hxm : x ∈ liveI s.b := List.mem_of_getElem? hx
      have hxf := isF_iff.1 (H.out.ok.ne ((mem_liveI H.out.ok).1 hxm))
      obtain ⟨j, rfl⟩ : ∃ j : Nat, x = j := ⟨x.toNat, by omega⟩
      have hj : j < 64 := by omega
      have hjI : (j : Int) < 64 := by omega
      obtain ⟨_, d1, d2, _, _⟩ := hD'.cells
      obtain ⟨b0, b1⟩ := hD'.file hj
      have hKr := (HK.out.ex (Ex.of_e HE1.out) HKX.out).ex hEX HKX.out
      have HX := Lib.hid hx
      have HDR := Lib.hid hD'
      have HKP := Lib.hid (keptF_le s' hD'.ok keep i j)
      have HEX := Lib.hid (And.intro hEX hXX)
      have dlt : decide (i < n1) = true := by simpa using hlt
      have HLT := Lib.hid hlt
      have HSL := Lib.hid (And.intro (hD'.ok.firm j) (hD'.ok.len24 j))
      clear hx hD' hxm hO hEX hXX hxf
      obtain ⟨kv, hkv⟩ : ∃ kv, keptF s' keep i j = kv := ⟨_, rfl⟩
      have HKV := Lib.hid hkv
      clear hkv
      go_upto_if 32 with fail
      go_cut [10] (fun t10 wx => t10 = .int .i64 kv ∧ E wr wx)
      case first =>
        by_cases hk : (i : Int) < (m : Int)
        · obtain ⟨kb, ko, y, rfl, hkb, hy, hwy, hcy⟩ := hKr.get (i := i) (by omega)
          have HKF := Lib.hid (keptF_some s' keep i j hy)
          have HY := Lib.hid (wf_i64 hwy)
          clear hy hwy
          go_wp2_with fail
          (refine wp_region_quiet_lit (by kernel_rfl) (by kernel_rfl) ?_; (repeat (first | ((with_reducible refine wpQuiet_step (fun K hK => ?_)); go_simp; (with_reducible refine hK _ ?_); clear hK K) | ((with_reducible refine wpQuiet_off (by kernel_rfl) (fun K hK => ?_)); go_simp; (with_reducible refine hK _ ?_); clear hK K))); (with_reducible refine wpQuiet_nil ?_); intro _ hw'; obtain ⟨nq, hw''⟩ := hw'; subst hw'')
          go_wp2_with fail
          go_meet
          refine ⟨?_, (E.refl wr).drewN nq⟩
          rw [← HKV.out, HKF.out, kept_val HSL.out.1 HSL.out.2]
        · have HKF := Lib.hid (keptF_none s' keep i j (by rw [hKr.len]; omega))
          go_wp2_with fail
          go_meet
          rw [← HKV.out, HKF.out]
          exact ⟨rfl, E.refl _⟩
      case rest =>
        obtain ⟨rfl, hE⟩ := hcut
        clear b0 b1 d1 d2 hcx hKr
        have HDX := Lib.hid (HDR.out.e hE)
        have HEC := Lib.hid hE
        obtain ⟨z, HZ, hz1, hz2⟩ := sum_nat (a := s'.firm j) (b := kv) (by have := HSL.out; omega) (by have h1 := HKP.out; have h2 := HSL.out; rw [HKV.out] at h1; omega)
        obtain ⟨n2, HN2, hn1, hn2⟩ := sum_nat (a := n) (b := kv) (by have := HL.out.top; have := HLT.out; omega) (by have h1 := HKP.out; have h2 := HSL.out; rw [HKV.out] at h1; omega)
        have HZL := Lib.hid (show z ≤ (s'.b j).length by rw [HZ.out, ← HKV.out]; exact HKP.out)
        have hrow := HDX.out.row j (isF_iff.2 ⟨by omega, by omega⟩)
        have hcap := hrow.reads.cap
        have hc63 := hrow.reads.c63
        have hzc : (z : Int) ≤ (c' j : Int) := by have := HZL.out; omega
        have hz0 : (0 : Int) ≤ (z : Int) := by omega
        have hEd : E wc wc.drew := (E.refl wc).drew
        have hsrc := ((hrow.takeN HZL.out).e hEd).reads
        have HZM := Lib.hid (show 0 + z ≤ 1099511627776 by have := HZL.out; have := HSL.out; omega)
        obtain ⟨A2, c2, w2, hrA, hO2, hG2, hor2⟩ := run_appN byteT wc.drew 27 0 none 0 0 [] (Own.nil _ _ _ _) (A' j) z (c' j) ((s'.b j).take z) hsrc HZM.out (Nat.zero_le _)
        rw [ob_eq] at hG2
        rw [ob_eq, ob_eq] at hor2
        rw [List.nil_append, Nat.zero_add] at hO2
        rw [Nat.zero_add] at hrA
        have hA2 : ∀ b, ob A2 = some b → wc.heap.size ≤ b := fun b hb => by
          rcases hor2 with e | e
          · rw [e] at hb; cases hb
          · rw [e] at hb; injection hb with hb; have := hEd.le; omega
        have hE2 : E wc w2 := hEd.grown hG2 (fun q hq => by cases hq)
        have hV : ∀ q, X' q → w2.heap[q]? = wc.heap[q]? := fun q hq => hE2.block (HDX.out.xl q hq)
        have HD2 := Lib.hid (HDX.out.e hE2)
        obtain ⟨_, d1, d2, _, _⟩ := (HDX.out.e hEd).cells
        obtain ⟨b0, b1⟩ := (HDX.out.e hEd).file hj
        obtain ⟨_, e1, e2, _, _⟩ := HD2.out.cells
        obtain ⟨b3, b4⟩ := HD2.out.file hj
        have f3 := HD2.out.hb.frz j
        have hcut1 : (cutS s' j z).b (j : Int) = (s'.b (j : Int)).take z := by simp only [cutS, upd_same]
        have hcl : ((cutS s' j z).b (j : Int)).length = z := by rw [hcut1, List.length_take]; have := HZL.out; omega
        obtain ⟨X2, hM2, hEX2, hXX2⟩ := HDX.out.turn (s' := cutS s' j z) j hj (V := w2) A2 c2 hE2.le hV (Ex.of_e hE2) (by rw [hcl, hcut1]; exact hO2) (.inr hA2) ⟨by rw [HZ.out]; exact cutS_firm _ _ _, rfl, rfl, rfl⟩ (fun q hq => by simp only [cutS]; rw [upd_other _ _ hq]) (HDX.out.ok.cut _ _)
        rw [hcl] at hM2 hEX2
        have k1 := hM2.cells.2.1
        have k2 := hM2.cells.2.2.1
        have k3 := (hM2.file hj).1
        have k4 := (hM2.file hj).2
        have k4' : (w2.setCell ⟨bb, j, none⟩ (.slice A2 z c2)).cell? ⟨fb, j, none⟩ = some (.int .i64 (s'.firm (j : Int) : Nat)) := by rw [k4, show (cutS s' j z).firm = s'.firm from by rw [HZ.out]; exact cutS_firm _ _ _]
        clear hcut1 hcl hO2 hor2 hA2 hE2 hV hsrc hrow hG2
        go_upto_region 10 with fail
        go_cut [] (fun wx => wx = (w2.setCell ⟨bb, j, none⟩ (.slice A2 z c2)))
        case first =>
          clear HL HMI HKP HKV HX HLT HSL HDR HEX HDX HEC HN2 HZ HZL HZM HD2 HFI HK HKX HF HO1 HE1 HXB H HD HLN h64
          refine wp_region_held_drew (S := (fun w' => w'.cell? ⟨g, 1, none⟩ = some (.slice (some ⟨bb, 0, none⟩) 64 64) ∧ w'.cell? ⟨g, 2, none⟩ = some (.slice (some ⟨fb, 0, none⟩) 64 64) ∧ w'.cell? ⟨fb, j, none⟩ = some (.int .i64 (s'.firm (j : Int) : Nat)))) (by kernel_rfl) ⟨d1, d2, b1⟩ (fun hHeld => ?_)
          (((refine wpAnyH_take (i := 0) (v := ?_) rfl (by kernel_rfl) (by kernel_rfl) (by kernel_rfl) (fun _ _ _ h => h) (Or.inl ⟨by kernel_rfl, ?_⟩) (by assumption) ?_); rotate_left 1; (focus (intro w hSw; (try dsimp only at hSw); go_simp; (try with_reducible rfl))); (try simp only [Act.put, List.setIfInBounds_toArray, List.set_cons_zero, List.set_cons_succ])); ((refine wpAnyH_take (i := 1) (v := ?_) rfl (by kernel_rfl) (by kernel_rfl) (by kernel_rfl) (fun _ _ _ h => h) (Or.inl ⟨by kernel_rfl, ?_⟩) (by assumption) ?_); rotate_left 1; (focus (intro w hSw; (try dsimp only at hSw); go_simp; (try with_reducible rfl))); (try simp only [Act.put, List.setIfInBounds_toArray, List.set_cons_zero, List.set_cons_succ])); ((refine wpAnyH_take (i := 2) (v := ?_) rfl (by kernel_rfl) (by kernel_rfl) (by kernel_rfl) (fun _ _ _ h => h) (Or.inl ⟨by kernel_rfl, ?_⟩) (by assumption) ?_); rotate_left 1; (focus (intro w hSw; (try dsimp only at hSw); go_simp; (try with_reducible rfl))); (try simp only [Act.put, List.setIfInBounds_toArray, List.set_cons_zero, List.set_cons_succ])); ((refine wpAnyH_take (i := 3) (v := ?_) rfl (by kernel_rfl) (by kernel_rfl) (by kernel_rfl) (fun _ _ _ h => h) (Or.inl ⟨by kernel_rfl, ?_⟩) (by assumption) ?_); rotate_left 1; (focus (intro w hSw; (try dsimp only at hSw); go_simp; (try with_reducible rfl))); (try simp only [Act.put, List.setIfInBounds_toArray, List.set_cons_zero, List.set_cons_succ])); ((refine wpAnyH_take (i := 4) (v := ?_) rfl (by kernel_rfl) (by kernel_rfl) (by kernel_rfl) (fun _ _ _ h => h) (Or.inl ⟨by kernel_rfl, ?_⟩) (by assumption) ?_); rotate_left 1; (focus (intro w hSw; (try dsimp only at hSw); go_simp; (try with_reducible rfl))); (try simp only [Act.put, List.setIfInBounds_toArray, List.set_cons_zero, List.set_cons_succ])); ((refine wpAnyH_take (i := 5) (v := ?_) rfl (by kernel_rfl) (by kernel_rfl) (by kernel_rfl) (fun _ _ _ h => h) (Or.inl ⟨by kernel_rfl, ?_⟩) (by assumption) ?_); rotate_left 1; (focus (intro w hSw; (try dsimp only at hSw); go_simp; (try with_reducible rfl))); (try simp only [Act.put, List.setIfInBounds_toArray, List.set_cons_zero, List.set_cons_succ])); ((refine wpAnyH_take (i := 6) (v := ?_) rfl (by kernel_rfl) (by kernel_rfl) (by kernel_rfl) (fun _ _ _ h => h) (Or.inl ⟨by kernel_rfl, ?_⟩) (by assumption) ?_); rotate_left 1; (focus (intro w hSw; (try dsimp only at hSw); go_simp; (try with_reducible rfl))); (try simp only [Act.put, List.setIfInBounds_toArray, List.set_cons_zero, List.set_cons_succ])); ((refine wpAnyH_take (i := 7) (v := ?_) rfl (by kernel_rfl) (by kernel_rfl) (by kernel_rfl) (fun _ _ _ h => h) (Or.inl ⟨by kernel_rfl, ?_⟩) (by assumption) ?_); rotate_left 1; (focus (intro w hSw; (try dsimp only at hSw); go_simp; (try with_reducible rfl))); (try simp only [Act.put, List.setIfInBounds_toArray, List.set_cons_zero, List.set_cons_succ])); ((refine wpAnyH_take (i := 8) (v := ?_) rfl (by kernel_rfl) (by kernel_rfl) (by kernel_rfl) (fun _ _ _ h => h) (Or.inl ⟨by kernel_rfl, ?_⟩) (by assumption) ?_); rotate_left 1; (focus (intro w hSw; (try dsimp only at hSw); go_simp; (try with_reducible rfl))); (try simp only [Act.put, List.setIfInBounds_toArray, List.set_cons_zero, List.set_cons_succ])); ((refine wpAnyH_take (i := 9) (v := ?_) rfl (by kernel_rfl) (by kernel_rfl) (by kernel_rfl) (fun _ _ _ h => h) (Or.inl ⟨by kernel_rfl, ?_⟩) (by assumption) ?_); rotate_left 1; (focus (intro w hSw; (try dsimp only at hSw); go_simp; (try with_reducible rfl))); (try simp only [Act.put, List.setIfInBounds_toArray, List.set_cons_zero, List.set_cons_succ])); ((refine wpAnyH_take (i := 10) (v := ?_) rfl (by kernel_rfl) (by kernel_rfl) (by kernel_rfl) (fun _ _ _ h => h) (Or.inl ⟨by kernel_rfl, ?_⟩) (by assumption) ?_); rotate_left 1; (focus (intro w hSw; (try dsimp only at hSw); go_simp; (try with_reducible rfl))); (try simp only [Act.put, List.setIfInBounds_toArray, List.set_cons_zero, List.set_cons_succ])); ((refine wpAnyH_take (i := 11) (v := ?_) rfl (by kernel_rfl) (by kernel_rfl) (by kernel_rfl) (fun _ _ _ h => h) (Or.inl ⟨by kernel_rfl, ?_⟩) (by assumption) ?_); rotate_left 1; (focus (intro w hSw; (try dsimp only at hSw); go_simp; (try with_reducible rfl))); (try simp only [Act.put, List.setIfInBounds_toArray, List.set_cons_zero, List.set_cons_succ])); ((refine wpAnyH_take (i := 13) (v := ?_) rfl (by kernel_rfl) (by kernel_rfl) (by kernel_rfl) (fun _ _ _ h => h) (Or.inl ⟨by kernel_rfl, ?_⟩) (by assumption) ?_); rotate_left 1; (focus (intro w hSw; (try dsimp only at hSw); go_simp; (try with_reducible rfl))); (try simp only [Act.put, List.setIfInBounds_toArray, List.set_cons_zero, List.set_cons_succ])); ((refine wpAnyH_take (i := 14) (v := ?_) rfl (by kernel_rfl) (by kernel_rfl) (by kernel_rfl) (fun _ _ _ h => h) (Or.inl ⟨by kernel_rfl, ?_⟩) (by assumption) ?_); rotate_left 1; (focus (intro w hSw; (try dsimp only at hSw); go_simp; (try with_reducible rfl))); (try simp only [Act.put, List.setIfInBounds_toArray, List.set_cons_zero, List.set_cons_succ])); ((refine wpAnyH_take (i := 15) (v := ?_) rfl (by kernel_rfl) (by kernel_rfl) (by kernel_rfl) (fun _ _ _ h => h) (Or.inl ⟨by kernel_rfl, ?_⟩) (by assumption) ?_); rotate_left 1; (focus (intro w hSw; (try dsimp only at hSw); go_simp; (try with_reducible rfl))); (try simp only [Act.put, List.setIfInBounds_toArray, List.set_cons_zero, List.set_cons_succ])); ((refine wpAnyH_take (i := 16) (v := ?_) rfl (by kernel_rfl) (by kernel_rfl) (by kernel_rfl) (fun _ _ _ h => h) (Or.inl ⟨by kernel_rfl, ?_⟩) (by assumption) ?_); rotate_left 1; (focus (intro w hSw; (try dsimp only at hSw); go_simp; (try with_reducible rfl))); (try simp only [Act.put, List.setIfInBounds_toArray, List.set_cons_zero, List.set_cons_succ])); ((refine wpAnyH_take (i := 17) (v := ?_) rfl (by kernel_rfl) (by kernel_rfl) (by kernel_rfl) (fun _ _ _ h => h) (Or.inl ⟨by kernel_rfl, ?_⟩) (by assumption) ?_); rotate_left 1; (focus (intro w hSw; (try dsimp only at hSw); go_simp; (try with_reducible rfl))); (try simp only [Act.put, List.setIfInBounds_toArray, List.set_cons_zero, List.set_cons_succ])); ((refine wpAnyH_take (i := 18) (v := ?_) rfl (by kernel_rfl) (by kernel_rfl) (by kernel_rfl) (fun _ _ _ h => h) (Or.inl ⟨by kernel_rfl, ?_⟩) (by assumption) ?_); rotate_left 1; (focus (intro w hSw; (try dsimp only at hSw); go_simp; (try with_reducible rfl))); (try simp only [Act.put, List.setIfInBounds_toArray, List.set_cons_zero, List.set_cons_succ])); ((refine wpAnyH_take (i := 19) (v := ?_) rfl (by kernel_rfl) (by kernel_rfl) (by kernel_rfl) (fun _ _ _ h => h) (Or.inl ⟨by kernel_rfl, ?_⟩) (by assumption) ?_); rotate_left 1; (focus (intro w hSw; (try dsimp only at hSw); go_simp; (try with_reducible rfl))); (try simp only [Act.put, List.setIfInBounds_toArray, List.set_cons_zero, List.set_cons_succ])); ((refine wpAnyH_take (i := 20) (v := ?_) rfl (by kernel_rfl) (by kernel_rfl) (by kernel_rfl) (fun _ _ _ h => h) (Or.inl ⟨by kernel_rfl, ?_⟩) (by assumption) ?_); rotate_left 1; (focus (intro w hSw; (try dsimp only at hSw); go_simp; (try with_reducible rfl))); (try simp only [Act.put, List.setIfInBounds_toArray, List.set_cons_zero, List.set_cons_succ])); ((refine wpAnyH_take (i := 21) (v := ?_) rfl (by kernel_rfl) (by kernel_rfl) (by kernel_rfl) (fun _ _ _ h => h) (Or.inl ⟨by kernel_rfl, ?_⟩) (by assumption) ?_); rotate_left 1; (focus (intro w hSw; (try dsimp only at hSw); go_simp; (try with_reducible rfl))); (try simp only [Act.put, List.setIfInBounds_toArray, List.set_cons_zero, List.set_cons_succ])))
          (((refine wpAnyH_ready (rs := [12]) (by kernel_rfl) (by simp) ?_); (refine AllReadyH.cons rfl (fun K hK => ?_) AllReadyH.nil); (rw [if_pos (by kernel_rfl)]); go_simp))
          refine hK _ _ ⟨d1, d2, b1⟩ (fun hHeld2 => ?_)
          clear hK K hHeld
          (try simp only [Act.put, List.setIfInBounds_toArray, List.set_cons_zero, List.set_cons_succ])
          (((refine wpAnyH_take (i := 22) (v := ?_) rfl (by kernel_rfl) (by kernel_rfl) (by kernel_rfl) (fun _ _ _ h => h) (Or.inl ⟨by kernel_rfl, ?_⟩) (by assumption) ?_); rotate_left 1; (focus (intro w hSw; (try dsimp only at hSw); go_simp; (try with_reducible rfl))); (try simp only [Act.put, List.setIfInBounds_toArray, List.set_cons_zero, List.set_cons_succ])))
          refine wpAnyH_ready (rs := [23]) (by kernel_rfl) (by simp) ?_
          refine AllReadyH.cons rfl (fun K hK => ?_) AllReadyH.nil
          refine step_app_raw (by rfl) _ _ (by rfl) (by rfl) (by rfl) hrA ?_
          refine hK _ _ ⟨e1, e2, b4⟩ (fun hHeld3 => ?_)
          clear hK K hHeld2
          (try simp only [Act.put, List.setIfInBounds_toArray, List.set_cons_zero, List.set_cons_succ])
          (((refine wpAnyH_take (i := 24) (v := ?_) rfl (by kernel_rfl) (by kernel_rfl) (by kernel_rfl) (fun _ _ _ h => h) (Or.inl ⟨by kernel_rfl, ?_⟩) (by assumption) ?_); rotate_left 1; (focus (intro w hSw; (try dsimp only at hSw); go_simp; (try with_reducible rfl))); (try simp only [Act.put, List.setIfInBounds_toArray, List.set_cons_zero, List.set_cons_succ])))
          (((refine wpAnyH_ready (rs := [25]) (by kernel_rfl) (by simp) ?_); (refine AllReadyH.cons rfl (fun K hK => ?_) AllReadyH.nil); (rw [if_pos (by kernel_rfl)]); go_simp))
          refine hK _ _ ⟨k1, k2, k4'⟩ (fun hHeld4 => ?_)
          clear hK K hHeld3 hHeld4
          (try simp only [Act.put, List.setIfInBounds_toArray, List.set_cons_zero, List.set_cons_succ])
          refine wpAnyH_done (by kernel_rfl) ?_ _
          go_simp
          go_wp2_with fail
          go_meet
          rfl
        case rest =>
          subst hcut
          have HMD := Lib.hid (ModIn.step (s' := cutS s' j z) HEX.out.2 (HEX.out.1.trans (Ex.of_e (X := X) HEC.out) (fun _ _ x => x) (fun _ _ x => x)) hM2 hEX2 hXX2)
          have hLs := HL.out.step HDR.out.ok HX.out
          rw [HKV.out, ← HZ.out, ← HN2.out] at hLs
          have HLS := Lib.hid hLs
          clear hM2 hEX2 hXX2 hLs d1 d2 b0 b1 e1 e2 b3 b4 f3 k1 k2 k3 k4 hcap hc63 hzc hz0 hEd hrA
          go_wp2_with fail
          exact ⟨⟨i + 1, n2, _, by go_num, by first | rfl | (rw [hn1]), HLT.out, HLS.out, HMD.out⟩, by have := HLT.out; simp only [intOf]; omega⟩
    · have HI := Lib.hid (show i = n1 by omega)
      have dlt : decide (i < n1) = false := by simpa using hlt
      have HLO := Lib.hid (show loseF keep (liveI s.b) 0 (s, 0) = (s', n) by
        rw [← HL.out.eq, HI.out, ← HLN.out, List.drop_length]; rfl)
      have HNT := Lib.hid (top_int HL.out.top (show i ≤ 64 by omega))
      have HLV := Lib.hid (invertF_live HL.out.emp)
      clear hlt
      obtain ⟨bb2, hbb⟩ : ∃ bb2, (decide (0 ≤ flip) && decide (0 < n)) = bb2 := ⟨_, rfl⟩
      have HBB := Lib.hid hbb
      clear hbb
      go_upto_region 13 with fail
      go_cut [88] (fun t88 wx => t88 = .bool bb2 ∧ wr = wx)
      case first =>
        have HNN := Lib.hid (show decide ((0 : Int) < (n : Int)) = decide (0 < n) by simp)
        by_cases hfl : 0 ≤ flip
        · have d1 : decide (0 ≤ flip) = true := by simpa using hfl
          go_wp2_with fail
          all_goals go_meet
          all_goals (refine ⟨?_, rfl⟩; rw [← HBB.out]; simp [hfl])
        · have d1 : decide (0 ≤ flip) = false := by simpa using hfl
          go_wp2_with fail
          all_goals go_meet
          all_goals (refine ⟨?_, rfl⟩; rw [← HBB.out, d1]; rfl)
      case rest =>
        obtain ⟨rfl, rfl⟩ := hcut
        obtain ⟨at0, hat⟩ : ∃ a : Int, (if 0 ≤ flip ∧ 0 < n then ((flip % (8 * n : Nat)).toNat : Int) else -1) = a := ⟨_, rfl⟩
        have HAT := Lib.hid hat
        clear hat
        go_upto_if 88 with fail
        go_cut [12] (fun t12 wx => t12 = .int .i64 at0 ∧ wr = wx)
        case first =>
          by_cases hc : 0 ≤ flip ∧ 0 < n
          · obtain rfl : bb2 = true := by rw [← HBB.out]; simp [hc]
            have HC := Lib.hid hc
            obtain ⟨v, q8, hv0, hv1, hv2, hv2', hv3, HV, hv4⟩ := flip_mod hc.1 hc.2 HNT.out
            have hv5 : ¬ RowKit.wrap64 (8 * (n : Int)) = 0 := by rw [hv0]; intro e; rw [e] at hv2; cases hv2
            have hv6 : ¬ q8 = 0 := by intro e; rw [e] at hv2; cases hv2
            clear hc
            go_wp2_with fail
            go_meet
            refine ⟨?_, rfl⟩
            rw [← HAT.out, if_pos HC.out, ← HV.out]
          · obtain rfl : bb2 = false := by rw [← HBB.out]; simpa using hc
            have HC := Lib.hid hc
            clear hc
            go_wp2_with fail
            go_meet
            refine ⟨?_, rfl⟩
            rw [← HAT.out, if_neg HC.out]
        case rest =>
          obtain ⟨rfl, rfl⟩ := hcut
          obtain ⟨s2, hs2⟩ : ∃ s2, restI s' (liveI s.b) at0 = s2 := ⟨_, rfl⟩
          have HCR := Lib.hid (show crashS s keep flip = calmS s2 by
            rw [crash_of HLO.out, ← hs2]
            congr 1
            unfold restI
            by_cases hc : 0 ≤ flip ∧ 0 < n
            · have h1 := HAT.out
              rw [if_pos hc] at h1
              rw [if_pos hc, if_pos (by omega), HLV.out, ← h1, Int.toNat_natCast]
            · have h1 := HAT.out
              rw [if_neg hc] at h1
              rw [if_neg hc, if_neg (by omega)])
          have HATB := Lib.hid (show -1 ≤ at0 ∧ at0 ≤ 8589934592 by
            have h1 := HAT.out
            have h2 := HNT.out
            split at h1
            · rename_i hc
              have h3 := Int.emod_lt_of_pos flip (show (0 : Int) < ((8 * n : Nat) : Int) by omega)
              have h4 := Int.emod_nonneg flip (show ((8 * n : Nat) : Int) ≠ 0 by omega)
              omega
            · omega)
          have HR2 := Lib.hid hs2
          obtain ⟨w9, hw9⟩ : ∃ w9, w9 = wr := ⟨_, rfl⟩
          subst hw9
          clear hs2
          go_wp2_with fail
          go_loopw [13, 12] (fun t13 t12 wr => ∃ (i : Nat) (a : Int) (s3 : DS), t13 = .int .i64 i ∧ t12 = .int .i64 a ∧ i ≤ n1 ∧ restI s3 ((liveI s.b).drop i) a = s2 ∧ ModIn w1 X g bb fb s3 wr ∧ -1 - 134217728 * (i : Int) ≤ a ∧ a ≤ 8589934592) (fun t13 _ _ => n1 - (intOf t13).toNat)
          case atStart => exact ⟨0, at0, s', rfl, rfl, Nat.zero_le _, HR2.out, HMI.out, by have := HATB.out; omega, HATB.out.2⟩
          case round =>
            obtain ⟨i2, a, s3, rfl, rfl, hi2, hrs, hM3, ha0, ha1⟩ := hrel
            have HRS := Lib.hid hrs
            have HM3 := Lib.hid hM3
            have HA := Lib.hid (And.intro ha0 ha1)
            clear hrs hM3 ha0 ha1
            by_cases hlt : i2 < n1
            · obtain ⟨X3, A3, c3, hD3, hEX3, hXX3⟩ := HM3.out
              have hO := (HO1.out.ex hEX3 HXB.out)
              obtain ⟨r1, x, rfl, _, _, hx, hwx, hcx, _⟩ := hO.get hlt
              have hxm : x ∈ liveI s.b := List.mem_of_getElem? hx
              have hxf := isF_iff.1 (H.out.ok.ne ((mem_liveI H.out.ok).1 hxm))
              obtain ⟨j, rfl⟩ : ∃ j : Nat, x = j := ⟨x.toNat, by omega⟩
              have hj : j < 64 := by omega
              have hjI : (j : Int) < 64 := by omega
              obtain ⟨_, _, d2, _, _⟩ := hD3.cells
              obtain ⟨_, b1⟩ := hD3.file hj
              have dlt : decide (i2 < n1) = true := by simpa using hlt
              have HLT := Lib.hid hlt
              have HDR := Lib.hid (drop_at hx)
              have HFL := Lib.hid (And.intro (hD3.ok.firm j) (hD3.ok.len24 j))
              have HRB := Lib.hid (show restB s3 j (s3.firm j) ((liveI s.b).drop (i2 + 1)) a = s2 by rw [← restI_cons, ← HDR.out, HRS.out])
              clear hx hD3 hEX3 hXX3 hxm hO hxf
              obtain ⟨w8, hw8⟩ : ∃ w8, w8 = wr := ⟨_, rfl⟩
              subst hw8
              obtain ⟨L0, hL0⟩ : ∃ L0, (s3.b (j : Int)).length = L0 := ⟨_, rfl⟩
              have HL0 := Lib.hid hL0
              have HFL2 := Lib.hid (show s3.firm (j : Int) ≤ L0 ∧ L0 ≤ 16777216 by rw [← hL0]; exact HFL.out)
              clear hL0
              go_wp2_with fail
              go_loopw [15, 12] (fun t15 t12 wr => ∃ (k : Nat) (a : Int) (s4 : DS), t15 = .int .i64 k ∧ t12 = .int .i64 a ∧ k ≤ L0 ∧ restB s4 j k ((liveI s.b).drop (i2 + 1)) a = s2 ∧ ModIn w1 X g bb fb s4 wr ∧ (s4.b (j : Int)).length = L0 ∧ -1 - 134217728 * (i2 : Int) - 8 * (k : Int) ≤ a ∧ a ≤ 8589934592) (fun t15 _ _ => L0 - (intOf t15).toNat)
              case atStart => exact ⟨s3.firm j, a, s3, rfl, rfl, HFL2.out.1, HRB.out, HM3.out, HL0.out, by have := HA.out; omega, HA.out.2⟩
              case round =>
                clear d2 b1 hcx
                obtain ⟨k, a4, s4, rfl, rfl, hk, hrb, hM4, hl4, ha0, ha1⟩ := hrel
                have HRB4 := Lib.hid hrb
                have HM4 := Lib.hid hM4
                have HL4 := Lib.hid hl4
                have HA4 := Lib.hid (And.intro ha0 ha1)
                have HI2 := Lib.hid (show i2 ≤ 64 by omega)
                obtain ⟨X4, A4, c4, hD4, hEX4, hXX4⟩ := HM4.out
                obtain ⟨_, d1, _, _, _⟩ := hD4.cells
                obtain ⟨b0, _⟩ := hD4.file hj
                have hL24 := HFL2.out.2
                rw [hl4] at b0
                clear hrb hM4 ha0 ha1
                by_cases hlt2 : k < L0
                · have dk : decide (k < L0) = true := by simpa using hlt2
                  by_cases hit : 0 ≤ a4 ∧ a4 < 8
                  · obtain ⟨p, rfl⟩ : ∃ p : Nat, a4 = p := ⟨a4.toNat, by omega⟩
                    have hp8 : p < 8 := by omega
                    have da0 : decide ((0 : Int) ≤ (p : Int)) = true := by simp
                    have da1 : decide ((p : Int) < 8) = true := by simp; omega
                    have da1' : decide (p < 8) = true := by simp; omega
                    have HROW := Lib.hid (hD4.row j (isF_iff.2 ⟨by omega, by omega⟩))
                    obtain ⟨r, hr⟩ : ∃ r, A4 (j : Int) = some ⟨r, 0, none⟩ := by
                      rcases HROW.out.form with ⟨_, h0, _⟩ | ⟨r, hr, _⟩
                      · omega
                      · exact ⟨r, hr⟩
                    rw [hl4, hr] at HROW
                    obtain ⟨y, _, _, hy, hwy, hcy, hfy⟩ := HROW.out.getg hlt2
                    rw [hr] at b0
                    have HY := Lib.hid (And.intro hy hwy)
                    have HR := Lib.hid hr
                    have HD4 := Lib.hid hD4
                    have HX4 := Lib.hid (And.intro hEX4 hXX4)
                    have hkI : (k : Int) < (L0 : Int) := by omega
                    clear hD4 hEX4 hXX4 hr hy hwy hit
                    go_upto_region 23 with fail
                    go_still_tail 24, (by kernel_rfl)
                    go_wp2_with fail
                    have HM5 := Lib.hid (HD4.out.byte j hj HR.out k (flipB y p) (flip_wf HY.out.2 hp8) (s' := putS s4 j k (flipB y p)) ⟨rfl, rfl, rfl, rfl⟩ rfl (HD4.out.ok.put _ _ _))
                    have hlk : k < (s4.b (j : Int)).length := by rw [HL4.out]; exact hlt2
                    have hyd : (s4.b (j : Int)).getD k 0 = y := by rw [List.getD_eq_getElem?_getD, HY.out.1]; rfl
                    have hxr : X4 r := HD4.out.xr j (isF_iff.2 ⟨by omega, by omega⟩) r (by rw [HR.out]; rfl)
                    have hhit := restB_hit s4 j k ((liveI s.b).drop (i2 + 1)) p (by omega) (by omega) hlk
                    rw [hyd, Int.toNat_natCast, HRB4.out] at hhit
                    refine ⟨⟨k + 1, (p : Int) - 8, putS s4 j k (flipB y p), by go_num, rfl, hlt2, hhit.symm, ?_, by rw [putS_len]; exact HL4.out, by have := HA4.out; omega, by omega⟩, by simp only [intOf]; omega⟩
                    rw [shl_val hp8, mflip_bits HY.out.2 hp8]
                    exact ModIn.step HX4.out.2 HX4.out.1 (HM5.out.e (E.refl _).drew) (((Ex.refl X4 wr).setCell ⟨r, k, none⟩ (.inr hxr) _).drew) (fun q hq => .inl hq)
                  · have hlk : k < (s4.b (j : Int)).length := by rw [HL4.out]; exact hlt2
                    have hmiss := Lib.hid (restB_miss s4 j k ((liveI s.b).drop (i2 + 1)) a4 hit hlk)
                    rw [HRB4.out] at hmiss
                    have hb1 := HA4.out.1
                    have hb2 := HA4.out.2
                    clear hlk
                    by_cases h0 : 0 ≤ a4
                    · have da0 : decide (0 ≤ a4) = true := by simpa using h0
                      have da1 : decide (a4 < 8) = false := by simp; omega
                      go_wp2_with fail
                      exact ⟨⟨k + 1, a4 - 8, s4, by go_num, by go_num, hlt2, hmiss.out.symm, HM4.out, HL4.out, by omega, by omega⟩, by simp only [intOf]; omega⟩
                    · have da0 : decide (0 ≤ a4) = false := by simpa using h0
                      go_wp2_with fail
                      exact ⟨⟨k + 1, a4 - 8, s4, by go_num, by go_num, hlt2, hmiss.out.symm, HM4.out, HL4.out, by omega, by omega⟩, by simp only [intOf]; omega⟩
                · have dk : decide (k < L0) = false := by simpa using hlt2
                  have hend := restB_end s4 j k ((liveI s.b).drop (i2 + 1)) a4 (by rw [HL4.out]; omega)
                  rw [HRB4.out] at hend
                  have HEND := Lib.hid hend
                  have HB := Lib.hid (show -1 - 134217728 * ((i2 + 1 : Nat) : Int) ≤ a4 ∧ a4 ≤ 8589934592 by have := HA4.out; have := HFL2.out.2; omega)
                  clear hend
                  go_wp2_with fail
                  exact ⟨⟨i2 + 1, a4, s4, by go_num, rfl, HLT.out, HEND.out.symm, HM4.out, HB.out⟩, by have := HLT.out; simp only [intOf]; omega⟩
            · have HI2 := Lib.hid (show i2 = n1 by omega)
              have dlt : decide (i2 < n1) = false := by simpa using hlt
              have hs3 : s3 = s2 := by
                rw [← HRS.out, HI2.out, ← HLN.out, List.drop_length, restI_nil]
              subst hs3
              obtain ⟨X5, A5, c5, hD5, hEX5, hXX5⟩ := HM3.out
              have HOK := Lib.hid hD5.ok
              have HD5 := Lib.hid hD5
              have HX5 := Lib.hid (And.intro hEX5 hXX5)
              clear hlt hD5 hEX5 hXX5
              obtain ⟨w7, hw7⟩ : ∃ w7, w7 = wr := ⟨_, rfl⟩
              subst hw7
              go_wp2_with fail
              go_loopw [16] (fun t16 wr => ∃ i : Nat, t16 = .int .i64 i ∧ i ≤ 64 ∧ ModM wr X5 g bb fb (firmU s3 i) A5 c5 ∧ Ex X5 w7 wr) (fun t16 _ => 64 - (intOf t16).toNat)
              case atStart => exact ⟨0, rfl, by decide, by rw [firmU_zero]; exact HD5.out, Ex.refl _ _⟩
              case round =>
                obtain ⟨i4, rfl, hi4, hD, hX⟩ := hrel
                have HD := Lib.hid hD
                have HX := Lib.hid hX
                clear hD hX
                by_cases hlt4 : i4 < 64
                · have dlt4 : decide ((i4 : Int) < 64) = true := by simp; omega
                  have hltI4 : (i4 : Int) < 64 := by omega
                  obtain ⟨_, d1, d2, _, _⟩ := HD.out.cells
                  obtain ⟨b0, b1⟩ := HD.out.file hlt4
                  have f1 := HD.out.hf.frz i4
                  have HL := Lib.hid hlt4
                  go_upto_region 28 with fail
                  go_still_tail 14, (by kernel_rfl)
                  go_wp2_with fail
                  exact ⟨⟨i4 + 1, rfl, HL.out, (firm_round HD.out HOK.out HL.out).e (E.refl _).drew, (HX.out.putX HD.out.xf i4 _).drewX⟩, by have := HL.out; simp only [intOf]; omega⟩
                · have dlt4 : decide ((i4 : Int) < 64) = false := by simp; omega
                  have HI4 := Lib.hid (show i4 = 64 by omega)
                  have hD6 : ModM wr X5 g bb fb (firmS s3) A5 c5 := by rw [← firmU_all HOK.out, ← HI4.out]; exact HD.out
                  obtain ⟨_, _, _, d3, d4⟩ := hD6.cells
                  have f3 := hD6.frz 3
                  have f4 := hD6.frz 4
                  have HD6 := Lib.hid hD6
                  clear hlt4 hD6
                  go_wp2_with fail
                  go_end0
                  have hG2 := grownBy_trans (grownBy_set wr g 3 (.bool false)) (grownBy_set (wr.setCell ⟨g, 3, none⟩ (.bool false)) g 4 (.int .i64 (-1)))
                  have hD7 := HD6.out.head (s' := calmS s3) hG2 (by rw [heap_setCell_same _ _ _ _ _ _ (heap_setCell_same _ _ _ _ _ _ HD6.out.hd)]; rfl) rfl rfl (HOK.out.calm)
                  rw [HCR.out]
                  refine ⟨rfl, ?_⟩
                  have hM7 := ModIn.step (X2 := X5) HX5.out.2 HX5.out.1 hD7 (HX.out.trans (mex_of_grown hG2 HD6.out.xg) (fun _ _ x => x) (fun _ _ x => x)) (fun _ hq => .inl hq)
                  exact AfterM.trans (Ex.of_e HE1.out) (fun _ h => .inl h) hM7.after
end
end Go.Proofs.Ythcicfolabngcaa
/- Do: an operation on the model; the model among other things. -/
namespace Go.Proofs.Ythcicfolabngcaa
open Go.RowKit

set_option maxHeartbeats 4000000 in
set_option maxRecDepth 100000 in
theorem mdo_c {X : Nat → Prop} {g : Nat} {s : DS} {p : OpE} (w : World) (h : ModAt w X g s) (hp : OpW w p) (hK : away X p.AK p.nK) :
    Calls Try.prog 30 #[ptrV g, opV p] w (fun e w' => e = .returned (.int .i64 (opR s p).1) ∧ AfterM w X g (opR s p).2 w') := by
  obtain ⟨f1, f2⟩ := wf_i64 hp.fw
  obtain ⟨n1, n2⟩ := wf_i64 hp.nw
  have hE := (E.refl w).alloc (.cells (opC p) 56)
  have HW := Lib.hid (hp.e hE)
  have HD := Lib.hid (h.e hE)
  have HX := Lib.hid (show Ex X w (w.alloc (.cells (opC p) 56)) from Ex.of_e hE)
  have HF := Lib.hid (And.intro (And.intro f1 f2) (And.intro n1 n2))
  have HBK := Lib.hid (hK)
  have fin : ∀ (s' : DS) (w' : World), AfterM (w.alloc (.cells (opC p) 56)) X g s' w' → AfterM w X g s' w' := fun s' w' hA => AfterM.trans HX.out (fun _ h => .inl h) hA
  have HFIN := Lib.hid fin
  clear hp h hE f1 f2 n1 n2 hK fin
  obtain ⟨bb, fb, A, c, hD⟩ := HD.out
  have HDM := Lib.hid hD
  clear hD
  have hld := heap_alloc_new w (.cells (opC p) 56)
  have l0 : (w.alloc (.cells #[.int .i64 p.kind, .int .i64 p.file, .int .i64 p.n, .slice p.AB p.nB p.cB, .slice p.AK p.nK p.cK] 56)).cell? ⟨w.heap.size, 0, none⟩ = some (.int .i64 p.kind) := cell_of_row _ _ _ _ _ _ hld
  have l1 : (w.alloc (.cells #[.int .i64 p.kind, .int .i64 p.file, .int .i64 p.n, .slice p.AB p.nB p.cB, .slice p.AK p.nK p.cK] 56)).cell? ⟨w.heap.size, 1, none⟩ = some (.int .i64 p.file) := cell_of_row _ _ _ _ _ _ hld
  have l2 : (w.alloc (.cells #[.int .i64 p.kind, .int .i64 p.file, .int .i64 p.n, .slice p.AB p.nB p.cB, .slice p.AK p.nK p.cK] 56)).cell? ⟨w.heap.size, 2, none⟩ = some (.int .i64 p.n) := cell_of_row _ _ _ _ _ _ hld
  have l3 : (w.alloc (.cells #[.int .i64 p.kind, .int .i64 p.file, .int .i64 p.n, .slice p.AB p.nB p.cB, .slice p.AK p.nK p.cK] 56)).cell? ⟨w.heap.size, 3, none⟩ = some (.slice p.AB p.nB p.cB) := cell_of_row _ _ _ _ _ _ hld
  have l4 : (w.alloc (.cells #[.int .i64 p.kind, .int .i64 p.file, .int .i64 p.n, .slice p.AB p.nB p.cB, .slice p.AK p.nK p.cK] 56)).cell? ⟨w.heap.size, 4, none⟩ = some (.slice p.AK p.nK p.cK) := cell_of_row _ _ _ _ _ _ hld
  clear hld
  unfold opC at HW HD HX HFIN HDM
  unfold ptrV opV
  by_cases k0 : p.kind = 0
  · have d0 : (p.kind == 0) = true := by simp [k0]
    have HR := Lib.hid (opR_0 (s := s) k0)
    clear k0
    go_enter Try.func30, Try.ntmps30
    go_wp2_with (go_at_call 49; refine (mappend_c p.file p.AB p.nB p.cB p.b _ HDM.out HF.out.1.1 HF.out.1.2 HW.out.bs HW.out.nb).mono ?_; rintro e w1 ⟨rfl, hA⟩)
    go_ret
    rw [HR.out]
    exact ⟨rfl, HFIN.out _ _ hA⟩
  · have d0 : (p.kind == 0) = false := by simp [k0]
    by_cases k1 : p.kind = 1
    · have d1 : (p.kind == 1) = true := by simp [k1]
      have HR := Lib.hid (opR_1 (s := s) k1)
      clear k0 k1
      go_enter Try.func30, Try.ntmps30
      go_wp2_with (go_at_call 50; refine (msync_c _ HDM.out).mono ?_; rintro e w1 ⟨rfl, hA⟩)
      go_ret
      rw [HR.out]
      exact ⟨rfl, HFIN.out _ _ hA⟩
    · have d1 : (p.kind == 1) = false := by simp [k1]
      by_cases k2 : p.kind = 2
      · have d2 : (p.kind == 2) = true := by simp [k2]
        have HR := Lib.hid (opR_2 (s := s) k2)
        clear k0 k1 k2
        go_enter Try.func30, Try.ntmps30
        go_wp2_with (go_at_call 51; refine (mtrunc_c p.file p.n _ HDM.out HF.out.1.1 HF.out.1.2 HF.out.2.2).mono ?_; rintro e w1 ⟨rfl, hA⟩)
        go_ret
        rw [HR.out]
        exact ⟨rfl, HFIN.out _ _ hA⟩
      · have d2 : (p.kind == 2) = false := by simp [k2]
        by_cases k3 : p.kind = 3
        · have d3 : (p.kind == 3) = true := by simp [k3]
          have HR := Lib.hid (opR_3 (s := s) k3)
          clear k0 k1 k2 k3
          go_enter Try.func30, Try.ntmps30
          go_wp2_with (go_at_call 52; refine (marm_c p.n _ HDM.out HF.out.2.2).mono ?_; rintro e w1 ⟨rfl, hA⟩)
          go_ret
          rw [HR.out]
          exact ⟨rfl, HFIN.out _ _ hA⟩
        · have d3 : (p.kind == 3) = false := by simp [k3]
          have HR := Lib.hid (opR_4 (s := s) k0 k1 k2 k3)
          clear k0 k1 k2 k3
          go_enter Try.func30, Try.ntmps30
          go_wp2_with (go_at_call 53; refine (mcrash_c p.AK p.nK p.cK p.keep p.n _ HDM.out HW.out.ks HBK.out HF.out.2.1 HF.out.2.2).mono ?_; rintro e w1 ⟨rfl, hA⟩)
          go_ret
          rw [HR.out]
          exact ⟨rfl, HFIN.out _ _ hA⟩
theorem Room.mdo {w0 w : World} {L : List (World → (Nat → Prop) → Prop)} {g : Nat} {s : DS} {j jo : Nat} {A : Option Addr} {n c : Nat} {q : List OpE} {p : OpE} (h : Room w0 w L) (hj : L[j]? = some (ModT g s)) (hjo : L[jo]? = some (OpsT A n c q)) (hne : j ≠ jo) (hp : p ∈ q) :
    Calls Try.prog 30 #[ptrV g, opV p] w (fun e w' => e = .returned (.int .i64 (opR s p).1) ∧ Room w0 w' (L.set j (ModT g (opR s p).2))) :=
  h.op (E.refl w) j hj (modT _ _) fun _ hF hD _ => by
    obtain ⟨hO, _, hX, _⟩ := hF.at_ jo _ hjo
    obtain ⟨hW, _⟩ := hO.2.2 p hp
    exact mdo_c w hD hW (hF.away_thing (getL hj).1 (getL hjo).1 hne (hX p hp).2)
section
variable {w0 w w1 : World} {L : List (World → (Nat → Prop) → Prop)} {g : Nat} {s : DS} (j : Nat)
theorem Room.mused (h : Room w0 w L) (hj : L[j]? = some (ModT g s)) : Calls Try.prog 54 #[ptrV g] w (fun e w' => e = .returned (.int .i64 (usedF s.b : Nat)) ∧ w = w') := by
  obtain ⟨X, bb, fb, A, c, hD⟩ := h.look j hj
  exact mused_c w hD
theorem Room.mfiles (h : Room w0 w L) (hj : L[j]? = some (ModT g s)) : Calls Try.prog 55 #[ptrV g] w (fun e w' => RetOwn .i64 3 w (liveI s.b) e w' ∧ Room w0 w' L) := by
  obtain ⟨X, bb, fb, A, c, hD⟩ := h.look j hj
  refine (mfiles_c w hD).mono ?_
  rintro e w' hr
  exact ⟨hr, h.e (by obtain ⟨_, _, _, _, _, hE⟩ := hr; exact hE)⟩
theorem Room.mcells (h : Room w0 w L) (hj : L[j]? = some (ModT g s)) : ∃ (bb : Nat) (A : Nat → Option Addr) (c : Nat → Nat), w.cell? ⟨g, 1, none⟩ = some (.slice (some ⟨bb, 0, none⟩) 64 64) ∧ w.cell? ⟨g, 3, none⟩ = some (.bool s.off) ∧
    ∀ i : Nat, i < 64 → w.cell? ⟨bb, i, none⟩ = some (.slice (A i) (s.b i).length (c i)) ∧ Nums .u8 w (A i) (s.b i).length (c i) (s.b i) := by
  obtain ⟨X, bb, fb, A, c, hD⟩ := h.look j hj
  exact ⟨bb, fun i => A i, fun i => c i, hD.cells.2.1, hD.cells.2.2.2.1, fun i hi => ⟨(hD.file hi).1, (hD.row i (isF_iff.2 ⟨by omega, by omega⟩)).reads⟩⟩
theorem Room.mok (h : Room w0 w L) (hj : L[j]? = some (ModT g s)) : DOk s := by
  obtain ⟨X, hD⟩ := h.look j hj
  exact ModAt.ok hD
end
theorem room_mnew {w0 w : World} {L : List (World → (Nat → Prop) → Prop)} (h : Room w0 w L) (room : Int) (hr : 0 ≤ room ∧ room ≤ 16777216) :
    Calls Try.prog 27 #[.int .i64 room] w (fun e w' => ∃ g, e = .returned (.pointer (some ⟨g, 0, none⟩)) ∧ Room w0 w' (L ++ [ModT g (newS room)]) ∧ E w w') := by
  refine (mnew_c room w hr).mono ?_
  rintro e w' ⟨hE, g, X, rfl, hM, hX⟩
  exact ⟨g, rfl, h.add hE (modT _ _) hM hX, hE⟩
end Go.Proofs.Ythcicfolabngcaa
/- Ops: it hands back SOME list of up to 16 operations. -/
namespace Go.Proofs.Ythcicfolabngcaa
open Go.RowKit

def RetOps (w : World) (e : Ending) (w' : World) : Prop := ∃ A n c q, e = .returned (.slice A n c) ∧ n ≤ 16 ∧ ORow w' w.heap.size A n c q ∧ E w w'
theorem wrap_in (x : Int) : -9223372036854775808 ≤ RowKit.wrap64 x ∧ RowKit.wrap64 x ≤ 9223372036854775807 := by unfold RowKit.wrap64; omega
theorem wf_u8w (x : Int) : (Lit.int .u8 (IntKind.u8.wrap x)).wf = true := by rw [IntKind.wrap_u8]; exact WalkArith.wf_u8 ⟨by omega, by omega⟩
theorem aro_nat (a : Int) {m : Int} (hm : 0 < m) : ∃ z : Nat, aroN a m = z ∧ (z : Int) < m := by
  obtain ⟨h1, h2⟩ := aroN_range a hm
  generalize aroN a m = r at *
  exact ⟨r.toNat, by omega, by omega⟩
theorem opW0 (w : World) {kind file n : Int} (h0 : -9223372036854775808 ≤ kind ∧ kind ≤ 9223372036854775807) (h1 : -9223372036854775808 ≤ file ∧ file ≤ 9223372036854775807) (h2 : -9223372036854775808 ≤ n ∧ n ≤ 9223372036854775807) : OpW w ⟨kind, file, n, [], [], none, 0, 0, none, 0, 0⟩ :=
  ⟨wf_of_i64 h0.1 h0.2, wf_of_i64 h1.1 h1.2, wf_of_i64 h2.1 h2.2, Nums.nil_ _ _, Nums.nil_ _ _, Nat.zero_le _⟩
theorem Nums.takeK {k : IntKind} {w : World} {A : Option Addr} {n c : Nat} {l : List Int} (h : Nums k w A n c l) (m : Nat) (hm : m ≤ n) : Nums k w A m c (l.take m) :=
  ⟨by rw [List.length_take, h.len]; omega, Nat.le_trans hm h.cap, h.mx, fun x hx => h.wf x (List.mem_of_mem_take hx), fun h0 => by
    obtain ⟨b, o, e, hb, hc⟩ := h.at_ (by omega)
    refine ⟨b, o, e, hb, fun i hi => ?_⟩
    rw [List.getElem_take]
    exact hc i (by rw [List.length_take] at hi; omega)⟩
theorem new_apart {w wr : World} {A' : Option Addr} {i c' : Nat} {q : List OpE} (hO : ORow wr w.heap.size A' i c' q) (hE : E w wr) {b : Nat} (hb : wr.heap.size ≤ b) : ob (some (⟨b, 0, none⟩ : Addr)) ≠ ob A' ∧ ∀ b', ob (some (⟨b, 0, none⟩ : Addr)) = some b' → w.heap.size ≤ b' := by
  refine ⟨fun e => ?_, fun b' e => ?_⟩
  · have := (hO.ltN b e.symm).2
    omega
  · have : b = b' := by simpa [ob] using e
    have := hE.le
    omega
set_option maxHeartbeats 8000000 in
set_option maxRecDepth 100000 in
theorem ops_c (A : Option Addr) (n c : Nat) (l : List Int) (w : World) (hN : Nums .i64 w A n c l) : Calls Try.prog 28 #[.slice A n c] w (RetOps w) := by
  have hn63 := hN.n63
  have HN := Lib.hid hN
  clear hN
  go_enter Try.func28, Try.ntmps28
  go_wp2
  go_loopw [4, 3] (fun t4 t3 wr => ∃ (i c' : Nat) (A' : Option Addr) (q : List OpE), t4 = .int .i64 i ∧ t3 = .slice A' i c' ∧ i ≤ n ∧ i ≤ 16 ∧ ORow wr w.heap.size A' i c' q ∧ E w wr) (fun t4 _ _ => 16 - (intOf t4).toNat)
  case atStart => exact ⟨0, 0, none, [], rfl, rfl, Nat.zero_le _, Nat.zero_le _, ORow.nil _ _, E.refl _⟩
  case round =>
    obtain ⟨i, c', A', q, rfl, rfl, hi, hi16, hO, hE⟩ := hrel
    have HI := Lib.hid (And.intro hi hi16)
    have HO := Lib.hid hO
    have HE := Lib.hid hE
    clear hi hO hE
    by_cases hgo : i < n ∧ i < 16
    · obtain ⟨hlt, h16⟩ := hgo
      have dlt : decide (i < n) = true := by simpa using hlt
      have d16 : decide ((i : Int) < 16) = true := by simp; omega
      obtain ⟨b, o, y, hA, hb, hy, hwy, hcy⟩ := (HN.out.e HE.out).get hlt
      subst hA
      have HY := Lib.hid (wf_i64 hwy)
      have HT := Lib.hid (wrap_in (y.tdiv 16))
      obtain ⟨z, hz, hz0⟩ := aro_nat (RowKit.wrap64 (y.tdiv 16)) (m := 4096) (by decide)
      obtain ⟨u, hu, hu0⟩ := aro_nat y (m := 16) (by decide)
      have HZ := Lib.hid hz
      have HU := Lib.hid hu
      clear hz hu hy hwy
      go_upto_region 6 with (go_at_call 12; (with_reducible refine (around1_c (RowKit.wrap64 (y.tdiv 16)) 4096 _ HT.out.1 HT.out.2 (by decide) (by decide)).mono ?_); rintro e w' ⟨rfl, hw⟩; rw [HZ.out, ← hw]; clear hw)
      have HI2 := Lib.hid (show i + 1 ≤ n ∧ i + 1 ≤ 16 ∧ 16 - (intOf (.int .i64 ((i : Int) + 1))).toNat < 16 - (intOf (.int .i64 (i : Int))).toNat by simp only [intOf]; omega)
      have H16 := Lib.hid (show i ≤ 1000000 by omega)
      rcases (show u = 0 ∨ u = 1 ∨ u = 2 ∨ u = 3 ∨ u = 4 ∨ u = 5 ∨ u = 6 ∨ 7 ≤ u by omega) with h | h | h | h | h | h | h | h
      · subst h
        have HB := Lib.hid (show (-9223372036854775808 ≤ ((z : Int) % 3 : Int) ∧ ((z : Int) % 3 : Int) ≤ 9223372036854775807) ∧ (-9223372036854775808 ≤ (0 : Int) ∧ (0 : Int) ≤ 9223372036854775807) by omega)
        go_upto_region 30 with (go_at_call 12; (with_reducible refine (around1_c y 16 _ HY.out.1 HY.out.2 (by decide) (by decide)).mono ?_); rintro e w' ⟨rfl, hw⟩; rw [HU.out, ← hw]; clear hw)
        have hE1 : E wr (wr.alloc (.cells #[.int .i64 1, .int .i64 ((z : Int) % 3), .int .i64 (0), .slice none 0 0, .slice none 0 0] 56)) := (E.refl wr).alloc _
        have hl := heap_alloc_new wr (.cells #[.int .i64 1, .int .i64 ((z : Int) % 3), .int .i64 (0), .slice none 0 0, .slice none 0 0] 56)
        generalize wr.alloc (.cells #[.int .i64 1, .int .i64 ((z : Int) % 3), .int .i64 (0), .slice none 0 0, .slice none 0 0] 56) = V at *
        have p0 : V.cell? ⟨wr.heap.size, 0, none⟩ = _ := cell_of_row _ _ _ _ _ _ hl
        have p1 : V.cell? ⟨wr.heap.size, 1, none⟩ = _ := cell_of_row _ _ _ _ _ _ hl
        have p2 : V.cell? ⟨wr.heap.size, 2, none⟩ = _ := cell_of_row _ _ _ _ _ _ hl
        have p3 : V.cell? ⟨wr.heap.size, 3, none⟩ = _ := cell_of_row _ _ _ _ _ _ hl
        have p4 : V.cell? ⟨wr.heap.size, 4, none⟩ = _ := cell_of_row _ _ _ _ _ _ hl
        have HOV := Lib.hid (HO.out.e hE1)
        have HEV := Lib.hid (HE.out.trans hE1)
        clear hl hE1
        go_wp2_with (at_builtin; refine wpList_appOp V rfl _ _ rfl w.heap.size A' i c' q rfl HOV.out ⟨1, (z : Int) % 3, 0, [], [], none, 0, 0, none, 0, 0⟩ rfl ⟨opW0 _ ⟨by decide, by decide⟩ HB.out.1 HB.out.2, fun h => absurd h (Nat.lt_irrefl 0), fun h => absurd h (Nat.lt_irrefl 0)⟩ H16.out HEV.out.le ?_; intro g' c2 w4 hO4 hG4 hB4)
        exact ⟨⟨i + 1, c2, _, _, by go_num, rfl, HI2.out.1, HI2.out.2.1, hO4, HEV.out.up hB4⟩, HI2.out.2.2⟩
      · subst h
        have HB := Lib.hid (show (-9223372036854775808 ≤ ((z : Int) % 3 : Int) ∧ ((z : Int) % 3 : Int) ≤ 9223372036854775807) ∧ (-9223372036854775808 ≤ (0 : Int) ∧ (0 : Int) ≤ 9223372036854775807) by omega)
        go_upto_region 30 with (go_at_call 12; (with_reducible refine (around1_c y 16 _ HY.out.1 HY.out.2 (by decide) (by decide)).mono ?_); rintro e w' ⟨rfl, hw⟩; rw [HU.out, ← hw]; clear hw)
        have hE1 : E wr (wr.alloc (.cells #[.int .i64 1, .int .i64 ((z : Int) % 3), .int .i64 (0), .slice none 0 0, .slice none 0 0] 56)) := (E.refl wr).alloc _
        have hl := heap_alloc_new wr (.cells #[.int .i64 1, .int .i64 ((z : Int) % 3), .int .i64 (0), .slice none 0 0, .slice none 0 0] 56)
        generalize wr.alloc (.cells #[.int .i64 1, .int .i64 ((z : Int) % 3), .int .i64 (0), .slice none 0 0, .slice none 0 0] 56) = V at *
        have p0 : V.cell? ⟨wr.heap.size, 0, none⟩ = _ := cell_of_row _ _ _ _ _ _ hl
        have p1 : V.cell? ⟨wr.heap.size, 1, none⟩ = _ := cell_of_row _ _ _ _ _ _ hl
        have p2 : V.cell? ⟨wr.heap.size, 2, none⟩ = _ := cell_of_row _ _ _ _ _ _ hl
        have p3 : V.cell? ⟨wr.heap.size, 3, none⟩ = _ := cell_of_row _ _ _ _ _ _ hl
        have p4 : V.cell? ⟨wr.heap.size, 4, none⟩ = _ := cell_of_row _ _ _ _ _ _ hl
        have HOV := Lib.hid (HO.out.e hE1)
        have HEV := Lib.hid (HE.out.trans hE1)
        clear hl hE1
        go_wp2_with (at_builtin; refine wpList_appOp V rfl _ _ rfl w.heap.size A' i c' q rfl HOV.out ⟨1, (z : Int) % 3, 0, [], [], none, 0, 0, none, 0, 0⟩ rfl ⟨opW0 _ ⟨by decide, by decide⟩ HB.out.1 HB.out.2, fun h => absurd h (Nat.lt_irrefl 0), fun h => absurd h (Nat.lt_irrefl 0)⟩ H16.out HEV.out.le ?_; intro g' c2 w4 hO4 hG4 hB4)
        exact ⟨⟨i + 1, c2, _, _, by go_num, rfl, HI2.out.1, HI2.out.2.1, hO4, HEV.out.up hB4⟩, HI2.out.2.2⟩
      · subst h
        have HB := Lib.hid (show (-9223372036854775808 ≤ ((z : Int) % 3 : Int) ∧ ((z : Int) % 3 : Int) ≤ 9223372036854775807) ∧ (-9223372036854775808 ≤ ((z : Int) / 3 % 9 - 1 : Int) ∧ ((z : Int) / 3 % 9 - 1 : Int) ≤ 9223372036854775807) by omega)
        go_upto_region 30 with (go_at_call 12; (with_reducible refine (around1_c y 16 _ HY.out.1 HY.out.2 (by decide) (by decide)).mono ?_); rintro e w' ⟨rfl, hw⟩; rw [HU.out, ← hw]; clear hw)
        have hE1 : E wr (wr.alloc (.cells #[.int .i64 2, .int .i64 ((z : Int) % 3), .int .i64 ((z : Int) / 3 % 9 - 1), .slice none 0 0, .slice none 0 0] 56)) := (E.refl wr).alloc _
        have hl := heap_alloc_new wr (.cells #[.int .i64 2, .int .i64 ((z : Int) % 3), .int .i64 ((z : Int) / 3 % 9 - 1), .slice none 0 0, .slice none 0 0] 56)
        generalize wr.alloc (.cells #[.int .i64 2, .int .i64 ((z : Int) % 3), .int .i64 ((z : Int) / 3 % 9 - 1), .slice none 0 0, .slice none 0 0] 56) = V at *
        have p0 : V.cell? ⟨wr.heap.size, 0, none⟩ = _ := cell_of_row _ _ _ _ _ _ hl
        have p1 : V.cell? ⟨wr.heap.size, 1, none⟩ = _ := cell_of_row _ _ _ _ _ _ hl
        have p2 : V.cell? ⟨wr.heap.size, 2, none⟩ = _ := cell_of_row _ _ _ _ _ _ hl
        have p3 : V.cell? ⟨wr.heap.size, 3, none⟩ = _ := cell_of_row _ _ _ _ _ _ hl
        have p4 : V.cell? ⟨wr.heap.size, 4, none⟩ = _ := cell_of_row _ _ _ _ _ _ hl
        have HOV := Lib.hid (HO.out.e hE1)
        have HEV := Lib.hid (HE.out.trans hE1)
        clear hl hE1
        go_wp2_with (at_builtin; refine wpList_appOp V rfl _ _ rfl w.heap.size A' i c' q rfl HOV.out ⟨2, (z : Int) % 3, (z : Int) / 3 % 9 - 1, [], [], none, 0, 0, none, 0, 0⟩ rfl ⟨opW0 _ ⟨by decide, by decide⟩ HB.out.1 HB.out.2, fun h => absurd h (Nat.lt_irrefl 0), fun h => absurd h (Nat.lt_irrefl 0)⟩ H16.out HEV.out.le ?_; intro g' c2 w4 hO4 hG4 hB4)
        exact ⟨⟨i + 1, c2, _, _, by go_num, rfl, HI2.out.1, HI2.out.2.1, hO4, HEV.out.up hB4⟩, HI2.out.2.2⟩
      · subst h
        have HB := Lib.hid (show (-9223372036854775808 ≤ ((z : Int) % 3 : Int) ∧ ((z : Int) % 3 : Int) ≤ 9223372036854775807) ∧ (-9223372036854775808 ≤ ((z : Int) / 3 % 7 - 1 : Int) ∧ ((z : Int) / 3 % 7 - 1 : Int) ≤ 9223372036854775807) by omega)
        go_upto_region 30 with (go_at_call 12; (with_reducible refine (around1_c y 16 _ HY.out.1 HY.out.2 (by decide) (by decide)).mono ?_); rintro e w' ⟨rfl, hw⟩; rw [HU.out, ← hw]; clear hw)
        have hE1 : E wr (wr.alloc (.cells #[.int .i64 3, .int .i64 ((z : Int) % 3), .int .i64 ((z : Int) / 3 % 7 - 1), .slice none 0 0, .slice none 0 0] 56)) := (E.refl wr).alloc _
        have hl := heap_alloc_new wr (.cells #[.int .i64 3, .int .i64 ((z : Int) % 3), .int .i64 ((z : Int) / 3 % 7 - 1), .slice none 0 0, .slice none 0 0] 56)
        generalize wr.alloc (.cells #[.int .i64 3, .int .i64 ((z : Int) % 3), .int .i64 ((z : Int) / 3 % 7 - 1), .slice none 0 0, .slice none 0 0] 56) = V at *
        have p0 : V.cell? ⟨wr.heap.size, 0, none⟩ = _ := cell_of_row _ _ _ _ _ _ hl
        have p1 : V.cell? ⟨wr.heap.size, 1, none⟩ = _ := cell_of_row _ _ _ _ _ _ hl
        have p2 : V.cell? ⟨wr.heap.size, 2, none⟩ = _ := cell_of_row _ _ _ _ _ _ hl
        have p3 : V.cell? ⟨wr.heap.size, 3, none⟩ = _ := cell_of_row _ _ _ _ _ _ hl
        have p4 : V.cell? ⟨wr.heap.size, 4, none⟩ = _ := cell_of_row _ _ _ _ _ _ hl
        have HOV := Lib.hid (HO.out.e hE1)
        have HEV := Lib.hid (HE.out.trans hE1)
        clear hl hE1
        go_wp2_with (at_builtin; refine wpList_appOp V rfl _ _ rfl w.heap.size A' i c' q rfl HOV.out ⟨3, (z : Int) % 3, (z : Int) / 3 % 7 - 1, [], [], none, 0, 0, none, 0, 0⟩ rfl ⟨opW0 _ ⟨by decide, by decide⟩ HB.out.1 HB.out.2, fun h => absurd h (Nat.lt_irrefl 0), fun h => absurd h (Nat.lt_irrefl 0)⟩ H16.out HEV.out.le ?_; intro g' c2 w4 hO4 hG4 hB4)
        exact ⟨⟨i + 1, c2, _, _, by go_num, rfl, HI2.out.1, HI2.out.2.1, hO4, HEV.out.up hB4⟩, HI2.out.2.2⟩
      · subst h
        obtain ⟨m, hm, hm3⟩ : ∃ m : Nat, (z : Int) / 125 % 4 = (m : Int) ∧ m ≤ 3 := ⟨z / 125 % 4, by omega, by omega⟩
        have HB := Lib.hid (show (-9223372036854775808 ≤ ((z : Int) % 3) ∧ ((z : Int) % 3) ≤ 9223372036854775807) ∧ (-9223372036854775808 ≤ ((z : Int) / 4 % 40 - 4) ∧ ((z : Int) / 4 % 40 - 4) ≤ 9223372036854775807) by omega)
        have HK3 := Lib.hid (show ∀ x ∈ [(z : Int) % 5 - 1, (z : Int) / 5 % 5, (z : Int) / 25 % 5], (Lit.int .i64 x).wf = true by
          intro x hx
          simp at hx
          rcases hx with rfl | rfl | rfl <;> exact wf_of_i64 (by omega) (by omega))
        go_upto_region 30 with (go_at_call 12; (with_reducible refine (around1_c y 16 _ HY.out.1 HY.out.2 (by decide) (by decide)).mono ?_); rintro e w' ⟨rfl, hw⟩; rw [HU.out, ← hw]; clear hw)
        have hE1 : E wr ((wr.alloc (.cells #[.int .i64 4, .int .i64 ((z : Int) % 3), .int .i64 ((z : Int) / 4 % 40 - 4), .slice none 0 0, .slice (some ⟨wr.heap.size + 1, 0, none⟩) m 3] 56)).alloc (.cells #[.int .i64 ((z : Int) % 5 - 1), .int .i64 ((z : Int) / 5 % 5), .int .i64 ((z : Int) / 25 % 5)] 3)) := ((E.refl wr).alloc _).alloc _
        have hl0 := heap_alloc_new wr (.cells #[.int .i64 4, .int .i64 ((z : Int) % 3), .int .i64 ((z : Int) / 4 % 40 - 4), .slice none 0 0, .slice (some ⟨wr.heap.size + 1, 0, none⟩) m 3] 56)
        have hl : ((wr.alloc (.cells #[.int .i64 4, .int .i64 ((z : Int) % 3), .int .i64 ((z : Int) / 4 % 40 - 4), .slice none 0 0, .slice (some ⟨wr.heap.size + 1, 0, none⟩) m 3] 56)).alloc (.cells #[.int .i64 ((z : Int) % 5 - 1), .int .i64 ((z : Int) / 5 % 5), .int .i64 ((z : Int) / 25 % 5)] 3)).heap[wr.heap.size]? = _ := (((E.refl (wr.alloc (.cells #[.int .i64 4, .int .i64 ((z : Int) % 3), .int .i64 ((z : Int) / 4 % 40 - 4), .slice none 0 0, .slice (some ⟨wr.heap.size + 1, 0, none⟩) m 3] 56))).alloc (.cells #[.int .i64 ((z : Int) % 5 - 1), .int .i64 ((z : Int) / 5 % 5), .int .i64 ((z : Int) / 25 % 5)] 3)).block (by simp)).trans hl0
        have hk := newNums (wr.alloc (.cells #[.int .i64 4, .int .i64 ((z : Int) % 3), .int .i64 ((z : Int) / 4 % 40 - 4), .slice none 0 0, .slice (some ⟨wr.heap.size + 1, 0, none⟩) m 3] 56)) .i64 3 [(z : Int) % 5 - 1, (z : Int) / 5 % 5, (z : Int) / 25 % 5] HK3.out (by simp)
        rw [show (wr.alloc (.cells #[.int .i64 4, .int .i64 ((z : Int) % 3), .int .i64 ((z : Int) / 4 % 40 - 4), .slice none 0 0, .slice (some ⟨wr.heap.size + 1, 0, none⟩) m 3] 56)).heap.size = wr.heap.size + 1 by simp] at hk
        have hk2 : Nums .i64 ((wr.alloc (.cells #[.int .i64 4, .int .i64 ((z : Int) % 3), .int .i64 ((z : Int) / 4 % 40 - 4), .slice none 0 0, .slice (some ⟨wr.heap.size + 1, 0, none⟩) m 3] 56)).alloc (.cells #[.int .i64 ((z : Int) % 5 - 1), .int .i64 ((z : Int) / 5 % 5), .int .i64 ((z : Int) / 25 % 5)] 3)) (some ⟨wr.heap.size + 1, 0, none⟩) 3 3 [(z : Int) % 5 - 1, (z : Int) / 5 % 5, (z : Int) / 25 % 5] := hk
        clear hl0 hk
        generalize (wr.alloc (.cells #[.int .i64 4, .int .i64 ((z : Int) % 3), .int .i64 ((z : Int) / 4 % 40 - 4), .slice none 0 0, .slice (some ⟨wr.heap.size + 1, 0, none⟩) m 3] 56)).alloc (.cells #[.int .i64 ((z : Int) % 5 - 1), .int .i64 ((z : Int) / 5 % 5), .int .i64 ((z : Int) / 25 % 5)] 3) = V at *
        have p0 : V.cell? ⟨wr.heap.size, 0, none⟩ = _ := cell_of_row _ _ _ _ _ _ hl
        have p1 : V.cell? ⟨wr.heap.size, 1, none⟩ = _ := cell_of_row _ _ _ _ _ _ hl
        have p2 : V.cell? ⟨wr.heap.size, 2, none⟩ = _ := cell_of_row _ _ _ _ _ _ hl
        have p3 : V.cell? ⟨wr.heap.size, 3, none⟩ = _ := cell_of_row _ _ _ _ _ _ hl
        have p4 : V.cell? ⟨wr.heap.size, 4, none⟩ = _ := cell_of_row _ _ _ _ _ _ hl
        have HOV := Lib.hid (HO.out.e hE1)
        have HEV := Lib.hid (HE.out.trans hE1)
        have HK2 := Lib.hid (hk2.takeK m hm3)
        have HAP := Lib.hid (new_apart HO.out HE.out (show wr.heap.size ≤ wr.heap.size + 1 by omega))
        clear hl hE1 hk2 hm
        go_wp2_with (at_builtin; refine wpList_appOp V rfl _ _ rfl w.heap.size A' i c' q rfl HOV.out ⟨4, (z : Int) % 3, (z : Int) / 4 % 40 - 4, [], _, none, 0, 0, some ⟨wr.heap.size + 1, 0, none⟩, m, 3⟩ rfl ⟨⟨show (Lit.int .i64 4).wf = true by decide, wf_of_i64 HB.out.1.1 HB.out.1.2, wf_of_i64 HB.out.2.1 HB.out.2.2, Nums.nil_ _ _, HK2.out, Nat.zero_le _⟩, fun h => absurd h (Nat.lt_irrefl 0), fun _ => HAP.out⟩ H16.out HEV.out.le ?_; intro g' c2 w4 hO4 hG4 hB4)
        exact ⟨⟨i + 1, c2, _, _, by go_num, rfl, HI2.out.1, HI2.out.2.1, hO4, HEV.out.up hB4⟩, HI2.out.2.2⟩
      · subst h
        obtain ⟨m, hm, hm3⟩ : ∃ m : Nat, (z : Int) / 125 % 4 = (m : Int) ∧ m ≤ 3 := ⟨z / 125 % 4, by omega, by omega⟩
        have HB := Lib.hid (show (-9223372036854775808 ≤ ((z : Int) % 3) ∧ ((z : Int) % 3) ≤ 9223372036854775807) ∧ (-9223372036854775808 ≤ ((z : Int) / 4 % 40 - 4) ∧ ((z : Int) / 4 % 40 - 4) ≤ 9223372036854775807) by omega)
        have HK3 := Lib.hid (show ∀ x ∈ [(z : Int) % 5 - 1, (z : Int) / 5 % 5, (z : Int) / 25 % 5], (Lit.int .i64 x).wf = true by
          intro x hx
          simp at hx
          rcases hx with rfl | rfl | rfl <;> exact wf_of_i64 (by omega) (by omega))
        go_upto_region 30 with (go_at_call 12; (with_reducible refine (around1_c y 16 _ HY.out.1 HY.out.2 (by decide) (by decide)).mono ?_); rintro e w' ⟨rfl, hw⟩; rw [HU.out, ← hw]; clear hw)
        have hE1 : E wr ((wr.alloc (.cells #[.int .i64 4, .int .i64 ((z : Int) % 3), .int .i64 ((z : Int) / 4 % 40 - 4), .slice none 0 0, .slice (some ⟨wr.heap.size + 1, 0, none⟩) m 3] 56)).alloc (.cells #[.int .i64 ((z : Int) % 5 - 1), .int .i64 ((z : Int) / 5 % 5), .int .i64 ((z : Int) / 25 % 5)] 3)) := ((E.refl wr).alloc _).alloc _
        have hl0 := heap_alloc_new wr (.cells #[.int .i64 4, .int .i64 ((z : Int) % 3), .int .i64 ((z : Int) / 4 % 40 - 4), .slice none 0 0, .slice (some ⟨wr.heap.size + 1, 0, none⟩) m 3] 56)
        have hl : ((wr.alloc (.cells #[.int .i64 4, .int .i64 ((z : Int) % 3), .int .i64 ((z : Int) / 4 % 40 - 4), .slice none 0 0, .slice (some ⟨wr.heap.size + 1, 0, none⟩) m 3] 56)).alloc (.cells #[.int .i64 ((z : Int) % 5 - 1), .int .i64 ((z : Int) / 5 % 5), .int .i64 ((z : Int) / 25 % 5)] 3)).heap[wr.heap.size]? = _ := (((E.refl (wr.alloc (.cells #[.int .i64 4, .int .i64 ((z : Int) % 3), .int .i64 ((z : Int) / 4 % 40 - 4), .slice none 0 0, .slice (some ⟨wr.heap.size + 1, 0, none⟩) m 3] 56))).alloc (.cells #[.int .i64 ((z : Int) % 5 - 1), .int .i64 ((z : Int) / 5 % 5), .int .i64 ((z : Int) / 25 % 5)] 3)).block (by simp)).trans hl0
        have hk := newNums (wr.alloc (.cells #[.int .i64 4, .int .i64 ((z : Int) % 3), .int .i64 ((z : Int) / 4 % 40 - 4), .slice none 0 0, .slice (some ⟨wr.heap.size + 1, 0, none⟩) m 3] 56)) .i64 3 [(z : Int) % 5 - 1, (z : Int) / 5 % 5, (z : Int) / 25 % 5] HK3.out (by simp)
        rw [show (wr.alloc (.cells #[.int .i64 4, .int .i64 ((z : Int) % 3), .int .i64 ((z : Int) / 4 % 40 - 4), .slice none 0 0, .slice (some ⟨wr.heap.size + 1, 0, none⟩) m 3] 56)).heap.size = wr.heap.size + 1 by simp] at hk
        have hk2 : Nums .i64 ((wr.alloc (.cells #[.int .i64 4, .int .i64 ((z : Int) % 3), .int .i64 ((z : Int) / 4 % 40 - 4), .slice none 0 0, .slice (some ⟨wr.heap.size + 1, 0, none⟩) m 3] 56)).alloc (.cells #[.int .i64 ((z : Int) % 5 - 1), .int .i64 ((z : Int) / 5 % 5), .int .i64 ((z : Int) / 25 % 5)] 3)) (some ⟨wr.heap.size + 1, 0, none⟩) 3 3 [(z : Int) % 5 - 1, (z : Int) / 5 % 5, (z : Int) / 25 % 5] := hk
        clear hl0 hk
        generalize (wr.alloc (.cells #[.int .i64 4, .int .i64 ((z : Int) % 3), .int .i64 ((z : Int) / 4 % 40 - 4), .slice none 0 0, .slice (some ⟨wr.heap.size + 1, 0, none⟩) m 3] 56)).alloc (.cells #[.int .i64 ((z : Int) % 5 - 1), .int .i64 ((z : Int) / 5 % 5), .int .i64 ((z : Int) / 25 % 5)] 3) = V at *
        have p0 : V.cell? ⟨wr.heap.size, 0, none⟩ = _ := cell_of_row _ _ _ _ _ _ hl
        have p1 : V.cell? ⟨wr.heap.size, 1, none⟩ = _ := cell_of_row _ _ _ _ _ _ hl
        have p2 : V.cell? ⟨wr.heap.size, 2, none⟩ = _ := cell_of_row _ _ _ _ _ _ hl
        have p3 : V.cell? ⟨wr.heap.size, 3, none⟩ = _ := cell_of_row _ _ _ _ _ _ hl
        have p4 : V.cell? ⟨wr.heap.size, 4, none⟩ = _ := cell_of_row _ _ _ _ _ _ hl
        have HOV := Lib.hid (HO.out.e hE1)
        have HEV := Lib.hid (HE.out.trans hE1)
        have HK2 := Lib.hid (hk2.takeK m hm3)
        have HAP := Lib.hid (new_apart HO.out HE.out (show wr.heap.size ≤ wr.heap.size + 1 by omega))
        clear hl hE1 hk2 hm
        go_wp2_with (at_builtin; refine wpList_appOp V rfl _ _ rfl w.heap.size A' i c' q rfl HOV.out ⟨4, (z : Int) % 3, (z : Int) / 4 % 40 - 4, [], _, none, 0, 0, some ⟨wr.heap.size + 1, 0, none⟩, m, 3⟩ rfl ⟨⟨show (Lit.int .i64 4).wf = true by decide, wf_of_i64 HB.out.1.1 HB.out.1.2, wf_of_i64 HB.out.2.1 HB.out.2.2, Nums.nil_ _ _, HK2.out, Nat.zero_le _⟩, fun h => absurd h (Nat.lt_irrefl 0), fun _ => HAP.out⟩ H16.out HEV.out.le ?_; intro g' c2 w4 hO4 hG4 hB4)
        exact ⟨⟨i + 1, c2, _, _, by go_num, rfl, HI2.out.1, HI2.out.2.1, hO4, HEV.out.up hB4⟩, HI2.out.2.2⟩
      · subst h
        have HB := Lib.hid (show (-9223372036854775808 ≤ ((z : Int) % 70 - 3) ∧ ((z : Int) % 70 - 3) ≤ 9223372036854775807) by omega)
        go_upto_region 30 with (go_at_call 12; (with_reducible refine (around1_c y 16 _ HY.out.1 HY.out.2 (by decide) (by decide)).mono ?_); rintro e w' ⟨rfl, hw⟩; rw [HU.out, ← hw]; clear hw)
        have hE1 : E wr ((wr.alloc (.cells #[.int .i64 0, .int .i64 ((z : Int) % 70 - 3), .int .i64 0, .slice (some ⟨wr.heap.size + 1, 0, none⟩) 1 1, .slice none 0 0] 56)).alloc (.cells #[.int .u8 1] 5)) := ((E.refl wr).alloc _).alloc _
        have hl0 := heap_alloc_new wr (.cells #[.int .i64 0, .int .i64 ((z : Int) % 70 - 3), .int .i64 0, .slice (some ⟨wr.heap.size + 1, 0, none⟩) 1 1, .slice none 0 0] 56)
        have hl : ((wr.alloc (.cells #[.int .i64 0, .int .i64 ((z : Int) % 70 - 3), .int .i64 0, .slice (some ⟨wr.heap.size + 1, 0, none⟩) 1 1, .slice none 0 0] 56)).alloc (.cells #[.int .u8 1] 5)).heap[wr.heap.size]? = _ := (((E.refl (wr.alloc (.cells #[.int .i64 0, .int .i64 ((z : Int) % 70 - 3), .int .i64 0, .slice (some ⟨wr.heap.size + 1, 0, none⟩) 1 1, .slice none 0 0] 56))).alloc (.cells #[.int .u8 1] 5)).block (by simp)).trans hl0
        have hk := newNums (wr.alloc (.cells #[.int .i64 0, .int .i64 ((z : Int) % 70 - 3), .int .i64 0, .slice (some ⟨wr.heap.size + 1, 0, none⟩) 1 1, .slice none 0 0] 56)) .u8 5 [1] (by decide) (by simp)
        rw [show (wr.alloc (.cells #[.int .i64 0, .int .i64 ((z : Int) % 70 - 3), .int .i64 0, .slice (some ⟨wr.heap.size + 1, 0, none⟩) 1 1, .slice none 0 0] 56)).heap.size = wr.heap.size + 1 by simp] at hk
        have hk2 : Nums .u8 ((wr.alloc (.cells #[.int .i64 0, .int .i64 ((z : Int) % 70 - 3), .int .i64 0, .slice (some ⟨wr.heap.size + 1, 0, none⟩) 1 1, .slice none 0 0] 56)).alloc (.cells #[.int .u8 1] 5)) (some ⟨wr.heap.size + 1, 0, none⟩) 1 1 [1] := hk
        clear hl0 hk
        generalize (wr.alloc (.cells #[.int .i64 0, .int .i64 ((z : Int) % 70 - 3), .int .i64 0, .slice (some ⟨wr.heap.size + 1, 0, none⟩) 1 1, .slice none 0 0] 56)).alloc (.cells #[.int .u8 1] 5) = V at *
        have p0 : V.cell? ⟨wr.heap.size, 0, none⟩ = _ := cell_of_row _ _ _ _ _ _ hl
        have p1 : V.cell? ⟨wr.heap.size, 1, none⟩ = _ := cell_of_row _ _ _ _ _ _ hl
        have p2 : V.cell? ⟨wr.heap.size, 2, none⟩ = _ := cell_of_row _ _ _ _ _ _ hl
        have p3 : V.cell? ⟨wr.heap.size, 3, none⟩ = _ := cell_of_row _ _ _ _ _ _ hl
        have p4 : V.cell? ⟨wr.heap.size, 4, none⟩ = _ := cell_of_row _ _ _ _ _ _ hl
        have HOV := Lib.hid (HO.out.e hE1)
        have HEV := Lib.hid (HE.out.trans hE1)
        have HK2 := Lib.hid hk2
        have HAP := Lib.hid (new_apart HO.out HE.out (show wr.heap.size ≤ wr.heap.size + 1 by omega))
        clear hl hE1 hk2
        go_wp2_with (at_builtin; refine wpList_appOp V rfl _ _ rfl w.heap.size A' i c' q rfl HOV.out ⟨0, (z : Int) % 70 - 3, 0, [1], [], some ⟨wr.heap.size + 1, 0, none⟩, 1, 1, none, 0, 0⟩ rfl ⟨⟨show (Lit.int .i64 0).wf = true by decide, wf_of_i64 HB.out.1 HB.out.2, show (Lit.int .i64 0).wf = true by decide, HK2.out, Nums.nil_ _ _, show 1 ≤ 1000 by decide⟩, fun _ => HAP.out, fun h => absurd h (Nat.lt_irrefl 0)⟩ H16.out HEV.out.le ?_; intro g' c2 w4 hO4 hG4 hB4)
        exact ⟨⟨i + 1, c2, _, _, by go_num, rfl, HI2.out.1, HI2.out.2.1, hO4, HEV.out.up hB4⟩, HI2.out.2.2⟩
      · have e0 : ((u : Int) == 0) = false := by simp; omega
        have e1 : ((u : Int) == 1) = false := by simp; omega
        have e2 : ((u : Int) == 2) = false := by simp; omega
        have e3 : ((u : Int) == 3) = false := by simp; omega
        have e4 : ((u : Int) == 4) = false := by simp; omega
        have e5 : ((u : Int) == 5) = false := by simp; omega
        have e6 : ((u : Int) == 6) = false := by simp; omega
        have g0 : ¬ u = 0 := by omega
        obtain ⟨m, hm, hm5⟩ : ∃ m : Nat, (z : Int) / 3 % 6 = (m : Int) ∧ m ≤ 5 := ⟨z / 3 % 6, by omega, by omega⟩
        have HM5 := Lib.hid hm5
        have HB := Lib.hid (show (-9223372036854775808 ≤ ((z : Int) % 3) ∧ ((z : Int) % 3) ≤ 9223372036854775807) by omega)
        clear h hm5
        go_upto_region 8 with (go_at_call 12; (with_reducible refine (around1_c y 16 _ HY.out.1 HY.out.2 (by decide) (by decide)).mono ?_); rintro e w' ⟨rfl, hw⟩; rw [HU.out, ← hw]; clear hw)
        have hE1 : E wr (wr.alloc (.cells #[.int .i64 0, .int .i64 ((z : Int) % 3), .int .i64 0, .slice none 0 0, .slice none 0 0] 56)) := (E.refl wr).alloc _
        have hl := heap_alloc_new wr (.cells #[.int .i64 0, .int .i64 ((z : Int) % 3), .int .i64 0, .slice none 0 0, .slice none 0 0] 56)
        generalize wr.alloc (.cells #[.int .i64 0, .int .i64 ((z : Int) % 3), .int .i64 0, .slice none 0 0, .slice none 0 0] 56) = V at *
        have HV := Lib.hid hE1
        have HL := Lib.hid hl
        clear hl hE1
        go_wp2_with fail
        obtain ⟨w9, hw9⟩ : ∃ w9, w9 = wr := ⟨_, rfl⟩
        subst hw9
        go_loopw [7] (fun t7 wr => ∃ (k nb cb : Nat) (AB : Option Addr) (bl : List Int), t7 = .int .i64 k ∧ k ≤ m ∧ nb ≤ k ∧ wr.heap[w9.heap.size]? = some (.cells #[.int .i64 0, .int .i64 ((z : Int) % 3), .int .i64 0, .slice AB nb cb, .slice none 0 0] 56 (0, 0)) ∧ Own .u8 5 wr w9.heap.size AB nb cb bl ∧ E w9 wr) (fun t7 _ => m - (intOf t7).toNat)
        case atStart => exact ⟨0, 0, 0, none, [], rfl, Nat.zero_le _, Nat.le_refl _, HL.out, Own.nil _ _ _ _, HV.out⟩
        case round =>
          obtain ⟨k, nb, cb, AB, bl, rfl, hk, hnb, hl, hOb, hE⟩ := hrel
          have HL2 := Lib.hid hl
          have HOB := Lib.hid hOb
          have HE9 := Lib.hid hE
          have q0 : wr.cell? ⟨w9.heap.size, 0, none⟩ = _ := cell_of_row _ _ _ _ _ _ hl
          have q1 : wr.cell? ⟨w9.heap.size, 1, none⟩ = _ := cell_of_row _ _ _ _ _ _ hl
          have q2 : wr.cell? ⟨w9.heap.size, 2, none⟩ = _ := cell_of_row _ _ _ _ _ _ hl
          have q3 : wr.cell? ⟨w9.heap.size, 3, none⟩ = _ := cell_of_row _ _ _ _ _ _ hl
          have q4 : wr.cell? ⟨w9.heap.size, 4, none⟩ = _ := cell_of_row _ _ _ _ _ _ hl
          have qf : wr.frozen? ⟨w9.heap.size, 3, none⟩ = false := frozen_of_row _ _ _ _ _ hl
          have hKM := Lib.hid (And.intro hk hnb)
          clear hl hOb hE
          by_cases hkm : k < m
          · have dk : decide ((k : Int) < (m : Int)) = true := by simp; omega
            have dk' : decide (k < m) = true := by simpa using hkm
            have hk6 : k ≤ 5 := by have := HM5.out; omega
            have hcy' : wr.cell? ⟨b, o + i, none⟩ = some (.int .i64 y) := (HE9.out.cell (p := ⟨b, o + i, none⟩) hb).trans hcy
            have hil : (i : Int) < (n : Int) := by omega
            have hbs := HE9.out.le
            go_upto_region 11 with fail
            have hlt9 := lt_blk HL2.out
            have hltb := World.block_lt_of_cell? wr _ hcy'
            have nn1 := World.new_ne wr ⟨w9.heap.size, 3, none⟩ q3
            have nn2 := World.new_ne wr ⟨b, o + i, none⟩ hcy'
            have HLW := Lib.hid (fun W (hW : E wr W) => (hW.block (lt_blk HL2.out)).trans HL2.out)
            have HNE := Lib.hid (HOB.out.neq_ HL2.out (by decide))
            go_region_law (refine step_app1 byteT (by rfl) _ _ (by rfl) w9.heap.size AB nb cb bl (by rfl) (HOB.out.e (by first | exact ((E.refl _).drew).alloc _ | exact ((E.refl _).alloc _).drew | exact (E.refl _).alloc _)) _ _ (by rfl) (cell_of_row _ _ 0 _ _ _ (heap_alloc_new _ _)) (by first | exact wf_u8w _ | exact WalkArith.wf_u8 ⟨by omega, by omega⟩) (by omega) (by simp; omega) ?_; intro g4 c4 w4 hO4 hG4 hB4; have hl4 := (hG4.block w9.heap.size (by simp; have := lt_blk HL2.out; omega) (by rw [ob_eq]; exact fun e => HNE.out e.symm)).trans (HLW.out _ (by first | exact ((E.refl _).drew).alloc _ | exact ((E.refl _).alloc _).drew | exact (E.refl _).alloc _)); have q34 : w4.cell? ⟨w9.heap.size, 3, none⟩ = some (.slice AB nb cb) := cell_of_row _ _ _ _ _ _ hl4; have qf4 : w4.frozen? ⟨w9.heap.size, 3, none⟩ = false := frozen_of_row _ _ _ _ _ hl4; have hE4 := HE9.out.up (Below.trans (Below.mono (show E wr _ from (by first | exact ((E.refl _).drew).alloc _ | exact ((E.refl _).alloc _).drew | exact (E.refl _).alloc _)) hbs) hB4))
            all_goals (
              go_wp2_with fail
              exact ⟨⟨k + 1, nb + 1, c4, some ⟨g4, 0, none⟩, _, rfl, hkm, by have := hKM.out; omega, heap_setCell_same _ _ _ _ _ _ hl4, hO4.far (p := ⟨w9.heap.size, 3, none⟩) (hO4.apart hl4 (by decide)) _, hE4.setCell (p := ⟨w9.heap.size, 3, none⟩) (Nat.le_refl _) _⟩, by simp only [intOf]; omega⟩)
          · have dk : decide ((k : Int) < (m : Int)) = false := by simp; omega
            have dk' : decide (k < m) = false := by simpa using hkm
            have HEW := Lib.hid (HE.out.trans HE9.out)
            have HOV := Lib.hid (HO.out.e HE9.out)
            have HNB := Lib.hid (show nb ≤ 1000 by have := hKM.out; have := HM5.out; omega)
            have HAP := Lib.hid (show 0 < nb → ob AB ≠ ob A' ∧ ∀ b', ob AB = some b' → w.heap.size ≤ b' from fun _ => ⟨fun e => by
              cases hA' : ob A' with
              | none =>
                obtain ⟨b1, o1, e1, _⟩ := HOB.out.reads.at_ (by assumption)
                rw [e1, hA'] at e; cases e
              | some b1 =>
                have h1 := (HO.out.ltN b1 hA').2
                have h2 := (HOB.out.ltN b1 (by rw [e, hA'])).1
                omega, fun b' e => Nat.le_trans HE.out.le (HOB.out.ltN b' e).1⟩)
            clear hkm
            go_wp2_with (at_builtin; refine wpList_appOp wr rfl _ _ rfl w.heap.size A' i c' q rfl HOV.out ⟨0, (z : Int) % 3, 0, bl, [], AB, nb, cb, none, 0, 0⟩ rfl ⟨⟨show (Lit.int .i64 0).wf = true by decide, wf_of_i64 HB.out.1 HB.out.2, show (Lit.int .i64 0).wf = true by decide, HOB.out.reads, Nums.nil_ _ _, HNB.out⟩, HAP.out, fun h => absurd h (Nat.lt_irrefl 0)⟩ H16.out HEW.out.le ?_; intro g' c2 w4 hO4 hG4 hB4)
            exact ⟨⟨i + 1, c2, _, _, by go_num, rfl, HI2.out.1, HI2.out.2.1, hO4, HEW.out.up hB4⟩, HI2.out.2.2⟩
    · by_cases hlt : i < n
      · have dlt : decide (i < n) = true := by simpa using hlt
        have d16 : decide ((i : Int) < 16) = false := by simp; omega
        clear hgo
        go_wp2_with fail
        go_ret
        exact ⟨A', i, c', q, rfl, HI.out.2, HO.out, HE.out⟩
      · have dlt : decide (i < n) = false := by simpa using hlt
        clear hgo
        go_wp2_with fail
        go_ret
        exact ⟨A', i, c', q, rfl, HI.out.2, HO.out, HE.out⟩
end Go.Proofs.Ythcicfolabngcaa
/- same: a disk and its model in the same state. -/
namespace Go.Proofs.Ythcicfolabngcaa
open Go.RowKit

theorem sameL_self (l : List Int) : sameB l l = true := by simp [sameB]
set_option maxHeartbeats 4000000 in
set_option maxRecDepth 100000 in
theorem same_c {w0 w : World} {L : List (World → (Nat → Prop) → Prop)} {g k gm j jm : Nat} {s : DS} (h : Room w0 w L) (hj : L[j]? = some (DiskT g k s)) (hm : L[jm]? = some (ModT gm s)) :
    Calls Try.prog 31 #[ptrV g, ptrV gm] w (RetK w true) := by
  obtain ⟨bb, A, c, c1, c3, cf⟩ := h.mcells jm hm
  have H := Lib.hid h
  have HJ := Lib.hid (And.intro hj hm)
  have HU1 := Lib.hid (fun wn (hE : E w wn) => show Calls Try.prog 21 #[ptrV g] wn (fun e w' => e = .returned (.int .i64 (usedF s.b : Nat)) ∧ E w w') from ((h.e hE).used j hj).mono fun e w' h => ⟨h.1, by rw [h.2]; exact hE⟩)
  have HU2 := Lib.hid (fun wn (hE : E w wn) => show Calls Try.prog 54 #[ptrV gm] wn (fun e w' => e = .returned (.int .i64 (usedF s.b : Nat)) ∧ E w w') from ((h.e hE).mused jm hm).mono fun e w' h => ⟨h.1, by rw [← h.2]; exact hE⟩)
  have HON := Lib.hid (fun wn (hE : E w wn) => show Calls Try.prog 24 #[ptrV g] wn (fun e w' => e = .returned (.bool (!s.off)) ∧ E w w') from ((h.e hE).on j hj).mono fun e w' h => ⟨h.1, by rw [h.2]; exact hE⟩)
  have HF1 := Lib.hid (fun wn (hE : E w wn) => show Calls Try.prog 45 #[ptrV g] wn (fun e w' => ∃ A n c, e = .returned (.slice A n c) ∧ Nums .i64 w' A n c (liveI s.b) ∧ E wn w') from ((h.e hE).files j hj).mono fun e w' h => by
    obtain ⟨⟨A, n, c, h1, h2, h3⟩, _⟩ := h
    exact ⟨A, n, c, h1, h2.reads, h3⟩)
  have HF2 := Lib.hid (fun wn (hE : E w wn) => show Calls Try.prog 55 #[ptrV gm] wn (fun e w' => ∃ A n c, e = .returned (.slice A n c) ∧ Nums .i64 w' A n c (liveI s.b) ∧ E wn w') from ((h.e hE).mfiles jm hm).mono fun e w' h => by
    obtain ⟨⟨A, n, c, h1, h2, h3⟩, _⟩ := h
    exact ⟨A, n, c, h1, h2.reads, h3⟩)
  have HRD := Lib.hid (fun wn (hE : E w wn) (i : Nat) (hi : i < 64) => show Calls Try.prog 17 #[ptrV g, .int .i64 i] wn (RetOwnErr .u8 5 wn (readR s i)) from ((h.e hE).read j hj i (by omega) (by omega)).mono fun e w' h => h.1)
  have HCF := Lib.hid cf
  have HKP := Lib.hid (fun wn (hE : E w wn) => (hE.cell (p := ⟨gm, 3, none⟩) (World.block_lt_of_cell? w _ c3)).trans c3)
  have HKP1 := Lib.hid (fun wn (hE : E w wn) => (hE.cell (p := ⟨gm, 1, none⟩) (World.block_lt_of_cell? w _ c1)).trans c1)
  have hno : ((!s.off) == s.off) = false := by cases s.off <;> rfl
  have HSL := Lib.hid (sameL_self (liveI s.b))
  unfold ptrV at HU1 HU2 HON HF1 HF2 HRD ⊢
  clear h hj hm cf
  have hEa := (E.refl w).drew
  go_enter Try.func31, Try.ntmps31
  go_upto_region 1 with fail
  go_cut [29] (fun t29 wx => t29 = .bool false ∧ E w wx)
  case first =>
    go_region_held3 (fun w' => w'.cell? ⟨gm, 3, none⟩ = some (.bool s.off)) (exact HKP.out _ hEa)
      (first
        | (go_at_call 21; refine (HU1.out _ hEa).mono ?_; rintro e wn ⟨rfl, hEn⟩; replace hEa := hEn)
        | (go_at_call 54; refine (HU2.out _ hEa).mono ?_; rintro e wn ⟨rfl, hEn⟩; replace hEa := hEn)
        | (go_at_call 24; refine (HON.out _ hEa).mono ?_; rintro e wn ⟨rfl, hEn⟩; replace hEa := hEn)
        | (go_at_call 45; refine (HF1.out _ hEa).mono ?_; rintro e wn ⟨A6, n6, c6, rfl, R6, hEn⟩; replace hEa := hEa.trans hEn; try (replace R7 := R7.e hEn))
        | (go_at_call 55; refine (HF2.out _ hEa).mono ?_; rintro e wn ⟨A7, n7, c7, rfl, R7, hEn⟩; replace hEa := hEa.trans hEn; try (replace R6 := R6.e hEn))
        | (go_at_call 41; refine (sameInts_e _ _ _ _ _ _ _ _ _ R6 R7).mono ?_; rintro e wn ⟨rfl, hEn⟩; rw [HSL.out]; replace hEa := hEa.trans hEn))
    all_goals (
      go_wp2_with fail
      go_meet
      exact ⟨rfl, hEa⟩)
  case rest =>
    obtain ⟨rfl, hE⟩ := hcut
    clear hEa hno HSL HU1 HU2 HON HF1 HF2
    go_wp2_with fail
    go_loopw [5] (fun t5 wr => ∃ i : Nat, t5 = .int .i64 i ∧ i ≤ 4 ∧ E w wr) (fun t5 _ => 4 - (intOf t5).toNat)
    case atStart => exact ⟨0, rfl, by decide, hE⟩
    case round =>
      clear hE
      obtain ⟨i, rfl, hi, hE⟩ := hrel
      by_cases hlt : i < 4
      · have dlt : decide ((i : Int) < 4) = true := by simp; omega
        have hltI : (i : Int) < 64 := by omega
        obtain ⟨b0, hN⟩ := HCF.out i (by omega)
        have HN := Lib.hid hN
        have HRi := Lib.hid (HRD.out wr hE i (by omega))
        have HL := Lib.hid hlt
        have HE := Lib.hid hE
        clear hN
        cases ho : s.off with
        | true =>
          have HR := Lib.hid (show readR s i = ([], 23) by unfold readR; rw [if_neg (by rw [isF_iff.2 ⟨by omega, by omega⟩]; decide), if_pos ho])
          rw [HR.out] at HRi
          rw [ho] at HKP
          clear ho hE b0
          go_upto_region 7 with (go_at_call 17; refine HRi.out.mono ?_; rintro e w2 ⟨A6, n6, c6, rfl, hO6, hE6⟩)
          have hn6 : n6 = 0 := hO6.1.symm
          subst hn6
          have HE2 := Lib.hid (HE.out.trans hE6)
          have k3 := HKP.out w2 HE2.out
          clear hO6 hE6
          go_wp2_with fail
          exact ⟨⟨i + 1, by go_num, HL.out, HE2.out⟩, by have := HL.out; simp only [intOf]; omega⟩
        | false =>
          have HR := Lib.hid (show readR s i = (s.b i, 0) by unfold readR; rw [if_neg (by rw [isF_iff.2 ⟨by omega, by omega⟩]; decide), if_neg (by rw [ho]; decide)])
          rw [HR.out] at HRi
          rw [ho] at HKP
          clear ho hE
          go_upto_region 7 with (go_at_call 17; refine HRi.out.mono ?_; rintro e w2 ⟨A6, n6, c6, rfl, hO6, hE6⟩)
          have HE2 := Lib.hid (HE.out.trans hE6)
          have k3 := HKP.out w2 HE2.out
          have k1 := HKP1.out w2 HE2.out
          have k0 := (HE2.out.cell (p := ⟨bb, i, none⟩) (World.block_lt_of_cell? w _ b0)).trans b0
          have hN2 := HN.out.e HE2.out
          have hC := Lib.hid ((sameBytes_c _ _ _ _ _ _ (s.b i) (s.b i) w2 hO6.reads hN2).mono fun e wn h => show RetK w2 true e wn from ⟨h.1.trans (by rw [sameL_self]), by obtain ⟨m, hm⟩ := h.2; rw [hm]; exact (E.refl w2).drewN m⟩)
          clear hO6 hE6 hN2 b0
          go_wp2_with (go_at_call 18; (with_reducible refine hC.out.mono ?_); rintro e w5 ⟨rfl, hE5⟩)
          exact ⟨⟨i + 1, by go_num, HL.out, HE2.out.trans hE5⟩, by have := HL.out; simp only [intOf]; omega⟩
      · have dlt : decide ((i : Int) < 4) = false := by simp; omega
        clear hlt
        go_wp2_with fail
        go_ret
        exact ⟨rfl, hE⟩
end Go.Proofs.Ythcicfolabngcaa
/- made: a disk and its model after some operations. -/
namespace Go.Proofs.Ythcicfolabngcaa
open Go.RowKit

theorem ORow.cells {w : World} {base r n c i : Nat} {q : List OpE} {p : OpE} (h : ORow w base (some ⟨r, 0, none⟩) n c q) (hp : q[i]? = some p) :
    w.cell? ⟨r, i * 5, none⟩ = some (.int .i64 p.kind) ∧ w.cell? ⟨r, i * 5 + 1, none⟩ = some (.int .i64 p.file) ∧ w.cell? ⟨r, i * 5 + 2, none⟩ = some (.int .i64 p.n) ∧ w.cell? ⟨r, i * 5 + 3, none⟩ = some (.slice p.AB p.nB p.cB) ∧ w.cell? ⟨r, i * 5 + 4, none⟩ = some (.slice p.AK p.nK p.cK) := by
  have hi : i < n := by rw [← h.1]; exact (List.getElem?_eq_some_iff.1 hp).1
  obtain ⟨g, p', hA, hp', _, h0⟩ := h.get hi
  injection hA with hA
  injection hA with hA
  subst hA
  rw [hp] at hp'
  injection hp' with hp'
  subst hp'
  exact h0
theorem Room.opcells {w0 w : World} {L : List (World → (Nat → Prop) → Prop)} {r n c i j : Nat} {q : List OpE} {p : OpE} (h : Room w0 w L) (hj : L[j]? = some (OpsT (some ⟨r, 0, none⟩) n c q)) (hp : q[i]? = some p) :
    w.cell? ⟨r, i * 5, none⟩ = some (.int .i64 p.kind) ∧ w.cell? ⟨r, i * 5 + 1, none⟩ = some (.int .i64 p.file) ∧ w.cell? ⟨r, i * 5 + 2, none⟩ = some (.int .i64 p.n) ∧ w.cell? ⟨r, i * 5 + 3, none⟩ = some (.slice p.AB p.nB p.cB) ∧ w.cell? ⟨r, i * 5 + 4, none⟩ = some (.slice p.AK p.nK p.cK) := by
  obtain ⟨X, hT⟩ := h.look j hj
  exact hT.1.cells hp
theorem Room.opget {w0 w : World} {L : List (World → (Nat → Prop) → Prop)} {A : Option Addr} {n c i j : Nat} {q : List OpE} (h : Room w0 w L) (hj : L[j]? = some (OpsT A n c q)) (hi : i < n) : ∃ r p, A = some ⟨r, 0, none⟩ ∧ q[i]? = some p ∧ p ∈ q := by
  obtain ⟨X, hT⟩ := h.look j hj
  obtain ⟨g, p, hA, hp, _⟩ := hT.1.get hi
  exact ⟨g, p, hA, hp, List.mem_of_getElem? hp⟩
theorem room_k (x : Int) : ∃ r : Int, RowKit.wrap64 r = r ∧ IntKind.i64.wrap r = r ∧ 12 + aroN x 40 = r ∧ 0 ≤ r ∧ r ≤ 16777216 := by
  obtain ⟨h1, h2⟩ := aroN_range x (show (0 : Int) < 40 by decide)
  generalize aroN x 40 = a at *
  exact ⟨12 + a, by unfold RowKit.wrap64; omega, by rw [IntKind.wrap_i64]; omega, rfl, by omega, by omega⟩
set_option maxHeartbeats 4000000 in
set_option maxRecDepth 100000 in
theorem made_c (x : Int) (A : Option Addr) (n c : Nat) (l : List Int) (w : World) (hN : Nums .i64 w A n c l) (r1 : -9223372036854775808 ≤ x) (r2 : x ≤ 9223372036854775807) :
    Calls Try.prog 22 #[.int .i64 x, .slice A n c] w (fun e w' => ∃ (g gm k : Nat) (s : DS), e = .returned (.tuple #[.pointer (some ⟨g, 0, none⟩), .pointer (some ⟨gm, 0, none⟩)]) ∧ k ≤ 16 ∧ Room w w' [DiskT g k s, ModT gm s]) := by
  have HB := Lib.hid (And.intro r1 r2)
  obtain ⟨rk, hk1, hk2, hk3, hk4⟩ := room_k x
  have HK := Lib.hid hk4
  have HN := Lib.hid hN
  clear hN r1 r2 hk4
  go_enter Try.func22, Try.ntmps22
  go_upto_region 2 with (go_at_call 12; refine (around1_c x 40 _ HB.out.1 HB.out.2 (by decide) (by decide)).mono ?_; rintro e w' ⟨rfl, hw⟩; rw [← hw]; clear hw)
  have HK3 := Lib.hid hk3
  clear hk3
  go_upto_region 5 with (go_at_call 11; refine (room_new (Room.nil w) rk HK.out.1 HK.out.2).mono ?_; rintro e w1 ⟨g, rfl, hR, hE1⟩)
  have hR1 : Room w w1 [DiskT g 0 (newS rk)] := hR
  clear hR hE1
  go_upto_region 6 with (go_at_call 27; refine (room_mnew hR1 rk HK.out).mono ?_; rintro e w2 ⟨gm, rfl, hR2, hE2⟩)
  have hR2' : Room w w2 [DiskT g 0 (newS rk), ModT gm (newS rk)] := hR2
  have HN2 := Lib.hid (HN.out.e hR2.e_)
  clear hR1 hR2 hE2
  go_upto_region 7 with (go_at_call 28; refine (ops_c A n c l _ HN2.out).mono ?_; rintro e w3 ⟨A3, n3, c3, q, rfl, hn3, hO3, hE3⟩)
  have hR3 : Room w w3 [DiskT g 0 (newS rk), ModT gm (newS rk), OpsT A3 n3 c3 q] := hR2'.newOps hE3 hO3
  clear hR2' hO3 hE3
  go_wp2_with fail
  go_loopw [11] (fun t11 wr => ∃ (i : Nat) (s : DS), t11 = .int .i64 i ∧ i ≤ n3 ∧ Room w wr [DiskT g i s, ModT gm s, OpsT A3 n3 c3 q]) (fun t11 _ => n3 - (intOf t11).toNat)
  case atStart => exact ⟨0, _, rfl, Nat.zero_le _, hR3⟩
  case round =>
    clear hR3
    obtain ⟨i, s, rfl, hi, hR⟩ := hrel
    by_cases hlt : i < n3
    · have dlt : decide (i < n3) = true := by simpa using hlt
      obtain ⟨r, p, hA, hp, hpm⟩ := hR.opget (j := 2) rfl hlt
      subst hA
      obtain ⟨c0, c1, c2, c4, c5⟩ := hR.opcells (j := 2) rfl hp
      have HL := Lib.hid (And.intro hlt (show i < 1000000 by omega))
      have HP := Lib.hid (And.intro hp hpm)
      have hil : (i : Int) < (n3 : Int) := by omega
      clear hp hpm
      go_upto_region 11 with (go_at_call 29; refine (hR.do_ (j := 0) (jo := 2) rfl rfl (by decide) HP.out.2 HL.out.2).mono ?_; rintro e w4 ⟨rfl, hR4⟩)
      have hR4' : Room w w4 [DiskT g (i + 1) (opR s p).2, ModT gm s, OpsT (some ⟨r, 0, none⟩) n3 c3 q] := hR4
      clear hR hR4 c0 c1 c2 c4 c5
      obtain ⟨c0, c1, c2, c4, c5⟩ := hR4'.opcells (j := 2) rfl HP.out.1
      go_wp2_with (go_at_call 30; refine (hR4'.mdo (j := 1) (jo := 2) rfl rfl (by decide) HP.out.2).mono ?_; rintro e w5 ⟨rfl, hR5⟩)
      exact ⟨⟨i + 1, (opR s p).2, by go_num, HL.out.1, hR5⟩, by have := HL.out.1; simp only [intOf]; omega⟩
    · have dlt : decide (i < n3) = false := by simpa using hlt
      have HI := Lib.hid (show i ≤ 16 by omega)
      clear hlt
      go_wp2_with fail
      go_ret2
      exact ⟨g, gm, i, s, rfl, HI.out, hR.drop 2⟩
end Go.Proofs.Ythcicfolabngcaa
/- The example of the section. -/
namespace Go.Proofs.Ythcicfolabngcaa
open Go.RowKit

set_option maxHeartbeats 4000000 in
set_option maxRecDepth 100000 in
theorem lives_c (w : World) : Calls Try.prog 19 #[] w (RetK w true) := by
  go_enter Try.func19, Try.ntmps19
  go_upto_region 4 with (go_at_call 11; refine (room_new (Room.nil w) 100 (by decide) (by decide)).mono ?_; rintro e w1 ⟨g, rfl, hR, hE1⟩)
  rw [List.nil_append] at hR
  have hR1 : Room w w1 [DiskT g 0 lv0] := hR
  clear hR
  go_upto_region 5 with (go_at_call 14; refine (hR1.append 0 rfl ((E.refl w1).alloc (.cells #[.int .u8 1, .int .u8 2] 5)) 3 (some ⟨w1.heap.size, 0, none⟩) 2 2 [1, 2] (by decide) (by decide) (newNums w1 .u8 5 [1, 2] (by decide) (by decide)) (apartW.new _ _ _) (by decide)).mono ?_; rintro e w2 ⟨rfl, hR2⟩)
  have hR2' : Room w w2 [DiskT g 1 lv1] := hR2
  clear hR1 hR2
  go_upto_region 6 with (go_at_call 15; refine (hR2'.sync 0 rfl).mono ?_; rintro e w3 ⟨rfl, hR3⟩)
  have hR3' : Room w w3 [DiskT g 1 lv2] := hR3
  clear hR2' hR3
  go_upto_region 7 with (go_at_call 14; refine (hR3'.append 0 rfl ((E.refl w3).alloc (.cells #[.int .u8 255] 5)) 3 (some ⟨w3.heap.size, 0, none⟩) 1 1 [255] (by decide) (by decide) (newNums w3 .u8 5 [255] (by decide) (by decide)) (apartW.new _ _ _) (by decide)).mono ?_; rintro e w4 ⟨rfl, hR4⟩)
  have hR4' : Room w w4 [DiskT g 2 lv3] := hR4
  clear hR3' hR4
  go_upto_region 8 with (go_at_call 25; refine (hR4'.copy 0 rfl (by decide)).mono ?_; rintro e w5 ⟨g2, rfl, hR5, hE5⟩)
  have hR5' : Room w w5 [DiskT g 2 lv3, DiskT g2 2 lv3] := hR5
  clear hR4' hR5
  go_upto_region 9 with (go_at_call 16; refine (hR5'.crash 0 rfl ((E.refl w5).alloc (.cells #[.int .i64 1] 3)) (some ⟨w5.heap.size, 0, none⟩) 1 1 [1] 7 (newNums w5 .i64 3 [1] (by decide) (by decide)) (apartW.new _ _ _) (by decide) (by decide)).mono ?_; rintro e w6 ⟨rfl, hR6⟩)
  have hR6' : Room w w6 [DiskT g 2 lv4, DiskT g2 2 lv3] := hR6
  clear hR5' hR6
  go_upto_region 12 with (go_at_call 16; refine (hR6'.crash 1 rfl (E.refl w6) none 0 0 [] 7 (Nums.nil_ _ _) (apartW.nil _ _) (by decide) (by decide)).mono ?_; rintro e w7 ⟨rfl, hR7⟩)
  have hR7' : Room w w7 [DiskT g 2 lv4, DiskT g2 2 lc4] := hR7
  clear hR6' hR7
  go_upto_region 13 with (go_at_call 17; refine (hR7'.read 0 rfl 3 (by decide) (by decide)).mono ?_; rintro e w8 ⟨⟨A8, n8, c8, rfl, hO8, hE8⟩, _⟩; simp only [lv_d] at hO8 ⊢)
  have hR8 : Room w w8 [DiskT g 2 lv4, DiskT g2 2 lc4, NumsT .u8 A8 n8 c8 [1, 2, 254]] := hR7'.own hE8 hO8
  clear hR7' hO8 hE8
  go_upto_region 14 with (go_at_call 17; refine (hR8.read 1 rfl 3 (by decide) (by decide)).mono ?_; rintro e w9 ⟨⟨A9, n9, c9, rfl, hO9, hE9⟩, _⟩; simp only [lv_c] at hO9 ⊢)
  have hR9 : Room w w9 [DiskT g 2 lv4, DiskT g2 2 lc4, NumsT .u8 A8 n8 c8 [1, 2, 254], NumsT .u8 A9 n9 c9 [1, 2]] := hR8.own hE9 hO9
  clear hR8 hO9 hE9
  go_upto_region 15 with (go_at_call 23; refine (hR9.arm 1 rfl 0 (by decide) (by decide)).mono ?_; rintro e w10 ⟨rfl, hR10⟩)
  have hR10' : Room w w10 [DiskT g 2 lv4, DiskT g2 2 lc5, NumsT .u8 A8 n8 c8 [1, 2, 254], NumsT .u8 A9 n9 c9 [1, 2]] := hR10
  clear hR9 hR10
  go_upto_region 16 with (go_at_call 14; refine (hR10'.append 1 rfl (E.refl w10) 1 none 0 0 [] (by decide) (by decide) (Nums.nil_ _ _) (apartW.nil _ _) (by decide)).mono ?_; rintro e w11 ⟨rfl, hR11⟩; simp only [lv_h])
  have hR11' : Room w w11 [DiskT g 2 lv4, DiskT g2 3 (appR lc5 1 []).2, NumsT .u8 A8 n8 c8 [1, 2, 254], NumsT .u8 A9 n9 c9 [1, 2]] := hR11
  clear hR10' hR11
  go_upto_region 17 with (go_at_call 17; refine (hR11'.read 1 rfl 3 (by decide) (by decide)).mono ?_; rintro e w12 ⟨⟨A12, n12, c12, rfl, _, hE12⟩, hR12⟩; simp only [lv_i])
  have hN8 := hR12.nums 2 rfl
  have hN9 := hR12.nums 3 rfl
  have hE := Lib.hid hR12.e_
  clear hR11' hR12 hE12
  have hC1 := Lib.hid (show Calls Try.prog 18 #[.slice A8 n8 c8, .slice (some ⟨w12.heap.size, 0, none⟩) 3 3] (w12.alloc (.cells #[.int .u8 1, .int .u8 2, .int .u8 254] 5)) (RetK w12 true) from
    (sameBytes_c _ _ _ _ _ _ [1, 2, 254] [1, 2, 254] _ (hN8.e ((E.refl w12).alloc _)) (newNums w12 .u8 5 [1, 2, 254] (by decide) (by decide))).mono fun e wn h => ⟨h.1, by obtain ⟨m, hm⟩ := h.2; rw [hm]; exact ((E.refl w12).alloc _).drewN m⟩)
  have hC2 := Lib.hid (show ∀ wn, E w12 wn → Calls Try.prog 18 #[.slice A9 n9 c9, .slice (some ⟨wn.heap.size, 0, none⟩) 2 2] (wn.alloc (.cells #[.int .u8 1, .int .u8 2] 5)) (RetK w12 true) from
    fun wn hEn => (sameBytes_c _ _ _ _ _ _ [1, 2] [1, 2] _ ((hN9.e hEn).e ((E.refl wn).alloc _)) (newNums wn .u8 5 [1, 2] (by decide) (by decide))).mono fun e wm h => ⟨h.1, by obtain ⟨m, hm⟩ := h.2; rw [hm]; exact hEn.trans (((E.refl wn).alloc _).drewN m)⟩)
  go_wp2_with (first
    | (go_at_call 18; (with_reducible refine hC1.out.mono ?_); rintro e wn ⟨rfl, hEn⟩)
    | (go_at_call 18; (with_reducible refine (hC2.out wn hEn).mono ?_); rintro e wm ⟨rfl, hEm⟩))
  go_ret
  exact ⟨rfl, hE.out.trans hEm⟩
end Go.Proofs.Ythcicfolabngcaa
/- What a crash keeps of every file. -/
namespace Go.Proofs.Ythcicfolabngcaa
open Go.RowKit

/-- what was firm stays; nothing is added -/
def KeepS (s s' : DS) : Prop := ∀ i, s'.firm i = s.firm i ∧ s.firm i ≤ (s'.b i).length ∧ (s'.b i).length ≤ (s.b i).length ∧ (s'.b i).take (s.firm i) = (s.b i).take (s.firm i)
theorem KeepS.refl {s : DS} (h : DOk s) : KeepS s s := fun i => ⟨rfl, h.firm i, Nat.le_refl _, rfl⟩
theorem KeepS.trans {s s' s'' : DS} (h : KeepS s s') (k : KeepS s' s'') : KeepS s s'' := fun i => by
  obtain ⟨a1, a2, a3, a4⟩ := h i
  obtain ⟨b1, b2, b3, b4⟩ := k i
  rw [a1] at b1 b2 b4
  exact ⟨b1, b2, Nat.le_trans b3 a3, b4.trans a4⟩
theorem KeepS.cut {s : DS} (h : DOk s) (x : Int) (k : Nat) : KeepS s (cutS s x (s.firm x + k)) := fun i => by
  have hf := h.firm i
  by_cases e : i = x
  · subst e
    simp only [cutS, upd_same]
    refine ⟨by omega, by rw [List.length_take]; omega, by rw [List.length_take]; omega, ?_⟩
    rw [List.take_take, Nat.min_eq_left (by omega)]
  · simp only [cutS, upd_other _ _ e]
    exact ⟨trivial, hf, Nat.le_refl _, trivial⟩
theorem KeepS.lose {keep : List Int} : ∀ (l : List Int) (j n : Nat) {s : DS}, DOk s → KeepS s (loseF keep l j (s, n)).1
  | [], _, _, _, h => KeepS.refl h
  | x :: r, j, _, s, h => (KeepS.cut h x (keptF s keep j x)).trans (KeepS.lose r (j + 1) _ (h.cut x _))
theorem KeepS.put {s : DS} (h : DOk s) (x : Int) (j : Nat) (v : Int) (hj : s.firm x ≤ j) : KeepS s (putS s x j v) := fun i => by
  refine ⟨rfl, by rw [putS_len]; exact h.firm i, by rw [putS_len]; exact Nat.le_refl _, ?_⟩
  simp only [putS]
  by_cases e : i = x
  · rw [e, upd_same, List.take_set_of_le hj]
  · rw [upd_other _ _ e]
theorem KeepS.invert : ∀ (l : List Int) (bit : Nat) {s : DS}, DOk s → KeepS s (invertF s l bit)
  | [], _, _, h => KeepS.refl h
  | i :: r, bit, s, h => by
    by_cases e : bit < 8 * ((s.b i).length - s.firm i)
    · rw [invertF_here e]
      exact KeepS.put h i _ _ (Nat.le_add_right _ _)
    · rw [invertF_next e]
      exact KeepS.invert r _ h
/-- a crash keeps what was firm -/
theorem crash_keep {s : DS} (h : DOk s) (keep : List Int) (flip : Int) (i : Int) :
    s.firm i ≤ ((crashS s keep flip).b i).length ∧ ((crashS s keep flip).b i).length ≤ (s.b i).length ∧ ((crashS s keep flip).b i).take (s.firm i) = (s.b i).take (s.firm i) := by
  have h1 : KeepS s (loseF keep (liveI s.b) 0 (s, 0)).1 := KeepS.lose _ _ _ h
  have ok1 := DOk.lose (keep := keep) (liveI s.b) 0 0 h
  obtain ⟨s1, n1, e⟩ : ∃ s1 n1, loseF keep (liveI s.b) 0 (s, 0) = (s1, n1) := ⟨_, _, rfl⟩
  rw [e] at h1 ok1
  rw [crash_of e]
  have h2 : KeepS s (if 0 ≤ flip ∧ 0 < n1 then invertF s1 (liveI s1.b) (flip % (8 * n1 : Nat)).toNat else s1) := by
    split
    · exact h1.trans (KeepS.invert _ _ ok1)
    · exact h1
  exact (h2 i).2
theorem crash_off (s : DS) (keep : List Int) (flip : Int) : (crashS s keep flip).off = false := rfl
/-- all that was firm is there -/
theorem crash_firm {s : DS} (h : DOk s) (keep : List Int) (flip : Int) (i : Int) (hf : s.firm i = (s.b i).length) : (crashS s keep flip).b i = s.b i := by
  obtain ⟨h1, h2, h3⟩ := crash_keep h keep flip i
  rw [hf] at h1 h3
  rw [List.take_length, List.take_of_length_le h2] at h3
  exact h3
/-- bytes have been appended to what was firm -/
structure MoreS (s s3 : DS) : Prop where
  off : s3.off = false
  plan : s3.plan = -1
  ok : DOk s3
  firm : ∀ i, s3.firm i = (s.b i).length
  pre : ∀ i, s.b i <+: s3.b i
theorem MoreS.zero {s : DS} (h : DOk s) (ho : s.off = false) : MoreS s (syncR (armS s (-1))).2 ∧ (syncR (armS s (-1))).1 = 0 ∧ (syncR (armS s (-1))).2.b = s.b := by
  have ha : armS s (-1) = { s with plan := -1 } := by unfold armS; rw [if_neg (by rw [ho]; decide)]; rfl
  have hst : stepS (armS s (-1)) = armS s (-1) := by unfold stepS; rw [if_pos (by rw [ha]; show (-1 : Int) < 0; decide)]
  have hoff : (armS s (-1)).off = false := by rw [ha]; exact ho
  have hs : syncR (armS s (-1)) = (0, firmS (armS s (-1))) := by
    unfold syncR
    rw [if_neg (by rw [hoff]; decide), hst, if_neg (by rw [hoff]; decide)]
  have hb : (armS s (-1)).b = s.b := by rw [ha]
  rw [hs]
  refine ⟨⟨hoff, by show (armS s (-1)).plan = -1; rw [ha], (h.arm (by decide)).firmed, fun i => by show ((armS s (-1)).b i).length = _; rw [hb], fun i => by show s.b i <+: (armS s (-1)).b i; rw [hb]; exact List.prefix_refl _⟩, rfl, hb⟩
theorem MoreS.app {s s3 : DS} (h : MoreS s s3) (f : Int) (l : List Int) : MoreS s (appR s3 f l).2 := by
  have hst : stepS s3 = s3 := by unfold stepS; rw [if_pos (by rw [h.plan]; decide)]
  unfold appR
  split
  · exact h
  · rename_i hf
    split
    · exact h
    · split
      · exact h
      · rename_i hfit
        rw [hst]
        have hf' : isF f = true := by simpa using hf
        refine ⟨h.off, h.plan, h.ok.app hf' (by omega), h.firm, fun i => ?_⟩
        simp only [appS]
        by_cases e : i = f
        · rw [e, upd_same]; exact (h.pre f).trans (List.prefix_append _ _)
        · rw [upd_other _ _ e]; exact h.pre i
/-- after the crash -/
theorem MoreS.after {s s3 : DS} (h : MoreS s s3) (keep : List Int) (flip : Int) (i : Int) :
    (s.b i).length ≤ ((crashS s3 keep flip).b i).length ∧ ((crashS s3 keep flip).b i).length ≤ (s3.b i).length ∧ ((crashS s3 keep flip).b i).take (s.b i).length = s.b i := by
  obtain ⟨h1, h2, h3⟩ := crash_keep h.ok keep flip i
  rw [h.firm i] at h1 h3
  refine ⟨h1, h2, h3.trans ?_⟩
  obtain ⟨t, ht⟩ := h.pre i
  rw [← ht, List.take_left']
  rfl
end Go.Proofs.Ythcicfolabngcaa
/- ref01.Ints. -/
namespace Go.Proofs.Ythcicfolabngcaa
open Go.RowKit

theorem Nums.takeI {k : IntKind} {w : World} {A : Option Addr} {n c : Nat} {l : List Int} (h : Nums k w A n c l) (m : Nat) (hm : m ≤ n) : Nums k w A m c (l.take m) :=
  ⟨by rw [List.length_take, h.len]; omega, Nat.le_trans hm h.cap, h.mx, fun x hx => h.wf x (List.mem_of_mem_take hx), fun h0 => by
    obtain ⟨b, o, e, hb, hc⟩ := h.at_ (by omega)
    refine ⟨b, o, e, hb, fun i hi => ?_⟩
    rw [List.getElem_take]
    exact hc i (by rw [List.length_take] at hi; omega)⟩
set_option maxHeartbeats 1000000 in
theorem intsN_c (m : Nat) (hm0 : m ≤ 1000000) (A : Option Addr) (n c : Nat) (l : List Int) (w : World) (h : Nums .i64 w A n c l) :
    Calls Try.prog 26 #[.slice A n c, .int .i64 m] w (RetOwn .i64 3 w (l.take m)) := by
  have hm := h.n63
  have HM := Lib.hid hm0
  have hmI : (m : Int) ≤ 1000000 := by omega
  have hcap := h.cap
  have hc63 := h.c63
  obtain ⟨k, hk⟩ : ∃ k : Nat, min n m = k := ⟨_, rfl⟩
  have hkn : k ≤ n := by omega
  have hkm : k ≤ m := by omega
  have hmin : min (n : Int) (m : Int) = (k : Int) := by omega
  have HT := Lib.hid (show l.take k = l.take m by
    rw [← hk, ← h.len]
    rcases Nat.le_total l.length m with h1 | h1
    · rw [Nat.min_eq_left h1, List.take_of_length_le (Nat.le_refl _), List.take_of_length_le h1]
    · rw [Nat.min_eq_right h1])
  have hT := h.takeI k hkn
  clear hk hm0
  have hkc : (k : Int) ≤ (c : Int) := by omega
  go_enter Try.func26, Try.ntmps26
  go_wp2_with (at_builtin; refine wpList_appN intT _ rfl _ _ rfl w.heap.size _ _ _ [] rfl (Own.nil _ _ _ _) _ _ _ (l.take k) rfl hT (by have := HM.out; omega) (Nat.le_refl _) ?_; intro A' c' w1 hO hG hB)
  go_ret
  exact RetOwn.mk_ HT.out.symm (by simpa using hO) hB
end Go.Proofs.Ythcicfolabngcaa
/- What DiskBags leaves on the disk: plain. -/
namespace Go.Proofs.Ythcicfolabngcaa
open Go.RowKit

/-- the power is on, nothing is planned, u bytes lie there -/
structure FreeS (u : Nat) (s : DS) : Prop where
  off : s.off = false
  plan : s.plan = -1
  room : s.room = 20000
  used : usedF s.b = u
theorem FreeS.zero : FreeS 0 (newS 20000) := ⟨rfl, rfl, rfl, usedF_nil⟩
theorem FreeS.app {u : Nat} {s : DS} (h : FreeS u s) {f : Int} (hf : isF f = true) (l : List Int) (hl : u + l.length ≤ 20000) : (appR s f l).2 = appS s f l ∧ FreeS (u + l.length) (appS s f l) := by
  have hst : stepS s = s := by unfold stepS; rw [if_pos (by rw [h.plan]; decide)]
  refine ⟨?_, h.off, h.plan, h.room, ?_⟩
  · unfold appR
    rw [if_neg (by rw [hf]; decide), if_neg (by rw [h.off]; decide), if_neg (by rw [h.room, h.used]; omega), hst]
  · have := usedF_upd s.b (s.b f ++ l) hf
    rw [List.length_append, h.used] at this
    simp only [appS]
    omega
theorem FreeS.sync {u : Nat} {s : DS} (h : FreeS u s) : (syncR s).2 = firmS s ∧ FreeS u (firmS s) := by
  have hst : stepS s = s := by unfold stepS; rw [if_pos (by rw [h.plan]; decide)]
  refine ⟨?_, h.off, h.plan, h.room, h.used⟩
  unfold syncR
  rw [if_neg (by rw [h.off]; decide), hst, if_neg (by rw [h.off]; decide)]
/-- the disk after i files have been written, in two parts each -/
def stB (p q : List Int) : Nat → DS
  | 0 => newS 20000
  | i + 1 => (appR (appR (stB p q i) (5 + i) p).2 (5 + i) q).2
theorem stB_2 (p q : List Int) (h : p.length + q.length ≤ 4000) : FreeS (2 * (p.length + q.length)) (stB p q 2) ∧ (stB p q 2).b 5 = p ++ q ∧ (stB p q 2).b 6 = p ++ q := by
  obtain ⟨e1, h1⟩ := FreeS.zero.app (f := 5) (by decide) p (by omega)
  obtain ⟨e2, h2⟩ := h1.app (f := 5) (by decide) q (by omega)
  obtain ⟨e3, h3⟩ := h2.app (f := 6) (by decide) p (by omega)
  obtain ⟨e4, h4⟩ := h3.app (f := 6) (by decide) q (by omega)
  have hs : stB p q 2 = appS (appS (appS (appS (newS 20000) 5 p) 5 q) 6 p) 6 q := by
    show (appR (appR (appR (appR (newS 20000) 5 p).2 5 q).2 6 p).2 6 q).2 = _
    rw [e1, e2, e3, e4]
  rw [hs]
  refine ⟨?_, ?_, ?_⟩
  · have := h4
    rw [show 0 + p.length + q.length + p.length + q.length = 2 * (p.length + q.length) by omega] at this
    exact this
  · simp [appS, newS, upd]
  · simp [appS, newS, upd]
/-- and after the crash -/
theorem bags_left {p q : List Int} {s4 : DS} (h : p.length + q.length ≤ 4000) (hs4 : s4 = stB p q 2) (kp : List Int) (flip : Int) (ok : DOk (appR (appR (syncR s4).2 6 [9, 9, 9]).2 8 [1]).2) :
    (crashS (appR (appR (syncR s4).2 6 [9, 9, 9]).2 8 [1]).2 kp flip).b 5 = p ++ q ∧ (∃ t, (crashS (appR (appR (syncR s4).2 6 [9, 9, 9]).2 8 [1]).2 kp flip).b 6 = p ++ q ++ t ∧ t.length ≤ 3) := by
  obtain ⟨h1, b5, b6⟩ := stB_2 p q h
  rw [← hs4] at h1 b5 b6
  obtain ⟨e2, h2⟩ := h1.sync
  rw [e2] at ok ⊢
  obtain ⟨e3, h3⟩ := h2.app (f := 6) (by decide) [9, 9, 9] (by simp; omega)
  rw [e3] at ok ⊢
  obtain ⟨e4, h4⟩ := h3.app (f := 8) (by decide) [1] (by simp; omega)
  rw [e4] at ok ⊢
  have c5 : (appS (appS (firmS s4) 6 [9, 9, 9]) 8 [1]).b 5 = p ++ q := by simp [appS, firmS, upd, b5]
  have c6 : (appS (appS (firmS s4) 6 [9, 9, 9]) 8 [1]).b 6 = p ++ q ++ [9, 9, 9] := by simp [appS, firmS, upd, b6]
  have f5 : (appS (appS (firmS s4) 6 [9, 9, 9]) 8 [1]).firm 5 = (p ++ q).length := by simp [appS, firmS, b5]
  have f6 : (appS (appS (firmS s4) 6 [9, 9, 9]) 8 [1]).firm 6 = (p ++ q).length := by simp [appS, firmS, b6]
  refine ⟨?_, ?_⟩
  · rw [crash_firm ok kp flip 5 (by rw [f5, c5]), c5]
  · obtain ⟨k1, k2, k3⟩ := crash_keep ok kp flip 6
    rw [f6, c6] at k3
    rw [c6] at k2
    rw [List.take_left' rfl] at k3
    refine ⟨((crashS (appS (appS (firmS s4) 6 [9, 9, 9]) 8 [1]) kp flip).b 6).drop (p ++ q).length, ?_, ?_⟩
    · conv => lhs; rw [← List.take_append_drop (p ++ q).length ((crashS (appS (appS (firmS s4) 6 [9, 9, 9]) 8 [1]) kp flip).b 6), k3]
    · rw [List.length_drop]
      simp only [List.length_append, List.length_cons, List.length_nil] at k2 ⊢
      omega
theorem enc_small {l : List Int} (h6 : l.length ≤ 6) : (encodeS l).length ≤ 140 := by
  unfold encodeS
  split
  · rename_i h
    have h2 := amF_len l 0
    have ha : amountsS l = amF 0 l := by simp [amountsS, h]
    have hr : ∀ x ∈ amountsS l, (Lit.int .i64 x.1).wf = true ∧ (Lit.int .i64 x.2).wf = true := by
      intro x hx
      have hv := (lists_facts h).2
      simp only [validS, Bool.and_eq_true] at hv
      have := (List.all_eq_true.1 (properF_amF hv.2)) x hx
      simp only [properB, Bool.and_eq_true, decide_eq_true_eq] at this
      exact ⟨wf_of_i64 (by omega) (by omega), wf_of_i64 (by omega) (by omega)⟩
    have h3 := encF_len _ hr
    have h4 := uv_len10 (zig_lt (l.length : Int) (by omega) (by omega))
    have h5 := uv_len10 (zig_lt ((amountsS l).length : Int) (by omega) (by rw [ha]; omega))
    rw [ha] at h3 h5
    simp only [List.length_append, ha]; omega
  · simp
end Go.Proofs.Ythcicfolabngcaa
/- Raw of the writer and of the reader. -/
namespace Go.Proofs.Ythcicfolabngcaa
open Go.RowKit

/-- a writer in block g: its row, and what it holds -/
structure WrX (w : World) (g : Nat) (A : Option Addr) (n c : Nat) (l : List Int) : Prop where
  hd : w.heap[g]? = some (.cells #[.slice A n c] 66 (0, 0))
  own : Own .u8 5 w 0 A n c l
/-- the row that is there now is that of w, or a new one -/
def rowOf (w : World) (A A' : Option Addr) : Prop := ob A' = ob A ∨ ∀ b, ob A' = some b → w.heap.size ≤ b
def YX (g : Nat) (A : Option Addr) (j : Nat) : Prop := j = g ∨ ob A = some j
theorem WrX.cell {w : World} {g : Nat} {A : Option Addr} {n c : Nat} {l : List Int} (h : WrX w g A n c l) : w.cell? ⟨g, 0, none⟩ = some (.slice A n c) ∧ w.frozen? ⟨g, 0, none⟩ = false := ⟨cell_of_row _ _ _ _ _ _ h.hd, frozen_of_row _ _ _ _ _ h.hd⟩
theorem WrX.wr {w : World} {g : Nat} {A : Option Addr} {n c : Nat} {l : List Int} (h : WrX w g A n c l) : Wr w 0 g l := ⟨Nat.zero_le _, A, n, c, h.hd, h.own⟩
/-- the row has been appended to, and is stored -/
theorem wrx_app {w0 w w1 : World} {g n c n' c' : Nat} {l l' : List Int} {A0 A A' : Option Addr} (hW : WrX w g A n c l) (hA : rowOf w0 A0 A) (hE : Ex (YX g A0) w0 w) (hO : Own .u8 5 w1 0 A' n' c' l') (hG : w.grownBy w1 (ob A)) (hb : ob A' = ob A ∨ ∀ b, ob A' = some b → w.heap.size ≤ b) :
    w1.cell? ⟨g, 0, none⟩ = some (.slice A n c) ∧ w1.frozen? ⟨g, 0, none⟩ = false ∧ WrX (w1.setCell ⟨g, 0, none⟩ (.slice A' n' c')) g A' n' c' l' ∧ rowOf w0 A0 A' ∧ Ex (YX g A0) w0 (w1.setCell ⟨g, 0, none⟩ (.slice A' n' c')) := by
  have hne : ob A ≠ some g := hW.own.neq_ hW.hd (by decide)
  have hg1 : w1.heap[g]? = some (.cells #[.slice A n c] 66 (0, 0)) := (hG.block g (lt_blk hW.hd) (fun e => hne e.symm)).trans hW.hd
  have hne1 : ob A' ≠ some g := hO.neq_ hg1 (by decide)
  refine ⟨cell_of_row _ _ _ _ _ _ hg1, frozen_of_row _ _ _ _ _ hg1, ⟨by rw [heap_setCell_same _ _ _ _ _ _ hg1]; rfl, hO.same fun b hb' => Below.heap_setCell _ _ _ _ (fun e => hne1 (by have e' : b = g := e; rw [← e']; exact hb'))⟩, ?_, (hE.grown hG (fun k hk => ?_)).setCell ⟨g, 0, none⟩ (.inr (.inl rfl)) _⟩
  · rcases hb with e | e
    · unfold rowOf; rw [e]; exact hA
    · exact .inr fun b hb' => Nat.le_trans hE.size (e b hb')
  · rcases hA with e | e
    · exact .inr (.inr (by rw [← e]; exact hk))
    · exact .inl (e k hk)
def RetWX (w : World) (g : Nat) (A0 : Option Addr) (l : List Int) (e : Ending) (w' : World) : Prop := e = .returned (.tuple #[]) ∧ ∃ A n c, WrX w' g A n c l ∧ rowOf w A0 A ∧ Ex (YX g A0) w w'
set_option maxHeartbeats 1000000 in
theorem xUint_c (v g : Nat) (A0 : Option Addr) (n0 c0 : Nat) (l : List Int) (w : World) (hW : WrX w g A0 n0 c0 l) (hv : v < 18446744073709551616) (hl : l.length ≤ 549755813888) :
    Calls Try.prog 59 #[.pointer (some ⟨g, 0, none⟩), .int .u64 v] w (RetWX w g A0 (l ++ uv v)) := by
  have hu := uv_len10 hv
  have HV := Lib.hid hv
  clear hv
  go_enter Try.func59, Try.ntmps59
  go_wp2
  go_loopw [1] (fun t wr => ∃ (v' : Nat) (l' : List Int) (A : Option Addr) (n c : Nat), t = .int .u64 v' ∧ Hid (v' < 18446744073709551616) ∧ WrX wr g A n c l' ∧ rowOf w A0 A ∧ Ex (YX g A0) w wr ∧ Hid (l' ++ uv v' = l ++ uv v)) (fun t _ => (intOf t).toNat)
  case atStart => exact ⟨v, l, A0, n0, c0, rfl, HV.out, hW, .inl rfl, Ex.refl _ _, rfl⟩
  case round =>
    clear hW
    obtain ⟨v', l', A, n, c, rfl, hv', hW, hA, hE, hs⟩ := hrel
    have hn : n ≤ 549755813900 := by
      have := congrArg List.length hs.out
      simp only [List.length_append] at this
      rw [hW.own.1] at this; omega
    have hc0 := hW.cell.1
    have HW := Lib.hid hW
    have HA := Lib.hid hA
    have HE := Lib.hid hE
    clear hW hA hE
    have e1 : bits .or .u8 ((v' : Int) % 256) 128 = (((v' % 128 + 128 : Nat) : Int)) := by rw [or128 _ (by omega) (by omega)]; omega
    have E1 := Lib.hid e1
    clear e1
    by_cases h128 : 128 ≤ (v' : Int)
    · have HU := Lib.hid (uv_big (n := v') (by omega))
      go_wp2_with (at_builtin; rw [E1.out]; refine wpList_app1n byteT _ rfl _ _ rfl 0 _ _ _ _ rfl HW.out.own _ rfl (WalkArith.wf_u8 (by omega)) (by omega) (Nat.zero_le _) ?_; intro g' c2 w1 hO1 hG hB1 hor; rw [ob_eq] at hG hor; obtain ⟨hc1, hf1, hW1, hA1, hE1⟩ := wrx_app HW.out HA.out HE.out hO1 hG (hor.imp (fun e => e.symm) (fun h b hb => (by have : g' = b := (by simpa [ob] using hb); omega))))
      go_roundw
      case rel => exact ⟨v' / 128, _, _, _, _, by go_num, show v' / 128 < 18446744073709551616 by have := hv'.out; omega, hW1, hA1, hE1, show _ = _ by rw [← hs.out, HU.out]; simp⟩
      case measure => simp [intOf]; omega
    · have HU := Lib.hid (uv_small (n := v') (by omega))
      go_wp2_with (at_builtin; refine wpList_app1n byteT _ rfl _ _ rfl 0 _ _ _ _ rfl HW.out.own _ rfl (WalkArith.wf_u8 (by omega)) (by omega) (Nat.zero_le _) ?_; intro g' c2 w1 hO1 hG hB1 hor; rw [ob_eq] at hG hor; obtain ⟨hc1, hf1, hW1, hA1, hE1⟩ := wrx_app HW.out HA.out HE.out hO1 hG (hor.imp (fun e => e.symm) (fun h b hb => (by have : g' = b := (by simpa [ob] using hb); omega))))
      go_end0
      rw [show l' ++ [(v' : Int)] = l ++ uv v by rw [← hs.out, HU.out]] at hW1
      exact ⟨rfl, _, _, _, hW1, hA1, hE1⟩
set_option maxHeartbeats 1000000 in
theorem xRaw_c (g : Nat) (A0 : Option Addr) (n0 c0 : Nat) (l : List Int) (B : Option Addr) (nb cb : Nat) (bl : List Int) (w : World) (hW : WrX w g A0 n0 c0 l) (hN : Nums .u8 w B nb cb bl) (hB : 0 < nb → ob B ≠ ob A0 ∧ ob B ≠ some g) (hl : l.length ≤ 1000000) (hn : nb ≤ 1000000) :
    Calls Try.prog 34 #[.pointer (some ⟨g, 0, none⟩), .slice B nb cb] w (RetWX w g A0 (l ++ uv nb ++ bl)) := by
  have HU := Lib.hid (xUint_c nb g A0 n0 c0 l w hW (by omega) (by omega))
  have HN := Lib.hid hN
  have HB := Lib.hid hB
  have HL := Lib.hid hl
  clear hW hN hB hl
  go_enter Try.func34, Try.ntmps34
  go_upto_region 1 with (go_at_call 59; refine HU.out.mono ?_; rintro e w1 ⟨rfl, A1, n1, c1, hW1, hA1, hE1⟩)
  have HW := Lib.hid hW1
  have HA := Lib.hid hA1
  have HE := Lib.hid hE1
  have HN1 := Lib.hid (HN.out.ex hE1 fun h b hb hy => by
    rcases hy with rfl | hy
    · exact (HB.out h).2 hb
    · exact (HB.out h).1 (hb.trans hy.symm))
  have HT := Lib.hid (show n1 + nb ≤ 1099511627776 by
    have h1 := HW.out.own.1
    have h2 := uv_len10 (n := nb) (by omega)
    have h3 := HL.out
    rw [List.length_append] at h1
    omega)
  have hc0 := HW.out.cell.1
  clear hW1 hA1 hE1
  go_wp2_with (at_builtin; refine wpList_appF byteT w1 rfl _ _ rfl A1 n1 c1 _ rfl HW.out.own B nb cb bl rfl HN1.out HT.out ?_; intro A2 c2 w2 hO2 hG2 hb2; obtain ⟨hc1, hf1, hW2, hA2, hE2⟩ := wrx_app HW.out HA.out HE.out hO2 hG2 (hb2.imp id (fun e b hb => (by rw [e] at hb; injection hb with hb; omega))))
  go_end0
  exact ⟨rfl, _, _, _, hW2, hA2, hE2⟩
theorem WrX.new (w : World) : WrX (w.alloc (.cells #[.slice none 0 0] 66)) w.heap.size none 0 0 [] := ⟨heap_alloc_new w _, Own.nil _ _ _ _⟩
theorem WrX.e {w w' : World} {g : Nat} {A : Option Addr} {n c : Nat} {l : List Int} (h : WrX w g A n c l) (hE : E w w') : WrX w' g A n c l := ⟨(hE.block (lt_blk h.hd)).trans h.hd, h.own.e hE⟩
/-- what stays of a world in which the writer is a new one -/
theorem yx_e {w0 w w' : World} {g : Nat} {A : Option Addr} (h : E w0 w) (hE : Ex (YX g A) w w') (hg : w0.heap.size ≤ g) (hA : ∀ b, ob A = some b → w0.heap.size ≤ b) : E w0 w' :=
  ⟨hE.os.trans h.os, hE.tape.trans h.tape, hE.output.trans h.output, Nat.le_trans h.le hE.size, fun i hi => (hE.block i (Nat.lt_of_lt_of_le hi h.le) (fun y => by
    rcases y with y | y
    · omega
    · have := hA i y; omega)).trans (h.block hi)⟩

theorem rdUS_uv8 (v : Nat) (r : List Int) (hv : v < 18446744073709551616) : rdUS (uv v ++ r) 0 = ((v : Int), r, 0) := by
  have := rdU_uv v 0 0 r (by omega) (fun h => absurd h (by omega)) (by simpa using hv)
  simp [rdUS, this]
def RetRaw (w : World) (g : Nat) (l rest : List Int) (e : Ending) (w' : World) : Prop := ∃ A n c, e = .returned (.slice A n c) ∧ Own .u8 5 w' w.heap.size A n c l ∧ Rd w' g rest 0 ∧ w.grownBy w' (some g)
theorem Rd.belowX {w w' : World} {base g : Nat} {rest : List Int} {err : Int} (h : Rd w g rest err) (hB : Below base w w') (hg : g < base) : Rd w' g rest err := by
  obtain ⟨A, n, c, h1, hN, hb⟩ := h
  refine ⟨A, n, c, by rw [hB.block g hg]; exact h1, ⟨hN.len, hN.cap, hN.mx, hN.wf, fun hn => ?_⟩, hb⟩
  obtain ⟨b, o, e, h2, h3⟩ := hN.at_ hn
  have hbg := hb b o e hn
  exact ⟨b, o, e, Nat.lt_of_lt_of_le h2 hB.size, fun i hi => (hB.cell (p := ⟨b, o + i, none⟩) (by show b < base; omega)).trans (h3 i hi)⟩
theorem Rd.ltX {w : World} {g : Nat} {rest : List Int} {err : Int} (h : Rd w g rest err) : g < w.heap.size := by
  obtain ⟨A, n, c, h1, _⟩ := h
  exact lt_blk h1
theorem grown_belowX {w w2 w3 : World} {r : Option Nat} (h : w.grownBy w2 r) (hB : Below w.heap.size w2 w3) : w.grownBy w3 r :=
  ⟨hB.os.trans h.os, hB.tape.trans h.tape, hB.output.trans h.output, Nat.le_trans h.size hB.size, fun i hi hne => (hB.block i hi).trans (h.block i hi hne)⟩
theorem Own.rdX {w w' : World} {base g : Nat} {A : Option Addr} {n c : Nat} {l rest : List Int} {err : Int} (h : Own .u8 5 w base A n c l) (hR : Rd w g rest err) (hG : w.grownBy w' (some g)) : Own .u8 5 w' base A n c l := by
  obtain ⟨A', n', c', h1, _⟩ := hR
  exact ⟨h.1, World.ownsRow.kept h.2.1 hG (.inr (fun e => h.apart h1 (by decide) (by first | exact e | exact e.symm))), h.2.2⟩
set_option maxRecDepth 100000 in
set_option maxHeartbeats 2000000 in
theorem blist_c (g : Nat) (l rest : List Int) (w : World) (h : Rd w g (uv l.length ++ l ++ rest) 0) (hn : l.length ≤ 1000000) :
    Calls Try.prog 70 #[.pointer (some ⟨g, 0, none⟩), .func (.func 71) #[.pointer (some ⟨g, 0, none⟩)] #[]] w (RetRaw w g l rest) := by
  have hcall := Try.call71
  obtain ⟨m, hm⟩ : ∃ m, l.length = m := ⟨_, rfl⟩
  rw [hm] at hn
  have HU := Lib.hid (show rdUS (uv l.length ++ l ++ rest) 0 = ((m : Int), l ++ rest, 0) by rw [hm, List.append_assoc]; exact rdUS_uv8 _ _ (by omega))
  have HM := Lib.hid hm
  have hwl : ∀ x ∈ l, (Lit.int .u8 x).wf = true := by
    obtain ⟨A, n, c, _, hN, _⟩ := h
    exact fun x hx => hN.wf x (by simp [hx])
  have HL := Lib.hid hwl
  clear hm hwl
  go_enter Try.func70, Try.ntmps70
  go_wp2_with fail
  refine (rUint_c _ _ _ _ h).mono ?_
  rintro e w1 ⟨rfl, hR1, hG1⟩
  rw [HU.out] at hR1 ⊢
  obtain ⟨A1, n1, c1, hg1, hN1, hbd1⟩ := hR1
  have hc0 : w1.cell? ⟨g, 0, none⟩ = some (.slice A1 n1 c1) := by rw [cell_of_row _ _ _ _ _ _ hg1]; rfl
  have hc1 : w1.cell? ⟨g, 1, none⟩ = some (.int .i64 0) := by rw [cell_of_row _ _ _ _ _ _ hg1]; rfl
  have hmn : (m : Int) ≤ (n1 : Int) := by have := hN1.len; have := HM.out; simp only [List.length_append] at *; omega
  have hn63 := hN1.n63
  have HR1 : Rd w1 g (l ++ rest) 0 := ⟨A1, n1, c1, hg1, hN1, hbd1⟩
  obtain ⟨w2, hmk, hO2, hE2, hz2⟩ := mk_run byteT w1 .i64 .i64 (m : Int) (by omega) (by omega)
  rw [Int.toNat_natCast] at hmk hO2
  have hmd : decide (n1 < m) = false := by simp; omega
  clear hg1 hN1 hbd1
  go_wp2_with fail
  have hgw := h.ltX
  have hO2' := hO2.lowTo (b' := w.heap.size) hG1.size
  have hR2 : Rd w2 g (l ++ rest) 0 := HR1.belowX hE2 HR1.ltX
  have hG2 : w.grownBy w2 (some g) := grown_belowX hG1 (Below.mono hE2 hG1.size)
  clear hc0 hc1 HR1 hG1 hO2 hE2 hz2 h hmk
  go_loopw [6, 30] (fun t6 ti wr => ∃ (k c : Nat) (A : Option Addr), k ≤ m ∧ ti = .int .i64 k ∧ t6 = .slice A k c ∧ Own .u8 5 wr w.heap.size A k c (l.take k) ∧ Rd wr g (l.drop k ++ rest) 0 ∧ w.grownBy wr (some g)) (fun _ ti _ => m - (intOf ti).toNat)
  case atStart => exact ⟨0, m, _, Nat.zero_le _, rfl, rfl, hO2', hR2, hG2⟩
  case round =>
    clear hO2' hR2 hG2
    obtain ⟨k, c, A, hk, rfl, rfl, hO, hR, hG⟩ := hrel
    have hbase : w.heap.size ≤ wr.heap.size := hG.size
    by_cases hkm : (k : Int) < (m : Int)
    · obtain ⟨x, hx⟩ : ∃ x, l[k]? = some x := ⟨l[k]'(by rw [HM.out]; omega), List.getElem?_eq_getElem (by rw [HM.out]; omega)⟩
      have hwx := HL.out x (List.mem_of_getElem? hx)
      have HD := Lib.hid (drop_at hx)
      have HT := Lib.hid (show l.take (k + 1) = l.take k ++ [x] by rw [List.take_add_one, hx]; rfl)
      have HI := Lib.hid (show octS (l.drop k ++ rest) 0 = (x, l.drop (k + 1) ++ rest, 0) by
        rw [HD.out]; simp [octS])
      clear hx
      go_wp2_with fail
      refine (octet_c _ _ _ _ hR).mono ?_
      rintro e w3 ⟨rfl, hR3, hG3⟩
      rw [HI.out] at hR3 ⊢
      have hO3 := hO.rdX hR hG3
      have hG03 := grownBy_trans hG hG3
      have hb3 : w.heap.size ≤ w3.heap.size := hG03.size
      clear hO hR hG hG3
      go_wp2_with (at_builtin; refine wpList_app1n byteT _ rfl _ _ rfl _ _ _ _ _ rfl hO3 _ rfl hwx (by omega) hb3 ?_; intro g' c2 w4 hO4 hG4 hB4 hor; have hR4 := hR3.belowX hB4 hgw; have hc4 := hR4.cells.1)
      go_roundw
      case rel => exact ⟨k + 1, c2, _, by omega, by go_num, rfl, by rw [HT.out]; exact hO4, hR4, grown_belowX hG03 hB4⟩
      case measure => simp [intOf]; omega
    · have hkm' : m = k := by omega
      have HE := Lib.hid hkm'
      clear hkm'
      go_wp2_with fail
      go_ret
      have e1 : l.take k = l := List.take_of_length_le (by rw [HM.out, HE.out]; omega)
      have e2 : l.drop k = [] := List.drop_eq_nil_of_le (by rw [HM.out, HE.out]; omega)
      rw [e1] at hO
      rw [e2] at hR
      exact ⟨A, k, c, rfl, hO, hR, hG⟩
set_option maxHeartbeats 1000000 in
theorem rRaw_c (g : Nat) (l rest : List Int) (w : World) (h : Rd w g (uv l.length ++ l ++ rest) 0) (hn : l.length ≤ 1000000) :
    Calls Try.prog 40 #[.pointer (some ⟨g, 0, none⟩)] w (RetRaw w g l rest) := by
  go_enter Try.func40, Try.ntmps40
  go_wp2_with fail
  refine (blist_c _ l rest _ h hn).mono ?_
  rintro e w1 ⟨A1, n1, c1, rfl, hO1, hR1, hG1⟩
  go_wp2_with fail
  go_ret
  exact ⟨A1, n1, c1, rfl, hO1, hR1, hG1⟩
end Go.Proofs.Ythcicfolabngcaa
