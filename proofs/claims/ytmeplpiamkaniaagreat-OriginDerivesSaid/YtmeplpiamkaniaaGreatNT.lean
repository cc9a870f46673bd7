/- Lemmas of the claim, joined: SB GDa GDb GO GDr. No condition. -/
import Derived.Maps.Own
import Derived.Maps.Views
import Derived.Maps.OwnOps
import Derived.Test.YtmeplpiamkaniaaGreatChecked
import Derived.Test.YtmeplpiamkaniaaGreatNA
import Derived.Test.YtmeplpiamkaniaaGreatNE
import Derived.Test.YtmeplpiamkaniaaGreatNK
import Derived.Test.YtmeplpiamkaniaaGreatNF
import Derived.Test.YtmeplpiamkaniaaGreatNH
import Derived.Test.YtmeplpiamkaniaaGreatNB
import Derived.Test.YtmeplpiamkaniaaGreatNG
import Derived.Test.YtmeplpiamkaniaaGreatNR
namespace Go.Proofs.YtmeplpiamkaniaaGreat
set_option linter.unusedVariables false
set_option linter.unusedSimpArgs false
open Go.RowKit
def SetB (w : World) (b n : Nat) (f : Int → Bool) : Prop :=
  ∃ D : DataW Unit, w.ownsMap Tryz.prog 3 (plainElem Tryz.prog 4) b n D ∧ Maps.IsMap D ∧ (∀ x, D.atKey (.int .i64 x) (.lit (.bool false)) = .lit (.bool (f x))) ∧ ∀ x, Maps.has D (.int .i64 x) = f x
theorem SetB.made (w : World) : SetB (w.alloc (.map #[] 0)) w.heap.size 0 (fun _ => false) := ⟨_, World.ownsMap_made _ _ _ _, Maps.isMap_empty, fun _ => rfl, fun _ => rfl⟩
theorem SetB.lt {w : World} {b n : Nat} {f : Int → Bool} (h : SetB w b n f) : b < w.heap.size := by obtain ⟨D, h1, _⟩ := h; exact h1.lt
theorem SetB.block {w w' : World} {b n : Nat} {f : Int → Bool} (h : SetB w b n f) (hb : w'.heap[b]? = w.heap[b]?) : SetB w' b n f := by
  obtain ⟨D, ⟨es, clock, h1, h2⟩, h3⟩ := h
  exact ⟨D, ⟨es, clock, hb.trans h1, h2⟩, h3⟩
theorem SetB.e {w w' : World} {b n : Nat} {f : Int → Bool} (h : SetB w b n f) (hE : E w w') : SetB w' b n f := h.block (hE.block h.lt)
theorem SetB.look {w : World} {b n : Nat} {f : Int → Bool} (h : SetB w b n f) {x : Int} (hx : (Lit.int .i64 x).wf = true) : (Instr.lookup 72 (.map (some b)) (.int .i64 x) false).run Tryz.prog w = .ok (.bool (f x)) w := by
  obtain ⟨D, h1, h2, h3, _⟩ := h
  obtain ⟨v, ps, hrun, hv⟩ := h1.lookup (Maps.int_keyed Tryz.underlying3) Tryz.underlying72 (Tryz.zeroValue4 _) (plainElem_bool Tryz.underlying4 false) (Maps.keyOf_int_mk Tryz.underlying3 hx)
  rw [hrun]
  rw [h3] at hv
  cases v <;> simp [plainElem, Tryz.underlying4] at hv
  rw [hv.1]
theorem SetB.put {w : World} {b n : Nat} {f : Int → Bool} (h : SetB w b n f) {x : Int} (hx : (Lit.int .i64 x).wf = true) (hn : n < maxLen) : ∃ w', (Instr.mapUpdate 72 (.map (some b)) (.int .i64 x) (.bool true)).run Tryz.prog w = .ok () w' ∧ SetB w' b (n + 1) (fun y => y == x || f y) ∧ w.grownBy w' (some b) := by
  obtain ⟨D, h1, h2, h3, h4⟩ := h
  obtain ⟨w', r1, r2, r3⟩ := h1.update (Maps.int_keyed Tryz.underlying3) Tryz.underlying72 hn (Maps.keyOf_int_mk Tryz.underlying3 hx) (plainElem_bool Tryz.underlying4 true)
  refine ⟨w', r1, ⟨_, r2, h2.put _ _, fun y => ?_, fun y => ?_⟩, r3⟩
  · by_cases e : y = x
    · subst e; rw [Maps.atKey_put_same h2 (by trivial)]; simp
    · rw [Maps.atKey_put_other (by intro e'; injection e' with _ e'; exact e e'), h3]; simp [e]
  · by_cases e : y = x
    · subst e; rw [Maps.has_put_same h2 (by trivial)]; simp
    · rw [Maps.has_put_other (by intro e'; injection e' with _ e'; exact e e'), h4]; simp [e]
end Go.Proofs.YtmeplpiamkaniaaGreat
namespace Go.Proofs.YtmeplpiamkaniaaGreat
set_option linter.unusedVariables false
set_option linter.unusedSimpArgs false
open Go.RowKit
structure DvB (W : World) (b0 Bs Bi ms : Nat) (A : Option Addr) (n c : Nat) (ids : List Int) : Prop where
  bs : W.heap[Bs]? = some (.cells #[.map (some ms)] 72 (0, 0))
  bi : W.heap[Bi]? = some (.cells #[.slice A n c] 22 (0, 0))
  st : SetB W ms n (fun x => ids.contains x)
  od : Own .i64 3 W b0 A n c ids
  ne : Bs ≠ Bi ∧ ms ≠ Bs ∧ ms ≠ Bi
  na : ∀ b, ob A = some b → b ≠ Bs ∧ b ≠ Bi ∧ b ≠ ms
  lo : b0 ≤ Bs ∧ b0 ≤ Bi ∧ b0 ≤ ms
def DvX (Bi ms : Nat) (A : Option Addr) (j : Nat) : Prop := j = Bi ∨ j = ms ∨ ob A = some j
theorem DvB.e {W W' : World} {b0 Bs Bi ms : Nat} {A : Option Addr} {n c : Nat} {ids : List Int} (h : DvB W b0 Bs Bi ms A n c ids) (hE : E W W') : DvB W' b0 Bs Bi ms A n c ids :=
  ⟨(hE.block (lt_blk h.bs)).trans h.bs, (hE.block (lt_blk h.bi)).trans h.bi, h.st.e hE, h.od.e hE, h.ne, h.na, h.lo⟩
theorem DvB.xlt {W : World} {b0 Bs Bi ms : Nat} {A : Option Addr} {n c : Nat} {ids : List Int} (h : DvB W b0 Bs Bi ms A n c ids) {j : Nat} (hj : DvX Bi ms A j) : b0 ≤ j ∧ j < W.heap.size := by
  rcases hj with rfl | rfl | hj
  · exact ⟨h.lo.2.1, lt_blk h.bi⟩
  · exact ⟨h.lo.2.2, h.st.lt⟩
  · exact h.od.ltN j hj
def DvPost (W : World) (b0 Bs Bi ms : Nat) (A : Option Addr) (ids : List Int) (e : Ending) (W' : World) : Prop :=
  e = .returned (.tuple #[]) ∧ ∃ A' n' c', DvB W' b0 Bs Bi ms A' n' c' ids ∧ Ex (DvX Bi ms A) W W' ∧ ∀ j, DvX Bi ms A' j → DvX Bi ms A j ∨ W.heap.size ≤ j
set_option linter.unusedSimpArgs false in
set_option maxHeartbeats 4000000 in
set_option maxRecDepth 100000 in
theorem dv1_c (W : World) (b0 Bs Bi ms : Nat) (A : Option Addr) (n c : Nat) (ids : List Int) (id : Int) (h : DvB W b0 Bs Bi ms A n c ids) (hid : (Lit.int .i64 id).wf = true) (hn : n ≤ 1000000) :
    Calls Tryz.prog 36 #[.int .i64 id, .pointer (some ⟨Bs, 0, none⟩), .pointer (some ⟨Bi, 0, none⟩)] W (DvPost W b0 Bs Bi ms A (add1 ids id)) := by
  have k1 := (cell_one h.bs).1
  have k2 := (cell_one h.bi).1
  have hlk := h.st.look hid
  have HH := Lib.hid h
  obtain ⟨bv, hbv⟩ : ∃ bv, ids.contains id = bv := ⟨_, rfl⟩
  rw [hbv] at hlk
  have HBV := Lib.hid hbv
  clear hbv
  cases bv
  · obtain ⟨w4, hrM, hS4, hG4⟩ := h.st.put hid (by unfold maxLen; omega)
    have hX4 : Ex (fun j => j = ms) W w4 := (Ex.refl _ W).grown hG4 (fun k hk => .inr (by injection hk with hk; exact hk.symm))
    have hne := h.ne
    have hBi4 : w4.heap[Bi]? = some (.cells #[.slice A n c] 22 (0, 0)) := (hX4.block _ (lt_blk h.bi) (fun e => hne.2.2 e.symm)).trans h.bi
    have hBs4 : w4.heap[Bs]? = some (.cells #[.map (some ms)] 72 (0, 0)) := (hX4.block _ (lt_blk h.bs) (fun e => hne.2.1 e.symm)).trans h.bs
    have hO4 := h.od.ex hX4 (fun b hb e => (h.na b hb).2.2 e)
    obtain ⟨V, hV⟩ : ∃ V, w4.alloc (.cells #[.int .i64 id] 3) = V := ⟨_, rfl⟩
    have hEV : E w4 V := by rw [← hV]; exact (E.refl w4).alloc _
    have hlo := h.lo
    have hsz : b0 ≤ V.heap.size := by have := lt_blk hBi4; have := hEV.le; omega
    obtain ⟨A', c', V1, hrun, hO, hG, hor⟩ := run_appN intTk V 22 b0 A n c ids (hO4.e hEV) (some ⟨w4.heap.size, 0, none⟩) 1 1 [id] (by rw [← hV]; exact nums_one w4 hid) (by omega) hsz
    rw [ob_eq] at hG
    rw [ob_eq, ob_eq] at hor
    have hXo : Ex (fun j => ob A = some j) w4 V1 := (Ex.of_e (X := fun j => ob A = some j) hEV).grown hG (fun k hk => .inr hk)
    have hBi1 : V1.heap[Bi]? = some (.cells #[.slice A n c] 22 (0, 0)) := (hXo.block _ (lt_blk hBi4) (fun e => (h.na Bi e).2.1 rfl)).trans hBi4
    have hBs1 : V1.heap[Bs]? = some (.cells #[.map (some ms)] 72 (0, 0)) := (hXo.block _ (lt_blk hBs4) (fun e => (h.na Bs e).1 rfl)).trans hBs4
    have hS1 : SetB V1 ms (n + 1) (fun y => y == id || ids.contains y) := hS4.block (hXo.block _ hS4.lt (fun e => (h.na ms e).2.2 rfl))
    have k3 := (cell_one hBi4).1
    have k4 := (cell_one hBi1).1
    have v4 := (cell_one hBi1).2
    have hXb := ex_set V1 Bi 0 (.slice A' (n + 1) c')
    have hset := heap_setCell_same _ _ 0 _ _ (.slice A' (n + 1) c') hBi1
    simp only [sA, sB] at hset
    have hnewA : ∀ b, ob A' = some b → ob A = some b ∨ W.heap.size ≤ b := fun b hb => by
      rcases hor with h2 | h2
      · exact .inl (by rw [← h2]; exact hb)
      · rw [h2] at hb; injection hb with hb; have := hX4.size; have := hEV.le; right; omega
    have HFin := Lib.hid (show DvPost W b0 Bs Bi ms A (add1 ids id) (.returned (.tuple #[])) (V1.setCell ⟨Bi, 0, none⟩ (.slice A' (n + 1) c')) from by
      have hnA : ∀ b, ob A' = some b → b ≠ Bs ∧ b ≠ Bi ∧ b ≠ ms := fun b hb => by
        rcases hnewA b hb with e | e
        · exact h.na b e
        · have := lt_blk h.bs; have := lt_blk h.bi; have := h.st.lt; omega
      have hadd : add1 ids id = ids ++ [id] := by unfold add1; rw [HBV.out]; rfl
      rw [hadd]
      have hfun : (fun y => y == id || ids.contains y) = (fun y => (ids ++ [id]).contains y) := funext fun y => by
        rw [Bool.eq_iff_iff]
        simp [or_comm]
      rw [hfun] at hS1
      refine ⟨rfl, A', n + 1, c', ⟨(hXb.block _ (lt_blk hBs1) hne.1).trans hBs1, hset, hS1.block (hXb.block _ hS1.lt hne.2.2), hO.ex hXb (fun b hb e => (hnA b hb).2.1 e), hne, hnA, h.lo⟩, ?_, fun j hj => ?_⟩
      · exact ((hX4.mono (Z := DvX Bi ms A) (fun j _ e => .inr (.inl e))).trans hXo (fun _ _ x => x) (fun j _ e => .inr (.inr e))).trans hXb (fun _ _ x => x) (fun j _ e => .inl e)
      · rcases hj with e | e | e
        · exact .inl (.inl e)
        · exact .inl (.inr (.inl e))
        · exact (hnewA j e).imp (fun e => .inr (.inr e)) _root_.id)
    clear hO hG hor hXo hBi1 hBs1 hS1 hset hXb hnewA hBi4 hBs4 hO4 hEV hX4 hS4 hG4 hsz hlo hne h
    go_enter Tryz.func36, Tryz.ntmps36
    go_wp2_with (at_builtin; (try rw [hV]); refine wpList_app_runM rfl _ _ rfl rfl rfl hrun ?_)
    go_end0
    exact HFin.out
  · have hadd : add1 ids id = ids := by unfold add1; rw [HBV.out]; rfl
    rw [hadd]
    clear h hadd
    go_enter Tryz.func36, Tryz.ntmps36
    go_wp2_with fail
    go_end0
    exact ⟨rfl, A, n, c, HH.out, Ex.refl _ _, fun j hj => .inl hj⟩
def JD (b0 Bs Bi ms : Nat) (ids0 : List Int) (pre : List Int) (X : Nat → Prop) (W : World) : Prop :=
  ∃ A n c, DvB W b0 Bs Bi ms A n c (addAll ids0 pre) ∧ X = DvX Bi ms A
theorem addAll_len (l : List Int) : ∀ o : List Int, (addAll o l).length ≤ o.length + l.length := by
  induction l with
  | nil => intro o; simp [addAll]
  | cons j l ih =>
    intro o
    show (addAll (add1 o j) l).length ≤ _
    have h1 := ih (add1 o j)
    have h2 : (add1 o j).length ≤ o.length + 1 := by unfold add1; split <;> simp
    rw [List.length_cons]; omega
theorem dv_visits (b0 Bs Bi ms : Nat) (ids0 : List Int) (h0 : ids0.length ≤ 100000) :
    Visits 36 [.pointer (some ⟨Bs, 0, none⟩), .pointer (some ⟨Bi, 0, none⟩)] (fun pre id => (Lit.int .i64 id).wf = true ∧ pre.length ≤ 300000) (JD b0 Bs Bi ms ids0) := by
  refine ⟨?_, ?_, ?_⟩
  · rintro pre X W W' ⟨A, n, c, h1, h2⟩ hE
    exact ⟨A, n, c, h1.e hE, h2⟩
  · rintro pre X W ⟨A, n, c, h1, rfl⟩ j hj
    exact (h1.xlt hj).2
  · rintro pre X W id ⟨hwf, hl⟩ ⟨A, n, c, h1, rfl⟩
    have hlen := addAll_len pre ids0
    have hnn := h1.od.1
    refine (dv1_c W b0 Bs Bi ms A n c _ id h1 hwf (by omega)).mono ?_
    rintro e W' ⟨rfl, A', n', c', hB, hX, hN⟩
    exact ⟨rfl, _, ⟨A', n', c', by rw [addAll_snoc]; exact hB, rfl⟩, hX, hN⟩
end Go.Proofs.YtmeplpiamkaniaaGreat
namespace Go.Proofs.YtmeplpiamkaniaaGreat
set_option linter.unusedVariables false
set_option linter.unusedSimpArgs false
open Go.RowKit
def RetDer (w : World) (fs : List Fl) (x : Lt) (e : Ending) (w' : World) : Prop :=
  E w w' ∧ ((hasF fs x = false ∧ e = .returned (.tuple #[.slice none 0 0, .int .i64 1])) ∨ (hasF fs x = true ∧ ∃ ds A n c, DerOf fs x.1 ds ∧ e = .returned (.tuple #[.slice A n c, .int .i64 0]) ∧ FlowsAt w' A n c ds))
def RetDerS (w : World) (fs : List Fl) (x : Lt) (e : Ending) (w' : World) : Prop :=
  E w w' ∧ ((hasF fs x = false ∧ e = .returned (.tuple #[.slice none 0 0, .int .i64 1])) ∨ (hasF fs x = true ∧ ∃ ds A n c, DerOf fs x.1 ds ∧ e = .returned (.tuple #[.slice A n c, .int .i64 0]) ∧ FlowsAt w' A n c ds ∧ ∀ (Y : Nat → Prop) (W : World), Ex Y w' W → (∀ i, Y i → i < w.heap.size) → FlowsAt W A n c ds))
theorem RetDerS.plain {w : World} {fs : List Fl} {x : Lt} {e : Ending} {w' : World} (h : RetDerS w fs x e w') : RetDer w fs x e w' := by
  obtain ⟨hE, h⟩ := h
  rcases h with h | ⟨h0, ds, A, n, c, h1, h2, h3, _⟩
  · exact ⟨hE, .inl h⟩
  · exact ⟨hE, .inr ⟨h0, ds, A, n, c, h1, h2, h3⟩⟩
theorem map_getD {fs : List Fl} {l : List Int} (h : ∀ j ∈ l, ∃ q, getF fs j = some q) : (l.map fun j => (getF fs j).getD zeroFl).map some = l.map (getF fs) := by
  rw [List.map_map]
  refine List.map_congr_left fun j hj => ?_
  obtain ⟨q, hq⟩ := h j hj
  simp [hq]
set_option linter.unusedSimpArgs false in
set_option maxHeartbeats 16000000 in
set_option maxRecDepth 100000 in
theorem gDeriveS_c (X : Nat → Prop) (g : Nat) (fs : List Fl) (x : Lt) (w : World) (h : GraphAt w X g fs) (hx : WfL x) (hz : ∀ f ∈ fs, f.parts.length ≤ 100000 ∧ f.made.length ≤ 100000) (hn : fs.length ≤ 1000) :
    Calls Tryz.prog 9 #[.pointer (some ⟨g, 0, none⟩), ltV x] w (RetDerS w fs x) := by
  obtain ⟨w1, hw1⟩ : ∃ w1, w.alloc (.cells #[.int .i64 x.1, .int .i64 x.2.1, .int .i64 x.2.2] 30) = w1 := ⟨_, rfl⟩
  have hE1 : E w w1 := by rw [← hw1]; exact (E.refl w).alloc _
  have hx3 := cells3_new w (.int .i64 x.1) (.int .i64 x.2.1) (.int .i64 x.2.2) 30
  rw [hw1] at hx3
  have HZ1 := Lib.hid (show w.heap.size < w1.heap.size by rw [← hw1]; simp)
  have HH := Lib.hid (gHas_c X g fs x w1 (h.e hE1) hx)
  have HE1 := Lib.hid hE1
  have HX3 := Lib.hid hx3
  have HX := Lib.hid hx
  have HOK := Lib.hid h.ok
  have HZ := Lib.hid hz
  have HN := Lib.hid hn
  obtain ⟨p, hG⟩ := h
  have HG := Lib.hid (hG.e hE1)
  obtain ⟨c0, c1, c2⟩ := hx3
  obtain ⟨bv, hbv⟩ : ∃ bv, hasF fs x = bv := ⟨_, rfl⟩
  have HBV := Lib.hid hbv
  rw [hbv] at HH
  clear hG hE1 hx hbv hz
  unfold ltV at *
  cases bv
  · go_enter Tryz.func9, Tryz.ntmps9
    go_upto_region 1 with fail
    try rw [hw1]
    clear hw1
    go_wp2_with (go_at_call 34; refine HH.out.mono ?_; rintro e w3 ⟨rfl, hE3⟩)
    go_ret2
    exact ⟨HE1.out.trans hE3, .inl ⟨HBV.out, rfl⟩⟩
  · obtain ⟨_, f0, hgf0, _⟩ := hasF_iff.1 HBV.out
    have HGF := Lib.hid hgf0
    clear hgf0
    go_enter Tryz.func9, Tryz.ntmps9
    go_upto_region 1 with fail
    try rw [hw1]
    clear hw1
    go_upto_region 3 with (go_at_call 34; refine HH.out.mono ?_; rintro e w2 ⟨rfl, hE2⟩)
    clear c0 c1 c2
    have HE2 := Lib.hid hE2
    have d0 : ∀ W, E w2 W → W.cell? ⟨w.heap.size, 0, none⟩ = some (.int .i64 x.1) := fun W hW => ((hE2.trans hW).cell (p := ⟨w.heap.size, 0, none⟩) HZ1.out).trans HX3.out.1
    -- the map
    obtain ⟨w3, hw3⟩ : ∃ w3, w2.alloc (.map #[] 0) = w3 := ⟨_, rfl⟩
    have hE3 : E w2 w3 := by rw [← hw3]; exact (E.refl w2).alloc _
    have hS3 : SetB w3 w2.heap.size 0 (fun _ => false) := by rw [← hw3]; exact SetB.made w2
    have hz3 : w3.heap.size = w2.heap.size + 1 := by rw [← hw3]; simp
    have hmm := fun W => run_makeMap (P := Tryz.prog) 72 W
    obtain ⟨w4, hrM, hS4, hG4⟩ := hS3.put HX.out.1 (by unfold maxLen; omega)
    have hE4 : E w2 w4 := hE3.grown hG4 (fun k hk => by injection hk with hk; omega)
    have hz4 : w3.heap.size ≤ w4.heap.size := hG4.size
    obtain ⟨w5, hw5⟩ : ∃ w5, w4.alloc (.cells #[.map (some w2.heap.size)] 72) = w5 := ⟨_, rfl⟩
    have hE5 : E w4 w5 := by rw [← hw5]; exact (E.refl w4).alloc _
    have hB5 : w5.heap[w4.heap.size]? = some (.cells #[.map (some w2.heap.size)] 72 (0, 0)) := by rw [← hw5]; exact heap_alloc_new w4 _
    have hz5 : w5.heap.size = w4.heap.size + 1 := by rw [← hw5]; simp
    obtain ⟨w6, hw6⟩ : ∃ w6, w5.alloc (.cells #[.int .i64 x.1] 3) = w6 := ⟨_, rfl⟩
    have hE6 : E w5 w6 := by rw [← hw6]; exact (E.refl w5).alloc _
    have hO6 : Own .i64 3 w6 w5.heap.size (some ⟨w5.heap.size, 0, none⟩) 1 1 [x.1] := by
      rw [← hw6]
      exact ⟨rfl, ⟨rfl, .inr ⟨w5.heap.size, 1, _, rfl, Nat.le_refl _, heap_alloc_new w5 _, Nat.le_refl _, by unfold maxLen; omega, by simp, by simp⟩⟩, by intro y hy; rw [List.mem_singleton] at hy; subst hy; exact HX.out.1⟩
    have hz6 : w6.heap.size = w5.heap.size + 1 := by rw [← hw6]; simp
    obtain ⟨w7, hw7⟩ : ∃ w7, w6.alloc (.cells #[.slice (some ⟨w5.heap.size, 0, none⟩) 1 1] 22) = w7 := ⟨_, rfl⟩
    have hE7 : E w6 w7 := by rw [← hw7]; exact (E.refl w6).alloc _
    have hB7 : w7.heap[w6.heap.size]? = some (.cells #[.slice (some ⟨w5.heap.size, 0, none⟩) 1 1] 22 (0, 0)) := by rw [← hw7]; exact heap_alloc_new w6 _
    have HDV := Lib.hid (show DvB w7 w2.heap.size w4.heap.size w6.heap.size w2.heap.size (some ⟨w5.heap.size, 0, none⟩) 1 1 [x.1] from by
      refine ⟨((hE6.trans hE7).block (lt_blk hB5)).trans hB5, hB7, ?_, (hO6.e hE7).rebase (by omega), ⟨by omega, by omega, by omega⟩, fun b hb => by have := ob_some' hb; omega, by omega, by omega, Nat.le_refl _⟩
      have hfun : (fun y => y == x.1 || false) = (fun y => ([x.1] : List Int).contains y) := funext fun y => by rw [Bool.eq_iff_iff]; simp
      rw [← hfun]
      exact hS4.e (hE5.trans (hE6.trans hE7)))
    have HE27 := Lib.hid (hE4.trans (hE5.trans (hE6.trans hE7)))
    have s0 := d0 w3 hE3
    have s1 := d0 w2 (E.refl w2)
    have s5 := d0 w5 (hE4.trans hE5)
    clear hz3 hz4 hz5 hz6
    go_upto_region 6 with fail
    try rw [hw3]
    try rw [hw5]
    try rw [hw6]
    try rw [hw7]
    clear hw3 hw5 hw6 hw7 hmm hrM hS4 hS3 hG4 hE3 hE4 hE5 hE6 hE7 hB5 hB7 hO6 s0 s1 s5 d0
    generalize w4.heap.size = Bs at *
    generalize w6.heap.size = Bi at *
    have HREF := Lib.hid (show ∀ f ∈ fs, ∀ j ∈ refsF f, ∃ q, getF fs j = some q from fun f hf j hj => HOK.out.refs hf hj)
    have HG2 := Lib.hid (fun W (hW : E w2 W) => HG.out.e (HE2.out.trans hW))
    have HLW := Lib.hid (show ∀ q ∈ fs, WfF q from (HG.out.flows).wf)
    have hcall := Tryz.call36
    go_loopw [8] (fun ti wr => ∃ (k : Nat) (ids : List Int) (A : Option Addr) (n c : Nat), k ≤ n ∧ ti = .int .i64 k ∧ DvB wr w2.heap.size Bs Bi w2.heap.size A n c ids ∧ Hid (DvSt fs x.1 k ids) ∧ E w2 wr) (fun ti _ => 1001 - (intOf ti).toNat)
    case atStart => exact ⟨0, [x.1], _, 1, 1, Nat.zero_le _, rfl, HDV.out, DvSt.start fs x.1, HE27.out⟩
    case round =>
      obtain ⟨k, ids, A, n, c, hk, rfl, hD, hst, hE⟩ := hrel
      have hlen := hst.out.len HREF.out ⟨f0, HGF.out⟩
      have HLN := Lib.hid (show n ≤ 1000 ∧ ids.length = n from ⟨by have := hD.od.1; have := HN.out; omega, hD.od.1⟩)
      have hn63 : n ≤ 9223372036854775807 := by have := HLN.out.1; omega
      have HD := Lib.hid hD
      have HST := Lib.hid hst.out
      have HE := Lib.hid hE
      have k2 := (cell_one hD.bi).1
      by_cases hlt : k < n
      · have hkI : (k : Int) < (n : Int) := by omega
        obtain ⟨bI, oI, y, hAe, _, hy, hwy, hcy⟩ := hD.od.reads.get hlt
        obtain ⟨f, hf⟩ := hst.out.get HREF.out ⟨f0, HGF.out⟩ (List.mem_of_getElem? hy)
        obtain ⟨q, hq⟩ := pos_some hf
        obtain ⟨f', hfq, hf', hida⟩ := posF_some hq
        rw [hf] at hf'
        injection hf' with hf'
        subst hf'
        clear hida
        have hqn : q < fs.length := (List.getElem?_eq_some_iff.1 hfq).1
        have hqI : (q : Int) < (fs.length : Int) := by omega
        have hGr := HG2.out wr hE
        obtain ⟨gc0, _, gc2, _, _⟩ := hGr.blk.cells
        have hlk := fun m => (hGr.mp.drewN m).look mapIT hwy
        have hlk0 := hGr.mp.look mapIT hwy
        have hlkd := (hGr.mp.e (E.refl wr).drew).look mapIT hwy
        rw [plc_some hq] at hlk hlk0 hlkd
        simp only [Option.getD] at hlk hlk0 hlkd
        obtain ⟨b3, o3, f3, s, t, hFe, hb3, hf3, hwf, hcf, hB⟩ := hGr.flows.get hqn
        rw [hfq] at hf3
        injection hf3 with hf3
        subst hf3
        have hB2 : FlB w2 f s t := by
          obtain ⟨b4, o4, f4, s4, t4, hFe4, hb4, hf4, _, hcf4, hB4⟩ := (HG2.out w2 (E.refl w2)).flows.get hqn
          rw [hfq] at hf4
          injection hf4 with hf4
          subst hf4
          rw [hFe] at hFe4
          injection hFe4 with hFe4
          injection hFe4 with e1 e2
          subst e1 e2
          have hcw := hcf4.e hE hb4
          unfold FlCells at hcf hcw
          have e9 := hcf.2.2.2.2.2.2.2.2.2.1.symm.trans hcw.2.2.2.2.2.2.2.2.2.1
          have e10 := hcf.2.2.2.2.2.2.2.2.2.2.symm.trans hcw.2.2.2.2.2.2.2.2.2.2
          obtain ⟨s1, s2, s3⟩ := s
          obtain ⟨t1, t2, t3⟩ := t
          obtain ⟨u1, u2, u3⟩ := s4
          obtain ⟨v1, v2, v3⟩ := t4
          simp only [Option.some.injEq, Value.slice.injEq] at e9 e10
          obtain ⟨rfl, rfl, rfl⟩ := e9
          obtain ⟨rfl, rfl, rfl⟩ := e10
          exact hB4
        rw [hFe] at gc0
        have hzf := HZ.out f (List.mem_of_getElem? hfq)
        have hrl : (refsF f).length ≤ 300000 := by unfold refsF; rw [List.length_append, List.length_map]; omega
        have hVC := visit_c Tryz.call36 (dv_visits w2.heap.size Bs Bi w2.heap.size ids (by have := HLN.out; omega)) f s.1 s.2.1 s.2.2 t.1 t.2.1 t.2.2 wr.drew (hB.e (E.refl wr).drew) (DvX Bi w2.heap.size A) ⟨A, n, c, by have := hD.e (E.refl wr).drew; exact this, rfl⟩
          (fun h0 b hb hX => by
            obtain ⟨b', o', e, hl, _⟩ := hB2.1.at_ h0
            (try simp only at e)
            rw [e] at hb
            have := ob_some' hb
            have := (hD.xlt hX).1
            omega)
          (fun h0 b hb hX => by
            obtain ⟨b', o', e, hl, _⟩ := hB2.2.at_ h0
            (try simp only at e)
            rw [e] at hb
            have := ob_some' hb
            have := (hD.xlt hX).1
            omega)
          (fun k' id hid => ⟨by
            have hm := List.mem_of_getElem? hid
            exact hGr.flows.refs_wf f (List.mem_of_getElem? hfq) id hm, by rw [List.length_take]; omega⟩)
        have HVC := Lib.hid hVC
        have HNX := Lib.hid (show DvSt fs x.1 (k + 1) (addAll ids (refsF f)) from hst.out.next hy hf)
        have HKA := Lib.hid (show k + 1 ≤ (addAll ids (refsF f)).length from by
          obtain ⟨r, hr⟩ := addAll_pre (refsF f) ids
          rw [hr, List.length_append]
          have := HLN.out.2
          omega)
        have HXL := Lib.hid (fun j (hj : DvX Bi w2.heap.size A j) => (hD.xlt hj).1)
        unfold flV at HVC
        unfold FlCells at hcf
        obtain ⟨q0, q1, q2, q3, q4, q5, q6, q7, q8, q9, q10⟩ := hcf
        subst hAe
        clear hVC hB hB2 hf hq hfq hqn hFe hGr hwf hzf hrl hy hb3 hD hst hE hlen
        generalize fs.length = nn at hqI gc0
        go_upto_region 8 with fail
        go_still_tail 16, (by kernel_rfl)
        go_wp2_with fail
        refine HVC.out.mono ?_
        rintro e w9 ⟨rfl, X', ⟨A', n', c', hD', rfl⟩, hX', hXn⟩
        have HD2 := Lib.hid hD'
        have HE2' := Lib.hid (show E w2 w9 from e_ex HE.out.drew hX' (fun j hj => HXL.out j hj))
        have hn' := hD'.od.1
        have HKN := Lib.hid (show k + 1 ≤ n' from by have := HKA.out; omega)
        clear hD' hX' hXn hn'
        go_wp2_with fail
        go_roundw
        case rel => exact ⟨k + 1, _, _, _, _, HKN.out, by go_num, HD2.out, HNX, HE2'.out⟩
        case measure => have := HLN.out; simp [intOf]; omega
      · have hkn : k = n := by omega
        subst hkn
        have hmem : ∀ j, j ∈ ids ↔ (j = x.1 ∨ Lead1 fs x.1 j) := by
          have h1 := HST.out
          rw [← HLN.out.2] at h1
          exact h1.done
        have hsrt := sorted_of hst.out.nd hmem
        obtain ⟨sids, hsids⟩ : ∃ l, (ids.mergeSort fun x y => decide (x ≤ y)) = l := ⟨_, rfl⟩
        have HSO := Lib.hid (sortI_c A k c w2.heap.size ids wr hD.od (by have := HLN.out; omega))
        rw [hsids] at HSO hsrt
        have hds : ∀ j ∈ sids, ∃ q, getF fs j = some q := fun j hj => hst.out.get HREF.out ⟨f0, HGF.out⟩ ((hmem j).2 ((hsrt.mem j).1 hj))
        have HDS := Lib.hid (show DerOf fs x.1 (sids.map fun j => (getF fs j).getD zeroFl) from der_of HOK.out.ids hsrt (map_getD hds))
        have HSG := Lib.hid hds
        have HNA := Lib.hid hD.na
        have HBI := Lib.hid hD.bi
        have HAL := Lib.hid (fun b hb => (hD.od.ltN b hb))
        clear hst hmem hsids hds hsrt hD hE hlen
        go_upto_region 10 with (go_at_call 37; refine HSO.out.mono ?_; rintro e w9 ⟨rfl, hO9, hG9⟩)
        have hX9 : Ex (fun j => ob A = some j) wr w9 := (Ex.refl _ wr).grown hG9 (fun j hj => .inr hj)
        have hBi9 : w9.heap[Bi]? = some (.cells #[.slice A k c] 22 (0, 0)) := (hX9.block _ (lt_blk HBI.out) (fun e => (HNA.out Bi e).2.1 rfl)).trans HBI.out
        have HE9 := Lib.hid (show E w2 w9 from HE.out.grown hG9 (fun j hj => (HAL.out j hj).1))
        have k9 := (cell_one hBi9).1
        have HB9 := Lib.hid hBi9
        have HO9 := Lib.hid hO9
        clear hX9 hBi9 hG9 hO9 k2 HSO
        go_upto_region 11 with (refine wpList_mkF _ rfl _ _ rfl .i64 .i64 _ _ k rfl rfl rfl rfl (by have := HLN.out; omega) ?_; intro w10 hR10 hE10 hz10)
        have k10 := (cell_one ((hE10.block (lt_blk HB9.out)).trans HB9.out)).1
        have HR10 := Lib.hid hR10
        have HE10 := Lib.hid hE10
        clear k9 hR10 hE10 hz10
        go_upto_region 12 with fail
        clear k10
        obtain ⟨wo, hwo⟩ : ∃ wo, wo = wr := ⟨_, rfl⟩
        subst hwo
        generalize hbR : w9.heap.size = bR at *
        go_loopw [53] (fun ti wr => ∃ (i : Nat) (q : List FlSl), i ≤ k ∧ ti = .int .i64 i ∧ FRow wr bR (some ⟨bR, 0, none⟩) k k q ∧ Hid ((q.map Prod.fst).take i = (sids.map fun j => (getF fs j).getD zeroFl).take i) ∧ Hid (SlFrom bR q) ∧ E w9 wr) (fun ti _ => k - (intOf ti).toNat)
        case atStart => exact ⟨0, _, Nat.zero_le _, rfl, HR10.out, show _ = _ by simp, (fun p hp => by rw [List.eq_of_mem_replicate hp]; exact ⟨fun b h => (by cases h), fun b h => (by cases h)⟩), HE10.out⟩
        case round =>
          obtain ⟨i, qr, hi, rfl, hR, hq, hsl, hEr⟩ := hrel
          have HSL := Lib.hid hsl.out
          clear hsl
          by_cases hik : i < k
          · have hiI : (i : Int) < (k : Int) := by omega
            obtain ⟨bI, oI, y, hAe, _, hy, hwy, hcy⟩ := (HO9.out.reads.e hEr).get hik
            obtain ⟨f, hf⟩ := HSG.out y (List.mem_of_getElem? hy)
            obtain ⟨q, hq2⟩ := pos_some hf
            obtain ⟨f', hfq, hf', hida⟩ := posF_some hq2
            rw [hf] at hf'
            injection hf' with hf'
            subst hf'
            clear hida
            have hqn : q < fs.length := (List.getElem?_eq_some_iff.1 hfq).1
            have hqI : (q : Int) < (fs.length : Int) := by omega
            have HE2r := Lib.hid (HE9.out.trans hEr)
            obtain ⟨b3, o3, f3, s, t, hFe, hb3, hf3, hwf, hcf, hB⟩ := (HG2.out wr HE2r.out).flows.get hqn
            rw [hfq] at hf3
            injection hf3 with hf3
            subst hf3
            have hb2 : b3 < w2.heap.size := ((HG2.out w2 (E.refl w2)).fl.ltN b3 (by rw [hFe]; rfl)).2
            have HCF := Lib.hid (fun W (hW : E w2 W) => show FlCells W b3 (o3 + q * 11) f s t from hcf.same fun k => (hW.cell (p := ⟨b3, k, none⟩) hb2).trans (HE2r.out.cell (p := ⟨b3, k, none⟩) hb2).symm)
            obtain ⟨nn, hnn⟩ : ∃ nn, fs.length = nn := ⟨_, rfl⟩
            have HS := Lib.hid (fun W (hW : E w2 W) => show W.cell? ⟨g, 0, none⟩ = some (.slice (some ⟨b3, o3, none⟩) nn p.cf) ∧ W.cell? ⟨g, 2, none⟩ = some (.map (some p.mb)) ∧ (Instr.lookup 61 (.map (some p.mb)) (.int .i64 y) false).run Tryz.prog W = .ok (.int .i64 (q : Int)) W ∧ W.cell? ⟨b3, o3 + q * 11, none⟩ = some (.int .i64 f.id) ∧ W.cell? ⟨b3, o3 + q * 11 + 1, none⟩ = some (.int .i64 f.step) ∧ W.cell? ⟨b3, o3 + q * 11 + 2, none⟩ = some (.int .i64 f.kind) ∧ W.cell? ⟨b3, o3 + q * 11 + 3, none⟩ = some (.int .i64 f.tick) ∧ W.cell? ⟨b3, o3 + q * 11 + 4, none⟩ = some (.int .i64 f.actor) ∧ W.cell? ⟨b3, o3 + q * 11 + 5, none⟩ = some (.int .i64 f.frm) ∧ W.cell? ⟨b3, o3 + q * 11 + 6, none⟩ = some (.int .i64 f.to) ∧ W.cell? ⟨b3, o3 + q * 11 + 7, none⟩ = some (.int .i64 f.item) ∧ W.cell? ⟨b3, o3 + q * 11 + 8, none⟩ = some (.int .i64 f.n) ∧ W.cell? ⟨b3, o3 + q * 11 + 9, none⟩ = some (.slice s.1 s.2.1 s.2.2) ∧ W.cell? ⟨b3, o3 + q * 11 + 10, none⟩ = some (.slice t.1 t.2.1 t.2.2) from by
              have hGw := HG2.out W hW
              have h0 := hGw.blk.cells.1
              have h2 := hGw.blk.cells.2.2.1
              have hl := hGw.mp.look mapIT hwy
              rw [plc_some hq2] at hl
              rw [hFe, hnn] at h0
              exact ⟨h0, h2, hl, HCF.out W hW⟩)
            rw [hnn] at hqI
            have hzf := HZ.out f (List.mem_of_getElem? hfq)
            have hl1 := hB.1.len
            have hl2 := hB.2.len
            have HCP := Lib.hid (copyFlow_c f s.1 s.2.1 s.2.2 t.1 t.2.1 t.2.2 wr.drew (hB.e (E.refl wr).drew) (by omega) (by omega))
            have HKQ := Lib.hid (show ∀ s' t', ((qr.set i (f, s', t')).map Prod.fst).take (i + 1) = (sids.map fun j => (getF fs j).getD zeroFl).take (i + 1) from fun s' t' => by
              have h1 : (sids.map fun j => (getF fs j).getD zeroFl)[i]? = some f := by rw [List.getElem?_map, hy]; simp [hf]
              rw [List.map_set, List.take_add_one, List.take_add_one, h1]
              congr 1
              · rw [List.take_set_of_le (Nat.le_refl _)]; exact hq.out
              · rw [List.getElem?_set_self (by rw [List.length_map, hR.1]; exact hik)])
            obtain ⟨p0, hp0⟩ : ∃ p0, qr[i]? = some p0 := ⟨qr[i]'(by rw [hR.1]; exact hik), List.getElem?_eq_getElem _⟩
            have HP0 := Lib.hid hp0
            have HRR := Lib.hid hR
            have HER := Lib.hid hEr
            have HWF := Lib.hid hwf
            have HIK := Lib.hid hik
            unfold flV at HCP
            subst hAe
            clear hf hq2 hfq hqn hnn hzf hl1 hl2 hB hcf hFe hwf hp0 hq hR hy hEr hb3 hik hb2
            go_upto_region 14 with fail
            clear hcy
            have hEa := (E.refl wr).drew
            refine wp_region_held_drew (S := fun W => W.cell? ⟨g, 0, none⟩ = some (.slice (some ⟨b3, o3, none⟩) nn p.cf) ∧ W.cell? ⟨g, 2, none⟩ = some (.map (some p.mb)) ∧ (Instr.lookup 61 (.map (some p.mb)) (.int .i64 y) false).run Tryz.prog W = .ok (.int .i64 (q : Int)) W ∧ W.cell? ⟨b3, o3 + q * 11, none⟩ = some (.int .i64 f.id) ∧ W.cell? ⟨b3, o3 + q * 11 + 1, none⟩ = some (.int .i64 f.step) ∧ W.cell? ⟨b3, o3 + q * 11 + 2, none⟩ = some (.int .i64 f.kind) ∧ W.cell? ⟨b3, o3 + q * 11 + 3, none⟩ = some (.int .i64 f.tick) ∧ W.cell? ⟨b3, o3 + q * 11 + 4, none⟩ = some (.int .i64 f.actor) ∧ W.cell? ⟨b3, o3 + q * 11 + 5, none⟩ = some (.int .i64 f.frm) ∧ W.cell? ⟨b3, o3 + q * 11 + 6, none⟩ = some (.int .i64 f.to) ∧ W.cell? ⟨b3, o3 + q * 11 + 7, none⟩ = some (.int .i64 f.item) ∧ W.cell? ⟨b3, o3 + q * 11 + 8, none⟩ = some (.int .i64 f.n) ∧ W.cell? ⟨b3, o3 + q * 11 + 9, none⟩ = some (.slice s.1 s.2.1 s.2.2) ∧ W.cell? ⟨b3, o3 + q * 11 + 10, none⟩ = some (.slice t.1 t.2.1 t.2.2)) (by kernel_rfl) (HS.out _ (HE2r.out.trans hEa)) (fun hHeld => ?_)
            (((refine wpAnyH_take (i := 0) (v := ?_) rfl (by kernel_rfl) (by kernel_rfl) (by kernel_rfl) (fun _ _ _ h => h) (Or.inl ⟨by kernel_rfl, ?_⟩) (by assumption) ?_); rotate_left 1; (focus (intro w hSw; (try dsimp only at hSw); go_simp; (try with_reducible rfl))); (try simp only [Act.put, sA, sB, sC])); ((refine wpAnyH_take (i := 1) (v := ?_) rfl (by kernel_rfl) (by kernel_rfl) (by kernel_rfl) (fun _ _ _ h => h) (Or.inl ⟨by kernel_rfl, ?_⟩) (by assumption) ?_); rotate_left 1; (focus (intro w hSw; (try dsimp only at hSw); go_simp; (try with_reducible rfl))); (try simp only [Act.put, sA, sB, sC])); ((refine wpAnyH_take (i := 2) (v := ?_) rfl (by kernel_rfl) (by kernel_rfl) (by kernel_rfl) (fun _ _ _ h => h) (Or.inl ⟨by kernel_rfl, ?_⟩) (by assumption) ?_); rotate_left 1; (focus (intro w hSw; (try dsimp only at hSw); go_simp; (try with_reducible rfl))); (try simp only [Act.put, sA, sB, sC])); ((refine wpAnyH_take (i := 3) (v := ?_) rfl (by kernel_rfl) (by kernel_rfl) (by kernel_rfl) (fun _ _ _ h => h) (Or.inl ⟨by kernel_rfl, ?_⟩) (by assumption) ?_); rotate_left 1; (focus (intro w hSw; (try dsimp only at hSw); go_simp; (try with_reducible rfl))); (try simp only [Act.put, sA, sB, sC])); ((refine wpAnyH_take (i := 4) (v := ?_) rfl (by kernel_rfl) (by kernel_rfl) (by kernel_rfl) (fun _ _ _ h => h) (Or.inl ⟨by kernel_rfl, ?_⟩) (by assumption) ?_); rotate_left 1; (focus (intro w hSw; (try dsimp only at hSw); go_simp; (try with_reducible rfl))); (try simp only [Act.put, sA, sB, sC])); ((refine wpAnyH_take (i := 5) (v := ?_) rfl (by kernel_rfl) (by kernel_rfl) (by kernel_rfl) (fun _ _ _ h => h) (Or.inl ⟨by kernel_rfl, ?_⟩) (by assumption) ?_); rotate_left 1; (focus (intro w hSw; (try dsimp only at hSw); go_simp; (try with_reducible rfl))); (try simp only [Act.put, sA, sB, sC])); ((refine wpAnyH_take (i := 6) (v := ?_) rfl (by kernel_rfl) (by kernel_rfl) (by kernel_rfl) (fun _ _ _ h => h) (Or.inl ⟨by kernel_rfl, ?_⟩) (by assumption) ?_); rotate_left 1; (focus (intro w hSw; (try dsimp only at hSw); go_simp; (try with_reducible rfl))); (try simp only [Act.put, sA, sB, sC])); ((refine wpAnyH_take (i := 7) (v := ?_) rfl (by kernel_rfl) (by kernel_rfl) (by kernel_rfl) (fun _ _ _ h => h) (Or.inl ⟨by kernel_rfl, ?_⟩) (by assumption) ?_); rotate_left 1; (focus (intro w hSw; (try dsimp only at hSw); go_simp; (try with_reducible rfl))); (try simp only [Act.put, sA, sB, sC])); ((refine wpAnyH_take (i := 8) (v := ?_) rfl (by kernel_rfl) (by kernel_rfl) (by kernel_rfl) (fun _ _ _ h => h) (Or.inl ⟨by kernel_rfl, ?_⟩) (by assumption) ?_); rotate_left 1; (focus (intro w hSw; (try dsimp only at hSw); go_simp; (try with_reducible rfl))); (try simp only [Act.put, sA, sB, sC])); ((refine wpAnyH_take (i := 9) (v := ?_) rfl (by kernel_rfl) (by kernel_rfl) (by kernel_rfl) (fun _ _ _ h => h) (Or.inl ⟨by kernel_rfl, ?_⟩) (by assumption) ?_); rotate_left 1; (focus (intro w hSw; (try dsimp only at hSw); go_simp; (try with_reducible rfl))); (try simp only [Act.put, sA, sB, sC])); ((refine wpAnyH_take (i := 10) (v := ?_) rfl (by kernel_rfl) (by kernel_rfl) (by kernel_rfl) (fun _ _ _ h => h) (Or.inl ⟨by kernel_rfl, ?_⟩) (by assumption) ?_); rotate_left 1; (focus (intro w hSw; (try dsimp only at hSw); go_simp; (try with_reducible rfl))); (try simp only [Act.put, sA, sB, sC])); ((refine wpAnyH_take (i := 11) (v := ?_) rfl (by kernel_rfl) (by kernel_rfl) (by kernel_rfl) (fun _ _ _ h => h) (Or.inl ⟨by kernel_rfl, ?_⟩) (by assumption) ?_); rotate_left 1; (focus (intro w hSw; (try dsimp only at hSw); go_simp; (try with_reducible rfl))); (try simp only [Act.put, sA, sB, sC])); ((refine wpAnyH_take (i := 12) (v := ?_) rfl (by kernel_rfl) (by kernel_rfl) (by kernel_rfl) (fun _ _ _ h => h) (Or.inl ⟨by kernel_rfl, ?_⟩) (by assumption) ?_); rotate_left 1; (focus (intro w hSw; (try dsimp only at hSw); go_simp; (try with_reducible rfl))); (try simp only [Act.put, sA, sB, sC])); ((refine wpAnyH_take (i := 13) (v := ?_) rfl (by kernel_rfl) (by kernel_rfl) (by kernel_rfl) (fun _ _ _ h => h) (Or.inl ⟨by kernel_rfl, ?_⟩) (by assumption) ?_); rotate_left 1; (focus (intro w hSw; (try dsimp only at hSw); go_simp; (try with_reducible rfl))); (try simp only [Act.put, sA, sB, sC])))
            (((refine wpAnyH_ready (rs := [14]) (by kernel_rfl) (by simp) ?_); (refine AllReadyH.cons rfl (fun K hK => ?_) AllReadyH.nil); (rw [if_pos (by kernel_rfl)]); go_simp))
            refine HCP.out.mono ?_
            rintro e wn ⟨A5, n5, c5, A6, n6, c6, rfl, hO5, hO6, hap5, hEn⟩
            unfold flV
            replace hEa := hEa.trans hEn
            refine hK _ _ (HS.out _ (HE2r.out.trans hEa)) (fun hh => ?_)
            clear hK K hHeld
            have hHeld := hh
            clear hh hEn
            (try simp only [List.getElem_toArray, List.getElem_cons_succ, List.getElem_cons_zero, Act.put, sA, sB, sC])
            (((refine wpAnyH_take (i := 15) (v := ?_) rfl (by kernel_rfl) (by kernel_rfl) (by kernel_rfl) (fun _ _ _ h => h) (Or.inl ⟨by kernel_rfl, ?_⟩) (by assumption) ?_); rotate_left 1; (focus (intro w hSw; (try dsimp only at hSw); go_simp; (try with_reducible rfl))); (try simp only [Act.put, sA, sB, sC])))
            have hRn := HRR.out.e hEa
            obtain ⟨r0, r1, r2, r3, r4, r5, r6, r7, r8, r9, r10⟩ := hRn.cells HP0.out
            have z0 := hRn.frz (i * 11)
            have z1 := hRn.frz (i * 11 + 1)
            have z2 := hRn.frz (i * 11 + 2)
            have z3 := hRn.frz (i * 11 + 3)
            have z4 := hRn.frz (i * 11 + 4)
            have z5 := hRn.frz (i * 11 + 5)
            have z6 := hRn.frz (i * 11 + 6)
            have z7 := hRn.frz (i * 11 + 7)
            have z8 := hRn.frz (i * 11 + 8)
            have z9 := hRn.frz (i * 11 + 9)
            have z10 := hRn.frz (i * 11 + 10)
            have hgl := (HRR.out.ltN bR rfl).2
            have hput := hRn.put HIK.out (f, (A5, n5, c5), (A6, n6, c6)) HWF.out ⟨hO5.reads, hO6.reads⟩ (fun _ e => by have := (hO5.ltN _ e).1; simp at this; omega) (fun _ e => by have := (hO6.ltN _ e).1; simp at this; omega)
            have hE9n := (HER.out.trans hEa).set11 (g := bR) (by rw [hbR]; exact Nat.le_refl _) (i * 11) f (A5, n5, c5) (A6, n6, c6)
            have hE2n := (HE2r.out.trans hEa).set11 (g := bR) (by have := HE9.out.size; omega) (i * 11) f (A5, n5, c5) (A6, n6, c6)
            (try simp only at hput hE9n hE2n)
            have HPUT := Lib.hid hput
            have HSN := Lib.hid (show SlFrom bR (qr.set i (f, (A5, n5, c5), (A6, n6, c6))) from fun p hp => by
              rcases List.mem_or_eq_of_mem_set hp with hp | rfl
              · exact HSL.out p hp
              · exact ⟨fun b hb => by have := (hO5.ltN b hb).1; simp at this; omega, fun b hb => by have := (hO6.ltN b hb).1; simp at this; omega⟩)
            have HE9N := Lib.hid hE9n
            have SL := Lib.hid (HS.out _ hE2n)
            clear hput hE9n hE2n hO5 hO6 hap5 hgl
            clear hHeld
            (((refine wpAnyH_ready (rs := [16]) (by kernel_rfl) (by simp) ?_); (refine AllReadyH.cons rfl (fun K hK => ?_) AllReadyH.nil); (rw [if_pos (by kernel_rfl)]); go_simp))
            refine hK _ _ SL.out (fun hh2 => ?_)
            clear hK K hh2
            (try simp only [Act.put, sA, sB, sC])
            refine wpAnyH_done (by kernel_rfl) ?_ _
            go_simp
            clear r0 r1 r2 r3 r4 r5 r6 r7 r8 r9 r10 z0 z1 z2 z3 z4 z5 z6 z7 z8 z9 z10
            go_wp2_with fail
            go_roundw
            case rel => exact ⟨i + 1, _, by have := HIK.out; omega, by go_num, HPUT.out, HKQ.out _ _, HSN.out, HE9N.out⟩
            case measure => have := HIK.out; simp [intOf]; omega
          · have HF := Lib.hid (show qr.map Prod.fst = sids.map fun j => (getF fs j).getD zeroFl from by
              have h1 := hq.out
              have h2 := HO9.out.1
              rw [List.take_of_length_le (by rw [List.length_map, hR.1]; omega), List.take_of_length_le (by rw [List.length_map]; omega)] at h1
              exact h1)
            have HRR := Lib.hid hR
            have HER := Lib.hid hEr
            clear hq hR hEr
            go_wp2_with fail
            go_ret2
            refine ⟨((HE1.out.trans HE2.out).trans HE9.out).trans HER.out, .inr ⟨HBV.out, _, _, _, _, HDS.out, rfl, HRR.out.flows.cast HF.out, fun Y W hY hyl => ?_⟩⟩
            have hlo := (((HE1.out.trans HE2.out).trans HE9.out)).size
            have hlo2 : w.heap.size ≤ bR := by rw [← hbR]; exact hlo
            refine (HRR.out.exX hY (fun b hb hy => by have := (HRR.out.ltN b hb).1; have := hyl b hy; omega) (fun p hp => ⟨fun _ b hb hy => by have := (HSL.out p hp).1 b hb; have := hyl b hy; omega, fun _ b hb hy => by have := (HSL.out p hp).2 b hb; have := hyl b hy; omega⟩)).flows.cast HF.out
theorem gDerive_c (X : Nat → Prop) (g : Nat) (fs : List Fl) (x : Lt) (w : World) (h : GraphAt w X g fs) (hx : WfL x) (hz : ∀ f ∈ fs, f.parts.length ≤ 100000 ∧ f.made.length ≤ 100000) (hn : fs.length ≤ 1000) :
    Calls Tryz.prog 9 #[.pointer (some ⟨g, 0, none⟩), ltV x] w (RetDer w fs x) := (gDeriveS_c X g fs x w h hx hz hn).mono fun _ _ h => h.plain
end Go.Proofs.YtmeplpiamkaniaaGreat
namespace Go.Proofs.YtmeplpiamkaniaaGreat
set_option linter.unusedVariables false
set_option linter.unusedSimpArgs false
open Go.RowKit
set_option linter.unusedSimpArgs false in
set_option maxHeartbeats 2000000 in
theorem refOf_c (A : Option Addr) (n c : Nat) (fs : List Fl) (x : Lt) (w : World) (h : FlowsAt w A n c fs) (hx : WfL x) :
    Calls Tryz.prog 45 #[.slice A n c, ltV x] w (RetK w (hasF fs x)) := by
  obtain ⟨w1, hw1⟩ : ∃ w1, w.alloc (.cells #[.int .i64 x.1, .int .i64 x.2.1, .int .i64 x.2.2] 30) = w1 := ⟨_, rfl⟩
  have hE1 : E w w1 := by rw [← hw1]; exact (E.refl w).alloc _
  have hx3 := cells3_new w (.int .i64 x.1) (.int .i64 x.2.1) (.int .i64 x.2.2) 30
  rw [hw1] at hx3
  have HZ1 := Lib.hid (show w.heap.size < w1.heap.size by rw [← hw1]; simp)
  obtain ⟨w2, hw2⟩ : ∃ w2, w1.alloc (.cells #[.int .i64 x.1, .int .i64 x.2.1, .int .i64 x.2.2] 30) = w2 := ⟨_, rfl⟩
  have hE2 : E w1 w2 := by rw [← hw2]; exact (E.refl w1).alloc _
  have HV := Lib.hid (refValid_c (some ⟨w1.heap.size, 0, none⟩) 1 1 [x] w2 (by rw [← hw2]; exact lots_box hx))
  have HFI := Lib.hid (find_c A n c fs x.1 w1 (h.e hE1))
  have HE1 := Lib.hid hE1
  have HE2 := Lib.hid hE2
  have HX3 := Lib.hid hx3
  have HA := Lib.hid h
  obtain ⟨res, hres⟩ : ∃ res, hasF fs x = res := ⟨_, rfl⟩
  have HR := Lib.hid hres
  obtain ⟨bv, hbv⟩ : ∃ bv, validB [x] = bv := ⟨_, rfl⟩
  have HBV := Lib.hid hbv
  obtain ⟨fi, hfi⟩ : ∃ fi, findI fs x.1 = fi := ⟨_, rfl⟩
  have HFE := Lib.hid hfi
  rw [hbv] at HV
  rw [hfi] at HFI
  rw [hres]
  obtain ⟨c0, c1, c2⟩ := hx3
  clear h hE1 hE2 hres hbv hx hfi
  unfold ltV
  cases bv
  · have HF := Lib.hid (show res = false by rw [← HR.out, hasF, HBV.out]; rfl)
    go_enter Tryz.func45, Tryz.ntmps45
    go_upto_region 1 with fail
    try rw [hw1]
    clear hw1
    go_upto_region 3 with (first | (go_at_call 69; refine HFI.out.mono ?_; rintro e wx ⟨rfl, rfl⟩) | (go_at_call 71; (try rw [hw2]); refine HV.out.mono ?_; rintro e w3 ⟨rfl, hE3⟩))
    clear c0 c1 c2
    (refine wp_region_quiet_lit (by kernel_rfl) (by kernel_rfl) ?_; (repeat (first | ((with_reducible refine wpQuiet_step (fun K hK => ?_)); go_simp; (with_reducible refine hK _ ?_); clear hK K) | ((with_reducible refine wpQuiet_off (by kernel_rfl) (fun K hK => ?_)); go_simp; (with_reducible refine hK _ ?_); clear hK K))); (with_reducible refine wpQuiet_nil ?_); intro _ hw'; obtain ⟨nq, hw''⟩ := hw'; subst hw'')
    go_wp2_with fail
    go_ret
    exact ⟨ret_bool HF.out.symm, ((HE1.out.trans HE2.out).trans hE3).drewN _⟩
  · have hpx := possB_iff.1 ((validB_iff.1 HBV.out).2 x (by simp))
    have hwr : IntKind.i64.wrap (x.2.1 + x.2.2) = x.2.1 + x.2.2 := by rw [IntKind.wrap_i64]; omega
    cases hp : posF fs x.1 with
    | none =>
      have hf1 : fi = -1 := by rw [← HFE.out, findI, hp]
      have HF := Lib.hid (show res = false by rw [← HR.out, hasF, HBV.out, posF_none.1 hp]; rfl)
      subst hf1
      clear hp
      go_enter Tryz.func45, Tryz.ntmps45
      go_upto_region 1 with fail
      try rw [hw1]
      clear hw1
      go_upto_region 3 with (first | (go_at_call 69; refine HFI.out.mono ?_; rintro e wx ⟨rfl, rfl⟩) | (go_at_call 71; (try rw [hw2]); refine HV.out.mono ?_; rintro e w3 ⟨rfl, hE3⟩))
      clear c0 c1 c2
      (refine wp_region_quiet_lit (by kernel_rfl) (by kernel_rfl) ?_; (repeat (first | ((with_reducible refine wpQuiet_step (fun K hK => ?_)); go_simp; (with_reducible refine hK _ ?_); clear hK K) | ((with_reducible refine wpQuiet_off (by kernel_rfl) (fun K hK => ?_)); go_simp; (with_reducible refine hK _ ?_); clear hK K))); (with_reducible refine wpQuiet_nil ?_); intro _ hw'; obtain ⟨nq, hw''⟩ := hw'; subst hw'')
      go_wp2_with fail
      go_ret
      exact ⟨ret_bool HF.out.symm, ((HE1.out.trans HE2.out).trans hE3).drewN _⟩
    | some j =>
      have hf1 : fi = (j : Int) := by rw [← HFE.out, findI, hp]
      obtain ⟨f0, hq0, hgf, _⟩ := posF_some hp
      have hjn : j < n := by rw [← HA.out.len]; exact (List.getElem?_eq_some_iff.1 hq0).1
      have HF := Lib.hid (show res = decide (x.2.1 + x.2.2 ≤ f0.n) by rw [← HR.out, hasF, HBV.out, hgf]; rfl)
      subst hf1
      clear hp
      go_enter Tryz.func45, Tryz.ntmps45
      go_upto_region 1 with fail
      try rw [hw1]
      clear hw1
      go_upto_region 3 with (first | (go_at_call 69; refine HFI.out.mono ?_; rintro e wx ⟨rfl, rfl⟩) | (go_at_call 71; (try rw [hw2]); refine HV.out.mono ?_; rintro e w3 ⟨rfl, hE3⟩))
      clear c0 c1 c2
      have hE23 := HE2.out.trans hE3
      have hEw := HE1.out.trans hE23
      obtain ⟨b3, o3, f, s3, t3, hAe, hb3, hq, _, hcq, _⟩ := (HA.out.e hEw).get hjn
      rw [hq0] at hq
      injection hq with hq
      subst hq
      unfold FlCells at hcq
      obtain ⟨_, _, _, _, _, _, _, _, q8, _, _⟩ := hcq
      have hjI : (j : Int) < (n : Int) := by omega
      have hn63 := HA.out.n63
      have hc0 := (hE23.cell (p := ⟨w.heap.size, 0, none⟩) HZ1.out).trans HX3.out.1
      have hc1 := (hE23.cell (p := ⟨w.heap.size, 1, none⟩) HZ1.out).trans HX3.out.2.1
      have hc2 := (hE23.cell (p := ⟨w.heap.size, 2, none⟩) HZ1.out).trans HX3.out.2.2
      have HEW := Lib.hid hEw
      subst hAe
      clear hE23 hEw hgf hjn hq0
      have hmx : max (j : Int) 0 = (j : Int) := by omega
      have hmi : (if (j : Int) < 0 then 0 else (j : Int)) = (j : Int) := by rw [if_neg (by omega)]
      (refine wp_region_quiet_lit (by kernel_rfl) (by kernel_rfl) ?_; (repeat (first | ((with_reducible refine wpQuiet_step (fun K hK => ?_)); go_simp; (with_reducible refine hK _ ?_); clear hK K) | ((with_reducible refine wpQuiet_off (by kernel_rfl) (fun K hK => ?_)); go_simp; (with_reducible refine hK _ ?_); clear hK K))); (with_reducible refine wpQuiet_nil ?_); intro _ hw'; obtain ⟨nq, hw''⟩ := hw'; subst hw'')
      go_wp2_with fail
      go_ret
      exact ⟨ret_bool HF.out.symm, HEW.out.drewN _⟩
end Go.Proofs.YtmeplpiamkaniaaGreat
namespace Go.Proofs.YtmeplpiamkaniaaGreat
set_option linter.unusedVariables false
set_option linter.unusedSimpArgs false
open Go.RowKit
set_option linter.unusedSimpArgs false in
set_option maxHeartbeats 16000000 in
set_option maxRecDepth 100000 in
theorem refDerive_c (A0 : Option Addr) (n0 c0 : Nat) (fs : List Fl) (x : Lt) (w : World) (h : FlowsAt w A0 n0 c0 fs) (hg : GOk fs) (hx : WfL x) (hz : ∀ f ∈ fs, f.parts.length ≤ 100000 ∧ f.made.length ≤ 100000) (hn : n0 ≤ 1000) :
    Calls Tryz.prog 25 #[.slice A0 n0 c0, ltV x] w (RetDer w fs x) := by
  obtain ⟨w1, hw1⟩ : ∃ w1, w.alloc (.cells #[.int .i64 x.1, .int .i64 x.2.1, .int .i64 x.2.2] 30) = w1 := ⟨_, rfl⟩
  have hE1 : E w w1 := by rw [← hw1]; exact (E.refl w).alloc _
  have hx3 := cells3_new w (.int .i64 x.1) (.int .i64 x.2.1) (.int .i64 x.2.2) 30
  rw [hw1] at hx3
  have HZ1 := Lib.hid (show w.heap.size < w1.heap.size by rw [← hw1]; simp)
  have HH := Lib.hid (refOf_c A0 n0 c0 fs x w1 (h.e hE1) hx)
  have HA := Lib.hid h
  have HE1 := Lib.hid hE1
  have HX3 := Lib.hid hx3
  have HX := Lib.hid hx
  have HOK := Lib.hid hg
  have HZ := Lib.hid hz
  have HN := Lib.hid hn
  have HL := Lib.hid h.len
  have hn63 := h.n63
  obtain ⟨c00, c1, c2⟩ := hx3
  obtain ⟨bv, hbv⟩ : ∃ bv, hasF fs x = bv := ⟨_, rfl⟩
  have HBV := Lib.hid hbv
  rw [hbv] at HH
  clear hE1 hx hbv hz hg h hn
  unfold ltV at *
  cases bv
  · go_enter Tryz.func25, Tryz.ntmps25
    go_upto_region 1 with fail
    try rw [hw1]
    clear hw1
    go_wp2_with (go_at_call 45; refine HH.out.mono ?_; rintro e w3 ⟨rfl, hE3⟩)
    go_ret2
    exact ⟨HE1.out.trans hE3, .inl ⟨HBV.out, rfl⟩⟩
  · obtain ⟨_, f0, hgf0, _⟩ := hasF_iff.1 HBV.out
    have HGF := Lib.hid hgf0
    clear hgf0
    have HREF := Lib.hid (show ∀ f ∈ fs, ∀ j ∈ refsF f, ∃ q, getF fs j = some q from fun f hf j hj => HOK.out.refs hf hj)
    go_enter Tryz.func25, Tryz.ntmps25
    go_upto_region 1 with fail
    try rw [hw1]
    clear hw1
    go_upto_region 4 with (go_at_call 45; refine HH.out.mono ?_; rintro e w2 ⟨rfl, hE2⟩)
    clear c00 c1 c2
    have HE2 := Lib.hid hE2
    have HS := Lib.hid (show ∀ W, E w2 W → W.cell? ⟨w.heap.size, 0, none⟩ = some (.int .i64 x.1) from fun W hW => ((hE2.trans hW).cell (p := ⟨w.heap.size, 0, none⟩) HZ1.out).trans HX3.out.1)
    have HLD := Lib.hid (fun W (hW : E w2 W) => leads_c A0 n0 c0 fs x.1 W (HA.out.e (HE1.out.trans (HE2.out.trans hW))) HREF.out ⟨f0, HGF.out⟩ HX.out.1 HN.out HZ.out)
    go_cut [7] (fun t7 wx => ∃ A n c l, t7 = .slice A n c ∧ Sorted (fun j => j = x.1 ∨ Lead1 fs x.1 j) l ∧ Nums .i64 wx A n c l ∧ E w2 wx)
    case first =>
      have HAPP := Lib.hid (fun (W X : World) A8 n8 c8 out (bX : Nat) (hO : Own .i64 3 X W.heap.size A8 n8 c8 out) (hW : E w2 W) (hWX : E W X) (hbx : X.cell? ⟨bX, 0, none⟩ = some (.int .i64 x.1)) (hol : out.length ≤ fs.length) (hmem : ∀ j, j ∈ out ↔ Lead1 fs x.1 j) =>
        show ∃ A9 c9 W9, (Builtin.append_ #[22, 22] 22 #[.slice A8 n8 c8, .slice (some ⟨bX, 0, none⟩) 1 1]).run Tryz.prog X = .ok (.slice A9 (n8 + 1) c9) W9 ∧ E w2 W9 ∧ Calls Tryz.prog 67 #[.slice A9 (n8 + 1) c9] W9 (fun e w' => ∃ A n c l, e = .returned (.slice A n c) ∧ Sorted (fun j => j = x.1 ∨ Lead1 fs x.1 j) l ∧ Nums .i64 w' A n c l ∧ E w2 w') from by
          have hN : Nums .i64 X (some ⟨bX, 0, none⟩) 1 1 [x.1] := ⟨rfl, Nat.le_refl _, by unfold maxLen; omega, by intro y hy; simp at hy; subst hy; exact HX.out.1, fun _ => ⟨bX, 0, rfl, World.block_lt_of_cell? X _ hbx, fun i hi => by
            have : i = 0 := by simpa using hi
            subst this; exact hbx⟩⟩
          have hn8 := hO.1
          have hn0 := HN.out
          have hl0 := HL.out
          obtain ⟨A9, c9, W9, hrun, hO9, hG9, _⟩ := run_appN intTk X 22 W.heap.size A8 n8 c8 out hO _ 1 1 [x.1] hN (by omega) hWX.le
          rw [ob_eq] at hG9
          have hE9 : E w2 W9 := (hW.trans hWX).grown hG9 (fun k hk => by have := (hO.ltN k hk).1; have := hW.size; omega)
          refine ⟨A9, c9, W9, hrun, hE9, (sortedI_c A9 (n8 + 1) c9 (out ++ [x.1]) W9 hO9.reads (by omega)).mono ?_⟩
          rintro e w' ⟨A, n, c, rfl, hO', hE'⟩
          have hs := sortI_sorted (out ++ [x.1])
          exact ⟨A, n, c, _, rfl, ⟨hs.srt, fun j => by rw [hs.mem, List.mem_append, List.mem_singleton, hmem, or_comm]⟩, hO'.reads, hE9.trans hE'⟩)
      have hEa := (E.refl w2).drew
      refine wp_region_held_drew (S := fun W => W.cell? ⟨w.heap.size, 0, none⟩ = some (.int .i64 x.1)) (by kernel_rfl) (HS.out _ hEa) (fun hHeld => ?_)
      (((refine wpAnyH_take (i := 0) (v := ?_) rfl (by kernel_rfl) (by kernel_rfl) (by kernel_rfl) (fun _ _ _ h => h) (Or.inl ⟨by kernel_rfl, ?_⟩) (by assumption) ?_); rotate_left 1; (focus (intro w hSw; (try dsimp only at hSw); go_simp; (try with_reducible rfl))); (try simp only [Act.put, sA, sB, sC])); ((refine wpAnyH_take (i := 1) (v := ?_) rfl (by kernel_rfl) (by kernel_rfl) (by kernel_rfl) (fun _ _ _ h => h) (Or.inl ⟨by kernel_rfl, ?_⟩) (by assumption) ?_); rotate_left 1; (focus (intro w hSw; (try dsimp only at hSw); go_simp; (try with_reducible rfl))); (try simp only [Act.put, sA, sB, sC])); ((refine wpAnyH_take (i := 2) (v := ?_) rfl (by kernel_rfl) (by kernel_rfl) (by kernel_rfl) (fun _ _ _ h => h) (Or.inl ⟨by kernel_rfl, ?_⟩) (by assumption) ?_); rotate_left 1; (focus (intro w hSw; (try dsimp only at hSw); go_simp; (try with_reducible rfl))); (try simp only [Act.put, sA, sB, sC])); ((refine wpAnyH_take (i := 4) (v := ?_) rfl (by kernel_rfl) (by kernel_rfl) (by kernel_rfl) (fun _ _ _ h => h) (Or.inl ⟨by kernel_rfl, ?_⟩) (by assumption) ?_); rotate_left 1; (focus (intro w hSw; (try dsimp only at hSw); go_simp; (try with_reducible rfl))); (try simp only [Act.put, sA, sB, sC])); ((refine wpAnyH_take (i := 5) (v := ?_) rfl (by kernel_rfl) (by kernel_rfl) (by kernel_rfl) (fun _ _ _ h => h) (Or.inl ⟨by kernel_rfl, ?_⟩) (by assumption) ?_); rotate_left 1; (focus (intro w hSw; (try dsimp only at hSw); go_simp; (try with_reducible rfl))); (try simp only [Act.put, sA, sB, sC])))
      refine wpAnyH_ready (rs := [3, 6]) (by kernel_rfl) (by simp) ?_
      refine AllReadyH.cons rfl (fun K hK => ?_) (AllReadyH.cons rfl (fun K hK => ?_) AllReadyH.nil)
      · rw [if_pos (by kernel_rfl)]
        go_simp
        refine (HLD.out _ hEa).mono ?_
        rintro e wn ⟨out, hnd, hmem, hol, A8, n8, c8, rfl, hO8, hEn⟩
        have hEb := hEa.trans hEn
        refine hK _ _ (HS.out _ hEb) (fun hh => ?_)
        clear hK K hHeld
        have hHeld := hh
        clear hh
        (try simp only [List.getElem_toArray, List.getElem_cons_succ, List.getElem_cons_zero, Act.put, sA, sB, sC])
        obtain ⟨X, hX⟩ : ∃ X, wn.alloc (.cells #[.int .i64 x.1] 3) = X := ⟨_, rfl⟩
        have hEX : E wn X := by rw [← hX]; exact (E.refl wn).alloc _
        obtain ⟨A9, c9, W9, hrun, hE9, hC9⟩ := HAPP.out w2.drew X A8 n8 c8 out wn.heap.size (hO8.e hEX) hEa (hEn.trans hEX) (by rw [← hX]; exact cell_new _ _ _) hol hmem
        have HC9 := Lib.hid hC9
        have sX := HS.out X (hEb.trans hEX)
        have s9 := HS.out W9 hE9
        clear hC9 hO8 hnd hmem hol
        (((refine wpAnyH_ready (rs := [6]) (by kernel_rfl) (by simp) ?_); (refine AllReadyH.cons rfl (fun K hK => ?_) AllReadyH.nil); (rw [if_pos (by kernel_rfl)]); go_simp))
        (try rw [hX])
        refine hK _ _ sX (fun hh => ?_)
        clear hK K hHeld
        have hHeld := hh
        clear hh
        (try simp only [List.getElem_toArray, List.getElem_cons_succ, List.getElem_cons_zero, Act.put, sA, sB, sC])
        refine wpAnyH_ready (rs := [7]) (by kernel_rfl) (by simp) ?_
        refine AllReadyH.cons rfl (fun K hK => ?_) AllReadyH.nil
        refine step_app_runQ (by rfl) _ _ (by rfl) (by rfl) (by rfl) hrun ?_
        refine hK _ _ s9 (fun hh => ?_)
        clear hK K hHeld
        have hHeld := hh
        clear hh
        (try simp only [List.getElem_toArray, List.getElem_cons_succ, List.getElem_cons_zero, Act.put, sA, sB, sC])
        (((refine wpAnyH_ready (rs := [8]) (by kernel_rfl) (by simp) ?_); (refine AllReadyH.cons rfl (fun K hK => ?_) AllReadyH.nil); (rw [if_pos (by kernel_rfl)]); go_simp))
        refine HC9.out.mono ?_
        rintro e wz ⟨A, n, c, l, rfl, hs, hN, hEz⟩
        refine hK _ _ (HS.out _ hEz) (fun hh => ?_)
        clear hK K hHeld
        have hHeld := hh
        clear hh
        (try simp only [List.getElem_toArray, List.getElem_cons_succ, List.getElem_cons_zero, Act.put, sA, sB, sC])
        (((refine wpAnyH_take (i := 9) (v := ?_) rfl (by kernel_rfl) (by kernel_rfl) (by kernel_rfl) (fun _ _ _ h => h) (Or.inl ⟨by kernel_rfl, ?_⟩) (by assumption) ?_); rotate_left 1; (focus (intro w hSw; (try dsimp only at hSw); go_simp; (try with_reducible rfl))); (try simp only [Act.put, sA, sB, sC])))
        refine wpAnyH_done (by kernel_rfl) ?_ _
        go_simp
        clear hHeld sX s9 hrun
        go_wp2_with fail
        go_meet
        exact ⟨A, n, c, l, rfl, hs, hN, hEz⟩
      · rw [if_pos (by kernel_rfl)]
        go_simp
        obtain ⟨X, hX⟩ : ∃ X, (w2.alloc (.cells #[.int .i64 x.1] 3)).drew = X := ⟨_, rfl⟩
        have hEX : E w2 X := by rw [← hX]; exact ((E.refl w2).alloc _).drew
        have hcX : X.cell? ⟨w2.heap.size, 0, none⟩ = some (.int .i64 x.1) := by rw [← hX]; exact cell_new w2 _ _
        have hsX : w2.heap.size < X.heap.size := by rw [← hX]; simp
        (try rw [hX])
        refine hK _ _ (HS.out _ hEX) (fun hh => ?_)
        clear hK K hHeld
        have hHeld := hh
        clear hh
        (try simp only [List.getElem_toArray, List.getElem_cons_succ, List.getElem_cons_zero, Act.put, sA, sB, sC])
        (((refine wpAnyH_ready (rs := [3]) (by kernel_rfl) (by simp) ?_); (refine AllReadyH.cons rfl (fun K hK => ?_) AllReadyH.nil); (rw [if_pos (by kernel_rfl)]); go_simp))
        refine (HLD.out _ hEX).mono ?_
        rintro e wn ⟨out, hnd, hmem, hol, A8, n8, c8, rfl, hO8, hEn⟩
        obtain ⟨A9, c9, W9, hrun, hE9, hC9⟩ := HAPP.out X wn A8 n8 c8 out w2.heap.size hO8 hEX hEn ((hEn.cell (p := ⟨w2.heap.size, 0, none⟩) hsX).trans hcX) hol hmem
        have HC9 := Lib.hid hC9
        have s9 := HS.out W9 hE9
        refine hK _ _ (HS.out _ (hEX.trans hEn)) (fun hh => ?_)
        clear hK K hHeld hC9 hO8 hnd hmem hol
        have hHeld := hh
        clear hh
        (try simp only [List.getElem_toArray, List.getElem_cons_succ, List.getElem_cons_zero, Act.put, sA, sB, sC])
        refine wpAnyH_ready (rs := [7]) (by kernel_rfl) (by simp) ?_
        refine AllReadyH.cons rfl (fun K hK => ?_) AllReadyH.nil
        refine step_app_runQ (by rfl) _ _ (by rfl) (by rfl) (by rfl) hrun ?_
        refine hK _ _ s9 (fun hh => ?_)
        clear hK K hHeld
        have hHeld := hh
        clear hh
        (try simp only [List.getElem_toArray, List.getElem_cons_succ, List.getElem_cons_zero, Act.put, sA, sB, sC])
        (((refine wpAnyH_ready (rs := [8]) (by kernel_rfl) (by simp) ?_); (refine AllReadyH.cons rfl (fun K hK => ?_) AllReadyH.nil); (rw [if_pos (by kernel_rfl)]); go_simp))
        refine HC9.out.mono ?_
        rintro e wz ⟨A, n, c, l, rfl, hs, hN, hEz⟩
        refine hK _ _ (HS.out _ hEz) (fun hh => ?_)
        clear hK K hHeld
        have hHeld := hh
        clear hh
        (try simp only [List.getElem_toArray, List.getElem_cons_succ, List.getElem_cons_zero, Act.put, sA, sB, sC])
        (((refine wpAnyH_take (i := 9) (v := ?_) rfl (by kernel_rfl) (by kernel_rfl) (by kernel_rfl) (fun _ _ _ h => h) (Or.inl ⟨by kernel_rfl, ?_⟩) (by assumption) ?_); rotate_left 1; (focus (intro w hSw; (try dsimp only at hSw); go_simp; (try with_reducible rfl))); (try simp only [Act.put, sA, sB, sC])))
        refine wpAnyH_done (by kernel_rfl) ?_ _
        go_simp
        clear hHeld s9 hrun hcX hX
        go_wp2_with fail
        go_meet
        exact ⟨A, n, c, l, rfl, hs, hN, hEz⟩
    case rest =>
      obtain ⟨A, n, c, l, rfl, hs, hNl, hE4⟩ := hcut
      generalize wc = w4 at *
      have hget : ∀ j ∈ l, ∃ q, getF fs j = some q := fun j hj => by
        rcases (hs.mem j).1 hj with e | e
        · rw [e]; exact ⟨f0, HGF.out⟩
        · exact e.get HREF.out
      have HDS := Lib.hid (show DerOf fs x.1 (l.map fun j => (getF fs j).getD zeroFl) from der_of HOK.out.ids hs (map_getD hget))
      have HSG := Lib.hid hget
      have HNL := Lib.hid hNl
      have HE4 := Lib.hid hE4
      have hnl := hNl.n63
      have hlen : n ≤ 1000 := by
        have h1 := HDS.out.len HOK.out.ids
        rw [List.length_map, hNl.len] at h1
        have := HL.out
        have := HN.out
        omega
      have HLN := Lib.hid hlen
      have HF4 := Lib.hid (HA.out.e (HE1.out.trans (HE2.out.trans hE4)))
      clear hs hNl hE4 hget hlen HLD
      go_upto_region 7 with fail
      go_loopw [8, 9] (fun t8 t9 wr => ∃ (i c5 : Nat) (A5 : Option Addr) (q : List FlSl), i ≤ n ∧ t9 = .int .i64 i ∧ t8 = .slice A5 i c5 ∧ FRow wr w4.heap.size A5 i c5 q ∧ E w4 wr ∧ Hid (q.map Prod.fst = (l.map fun j => (getF fs j).getD zeroFl).take i)) (fun _ t9 _ => n - (intOf t9).toNat)
      case atStart => exact ⟨0, 0, none, [], Nat.zero_le _, rfl, rfl, FRow.nil _ _, E.refl _, by rw [List.take_zero]; rfl⟩
      case round =>
        obtain ⟨i, c5, A5, q, hi, rfl, rfl, hF, hE, hq⟩ := hrel
        by_cases hlt : i < n
        · have hiI : (i : Int) < (n : Int) := by omega
          obtain ⟨bI, oI, y, hAe, _, hy, hwy, hcy⟩ := (HNL.out.e hE).get hlt
          obtain ⟨f, hf⟩ := HSG.out y (List.mem_of_getElem? hy)
          obtain ⟨m, hm⟩ := pos_some hf
          obtain ⟨f', hfq, hf', hida⟩ := posF_some hm
          rw [hf] at hf'
          injection hf' with hf'
          subst hf'
          clear hida
          have hmn : m < n0 := by rw [← HL.out]; exact (List.getElem?_eq_some_iff.1 hfq).1
          have hmI : (m : Int) < (n0 : Int) := by omega
          have hFC := find_c A0 n0 c0 fs y wr (HF4.out.e hE)
          have hfi : findI fs y = (m : Int) := by rw [findI, hm]
          rw [hfi] at hFC
          obtain ⟨b, o, f3, s, t, hA0e, hb, hf3, hwf, hcf, hfb⟩ := (HF4.out.e hE).get hmn
          rw [hfq] at hf3
          injection hf3 with hf3
          subst hf3
          obtain ⟨b0, o0, f4, s0, t0, hA0, hb0, hf4, _, hc0, hfb0⟩ := HF4.out.get hmn
          rw [hfq] at hf4
          injection hf4 with hf4
          subst hf4
          have hx : (l.map fun j => (getF fs j).getD zeroFl)[i]? = some f := by rw [List.getElem?_map, hy]; simp [hf]
          have HQN := Lib.hid (show (q ++ [(f, s, t)]).map Prod.fst = (l.map fun j => (getF fs j).getD zeroFl).take (i + 1) by rw [List.map_append, hq.out, take_snoc hx]; rfl)
          have hst : s = s0 ∧ t = t0 := by
            rw [hA0e] at hA0
            injection hA0 with hA0
            injection hA0 with hA0 hA0'
            subst hA0 hA0'
            have h0' := hc0.e hE hb0
            unfold FlCells at hcf h0'
            have e1 := hcf.2.2.2.2.2.2.2.2.2.1.symm.trans h0'.2.2.2.2.2.2.2.2.2.1
            have e2 := hcf.2.2.2.2.2.2.2.2.2.2.symm.trans h0'.2.2.2.2.2.2.2.2.2.2
            injection e1 with e1
            injection e1 with a1 a2 a3
            injection e2 with e2
            injection e2 with b1 b2 b3
            exact ⟨Prod.ext a1 (Prod.ext a2 a3), Prod.ext b1 (Prod.ext b2 b3)⟩
          obtain ⟨rfl, rfl⟩ := hst
          have hn1 : 0 < s.2.1 → ob s.1 ≠ ob A5 := fun h0 e => by
            obtain ⟨b9, o9, e9, hb9, _⟩ := hfb0.1.at_ h0
            have h9 := (hF.ltN b9 (by rw [← e, e9]; rfl)).1
            omega
          have hn2 : 0 < t.2.1 → ob t.1 ≠ ob A5 := fun h0 e => by
            obtain ⟨b9, o9, e9, hb9, _⟩ := hfb0.2.at_ h0
            have h9 := (hF.ltN b9 (by rw [← e, e9]; rfl)).1
            omega
          obtain ⟨g9, c9, W9, hrun, hF9, hE9⟩ := flow_push hF hE (E.refl wr) f s t hwf hfb hn1 hn2 (by have := HLN.out; omega) 23
          have HF9 := Lib.hid hF9
          have HE9 := Lib.hid hE9
          have HFC := Lib.hid hFC
          unfold FlCells at hcf
          obtain ⟨x0, x1, x2, x3, x4, x5, x6, x7, x8, x9, x10⟩ := hcf
          rw [hA0e]
          rw [hA0e] at HFC
          subst hAe
          clear hf hwf hfb hfq hc0 hfb0 hx hn1 hn2 hF hE hq hF9 hE9 hb hb0 hA0 hm hmn hFC hfi hy hwy hA0e
          go_wp2_with (first
            | (go_at_call 69; refine HFC.out.mono ?_; rintro e wy ⟨rfl, rfl⟩)
            | (at_builtin; refine wpList_app_runM rfl _ _ rfl rfl rfl hrun ?_))
          go_roundw
          case rel => exact ⟨i + 1, c9, _, _, by omega, by go_num, rfl, HF9.out, HE9.out, HQN⟩
          case measure => simp [intOf]; omega
        · have hin : i = n := by omega
          subst hin
          have hfl : q.map Prod.fst = l.map fun j => (getF fs j).getD zeroFl := by
            rw [hq.out, List.take_of_length_le (by rw [List.length_map, HNL.out.len]; exact Nat.le_refl _)]
          have HFL := Lib.hid (hF.flows.cast hfl)
          have HE := Lib.hid hE
          clear hq hfl hF hE
          go_wp2_with fail
          go_ret2
          exact ⟨((HE1.out.trans HE2.out).trans HE4.out).trans HE.out, .inr ⟨HBV.out, _, _, _, _, HDS.out, rfl, HFL.out⟩⟩
end Go.Proofs.YtmeplpiamkaniaaGreat
