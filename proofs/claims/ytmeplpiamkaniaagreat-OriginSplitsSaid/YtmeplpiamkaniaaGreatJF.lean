/- Lemmas of the claim, joined: QZ GA. No condition. -/
import Derived.Test.YtmeplpiamkaniaaGreatJE
import Derived.Test.YtmeplpiamkaniaaGreatJC
namespace Go.Proofs.YtmeplpiamkaniaaGreat
set_option linter.unusedVariables false
set_option linter.unusedSimpArgs false
open Go.RowKit
theorem e_ex {X : Nat → Prop} {a b c : World} (h : E a b) (k : Ex X b c) (hX : ∀ i, X i → a.heap.size ≤ i) : E a c :=
  ((Ex.of_e (X := fun _ => False) h).trans (Z := X) k (fun _ _ x => x.elim) (fun _ _ x => x)).e hX
theorem GBlk.e_ {w w' : World} {g : Nat} {F S O H : Value} {mb : Nat} (h : GBlk w g F S O H mb) (hE : E w w') : GBlk w' g F S O H mb := (hE.block (lt_blk h)).trans h
theorem GBlk.setF {w : World} {g : Nat} {F S O H : Value} {mb : Nat} (h : GBlk w g F S O H mb) (F' : Value) : GBlk (w.setCell ⟨g, 0, none⟩ F') g F' S O H mb := heap_setCell_same _ _ 0 _ _ F' h
theorem GBlk.setS {w : World} {g : Nat} {F S O H : Value} {mb : Nat} (h : GBlk w g F S O H mb) (S' : Value) : GBlk (w.setCell ⟨g, 1, none⟩ S') g F S' O H mb := heap_setCell_same _ _ 1 _ _ S' h
theorem FlowsAt.refs_wf {w : World} {A : Option Addr} {n c : Nat} {l : List Fl} (h : FlowsAt w A n c l) : ∀ f ∈ l, ∀ j ∈ refsF f, (Lit.int .i64 j).wf = true := fun f hf j hj => by
  obtain ⟨i, hi⟩ := List.getElem?_of_mem hf
  have hlt := (List.getElem?_eq_some_iff.1 hi).1
  rw [h.len] at hlt
  obtain ⟨b, o, f', s, t, _, _, hf', _, _, hb⟩ := h.get hlt
  rw [hi] at hf'
  injection hf' with hf'
  subst hf'
  rcases List.mem_append.1 hj with hj | hj
  · obtain ⟨p, hp, rfl⟩ := List.mem_map.1 hj
    exact (hb.1.wf p hp).1
  · exact hb.2.wf j hj
structure SRel (w9 : World) (gs n : Nat) (fs : List Fl) (k3 : Nat) (cur : List Lt) (q : List GR) (W : World) : Prop where
  bl : Below gs w9 W
  ir : IRow W gs gs n n q
  v : ∀ (i : Nat) (r : GR) (f : Fl), q[i]? = some r → fs[i]? = some f → r.1 = if i < k3 then startsF 0 f.parts else if i = k3 then startsF 0 cur else []
section
variable {w9 : World} {gs n : Nat} {fs : List Fl} {k3 : Nat} {cur : List Lt} {q : List GR} {W V : World}
theorem SRel.e (h : SRel w9 gs n fs k3 cur q W) (hE : E W V) : SRel w9 gs n fs k3 cur q V := ⟨h.bl.trans (Below.mono hE (Nat.le_of_lt h.ir.lt.2)), h.ir.e hE, h.v⟩
theorem SRel.next {f : Fl} (h : SRel w9 gs n fs k3 f.parts q W) (hf : fs[k3]? = some f) : SRel w9 gs n fs (k3 + 1) [] q W := by
  refine ⟨h.bl, h.ir, fun i r g hr hg => ?_⟩
  rw [h.v i r g hr hg]
  by_cases h1 : i < k3
  · rw [if_pos h1, if_pos (by omega)]
  · rw [if_neg h1]
    by_cases h2 : i = k3
    · subst h2
      rw [hf] at hg
      injection hg with hg
      subst hg
      rw [if_pos rfl, if_pos (by omega)]
    · rw [if_neg h2, if_neg (by omega)]
      by_cases h3 : i = k3 + 1
      · rw [if_pos h3]; rfl
      · rw [if_neg h3]
theorem SRel.add (h : SRel w9 gs n fs k3 cur q W) (hE : E W V) {f : Fl} (hf : fs[k3]? = some f) (hk : k3 < n) (p : Lt) (hw : (Lit.int .i64 (totL cur)).wf = true) (hlen : cur.length ≤ 100000) (b2 : Nat) (hb2 : V.cell? ⟨b2, 0, none⟩ = some (.int .i64 (totL cur))) (ty : TypeId) :
    ∃ rA rn rc A' c' V1 q', (∀ W', E W W' → W'.cell? ⟨gs, k3, none⟩ = some (.slice rA rn rc)) ∧
      (Builtin.append_ #[22, 22] ty #[.slice rA rn rc, .slice (some ⟨b2, 0, none⟩) 1 1]).run Tryz.prog V = .ok (.slice A' (rn + 1) c') V1 ∧
      Below gs V V1 ∧ (V1.cell? ⟨gs, k3, none⟩).isSome = true ∧ V1.cell? ⟨gs, k3, none⟩ = some (.slice rA rn rc) ∧ V1.frozen? ⟨gs, k3, none⟩ = false ∧
      SRel w9 gs n fs k3 (cur ++ [p]) q' (V1.setCell ⟨gs, k3, none⟩ (.slice A' (rn + 1) c')) ∧ ∀ b, W.heap.size ≤ b → b < V.heap.size → (V1.setCell ⟨gs, k3, none⟩ (.slice A' (rn + 1) c')).heap[b]? = V.heap[b]? := by
  obtain ⟨⟨rl, rA, rn, rc⟩, hr⟩ : ∃ r, q[k3]? = some r := ⟨_, List.getElem?_eq_getElem (by rw [h.ir.len]; exact hk)⟩
  have hrl : rl = startsF 0 cur := by
    have := h.v k3 _ f hr hf
    rw [if_neg (by omega), if_pos rfl] at this
    exact this
  have hrn : rn = cur.length := by
    have := (h.ir.own _ (List.mem_of_getElem? hr)).1
    simp only at this
    rw [← this, hrl, starts_len]
  have hV := h.ir.e hE
  have hgs : gs ≤ V.heap.size := Nat.le_of_lt hV.lt.2
  obtain ⟨A', c', V1, hrun, hG, _, hcell, hI, hB⟩ := hV.add hr (totL cur) hw (by simp only; omega) hgs ty 1 b2 hb2
  simp only at hrun hG hcell hI hB
  have hne := hV.ne _ (List.mem_of_getElem? hr)
  have hblk : V1.heap[gs]? = V.heap[gs]? := hG.block gs hV.lt.2 (fun e => hne e.symm)
  have hc : V1.cell? ⟨gs, k3, none⟩ = some (.slice rA rn rc) := (hcell k3).trans (hV.cell hr)
  have hBV : Below gs V V1 := (Below.refl gs V).grown hG hgs (fun k hk => ((hV.own _ (List.mem_of_getElem? hr)).ltN k hk).1)
  refine ⟨rA, rn, rc, A', c', V1, q.set k3 (rl ++ [totL cur], A', rn + 1, c'), fun W' hW' => (h.ir.e hW').cell hr, hrun, hBV, by rw [hc]; rfl, hc, (World.frozen?_of_block hblk).trans (hV.frz k3), ⟨((h.e hE).bl.trans hBV).setCell (Nat.le_refl _) _, hI, fun i r g hir hg => ?_⟩, fun b hb1 hb2 => ?_⟩
  rotate_left 1
  · rw [Below.heap_setCell _ _ _ _ (fun e => by have := h.ir.lt.2; simp only at e; omega)]
    exact hG.block b hb2 (fun e => by have := ((h.ir.own _ (List.mem_of_getElem? hr)).ltN b e.symm).2; omega)
  by_cases e : i = k3
  · subst e
    rw [List.getElem?_set_self (by rw [h.ir.len]; exact hk)] at hir
    have hir := Option.some.inj hir
    rw [← hir, if_neg (by omega), if_pos rfl, hrl, starts_app]
    simp
  · rw [List.getElem?_set_ne (fun e' => e e'.symm)] at hir
    rw [h.v i r g hir hg, if_neg e, if_neg e]
end
theorem refCnt_le {fs : List Fl} {b : Nat} (h : ∀ f ∈ fs, (refsF f).length ≤ b) : refCnt fs ≤ fs.length * b := by
  induction fs with
  | nil => exact Nat.zero_le _
  | cons f fs ih =>
    have h1 := ih fun g hg => h g (List.mem_cons_of_mem _ hg)
    have h2 := h f List.mem_cons_self
    have h3 : refCnt (f :: fs) = (refsF f).length + refCnt fs := rfl
    rw [h3, List.length_cons, Nat.add_mul]
    omega
set_option linter.unusedSimpArgs false in
theorem run_mkHint (n : Nat) (W : World) : (Instr.makeMap 61 (some (.int .i64 (n : Int)))).run Tryz.prog W = .ok (.map (some W.heap.size)) (W.alloc (.map #[] 0)) := by
  have hu : Tryz.prog.underlying 61 = some (.map 3 3) := Tryz.underlying61
  simp [Instr.makeMap, run_underlying hu, asInt, asIntOf, Result.andThen]
set_option linter.unusedSimpArgs false in
set_option maxHeartbeats 8000000 in
set_option maxRecDepth 100000 in
theorem new_c (A : Option Addr) (n c : Nat) (fs : List Fl) (w : World) (h : FlowsAt w A n c fs) (hn : n ≤ 100) (hm : ∀ f ∈ fs, f.made.length ≤ 500) :
    Calls Tryz.prog 7 #[.slice A n c] w (NewRet w fs) := by
  obtain ⟨W1, hW1⟩ : ∃ W1, ((w.alloc (.map #[] 0)).alloc (.cells #[.slice none 0 0, .slice none 0 0, .map (some w.heap.size), .slice none 0 0, .slice none 0 0] 65)) = W1 := ⟨_, rfl⟩
  have hE1 : E w W1 := by rw [← hW1]; exact ((E.refl w).alloc _).alloc _
  have HZ1 := Lib.hid (show W1.heap.size = w.heap.size + 2 by rw [← hW1]; simp)
  have HG1 := Lib.hid (show GBlk W1 (w.heap.size + 1) (.slice none 0 0) (.slice none 0 0) (.slice none 0 0) (.slice none 0 0) w.heap.size by
    have := heap_alloc_new (w.alloc (.map #[] 0)) (.cells #[.slice none 0 0, .slice none 0 0, .map (some w.heap.size), .slice none 0 0, .slice none 0 0] 65)
    rw [World.size_alloc, hW1] at this
    exact this)
  have HM1 := Lib.hid (show MapD W1 w.heap.size 0 (plcV (fs.take 0)) by
    rw [← hW1]
    exact ((MapD.made w).e ((E.refl _).alloc _)).ext fun i => by simp [plcV, posF])
  have hlen := h.len
  have hn63 := h.n63
  have HL := Lib.hid hlen
  have HM := Lib.hid hm
  have HE1 := Lib.hid hE1
  clear hlen hm hE1
  obtain ⟨G0, hG0⟩ : ∃ G0, w.heap.size + 1 = G0 := ⟨_, rfl⟩
  have HG0 := Lib.hid hG0
  rw [hG0] at HG1
  have hmk := run_mkHint n
  go_enter Tryz.func7, Tryz.ntmps7
  go_upto_region 4 with fail
  try rw [hW1]
  clear hW1
  have HST := Lib.hid (show chk1 [] (fs.take 0) = 0 by rw [List.take_zero]; rfl)
  go_wp2_with fail
  go_loopw [27] (fun ti wr => ∃ k : Nat, k ≤ n ∧ ti = .int .i64 k ∧ Ex (fun i => i = w.heap.size) W1 wr ∧ MapD wr w.heap.size k (plcV (fs.take k)) ∧ Hid (chk1 [] (fs.take k) = 0)) (fun ti _ => n - (intOf ti).toNat)
  case atStart => exact ⟨0, Nat.zero_le _, rfl, Ex.refl _ _, HM1.out, HST⟩
  case round =>
    obtain ⟨k, hk, rfl, hX, hMk, hz⟩ := hrel
    have hEw : E w wr := e_ex HE1.out hX (fun i hi => by omega)
    have hG : GBlk wr G0 (.slice none 0 0) (.slice none 0 0) (.slice none 0 0) (.slice none 0 0) w.heap.size := (hX.block _ (lt_blk HG1.out) (fun e => by have := HG0.out; omega)).trans HG1.out
    by_cases hlt : k < n
    · obtain ⟨b, o, f, s, t, rfl, hbb, hf, hwf, hcl, hfb⟩ := (h.e hEw).get hlt
      have hkI : (k : Int) < (n : Int) := by omega
      have hid := hwf.1
      obtain ⟨V, hV⟩ : ∃ V, wr.alloc (.cells #[.int .i64 f.id, .int .i64 f.step, .int .i64 f.kind, .int .i64 f.tick, .int .i64 f.actor, .int .i64 f.frm, .int .i64 f.to, .int .i64 f.item, .int .i64 f.n, .slice s.1 s.2.1 s.2.2, .slice t.1 t.2.1 t.2.2] 43) = V := ⟨_, rfl⟩
      have hEV : E wr V := by rw [← hV]; exact (E.refl _).alloc _
      have hBX : FlBox V wr.heap.size f s t := by rw [← hV]; exact FlBox.new wr f s t
      have HPO := Lib.hid (oPossible_c f s.1 s.2.1 s.2.2 t.1 t.2.1 t.2.2 V (hfb.e hEV))
      have HBX := Lib.hid hBX
      have HG := Lib.hid hG
      have HMk := Lib.hid hMk
      have HEw := Lib.hid (hEw.trans hEV)
      have HXV := Lib.hid (hX.trans (Ex.of_e (X := fun _ => False) hEV) (fun _ _ x => x) (fun _ _ x => x.elim))
      have HEV := Lib.hid hEV
      have HSR := Lib.hid (show w.heap.size < wr.heap.size by have := hX.size; have := HZ1.out; omega)
      have HF := Lib.hid hf
      unfold FlCells at hcl
      obtain ⟨x0, x1, x2, x3, x4, x5, x6, x7, x8, x9, x10⟩ := hcl
      clear hfb hwf hBX hG hMk hEw hX hEV hf
      unfold flV at HPO
      go_upto_region 7 with fail
      try rw [hV]
      clear hV x0 x1 x2 x3 x4 x5 x6 x7 x8 x9 x10
      have hbx := HBX.out.cells
      unfold FlCells at hbx
      simp only [Nat.zero_add] at hbx
      obtain ⟨b0, b1, b2, b3, b4, b5, b6, b7, b8, b9, b10⟩ := hbx
      obtain ⟨ok, hok⟩ : ∃ ok, okF f = ok := ⟨_, rfl⟩
      rw [hok] at HPO
      cases ok
      · have HR := Lib.hid (chk1_bad hz.out HF.out hok)
        clear hok
        go_wp2_with (go_at_call 29; refine HPO.out.mono ?_; rintro e w2 ⟨rfl, hE2⟩)
        go_ret2
        exact ⟨1, HR.out ▸ NewE.one (by rw [HR.out]; decide), HEw.out.trans hE2, .inl ⟨by decide, rfl⟩⟩
      · have HOK := Lib.hid hok
        clear hok
        go_upto_region 9 with (go_at_call 29; refine HPO.out.mono ?_; rintro e w2 ⟨rfl, hE2⟩)
        clear b0 b1 b2 b3 b4 b5 b6 b7 b8 b9 b10
        have hc0 := (HBX.out.e hE2).cells.1
        have hcg := ((HG.out.e_ HEV.out).e_ hE2).cells.2.2.1
        have hMk2 := (HMk.out.e HEV.out).e hE2
        have hlk := fun m => (hMk2.drewN m).lookOk mapIT hid
        have hlk0 := hMk2.lookOk mapIT hid
        cases hp : posF (fs.take k) f.id with
        | some j =>
          rw [plc_some hp] at hlk hlk0
          simp only [Option.getD, Option.isSome] at hlk hlk0
          have HR := Lib.hid (chk1_twice hz.out HF.out HOK.out hp)
          clear hp
          (refine wp_region_quiet_lit (by kernel_rfl) (by kernel_rfl) ?_; (repeat (first | ((with_reducible refine wpQuiet_step (fun K hK => ?_)); go_simp; (with_reducible refine hK _ ?_); clear hK K) | ((with_reducible refine wpQuiet_off (by kernel_rfl) (fun K hK => ?_)); go_simp; (with_reducible refine hK _ ?_); clear hK K))); (with_reducible refine wpQuiet_nil ?_); intro _ hw'; obtain ⟨nq, hw''⟩ := hw'; subst hw'')
          go_wp2_with fail
          go_ret2
          exact ⟨8, HR.out ▸ NewE.one (by rw [HR.out]; decide), (HEw.out.trans hE2).drewN nq, .inl ⟨by decide, rfl⟩⟩
        | none =>
          rw [plc_none hp] at hlk hlk0
          simp only [Option.getD, Option.isSome] at hlk hlk0
          (refine wp_region_quiet_lit (by kernel_rfl) (by kernel_rfl) ?_; (repeat (first | ((with_reducible refine wpQuiet_step (fun K hK => ?_)); go_simp; (with_reducible refine hK _ ?_); clear hK K) | ((with_reducible refine wpQuiet_off (by kernel_rfl) (fun K hK => ?_)); go_simp; (with_reducible refine hK _ ?_); clear hK K))); (with_reducible refine wpQuiet_nil ?_); intro _ hw'; obtain ⟨nq, hw''⟩ := hw'; subst hw'')
          go_upto_region 12 with fail
          obtain ⟨w3, hw3⟩ : ∃ w3, w2.drewN nq = w3 := ⟨_, rfl⟩
          have hE3 : E w2 w3 := by rw [← hw3]; exact (E.refl _).drewN nq
          rw [hw3]
          clear hlk hlk0 hc0 hcg hw3
          have hE3d := hE3.drew
          have hc0 := (HBX.out.e (hE2.trans hE3d)).cells.1
          have hcg := ((HG.out.e_ HEV.out).e_ (hE2.trans hE3d)).cells.2.2.1
          obtain ⟨w4, hrM, hM4, hG4⟩ := (hMk2.e hE3d).put mapIT (.int .i64 (k : Int)) hid (by unfold maxLen; omega)
          have hX4 : Ex (fun j => j = w.heap.size) w3.drew w4 := ⟨hG4.os, hG4.tape, hG4.output, hG4.size, fun j hj hx => hG4.block j hj (fun e => hx (by injection e))⟩
          have hd0 := (hX4.cell (p := ⟨wr.heap.size, 0, none⟩) (Nat.lt_of_lt_of_le HBX.out.lt (hE2.trans hE3d).le) (fun e => by have := HSR.out; simp only at e; omega)).trans hc0
          refine wp_region_held_drew (S := (fun w' => w'.cell? ⟨G0, 2, none⟩ = some (.map (some w.heap.size)) ∧ w'.cell? ⟨wr.heap.size, 0, none⟩ = some (.int .i64 f.id))) (by kernel_rfl) ⟨hcg, hc0⟩ (fun hHeld => ?_)
          (((refine wpAnyH_take (i := 0) (v := ?_) rfl (by kernel_rfl) (by kernel_rfl) (by kernel_rfl) (fun _ _ _ h => h) (Or.inl ⟨by kernel_rfl, ?_⟩) (by assumption) ?_); rotate_left 1; (focus (intro w hSw; (try dsimp only at hSw); go_simp; (try with_reducible rfl))); (try simp only [Act.put, sA, sB, sC])); ((refine wpAnyH_take (i := 1) (v := ?_) rfl (by kernel_rfl) (by kernel_rfl) (by kernel_rfl) (fun _ _ _ h => h) (Or.inl ⟨by kernel_rfl, ?_⟩) (by assumption) ?_); rotate_left 1; (focus (intro w hSw; (try dsimp only at hSw); go_simp; (try with_reducible rfl))); (try simp only [Act.put, sA, sB, sC])); ((refine wpAnyH_take (i := 2) (v := ?_) rfl (by kernel_rfl) (by kernel_rfl) (by kernel_rfl) (fun _ _ _ h => h) (Or.inl ⟨by kernel_rfl, ?_⟩) (by assumption) ?_); rotate_left 1; (focus (intro w hSw; (try dsimp only at hSw); go_simp; (try with_reducible rfl))); (try simp only [Act.put, sA, sB, sC])); ((refine wpAnyH_take (i := 3) (v := ?_) rfl (by kernel_rfl) (by kernel_rfl) (by kernel_rfl) (fun _ _ _ h => h) (Or.inl ⟨by kernel_rfl, ?_⟩) (by assumption) ?_); rotate_left 1; (focus (intro w hSw; (try dsimp only at hSw); go_simp; (try with_reducible rfl))); (try simp only [Act.put, sA, sB, sC])); ((refine wpAnyH_take (i := 4) (v := ?_) rfl (by kernel_rfl) (by kernel_rfl) (by kernel_rfl) (fun _ _ _ h => h) (Or.inl ⟨by kernel_rfl, ?_⟩) (by assumption) ?_); rotate_left 1; (focus (intro w hSw; (try dsimp only at hSw); go_simp; (try with_reducible rfl))); (try simp only [Act.put, sA, sB, sC])); ((refine wpAnyH_take (i := 5) (v := ?_) rfl (by kernel_rfl) (by kernel_rfl) (by kernel_rfl) (fun _ _ _ h => h) (Or.inl ⟨by kernel_rfl, ?_⟩) (by assumption) ?_); rotate_left 1; (focus (intro w hSw; (try dsimp only at hSw); go_simp; (try with_reducible rfl))); (try simp only [Act.put, sA, sB, sC])); ((refine wpAnyH_take (i := 6) (v := ?_) rfl (by kernel_rfl) (by kernel_rfl) (by kernel_rfl) (fun _ _ _ h => h) (Or.inl ⟨by kernel_rfl, ?_⟩) (by assumption) ?_); rotate_left 1; (focus (intro w hSw; (try dsimp only at hSw); go_simp; (try with_reducible rfl))); (try simp only [Act.put, sA, sB, sC])))
          (((refine wpAnyH_ready (rs := [7]) (by kernel_rfl) (by simp) ?_); (refine AllReadyH.cons rfl (fun K hK => ?_) AllReadyH.nil); (rw [if_pos (by kernel_rfl)]); go_simp))
          have hdg := (hX4.cell (p := ⟨G0, 2, none⟩) (by have := lt_blk ((HG.out.e_ HEV.out).e_ (hE2.trans hE3d)); exact this) (fun e => by have := HG0.out; simp only at e; omega)).trans hcg
          have HNX := Lib.hid (show MapD w4 w.heap.size (k + 1) (plcV (fs.take (k + 1))) from hM4.ext fun i => by rw [plc_next HF.out hp])
          have HNZ := Lib.hid (show Hid (chk1 [] (fs.take (k + 1)) = 0) from chk1_next hz.out HF.out HOK.out hp)
          have HNE := Lib.hid ((HXV.out.trans (Ex.of_e (X := fun _ => False) (hE2.trans hE3d)) (fun _ _ x => x) (fun _ _ x => x.elim)).trans hX4 (fun _ _ x => x) (fun _ _ x => x))
          clear hM4 hX4 hG4 hMk2 hp
          refine hK _ _ ⟨hdg, hd0⟩ (fun hh => ?_)
          clear hK K hh
          (try simp only [Act.put, sA, sB, sC])
          refine wpAnyH_done (by kernel_rfl) ?_ _
          go_simp
          go_wp2_with fail
          go_roundw
          case rel => exact ⟨k + 1, by omega, by go_num, HNE.out, HNX.out, HNZ.out⟩
          case measure => simp [intOf]; omega
    · have hkn : k = n := by omega
      have hz2 : chk1 [] fs = 0 := by
        have := hz.out
        rwa [List.take_of_length_le (by have := HL.out; omega)] at this
      have hM2 : MapD wr w.heap.size k (plcV fs) := by rwa [List.take_of_length_le (by have := HL.out; omega)] at hMk
      have HM2 := Lib.hid hM2
      have HZ2 := Lib.hid hz2
      have HG := Lib.hid hG
      have HEw := Lib.hid hEw
      have HWS := Lib.hid (show w.heap.size + 2 ≤ wr.heap.size by have := hX.size; have := HZ1.out; omega)
      have HZF := Lib.hid (show firstE ((fs.take 0).map (linkE fs)) = 0 by rw [List.take_zero]; rfl)
      clear hM2 hz2 hz hMk hX hEw hG hkn
      go_wp2_with fail
      obtain ⟨wA, hwA⟩ : ∃ wA, wA = wr := ⟨_, rfl⟩
      rw [← hwA] at HM2 HG HEw HWS ⊢
      go_loopw [56] (fun ti wr => ∃ k2 : Nat, k2 ≤ n ∧ ti = .int .i64 k2 ∧ E wA wr ∧ Hid (firstE ((fs.take k2).map (linkE fs)) = 0)) (fun ti _ => n - (intOf ti).toNat)
      case atStart => exact ⟨0, Nat.zero_le _, rfl, E.refl _, HZF⟩
      case round =>
        clear HZF
        obtain ⟨k2, hk2, rfl, hE, hz⟩ := hrel
        by_cases hlt2 : k2 < n
        · obtain ⟨b, o, f, s, t, rfl, hbb, hf, hwf, hcl, hfb⟩ := (h.e (HEw.out.trans hE)).get hlt2
          have hkI : (k2 : Int) < (n : Int) := by omega
          obtain ⟨V, hV⟩ : ∃ V, wr.alloc (.cells #[.int .i64 f.id, .int .i64 f.step, .int .i64 f.kind, .int .i64 f.tick, .int .i64 f.actor, .int .i64 f.frm, .int .i64 f.to, .int .i64 f.item, .int .i64 f.n, .slice s.1 s.2.1 s.2.2, .slice t.1 t.2.1 t.2.2] 43) = V := ⟨_, rfl⟩
          have hEV : E wr V := by rw [← hV]; exact (E.refl _).alloc _
          have hBX : FlBox V wr.heap.size f s t := by rw [← hV]; exact FlBox.new wr f s t
          have hEA := hE.trans hEV
          have hGV := HG.out.e_ hEA
          have hpp : ∀ x ∈ f.parts, possB x = true := (validB_iff.1 (okF_iff.1 ((chk1_facts HZ2.out).1 f (List.mem_of_getElem? hf)).1).1).2
          have HRE := Lib.hid (references_c G0 w.heap.size k (some ⟨b, o, none⟩) n c fs f s t V (lt_blk hGV) hGV.cells.2.2.1 (HM2.out.e hEA) (h.e (HEw.out.trans hEA)) hwf (hfb.e hEV) hpp)
          have HBX := Lib.hid hBX
          have HEA := Lib.hid hEA
          have HF := Lib.hid (show (fs.map (linkE fs))[k2]? = some (linkE fs f) by rw [List.getElem?_map, hf]; rfl)
          have HZK := Lib.hid (show firstE ((fs.map (linkE fs)).take k2) = 0 by rw [← List.map_take]; exact hz.out)
          obtain ⟨le, hle⟩ : ∃ le, linkE fs f = le := ⟨_, rfl⟩
          rw [hle] at HRE HF
          unfold FlCells at hcl
          obtain ⟨x0, x1, x2, x3, x4, x5, x6, x7, x8, x9, x10⟩ := hcl
          clear hfb hwf hBX hEV hf hz hE hEA hGV hpp hle
          unfold flV at HRE
          go_upto_region 17 with fail
          try rw [hV]
          clear hV x0 x1 x2 x3 x4 x5 x6 x7 x8 x9 x10
          have hbx := HBX.out.cells
          unfold FlCells at hbx
          simp only [Nat.zero_add] at hbx
          obtain ⟨b0, b1, b2, b3, b4, b5, b6, b7, b8, b9, b10⟩ := hbx
          by_cases hl0 : le = 0
          · subst hl0
            have HN := Lib.hid (show firstE ((fs.take (k2 + 1)).map (linkE fs)) = 0 by rw [List.map_take]; exact firstE_step HZK.out HF.out rfl)
            go_wp2_with (go_at_call 30; refine HRE.out.mono ?_; rintro e w2 ⟨rfl, hE2⟩)
            go_roundw
            case rel => exact ⟨k2 + 1, by omega, by go_num, HEA.out.trans hE2, HN⟩
            case measure => simp [intOf]; omega
          · have d0 : (le != 0) = true := by simpa using hl0
            have HR := Lib.hid (show chk2 fs = le by
              have := firstE_at (m := []) HZK.out HF.out hl0
              rwa [List.append_nil] at this)
            have HL0 := Lib.hid hl0
            clear hl0
            go_wp2_with (go_at_call 30; refine HRE.out.mono ?_; rintro e w2 ⟨rfl, hE2⟩)
            go_ret2
            exact ⟨le, HR.out ▸ NewE.two HZ2.out (by rw [HR.out]; exact HL0.out), (HEw.out.trans HEA.out).trans hE2, .inl ⟨HL0.out, rfl⟩⟩
        · have hz3 : chk2 fs = 0 := by
            have := hz.out
            rwa [List.take_of_length_le (by have := HL.out; omega)] at this
          have HZ3 := Lib.hid hz3
          have HE3 := Lib.hid hE
          clear hz3 hz hE
          have hok : ∀ f ∈ fs, okF f = true := fun f hf => ((chk1_facts HZ2.out).1 f hf).1
          have hlk : ∀ f ∈ fs, linkE fs f = 0 := fun f hf => firstE_zero.1 (show firstE (fs.map (linkE fs)) = 0 from HZ3.out) _ (List.mem_map.2 ⟨f, hf, rfl⟩)
          have hpl : ∀ f ∈ fs, f.parts.length ≤ 4096 := fun f hf => (validB_iff.1 (okF_iff.1 (hok f hf)).1).1
          have hcnt : refCnt fs ≤ 900000 := by
            have h1 := refCnt_le (fs := fs) (b := 4600) (fun f hf => by
              have := hpl f hf; have := HM.out f hf
              unfold refsF
              rw [List.length_append, List.length_map]; omega)
            have : fs.length * 4600 ≤ 100 * 4600 := Nat.mul_le_mul_right _ (by have := HL.out; omega)
            omega
          have hrp : ∀ f ∈ fs, ∀ j ∈ refsF f, ∃ q, getF fs j = some q := fun f hf j hj => by
            rcases List.mem_append.1 hj with hj | hj
            · obtain ⟨p, hp, rfl⟩ := List.mem_map.1 hj
              obtain ⟨q, h1, _⟩ := link_part (hlk f hf) hp
              exact ⟨q, h1⟩
            · exact link_made (hlk f hf) hj
          have hrr : ∀ f ∈ fs, ∀ j ∈ refsF f, (Lit.int .i64 j).wf = true ∧ ∃ p, posF fs j = some p := fun f hf j hj => ⟨h.refs_wf f hf j hj, pos_some (hrp f hf j hj).choose_spec⟩
          have HCN := Lib.hid hcnt
          have HRR := Lib.hid hrr
          have HRP := Lib.hid hrp
          have HEC := Lib.hid (each_c A n c fs wr (h.e (HEw.out.trans HE3.out)) (by omega) (fun f hf => ⟨by have := hpl f hf; omega, by have := HM.out f hf; omega⟩))
          have HOKS := Lib.hid hok
          clear hok hlk hpl hcnt hrp hrr
          have c1 := fun W (hE : E wr W) => (show (W.cell? ⟨G0, 0, none⟩ = some (.slice none 0 0)) ∧ W.frozen? ⟨G0, 0, none⟩ = false from ⟨((HG.out.e_ HE3.out).e_ hE).cells.1, ((HG.out.e_ HE3.out).e_ hE).frz 0⟩)
          go_upto_region 22 with (go_at_call 31; refine HEC.out.mono ?_; rintro e w5 ⟨A5, c5, q5, rfl, hR5, hq5, hs5, hE5⟩; obtain ⟨d1, d2⟩ := c1 w5 hE5)
          have hG5 : GBlk w5 G0 (.slice none 0 0) (.slice none 0 0) (.slice none 0 0) (.slice none 0 0) w.heap.size := (HG.out.e_ HE3.out).e_ hE5
          obtain ⟨w6, hw6⟩ : ∃ w6, w5.setCell ⟨G0, 0, none⟩ (.slice A5 n c5) = w6 := ⟨_, rfl⟩
          have hX6 : Ex (fun j => j = G0) w5 w6 := by rw [← hw6]; exact (Ex.refl (fun j => j = G0) w5).setCell ⟨G0, 0, none⟩ (.inr rfl) _
          have hG6 : GBlk w6 G0 (.slice A5 n c5) (.slice none 0 0) (.slice none 0 0) (.slice none 0 0) w.heap.size := by rw [← hw6]; exact hG5.setF _
          rw [hw6]
          have hgl : G0 < wr.heap.size := by have := HG0.out; have := HWS.out; have := HE3.out.le; omega
          have hR6 : FRow w6 wr.heap.size A5 n c5 q5 := hR5.ex hX6 (fun b hb e => by have := (hR5.ltN b hb).1; omega) (fun p hp => ⟨fun b hb e => by have := (hs5 p hp).1 b hb; omega, fun b hb e => by have := (hs5 p hp).2 b hb; omega⟩)
          have hM6 : MapD w6 w.heap.size k (plcV fs) := ((HM2.out.e HE3.out).e hE5).block (hX6.block _ ((HM2.out.e HE3.out).e hE5).lt (fun e => by have := HG0.out; omega))
          have HAR := Lib.hid (arrange_c G0 w.heap.size k wr.heap.size n c5 A5 (.slice none 0 0) (.slice none 0 0) fs q5 w6 hG6 hR6 hq5 hs5 hgl hM6 (by have := HG0.out; omega) HRR.out (by omega) HCN.out)
          have HX6 := Lib.hid (show E w w6 from e_ex (((HEw.out.trans HE3.out).trans hE5)) hX6 (fun i hi => by have := HG0.out; omega))
          have HR6 := Lib.hid hR6
          have HM6 := Lib.hid hM6
          have HQ5 := Lib.hid hq5
          have HS5 := Lib.hid hs5
          have HGL := Lib.hid hgl
          have HZ6 := Lib.hid (show wr.heap.size ≤ w6.heap.size from Nat.le_trans hE5.le hX6.size)
          obtain ⟨bF, hbF⟩ : ∃ bF, wr.heap.size = bF := ⟨_, rfl⟩
          rw [hbF] at HR6 HS5 HGL HZ6
          have HBF := Lib.hid (show w.heap.size ≤ bF by have := HWS.out; have := HE3.out.le; omega)
          clear hbF
          clear c1 d1 d2 hR5 hG5 hw6 hX6 hG6 hR6 hM6 hgl hE5 hq5 hs5
          go_upto_region 24 with (go_at_call 33; refine HAR.out.mono ?_; rintro e w7 ⟨Ao, no, co, ord, ms, rfl, hol, hG7, hO7, hK7, hX7⟩)
          · rename_i hdec
            have hne : ord.length ≠ fs.length := by rw [hol]; simpa using hdec
            go_ret2
            exact ⟨18, NewE.cyc HZ2.out HZ3.out (hK7.cyclic (edF_of fun f hf j hj => (HRR.out f hf j hj).2) (chk1_facts HZ2.out).2 hne), e_ex HX6.out hX7 (fun i hi => by have := HG0.out; omega), .inl ⟨by decide, rfl⟩⟩
          · have hno : no = fs.length := by
              first
                | assumption
                | simpa using (by assumption : (!decide (no = fs.length)) = false)
            have hT : Topo fs ord := hK7.topoF (edF_of fun f hf j hj => (HRR.out f hf j hj).2) HRP.out (by rw [hol]; exact hno)
            have HGK := Lib.hid (show GOk fs from ⟨HZ2.out, HZ3.out, hT.ranked (chk1_facts HZ2.out).2⟩)
            have HT := Lib.hid hT
            have HNO := Lib.hid hno
            have HG7 := Lib.hid hG7
            have HO7 := Lib.hid hO7
            have HX7 := Lib.hid hX7
            clear hno hT hol hG7 hO7 hK7 hX7
            have c1 := fun W (hE : E w7 W) => (show (W.cell? ⟨G0, 1, none⟩ = some (.slice none 0 0)) ∧ W.frozen? ⟨G0, 1, none⟩ = false from ⟨(HG7.out.e_ hE).cells.2.1, (HG7.out.e_ hE).frz 1⟩)
            go_upto_region 25 with (refine wpList_mkG _ rfl _ _ rfl .i64 .i64 _ _ n rfl rfl rfl rfl (by omega) ?_; intro w8 hI8 hE8 hz8; have HI8 := Lib.hid hI8; have HE8 := Lib.hid hE8; have HZ8 := Lib.hid hz8; clear hI8 hz8; obtain ⟨d1, d2⟩ := c1 w8 hE8)
            obtain ⟨gs, hgs⟩ : ∃ gs, w7.heap.size = gs := ⟨_, rfl⟩
            rw [hgs] at HI8 ⊢
            have HGS := Lib.hid hgs
            obtain ⟨w9, hw9⟩ : ∃ w9, w8.setCell ⟨G0, 1, none⟩ (.slice (some ⟨gs, 0, none⟩) n n) = w9 := ⟨_, rfl⟩
            have hX9 : Ex (fun j => j = G0) w8 w9 := by rw [← hw9]; exact (Ex.refl (fun j => j = G0) w8).setCell ⟨G0, 1, none⟩ (.inr rfl) _
            have hG9 : GBlk w9 G0 (.slice A5 n c5) (.slice (some ⟨gs, 0, none⟩) n n) (.slice Ao no co) (.slice none 0 0) w.heap.size := by rw [← hw9]; exact (HG7.out.e_ HE8.out).setS _
            rw [hw9]
            have HX9 := Lib.hid (show Ex (fun j => j = G0) w6 w9 from (HX7.out.trans (Ex.of_e (X := fun _ => False) HE8.out) (fun _ _ x => x) (fun _ _ x => x.elim)).trans hX9 (fun _ _ x => x) (fun _ _ x => x))
            have hg0 : G0 < gs := by have := HGL.out; have := HZ6.out; have := HX7.out.size; omega
            have HS9 := Lib.hid (show SRel w9 gs n fs 0 [] (List.replicate n (([], zS) : GR)) w9 from ⟨Below.refl _ _, HI8.out.ex hX9 (fun e => by omega) (fun p hp b hb => by rw [List.eq_of_mem_replicate hp] at hb; simp [zS, ob] at hb), fun i r f hr _ => by
              rw [List.eq_of_mem_replicate (List.mem_of_getElem? hr), if_neg (by omega)]
              split <;> rfl⟩)
            have HG9 := Lib.hid hG9
            have HG0S := Lib.hid hg0
            have HX79 := Lib.hid (show Ex (fun j => j = G0) w7 w9 from (Ex.of_e (X := fun _ => False) HE8.out).trans hX9 (fun _ _ x => x.elim) (fun _ _ x => x))
            clear c1 d1 d2 hgs hw9 hX9 hG9 hg0 hE8 HI8
            have c0 := HG9.out.cells.1
            go_wp2_with fail
            clear c0
            have HFR := Lib.hid (fun W (hB : Below gs w9 W) => show FRow W bF A5 n c5 q5 from
              HR6.out.ex (X := fun i => i = G0) (HX9.out.trans (Z := fun i => i = G0) (Y := fun i => gs ≤ i) ⟨hB.os, hB.tape, hB.output, hB.size, fun i hi hx => hB.block i (by omega)⟩ (fun _ _ x => x) (fun i hi x => absurd hi (by have := HX7.out.size; have := HGS.out; omega)))
                (fun b hb e => by have := (HR6.out.ltN b hb).1; have := HGL.out; omega) (fun p hp => ⟨fun b hb e => by have := (HS5.out p hp).1 b hb; have := HGL.out; omega, fun b hb e => by have := (HS5.out p hp).2 b hb; have := HGL.out; omega⟩))
            go_loopw [87] (fun ti wr => ∃ (k3 : Nat) (q : List GR), k3 ≤ n ∧ ti = .int .i64 k3 ∧ SRel w9 gs n fs k3 [] q wr) (fun ti _ => n - (intOf ti).toNat)
            case atStart => exact ⟨0, _, Nat.zero_le _, rfl, HS9.out⟩
            case round =>
              clear HS9
              obtain ⟨k3, q, hk3, rfl, hS⟩ := hrel
              by_cases hlt3 : k3 < n
              · obtain ⟨gf, rfl⟩ : ∃ gf, A5 = some ⟨gf, 0, none⟩ := by
                  rcases HR6.out.form with ⟨_, h0, _⟩ | ⟨gf, h0, _⟩
                  · omega
                  · exact ⟨gf, h0⟩
                obtain ⟨⟨f, s, t⟩, hp0⟩ : ∃ p0, q5[k3]? = some p0 := ⟨q5[k3]'(by rw [HR6.out.1]; exact hlt3), List.getElem?_eq_getElem _⟩
                have hff : fs[k3]? = some f := by rw [← HQ5.out, List.getElem?_map, hp0]; rfl
                have hpm := List.mem_of_getElem? hp0
                have hRr := HFR.out wr hS.bl
                have hcl := hRr.cells hp0
                have hls := (hRr.2.2 _ hpm).2.1.1.len
                have hsn := (hRr.2.2 _ hpm).2.1.1.n63
                (try simp only at hls)
                (try simp only at hsn)
                (try simp only at hcl)
                have hkI : (k3 : Int) < (n : Int) := by omega
                obtain ⟨V, hV⟩ : ∃ V, wr.alloc (.cells #[.int .i64 f.id, .int .i64 f.step, .int .i64 f.kind, .int .i64 f.tick, .int .i64 f.actor, .int .i64 f.frm, .int .i64 f.to, .int .i64 f.item, .int .i64 f.n, .slice s.1 s.2.1 s.2.2, .slice t.1 t.2.1 t.2.2] 43) = V := ⟨_, rfl⟩
                have hEV : E wr V := by rw [← hV]; exact (E.refl _).alloc _
                have hBX : FlBox V wr.heap.size f s t := by rw [← hV]; exact FlBox.new wr f s t
                have hpo : ∀ x ∈ f.parts, possB x = true := (validB_iff.1 (okF_iff.1 (HOKS.out f (List.mem_of_getElem? hff))).1).2
                have hp46 : f.parts.length ≤ 4096 := (validB_iff.1 (okF_iff.1 (HOKS.out f (List.mem_of_getElem? hff))).1).1
                have HLO := Lib.hid (fun W (hB : Below gs w9 W) => show LotsAt W s.1 s.2.1 s.2.2 f.parts from ((HFR.out W hB).2.2 _ hpm).2.1.1)
                have HSV := Lib.hid (hS.e hEV)
                have HBX := Lib.hid hBX
                have HFF := Lib.hid hff
                have HPO := Lib.hid hpo
                have HP46 := Lib.hid hp46
                have HLS := Lib.hid hls
                unfold FlCells at hcl
                obtain ⟨x0, x1, x2, x3, x4, x5, x6, x7, x8, x9, x10⟩ := hcl
                clear hRr hS hBX hEV hff hpo hp46 hpm hp0 hls
                go_upto_region 28 with fail
                try rw [hV]
                clear hV x0 x1 x2 x3 x4 x5 x6 x7 x8 x9 x10
                have b9 := HBX.out.cells
                unfold FlCells at b9
                simp only [Nat.zero_add] at b9
                obtain ⟨_, _, _, _, _, _, _, _, _, b9, _⟩ := b9
                go_wp2_with fail
                clear b9
                have HS0 := Lib.hid (show SRel w9 gs n fs k3 (f.parts.take 0) q V by rw [List.take_zero]; exact HSV.out)
                have HT0 := Lib.hid (show (Value.int .i64 0) = .int .i64 (totL (f.parts.take 0)) by rw [List.take_zero]; rfl)
                go_loopw [14, 95] (fun ta tj w2 => ∃ (j : Nat) (q2 : List GR), j ≤ s.2.1 ∧ tj = .int .i64 j ∧ ta = .int .i64 (totL (f.parts.take j)) ∧ SRel w9 gs n fs k3 (f.parts.take j) q2 w2) (fun _ tj _ => s.2.1 - (intOf tj).toNat)
                case atStart => exact ⟨0, q, Nat.zero_le _, rfl, HT0.out, HS0.out⟩
                case round =>
                  clear HSV HS0 HT0
                  obtain ⟨j, q2, hj, rfl, rfl, hS⟩ := hrel
                  by_cases hjl : j < s.2.1
                  · obtain ⟨b, o, x, hsA, hbb, hx, hwx, d0, d1, d2⟩ := (HLO.out _ hS.bl).get hjl
                    have hjI : (j : Int) < (s.2.1 : Int) := by omega
                    rw [hsA]
                    have htr := totL_take_le HPO.out j
                    have hj46 : j ≤ 4096 := by have := HLS.out; have := HP46.out; omega
                    have hpx := possB_iff.1 (HPO.out x (List.mem_of_getElem? hx))
                    obtain ⟨at_, hat⟩ : ∃ at_, totL (f.parts.take j) = at_ := ⟨_, rfl⟩
                    have HAT := Lib.hid hat
                    have HTS := Lib.hid (show totL (f.parts.take (j + 1)) = at_ + x.2.2 by rw [totL_succ hx, hat])
                    rw [hat] at htr ⊢
                    have hr1 : 0 ≤ at_ ∧ at_ ≤ 1099511627776 * 4096 := ⟨htr.1, Int.le_trans htr.2 (by omega)⟩
                    have HR1 := Lib.hid hr1
                    have HPX := Lib.hid hpx
                    obtain ⟨V2, hV2⟩ : ∃ V2, wr.alloc (.cells #[.int .i64 x.1, .int .i64 x.2.1, .int .i64 x.2.2] 30) = V2 := ⟨_, rfl⟩
                    have hEV2 : E wr V2 := by rw [← hV2]; exact (E.refl _).alloc _
                    have hx3 := cells3_new wr (.int .i64 x.1) (.int .i64 x.2.1) (.int .i64 x.2.2) 30
                    rw [hV2] at hx3
                    have HX3 := Lib.hid hx3
                    have HZW := Lib.hid (show wr.heap.size < V2.heap.size by rw [← hV2]; simp)
                    have HSW := Lib.hid hS
                    have HEW := Lib.hid hEV2
                    have HXX := Lib.hid hx
                    clear hS htr hr1 hpx hx3 hat hEV2
                    go_upto_region 32 with fail
                    try rw [hV2]
                    clear hV2 d0 d1 d2
                    obtain ⟨V3, hV3⟩ : ∃ V3, V2.drew.alloc (.cells #[.int .i64 at_] 3) = V3 := ⟨_, rfl⟩
                    have hE23 : E V2 V3 := by rw [← hV3]; exact ((E.refl V2).drew).alloc _
                    have hb3 : V3.cell? ⟨V2.heap.size, 0, none⟩ = some (.int .i64 at_) := by rw [← hV3]; exact cell_new _ _ _
                    have hwat : (Lit.int .i64 at_).wf = true := wf_of_i64 (by have := HR1.out; omega) (by have := HR1.out; omega)
                    obtain ⟨rA, rn, rc, A4, c4, V4, q4, hrow, hrun, hB4, s7, s8, s9, hS4, hk4⟩ := HSW.out.add (HEW.out.trans hE23) HFF.out hlt3 x (by rw [HAT.out]; exact hwat) (by rw [List.length_take]; omega) V2.heap.size (by rw [HAT.out]; exact hb3) 22
                    have hg9 := fun W (hB : Below gs w9 W) => (show W.cell? ⟨G0, 1, none⟩ = some (.slice (some ⟨gs, 0, none⟩) n n) from (hB.cell (p := ⟨G0, 1, none⟩) HG0S.out).trans HG9.out.cells.2.1)
                    have s0 := hg9 _ (HSW.out.e (HEW.out.drew)).bl
                    have s1 := hg9 _ (HSW.out.e (HEW.out.trans hE23)).bl
                    have s3 := hg9 _ ((HSW.out.e (HEW.out.trans hE23)).bl.trans hB4)
                    have s5 := hg9 _ hS4.bl
                    have r0 := hrow _ HEW.out.drew
                    have r1 := hrow _ (HEW.out.trans hE23)
                    have hbx := (World.cell?_of_block (a := ⟨wr.heap.size, 2, none⟩) (hk4 wr.heap.size (Nat.le_refl _) (Nat.lt_of_lt_of_le HZW.out hE23.le))).trans ((hE23.cell (p := ⟨wr.heap.size, 2, none⟩) HZW.out).trans HX3.out.2.2)
                    have hS5 : SRel w9 gs n fs k3 (f.parts.take (j + 1)) q4 (V4.setCell ⟨gs, k3, none⟩ (.slice A4 (rn + 1) c4)) := by rw [take_snoc HXX.out]; exact hS4
                    have HS5' := Lib.hid hS5
                    have HBX5 := Lib.hid hbx
                    clear hS4 hk4 hb3 hrow hg9 hS5 hbx
                    refine wp_region_held_drew (S := (fun w' => w'.cell? ⟨G0, 1, none⟩ = some (.slice (some ⟨gs, 0, none⟩) n n))) (by kernel_rfl) s0 (fun hHeld => ?_)
                    (((refine wpAnyH_take (i := 0) (v := ?_) rfl (by kernel_rfl) (by kernel_rfl) (by kernel_rfl) (fun _ _ _ h => h) (Or.inl ⟨by kernel_rfl, ?_⟩) (by assumption) ?_); rotate_left 1; (focus (intro w hSw; (try dsimp only at hSw); go_simp; (try with_reducible rfl))); (try simp only [Act.put, sA, sB, sC])); ((refine wpAnyH_take (i := 1) (v := ?_) rfl (by kernel_rfl) (by kernel_rfl) (by kernel_rfl) (fun _ _ _ h => h) (Or.inl ⟨by kernel_rfl, ?_⟩) (by assumption) ?_); rotate_left 1; (focus (intro w hSw; (try dsimp only at hSw); go_simp; (try with_reducible rfl))); (try simp only [Act.put, sA, sB, sC])); ((refine wpAnyH_take (i := 2) (v := ?_) rfl (by kernel_rfl) (by kernel_rfl) (by kernel_rfl) (fun _ _ _ h => h) (Or.inl ⟨by kernel_rfl, ?_⟩) (by assumption) ?_); rotate_left 1; (focus (intro w hSw; (try dsimp only at hSw); go_simp; (try with_reducible rfl))); (try simp only [Act.put, sA, sB, sC])); ((refine wpAnyH_take (i := 3) (v := ?_) rfl (by kernel_rfl) (by kernel_rfl) (by kernel_rfl) (fun _ _ _ h => h) (Or.inl ⟨by kernel_rfl, ?_⟩) (by assumption) ?_); rotate_left 1; (focus (intro w hSw; (try dsimp only at hSw); go_simp; (try with_reducible rfl))); (try simp only [Act.put, sA, sB, sC])); ((refine wpAnyH_take (i := 4) (v := ?_) rfl (by kernel_rfl) (by kernel_rfl) (by kernel_rfl) (fun _ _ _ h => h) (Or.inl ⟨by kernel_rfl, ?_⟩) (by assumption) ?_); rotate_left 1; (focus (intro w hSw; (try dsimp only at hSw); go_simp; (try with_reducible rfl))); (try simp only [Act.put, sA, sB, sC])); ((refine wpAnyH_take (i := 5) (v := ?_) rfl (by kernel_rfl) (by kernel_rfl) (by kernel_rfl) (fun _ _ _ h => h) (Or.inl ⟨by kernel_rfl, ?_⟩) (by assumption) ?_); rotate_left 1; (focus (intro w hSw; (try dsimp only at hSw); go_simp; (try with_reducible rfl))); (try simp only [Act.put, sA, sB, sC])); ((refine wpAnyH_take (i := 6) (v := ?_) rfl (by kernel_rfl) (by kernel_rfl) (by kernel_rfl) (fun _ _ _ h => h) (Or.inl ⟨by kernel_rfl, ?_⟩) (by assumption) ?_); rotate_left 1; (focus (intro w hSw; (try dsimp only at hSw); go_simp; (try with_reducible rfl))); (try simp only [Act.put, sA, sB, sC])); ((refine wpAnyH_take (i := 7) (v := ?_) rfl (by kernel_rfl) (by kernel_rfl) (by kernel_rfl) (fun _ _ _ h => h) (Or.inl ⟨by kernel_rfl, ?_⟩) (by assumption) ?_); rotate_left 1; (focus (intro w hSw; (try dsimp only at hSw); go_simp; (try with_reducible rfl))); (try simp only [Act.put, sA, sB, sC])); ((refine wpAnyH_take (i := 8) (v := ?_) rfl (by kernel_rfl) (by kernel_rfl) (by kernel_rfl) (fun _ _ _ h => h) (Or.inl ⟨by kernel_rfl, ?_⟩) (by assumption) ?_); rotate_left 1; (focus (intro w hSw; (try dsimp only at hSw); go_simp; (try with_reducible rfl))); (try simp only [Act.put, sA, sB, sC])); ((refine wpAnyH_take (i := 9) (v := ?_) rfl (by kernel_rfl) (by kernel_rfl) (by kernel_rfl) (fun _ _ _ h => h) (Or.inl ⟨by kernel_rfl, ?_⟩) (by assumption) ?_); rotate_left 1; (focus (intro w hSw; (try dsimp only at hSw); go_simp; (try with_reducible rfl))); (try simp only [Act.put, sA, sB, sC])); ((refine wpAnyH_take (i := 10) (v := ?_) rfl (by kernel_rfl) (by kernel_rfl) (by kernel_rfl) (fun _ _ _ h => h) (Or.inl ⟨by kernel_rfl, ?_⟩) (by assumption) ?_); rotate_left 1; (focus (intro w hSw; (try dsimp only at hSw); go_simp; (try with_reducible rfl))); (try simp only [Act.put, sA, sB, sC])); ((refine wpAnyH_take (i := 12) (v := ?_) rfl (by kernel_rfl) (by kernel_rfl) (by kernel_rfl) (fun _ _ _ h => h) (Or.inl ⟨by kernel_rfl, ?_⟩) (by assumption) ?_); rotate_left 1; (focus (intro w hSw; (try dsimp only at hSw); go_simp; (try with_reducible rfl))); (try simp only [Act.put, sA, sB, sC])))
                    clear hHeld
                    refine wpAnyH_ready (rs := [11, 13]) (by kernel_rfl) (by simp) ?_
                    refine AllReadyH.cons rfl (fun K hK => ?_) (AllReadyH.cons rfl (fun K hK => ?_) AllReadyH.nil)
                    · rw [if_pos (by kernel_rfl)]
                      go_simp
                      refine hK _ _ s0 (fun hh => ?_)
                      clear hK K hh
                      (try simp only [Act.put, sA, sB, sC])
                      (((refine wpAnyH_ready (rs := [13]) (by kernel_rfl) (by simp) ?_); (refine AllReadyH.cons rfl (fun K hK => ?_) AllReadyH.nil); (rw [if_pos (by kernel_rfl)]); go_simp))
                      (try rw [hV3])
                      refine hK _ _ s1 (fun hh => ?_)
                      clear hK K hh
                      (try simp only [Act.put, sA, sB, sC])
                      refine wpAnyH_ready (rs := [14]) (by kernel_rfl) (by simp) ?_
                      refine AllReadyH.cons rfl (fun K hK => ?_) AllReadyH.nil
                      refine step_app_runQ (by rfl) _ _ (by rfl) (by rfl) (by rfl) hrun ?_
                      refine hK _ _ s3 (fun hh => ?_)
                      clear hK K
                      (try simp only [Act.put, sA, sB, sC])
                      (((refine wpAnyH_take (i := 15) (v := ?_) rfl (by kernel_rfl) (by kernel_rfl) (by kernel_rfl) (fun _ _ _ h => h) (Or.inl ⟨by kernel_rfl, ?_⟩) (by assumption) ?_); rotate_left 1; (focus (intro w hSw; (try dsimp only at hSw); go_simp; (try with_reducible rfl))); (try simp only [Act.put, sA, sB, sC])))
                      (((refine wpAnyH_ready (rs := [16]) (by kernel_rfl) (by simp) ?_); (refine AllReadyH.cons rfl (fun K hK => ?_) AllReadyH.nil); (rw [if_pos (by kernel_rfl)]); go_simp))
                      refine hK _ _ s5 (fun hh2 => ?_)
                      clear hK K hh hh2
                      (try simp only [Act.put, sA, sB, sC])
                      refine wpAnyH_done (by kernel_rfl) ?_ _
                      go_simp
                      have hb5 := HBX5.out
                      clear s0 s1 s3 s5 s7 s8 s9 r0 r1 hrun hB4
                      obtain ⟨w7e, hw7e⟩ : ∃ w7e, V4.setCell ⟨gs, k3, none⟩ (.slice A4 (rn + 1) c4) = w7e := ⟨_, rfl⟩
                      rw [hw7e] at HS5' hb5 ⊢
                      clear hw7e HBX5
                      have hr1 := HR1.out
                      have hpx := HPX.out
                      go_wp2_with fail
                      go_roundw
                      case rel => exact ⟨j + 1, q4, by omega, by go_num, by rw [HTS.out], HS5'.out⟩
                      case measure => simp [intOf]; omega
                    · rw [if_pos (by kernel_rfl)]
                      go_simp
                      (try rw [hV3])
                      refine hK _ _ s1 (fun hh => ?_)
                      clear hK K hh
                      (try simp only [Act.put, sA, sB, sC])
                      (((refine wpAnyH_ready (rs := [11]) (by kernel_rfl) (by simp) ?_); (refine AllReadyH.cons rfl (fun K hK => ?_) AllReadyH.nil); (rw [if_pos (by kernel_rfl)]); go_simp))
                      refine hK _ _ s1 (fun hh => ?_)
                      clear hK K hh
                      (try simp only [Act.put, sA, sB, sC])
                      refine wpAnyH_ready (rs := [14]) (by kernel_rfl) (by simp) ?_
                      refine AllReadyH.cons rfl (fun K hK => ?_) AllReadyH.nil
                      refine step_app_runQ (by rfl) _ _ (by rfl) (by rfl) (by rfl) hrun ?_
                      refine hK _ _ s3 (fun hh => ?_)
                      clear hK K
                      (try simp only [Act.put, sA, sB, sC])
                      (((refine wpAnyH_take (i := 15) (v := ?_) rfl (by kernel_rfl) (by kernel_rfl) (by kernel_rfl) (fun _ _ _ h => h) (Or.inl ⟨by kernel_rfl, ?_⟩) (by assumption) ?_); rotate_left 1; (focus (intro w hSw; (try dsimp only at hSw); go_simp; (try with_reducible rfl))); (try simp only [Act.put, sA, sB, sC])))
                      (((refine wpAnyH_ready (rs := [16]) (by kernel_rfl) (by simp) ?_); (refine AllReadyH.cons rfl (fun K hK => ?_) AllReadyH.nil); (rw [if_pos (by kernel_rfl)]); go_simp))
                      refine hK _ _ s5 (fun hh2 => ?_)
                      clear hK K hh hh2
                      (try simp only [Act.put, sA, sB, sC])
                      refine wpAnyH_done (by kernel_rfl) ?_ _
                      go_simp
                      have hb5 := HBX5.out
                      clear s0 s1 s3 s5 s7 s8 s9 r0 r1 hrun hB4
                      obtain ⟨w7e, hw7e⟩ : ∃ w7e, V4.setCell ⟨gs, k3, none⟩ (.slice A4 (rn + 1) c4) = w7e := ⟨_, rfl⟩
                      rw [hw7e] at HS5' hb5 ⊢
                      clear hw7e HBX5
                      have hr1 := HR1.out
                      have hpx := HPX.out
                      go_wp2_with fail
                      go_roundw
                      case rel => exact ⟨j + 1, q4, by omega, by go_num, by rw [HTS.out], HS5'.out⟩
                      case measure => simp [intOf]; omega
                  · have hjn : j = s.2.1 := by omega
                    have hSn : SRel w9 gs n fs (k3 + 1) [] q2 wr := by
                      rw [List.take_of_length_le (by have := HLS.out; omega)] at hS
                      exact hS.next HFF.out
                    have HSn := Lib.hid hSn
                    have hjI : ¬ ((j : Int) < (s.2.1 : Int)) := by omega
                    clear hSn hS
                    go_wp2_with fail
                    go_roundw
                    case rel => exact ⟨k3 + 1, q2, by omega, by go_num, HSn.out⟩
                    case measure => simp [intOf]; omega
              · have hkn3 : k3 = n := by omega
                have HSn := Lib.hid hS
                have hkI : ¬ ((k3 : Int) < (n : Int)) := by omega
                clear hS
                go_wp2_with fail
                go_ret2
                have hSn := HSn.out
                have hln : fs.length = n := HL.out
                have hFr := HFR.out wr hSn.bl
                have hxr : ∀ {b}, b < gs → wr.heap[b]? = w9.heap[b]? := fun hb => hSn.bl.block _ hb
                have hG : GBlk wr G0 (.slice A5 n c5) (.slice (some ⟨gs, 0, none⟩) n n) (.slice Ao no co) (.slice none 0 0) w.heap.size := (hxr HG0S.out).trans HG9.out
                have hM6l := HM6.out.lt
                have hszg : w6.heap.size ≤ gs := by have := HX7.out.size; have := HGS.out; omega
                have hws : w.heap.size < G0 := by have := HG0.out; omega
                have hM : MapD wr w.heap.size k (plcV fs) := HM6.out.block ((hxr (by omega)).trans (HX9.out.block _ hM6l (by omega)))
                have hX7wr : Ex (fun j => j = G0) w7 wr := HX79.out.trans (Z := fun i => i = G0) (Y := fun i => gs ≤ i) ⟨hSn.bl.os, hSn.bl.tape, hSn.bl.output, hSn.bl.size, fun i hi hx => hSn.bl.block i (by omega)⟩ (fun _ _ x => x) (fun i hi x => absurd hi (by have := HGS.out; omega))
                have hO : Own .i64 3 wr w6.heap.size Ao no co (ints ord) := HO7.out.ex hX7wr (fun b hb e => by have := (HO7.out.ltN b hb).1; have := HGL.out; have := HZ6.out; omega)
                have hEw : E w wr := e_ex HX6.out (HX9.out.trans (Z := fun i => w.heap.size ≤ i) (Y := fun i => gs ≤ i) ⟨hSn.bl.os, hSn.bl.tape, hSn.bl.output, hSn.bl.size, fun i hi hx => hSn.bl.block i (by omega)⟩ (fun _ _ x => by omega) (fun i hi x => by omega)) (fun i hi => hi)
                have hno : no = n := HNO.out.trans hln
                subst hno
                refine ⟨0, NewE.of_ok HGK.out, hEw, .inr ⟨rfl, G0, fun i => w.heap.size ≤ i ∧ i < wr.heap.size, rfl, ⟨⟨w.heap.size, k, bF, A5, c5, q5, gs, gs, q, w6.heap.size, Ao, co, ord, none, 0, 0⟩, ?_⟩, fun i hi => hi.1⟩⟩
                have hlt9 := HGL.out
                have hz69 := HZ6.out
                refine ⟨HGK.out, ?_, ?_, HQ5.out, ?_, fun i r f hr hf => ?_, hM, ?_, HT.out, .inl ⟨rfl, rfl, rfl⟩, ⟨⟨by omega, lt_blk hG⟩, ⟨Nat.le_refl _, hM.lt⟩, ⟨by simp only; omega, hSn.ir.lt.2⟩⟩, fun b hb => ?_, fun p hp => ⟨fun h0 b hb => ?_, fun h0 b hb => ?_⟩, fun r hr b hb => ?_, fun b hb => ?_, fun b hb => (by cases hb), fun i hi => hi.2⟩
                · rw [hln]; exact hG
                · rw [hln]; exact hFr
                · rw [hln]; exact hSn.ir
                · have := hSn.v i r f hr hf
                  rw [if_pos (by have := (List.getElem?_eq_some_iff.1 hf).1; omega)] at this
                  exact this
                · rw [hln]; exact hO
                · have := hFr.ltN b hb; have := HBF.out; exact ⟨by omega, by omega⟩
                · have h1 := (HS5.out p hp).1 b hb
                  obtain ⟨b', o', e, hl, _⟩ := (hFr.2.2 p hp).2.1.1.at_ h0
                  rw [e] at hb
                  have := ob_some' hb
                  have := HBF.out
                  exact ⟨by omega, by omega⟩
                · have h1 := (HS5.out p hp).2 b hb
                  obtain ⟨b', o', e, hl, _⟩ := (hFr.2.2 p hp).2.1.2.at_ h0
                  rw [e] at hb
                  have := ob_some' hb
                  have := HBF.out
                  exact ⟨by omega, by omega⟩
                · have := (hSn.ir.own r hr).ltN b hb; exact ⟨by omega, by omega⟩
                · have := hO.ltN b hb; exact ⟨by omega, by omega⟩
end Go.Proofs.YtmeplpiamkaniaaGreat
namespace Go.Proofs.YtmeplpiamkaniaaGreat
set_option linter.unusedVariables false
set_option linter.unusedSimpArgs false
open Go.RowKit
theorem lots_box {w : World} {x : Lt} (hx : WfL x) : LotsAt (w.alloc (.cells #[.int .i64 x.1, .int .i64 x.2.1, .int .i64 x.2.2] 30)) (some ⟨w.heap.size, 0, none⟩) 1 1 [x] := lot_box hx (cells3_new w _ _ _ _)
set_option linter.unusedSimpArgs false in
set_option maxHeartbeats 1000000 in
theorem gHas_c (X : Nat → Prop) (g : Nat) (fs : List Fl) (x : Lt) (w : World) (h : GraphAt w X g fs) (hx : WfL x) :
    Calls Tryz.prog 34 #[.pointer (some ⟨g, 0, none⟩), ltV x] w (RetK w (hasF fs x)) := by
  obtain ⟨p, hG⟩ := h
  obtain ⟨w1, hw1⟩ : ∃ w1, w.alloc (.cells #[.int .i64 x.1, .int .i64 x.2.1, .int .i64 x.2.2] 30) = w1 := ⟨_, rfl⟩
  have hE1 : E w w1 := by rw [← hw1]; exact (E.refl w).alloc _
  have hx3 := cells3_new w (.int .i64 x.1) (.int .i64 x.2.1) (.int .i64 x.2.2) 30
  rw [hw1] at hx3
  have HZ1 := Lib.hid (show w.heap.size < w1.heap.size by rw [← hw1]; simp)
  obtain ⟨w2, hw2⟩ : ∃ w2, w1.alloc (.cells #[.int .i64 x.1, .int .i64 x.2.1, .int .i64 x.2.2] 30) = w2 := ⟨_, rfl⟩
  have hE2 : E w1 w2 := by rw [← hw2]; exact (E.refl w1).alloc _
  have HV := Lib.hid (valid_c (some ⟨w1.heap.size, 0, none⟩) 1 1 [x] w2 (by rw [← hw2]; exact lots_box hx))
  have HE1 := Lib.hid hE1
  have HE2 := Lib.hid hE2
  have HG := Lib.hid hG
  have HX3 := Lib.hid hx3
  obtain ⟨res, hres⟩ : ∃ res, hasF fs x = res := ⟨_, rfl⟩
  have HR := Lib.hid hres
  obtain ⟨bv, hbv⟩ : ∃ bv, validB [x] = bv := ⟨_, rfl⟩
  have HBV := Lib.hid hbv
  rw [hbv] at HV
  rw [hres]
  have hid := hx.1
  have hwx := hx
  obtain ⟨c0, c1, c2⟩ := hx3
  clear hG hE1 hE2 hres hbv hx
  unfold ltV
  go_enter Tryz.func34, Tryz.ntmps34
  go_upto_region 1 with fail
  try rw [hw1]
  clear hw1
  cases bv
  · have HF := Lib.hid (show res = false by rw [← HR.out, hasF, HBV.out]; rfl)
    go_wp2_with (first | (go_at_call 56; (try rw [hw2]); refine HV.out.mono ?_; rintro e w3 ⟨rfl, hE3⟩))
    go_ret
    exact ⟨ret_bool HF.out.symm, (HE1.out.trans HE2.out).trans hE3⟩
  · go_upto_region 3 with (first | (go_at_call 56; (try rw [hw2]); refine HV.out.mono ?_; rintro e w3 ⟨rfl, hE3⟩))
    clear c0 c1 c2 hw2
    have hE23 := HE2.out.trans hE3
    have hEw := HE1.out.trans hE23
    have hc0 := (hE23.cell (p := ⟨w.heap.size, 0, none⟩) HZ1.out).trans HX3.out.1
    have hc1 := (hE23.cell (p := ⟨w.heap.size, 1, none⟩) HZ1.out).trans HX3.out.2.1
    have hc2 := (hE23.cell (p := ⟨w.heap.size, 2, none⟩) HZ1.out).trans HX3.out.2.2
    have hG := HG.out.e hEw
    obtain ⟨gc0, _, gc2, _, _⟩ := hG.blk.cells
    have hlk := fun m => (hG.mp.drewN m).lookOk mapIT hid
    have hlk0 := hG.mp.lookOk mapIT hid
    have hpx := possB_iff.1 ((validB_iff.1 HBV.out).2 x (by simp))
    have hn63 := hG.flows.n63
    have hwr : IntKind.i64.wrap (x.2.1 + x.2.2) = x.2.1 + x.2.2 := by rw [IntKind.wrap_i64]; omega
    have HEW := Lib.hid hEw
    have HF3 := Lib.hid hG.flows
    cases hp : posF fs x.1 with
    | none =>
      rw [plc_none hp] at hlk hlk0
      simp only [Option.getD, Option.isSome] at hlk hlk0
      have HF := Lib.hid (show res = false by rw [← HR.out, hasF, HBV.out, posF_none.1 hp]; rfl)
      clear hp hG hEw hE23 hpx hn63
      (refine wp_region_quiet_lit (by kernel_rfl) (by kernel_rfl) ?_; (repeat (first | ((with_reducible refine wpQuiet_step (fun K hK => ?_)); go_simp; (with_reducible refine hK _ ?_); clear hK K) | ((with_reducible refine wpQuiet_off (by kernel_rfl) (fun K hK => ?_)); go_simp; (with_reducible refine hK _ ?_); clear hK K))); (with_reducible refine wpQuiet_nil ?_); intro _ hw'; obtain ⟨nq, hw''⟩ := hw'; subst hw'')
      go_wp2_with fail
      (refine wp_region_quiet_lit (by kernel_rfl) (by kernel_rfl) ?_; (repeat (first | ((with_reducible refine wpQuiet_step (fun K hK => ?_)); go_simp; (with_reducible refine hK _ ?_); clear hK K) | ((with_reducible refine wpQuiet_off (by kernel_rfl) (fun K hK => ?_)); go_simp; (with_reducible refine hK _ ?_); clear hK K))); (with_reducible refine wpQuiet_nil ?_); intro _ hw'; obtain ⟨nq, hw''⟩ := hw'; subst hw'')
      go_wp2_with fail
      go_ret
      exact ⟨ret_bool HF.out.symm, (HEW.out.drewN _).drewN _⟩
    | some j =>
      rw [plc_some hp] at hlk hlk0
      simp only [Option.getD, Option.isSome] at hlk hlk0
      obtain ⟨f0, hq0, hgf, _⟩ := posF_some hp
      have hjn : j < fs.length := (List.getElem?_eq_some_iff.1 hq0).1
      obtain ⟨b3, o3, f, s3, t3, hAe, hb3, hq, _, hcq, _⟩ := HF3.out.get hjn
      rw [hq0] at hq
      injection hq with hq
      subst hq
      rw [hAe] at gc0
      unfold FlCells at hcq
      obtain ⟨_, _, _, _, _, _, _, _, q8, _, _⟩ := hcq
      have hjI : (j : Int) < (fs.length : Int) := by omega
      have HF := Lib.hid (show res = decide (x.2.1 + x.2.2 ≤ f0.n) by rw [← HR.out, hasF, HBV.out, hgf]; rfl)
      clear hp hG hEw hE23 hq0 hgf hjn hAe
      generalize fs.length = nn at *
      (refine wp_region_quiet_lit (by kernel_rfl) (by kernel_rfl) ?_; (repeat (first | ((with_reducible refine wpQuiet_step (fun K hK => ?_)); go_simp; (with_reducible refine hK _ ?_); clear hK K) | ((with_reducible refine wpQuiet_off (by kernel_rfl) (fun K hK => ?_)); go_simp; (with_reducible refine hK _ ?_); clear hK K))); (with_reducible refine wpQuiet_nil ?_); intro _ hw'; obtain ⟨nq, hw''⟩ := hw'; subst hw'')
      go_wp2_with fail
      (refine wp_region_quiet_lit (by kernel_rfl) (by kernel_rfl) ?_; (repeat (first | ((with_reducible refine wpQuiet_step (fun K hK => ?_)); go_simp; (with_reducible refine hK _ ?_); clear hK K) | ((with_reducible refine wpQuiet_off (by kernel_rfl) (fun K hK => ?_)); go_simp; (with_reducible refine hK _ ?_); clear hK K))); (with_reducible refine wpQuiet_nil ?_); intro _ hw'; obtain ⟨nq, hw''⟩ := hw'; subst hw'')
      go_wp2_with fail
      go_ret
      exact ⟨ret_bool HF.out.symm, (HEW.out.drewN _).drewN _⟩
theorem all_take_at {α : Type} {q : α → Bool} {l : List α} {k : Nat} {x : α} (h : l[k]? = some x) (h0 : (l.take k).all q = true) (hx : q x = false) : l.all q = false := by
  have hm := List.mem_of_getElem? h
  rw [Bool.eq_false_iff]
  intro ha
  rw [List.all_eq_true] at ha
  rw [ha x hm] at hx; cases hx
theorem all_take_next {α : Type} {q : α → Bool} {l : List α} {k : Nat} {x : α} (h : l[k]? = some x) (h0 : (l.take k).all q = true) (hx : q x = true) : (l.take (k + 1)).all q = true := by
  rw [take_snoc h, List.all_append, h0]; simp [hx]
set_option linter.unusedSimpArgs false in
set_option maxHeartbeats 1000000 in
theorem gEvery_c (X : Nat → Prop) (g : Nat) (fs : List Fl) (A : Option Addr) (n c : Nat) (l : List Lt) (w : World) (h : GraphAt w X g fs) (hl : LotsAt w A n c l) :
    Calls Tryz.prog 78 #[.pointer (some ⟨g, 0, none⟩), .slice A n c, .func (.func 34) #[] #[]] w (RetK w (l.all (hasF fs))) := by
  have hcall := Tryz.call34
  have hn63 := hl.n63
  have HL := Lib.hid hl.len
  obtain ⟨res, hres⟩ : ∃ res, l.all (hasF fs) = res := ⟨_, rfl⟩
  have HR := Lib.hid hres
  rw [hres]
  clear hres
  go_enter Tryz.func78, Tryz.ntmps78
  go_wp2_with fail
  go_loopw [11] (fun ti wr => ∃ k : Nat, k ≤ n ∧ ti = .int .i64 k ∧ E w wr ∧ Hid ((l.take k).all (hasF fs) = true)) (fun ti _ => n - (intOf ti).toNat)
  case atStart => exact ⟨0, Nat.zero_le _, rfl, E.refl _, show _ = _ by rw [List.take_zero]; rfl⟩
  case round =>
    obtain ⟨k, hk, rfl, hE, hz⟩ := hrel
    by_cases hlt : k < n
    · obtain ⟨b, o, x, rfl, hbb, hx, hwx, d0, d1, d2⟩ := (hl.e hE).get hlt
      have hkI : (k : Int) < (n : Int) := by omega
      obtain ⟨w2, hw2⟩ : ∃ w2, wr.alloc (.cells #[.int .i64 x.1, .int .i64 x.2.1, .int .i64 x.2.2] 30) = w2 := ⟨_, rfl⟩
      have hE2 : E wr w2 := by rw [← hw2]; exact (E.refl wr).alloc _
      have HH := Lib.hid (gHas_c X g fs x w2 (h.e (hE.trans hE2)) hwx)
      unfold ltV at HH
      have hx3 := cells3_new wr (.int .i64 x.1) (.int .i64 x.2.1) (.int .i64 x.2.2) 30
      rw [hw2] at hx3
      obtain ⟨c0, c1, c2⟩ := hx3
      have HE2 := Lib.hid (hE.trans hE2)
      obtain ⟨bv, hbv⟩ : ∃ bv, hasF fs x = bv := ⟨_, rfl⟩
      rw [hbv] at HH
      cases bv
      · have HF := Lib.hid (show res = false by rw [← HR.out]; exact all_take_at hx hz.out hbv)
        clear hx hz hbv hwx hE hE2
        go_upto_region 4 with fail
        try rw [hw2]
        clear hw2 d0 d1 d2
        go_wp2_with (go_at_call 34; refine HH.out.mono ?_; rintro e w3 ⟨rfl, hE3⟩)
        go_ret
        exact ⟨ret_bool HF.out.symm, HE2.out.trans hE3⟩
      · have HN := Lib.hid (all_take_next hx hz.out hbv)
        clear hx hz hbv hwx hE hE2
        go_upto_region 4 with fail
        try rw [hw2]
        clear hw2 d0 d1 d2
        go_wp2_with (go_at_call 34; refine HH.out.mono ?_; rintro e w3 ⟨rfl, hE3⟩)
        go_roundw
        case rel => exact ⟨k + 1, by omega, by go_num, HE2.out.trans hE3, HN⟩
        case measure => simp [intOf]; omega
    · have HF := Lib.hid (show res = true by
        have := hz.out
        rw [List.take_of_length_le (by have := HL.out; omega), HR.out] at this
        exact this)
      have HE := Lib.hid hE
      clear hz hE
      go_wp2_with fail
      go_ret
      exact ⟨ret_bool HF.out.symm, HE.out⟩
end Go.Proofs.YtmeplpiamkaniaaGreat
