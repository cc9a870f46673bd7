/- Lemmas of the claim, joined: GTu GTw GHa GHb GHc. No condition. -/
import Derived.Test.YtmeplpiamkaniaaJG
import Derived.Test.YtmeplpiamkaniaaJB
import Derived.Test.YtmeplpiamkaniaaJH
import Derived.Test.YtmeplpiamkaniaaJE
import Derived.Test.YtmeplpiamkaniaaJF
import Derived.Test.YtmeplpiamkaniaaJR
/- The same flows in another order, plain. -/
namespace Go.Proofs.Ytmeplpiamkaniaa
set_option linter.unusedVariables false
set_option linter.unusedSimpArgs false

theorem chk1_zero {seen : List Int} {fs : List Fl} (h : ∀ f ∈ fs, okF f = true ∧ f.id ∉ seen) (hi : Ids fs) : chk1 seen fs = 0 := by
  induction fs generalizing seen with
  | nil => rfl
  | cons f fs ih =>
    have hi' := List.pairwise_cons.1 hi
    obtain ⟨h1, h2⟩ := h f List.mem_cons_self
    rw [chk1, if_pos h1, if_neg (by simpa using h2)]
    refine ih (fun g hg => ?_) hi'.2
    obtain ⟨h3, h4⟩ := h g (List.mem_cons_of_mem _ hg)
    refine ⟨h3, fun hm => ?_⟩
    rcases List.mem_append.1 hm with hm | hm
    · exact h4 hm
    · exact hi'.1 g hg (by simp at hm; exact hm.symm)
/-- the same flows -/
structure SameG (fs gs : List Fl) : Prop where
  get : ∀ i, getF gs i = getF fs i
  mem : ∀ f, f ∈ gs ↔ f ∈ fs
section
variable {fs gs : List Fl} {r : Un → Un} {x : Lt}
theorem SameG.of (hi : Ids fs) (hj : Ids gs) (hm : ∀ f, f ∈ gs ↔ f ∈ fs) : SameG fs gs := by
  refine ⟨fun i => ?_, hm⟩
  cases h : getF fs i with
  | none =>
    rw [getF_none] at h ⊢
    exact fun f hf => h f ((hm f).1 hf)
  | some f =>
    obtain ⟨h1, h2⟩ := getF_some h
    have := hj.mem ((hm f).2 h1)
    rwa [h2] at this
theorem SameG.src (h : SameG fs gs) (u : Un) : srcU gs u = srcU fs u := by rw [srcU, srcU, h.get]
theorem SameG.has (h : SameG fs gs) (x : Lt) : hasF gs x = hasF fs x := by rw [hasF, hasF, h.get]
theorem SameG.rootOf (h : SameG fs gs) (hr : RootOf fs r) : RootOf gs r := fun u => by rw [h.src]; exact hr u
theorem SameG.rootF (h : SameG fs gs) : rootF gs r x = rootF fs r x := by rw [Proofs.Ytmeplpiamkaniaa.rootF, Proofs.Ytmeplpiamkaniaa.rootF, h.has]
theorem SameG.lat (h : SameG fs gs) {S : Un → Prop} {u : Un} (hl : Lat gs S u) : Lat fs S u := by
  induction hl with
  | base h1 => exact .base h1
  | src h1 _ ih => exact .src (by rw [← h.src]; exact h1) ih
theorem SameG.symm (h : SameG fs gs) : SameG gs fs := ⟨fun i => (h.get i).symm, fun f => (h.mem f).symm⟩
theorem SameG.later (h : SameG fs gs) {S l : List Lt} (hl : LaterOf gs S l) : LaterOf fs S l := by
  have e : ∀ x, hasF gs x = hasF fs x := h.has
  rcases hl with ⟨h1, h2, h3⟩ | ⟨h1, h2⟩
  · exact .inl ⟨h1, fun x hx => by rw [← e]; exact h2 x hx, h3.can, fun u => (h3.mem u).trans ⟨h.lat, h.symm.lat⟩⟩
  · exact .inr ⟨fun hc => h1 ⟨hc.1, fun x hx => by rw [e]; exact hc.2 x hx⟩, h2⟩
theorem SameG.ancU (h : SameG fs gs) {u : Un} (hu : AncU gs x u) : AncU fs x u := by
  induction hu with
  | base h1 => exact .base h1
  | src _ h2 ih => exact .src ih (by rw [← h.src]; exact h2)
  | made _ h2 h3 h4 h5 ih => exact .made ih (by rw [← h.get]; exact h2) h3 (by rw [← h.get]; exact h4) h5
theorem SameG.ancI (h : SameG fs gs) (i : Int) : AncI gs x i ↔ AncI fs x i :=
  ⟨fun ⟨u, h1, h2⟩ => ⟨u, h.ancU h1, h2⟩, fun ⟨u, h1, h2⟩ => ⟨u, h.symm.ancU h1, h2⟩⟩
theorem SameG.hash (h : SameG fs gs) {k : Int → Int} (hk : HashOf fs k) : HashOf gs k := fun f hf => hk f ((h.mem f).1 hf)
theorem GOk.same (hg : GOk fs) (hj : Ids gs) (hm : ∀ f, f ∈ gs ↔ f ∈ fs) : GOk gs := by
  have hs := SameG.of hg.ids hj hm
  refine ⟨chk1_zero (fun f hf => ⟨hg.ok f ((hm f).1 hf), by simp⟩) hj, ?_, ?_⟩
  · rw [chk2, firstE_zero]
    intro e he
    obtain ⟨f, hf, rfl⟩ := List.mem_map.1 he
    have h0 := hg.link f ((hm f).1 hf)
    rw [linkE, firstE_zero] at h0 ⊢
    intro e he
    apply h0 e
    have e1 : f.parts.map (partE gs f) = f.parts.map (partE fs f) := List.map_congr_left fun p _ => by rw [partE, partE, hs.get]
    have e2 : f.made.map (madeE gs) = f.made.map (madeE fs) := List.map_congr_left fun p _ => by rw [madeE, madeE, hs.get]
    rw [e1, e2] at he
    exact he
  · obtain ⟨rk, hrk⟩ := hg.rk
    exact ⟨rk, fun f hf => hrk f ((hm f).1 hf)⟩
end
/-! turned -/
def turnF (fs : List Fl) (s : Nat) : List Fl := fs.drop (s % fs.length) ++ fs.take (s % fs.length)
theorem turn_mem (fs : List Fl) (s : Nat) (f : Fl) : f ∈ turnF fs s ↔ f ∈ fs := by
  have hp : (turnF fs s).Perm fs := List.perm_append_comm.trans (by rw [List.take_append_drop])
  exact hp.mem_iff
theorem turn_ids {fs : List Fl} (h : Ids fs) (s : Nat) : Ids (turnF fs s) := by
  have hp : (turnF fs s).Perm fs := List.perm_append_comm.trans (by rw [List.take_append_drop])
  exact (hp.pairwise_iff (R := fun f g : Fl => f.id ≠ g.id) (fun h e => h e.symm)).2 h
theorem turn_len (fs : List Fl) (s : Nat) : (turnF fs s).length = fs.length := by
  have hp : (turnF fs s).Perm fs := List.perm_append_comm.trans (by rw [List.take_append_drop])
  exact hp.length_eq
theorem turn_get (fs : List Fl) (s i : Nat) (hi : i < fs.length) : (turnF fs s)[i]? = fs[(s + i) % fs.length]? := by
  have hm : s % fs.length < fs.length := Nat.mod_lt _ (by omega)
  have e : (s + i) % fs.length = (s % fs.length + i) % fs.length := by rw [Nat.mod_add_mod]
  rw [turnF, e]
  generalize s % fs.length = m at hm
  rcases Nat.lt_or_ge (m + i) fs.length with h | h
  · rw [Nat.mod_eq_of_lt h, List.getElem?_append_left (by rw [List.length_drop]; omega), List.getElem?_drop]
  · have e2 : (m + i) % fs.length = m + i - fs.length := by
      rw [Nat.mod_eq_sub_mod h, Nat.mod_eq_of_lt (by omega)]
    rw [e2, List.getElem?_append_right (by rw [List.length_drop]; omega), List.length_drop, List.getElem?_take, if_pos (by omega)]
    congr 1; omega
theorem GOk.turn {fs : List Fl} (h : GOk fs) (s : Nat) : GOk (turnF fs s) ∧ SameG fs (turnF fs s) :=
  ⟨h.same (turn_ids h.ids s) (turn_mem fs s), SameG.of h.ids (turn_ids h.ids s) (turn_mem fs s)⟩
end Go.Proofs.Ytmeplpiamkaniaa
/- Flows in another order: the walk of the model's Turned. -/
namespace Go.Proofs.Ytmeplpiamkaniaa
set_option linter.unusedVariables false
set_option linter.unusedSimpArgs false
open Go.RowKit

def turnS (k : Int) : Nat := (k.tmod 7 + 7).toNat
set_option linter.unusedSimpArgs false in
set_option maxHeartbeats 4000000 in
set_option maxRecDepth 100000 in
theorem turned_c (A : Option Addr) (n c : Nat) (fs : List Fl) (k : Int) (w : World) (h : FlowsAt w A n c fs) (hn : n ≤ 1000) :
    Calls Try.prog 27 #[.slice A n c, .int .i64 k] w (fun e w' => ∃ A' c', e = .returned (.slice A' n c') ∧ FlowsAt w' A' n c' (turnF fs (turnS k)) ∧ E w w') := by
  have hn63 := h.n63
  have HL := Lib.hid h.len
  have h7 : -7 < k.tmod 7 ∧ k.tmod 7 < 7 := ⟨by have := Int.lt_tmod_of_pos k (b := 7) (by omega); omega, by have := Int.tmod_lt_of_pos k (b := 7) (by omega); omega⟩
  obtain ⟨sN, hsN⟩ : ∃ sN : Nat, turnS k = sN := ⟨_, rfl⟩
  have hs7 : k.tmod 7 + 7 = (sN : Int) := by rw [← hsN, turnS]; omega
  have hwr1 : IntKind.i64.wrap (k.tmod 7 + 7) = (sN : Int) := by rw [IntKind.wrap_i64]; omega
  have hsb : (sN : Int) ≤ 13 := by omega
  rw [hsN]
  have HA := Lib.hid h
  clear hs7 h7 hsN h
  go_enter Try.func27, Try.ntmps27
  go_wp2_with fail
  go_loopw [5, 6] (fun t5 t6 wr => ∃ (i c5 : Nat) (A5 : Option Addr) (q : List FlSl), i ≤ n ∧ t6 = .int .i64 i ∧ t5 = .slice A5 i c5 ∧ FRow wr w.heap.size A5 i c5 q ∧ E w wr ∧ Hid (q.map Prod.fst = (turnF fs sN).take i)) (fun _ t6 _ => n - (intOf t6).toNat)
  case atStart => exact ⟨0, 0, none, [], Nat.zero_le _, rfl, rfl, FRow.nil _ _, E.refl _, by rw [List.take_zero]; rfl⟩
  case round =>
    obtain ⟨i, c5, A5, q, hi, rfl, rfl, hF, hE, hq⟩ := hrel
    by_cases hlt : i < n
    · have hiI : (i : Int) < (n : Int) := by omega
      have hi0 : (0 : Int) ≤ (i : Int) := by omega
      obtain ⟨m, hm⟩ : ∃ m : Nat, (sN + i) % n = m := ⟨_, rfl⟩
      have hmn : m < n := by rw [← hm]; exact Nat.mod_lt _ (by omega)
      have hmI : (m : Int) < (n : Int) := by omega
      have hwr2 : IntKind.i64.wrap ((sN : Int) + (i : Int)) = (sN : Int) + (i : Int) := by rw [IntKind.wrap_i64]; omega
      have hmod : ((sN : Int) + (i : Int)) % (n : Int) = (m : Int) := by rw [← hm, Int.natCast_emod, Int.natCast_add]
      have hmod2 : ((sN : Int) + (i : Int)).tmod (n : Int) = (m : Int) := by rw [Int.tmod_eq_emod_of_nonneg (by omega)]; exact hmod
      have z1 : ((n : Int) == 0) = false := by simp <;> omega
      have z2 : ((n : Int) == -1) = false := by simp <;> omega
      have z3 : ¬ (n : Int) = 0 := by omega
      have z4 : ¬ n = 0 := by omega
      obtain ⟨b, o, f, s, t, hAe, hb, hf, hwf, hcf, hfb⟩ := (HA.out.e hE).get hmn
      obtain ⟨b0, o0, f0, s0, t0, hA0, hb0, hf0, _, hc0, hfb0⟩ := HA.out.get hmn
      have hx : (turnF fs sN)[i]? = some f := by rw [turn_get fs sN i (by rw [HL.out]; exact hlt), HL.out, hm]; exact hf
      have HQN := Lib.hid (show (q ++ [(f, s, t)]).map Prod.fst = (turnF fs sN).take (i + 1) by rw [List.map_append, hq.out, take_snoc hx]; rfl)
      have hst : s = s0 ∧ t = t0 := by
        rw [hAe] at hA0
        injection hA0 with hA0
        injection hA0 with hA0 hA0'
        subst hA0 hA0'
        have h0' := hc0.e hE hb0
        unfold FlCells at hcf h0'
        have e1 := hcf.2.2.2.2.2.2.2.2.2.1.symm.trans h0'.2.2.2.2.2.2.2.2.2.1
        have e2 := hcf.2.2.2.2.2.2.2.2.2.2.symm.trans h0'.2.2.2.2.2.2.2.2.2.2
        injection e1 with e1
        injection e1 with a1 a2 a3
        injection e2 with e2
        injection e2 with b1 b2 b3
        exact ⟨Prod.ext a1 (Prod.ext a2 a3), Prod.ext b1 (Prod.ext b2 b3)⟩
      obtain ⟨rfl, rfl⟩ := hst
      have hn1 : 0 < s.2.1 → ob s.1 ≠ ob A5 := fun h0 e => by
        obtain ⟨b9, o9, e9, hb9, _⟩ := hfb0.1.at_ h0
        have h9 := (hF.ltN b9 (by rw [← e, e9]; rfl)).1
        omega
      have hn2 : 0 < t.2.1 → ob t.1 ≠ ob A5 := fun h0 e => by
        obtain ⟨b9, o9, e9, hb9, _⟩ := hfb0.2.at_ h0
        have h9 := (hF.ltN b9 (by rw [← e, e9]; rfl)).1
        omega
      obtain ⟨g9, c9, W9, hrun, hF9, hE9⟩ := flow_push hF hE (E.refl wr) f s t hwf hfb hn1 hn2 (by omega) 23
      have HF9 := Lib.hid hF9
      have HE9 := Lib.hid hE9
      unfold FlCells at hcf
      obtain ⟨x0, x1, x2, x3, x4, x5, x6, x7, x8, x9, x10⟩ := hcf
      subst hAe
      clear hm hf hwf hfb hf0 hc0 hfb0 hx hn1 hn2 hF hE hq hF9 hE9 hb hb0 hA0
      go_wp2_with (at_builtin; refine wpList_app_runM rfl _ _ rfl rfl rfl hrun ?_)
      go_roundw
      case rel => exact ⟨i + 1, c9, _, _, by omega, by go_num, rfl, HF9.out, HE9.out, HQN⟩
      case measure => simp [intOf]; omega
    · have hin : i = n := by omega
      subst hin
      have hfl : q.map Prod.fst = turnF fs sN := by rw [hq.out, List.take_of_length_le (by rw [turn_len, HL.out]; exact Nat.le_refl _)]
      have HFL := Lib.hid (hF.flows.cast hfl)
      clear hq hfl hF
      go_wp2_with fail
      go_ret
      exact ⟨A5, c5, rfl, HFL.out, hE⟩
end Go.Proofs.Ytmeplpiamkaniaa
/- The graph's hash of an ID, as a word (the function within hash). -/
namespace Go.Proofs.Ytmeplpiamkaniaa
set_option linter.unusedVariables false
set_option linter.unusedSimpArgs false
open Go.RowKit

/-- the hashes while they are being found: hv at the places of the flows -/
structure HsM (W : World) (fs : List Fl) (g mb km gh ch : Nat) (hv : List Int) : Prop where
  c4 : W.cell? ⟨g, 4, none⟩ = some (.slice (some ⟨gh, 0, none⟩) fs.length ch)
  c2 : W.cell? ⟨g, 2, none⟩ = some (.map (some mb))
  mp : MapD W mb km (plcV fs)
  hs : Nums .u64 W (some ⟨gh, 0, none⟩) fs.length ch hv
theorem HsM.e_ {W V : World} {fs : List Fl} {g mb km gh ch : Nat} {hv : List Int} (h : HsM W fs g mb km gh ch hv) (hg : g < W.heap.size) (hE : E W V) : HsM V fs g mb km gh ch hv :=
  ⟨(hE.cell (p := ⟨g, 4, none⟩) hg).trans h.c4, (hE.cell (p := ⟨g, 2, none⟩) hg).trans h.c2, h.mp.e hE, h.hs.e hE⟩
set_option linter.unusedSimpArgs false in
set_option maxHeartbeats 2000000 in
set_option maxRecDepth 100000 in
theorem hash1_c (fs : List Fl) (g mb km gh ch bg : Nat) (hv : List Int) (id : Int) (p : Nat) (v : Int) (w : World) (h : HsM w fs g mb km gh ch hv) (hb : w.cell? ⟨bg, 0, none⟩ = some (.pointer (some ⟨g, 0, none⟩))) (hw : (Lit.int .i64 id).wf = true) (hp : posF fs id = some p) (hv1 : hv[p]? = some v) :
    Calls Try.prog 95 #[.int .i64 id, .pointer (some ⟨bg, 0, none⟩)] w fun e w' => e = .returned (.int .i64 (wrap64 v)) ∧ E w w' := by
  obtain ⟨c4, c2, hM, hN⟩ := h
  have hpn : p < fs.length := by rw [← hN.len]; exact (List.getElem?_eq_some_iff.1 hv1).1
  obtain ⟨bh, oh, x, hA, hbh, hx, hwx, hcx⟩ := hN.get hpn
  injection hA with hA
  injection hA with hA1 hA2
  subst hA1 hA2
  rw [hv1] at hx
  injection hx with hx
  subst hx
  simp only [Nat.zero_add] at hcx
  have hlk := fun m => (hM.drewN m).look mapIT hw
  have hlk0 := hM.look mapIT hw
  rw [plc_some hp] at hlk hlk0
  simp only [Option.getD] at hlk hlk0
  have hpI : (p : Int) < (fs.length : Int) := by omega
  have hn63 := hN.n63
  have HM := Lib.hid hM
  clear hN hp hv1 hwx hM
  generalize fs.length = nn at *
  go_enter Try.func95, Try.ntmps95
  go_upto_region 1 with fail
  (refine wp_region_quiet_lit (by kernel_rfl) (by kernel_rfl) ?_; (repeat (first | ((with_reducible refine wpQuiet_step (fun K hK => ?_)); go_simp; (with_reducible refine hK _ ?_); clear hK K) | ((with_reducible refine wpQuiet_off (by kernel_rfl) (fun K hK => ?_)); go_simp; (with_reducible refine hK _ ?_); clear hK K))); (with_reducible refine wpQuiet_nil ?_); intro _ hw'; obtain ⟨nq, hw''⟩ := hw'; subst hw'')
  go_wp2_with fail
  go_ret
  exact ⟨ret_int (by first | rfl | (rw [IntKind.wrap_i64]; rfl) | (rw [IntKind.wrap_i64]; unfold wrap64; omega)), (E.refl _).drewN _⟩
end Go.Proofs.Ytmeplpiamkaniaa
/- The graph's hash of a flow. -/
namespace Go.Proofs.Ytmeplpiamkaniaa
set_option linter.unusedVariables false
set_option linter.unusedSimpArgs false
open Go.RowKit

theorem nums_lit (W : World) (l : List Int) (hw : ∀ x ∈ l, (Lit.int .i64 x).wf = true) (h0 : l.length ≤ 1000) (cs : Array Value) (hc : cs = (l.map (Value.int .i64)).toArray) : Nums .i64 (W.alloc (.cells cs 3)) (some ⟨W.heap.size, 0, none⟩) l.length l.length l := by
  subst hc
  have hb := heap_alloc_new W (.cells (l.map (Value.int .i64)).toArray 3)
  refine ⟨rfl, Nat.le_refl _, by unfold maxLen; omega, hw, fun _ => ⟨W.heap.size, 0, rfl, by simp, fun i hi => ?_⟩⟩
  rw [Nat.zero_add, cell_of_row _ _ i _ _ _ hb, List.getElem?_toArray, List.getElem?_map, List.getElem?_eq_getElem hi]
  rfl
theorem ownI_lit (W : World) (l : List Int) (hw : ∀ x ∈ l, (Lit.int .i64 x).wf = true) (h0 : l.length ≤ 1000) (cs : Array Value) (hc : cs = (l.map (Value.int .i64)).toArray) : Own .i64 3 (W.alloc (.cells cs 3)) W.heap.size (some ⟨W.heap.size, 0, none⟩) l.length l.length l := by
  subst hc
  exact ⟨rfl, ⟨by rw [List.length_map, Nat.mul_one], .inr ⟨W.heap.size, l.length, _, rfl, Nat.le_refl _, heap_alloc_new W _, Nat.le_refl _, by unfold maxLen; omega, by simp, by rw [List.take_of_length_le (by simp)]⟩⟩, hw⟩
theorem wrap64_wf (v : Int) : (Lit.int .i64 (wrap64 v)).wf = true := by
  have : wrap64 v = IntKind.i64.wrap v := by rw [IntKind.wrap_i64]; unfold wrap64; omega
  rw [this]; exact wf_of_i64 (by rw [IntKind.wrap_i64]; omega) (by rw [IntKind.wrap_i64]; omega)
/-- the words ahead of the parts -/
def hw10 (f : Fl) : List Int := [f.id, f.step, f.kind, f.tick, f.actor, f.frm, f.to, f.item, f.n, (f.parts.length : Int)]
def hwP (h : Int → Int) (p : Lt) : List Int := [wrap64 (h p.1), p.2.1, p.2.2]
theorem hwF_eq (f : Fl) (h : Int → Int) : hwF f h = hw10 f ++ f.parts.flatMap (hwP h) ++ [(f.made.length : Int)] ++ f.made.map fun j => wrap64 (h j) := by
  simp [hwF, hw10]
  rfl
set_option linter.unusedSimpArgs false in
set_option maxHeartbeats 8000000 in
set_option maxRecDepth 100000 in
theorem ghash_c (fs : List Fl) (g mb km gh ch : Nat) (hv : List Int) (f : Fl) (A : Option Addr) (n c : Nat) (A' : Option Addr) (n' c' : Nat) (k : Int → Int) (w : World) (h : HsM w fs g mb km gh ch hv) (hg : g < w.heap.size) (hb : FlB w f (A, n, c) (A', n', c')) (hwf : WfF f)
    (hr : ∀ j ∈ refsF f, (Lit.int .i64 j).wf = true ∧ ∃ p, posF fs j = some p ∧ hv[p]? = some (k j)) (hn : n ≤ 10000) (hn' : n' ≤ 10000) :
    Calls Try.prog 67 #[.pointer (some ⟨g, 0, none⟩), flV f A n c A' n' c'] w fun e w' => e = .returned (.int .u64 (sumS flowS (hwF f k))) ∧ E w w' := by
  obtain ⟨w1, hw1⟩ : ∃ w1, w.alloc (.cells #[.pointer (some ⟨g, 0, none⟩)] 25) = w1 := ⟨_, rfl⟩
  have hE1 : E w w1 := by rw [← hw1]; exact (E.refl w).alloc _
  have hb1 : w1.heap[w.heap.size]? = some (.cells #[.pointer (some ⟨g, 0, none⟩)] 25 (0, 0)) := by rw [← hw1]; exact heap_alloc_new w _
  obtain ⟨w2, hw2⟩ : ∃ w2, w1.alloc (.cells #[.int .i64 f.id, .int .i64 f.step, .int .i64 f.kind, .int .i64 f.tick, .int .i64 f.actor, .int .i64 f.frm, .int .i64 f.to, .int .i64 f.item, .int .i64 f.n, .slice A n c, .slice A' n' c'] 47) = w2 := ⟨_, rfl⟩
  have hE2 : E w1 w2 := by rw [← hw2]; exact (E.refl w1).alloc _
  have hbx : FlBox w2 w1.heap.size f (A, n, c) (A', n', c') := by rw [← hw2]; exact FlBox.new w1 f (A, n, c) (A', n', c')
  obtain ⟨w3, hw3⟩ : ∃ w3, w2.alloc (.cells #[.int .i64 f.id, .int .i64 f.step, .int .i64 f.kind, .int .i64 f.tick, .int .i64 f.actor, .int .i64 f.frm, .int .i64 f.to, .int .i64 f.item, .int .i64 f.n, .int .i64 n] 3) = w3 := ⟨_, rfl⟩
  have hE3 : E w2 w3 := by rw [← hw3]; exact (E.refl w2).alloc _
  have hpl : f.parts.length = n := hb.1.len
  have hml : f.made.length = n' := hb.2.len
  have hnw : (Lit.int .i64 (n : Int)).wf = true := wf_of_i64 (by omega) (by omega)
  have HR3 := Lib.hid (show RowI w2 w3 (some ⟨w2.heap.size, 0, none⟩) 10 10 (hw10 f) from ⟨by
    rw [← hw3]
    obtain ⟨q0, q1, q2, q3, q4, q5, q6, q7, q8⟩ := hwf
    exact ownI_lit w2 (hw10 f) (by
      intro x hx
      simp only [hw10, List.mem_cons, List.not_mem_nil, or_false] at hx
      rcases hx with rfl | rfl | rfl | rfl | rfl | rfl | rfl | rfl | rfl | rfl
      all_goals first | assumption | (rw [hpl]; exact hnw)) (by simp [hw10]) _ (by simp [hw10, hpl]), hE3⟩)
  have HH := Lib.hid (fun W (hE : E w W) => h.e_ hg hE)
  have HB1 := Lib.hid (fun W (hE : E w1 W) => show W.cell? ⟨w.heap.size, 0, none⟩ = some (.pointer (some ⟨g, 0, none⟩)) from cell_of_row _ _ 0 _ _ _ ((hE.block (lt_blk hb1)).trans hb1))
  have HCL := Lib.hid (fun W (hE : E w1 W) j (hj : j ∈ refsF f) => show Calls Try.prog 95 #[.int .i64 j, .pointer (some ⟨w.heap.size, 0, none⟩)] W (fun e w' => e = .returned (.int .i64 (wrap64 (k j))) ∧ E W w') from by
    obtain ⟨hjw, p, hp, hv1⟩ := hr j hj
    exact hash1_c fs g mb km gh ch w.heap.size hv j p (k j) W (HH.out W (hE1.trans hE)) (HB1.out W hE) hjw hp hv1)
  have hcall := Try.call95
  have HE1 := Lib.hid hE1
  have HE12 := Lib.hid hE2
  have HBX := Lib.hid hbx
  have HFB := Lib.hid hb
  have HPL := Lib.hid hpl
  have HML := Lib.hid hml
  have hn63 : n ≤ 9223372036854775807 := by omega
  have hn63' : n' ≤ 9223372036854775807 := by omega
  obtain ⟨⟨x0, x1, x2, x3, x4, x5, x6, x7, x8, x9, x10⟩, _⟩ := hbx.both
  simp only at x9 x10
  have HNS := Lib.hid (And.intro hn hn')
  clear h hg hb hwf hr hE1 hE2 hE3 hb1 hbx hpl hml hnw hn hn'
  unfold flV
  go_enter Try.func67, Try.ntmps67
  go_upto_region 2 with fail
  try rw [hw1]
  try rw [hw2]
  go_upto_region 3 with fail
  try rw [hw3]
  clear hw1 hw2 hw3 x0 x1 x2 x3 x4 x5 x6 x7 x8 x9 x10
  obtain ⟨⟨x0, x1, x2, x3, x4, x5, x6, x7, x8, x9, x10⟩, _⟩ := (HBX.out.e HR3.out.2).both
  simp only at x9 x10
  clear x0 x1 x2 x3 x4 x5 x6 x7 x8
  go_wp2_with fail
  go_loopw [6, 37] (fun t6 t37 wr => ∃ (i nw cw : Nat) (Aw : Option Addr) (l : List Int), i ≤ n ∧ t37 = .int .i64 i ∧ t6 = .slice Aw nw cw ∧ RowI w2 wr Aw nw cw l ∧ Hid (l = hw10 f ++ (f.parts.take i).flatMap (hwP k))) (fun _ t37 _ => n - (intOf t37).toNat)
  case atStart => exact ⟨0, 10, 10, _, _, Nat.zero_le _, rfl, rfl, HR3.out, by rw [List.take_zero, List.flatMap_nil, List.append_nil]; rfl⟩
  case round =>
    obtain ⟨i, nw, cw, Aw, l, hi, rfl, rfl, hO, hl⟩ := hrel
    have hE2r := hO.2
    have hLn : l.length = nw := hO.1.1
    by_cases hlt : i < n
    · obtain ⟨b, o, y, hAe, hbb, hy, hwy, d0, d1, d2⟩ := ((show LotsAt w A n c f.parts from HFB.out.1).e ((HE1.out.trans HE12.out).trans hE2r)).get hlt
      have hiI : (i : Int) < (n : Int) := by omega
      have hyr : y.1 ∈ refsF f := List.mem_append_left _ (List.mem_map.2 ⟨y, List.mem_of_getElem? hy, rfl⟩)
      obtain ⟨V, hV⟩ : ∃ V, wr.alloc (.cells #[.int .i64 y.1, .int .i64 y.2.1, .int .i64 y.2.2] 32) = V := ⟨_, rfl⟩
      have hEV : E wr V := by rw [← hV]; exact (E.refl wr).alloc _
      have hbV : LtBox V wr.heap.size y := by rw [← hV]; exact LtBox.new wr y
      have HBV := Lib.hid hbV
      have HOV := Lib.hid (hO.e_ hEV)
      have HCV := Lib.hid (HCL.out V.drew (HE12.out.trans ((hE2r.trans hEV).drew)) y.1 hyr)
      have HLN := Lib.hid (show (l ++ [wrap64 (k y.1), y.2.1, y.2.2]) = hw10 f ++ (f.parts.take (i + 1)).flatMap (hwP k) by
        rw [hl.out, take_snoc hy, List.flatMap_append, List.append_assoc]
        simp [hwP])
      have HNW := Lib.hid (show nw ≤ 100000 by
        have h1 := congrArg List.length hl.out
        have h2 : ((f.parts.take i).flatMap (hwP k)).length ≤ 3 * i := by
          have h3 : ∀ L : List Lt, (L.flatMap (hwP k)).length = 3 * L.length := by
            intro L
            induction L with
            | nil => rfl
            | cons a L ih => rw [List.flatMap_cons, List.length_append, ih, List.length_cons]; simp [hwP]; omega
          rw [h3, List.length_take]; omega
        rw [List.length_append] at h1
        have h4 : (hw10 f).length = 10 := rfl
        have := HNS.out
        omega)
      have HWY := Lib.hid hwy
      have HAW := Lib.hid (fun b (hb : ob Aw = some b) => (hO.1.ltN b hb).2)
      subst hAe
      clear hy hyr hbV hEV hO hl hwy hE2r hLn
      go_upto_region 6 with fail
      (try rw [hV])
      clear hV d0 d1 d2
      have hEa := (E.refl V).drew
      have HS := Lib.hid (fun W (hW : E V W) => (HBV.out.e hW).cells)
      refine wp_region_held_drew (S := (fun W => W.cell? ⟨wr.heap.size, 0, none⟩ = some (.int .i64 y.1) ∧ W.cell? ⟨wr.heap.size, 1, none⟩ = some (.int .i64 y.2.1) ∧ W.cell? ⟨wr.heap.size, 2, none⟩ = some (.int .i64 y.2.2))) (by kernel_rfl) (HS.out _ hEa) (fun hHeld => ?_)
      (((refine wpAnyH_take (i := 0) (v := ?_) rfl (by kernel_rfl) (by kernel_rfl) (by kernel_rfl) (fun _ _ _ h => h) (Or.inl ⟨by kernel_rfl, ?_⟩) (by assumption) ?_); rotate_left 1; (focus (intro w hSw; (try dsimp only at hSw); go_simp; (try with_reducible rfl))); (try simp only [Act.put, List.setIfInBounds_toArray, List.set_cons_zero, List.set_cons_succ])); ((refine wpAnyH_take (i := 1) (v := ?_) rfl (by kernel_rfl) (by kernel_rfl) (by kernel_rfl) (fun _ _ _ h => h) (Or.inl ⟨by kernel_rfl, ?_⟩) (by assumption) ?_); rotate_left 1; (focus (intro w hSw; (try dsimp only at hSw); go_simp; (try with_reducible rfl))); (try simp only [Act.put, List.setIfInBounds_toArray, List.set_cons_zero, List.set_cons_succ])); ((refine wpAnyH_take (i := 2) (v := ?_) rfl (by kernel_rfl) (by kernel_rfl) (by kernel_rfl) (fun _ _ _ h => h) (Or.inl ⟨by kernel_rfl, ?_⟩) (by assumption) ?_); rotate_left 1; (focus (intro w hSw; (try dsimp only at hSw); go_simp; (try with_reducible rfl))); (try simp only [Act.put, List.setIfInBounds_toArray, List.set_cons_zero, List.set_cons_succ])); ((refine wpAnyH_take (i := 3) (v := ?_) rfl (by kernel_rfl) (by kernel_rfl) (by kernel_rfl) (fun _ _ _ h => h) (Or.inl ⟨by kernel_rfl, ?_⟩) (by assumption) ?_); rotate_left 1; (focus (intro w hSw; (try dsimp only at hSw); go_simp; (try with_reducible rfl))); (try simp only [Act.put, List.setIfInBounds_toArray, List.set_cons_zero, List.set_cons_succ])); ((refine wpAnyH_take (i := 5) (v := ?_) rfl (by kernel_rfl) (by kernel_rfl) (by kernel_rfl) (fun _ _ _ h => h) (Or.inl ⟨by kernel_rfl, ?_⟩) (by assumption) ?_); rotate_left 1; (focus (intro w hSw; (try dsimp only at hSw); go_simp; (try with_reducible rfl))); (try simp only [Act.put, List.setIfInBounds_toArray, List.set_cons_zero, List.set_cons_succ])); ((refine wpAnyH_take (i := 6) (v := ?_) rfl (by kernel_rfl) (by kernel_rfl) (by kernel_rfl) (fun _ _ _ h => h) (Or.inl ⟨by kernel_rfl, ?_⟩) (by assumption) ?_); rotate_left 1; (focus (intro w hSw; (try dsimp only at hSw); go_simp; (try with_reducible rfl))); (try simp only [Act.put, List.setIfInBounds_toArray, List.set_cons_zero, List.set_cons_succ])); ((refine wpAnyH_take (i := 7) (v := ?_) rfl (by kernel_rfl) (by kernel_rfl) (by kernel_rfl) (fun _ _ _ h => h) (Or.inl ⟨by kernel_rfl, ?_⟩) (by assumption) ?_); rotate_left 1; (focus (intro w hSw; (try dsimp only at hSw); go_simp; (try with_reducible rfl))); (try simp only [Act.put, List.setIfInBounds_toArray, List.set_cons_zero, List.set_cons_succ])); ((refine wpAnyH_take (i := 8) (v := ?_) rfl (by kernel_rfl) (by kernel_rfl) (by kernel_rfl) (fun _ _ _ h => h) (Or.inl ⟨by kernel_rfl, ?_⟩) (by assumption) ?_); rotate_left 1; (focus (intro w hSw; (try dsimp only at hSw); go_simp; (try with_reducible rfl))); (try simp only [Act.put, List.setIfInBounds_toArray, List.set_cons_zero, List.set_cons_succ])))
      (((refine wpAnyH_ready (rs := [4]) (by kernel_rfl) (by simp) ?_); (refine AllReadyH.cons rfl (fun K hK => ?_) AllReadyH.nil); (rw [if_pos (by kernel_rfl)]); go_simp))
      refine HCV.out.mono ?_
      rintro e wn ⟨rfl, hEn⟩
      replace hEa := hEa.trans hEn
      refine hK _ _ (HS.out _ hEa) (fun hh => ?_)
      clear hK K hHeld
      have hHeld := hh
      clear hh hEn
      (try simp only [List.getElem_toArray, List.getElem_cons_succ, List.getElem_cons_zero, Act.put, List.setIfInBounds_toArray, List.set_cons_zero, List.set_cons_succ])
      obtain ⟨X, hX⟩ : ∃ X, wn.alloc (.cells #[.int .i64 (wrap64 (k y.1)), .int .i64 y.2.1, .int .i64 y.2.2] 3) = X := ⟨_, rfl⟩
      have hEX : E V X := by rw [← hX]; exact hEa.alloc _
      have hNX : Nums .i64 X (some ⟨wn.heap.size, 0, none⟩) 3 3 [wrap64 (k y.1), y.2.1, y.2.2] := by
        rw [← hX]
        exact nums_lit wn [wrap64 (k y.1), y.2.1, y.2.2] (by
          intro z hz
          simp only [List.mem_cons, List.not_mem_nil, or_false] at hz
          rcases hz with rfl | rfl | rfl
          · exact wrap64_wf _
          · exact HWY.out.2.1
          · exact HWY.out.2.2) (by simp) _ (by simp)
      obtain ⟨A9, c9, W9, hrun, hr9, hG9, _⟩ := (HOV.out.e_ hEX).app _ _ _ _ hNX (by have := HNW.out; omega) 22
      have HR9 := Lib.hid hr9
      have s9 := (((HBV.out.e hEX).ex ((Ex.refl (fun j => ob Aw = some j) X).grown hG9 (fun k hk => .inr hk)) (fun hj => by have := HAW.out _ hj; omega)).cells)
      (((refine wpAnyH_ready (rs := [9]) (by kernel_rfl) (by simp) ?_); (refine AllReadyH.cons rfl (fun K hK => ?_) AllReadyH.nil); (rw [if_pos (by kernel_rfl)]); go_simp))
      (try rw [hX])
      refine hK _ _ (HS.out _ hEX) (fun hh => ?_)
      clear hK K hHeld
      have hHeld := hh
      clear hh
      (try simp only [List.getElem_toArray, List.getElem_cons_succ, List.getElem_cons_zero, Act.put, List.setIfInBounds_toArray, List.set_cons_zero, List.set_cons_succ])
      refine wpAnyH_ready (rs := [10]) (by kernel_rfl) (by simp) ?_
      refine AllReadyH.cons rfl (fun K hK => ?_) AllReadyH.nil
      refine step_app_runQ (by rfl) _ _ (by rfl) (by rfl) (by rfl) hrun ?_
      refine hK _ _ s9 (fun hh => ?_)
      clear hK K hHeld
      have hHeld := hh
      clear hh
      (try simp only [List.getElem_toArray, List.getElem_cons_succ, List.getElem_cons_zero, Act.put, List.setIfInBounds_toArray, List.set_cons_zero, List.set_cons_succ])
      (((refine wpAnyH_take (i := 11) (v := ?_) rfl (by kernel_rfl) (by kernel_rfl) (by kernel_rfl) (fun _ _ _ h => h) (Or.inl ⟨by kernel_rfl, ?_⟩) (by assumption) ?_); rotate_left 1; (focus (intro w hSw; (try dsimp only at hSw); go_simp; (try with_reducible rfl))); (try simp only [Act.put, List.setIfInBounds_toArray, List.set_cons_zero, List.set_cons_succ])))
      refine wpAnyH_done (by kernel_rfl) ?_ _
      go_simp
      clear hHeld s9 hr9 hrun hG9 hEX hEa hNX hX
      go_wp2_with fail
      go_roundw
      case rel => exact ⟨i + 1, _, _, _, _, by omega, by go_num, rfl, HR9.out, HLN⟩
      case measure => simp [intOf]; omega
    · have hil : f.parts.take i = f.parts := List.take_of_length_le (by have := HPL.out; omega)
      have hl2 := hl.out
      rw [hil] at hl2
      have hE2r := hO.2
      have hnl : (Lit.int .i64 (n' : Int)).wf = true := wf_of_i64 (by omega) (by omega)
      have hnw : nw ≤ 100000 := by
        have h1 := congrArg List.length hl2
        have h3 : ∀ L : List Lt, (L.flatMap (hwP k)).length = 3 * L.length := by
          intro L
          induction L with
          | nil => rfl
          | cons a L ih => rw [List.flatMap_cons, List.length_append, ih, List.length_cons]; simp [hwP]; omega
        rw [List.length_append, h3] at h1
        have h4 : (hw10 f).length = 10 := rfl
        have h5 := HPL.out
        have h6 := HNS.out
        have h7 := hO.1.1
        omega
      obtain ⟨X, hX⟩ : ∃ X, wr.alloc (.cells #[.int .i64 n'] 3) = X := ⟨_, rfl⟩
      have hEX : E wr X := by rw [← hX]; exact (E.refl wr).alloc _
      obtain ⟨A9, c9, W9, hrun, hr9, _⟩ := (hO.e_ hEX).app _ _ _ _ (show Nums .i64 X (some ⟨wr.heap.size, 0, none⟩) 1 1 [(n' : Int)] by rw [← hX]; exact nums_one2 wr hnl) (by omega) 22
      have HR9 := Lib.hid hr9
      have HL0 := Lib.hid (show l ++ [(n' : Int)] = hw10 f ++ f.parts.flatMap (hwP k) ++ [(f.made.length : Int)] ++ (f.made.take 0).map fun j => wrap64 (k j) by rw [hl2, HML.out]; simp)
      have HL9 := Lib.hid (show l ++ [(n' : Int)] = hw10 f ++ f.parts.flatMap (hwP k) ++ [(f.made.length : Int)] by rw [hl2, HML.out])
      obtain ⟨⟨_, _, _, _, _, _, _, _, _, _, y10⟩, _⟩ := (HBX.out.e hE2r).both
      obtain ⟨⟨_, _, _, _, _, _, _, _, _, _, z10⟩, _⟩ := (HBX.out.e hr9.2).both
      simp only at y10 z10
      have HNW := Lib.hid hnw
      obtain ⟨wz, hwz⟩ : ∃ wz, wz = wr := ⟨_, rfl⟩
      subst hwz
      clear hil hl hl2 hE2r hnl hO hEX hr9 hnw x9 x10
      go_wp2_with (at_builtin; (try rw [hX]); refine wpList_app_runM rfl _ _ rfl rfl rfl hrun ?_)
      clear hX hrun y10 z10
      go_loopw [6, 62] (fun t6 t62 wr => ∃ (j nw cw : Nat) (Aw : Option Addr) (l : List Int), j ≤ n' ∧ t62 = .int .i64 j ∧ t6 = .slice Aw nw cw ∧ RowI w2 wr Aw nw cw l ∧ Hid (l = hw10 f ++ f.parts.flatMap (hwP k) ++ [(f.made.length : Int)] ++ (f.made.take j).map fun j => wrap64 (k j))) (fun _ t62 _ => n' - (intOf t62).toNat)
      case atStart => exact ⟨0, _, _, _, _, Nat.zero_le _, rfl, rfl, HR9.out, HL0⟩
      case round =>
        obtain ⟨j, nw, cw, Aw, l, hj, rfl, rfl, hO, hl⟩ := hrel
        have hn2 : nw ≤ 200000 := by
          have h1 := congrArg List.length hl.out
          have h2 := congrArg List.length HL9.out
          rw [List.length_append, ← HL9.out, List.length_append, List.length_map, List.length_take] at h1
          have h5 := HNS.out
          have h6 := HNW.out
          have h7 := hO.1.1
          have h8 := HR9.out.1.1
          rw [List.length_append] at h8
          simp only [List.length_singleton] at h1 h8
          omega
        by_cases hlt : j < n'
        · obtain ⟨b, o, y, hAe, hbb, hy, hwy, hcy⟩ := ((show Nums .i64 w A' n' c' f.made from HFB.out.2).e ((HE1.out.trans HE12.out).trans hO.2)).get hlt
          have hjI : (j : Int) < (n' : Int) := by omega
          have hyr : y ∈ refsF f := List.mem_append_right _ (List.mem_of_getElem? hy)
          have HCV := Lib.hid (HCL.out wr (HE12.out.trans hO.2) y hyr)
          have HOI := Lib.hid hO
          have HLN := Lib.hid (show l ++ [wrap64 (k y)] = hw10 f ++ f.parts.flatMap (hwP k) ++ [(f.made.length : Int)] ++ (f.made.take (j + 1)).map fun j => wrap64 (k j) by
            rw [hl.out, take_snoc hy, List.map_append, ← List.append_assoc]; rfl)
          have HN2 := Lib.hid hn2
          subst hAe
          clear hy hyr hwy hO hl hn2
          go_wp2_with fail
          refine HCV.out.mono ?_
          rintro e w5 ⟨rfl, hE5⟩
          obtain ⟨X, hX⟩ : ∃ X, w5.alloc (.cells #[.int .i64 (wrap64 (k y))] 3) = X := ⟨_, rfl⟩
          have hEX : E wr X := by rw [← hX]; exact hE5.alloc _
          obtain ⟨A8, c8, W8, hrun, hr8, _⟩ := (HOI.out.e_ hEX).app _ _ _ _ (show Nums .i64 X (some ⟨w5.heap.size, 0, none⟩) 1 1 [wrap64 (k y)] by rw [← hX]; exact nums_one2 w5 (wrap64_wf _)) (by have := HN2.out; omega) 22
          have HR8 := Lib.hid hr8
          clear hr8 hEX hE5
          go_wp2_with (at_builtin; (try rw [hX]); refine wpList_app_runM rfl _ _ rfl rfl rfl hrun ?_)
          go_roundw
          case rel => exact ⟨j + 1, _, _, _, _, by omega, by go_num, rfl, HR8.out, HLN⟩
          case measure => simp [intOf]; omega
        · have hjl : f.made.take j = f.made := List.take_of_length_le (by have := HML.out; omega)
          have HF := Lib.hid (show l = hwF f k by rw [hl.out, hjl, hwF_eq])
          have HSM := Lib.hid (sum_c flowS (by decide) Aw nw cw l wr hO.1.reads)
          have HEZ := Lib.hid ((HE1.out.trans HE12.out).trans hO.2)
          rw [HF.out] at HSM
          clear hjl hO hl
          unfold flowS at HSM
          go_wp2_with (go_at_call 96; refine HSM.out.mono ?_; rintro e w9 ⟨rfl, hE9⟩)
          go_ret
          exact ⟨rfl, HEZ.out.trans hE9⟩
end Go.Proofs.Ytmeplpiamkaniaa
/- The graph's hashes: a graph whose block alone has turned. -/
namespace Go.Proofs.Ytmeplpiamkaniaa
set_option linter.unusedVariables false
set_option linter.unusedSimpArgs false
open Go.RowKit

section
variable {w W : World} {X : Nat → Prop} {g : Nat} {fs : List Fl} {p : GP} {F S O H : Value} {mb : Nat}
theorem GBlk.ne_row {T : TypeId} {base m k n c : Nat} {A : Option Addr} {vs : List Value} (h : GBlk w g F S O H mb) (hr : w.ownsRow base T m (.slice A n c) k vs) (hT : T ≠ 70) : ∀ b, ob A = some b → ¬ b = g := by
  intro b hb e
  subst e
  rcases hr.2 with ⟨hv, _⟩ | ⟨g', cap, cur, hv, _, hh, _⟩
  · injection hv with e1; subst e1; cases hb
  · injection hv with e1
    subst e1
    have e2 : g' = b := by injection hb
    subst e2
    rw [h] at hh
    injection hh with hh
    injection hh with h1 h2 h3
    exact hT h2.symm
theorem GBlk.no_int {a0 b0 c0 d0 : Option Addr} {a1 a2 b1 b2 c1 c2 d1 d2 : Nat} (h : GBlk w g (.slice a0 a1 a2) (.slice b0 b1 b2) (.slice c0 c1 c2) (.slice d0 d1 d2) mb) (o : Nat) (k : IntKind) (v : Int) : ¬ w.cell? ⟨g, o, none⟩ = some (.int k v) := by
  intro hc
  rw [cell_of_row _ _ o _ _ _ h] at hc
  rcases o with _ | _ | _ | _ | _ | o <;> simp at hc
theorem GrM.off (h : GrM w X g fs p) (hY : Ex (fun j => j = g) w W) : FRow W p.bF p.Af fs.length p.cf p.qf ∧ IRow W p.bS p.gs fs.length fs.length p.qs ∧ MapD W p.mb p.km (plcV fs) ∧ Own .i64 3 W p.bO p.Ao fs.length p.co (ints p.ord) := by
  have hb := h.blk
  refine ⟨h.fl.exX hY (hb.ne_row h.fl.2.1 (by decide)) (fun q hq => ⟨fun h0 b hb' e => ?_, fun h0 b hb' e => ?_⟩), h.st.ex hY (hb.ne_row h.st.row (by decide) _ rfl) (fun q hq => hb.ne_row (h.st.own q hq).2.1 (by decide)), h.mp.block (hY.block _ h.mp.lt fun e => ?_), h.od.ex hY (hb.ne_row h.od.2.1 (by decide))⟩
  · subst e
    obtain ⟨b', o, y, e1, _, _, _, hc, _⟩ := (h.fl.2.2 q hq).2.1.1.get h0
    rw [e1] at hb'
    have := ob_some' hb'
    subst this
    exact hb.no_int _ _ _ hc
  · subst e
    obtain ⟨b', o, y, e1, _, _, _, hc⟩ := (h.fl.2.2 q hq).2.1.2.get h0
    rw [e1] at hb'
    have := ob_some' hb'
    subst this
    exact hb.no_int _ _ _ hc
  · obtain ⟨D, h1, _⟩ := h.mp
    rw [e] at h1
    obtain ⟨es, cl, h3, _⟩ := h1
    rw [hb] at h3
    injection h3 with h3
    cases h3
end
theorem u64Th : IntT Try.prog 68 50 .u64 8 := ⟨Try.underlying68, by kernel_rfl, by decide⟩
/-- the hash of an ID, 0 for one that is unknown -/
def hVal (fs : List Fl) (k : Int → Int) (id : Int) : Int := match getF fs id with | some _ => k id | none => 0
/-- what Hash answers -/
def HRet (w : World) (X : Nat → Prop) (g : Nat) (fs : List Fl) (v : Int) (b : Bool) (e : Ending) (w' : World) : Prop :=
  e = .returned (.tuple #[.int .u64 v, .bool b]) ∧ ∃ X', GraphAt w' X' g fs ∧ Ex X w w' ∧ ∀ i, X' i → X i ∨ w.heap.size ≤ i
theorem below_e {B : Nat} {w W : World} (hE : E w W) (hB : B ≤ w.heap.size) : Below B w W := ⟨hE.os, hE.tape, hE.output, hE.size, fun j hj => hE.block (by omega)⟩
/-- the hashes under way: those of the first places of the order are laid -/
structure HwS (w2 : World) (gh : Nat) (fs : List Fl) (ord : List Nat) (k : Int → Int) (i : Nat) (hv : List Int) (W : World) : Prop where
  bl : Below gh w2 W
  own : Own .u64 50 W gh (some ⟨gh, 0, none⟩) fs.length fs.length hv
  v : ∀ q ∈ ord.take i, ∀ f, fs[q]? = some f → hv[q]? = some (k f.id)
theorem HwS.e {w2 W V : World} {gh : Nat} {fs : List Fl} {ord : List Nat} {k : Int → Int} {i : Nat} {hv : List Int} (h : HwS w2 gh fs ord k i hv W) (hE : E W V) (hz : gh < W.heap.size) : HwS w2 gh fs ord k i hv V :=
  ⟨h.bl.trans ⟨hE.os, hE.tape, hE.output, hE.size, fun j hj => hE.block (by omega)⟩, h.own.e hE, h.v⟩
set_option linter.unusedSimpArgs false in
set_option maxHeartbeats 4000000 in
set_option maxRecDepth 100000 in
theorem gHash_c (X : Nat → Prop) (g : Nat) (fs : List Fl) (id : Int) (p : GP) (k : Int → Int) (w : World) (h : GrM w X g fs p) (hk : HashOf fs k) (hz : ∀ f ∈ fs, f.parts.length ≤ 10000 ∧ f.made.length ≤ 10000) (hn : fs.length ≤ 1000) (hw : (Lit.int .i64 id).wf = true) :
    Calls Try.prog 28 #[.pointer (some ⟨g, 0, none⟩), .int .i64 id] w (HRet w X g fs (hVal fs k id) (getF fs id).isSome) := by
  unfold hVal
  obtain ⟨gc0, _, gc2, gc3, gc4⟩ := h.blk.cells
  have hlk0 := h.mp.lookOk mapIT hw
  have HG := Lib.hid h
  have HW := Lib.hid hw
  have HK := Lib.hid hk
  have HZ := Lib.hid hz
  have hn63 : fs.length ≤ 9223372036854775807 := by omega
  cases hp : posF fs id with
  | none =>
    rw [plc_none hp] at hlk0
    simp only [Option.getD, Option.isSome] at hlk0
    have HF := Lib.hid (posF_none.1 hp)
    rw [HF.out]
    clear hp h hk hz hw
    go_enter Try.func28, Try.ntmps28
    go_wp2_with fail
    go_ret2
    exact ⟨rfl, X, ⟨p, HG.out⟩, Ex.refl _ _, fun i hi => .inl hi⟩
  | some q0 =>
    rw [plc_some hp] at hlk0
    simp only [Option.getD, Option.isSome] at hlk0
    obtain ⟨f0, hf0, hg0, hi0⟩ := posF_some hp
    have hq0 : q0 < fs.length := (List.getElem?_eq_some_iff.1 hf0).1
    have hq0I : (q0 : Int) < (fs.length : Int) := by omega
    have HI0 := Lib.hid hi0
    have HF0 := Lib.hid hf0
    rw [hg0]
    rcases h.hs with ⟨hA, hnh, hch⟩ | ⟨h9, bh, gh, hk9, hA, hnh, hO⟩
    · rw [hA, hnh, hch] at gc4
      have hnil : ∀ W : World, (binOp .eql 68 (.slice none 0 0) (.slice none 0 0)).run Try.prog W = .ok (.bool true) W := fun W => Lib.run_eql_slice_nil W _ _ _ _ _ _ _ Try.underlying68
      have HP0 := Lib.hid hq0
      have hgs := lt_blk h.blk
      have HGS := Lib.hid hgs
      clear hA hnh hch hp hf0 hg0 hi0 hk hz hw
      go_enter Try.func28, Try.ntmps28
      go_upto_region 5 with fail
      have hblk1 := h.blk
      clear h
      go_upto_region 6 with (refine wpList_mk u64Th _ rfl _ _ rfl .i64 .i64 _ _ fs.length rfl rfl rfl rfl (by omega) ?_; intro w1 hO1 hE1 hz1; obtain ⟨_, _, _, _, e4⟩ := (hblk1.e_ hE1).cells; have f4 := (hblk1.e_ hE1).frz 4)
      clear gc0 gc2 gc3 gc4 hlk0
      obtain ⟨w2, hw2⟩ : ∃ w2, w1.setCell ⟨g, 4, none⟩ (.slice (some ⟨w.heap.size, 0, none⟩) fs.length fs.length) = w2 := ⟨_, rfl⟩
      have hY2 : Ex (fun j => j = g) w w2 := by rw [← hw2]; exact (Ex.of_e (X := fun j => j = g) hE1).setCell ⟨g, 4, none⟩ (.inr rfl) _
      have hB2 : GBlk w2 g (.slice p.Af fs.length p.cf) (.slice (some ⟨p.gs, 0, none⟩) fs.length fs.length) (.slice p.Ao fs.length p.co) (.slice (some ⟨w.heap.size, 0, none⟩) fs.length fs.length) p.mb := by rw [← hw2]; exact (hblk1.e_ hE1).setH _
      have hO2 : Own .u64 50 w2 w.heap.size (some ⟨w.heap.size, 0, none⟩) fs.length fs.length (List.replicate fs.length 0) := by
        rw [← hw2]
        exact hO1.ex ((Ex.refl (fun j => j = g) w1).setCell ⟨g, 4, none⟩ (.inr rfl) _) (fun b hb => by have := ob_some' hb; intro e; omega)
      have HZ2 := Lib.hid (show w2.heap.size = w.heap.size + 1 by rw [← hw2, ← hz1]; simp)
      (try rw [hw2])
      have HY2 := Lib.hid hY2
      have HB2 := Lib.hid hB2
      have HO2 := Lib.hid hO2
      clear hw2 hY2 hO2 hO1 hE1 hz1 e4 f4 hblk1 hnil
      -- what holds wherever the row of the hashes alone has turned
      have HOW := Lib.hid (fun W (hB : Below w.heap.size w2 W) => show GBlk W g (.slice p.Af fs.length p.cf) (.slice (some ⟨p.gs, 0, none⟩) fs.length fs.length) (.slice p.Ao fs.length p.co) (.slice (some ⟨w.heap.size, 0, none⟩) fs.length fs.length) p.mb ∧ Ex (fun j => j = g) w W from
        ⟨(hB.block _ hgs).trans HB2.out, HY2.out.trans (Y := fun i => w.heap.size ≤ i) ⟨hB.os, hB.tape, hB.output, hB.size, fun i hi hx => hB.block i (by omega)⟩ (fun _ _ x => x) (fun i hi x => by omega)⟩)
      obtain ⟨gc0, _, gc2, gc3, gc4⟩ := hB2.cells
      have HLO := Lib.hid (show p.ord.length = fs.length from HG.out.topo.ln)
      go_upto_region 7 with fail
      clear gc0 gc2 gc3 gc4 hB2
      go_loopw [9, 40] (fun _ t40 wr => ∃ (i : Nat) (hv : List Int), i ≤ fs.length ∧ t40 = .int .i64 i ∧ HwS w2 w.heap.size fs p.ord k i hv wr) (fun _ t40 _ => fs.length - (intOf t40).toNat)
      case atStart => exact ⟨0, _, Nat.zero_le _, rfl, ⟨Below.refl _ _, HO2.out, fun q hq => by rw [List.take_zero] at hq; cases hq⟩⟩
      case round =>
        obtain ⟨i, hv, hi, rfl, hS⟩ := hrel
        by_cases hlt : i < fs.length
        · have hiI : (i : Int) < (fs.length : Int) := by omega
          obtain ⟨hBr, hYr⟩ := HOW.out wr hS.bl
          obtain ⟨hFr, _, hMr, hOr⟩ := HG.out.off hYr
          obtain ⟨bo, x, hAo, _, hbo, hx, hwx, hcx, _⟩ := hOr.get hlt
          obtain ⟨q, hqo⟩ : ∃ q, p.ord[i]? = some q := ⟨_, List.getElem?_eq_getElem (by rw [HLO.out]; exact hlt)⟩
          have hxq : x = (q : Int) := by
            rw [ints, List.getElem?_map, hqo] at hx
            exact (Option.some.inj hx).symm
          subst hxq
          have hqn : q < fs.length := HG.out.topo.lt q (List.mem_of_getElem? hqo)
          have hqI : (q : Int) < (fs.length : Int) := by omega
          obtain ⟨b, o, f, s, t, hAf, hbw, hf, hwf, hcf, hfb⟩ := (hFr.flows.cast HG.out.flv).get hqn
          have hbl : b < w.heap.size := (HG.out.fl.ltN b (by rw [hAf]; rfl)).2
          have hfm : f ∈ fs := List.mem_of_getElem? hf
          have hCV : Calls Try.prog 67 #[.pointer (some ⟨g, 0, none⟩), flV f s.1 s.2.1 s.2.2 t.1 t.2.1 t.2.2] wr.drew fun e w' => e = .returned (.int .u64 (sumS flowS (hwF f k))) ∧ E wr.drew w' := by
            have hEd := (E.refl wr).drew
            refine ghash_c fs g p.mb p.km w.heap.size fs.length hv f s.1 s.2.1 s.2.2 t.1 t.2.1 t.2.2 k wr.drew (HsM.e_ ⟨hBr.cells.2.2.2.2, hBr.cells.2.2.1, hMr, hS.own.reads⟩ (lt_blk hBr) hEd) (Nat.lt_of_lt_of_le (lt_blk hBr) hEd.size) (hfb.e hEd) hwf (fun j hj => ?_) (by have := hfb.1.len; have := (HZ.out f hfm).1; omega) (by have := hfb.2.len; have := (HZ.out f hfm).2; omega)
            obtain ⟨pj, hpj, hpm⟩ := HG.out.topo.topo i q f hqo hf j hj
            obtain ⟨fj, hfj, _, hij⟩ := posF_some hpj
            exact ⟨HG.out.flows.refs_wf f hfm j hj, pj, hpj, by rw [hS.v pj hpm fj hfj, hij]⟩
          rw [← HK.out f hfm] at hCV
          unfold flV at hCV
          have HCV := Lib.hid hCV
          have hSx : ∀ W, Below w.heap.size wr W → W.cell? ⟨g, 0, none⟩ = some (.slice (some ⟨b, o, none⟩) fs.length p.cf) ∧ W.cell? ⟨g, 4, none⟩ = some (.slice (some ⟨w.heap.size, 0, none⟩) fs.length fs.length) ∧ W.cell? ⟨b, o + q * 11, none⟩ = some (.int .i64 f.id) ∧ W.cell? ⟨b, o + q * 11 + 1, none⟩ = some (.int .i64 f.step) ∧ W.cell? ⟨b, o + q * 11 + 2, none⟩ = some (.int .i64 f.kind) ∧ W.cell? ⟨b, o + q * 11 + 3, none⟩ = some (.int .i64 f.tick) ∧ W.cell? ⟨b, o + q * 11 + 4, none⟩ = some (.int .i64 f.actor) ∧ W.cell? ⟨b, o + q * 11 + 5, none⟩ = some (.int .i64 f.frm) ∧ W.cell? ⟨b, o + q * 11 + 6, none⟩ = some (.int .i64 f.to) ∧ W.cell? ⟨b, o + q * 11 + 7, none⟩ = some (.int .i64 f.item) ∧ W.cell? ⟨b, o + q * 11 + 8, none⟩ = some (.int .i64 f.n) ∧ W.cell? ⟨b, o + q * 11 + 9, none⟩ = some (.slice s.1 s.2.1 s.2.2) ∧ W.cell? ⟨b, o + q * 11 + 10, none⟩ = some (.slice t.1 t.2.1 t.2.2) := by
            intro W hW
            have hBW := (HOW.out W (hS.bl.trans hW)).1
            have hcW := hcf.same (w' := W) (fun k => World.cell?_of_block (hW.block b hbl))
            unfold FlCells at hcW
            exact ⟨by have := hBW.cells.1; rw [hAf] at this; exact this, hBW.cells.2.2.2.2, hcW⟩
          have HS := Lib.hid hSx
          have HSR := Lib.hid hS
          have hzr := (hS.own.ltN w.heap.size rfl).2
          have HNX := Lib.hid (show ∀ W, HwS w2 w.heap.size fs p.ord k i hv W → HwS w2 w.heap.size fs p.ord k (i + 1) (hv.set q (k f.id)) (W.setCell ⟨w.heap.size, q, none⟩ (.int .u64 (k f.id))) from fun W h9 => by
            have hr9 := HashOf.range HK.out (HG.out.ok.ids.mem hfm)
            refine ⟨h9.bl.setCell (Nat.le_refl _) _, h9.own.set q _ (WalkArith.wf_u64 hr9), fun q' hq' f' hf' => ?_⟩
            rw [take_snoc hqo] at hq'
            rcases List.mem_append.1 hq' with hq' | hq'
            · have hne : q ≠ q' := fun e => by
                subst e
                have hnd := HG.out.topo.nd
                rw [take_at hqo] at hnd
                exact (List.nodup_append.1 hnd).2.2 q hq' q List.mem_cons_self rfl
              rw [List.getElem?_set_ne hne]
              exact h9.v q' hq' f' hf'
            · simp only [List.mem_singleton] at hq'
              subst hq'
              rw [hf] at hf'
              injection hf' with hf'
              subst hf'
              rw [List.getElem?_set_self (by rw [h9.own.1]; exact hqn)])
          have HQN := Lib.hid hqn
          clear hSx hS hBr hYr hFr hMr hOr hx hqo hwf hcf hfb hf hfm hCV hbl hbw
          rw [hAo]
          clear hAo hAf
          go_upto_region 9 with fail
          have hEa := (E.refl wr).drew
          refine wp_region_held_drew (S := fun W => W.cell? ⟨g, 0, none⟩ = some (.slice (some ⟨b, o, none⟩) fs.length p.cf) ∧ W.cell? ⟨g, 4, none⟩ = some (.slice (some ⟨w.heap.size, 0, none⟩) fs.length fs.length) ∧ W.cell? ⟨b, o + q * 11, none⟩ = some (.int .i64 f.id) ∧ W.cell? ⟨b, o + q * 11 + 1, none⟩ = some (.int .i64 f.step) ∧ W.cell? ⟨b, o + q * 11 + 2, none⟩ = some (.int .i64 f.kind) ∧ W.cell? ⟨b, o + q * 11 + 3, none⟩ = some (.int .i64 f.tick) ∧ W.cell? ⟨b, o + q * 11 + 4, none⟩ = some (.int .i64 f.actor) ∧ W.cell? ⟨b, o + q * 11 + 5, none⟩ = some (.int .i64 f.frm) ∧ W.cell? ⟨b, o + q * 11 + 6, none⟩ = some (.int .i64 f.to) ∧ W.cell? ⟨b, o + q * 11 + 7, none⟩ = some (.int .i64 f.item) ∧ W.cell? ⟨b, o + q * 11 + 8, none⟩ = some (.int .i64 f.n) ∧ W.cell? ⟨b, o + q * 11 + 9, none⟩ = some (.slice s.1 s.2.1 s.2.2) ∧ W.cell? ⟨b, o + q * 11 + 10, none⟩ = some (.slice t.1 t.2.1 t.2.2)) (by kernel_rfl) (HS.out _ (below_e hEa (by omega))) (fun hHeld => ?_)
          (((refine wpAnyH_take (i := 0) (v := ?_) rfl (by kernel_rfl) (by kernel_rfl) (by kernel_rfl) (fun _ _ _ h => h) (Or.inl ⟨by kernel_rfl, ?_⟩) (by assumption) ?_); rotate_left 1; (focus (intro w hSw; (try dsimp only at hSw); go_simp; (try with_reducible rfl))); (try simp only [Act.put, List.setIfInBounds_toArray, List.set_cons_zero, List.set_cons_succ])); ((refine wpAnyH_take (i := 1) (v := ?_) rfl (by kernel_rfl) (by kernel_rfl) (by kernel_rfl) (fun _ _ _ h => h) (Or.inl ⟨by kernel_rfl, ?_⟩) (by assumption) ?_); rotate_left 1; (focus (intro w hSw; (try dsimp only at hSw); go_simp; (try with_reducible rfl))); (try simp only [Act.put, List.setIfInBounds_toArray, List.set_cons_zero, List.set_cons_succ])); ((refine wpAnyH_take (i := 2) (v := ?_) rfl (by kernel_rfl) (by kernel_rfl) (by kernel_rfl) (fun _ _ _ h => h) (Or.inl ⟨by kernel_rfl, ?_⟩) (by assumption) ?_); rotate_left 1; (focus (intro w hSw; (try dsimp only at hSw); go_simp; (try with_reducible rfl))); (try simp only [Act.put, List.setIfInBounds_toArray, List.set_cons_zero, List.set_cons_succ])); ((refine wpAnyH_take (i := 3) (v := ?_) rfl (by kernel_rfl) (by kernel_rfl) (by kernel_rfl) (fun _ _ _ h => h) (Or.inl ⟨by kernel_rfl, ?_⟩) (by assumption) ?_); rotate_left 1; (focus (intro w hSw; (try dsimp only at hSw); go_simp; (try with_reducible rfl))); (try simp only [Act.put, List.setIfInBounds_toArray, List.set_cons_zero, List.set_cons_succ])); ((refine wpAnyH_take (i := 4) (v := ?_) rfl (by kernel_rfl) (by kernel_rfl) (by kernel_rfl) (fun _ _ _ h => h) (Or.inl ⟨by kernel_rfl, ?_⟩) (by assumption) ?_); rotate_left 1; (focus (intro w hSw; (try dsimp only at hSw); go_simp; (try with_reducible rfl))); (try simp only [Act.put, List.setIfInBounds_toArray, List.set_cons_zero, List.set_cons_succ])); ((refine wpAnyH_take (i := 5) (v := ?_) rfl (by kernel_rfl) (by kernel_rfl) (by kernel_rfl) (fun _ _ _ h => h) (Or.inl ⟨by kernel_rfl, ?_⟩) (by assumption) ?_); rotate_left 1; (focus (intro w hSw; (try dsimp only at hSw); go_simp; (try with_reducible rfl))); (try simp only [Act.put, List.setIfInBounds_toArray, List.set_cons_zero, List.set_cons_succ])); ((refine wpAnyH_take (i := 6) (v := ?_) rfl (by kernel_rfl) (by kernel_rfl) (by kernel_rfl) (fun _ _ _ h => h) (Or.inl ⟨by kernel_rfl, ?_⟩) (by assumption) ?_); rotate_left 1; (focus (intro w hSw; (try dsimp only at hSw); go_simp; (try with_reducible rfl))); (try simp only [Act.put, List.setIfInBounds_toArray, List.set_cons_zero, List.set_cons_succ])); ((refine wpAnyH_take (i := 7) (v := ?_) rfl (by kernel_rfl) (by kernel_rfl) (by kernel_rfl) (fun _ _ _ h => h) (Or.inl ⟨by kernel_rfl, ?_⟩) (by assumption) ?_); rotate_left 1; (focus (intro w hSw; (try dsimp only at hSw); go_simp; (try with_reducible rfl))); (try simp only [Act.put, List.setIfInBounds_toArray, List.set_cons_zero, List.set_cons_succ])); ((refine wpAnyH_take (i := 8) (v := ?_) rfl (by kernel_rfl) (by kernel_rfl) (by kernel_rfl) (fun _ _ _ h => h) (Or.inl ⟨by kernel_rfl, ?_⟩) (by assumption) ?_); rotate_left 1; (focus (intro w hSw; (try dsimp only at hSw); go_simp; (try with_reducible rfl))); (try simp only [Act.put, List.setIfInBounds_toArray, List.set_cons_zero, List.set_cons_succ])); ((refine wpAnyH_take (i := 9) (v := ?_) rfl (by kernel_rfl) (by kernel_rfl) (by kernel_rfl) (fun _ _ _ h => h) (Or.inl ⟨by kernel_rfl, ?_⟩) (by assumption) ?_); rotate_left 1; (focus (intro w hSw; (try dsimp only at hSw); go_simp; (try with_reducible rfl))); (try simp only [Act.put, List.setIfInBounds_toArray, List.set_cons_zero, List.set_cons_succ])); ((refine wpAnyH_take (i := 10) (v := ?_) rfl (by kernel_rfl) (by kernel_rfl) (by kernel_rfl) (fun _ _ _ h => h) (Or.inl ⟨by kernel_rfl, ?_⟩) (by assumption) ?_); rotate_left 1; (focus (intro w hSw; (try dsimp only at hSw); go_simp; (try with_reducible rfl))); (try simp only [Act.put, List.setIfInBounds_toArray, List.set_cons_zero, List.set_cons_succ])); ((refine wpAnyH_take (i := 11) (v := ?_) rfl (by kernel_rfl) (by kernel_rfl) (by kernel_rfl) (fun _ _ _ h => h) (Or.inl ⟨by kernel_rfl, ?_⟩) (by assumption) ?_); rotate_left 1; (focus (intro w hSw; (try dsimp only at hSw); go_simp; (try with_reducible rfl))); (try simp only [Act.put, List.setIfInBounds_toArray, List.set_cons_zero, List.set_cons_succ])); ((refine wpAnyH_take (i := 12) (v := ?_) rfl (by kernel_rfl) (by kernel_rfl) (by kernel_rfl) (fun _ _ _ h => h) (Or.inl ⟨by kernel_rfl, ?_⟩) (by assumption) ?_); rotate_left 1; (focus (intro w hSw; (try dsimp only at hSw); go_simp; (try with_reducible rfl))); (try simp only [Act.put, List.setIfInBounds_toArray, List.set_cons_zero, List.set_cons_succ])))
          (((refine wpAnyH_ready (rs := [13]) (by kernel_rfl) (by simp) ?_); (refine AllReadyH.cons rfl (fun K hK => ?_) AllReadyH.nil); (rw [if_pos (by kernel_rfl)]); go_simp))
          refine HCV.out.mono ?_
          rintro e wn ⟨rfl, hEn⟩
          replace hEa := hEa.trans hEn
          refine hK _ _ (HS.out _ (below_e hEa (by omega))) (fun hh => ?_)
          clear hK K hHeld
          have hHeld := hh
          clear hh hEn
          (try simp only [Act.put, List.setIfInBounds_toArray, List.set_cons_zero, List.set_cons_succ])
          have hSn := HSR.out.e hEa hzr
          obtain ⟨x9, _, _, _, _, d9, e9⟩ := hSn.own.getg HQN.out
          have i9 : (wn.cell? ⟨w.heap.size, q, none⟩).isSome = true := by rw [d9]; rfl
          have HSN := Lib.hid (HNX.out wn hSn)
          have s9 := HS.out (wn.setCell ⟨w.heap.size, q, none⟩ (.int .u64 (k f.id))) ((show Below w.heap.size wr wn from below_e hEa (by omega)).setCell (p := ⟨w.heap.size, q, none⟩) (Nat.le_refl _) _)
          clear hSn
          (((refine wpAnyH_take (i := 14) (v := ?_) rfl (by kernel_rfl) (by kernel_rfl) (by kernel_rfl) (fun _ _ _ h => h) (Or.inl ⟨by kernel_rfl, ?_⟩) (by assumption) ?_); rotate_left 1; (focus (intro w hSw; (try dsimp only at hSw); go_simp; (try with_reducible rfl))); (try simp only [Act.put, List.setIfInBounds_toArray, List.set_cons_zero, List.set_cons_succ])))
          (((refine wpAnyH_ready (rs := [15]) (by kernel_rfl) (by simp) ?_); (refine AllReadyH.cons rfl (fun K hK => ?_) AllReadyH.nil); (rw [if_pos (by kernel_rfl)]); go_simp))
          refine hK _ _ s9 (fun hh2 => ?_)
          clear hK K hHeld hh2
          (try simp only [Act.put, List.setIfInBounds_toArray, List.set_cons_zero, List.set_cons_succ])
          refine wpAnyH_done (by kernel_rfl) ?_ _
          go_simp
          clear s9 d9 e9 i9 hEa
          go_wp2_with fail
          go_roundw
          case rel => exact ⟨i + 1, _, by omega, by go_num, HSN.out⟩
          case measure => simp [intOf]; omega
        · have hin : i = fs.length := by omega
          subst hin
          obtain ⟨hBr, hYr⟩ := HOW.out wr hS.bl
          obtain ⟨hFr, hIr, hMr, hOr⟩ := HG.out.off hYr
          have hall : ∀ (q : Nat) (f : Fl), fs[q]? = some f → hv[q]? = some (k f.id) := fun q f hf => hS.v q (by
            rw [List.take_of_length_le (by rw [HLO.out]; exact Nat.le_refl _)]
            exact nodup_all HG.out.topo.nd HG.out.topo.lt HG.out.topo.ln q (List.getElem?_eq_some_iff.1 hf).1) f hf
          have hvm : hv = fs.map fun f => k f.id := by
            apply List.ext_getElem?
            intro j
            rw [List.getElem?_map]
            rcases Nat.lt_or_ge j fs.length with hj | hj
            · rw [List.getElem?_eq_getElem hj, hall j fs[j] (List.getElem?_eq_getElem hj)]; rfl
            · rw [List.getElem?_eq_none (by rw [hS.own.1]; exact hj), List.getElem?_eq_none hj]; rfl
          have hOw := hS.own
          rw [hvm] at hOw
          have hlt8 := hOw.ltN w.heap.size rfl
          have hGN : GrM wr (fun j => X j ∨ j = w.heap.size) g fs ⟨p.mb, p.km, p.bF, p.Af, p.cf, p.qf, p.bS, p.gs, p.qs, p.bO, p.Ao, p.co, p.ord, some ⟨w.heap.size, 0, none⟩, fs.length, fs.length⟩ := by
            have h := HG.out
            exact ⟨h.ok, hBr, hFr, h.flv, hIr, h.stv, hMr, hOr, h.topo, .inr ⟨k, w.heap.size, w.heap.size, HK.out, rfl, rfl, hOw⟩, ⟨.inl h.xg.1, .inl h.xg.2.1, .inl h.xg.2.2⟩, fun b hb => .inl (h.xf b hb), fun q hq => ⟨fun h0 b hb => .inl ((h.xfs q hq).1 h0 b hb), fun h0 b hb => .inl ((h.xfs q hq).2 h0 b hb)⟩, fun q hq b hb => .inl (h.xs q hq b hb), fun b hb => .inl (h.xo b hb), fun b hb => .inr (ob_some' hb).symm, fun j hj => hj.elim (fun hj => Nat.lt_of_lt_of_le (h.lt j hj) (by omega)) (fun hj => by omega)⟩
          have HGN := Lib.hid hGN
          have HXX := Lib.hid (hYr.mono (Z := X) (fun j _ e => by subst e; exact HG.out.xg.1))
          obtain ⟨x, _, _, hx, hwx, hcx, _⟩ := hOw.getg HP0.out
          have hx2 : k id = x := by
            rw [List.getElem?_map, HF0.out] at hx
            rw [← HI0.out]; exact Option.some.inj hx
          clear hx
          subst hx2
          have hq0I2 : (q0 : Int) < (fs.length : Int) := by omega
          obtain ⟨gc0, _, gc2, gc3, gc4⟩ := hBr.cells
          clear hS hOw hvm hall hwx hGN hIr hFr hMr hOr hYr hBr
          go_wp2_with fail
          go_ret2
          exact ⟨rfl, _, ⟨_, HGN.out⟩, HXX.out, fun j hj => hj.imp _root_.id (fun e => by omega)⟩
    · have hkk : h9 f0.id = k f0.id := HashOf.eq HG.out.ok hk9 hk _ f0 (by rw [hi0]; exact hg0)
      rw [hA, hnh] at gc4
      rw [hA] at hO
      obtain ⟨x, _, _, hx, hwx, hcx, _⟩ := hO.getg hq0
      rw [List.getElem?_map, hf0] at hx
      have hx2 : k id = x := by rw [← hi0, ← hkk]; exact Option.some.inj hx
      clear hx
      subst hx2
      have hnil : ∀ W : World, (binOp .eql 68 (.slice (some ⟨gh, 0, none⟩) fs.length p.ch) (.slice none 0 0)).run Try.prog W = .ok (.bool false) W := fun W => Lib.run_eql_slice_nil W _ _ _ _ _ _ _ Try.underlying68
      clear hO hA hnh hkk hk9 hwx hp hf0 hg0 hi0 h hk hz hw
      go_enter Try.func28, Try.ntmps28
      go_wp2_with fail
      go_ret2
      exact ⟨rfl, X, ⟨p, HG.out⟩, Ex.refl _ _, fun i hi => .inl hi⟩
theorem SameG.hVal {fs gs : List Fl} (h : SameG fs gs) (k : Int → Int) (i : Int) : Proofs.Ytmeplpiamkaniaa.hVal gs k i = Proofs.Ytmeplpiamkaniaa.hVal fs k i := by unfold Proofs.Ytmeplpiamkaniaa.hVal; rw [h.get]
end Go.Proofs.Ytmeplpiamkaniaa
