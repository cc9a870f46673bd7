/- amounts of the statements on bags: three lists of amounts. -/
import Derived.Test.YtbpfdogjjoceaaaX
import Derived.Deep.DeepCutAuto
namespace Go.Proofs.Ytbpfdogjjoceaaa
open Go.RowKit

/-- append(out, src...), pairs: src any slice that reads as l2 -/
theorem run_appPN {P : Program} {S T : TypeId} (it : PairT P S T) (w : World) (ty : TypeId) (base : Nat) (A : Option Addr) (n c : Nat) (l : List (Int × Int)) (hown : OwnP T w base A n c l)
    (A2 : Option Addr) (m c2 : Nat) (l2 : List (Int × Int)) (hr : Pairs w A2 m c2 l2) (hlen : n + m ≤ 1099511627776) (hbase : base ≤ w.heap.size) :
    ∃ A' c' w', (Builtin.append_ #[S, S] ty #[.slice A n c, .slice A2 m c2]).run P w = .ok (.slice A' (n + m) c') w' ∧ OwnP T w' base A' (n + m) c' (l ++ l2) ∧ w.grownBy w' (Value.slice A n c).ownBlock ∧
      ((Value.slice A' (n + m) c').ownBlock = (Value.slice A n c).ownBlock ∨ (Value.slice A' (n + m) c').ownBlock = some w.heap.size) := by
  obtain ⟨i, hi, hz0, hz1, hz2⟩ := info_parts it.info
  rcases A2 with _ | ad
  · have hm : m = 0 := by
      rcases Nat.eq_zero_or_pos m with h0 | h0
      · exact h0
      · obtain ⟨_, _, h, _⟩ := hr.at_ h0; cases h
    subst hm
    have hn : l2 = [] := List.eq_nil_of_length_eq_zero hr.len
    subst hn
    refine ⟨A, c, w, ?_, by simpa using hown, World.grownBy.refl w _, .inl rfl⟩
    rcases hown.form with ⟨rfl, rfl, rfl⟩ | ⟨g, rfl, _, _, hnc, _⟩
    · simp [Builtin.append_, run_underlying it.und, sizeOf, typeInfo, hi, Builtin.lenOf, Builtin.firstCells]
    · simp [Builtin.append_, run_underlying it.und, sizeOf, typeInfo, hi, Builtin.lenOf, Builtin.firstCells, hnc, storeCells]
  · have hcells : ∀ j u, (flat2 l2)[j]? = some u → w.cell? (ad.add j) = some u := by
      intro j u hu
      have hj : j < l2.length * 2 := by rw [← flat2_len]; exact (List.getElem?_eq_some_iff.1 hu).1
      obtain ⟨b, o, hh, _, hc⟩ := hr.at_ (by have := hr.len; omega)
      injection hh with hh
      subst hh
      rw [add_plain]
      have hi2 : j / 2 < l2.length := by omega
      have hf := flat2_at l2 (j / 2) _ (List.getElem?_eq_getElem hi2)
      have hcc := hc (j / 2) hi2
      rcases Nat.mod_two_eq_zero_or_one j with h0 | h0
      · have e : j = j / 2 * 2 := by omega
        rw [e] at hu ⊢
        rw [hf.1] at hu
        rw [hcc.1, ← hu]
      · have e : j = j / 2 * 2 + 1 := by omega
        rw [e] at hu ⊢
        rw [hf.2] at hu
        rw [← Nat.add_assoc, hcc.2, ← hu]
    obtain ⟨v', w', hrun, h2, h3, _, h5⟩ := run_append_own_at (P := P) w base S ty T i _ 2 16 it.und hi hz0 hz1 hz2 rfl (by decide) _ n _ hown.2.1 ad m c2 (flat2 l2) (by rw [flat2_len, hr.len]) hcells (flat2_one l2) (by unfold maxLen; omega) (by omega) hbase
    have hfl : flat2 l ++ flat2 l2 = flat2 (l ++ l2) := by simp [flat2]
    rw [hfl] at h2
    have hw : ∀ x ∈ l ++ l2, (Lit.int .i64 x.1).wf = true ∧ (Lit.int .i64 x.2).wf = true := by
      intro y hy; rcases List.mem_append.1 hy with hy | hy; exact hown.2.2 y hy; exact hr.wf y hy
    have h2' := h2
    rcases h2.2 with ⟨rfl, h0⟩ | ⟨g, cap, cur, rfl, _⟩
    · have : n = 0 ∧ m = 0 := by omega
      obtain ⟨rfl, rfl⟩ := this
      exact ⟨none, 0, w', hrun, ⟨by simp [hown.1, hr.len], h2', hw⟩, h3, h5⟩
    · exact ⟨_, cap, w', hrun, ⟨by simp [hown.1, hr.len], h2', hw⟩, h3, h5⟩
theorem wpList_appPN {P : Program} {S T : TypeId} (it : PairT P S T) (w : World) {ops : Array Oper} {rest : List Oper} {o : Oper} {a : Act} {Q : Exit → Act → World → Prop} (hgd : o.guard = none) (s x : Operand)
    (ho : o.op = .call { callee := .builtin .append, args := #[s, x], argTypes := #[S, S] })
    (base : Nat) (A : Option Addr) (n c : Nat) (l : List (Int × Int)) (hs : a.eval s = .slice A n c) (hown : OwnP T w base A n c l)
    (A2 : Option Addr) (m c2 : Nat) (l2 : List (Int × Int)) (hx : a.eval x = .slice A2 m c2) (hr : Pairs w A2 m c2 l2) (hlen : n + m ≤ 1099511627776) (hbase : base ≤ w.heap.size)
    (h : ∀ A' c' w', OwnP T w' base A' (n + m) c' (l ++ l2) → w.grownBy w' (Value.slice A n c).ownBlock → Below base w w' → wpList P ops Q rest (a.put o.dst (.slice A' (n + m) c')) w') :
    wpList P ops Q (o :: rest) a w := by
  obtain ⟨A', c', w', hrun, hO, h3, h5⟩ := run_appPN it w o.type base A n c l hown A2 m c2 l2 hr hlen hbase
  refine wpList_plain hgd fun K hK' => ?_
  unfold Oper.wp execOp
  simp only [ho, resolve, invoke, builtin, Sem.run_bind, Sem.run_pure, Result.andThen_ok, List.map_toArray, List.map_cons, List.map_nil, hs, hx, hrun]
  exact hK' _ _ (h A' c' w' hO h3 ((Below.refl base w).grown h3 hbase (ownBlockP_le hown)))

/-- a slice of slices of amounts -/
structure MatP (w : World) (A : Option Addr) (n c : Nat) (ls : List (List (Int × Int))) : Prop where
  len : ls.length = n
  cap : n ≤ c
  mx : c ≤ maxLen
  at_ : 0 < n → ∃ b o, A = some ⟨b, o, none⟩ ∧ b < w.heap.size ∧ ∀ i, (h : i < ls.length) → ∃ A' n' c', w.cell? ⟨b, o + i, none⟩ = some (.slice A' n' c') ∧ Pairs w A' n' c' ls[i]
section
variable {w w' : World} {A : Option Addr} {n c : Nat} {ls : List (List (Int × Int))}
theorem MatP.e (h : MatP w A n c ls) (he : E w w') : MatP w' A n c ls :=
  ⟨h.len, h.cap, h.mx, fun hn => by
    obtain ⟨b, o, h1, h2, h3⟩ := h.at_ hn
    refine ⟨b, o, h1, Nat.lt_of_lt_of_le h2 he.le, fun i hi => ?_⟩
    obtain ⟨A', n', c', h4, h5⟩ := h3 i hi
    exact ⟨A', n', c', (he.cell (p := ⟨b, _, none⟩) h2).trans h4, h5.e he⟩⟩
theorem MatP.get (h : MatP w A n c ls) {i : Nat} (hi : i < n) :
    ∃ b o A' n' c' l, A = some ⟨b, o, none⟩ ∧ b < w.heap.size ∧ ls[i]? = some l ∧ w.cell? ⟨b, o + i, none⟩ = some (.slice A' n' c') ∧ Pairs w A' n' c' l := by
  obtain ⟨b, o, h1, h2, h3⟩ := h.at_ (by omega)
  have hl : i < ls.length := by rw [h.len]; exact hi
  obtain ⟨A', n', c', h4, h5⟩ := h3 i hl
  exact ⟨b, o, A', n', c', ls[i], h1, h2, List.getElem?_eq_getElem hl, h4, h5⟩
end
def RetMatP (w : World) (e : Ending) (w' : World) : Prop := ∃ A c l1 l2 l3, e = .returned (.slice A 3 c) ∧ MatP w' A 3 c [l1, l2, l3] ∧ E w w'
theorem retMatP {w W : World} {g : Nat} {T : TypeId} {A1 A2 A3 : Option Addr} {n1 c1 n2 c2 n3 c3 : Nat} {l1 l2 l3 : List (Int × Int)} (hg : W.heap.size = g) (hE : E w W)
    (h1 : Pairs W A1 n1 c1 l1) (h2 : Pairs W A2 n2 c2 l2) (h3 : Pairs W A3 n3 c3 l3) :
    RetMatP w (.returned (.slice (some ⟨g, 0, none⟩) 3 3)) (W.alloc (.cells #[.slice A1 n1 c1, .slice A2 n2 c2, .slice A3 n3 c3] T)) := by
  subst hg
  have hE' := (E.refl W).alloc (.cells #[.slice A1 n1 c1, .slice A2 n2 c2, .slice A3 n3 c3] T)
  refine ⟨_, _, l1, l2, l3, rfl, ⟨rfl, Nat.le_refl _, by unfold maxLen; omega, fun _ => ⟨W.heap.size, 0, rfl, by simp, fun i hi => ?_⟩⟩, hE.trans hE'⟩
  have hc := fun j => cell_of_row _ W.heap.size j _ _ _ (heap_alloc_new W (.cells #[.slice A1 n1 c1, .slice A2 n2 c2, .slice A3 n3 c3] T))
  match i, hi with
  | 0, _ => exact ⟨_, _, _, hc 0, h1.e hE'⟩
  | 1, _ => exact ⟨_, _, _, hc 1, h2.e hE'⟩
  | 2, _ => exact ⟨_, _, _, hc 2, h3.e hE'⟩

theorem Pairs.take {w : World} {A : Option Addr} {n c : Nat} {l : List (Int × Int)} (h : Pairs w A n c l) {m : Nat} (hm : m ≤ n) : Pairs w A m c (l.take m) := by
  have htl : (l.take m).length = m := by rw [List.length_take, h.len]; omega
  refine ⟨htl, by have := h.cap; omega, h.mx, fun x hx => h.wf x (List.mem_of_mem_take hx), fun h0 => ?_⟩
  obtain ⟨b, o, h1, h2, h3⟩ := h.at_ (by omega)
  refine ⟨b, o, h1, h2, fun i hi => ?_⟩
  rw [List.getElem_take]
  exact h3 i (by rw [htl] at hi; rw [h.len]; omega)

theorem sOf {w0 w2 : World} (hE : E w0 w2) : w0.heap.size ≤ w2.heap.size ∧ ∀ b o, b < w0.heap.size → w2.cell? ⟨b, o, none⟩ = w0.cell? ⟨b, o, none⟩ := ⟨hE.le, fun b o hb => hE.cell (p := ⟨b, o, none⟩) hb⟩
def ob (A : Option Addr) : Option Nat := A.map (·.block)
theorem ob_eq (A : Option Addr) (n c : Nat) : (Value.slice A n c).ownBlock = ob A := by cases A <;> rfl
/-- two rows do not share a block -/
def apartS (A1 A2 : Option Addr) : Prop := ∀ b, ob A1 = some b → ob A2 ≠ some b
theorem apartS.symm {A1 A2 : Option Addr} (h : apartS A1 A2) : apartS A2 A1 := fun b h1 h2 => h b h2 h1
theorem OwnP.lt {T : TypeId} {w : World} {base : Nat} {A : Option Addr} {n c : Nat} {l : List (Int × Int)} (h : OwnP T w base A n c l) : ∀ b, ob A = some b → base ≤ b ∧ b < w.heap.size := by
  intro b hb
  exact World.ownsRow.lt h.2.1 b (by rw [ob_eq]; exact hb)
theorem OwnP.kept {T : TypeId} {w w' : World} {base : Nat} {A A2 : Option Addr} {n c n2 c2 : Nat} {l : List (Int × Int)} (h : OwnP T w base A n c l) (hG : w.grownBy w' (Value.slice A2 n2 c2).ownBlock) (hap : apartS A A2) : OwnP T w' base A n c l := by
  refine ⟨h.1, h.2.1.kept hG ?_, h.2.2⟩
  rw [ob_eq, ob_eq]
  cases ha : ob A with
  | none => exact .inl rfl
  | some b => exact .inr fun e => hap b ha e.symm
theorem apart_grow {A1 A2 : Option Addr} {n c g B : Nat} (h : apartS A1 A2) (hB : ∀ b, ob A1 = some b → b < B) (hor : (Value.slice A2 n c).ownBlock = some g ∨ B ≤ g) : apartS A1 (some ⟨g, 0, none⟩) := by
  intro b hb hg
  have : g = b := by simpa [ob] using hg
  subst this
  rcases hor with h1 | h1
  · rw [ob_eq] at h1; exact h g hb h1
  · have := hB g hb; omega

set_option maxHeartbeats 4000000 in
set_option maxRecDepth 100000 in
theorem lawAmounts_c (N : Int) (A : Option Addr) (n c : Nat) (l : List (Int × Int)) (A2 : Option Addr) (n2 c2 : Nat) (l2 : List Int) (w : World) (h : Pairs w A n c l) (h2 : Nums .i64 w A2 n2 c2 l2) (hN1 : -9223372036854775808 ≤ N) (hN2 : N ≤ 9223372036854775807) :
    Calls Try.prog 23 #[.slice A n c, .slice A2 n2 c2, .int .i64 N] w (RetMatP w) := by
  have hm := h.n63
  have hm2 := h2.n63
  have hcap := h.cap
  have hcm : c ≤ 9223372036854775807 := by have := h.mx; unfold maxLen at this; omega
  obtain ⟨mx, hmx⟩ : ∃ mx : Int, (if N < 1 then 1 else N) = mx := ⟨_, rfl⟩
  have hmx1 : 1 ≤ mx := by rw [← hmx]; split <;> omega
  have hmx2 : mx ≤ 9223372036854775807 := by rw [← hmx]; split <;> omega
  by_cases h6 : (6 : Int) < (n : Int)
  · have hr := h.take (m := 6) (by omega)
    go_enter Try.func23, Try.ntmps23
    go_wp2_with (at_builtin; refine wpList_appPN amtT _ rfl _ _ rfl w.heap.size _ _ _ [] rfl (OwnP.nil _ _ _) _ _ _ _ rfl hr (by omega) (Nat.le_refl _) ?_; intro Af cf w1 hOf hGf hBf)
    obtain ⟨lf, hF⟩ : ∃ lf, Pairs w1 Af 6 cf lf := ⟨_, by simpa using hOf.reads⟩
    have hEf : E w w1 := hBf
    have k2 := h2.e hEf
    clear hOf hGf hBf hr
    go_loopw [8, 9, 10] (fun tm ts i wr => ∃ (k nm cm ns cs : Nat) (Am As : Option Addr) (lm ls : List (Int × Int)), i = .int .i64 k ∧ tm = .slice Am nm cm ∧ ts = .slice As ns cs ∧ OwnP 67 wr w1.heap.size Am nm cm lm ∧ OwnP 67 wr w1.heap.size As ns cs ls ∧ apartS Am As ∧ nm ≤ k ∧ ns ≤ k ∧ k ≤ 14 ∧ E w1 wr) (fun _ _ i _ => 20 - (intOf i).toNat)
    case atStart => exact ⟨0, 0, 0, 0, 0, none, none, [], [], rfl, rfl, rfl, OwnP.nil _ _ _, OwnP.nil _ _ _, fun _ h => by simp [ob] at h, Nat.le_refl _, Nat.le_refl _, by omega, E.refl _⟩
    case round =>
      obtain ⟨k, nm, cm, ns, cs, Am, As, lm, ls, rfl, rfl, rfl, hOm, hOs, hap, hnm, hns, hk, hE⟩ := hrel
      have hle := hE.le
      by_cases hlt : (k : Int) + 1 < (n2 : Int)
      · have hltd : decide ((k : Int) + 1 < (n2 : Int)) = true := by simpa using hlt
        by_cases hk12 : (k : Int) < 12
        · obtain ⟨b2, o2, x, rfl, hb2, hx, hwx, hc1⟩ := (k2.e hE).get (i := k) (by omega)
          obtain ⟨b2', o2', y, hA2, hb2', hy, hwy, hc2⟩ := (k2.e hE).get (i := k + 1) (by omega)
          injection hA2 with hA2; injection hA2 with e1 e2; subst e1 e2
          obtain ⟨x0, x1⟩ := wf_i64 hwx
          obtain ⟨y0, y1⟩ := wf_i64 hwy
          clear hx hy hwx hwy
          have hw1 : IntKind.i64.wrap ((k : Int) + 1) = (k : Int) + 1 := IntWalk.i64_in _ (by omega)
          have hw2 : IntKind.i64.wrap (1 + y % 1099511627776) = 1 + y % 1099511627776 := IntWalk.i64_in _ (by omega)
          have hw3 : (0 : Int) ≤ (k : Int) + 1 := by omega
          have hw5 : (k : Int) < (n2 : Int) := by omega
          have hw6 : (0 : Int) ≤ (k : Int) := by omega
          have hw4 : ((k : Int) + 1).toNat = k + 1 := by omega
          go_wp2
          go_cut [11] (fun s11 wx => s11 = .pointer (some ⟨wr.heap.size, 0, none⟩) ∧ wx = (wr.alloc (.cells #[.int .i64 (x % mx), .int .i64 (1 + y % 1099511627776)] 67)).drew)
          case first =>
            go_region_held3 (fun w' => wr.heap.size ≤ w'.heap.size ∧ ∀ b o, b < wr.heap.size → w'.cell? ⟨b, o, none⟩ = wr.cell? ⟨b, o, none⟩)
              (first | exact ⟨Nat.le_refl _, fun _ _ _ => rfl⟩ | exact sKeep (by assumption) ((E.refl _).alloc _) | exact sOf (((E.refl _).alloc _).drew) | exact sOf ((E.refl _).alloc _) | exact sKeep (by assumption) (E.refl _))
              ((go_at_call 13; refine (around_c _ _ _ (by omega) (by omega) (by omega) (by omega)).mono ?_; rintro e w' ⟨rfl, rfl⟩))
            all_goals
              go_wp2_with fail
              go_meet
              exact ⟨rfl, rfl⟩
          case rest =>
            obtain ⟨rfl, rfl⟩ := hcut
            go_upto_if 51 with (fail)
            have hw7 : IntKind.i64.wrap (1 + y % 9) = 1 + y % 9 := IntWalk.i64_in _ (by omega)
            go_cut [] (fun wx => ∃ u v : Int, (Lit.int .i64 u).wf = true ∧ (Lit.int .i64 v).wf = true ∧ wx.heap[wr.heap.size]? = some (.cells #[.int .i64 u, .int .i64 v] 67 (0, 0)) ∧ E wr wx)
            case first =>
              have hwf1 : (Lit.int .i64 (x % mx)).wf = true := by have := Int.emod_lt_of_pos x (show 0 < mx by omega); have := Int.emod_nonneg x (show mx ≠ 0 by omega); exact wf_of_i64 (by omega) (by omega)
              go_wp2_with (go_at_call 13; refine (around_c _ _ _ (by omega) (by omega) (by omega) (by omega)).mono ?_; rintro e w' ⟨rfl, rfl⟩)
              · go_meet
                exact ⟨x % mx, 1 + y % 9, hwf1, wf_of_i64 (by omega) (by omega), heap_alloc_new wr _, ((E.refl _).alloc _).drew⟩
              · go_meet
                exact ⟨x % mx, 1 + y % 1099511627776, hwf1, wf_of_i64 (by omega) (by omega), heap_alloc_new wr _, ((E.refl _).alloc _).drew⟩
            case rest =>
              obtain ⟨u, v, wu, wv, hblk, hEx⟩ := hcut
              have hcu : wc.cell? ⟨wr.heap.size, 0, none⟩ = some (.int .i64 u) := by rw [cell_of_row _ _ _ _ _ _ hblk]; rfl
              have hcv : wc.cell? ⟨wr.heap.size, 1, none⟩ = some (.int .i64 v) := by rw [cell_of_row _ _ _ _ _ _ hblk]; rfl
              have hlx := hEx.le
              have hmlt : ∀ b, ob Am = some b → b < wr.heap.size := fun b hb => (hOm.lt b hb).2
              have hslt : ∀ b, ob As = some b → b < wc.heap.size := fun b hb => by have := (hOs.lt b hb).2; omega
              have HMLT := Lib.hid hmlt
              have HSLT := Lib.hid hslt
              clear hmlt hslt
              replace hOm := hOm.e hEx
              replace hOs := hOs.e hEx
              clear hw1 hw2 hw3 hw4 hw5 hw6 hw7
              have HB := Lib.hid hblk
              clear hblk
              go_wp2_with (at_builtin; refine wpList_appP amtT _ rfl _ _ rfl _ _ _ _ _ rfl hOm _ _ rfl wu wv (by omega) (by omega) ?_; intro g' c3 w4 hO hG hB hor)
              have hE4 := (hE.trans hEx).up hB
              have hOs4 := hOs.kept hG hap.symm
              have hap4 : apartS As (some ⟨g', 0, none⟩) := apart_grow hap.symm HSLT.out hor
              have hblk4 : w4.heap[wr.heap.size]? = some (.cells #[.int .i64 u, .int .i64 v] 67 (0, 0)) := by
                rw [hG.block _ (blk_lt HB.out) (fun e => by rw [ob_eq] at e; have := HMLT.out _ e.symm; omega)]; exact HB.out
              have hcu4 : w4.cell? ⟨wr.heap.size, 0, none⟩ = some (.int .i64 u) := by rw [cell_of_row _ _ _ _ _ _ hblk4]; rfl
              have hcv4 : w4.cell? ⟨wr.heap.size, 1, none⟩ = some (.int .i64 v) := by rw [cell_of_row _ _ _ _ _ _ hblk4]; rfl
              have hle4 := hE4.le
              clear hcu hcv hblk4 hOm hOs hG hB hor
              by_cases hns0 : (ns : Int) = 0
              · have hd0 : ((ns : Int) == 0) = true := by simp; omega
                have HN := Lib.hid hns0
                clear hns0
                go_quiet (fail)
                have hE5 := hE4.drewN nq
                have hOs5 := hOs4.e ((E.refl w4).drewN nq)
                have hOm5 := hO.e ((E.refl w4).drewN nq)
                have hcu5 : (w4.drewN nq).cell? ⟨wr.heap.size, 0, none⟩ = some (.int .i64 u) := hcu4
                have hcv5 : (w4.drewN nq).cell? ⟨wr.heap.size, 1, none⟩ = some (.int .i64 v) := hcv4
                clear hcu4 hcv4 hOs4 hO
                generalize w4.drewN nq = w5 at *
                have hle5 := hE5.le
                go_wp2_with (at_builtin; refine wpList_appP amtT _ rfl _ _ rfl _ _ _ _ _ rfl hOs5 _ _ rfl wu wv (by omega) hle5 ?_; intro g2 c4 w6 hO2 hG2 hB2 hor2)
                go_roundw
                case rel =>
                  exact ⟨k + 2, nm + 1, c3, ns + 1, c4, _, _, _, _, by go_num, rfl, rfl, hOm5.kept hG2 hap4.symm, hO2, apart_grow hap4.symm (fun b hb => (hOm5.lt b hb).2) hor2, by omega, by omega, by omega, hE5.up hB2⟩
                case measure => simp [intOf]; omega
              · obtain ⟨q, rfl⟩ : ∃ q : Nat, ns = q + 1 := ⟨ns - 1, by omega⟩
                have hd0 : (((q + 1 : Nat) : Int) == 0) = false := by simp; omega
                obtain ⟨bs, os, p1, p2, rfl, hbs, _, _, _, hcs1, hcs2⟩ := hOs4.reads.get (i := q) (by omega)
                have hwq : IntKind.i64.wrap ((q : Int) + 1 - 1) = (q : Int) := by rw [IntWalk.i64_in _ (by omega)]; omega
                have hwq2 : IntKind.i64.wrap (q : Int) = (q : Int) := IntWalk.i64_in _ (by omega)
                have hq0 : (0 : Int) ≤ (q : Int) := by omega
                have hq1 : (q : Int) < (q : Int) + 1 := by omega
                by_cases hpu : p1 < u
                · have hpd : decide (p1 < u) = true := by simpa using hpu
                  go_quiet (fail)
                  have hE5 := hE4.drewN nq
                  have hOs5 := hOs4.e ((E.refl w4).drewN nq)
                  have hOm5 := hO.e ((E.refl w4).drewN nq)
                  have hcu5 : (w4.drewN nq).cell? ⟨wr.heap.size, 0, none⟩ = some (.int .i64 u) := hcu4
                  have hcv5 : (w4.drewN nq).cell? ⟨wr.heap.size, 1, none⟩ = some (.int .i64 v) := hcv4
                  clear hcu4 hcv4 hOs4 hO
                  generalize w4.drewN nq = w5 at *
                  have hle5 := hE5.le
                  go_wp2_with (at_builtin; refine wpList_appP amtT _ rfl _ _ rfl _ _ _ _ _ rfl hOs5 _ _ rfl wu wv (by omega) hle5 ?_; intro g2 c4 w6 hO2 hG2 hB2 hor2)
                  go_roundw
                  case rel =>
                    exact ⟨k + 2, nm + 1, c3, (q + 1) + 1, c4, _, _, _, _, by go_num, rfl, rfl, hOm5.kept hG2 hap4.symm, hO2, apart_grow hap4.symm (fun b hb => (hOm5.lt b hb).2) hor2, by omega, by omega, by omega, hE5.up hB2⟩
                  case measure => simp [intOf]; omega
                · have hpd : decide (p1 < u) = false := by simpa using hpu
                  go_quiet (fail)
                  go_wp2
                  go_roundw
                  case rel =>
                    exact ⟨k + 2, nm + 1, c3, q + 1, cs, _, _, _, _, by go_num, rfl, rfl, hO.e ((E.refl w4).drewN nq), hOs4.e ((E.refl w4).drewN nq), hap4.symm, by omega, by omega, by omega, hE4.drewN nq⟩
                  case measure => simp [intOf]; omega
        · have hk12d : decide ((k : Int) < 12) = false := by simpa using hk12
          go_wp2
          go_ret
          exact retMatP rfl (hEf.trans hE) (hF.e hE) hOm.reads hOs.reads
      · have hltd : decide ((k : Int) + 1 < (n2 : Int)) = false := by simpa using hlt
        go_wp2
        go_ret
        exact retMatP rfl (hEf.trans hE) (hF.e hE) hOm.reads hOs.reads
  · have hr := h.take (m := n) (Nat.le_refl _)
    go_enter Try.func23, Try.ntmps23
    go_wp2_with (at_builtin; refine wpList_appPN amtT _ rfl _ _ rfl w.heap.size _ _ _ [] rfl (OwnP.nil _ _ _) _ _ _ _ rfl hr (by omega) (Nat.le_refl _) ?_; intro Af cf w1 hOf hGf hBf)
    obtain ⟨lf, hF⟩ : ∃ lf, Pairs w1 Af n cf lf := ⟨_, by simpa using hOf.reads⟩
    have hEf : E w w1 := hBf
    have k2 := h2.e hEf
    clear hOf hGf hBf hr
    go_loopw [8, 9, 10] (fun tm ts i wr => ∃ (k nm cm ns cs : Nat) (Am As : Option Addr) (lm ls : List (Int × Int)), i = .int .i64 k ∧ tm = .slice Am nm cm ∧ ts = .slice As ns cs ∧ OwnP 67 wr w1.heap.size Am nm cm lm ∧ OwnP 67 wr w1.heap.size As ns cs ls ∧ apartS Am As ∧ nm ≤ k ∧ ns ≤ k ∧ k ≤ 14 ∧ E w1 wr) (fun _ _ i _ => 20 - (intOf i).toNat)
    case atStart => exact ⟨0, 0, 0, 0, 0, none, none, [], [], rfl, rfl, rfl, OwnP.nil _ _ _, OwnP.nil _ _ _, fun _ h => by simp [ob] at h, Nat.le_refl _, Nat.le_refl _, by omega, E.refl _⟩
    case round =>
      obtain ⟨k, nm, cm, ns, cs, Am, As, lm, ls, rfl, rfl, rfl, hOm, hOs, hap, hnm, hns, hk, hE⟩ := hrel
      have hle := hE.le
      by_cases hlt : (k : Int) + 1 < (n2 : Int)
      · have hltd : decide ((k : Int) + 1 < (n2 : Int)) = true := by simpa using hlt
        by_cases hk12 : (k : Int) < 12
        · obtain ⟨b2, o2, x, rfl, hb2, hx, hwx, hc1⟩ := (k2.e hE).get (i := k) (by omega)
          obtain ⟨b2', o2', y, hA2, hb2', hy, hwy, hc2⟩ := (k2.e hE).get (i := k + 1) (by omega)
          injection hA2 with hA2; injection hA2 with e1 e2; subst e1 e2
          obtain ⟨x0, x1⟩ := wf_i64 hwx
          obtain ⟨y0, y1⟩ := wf_i64 hwy
          clear hx hy hwx hwy
          have hw1 : IntKind.i64.wrap ((k : Int) + 1) = (k : Int) + 1 := IntWalk.i64_in _ (by omega)
          have hw2 : IntKind.i64.wrap (1 + y % 1099511627776) = 1 + y % 1099511627776 := IntWalk.i64_in _ (by omega)
          have hw3 : (0 : Int) ≤ (k : Int) + 1 := by omega
          have hw5 : (k : Int) < (n2 : Int) := by omega
          have hw6 : (0 : Int) ≤ (k : Int) := by omega
          have hw4 : ((k : Int) + 1).toNat = k + 1 := by omega
          go_wp2
          go_cut [11] (fun s11 wx => s11 = .pointer (some ⟨wr.heap.size, 0, none⟩) ∧ wx = (wr.alloc (.cells #[.int .i64 (x % mx), .int .i64 (1 + y % 1099511627776)] 67)).drew)
          case first =>
            go_region_held3 (fun w' => wr.heap.size ≤ w'.heap.size ∧ ∀ b o, b < wr.heap.size → w'.cell? ⟨b, o, none⟩ = wr.cell? ⟨b, o, none⟩)
              (first | exact ⟨Nat.le_refl _, fun _ _ _ => rfl⟩ | exact sKeep (by assumption) ((E.refl _).alloc _) | exact sOf (((E.refl _).alloc _).drew) | exact sOf ((E.refl _).alloc _) | exact sKeep (by assumption) (E.refl _))
              ((go_at_call 13; refine (around_c _ _ _ (by omega) (by omega) (by omega) (by omega)).mono ?_; rintro e w' ⟨rfl, rfl⟩))
            all_goals
              go_wp2_with fail
              go_meet
              exact ⟨rfl, rfl⟩
          case rest =>
            obtain ⟨rfl, rfl⟩ := hcut
            go_upto_if 51 with (fail)
            have hw7 : IntKind.i64.wrap (1 + y % 9) = 1 + y % 9 := IntWalk.i64_in _ (by omega)
            go_cut [] (fun wx => ∃ u v : Int, (Lit.int .i64 u).wf = true ∧ (Lit.int .i64 v).wf = true ∧ wx.heap[wr.heap.size]? = some (.cells #[.int .i64 u, .int .i64 v] 67 (0, 0)) ∧ E wr wx)
            case first =>
              have hwf1 : (Lit.int .i64 (x % mx)).wf = true := by have := Int.emod_lt_of_pos x (show 0 < mx by omega); have := Int.emod_nonneg x (show mx ≠ 0 by omega); exact wf_of_i64 (by omega) (by omega)
              go_wp2_with (go_at_call 13; refine (around_c _ _ _ (by omega) (by omega) (by omega) (by omega)).mono ?_; rintro e w' ⟨rfl, rfl⟩)
              · go_meet
                exact ⟨x % mx, 1 + y % 9, hwf1, wf_of_i64 (by omega) (by omega), heap_alloc_new wr _, ((E.refl _).alloc _).drew⟩
              · go_meet
                exact ⟨x % mx, 1 + y % 1099511627776, hwf1, wf_of_i64 (by omega) (by omega), heap_alloc_new wr _, ((E.refl _).alloc _).drew⟩
            case rest =>
              obtain ⟨u, v, wu, wv, hblk, hEx⟩ := hcut
              have hcu : wc.cell? ⟨wr.heap.size, 0, none⟩ = some (.int .i64 u) := by rw [cell_of_row _ _ _ _ _ _ hblk]; rfl
              have hcv : wc.cell? ⟨wr.heap.size, 1, none⟩ = some (.int .i64 v) := by rw [cell_of_row _ _ _ _ _ _ hblk]; rfl
              have hlx := hEx.le
              have hmlt : ∀ b, ob Am = some b → b < wr.heap.size := fun b hb => (hOm.lt b hb).2
              have hslt : ∀ b, ob As = some b → b < wc.heap.size := fun b hb => by have := (hOs.lt b hb).2; omega
              have HMLT := Lib.hid hmlt
              have HSLT := Lib.hid hslt
              clear hmlt hslt
              replace hOm := hOm.e hEx
              replace hOs := hOs.e hEx
              clear hw1 hw2 hw3 hw4 hw5 hw6 hw7
              have HB := Lib.hid hblk
              clear hblk
              go_wp2_with (at_builtin; refine wpList_appP amtT _ rfl _ _ rfl _ _ _ _ _ rfl hOm _ _ rfl wu wv (by omega) (by omega) ?_; intro g' c3 w4 hO hG hB hor)
              have hE4 := (hE.trans hEx).up hB
              have hOs4 := hOs.kept hG hap.symm
              have hap4 : apartS As (some ⟨g', 0, none⟩) := apart_grow hap.symm HSLT.out hor
              have hblk4 : w4.heap[wr.heap.size]? = some (.cells #[.int .i64 u, .int .i64 v] 67 (0, 0)) := by
                rw [hG.block _ (blk_lt HB.out) (fun e => by rw [ob_eq] at e; have := HMLT.out _ e.symm; omega)]; exact HB.out
              have hcu4 : w4.cell? ⟨wr.heap.size, 0, none⟩ = some (.int .i64 u) := by rw [cell_of_row _ _ _ _ _ _ hblk4]; rfl
              have hcv4 : w4.cell? ⟨wr.heap.size, 1, none⟩ = some (.int .i64 v) := by rw [cell_of_row _ _ _ _ _ _ hblk4]; rfl
              have hle4 := hE4.le
              clear hcu hcv hblk4 hOm hOs hG hB hor
              by_cases hns0 : (ns : Int) = 0
              · have hd0 : ((ns : Int) == 0) = true := by simp; omega
                have HN := Lib.hid hns0
                clear hns0
                go_quiet (fail)
                have hE5 := hE4.drewN nq
                have hOs5 := hOs4.e ((E.refl w4).drewN nq)
                have hOm5 := hO.e ((E.refl w4).drewN nq)
                have hcu5 : (w4.drewN nq).cell? ⟨wr.heap.size, 0, none⟩ = some (.int .i64 u) := hcu4
                have hcv5 : (w4.drewN nq).cell? ⟨wr.heap.size, 1, none⟩ = some (.int .i64 v) := hcv4
                clear hcu4 hcv4 hOs4 hO
                generalize w4.drewN nq = w5 at *
                have hle5 := hE5.le
                go_wp2_with (at_builtin; refine wpList_appP amtT _ rfl _ _ rfl _ _ _ _ _ rfl hOs5 _ _ rfl wu wv (by omega) hle5 ?_; intro g2 c4 w6 hO2 hG2 hB2 hor2)
                go_roundw
                case rel =>
                  exact ⟨k + 2, nm + 1, c3, ns + 1, c4, _, _, _, _, by go_num, rfl, rfl, hOm5.kept hG2 hap4.symm, hO2, apart_grow hap4.symm (fun b hb => (hOm5.lt b hb).2) hor2, by omega, by omega, by omega, hE5.up hB2⟩
                case measure => simp [intOf]; omega
              · obtain ⟨q, rfl⟩ : ∃ q : Nat, ns = q + 1 := ⟨ns - 1, by omega⟩
                have hd0 : (((q + 1 : Nat) : Int) == 0) = false := by simp; omega
                obtain ⟨bs, os, p1, p2, rfl, hbs, _, _, _, hcs1, hcs2⟩ := hOs4.reads.get (i := q) (by omega)
                have hwq : IntKind.i64.wrap ((q : Int) + 1 - 1) = (q : Int) := by rw [IntWalk.i64_in _ (by omega)]; omega
                have hwq2 : IntKind.i64.wrap (q : Int) = (q : Int) := IntWalk.i64_in _ (by omega)
                have hq0 : (0 : Int) ≤ (q : Int) := by omega
                have hq1 : (q : Int) < (q : Int) + 1 := by omega
                by_cases hpu : p1 < u
                · have hpd : decide (p1 < u) = true := by simpa using hpu
                  go_quiet (fail)
                  have hE5 := hE4.drewN nq
                  have hOs5 := hOs4.e ((E.refl w4).drewN nq)
                  have hOm5 := hO.e ((E.refl w4).drewN nq)
                  have hcu5 : (w4.drewN nq).cell? ⟨wr.heap.size, 0, none⟩ = some (.int .i64 u) := hcu4
                  have hcv5 : (w4.drewN nq).cell? ⟨wr.heap.size, 1, none⟩ = some (.int .i64 v) := hcv4
                  clear hcu4 hcv4 hOs4 hO
                  generalize w4.drewN nq = w5 at *
                  have hle5 := hE5.le
                  go_wp2_with (at_builtin; refine wpList_appP amtT _ rfl _ _ rfl _ _ _ _ _ rfl hOs5 _ _ rfl wu wv (by omega) hle5 ?_; intro g2 c4 w6 hO2 hG2 hB2 hor2)
                  go_roundw
                  case rel =>
                    exact ⟨k + 2, nm + 1, c3, (q + 1) + 1, c4, _, _, _, _, by go_num, rfl, rfl, hOm5.kept hG2 hap4.symm, hO2, apart_grow hap4.symm (fun b hb => (hOm5.lt b hb).2) hor2, by omega, by omega, by omega, hE5.up hB2⟩
                  case measure => simp [intOf]; omega
                · have hpd : decide (p1 < u) = false := by simpa using hpu
                  go_quiet (fail)
                  go_wp2
                  go_roundw
                  case rel =>
                    exact ⟨k + 2, nm + 1, c3, q + 1, cs, _, _, _, _, by go_num, rfl, rfl, hO.e ((E.refl w4).drewN nq), hOs4.e ((E.refl w4).drewN nq), hap4.symm, by omega, by omega, by omega, hE4.drewN nq⟩
                  case measure => simp [intOf]; omega
        · have hk12d : decide ((k : Int) < 12) = false := by simpa using hk12
          go_wp2
          go_ret
          exact retMatP rfl (hEf.trans hE) (hF.e hE) hOm.reads hOs.reads
      · have hltd : decide ((k : Int) + 1 < (n2 : Int)) = false := by simpa using hlt
        go_wp2
        go_ret
        exact retMatP rfl (hEf.trans hE) (hF.e hE) hOm.reads hOs.reads
end Go.Proofs.Ytbpfdogjjoceaaa
