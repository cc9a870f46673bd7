/- The package's Parts. -/
import Derived.Test.YtpbkfpkgbfifaaaKPa
namespace Go.Proofs.Ytpbkfpkgbfifaaa
open Go.RowKit

def mbP (w : World) (t : Bool) : Nat := if t then w.heap.size + 2 else w.heap.size + 1
def W5 (w : World) (A : Option Addr) (n c : Nat) : World :=
  ((((w.alloc (.cells #[.slice A n c] 31)).alloc (.map #[] 0)).alloc (.map #[] 0)).alloc (.cells #[.map (some (w.heap.size + 1))] 77)).alloc (.cells #[.map (some (w.heap.size + 2))] 77)
structure PB (w : World) (A : Option Addr) (n c : Nat) (W : World) : Prop where
  e : E w W
  sz : w.heap.size + 5 ≤ W.heap.size
  l_ : W.heap[w.heap.size]? = some (.cells #[.slice A n c] 31 (0, 0))
  b_ : W.heap[w.heap.size + 3]? = some (.cells #[.map (some (w.heap.size + 1))] 77 (0, 0))
  t_ : W.heap[w.heap.size + 4]? = some (.cells #[.map (some (w.heap.size + 2))] 77 (0, 0))
theorem heap_new {w : World} {o : Obj} {k : Nat} (h : w.heap.size = k) : (w.alloc o).heap[k]? = some o := by subst h; exact heap_alloc_new _ _
theorem W5_ok (w : World) (A : Option Addr) (n c : Nat) (l : List Bd) : PB w A n c (W5 w A n c) ∧ Fam (W5 w A n c) w.heap.size onA (mbP w) (fun _ => 0) (fun _ => none) (rowK l 0) := by
  have s1 : (w.alloc (.cells #[.slice A n c] 31)).heap.size = w.heap.size + 1 := by simp
  have s2 : ((w.alloc (.cells #[.slice A n c] 31)).alloc (.map #[] 0)).heap.size = w.heap.size + 2 := by simp
  have s3 : (((w.alloc (.cells #[.slice A n c] 31)).alloc (.map #[] 0)).alloc (.map #[] 0)).heap.size = w.heap.size + 3 := by simp
  have s4 : ((((w.alloc (.cells #[.slice A n c] 31)).alloc (.map #[] 0)).alloc (.map #[] 0)).alloc (.cells #[.map (some (w.heap.size + 1))] 77)).heap.size = w.heap.size + 4 := by simp
  have hm1 : MapV (W5 w A n c) (w.heap.size + 1) 0 (fun _ => none) := by
    have h := MapV.made (w.alloc (.cells #[.slice A n c] 31))
    rw [s1] at h
    exact h.e ((((E.refl _).alloc _).alloc _).alloc _)
  have hm2 : MapV (W5 w A n c) (w.heap.size + 2) 0 (fun _ => none) := by
    have h := MapV.made ((w.alloc (.cells #[.slice A n c] 31)).alloc (.map #[] 0))
    rw [s2] at h
    exact h.e (((E.refl _).alloc _).alloc _)
  refine ⟨⟨(((((E.refl w).alloc _).alloc _).alloc _).alloc _).alloc _, by simp [W5], ?_, ?_, ?_⟩, ⟨fun t _ => ?_, fun _ _ => by simp [mbP], fun k => ⟨none, 0, 0, rfl, Own.nil _ _ _ _⟩, fun k k' A n c A' n' c' _ h1 h2 => ?_⟩⟩
  · unfold W5
    rw [Below.heap_alloc _ _ _ (by rw [s4]; omega), Below.heap_alloc _ _ _ (by rw [s3]; omega), Below.heap_alloc _ _ _ (by rw [s2]; omega), Below.heap_alloc _ _ _ (by rw [s1]; omega)]
    exact heap_alloc_new _ _
  · unfold W5
    rw [Below.heap_alloc _ _ _ (by rw [s4]; omega)]
    exact heap_new s3
  · exact heap_new s4
  · cases t
    · exact hm1
    · exact hm2
  · have e : A = none := by injection h1 with h1; exact h1.symm
    subst e
    exact apart_none _
theorem PB.up {w W W' : World} {A : Option Addr} {n c : Nat} {X : Nat → Prop} (h : PB w A n c W) (hX : Ex X W W') (hx : ∀ i, X i → i ≠ w.heap.size ∧ i ≠ w.heap.size + 3 ∧ i ≠ w.heap.size + 4 ∧ w.heap.size ≤ i) : PB w A n c W' :=
  ⟨h.e.exUp hX (fun i x => (hx i x).2.2.2), Nat.le_trans h.sz hX.size, (hX.block _ (lt_blk h.l_) (fun x => (hx _ x).1 rfl)).trans h.l_, (hX.block _ (lt_blk h.b_) (fun x => (hx _ x).2.1 rfl)).trans h.b_, (hX.block _ (lt_blk h.t_) (fun x => (hx _ x).2.2.1 rfl)).trans h.t_⟩
theorem PB.eE {w W W' : World} {A : Option Addr} {n c : Nat} (h : PB w A n c W) (hE : E W W') : PB w A n c W' := h.up (X := fun _ => False) (Ex.of_e hE) (fun _ x => x.elim)
/-- what an entry into the maps turns is none of the boxes -/
theorem PB.add {w W W' : World} {A : Option Addr} {n c : Nat} (t : Bool) (h : PB w A n c W) (hX : Ex (fun j => j = mbP w t ∨ (w.heap.size ≤ j ∧ IntB W j)) W W') : PB w A n c W' := by
  refine h.up hX (fun i x => ?_)
  rcases x with x | ⟨x1, x2⟩
  · unfold mbP at x
    cases t <;> simp at x <;> omega
  · refine ⟨fun e => ?_, fun e => ?_, fun e => ?_, x1⟩
    · obtain ⟨cs, fr, e'⟩ := x2; rw [e, h.l_] at e'; injection e' with e'; injection e' with _ e'; cases e'
    · obtain ⟨cs, fr, e'⟩ := x2; rw [e, h.b_] at e'; injection e' with e'; injection e' with _ e'; cases e'
    · obtain ⟨cs, fr, e'⟩ := x2; rw [e, h.t_] at e'; injection e' with e'; injection e' with _ e'; cases e'
theorem not_intB {w : World} {j : Nat} {cs : Array Value} {T : TypeId} {fr : Nat × Nat} (h : w.heap[j]? = some (.cells cs T fr)) (hT : T ≠ 3) : ¬ IntB w j := by
  rintro ⟨cs', fr', e⟩
  rw [h] at e; injection e with e; injection e with _ e
  exact hT e
theorem boolsL_nil (n : Nat) : boolsL n [] = List.replicate n (.bool false) := by
  unfold boolsL
  apply List.ext_getElem (by simp)
  intro i h1 h2
  simp
set_option maxRecDepth 100000 in
theorem wpList_mkB (w : World) {ops : Array Oper} {rest : List Oper} {o : Oper} {a : Act} {Q : Exit → Act → World → Prop} (hgd : o.guard = none) (x y : Operand)
    (ho : o.op = Op.makeSlice 84 x y) (n : Nat) (hl : a.eval x = .int .i64 n) (hc : a.eval y = .int .i64 n) (hn : n ≤ 1000)
    (h : ∀ w', w'.heap[w.heap.size]? = some (.cells (boolsL n []).toArray 4 (0, 0)) → E w w' → w'.heap.size = w.heap.size + 1 → wpList Try.prog ops Q rest (a.put o.dst (.slice (some ⟨w.heap.size, 0, none⟩) n n)) w') :
    wpList Try.prog ops Q (o :: rest) a w := by
  obtain ⟨i, hi, hz0, hz1, hz2⟩ := info_parts (show (Try.prog.info? 4).map (fun i => (i.zero, i.size, i.bytes)) = some (some (.bool false), 1, 1) by kernel_rfl)
  refine wpList_plain hgd fun K hK' => ?_
  have hbI : (i.bytes : Int) * (n : Int) ≤ 281474976710656 := by rw [hz2]; omega
  have hr := run_make (P := Try.prog) w 84 4 i (.bool false) Try.underlying84 hi hz0 .i64 .i64 n n (by omega) (by omega) hbI (by omega)
  simp only [Int.toNat_natCast] at hr
  unfold Oper.wp
  simp [execOp, ho, hl, hc, hr, Result.andThen]
  refine hK' _ _ (h _ ?_ ((E.refl w).alloc _) (by simp))
  rw [heap_alloc_new, boolsL_nil]
  congr 2
  rw [hz1, Nat.mul_one]
  show madeCells #[Value.bool false] n = _
  apply Array.ext'
  rw [toList_madeCells_one]
def RetRows (w : World) (L : List (List Int)) (e : Ending) (w' : World) : Prop := ∃ A n c q, e = .returned (.slice A n c) ∧ GRow w' w.heap.size A n c q ∧ q.map Prod.fst = L ∧ E w w'
set_option maxHeartbeats 8000000 in
set_option maxRecDepth 100000 in
theorem parts_c (A : Option Addr) (n c : Nat) (l : List Bd) (w : World) (h : BidsAt w A n c l) (hn : n ≤ 1000) (hlt : ∀ x ∈ l, x.2.2.length ≤ 1000) :
    Calls Try.prog 24 #[.slice A n c] w (RetRows w ((partsF l).map ints)) := by
  have hl := h.len
  have hmm := @run_makeMap Try.prog
  have HLT := Lib.hid hlt
  go_enter Try.func24, Try.ntmps24
  go_upto_region 2 with fail
  obtain ⟨hP0, hF0⟩ := W5_ok w A n c l
  have hlc0 := cell_of_one hP0.l_
  unfold W5 at hP0 hF0 hlc0
  generalize ((((w.alloc (.cells #[.slice A n c] 31)).alloc (.map #[] 0)).alloc (.map #[] 0)).alloc (.cells #[.map (some (w.heap.size + 1))] 77)).alloc (.cells #[.map (some (w.heap.size + 2))] 77) = w0 at *
  clear hlt hmm
  go_wp2_with fail
  go_loopw [17] (fun ti wr => ∃ (k : Nat) (nb : Bool → Nat) (r : Key → Option Value), k ≤ n ∧ ti = .int .i64 k ∧ Fam wr w.heap.size onA (mbP w) nb r (rowK l k) ∧ nb false ≤ k ∧ nb true ≤ k * 1000 ∧ PB w A n c wr) (fun ti _ => n - (intOf ti).toNat)
  case atStart => exact ⟨0, _, _, Nat.zero_le _, rfl, hF0, Nat.le_refl _, by omega, hP0⟩
  case round =>
    obtain ⟨k, nb, r, hk, rfl, hF, hnb0, hnb1, hP⟩ := hrel
    clear hF0 hP0
    by_cases hkl : (k : Int) < (n : Int)
    · obtain ⟨b, o, x, A1, n1, c1, rfl, hb, hx, hv1, hv2, hN, hcs⟩ := h.item (i := k) (by omega)
      obtain ⟨p1, p2, p3⟩ := hcs wr hP.e
      have hgx : l.getD k bd0 = x := by rw [List.getD_eq_getElem?_getD, hx]; rfl
      have hn1 : n1 ≤ 1000 := by rw [← hN.len]; exact HLT.out x (List.mem_of_getElem? hx)
      clear hx hcs
      have hset := fun W hW => set_c x A1 n1 c1 W hW
      obtain ⟨xb, xp, xl⟩ := x
      unfold bdV at hset
      simp only at *
      have HSET := Lib.hid hset
      clear hset
      obtain ⟨A2, n2, c2, e2, hO2⟩ := hF.rows (false, xb)
      have hn2 : n2 ≤ k := by have := hO2.1; rw [ints_len] at this; rw [← this]; exact rowK_len l k _
      have hEa : E wr (wr.alloc (.cells #[.int .i64 xb, .int .i64 xp, .slice A1 n1 c1] 50)) := (E.refl wr).alloc _
      have hlc := cell_of_one hP.l_
      go_upto_region 5 with fail
      have hc5 := (cells3_new wr (.int .i64 xb) (.int .i64 xp) (.slice A1 n1 c1) 50).1
      have hF1 := hF.e hEa
      have hP1 := hP.eE hEa
      have hs1 : (wr.alloc (.cells #[.int .i64 xb, .int .i64 xp, .slice A1 n1 c1] 50)).heap[wr.heap.size]? = some (.cells #[.int .i64 xb, .int .i64 xp, .slice A1 n1 c1] 50 (0, 0)) := heap_alloc_new _ _
      have hsw : w.heap.size + 5 ≤ wr.heap.size := hP.sz
      clear hF hP hEa p1 p2 p3 hlc hO2
      generalize wr.alloc (.cells #[.int .i64 xb, .int .i64 xp, .slice A1 n1 c1] 50) = w1 at *
      have hPd := hP1.eE ((E.refl w1).drew)
      have hle1 := hPd.e.le
      have hlk0 : (Instr.lookup 77 (.map (some (w.heap.size + 1))) (.int .i64 xb) false).run Try.prog w1.drew = .ok (.slice A2 n2 c2) w1.drew := hF1.drew.look (false, xb) rfl hv1 e2
      have hlk1 : (Instr.lookup 77 (.map (some (w.heap.size + 1))) (.int .i64 xb) false).run Try.prog ((w1.alloc (.cells #[.int .i64 (k : Int)] 3)).drew) = .ok (.slice A2 n2 c2) ((w1.alloc (.cells #[.int .i64 (k : Int)] 3)).drew) := (hF1.drew.e ((E.refl _).alloc (.cells #[.int .i64 (k : Int)] 3))).look (false, xb) rfl hv1 e2
      obtain ⟨A3, c3, w2, w3, hrA, hrM, hF3, hX3, hX2⟩ := hF1.drew.add (false, xb) rfl k e2 hv1 (by omega) (by omega) (by simp only; unfold maxLen; omega) hle1 22
      rw [Fin_start l k hgx] at hF3
      have hrM' : (Instr.mapUpdate 77 (.map (some (w.heap.size + 1))) (.int .i64 xb) (.slice A3 (n2 + 1) c3)).run Try.prog w2 = .ok () w3 := hrM
      have hP3 : PB w (some ⟨b, o, none⟩) n c w3 := hPd.add false hX3
      have hP2 : PB w (some ⟨b, o, none⟩) n c w2 := hPd.add false (hX2.mono (fun _ _ x => .inr x))
      have hPa : PB w (some ⟨b, o, none⟩) n c ((w1.alloc (.cells #[.int .i64 (k : Int)] 3)).drew) := hP1.eE (((E.refl w1).alloc _).drew)
      have hs3 : w3.heap[wr.heap.size]? = some (.cells #[.int .i64 xb, .int .i64 xp, .slice A1 n1 c1] 50 (0, 0)) := (hX3.block _ (lt_blk hs1) (fun x => by
        rcases x with x | x
        · simp [mbP] at x; omega
        · exact not_intB hs1 (by decide) x.2)).trans hs1
      have hs2 : w2.heap[wr.heap.size]? = some (.cells #[.int .i64 xb, .int .i64 xp, .slice A1 n1 c1] 50 (0, 0)) := (hX2.block _ (lt_blk hs1) (fun x => not_intB hs1 (by decide) x.2)).trans hs1
      have hsa : ((w1.alloc (.cells #[.int .i64 (k : Int)] 3)).drew).heap[wr.heap.size]? = some (.cells #[.int .i64 xb, .int .i64 xp, .slice A1 n1 c1] 50 (0, 0)) := (((E.refl w1).alloc _).block (lt_blk hs1)).trans hs1
      have key : ∀ W, PB w (some ⟨b, o, none⟩) n c W → W.heap[wr.heap.size]? = some (.cells #[.int .i64 xb, .int .i64 xp, .slice A1 n1 c1] 50 (0, 0)) → W.cell? ⟨w.heap.size + 3, 0, none⟩ = some (.map (some (w.heap.size + 1))) ∧ W.cell? ⟨wr.heap.size, 0, none⟩ = some (.int .i64 xb) := fun W hp hs => ⟨cell_of_one hp.b_, by rw [cell_of_row _ _ _ _ _ _ hs]; rfl⟩
      go_cut [] (fun wx => w3 = wx)
      case first =>
        go_region_held3 (fun w' => w'.cell? ⟨w.heap.size + 3, 0, none⟩ = some (.map (some (w.heap.size + 1))) ∧ w'.cell? ⟨wr.heap.size, 0, none⟩ = some (.int .i64 xb)) (first | exact key _ hPd hs1 | exact key _ hPa hsa | exact key _ hP2 hs2 | exact key _ hP3 hs3) ((refine step_app_run (by rfl) _ _ (by rfl) (by rfl) (by rfl) hrA ?_))
        all_goals
          go_wp2_with fail
          go_meet
          rfl
      case rest =>
        subst hcut
        obtain ⟨r3, hr3⟩ : ∃ r3, updK r (false, xb) (some (.slice A3 (n2 + 1) c3)) = r3 := ⟨_, rfl⟩
        rw [hr3] at hF3
        obtain ⟨nb3, hnb3⟩ : ∃ nb3 : Bool → Nat, (fun t => if t = (false, xb).1 then nb t + 1 else nb t) = nb3 := ⟨_, rfl⟩
        rw [hnb3] at hF3
        have hb30 : nb3 false ≤ k + 1 := by rw [← hnb3]; simp; omega
        have hb31 : nb3 true ≤ k * 1000 := by rw [← hnb3]; simp; omega
        clear hr3 hnb3 key hsa hs2 hPa hP2 hrM' hrA hrM hlk0 hlk1 hX3 hX2 hF1 hP1 hPd hs1 hc5 hle1 e2 hnb0 hnb1
        have q1 : w3.cell? ⟨wr.heap.size, 0, none⟩ = some (.int .i64 xb) := by rw [cell_of_row _ _ _ _ _ _ hs3]; rfl
        have q2 : w3.cell? ⟨wr.heap.size, 1, none⟩ = some (.int .i64 xp) := by rw [cell_of_row _ _ _ _ _ _ hs3]; rfl
        have q3 : w3.cell? ⟨wr.heap.size, 2, none⟩ = some (.slice A1 n1 c1) := by rw [cell_of_row _ _ _ _ _ _ hs3]; rfl
        have hN3 := hN.e hP3.e
        go_wp2_with fail
        refine (HSET.out _ hN3).mono ?_
        rintro e w4 ⟨bo, mo, rfl, hbo, hmo, hSo, hE4⟩
        obtain ⟨own, hown⟩ : ∃ own : Int → Bool, (fun t => xl.contains t) = own := ⟨_, rfl⟩
        have HOWN := Lib.hid (show ∀ t, own t = hasK l k (true, t) from fun t => by unfold hasK; rw [← hown, hgx]; rfl)
        rw [hown] at hF3
        replace hSo : SetB w4 bo mo own := by rw [← hown]; exact hSo
        have hF4 := hF3.e hE4
        have hP4 := hP3.eE hE4
        have hsz3 := hP3.sz
        clear hown HSET hF3 hP3 hE4 q1 q2 q3 hs3
        go_wp2_with (first | (at_range; refine wpList_rangeB _ rfl _ rfl bo mo _ rfl hSo ?_; intro w5 cnt5 hR5 hG5 hz5 hc5) | fail)
        go_frame
        obtain ⟨rr, hrr⟩ : ∃ rr, w4.heap.size = rr := ⟨_, rfl⟩
        rw [hrr] at hR5 ⊢
        have hrsz : w.heap.size + 5 ≤ rr := by have := hP4.sz; omega
        have hE45 : E w4 w5 := (E.refl w4).grown hG5 (fun j hj => by cases hj)
        have hF5 := hF4.e hE45
        have hP5 := hP4.eE hE45
        have hbo5 : w.heap.size + 5 ≤ bo := by omega
        clear hSo hG5 hz5 hE45 hF4 hP4 hrr hN3 hbo
        go_loopw [7] (fun _ wr => ∃ (left : Int → Bool) (cnt : Nat) (nb : Bool → Nat) (r : Key → Option Value), RngB wr bo rr mo own left cnt ∧ Fam wr w.heap.size onA (mbP w) nb r (Fin l k left) ∧ PB w (some ⟨b, o, none⟩) n c wr ∧ nb false ≤ k + 1 ∧ nb true + cnt ≤ k * 1000 + mo) (fun _ wr => wr.rangeLeft bo rr)
        case atStart => exact ⟨_, cnt5, _, _, hR5, hF5, hP5, hb30, by omega⟩
        case round =>
          obtain ⟨left, cnt, nb, r, hrg, hF, hP, hb0, hb1⟩ := hrel
          clear hR5 hF5 hP5 hb30 hb31
          obtain ⟨⟨esb, ckb, hob⟩, s1, s2, s3, hor⟩ := hrg.blk
          go_wp2_with (first | (at_next; refine wpList_nextB _ rfl _ rfl bo rr mo _ _ _ rfl hrg ?_ ?_) | fail)
          · intro hl0
            have HF := Lib.hid (show Fam wr w.heap.size onA (mbP w) nb r (rowK l (k + 1)) by rw [← Fin_end l k hl0]; exact hF)
            clear hF hl0
            go_wp2_with fail
            exact ⟨⟨k + 1, nb, r, by omega, by go_num, HF.out, hb0, by omega, hP⟩, by simp [intOf]; omega⟩
          · intro t cv w6 cnt6 hwt hlt6 hft hrg6 hcl hg6 hz6 hen
            have hX6 : Ex (fun j => j = rr) wr w6 := ⟨hg6.os, hg6.tape, hg6.output, hg6.size, fun j hj hx => hg6.block j hj (fun e => hx (by injection e))⟩
            have hF6 := hF.ex hX6 (fun i x hI => by
              subst x
              obtain ⟨cs, fr, e⟩ := hI
              rw [hor] at e; cases e) (fun t _ x => by unfold mbP at x; cases t <;> simp at x <;> omega)
            have hP6 := hP.up hX6 (fun i x => by subst x; omega)
            have hkt : hasK l k (true, t) = true := by rw [← HOWN.out]; exact hft
            obtain ⟨A2, n2, c2, e2, hO2⟩ := hF6.rows (true, t)
            have hn2 : n2 ≤ k := by
              have := hO2.1
              rw [ints_len, Fin_at l k hlt6] at this
              rw [← this]; exact rowK_len l k _
            clear hF hP hO2 hz6
            go_upto_region 9 with fail
            have hPd := hP6.eE ((E.refl w6).drew)
            have hle1 := hPd.e.le
            have hlk0 : (Instr.lookup 77 (.map (some (w.heap.size + 2))) (.int .i64 t) false).run Try.prog w6.drew = .ok (.slice A2 n2 c2) w6.drew := hF6.drew.look (true, t) rfl hwt e2
            have hlk1 : (Instr.lookup 77 (.map (some (w.heap.size + 2))) (.int .i64 t) false).run Try.prog ((w6.alloc (.cells #[.int .i64 (k : Int)] 3)).drew) = .ok (.slice A2 n2 c2) ((w6.alloc (.cells #[.int .i64 (k : Int)] 3)).drew) := (hF6.drew.e ((E.refl _).alloc (.cells #[.int .i64 (k : Int)] 3))).look (true, t) rfl hwt e2
            obtain ⟨A3, c3, w7, w8, hrA, hrM, hF8, hX8, hX7⟩ := hF6.drew.add (true, t) rfl k e2 hwt (by omega) (by omega) (by simp only; unfold maxLen; omega) hle1 22
            rw [Fin_step l k hlt6 hkt] at hF8
            have hrM' : (Instr.mapUpdate 77 (.map (some (w.heap.size + 2))) (.int .i64 t) (.slice A3 (n2 + 1) c3)).run Try.prog w7 = .ok () w8 := hrM
            have hP8 : PB w (some ⟨b, o, none⟩) n c w8 := hPd.add true hX8
            have hP7 : PB w (some ⟨b, o, none⟩) n c w7 := hPd.add true (hX7.mono (fun _ _ x => .inr x))
            have hPa : PB w (some ⟨b, o, none⟩) n c ((w6.alloc (.cells #[.int .i64 (k : Int)] 3)).drew) := hP6.eE (((E.refl w6).alloc _).drew)
            obtain ⟨⟨esb6, ckb6, hob6⟩, s16, s26, s36, hor6⟩ := hrg6.blk
            have hrg8 := hrg6.blocks (w' := w8) (hX8.block _ (lt_blk hob6) (fun x => by
                rcases x with x | ⟨_, cs, fr, e⟩
                · simp [mbP] at x; omega
                · rw [show w6.drew.heap = w6.heap from rfl, hob6] at e; cases e)) (hX8.block _ (lt_blk hor6) (fun x => by
                rcases x with x | ⟨_, cs, fr, e⟩
                · simp [mbP] at x; omega
                · rw [show w6.drew.heap = w6.heap from rfl, hor6] at e; cases e))
            have key : ∀ W, PB w (some ⟨b, o, none⟩) n c W → W.cell? ⟨w.heap.size + 4, 0, none⟩ = some (.map (some (w.heap.size + 2))) := fun W hp => cell_of_one hp.t_
            have HM := Lib.hid (show w8.rangeLeft bo rr < wr.rangeLeft bo rr by rw [hrg8.left_eq, hrg.left_eq]; exact hcl)
            go_region_held3 (fun w' => w'.cell? ⟨w.heap.size + 4, 0, none⟩ = some (.map (some (w.heap.size + 2)))) (first | exact key _ hPd | exact key _ hPa | exact key _ hP7 | exact key _ hP8) ((refine step_app_run (by rfl) _ _ (by rfl) (by rfl) (by rfl) hrA ?_))
            all_goals
              clear key hlk0 hlk1 hrA hrM hrM' hX8 hX7 hF6 hP6 hPd hPa hP7 hrg hrg6 hor hor6 hob hob6
              go_wp2_with fail
              exact ⟨⟨_, cnt6, _, _, hrg8, hF8, hP8, by simp; omega, by simp; omega⟩, HM.out⟩
    · have hkn : k = n := by omega
      subst hkn
      obtain ⟨w5, hw5⟩ : ∃ w5, w5 = wr := ⟨_, rfl⟩
      subst hw5
      go_upto_region 13 with fail
      have hEa : E w5 (w5.alloc (.cells #[.slice none 0 0] 22)) := (E.refl _).alloc _
      have hBg := heap_alloc_new w5 (.cells #[.slice none 0 0] 22)
      have hPa := hP.eE hEa
      have hFa := hF.e hEa
      have hza : (w5.alloc (.cells #[.slice none 0 0] 22)).heap.size = w5.heap.size + 1 := by simp
      have hP5 := hP.sz
      clear hEa hF hP
      generalize w5.alloc (.cells #[.slice none 0 0] 22) = wa at *
      have hlca := cell_of_one hPa.l_
      go_upto_region 16 with (first | (refine wpList_mkB _ rfl _ _ rfl k rfl rfl hn ?_; intro w6 hm6 hE6 hz6) | fail)
      have s6 : w6.heap.size = w5.heap.size + 2 := by omega
      obtain ⟨W0, hW0⟩ : ∃ W0, W0 = (w6.alloc (.cells #[.slice (some ⟨w5.heap.size + 1, 0, none⟩) k k] 84)).alloc (.cells #[.func (.func 57) #[] #[ptr (w5.heap.size + 2), ptr (w5.heap.size), ptr (w.heap.size + 3), ptr w.heap.size, ptr (w.heap.size + 4), ptr (w5.heap.size + 3)]] 85) := ⟨_, rfl⟩
      have hE60 : E w6 W0 := by rw [hW0]; exact ((E.refl _).alloc _).alloc _
      have hs0 : W0.heap.size = w5.heap.size + 4 := by rw [hW0]; simp [s6]
      have hB2 : W0.heap[w5.heap.size + 2]? = some (.cells #[.slice (some ⟨w5.heap.size + 1, 0, none⟩) k k] 84 (0, 0)) := by
        rw [hW0, Below.heap_alloc _ _ _ (by simp [s6])]; exact heap_new s6
      have hB3 : W0.heap[w5.heap.size + 3]? = some (.cells #[.func (.func 57) #[] #[ptr (w5.heap.size + 2), ptr (w5.heap.size), ptr (w.heap.size + 3), ptr w.heap.size, ptr (w.heap.size + 4), ptr (w5.heap.size + 3)]] 85 (0, 0)) := by
        rw [hW0]; exact heap_new (by simp [s6])
      have hP0 := (hPa.eE hE6).eE hE60
      have hF0 := (hFa.e hE6).e hE60
      have hBg0 : W0.heap[w5.heap.size]? = some (.cells #[.slice none 0 0] 22 (0, 0)) := ((hE6.trans hE60).block (lt_blk hBg)).trans hBg
      have hgs0 : W0.heap[w5.heap.size + 1]? = some (.cells (boolsL k []).toArray 4 (0, 0)) := by
        rw [hza] at hm6
        exact (hE60.block (lt_blk hm6)).trans hm6
      unfold ptr at hW0
      rw [show (w6.alloc (.cells #[.slice (some ⟨w5.heap.size + 1, 0, none⟩) k k] 84)).alloc (.cells #[.func (.func 57) #[] #[.pointer (some ⟨w5.heap.size + 1 + 1, 0, none⟩), .pointer (some ⟨w5.heap.size, 0, none⟩), .pointer (some ⟨w.heap.size + 1 + 1 + 1, 0, none⟩), .pointer (some ⟨w.heap.size, 0, none⟩), .pointer (some ⟨w.heap.size + 1 + 1 + 1 + 1, 0, none⟩), .pointer (some ⟨w5.heap.size + 1 + 1 + 1, 0, none⟩)]] 85) = W0 from hW0.symm]
      clear hW0 hE60 hm6 hE6 hz6 s6 hPa hFa hBg hza
      have hXi : ∀ i, XJ w5.heap.size (w5.heap.size + 1) (mbP w) i → w.heap.size ≤ i ∧ i < W0.heap.size ∧ ¬ IntB W0 i := by
        rintro i (x | x | x | x)
        · subst x; exact ⟨by omega, by omega, not_intB hBg0 (by decide)⟩
        · subst x; exact ⟨by omega, by omega, not_intB hgs0 (by decide)⟩
        · subst x; exact ⟨by simp [mbP], by simp [mbP]; omega, (hF0.maps false rfl).notInt⟩
        · subst x; exact ⟨by simp [mbP], by simp [mbP]; omega, (hF0.maps true rfl).notInt⟩
      have jx : JX w W0 W0.heap.size (w5.heap.size + 2) w5.heap.size (w.heap.size + 3) w.heap.size (w.heap.size + 4) (w5.heap.size + 3) (w5.heap.size + 1) (mbP w) nb r A k c l := by
        refine ⟨rfl, hP0.e, h, hXi, fun i hi x => ?_, by simp [mbP], hF0.rows, hB2, hP0.b_, hP0.t_, hP0.l_, hB3⟩
        rcases x with x | x | x | x
        · rcases hi with e | e | e | e | e <;> omega
        · rcases hi with e | e | e | e | e <;> omega
        · simp [mbP] at x
          rcases hi with e | e | e | e | e <;> omega
        · simp [mbP] at x
          rcases hi with e | e | e | e | e <;> omega
      have hJ0 : JT W0 W0.heap.size w5.heap.size (w5.heap.size + 1) (mbP w) nb r k W0 none 0 ⟨[], [], []⟩ := by
        refine ⟨Ex.refl _ _, hBg0, Own.nil _ _ _ _, hgs0, fun t => ?_⟩
        have := hF0.maps t rfl
        simpa using this
      have hlc := cell_of_one hP0.l_
      have hX0 : ∀ i, XJ w5.heap.size (w5.heap.size + 1) (mbP w) i → i < W0.heap.size := fun i x => (hXi i x).2.1
      have hEw0 := hP0.e.le
      have HLI := Lib.hid (fun m i s W Ag cg h1 h2 h3 h4 => join_c jx hn HLT.out m i s W Ag cg h1 h2 h3 h4)
      obtain ⟨b0, hb0⟩ : ∃ b0, W0.heap.size = b0 := ⟨_, rfl⟩
      rw [hb0] at jx hJ0 hX0 HLI hEw0
      have HB0 := Lib.hid hb0
      clear hs0 hB2 hB3 hP0 hF0 hBg0 hgs0 hXi hb0
      go_wp2_with fail
      go_loopw [8, 54] (fun t8 ti wr => ∃ (j n8 c8 cg : Nat) (A8 Ag : Option Addr) (q : List (List Int × Sl)) (G : List Nat), j ≤ k ∧ ti = .int .i64 j ∧ t8 = .slice A8 n8 c8 ∧ JT W0 b0 w5.heap.size (w5.heap.size + 1) (mbP w) nb r k wr Ag cg ⟨(partsK l j).S, G, (partsK l j).D⟩ ∧ GRow wr b0 A8 n8 c8 q ∧
          Hid (q.map Prod.fst = (partsK l j).R.map ints) ∧ n8 ≤ j ∧ Hid (∀ p ∈ q, 0 < p.2.2.1 → ∀ b, ob p.2.1 = some b → b0 ≤ b)) (fun _ ti _ => k - (intOf ti).toNat)
      case atStart => exact ⟨0, 0, 0, 0, none, none, [], [], Nat.zero_le _, rfl, rfl, hJ0, GRow.nil _ _, rfl, Nat.le_refl _, fun p hp => by cases hp⟩
      case round =>
        obtain ⟨j, n8, c8, cg, A8, Ag, q, G, hj, rfl, rfl, hT, hG, hq, hn8, hqb⟩ := hrel
        clear hJ0
        have hPI := parts_inv l j (by omega)
        have HS := Lib.hid (partsK_succ l j)
        have HZ := Lib.hid (show j = l.length → partsF l = (partsK l j).R from fun e => by unfold partsF; rw [e])
        generalize partsK l j = st at *
        obtain ⟨c1, c2, c3, c4, c5, c6, c7⟩ := jx.cells hT
        by_cases hjl : (j : Int) < (k : Int)
        · obtain ⟨d1, d2⟩ := hT.seen (i := j) (by omega)
          by_cases hsn : st.S.contains j = true
          · simp only at d1
            rw [hsn] at d1
            have HSt := Lib.hid (show partsK l (j + 1) = st by rw [HS.out, partStep, if_pos hsn])
            clear hPI
            go_wp2_with fail
            go_roundw
            case rel => exact ⟨j + 1, n8, c8, cg, A8, Ag, q, G, by omega, by go_num, rfl, by rw [HSt.out]; exact hT, hG, show _ = _ by rw [HSt.out]; exact hq.out, by omega, hqb.out⟩
            case measure => simp [intOf]; omega
          · have hsn' : st.S.contains j = false := by simpa using hsn
            simp only at d1
            rw [hsn'] at d1
            have hJI : JI l ⟨st.S, [], st.D⟩ := ⟨hPI.keys, fun x hx => ((hPI.mem x).1 hx).1, fun x hx => (by cases hx), List.nodup_nil⟩
            obtain ⟨hT1, hX1⟩ := hT.reset
            have HC := Lib.hid (HLI.out l.length j ⟨st.S, [], st.D⟩ _ none 0 (by omega) (by rw [hl]; exact un_le _ _) hJI hT1)
            obtain ⟨hPP, _⟩ := joinF_post l l.length j ⟨st.S, [], st.D⟩ (by omega) (un_le _ _) hJI
            have HSt := Lib.hid (show partsK l (j + 1) = ⟨(joinF l l.length j ⟨st.S, [], st.D⟩).S, (joinF l l.length j ⟨st.S, [], st.D⟩).D, st.R ++ [sortG l.length (joinF l l.length j ⟨st.S, [], st.D⟩).G]⟩ by rw [HS.out, partStep, if_neg hsn])
            generalize joinF l l.length j ⟨st.S, [], st.D⟩ = res at *
            have hG1 := hG.ex hX1 (fun b hb x => by have := (hG.ltN b hb).1; have := hX0 b x; omega) (fun p hp h0 b hb x => by have := hqb.out p hp h0 b hb; have := hX0 b x; omega)
            obtain ⟨e1, e2, e3, e4, e5, e6, e7⟩ := jx.cells hT1
            have hcall := Try.call57
            unfold ptr at e5 HC
            clear hPI hT hG hX1
            go_upto_region 21 with fail
            clear c1 c2 c3 c4 c5 c6 c7 d1 d2
            generalize wr.setCell ⟨w5.heap.size, 0, none⟩ (.slice none 0 0) = w7 at *
            go_wp2_with fail
            refine HC.out.mono ?_
            rintro e w8 ⟨rfl, Ag8, cg8, hT8, hn8', hX8⟩
            clear HC e1 e2 e3 e4 e5 e6 e7
            have hA8 : ∀ b, ob Ag8 = some b → w7.heap.size ≤ b := fun b hb => by
              rcases hn8' with h | h
              · rw [h] at hb; cases hb
              · exact h b hb
            have hG8 := hG1.ex hX8 (fun b hb x => by
              rcases x with x | x
              · have := (hG1.ltN b hb).1; have := hX0 b x; omega
              · cases x) (fun p hp h0 b hb x => by
              rcases x with x | x
              · have := hqb.out p hp h0 b hb; have := hX0 b x; omega
              · cases x)
            have hq8 : ∀ p ∈ q, 0 < p.2.2.1 → ∀ b, ob p.2.1 = some b → b < w7.heap.size := fun p hp h0 b hb => by
              obtain ⟨b', o', e', hlt, _⟩ := (hG1.2.2 p hp).1.at_ h0
              rw [e'] at hb
              have : b' = b := by simpa [ob] using hb
              omega
            have hnd := hPP.inv.nd
            have hltG : ∀ x ∈ res.G, x < k := fun x hx => by rw [← hl]; exact hPP.inv.lt x (hPP.inv.gs x hx)
            have HSO := Lib.hid (sortI_c Ag8 res.G.length cg8 b0 (ints res.G) w8 hT8.go (by have := nodup_len hnd hltG; omega))
            obtain ⟨e1, e2, e3, e4, e5, e6, e7⟩ := jx.cells hT8
            clear hPP hn8' hX8 hT1 hJI
            go_wp2_with fail
            refine HSO.out.mono ?_
            rintro e w9 ⟨rfl, hO9, hGr9⟩
            obtain ⟨hT9, hX9⟩ := hT8.sorted hX0 HB0.out hnd hltG hO9 hGr9
            have hG9 := hG8.ex hX9 (fun b hb x => by have := (hG1.ltN b hb).2; have := hA8 b x; omega) (fun p hp h0 b hb x => by have := hq8 p hp h0 b hb; have := hA8 b x; omega)
            have hne9 : 0 < (sortG k res.G).length → ob Ag8 ≠ ob A8 := fun h0 e => by
              cases ha : ob A8 with
              | none =>
                obtain ⟨b', o', e', _⟩ := hT9.go.reads.at_ h0
                rw [ha, e'] at e; cases e
              | some b => rw [ha] at e; have := hA8 b e; have := (hG1.ltN b ha).2; omega
            obtain ⟨f1, f2, f3, f4, f5, f6, f7⟩ := jx.cells hT9
            simp only at f6
            have hb9 : b0 ≤ w9.heap.size := by have := hT9.ex.size; have := HB0.out; omega
            clear HSO e1 e2 e3 e4 e5 e6 e7 hG8 hG1 hO9 hGr9 hX9 hT8
            go_wp2_with (first | (refine wpList_appG _ rfl _ _ rfl b0 _ _ _ _ rfl hG9 (ints (sortG k res.G), Ag8, (sortG k res.G).length, cg8) rfl ⟨hT9.go.reads, hne9⟩ (by omega) hb9 ?_; intro g' c10 w10 hG10 hGr10 hB10) | fail)
            have hX10 : Ex (fun j => ob A8 = some j) w9 w10 := ⟨hGr10.os, hGr10.tape, hGr10.output, hGr10.size, fun j hj hx => hGr10.block j hj (fun e => hx e.symm)⟩
            have hT10 := hT9.step hX10 (fun i x e => by have := (hG9.ltN i e).1; have := hX0 i x; omega) (fun i e => by rw [HB0.out]; exact (hG9.ltN i e).1) (fun b hb e => by
              have := (hT9.go.intB hb).2
              exact hG9.notInt e this)
            go_roundw
            case rel =>
              refine ⟨j + 1, n8 + 1, c10, cg8, _, Ag8, _, sortG k res.G, by omega, by go_num, rfl, by rw [HSt.out]; exact hT10, hG10, show _ = _ by rw [HSt.out, List.map_append, hq.out, List.map_append, hl]; rfl, by omega, fun p hp h0 b hb => ?_⟩
              rcases List.mem_append.1 hp with hp | hp
              · exact hqb.out p hp h0 b hb
              · rw [List.mem_singleton] at hp
                subst hp
                exact (hT9.go.ltN b hb).1
            case measure => simp [intOf]; omega
        · have hjk : j = k := by omega
          subst hjk
          have HF := Lib.hid (show q.map Prod.fst = (partsF l).map ints by rw [HZ.out (by omega)]; exact hq.out)
          go_wp2_with fail
          go_ret
          exact ⟨A8, n8, c8, q, rfl, hG.rebase hEw0, HF.out, jx.eW hT⟩
end Go.Proofs.Ytpbkfpkgbfifaaa
