/- The package's Reduce. -/
import Derived.Test.YtpbkfpkgbfifaaaKUs
import Derived.Test.YtpbkfpkgbfifaaaKQ
import Derived.Test.YtpbkfpkgbfifaaaKMr
namespace Go.Proofs.Ytpbkfpkgbfifaaa
open Go.RowKit

def onB (t : Bool) : Bool := !t
def FB (l : List Bd) (k : Nat) (key : Key) : List Nat := if key.1 then [] else ofB l k key.2
theorem FB_add (l : List Bd) (k : Nat) {y : Int} (hy : (l.getD k bd0).1 = y) : updK (FB l k) (false, y) (FB l k (false, y) ++ [k]) = FB l (k + 1) := by
  funext key
  obtain ⟨t, z⟩ := key
  unfold updK FB
  cases t
  · simp only [Bool.false_eq_true, if_false, Prod.mk.injEq, true_and]
    rw [ofB_succ, hy]
    by_cases e : z = y
    · rw [if_pos e, if_pos e.symm, e]
    · rw [if_neg e, if_neg (fun e' => e e'.symm)]
  · simp
theorem FB0 (l : List Bd) (k : Key) : FB l 0 k = [] := by unfold FB ofB; split <;> rfl
theorem fam_made (w : World) (l : List Bd) : Fam (w.alloc (.map #[] 0)) w.heap.size onB (fun _ => w.heap.size) (fun _ => 0) (fun _ => none) (FB l 0) :=
  ⟨fun t _ => MapV.made w, fun _ h => (by cases h), fun k => ⟨none, 0, 0, rfl, FB0 l k ▸ Own.nil _ _ _ _⟩, fun k k' A n c A' n' c' _ h1 h2 => (by
    have e : A = none := by injection h1 with h1; exact h1.symm
    subst e
    exact apart_none _)⟩
theorem Fam.rebase {w : World} {base base' : Nat} {on : Bool → Bool} {mb nb : Bool → Nat} {r : Key → Option Value} {F : Key → List Nat} (h : Fam w base on mb nb r F) (hb : base' ≤ base) : Fam w base' on mb nb r F :=
  ⟨h.maps, h.mne, fun k => by obtain ⟨A, n, c, e, hO⟩ := h.rows k; exact ⟨A, n, c, e, hO.rebase hb⟩, h.inj⟩
theorem ofB_len (l : List Bd) (k : Nat) (y : Int) : (ofB l k y).length ≤ k := by
  unfold ofB
  have := List.length_filter_le (fun i => (l.getD i bd0).1 == y) (List.range k)
  rw [List.length_range] at this
  exact this
theorem E.exUp {X : Nat → Prop} {a b c : World} (h : E a b) (k : Ex X b c) (hX : ∀ i, X i → a.heap.size ≤ i) : E a c :=
  ⟨k.os.trans h.os, k.tape.trans h.tape, k.output.trans h.output, Nat.le_trans h.size k.size, fun i hi => (k.block i (Nat.lt_of_lt_of_le hi h.size) (fun x => by have := hX i x; omega)).trans (h.block hi)⟩
theorem bne_neq (i j : Nat) : ((i : Int) != (j : Int)) = (i != j) := by
  rw [Bool.eq_iff_iff]; simp; omega
set_option maxHeartbeats 1000000 in
theorem reduce1_c (A : Option Addr) (n c : Nat) (l : List Bd) (i j b m Bj Bl Bs : Nat) (w : World) (h : BidsAt w A n c l) (hi : i < n) (hj : j < n) (hS : SetB w b m (fun t => (l.getD j bd0).2.2.contains t))
    (h1 : w.cell? ⟨Bj, 0, none⟩ = some (.int .i64 j)) (h2 : w.cell? ⟨Bl, 0, none⟩ = some (.slice A n c)) (h3 : w.cell? ⟨Bs, 0, none⟩ = some (.map (some b))) :
    Calls Try.prog 54 #[.int .i64 i, .pointer (some ⟨Bj, 0, none⟩), .pointer (some ⟨Bl, 0, none⟩), .pointer (some ⟨Bs, 0, none⟩)] w (RetK w (i != j && useB l i j)) := by
  have HC := Lib.hid (useless_c A n c l i j b m w h hi hj hS)
  obtain ⟨u, hu⟩ : ∃ u, useB l i j = u := ⟨_, rfl⟩
  rw [hu] at HC ⊢
  clear hS h hu
  by_cases e : i = j
  · subst e
    go_enter Try.func54, Try.ntmps54
    go_wp2_with fail
    go_ret
    exact ⟨ret_bool (by simp), E.refl _⟩
  · have eI : ¬ (i : Int) = (j : Int) := by omega
    go_enter Try.func54, Try.ntmps54
    go_wp2_with fail
    refine HC.out.mono ?_
    rintro e w1 ⟨rfl, hE1⟩
    go_wp2_with fail
    go_ret
    exact ⟨ret_bool (by rw [bne_neq]), hE1⟩
theorem any_ints (l : List Nat) (p : Nat → Bool) : ((ints l).any fun x => p x.toNat) = l.any p := by
  unfold ints; rw [List.any_map]; congr 1
theorem keep_step (l : List Bd) (k : Nat) : (List.range (k + 1)).filter (keepB l) = if keepB l k = true then (List.range k).filter (keepB l) ++ [k] else (List.range k).filter (keepB l) := by
  rw [List.range_succ, List.filter_append]
  by_cases e : keepB l k = true
  · rw [if_pos e, List.filter_cons_of_pos e]; rfl
  · rw [if_neg e, List.filter_cons_of_neg e]; simp
set_option maxHeartbeats 4000000 in
set_option maxRecDepth 100000 in
theorem reduce_c (A : Option Addr) (n c : Nat) (l : List Bd) (w : World) (h : BidsAt w A n c l) (hn : n ≤ 1000) :
    Calls Try.prog 21 #[.slice A n c] w (RetOwn .i64 3 w (ints (redS l))) := by
  have hl := h.len
  have hmm := @run_makeMap Try.prog
  go_enter Try.func21, Try.ntmps21
  go_wp2_with fail
  have hF0 := (fam_made (w.alloc (.cells #[.slice A n c] 31)) l).rebase (base' := w.heap.size) (by simp)
  rw [World.size_alloc] at hF0
  have hE0 : E w ((w.alloc (.cells #[.slice A n c] 31)).alloc (.map #[] 0)) := ((E.refl w).alloc _).alloc _
  have hB0 : ((w.alloc (.cells #[.slice A n c] 31)).alloc (.map #[] 0)).heap[w.heap.size]? = some (.cells #[.slice A n c] 31 (0, 0)) := by
    rw [Below.heap_alloc _ _ _ (by simp)]; exact heap_alloc_new _ _
  generalize (w.alloc (.cells #[.slice A n c] 31)).alloc (.map #[] 0) = w0 at *
  go_loopw [13] (fun ti wr => ∃ (k : Nat) (nb : Bool → Nat) (r : Key → Option Value), k ≤ n ∧ ti = .int .i64 k ∧ Fam wr w.heap.size onB (fun _ => w.heap.size + 1) nb r (FB l k) ∧ nb false ≤ k ∧ E w wr ∧ wr.heap[w.heap.size]? = some (.cells #[.slice A n c] 31 (0, 0))) (fun ti _ => n - (intOf ti).toNat)
  case atStart => exact ⟨0, _, _, Nat.zero_le _, rfl, hF0, Nat.le_refl _, hE0, hB0⟩
  case round =>
    obtain ⟨k, nb, r, hk, rfl, hF, hnb, hE, hB⟩ := hrel
    clear hF0 hE0 hB0
    have hBc := cell_of_one hB
    by_cases hkl : (k : Int) < (n : Int)
    · obtain ⟨b, o, x, A1, n1, c1, rfl, hb, hx, hv1, hv2, hN, hcs⟩ := h.item (i := k) (by omega)
      obtain ⟨p1, p2, p3⟩ := hcs wr hE
      have hgx : l.getD k bd0 = x := by rw [List.getD_eq_getElem?_getD, hx]; rfl
      clear hx hcs
      obtain ⟨xb, xp, xl⟩ := x
      simp only at *
      obtain ⟨A2, n2, c2, e2, hO2⟩ := hF.rows (false, xb)
      have hn2 : n2 ≤ k := by have := hO2.1; rw [ints_len] at this; rw [← this]; exact ofB_len l k xb
      have hEa : E wr (wr.alloc (.cells #[.int .i64 xb, .int .i64 xp, .slice A1 n1 c1] 50)) := (E.refl wr).alloc _
      have hsz : w.heap.size ≤ wr.heap.size := hE.le
      go_upto_region 5 with fail
      have hc5 := (cells3_new wr (.int .i64 xb) (.int .i64 xp) (.slice A1 n1 c1) 50).1
      have hF1 := hF.e hEa
      have hE1 := hE.trans hEa
      have hB1 := (hEa.block (lt_blk hB)).trans hB
      have hs1 : (wr.alloc (.cells #[.int .i64 xb, .int .i64 xp, .slice A1 n1 c1] 50)).heap[wr.heap.size]? = some (.cells #[.int .i64 xb, .int .i64 xp, .slice A1 n1 c1] 50 (0, 0)) := heap_alloc_new _ _
      have hle1 := hE1.le
      clear hF hE hB hEa p1 p2 p3 hBc hN hO2
      generalize wr.alloc (.cells #[.int .i64 xb, .int .i64 xp, .slice A1 n1 c1] 50) = w1 at *
      have hlk0 := hF1.drew.look (false, xb) rfl hv1 e2
      have hlk1 : (Instr.lookup 77 (.map (some (w.heap.size + 1))) (.int .i64 xb) false).run Try.prog ((w1.alloc (.cells #[.int .i64 (k : Int)] 3)).drew) = .ok (.slice A2 n2 c2) ((w1.alloc (.cells #[.int .i64 (k : Int)] 3)).drew) := (hF1.drew.e ((E.refl _).alloc (.cells #[.int .i64 (k : Int)] 3))).look (false, xb) rfl hv1 e2
      obtain ⟨A3, c3, w2, w3, hrA, hrM, hF3, hX3, hX2⟩ := hF1.drew.add (false, xb) rfl k e2 hv1 (by omega) (by omega) (by simp only; unfold maxLen; omega) hle1 22
      rw [FB_add l k (by rw [hgx])] at hF3
      have hc5' : w2.cell? ⟨wr.heap.size, 0, none⟩ = some (.int .i64 xb) := (hX2.cell (p := ⟨wr.heap.size, 0, none⟩) (lt_blk hs1) (fun x => by obtain ⟨_, cs, fr, e⟩ := x; rw [show w1.drew.heap = w1.heap from rfl, hs1] at e; injection e with e; injection e with _ e; cases e)).trans hc5
      have hc5a : ((w1.alloc (.cells #[.int .i64 (k : Int)] 3)).drew).cell? ⟨wr.heap.size, 0, none⟩ = some (.int .i64 xb) := (((E.refl w1).alloc _).cell (p := ⟨wr.heap.size, 0, none⟩) (lt_blk hs1)).trans hc5
      have hc5b : w3.cell? ⟨wr.heap.size, 0, none⟩ = some (.int .i64 xb) := (hX3.cell (p := ⟨wr.heap.size, 0, none⟩) (lt_blk hs1) (fun x => by
        rcases x with x | ⟨_, cs, fr, e⟩
        · obtain ⟨es, ck, e⟩ := (hF1.maps false rfl).obj
          simp only at x e; rw [← x, hs1] at e; cases e
        · rw [show w1.drew.heap = w1.heap from rfl, hs1] at e; injection e with e; injection e with _ e; cases e)).trans hc5
      go_region_held3 (fun w' => w'.cell? ⟨wr.heap.size, 0, none⟩ = some (.int .i64 xb)) (first | exact hc5 | exact hc5a | exact hc5' | exact hc5b) ((refine step_app_run (by rfl) _ _ (by rfl) (by rfl) (by rfl) hrA ?_))
      all_goals
        have hE3 : E w w3 := hE1.drew.exUp hX3 (fun i x => by rcases x with x | x; omega; exact x.1)
        have hB3 : w3.heap[w.heap.size]? = some (.cells #[.slice (some ⟨b, o, none⟩) n c] 31 (0, 0)) := (hX3.block _ (lt_blk hB1) (fun x => by
          rcases x with x | ⟨_, cs, fr, e⟩
          · omega
          · rw [show w1.drew.heap = w1.heap from rfl, hB1] at e; injection e with e; injection e with _ e; cases e)).trans hB1
        clear hc5 hc5a hc5b hc5' hlk0 hlk1 hrA hrM hX3 hX2 hF1
        go_wp2_with fail
        go_roundw
        case rel => exact ⟨k + 1, _, _, by omega, by go_num, hF3, by simp; omega, hE3, hB3⟩
        case measure => simp [intOf]; omega
    · have hkn : k = n := by omega
      subst hkn
      go_wp2_with fail
      obtain ⟨w5, hw5⟩ : ∃ w5, w5 = wr := ⟨_, rfl⟩
      subst hw5
      go_loopw [6, 31] (fun tl ti wr => ∃ (j m c' : Nat) (A' : Option Addr), j ≤ k ∧ ti = .int .i64 j ∧ tl = .slice A' m c' ∧ Own .i64 3 wr w5.heap.size A' m c' (ints ((List.range j).filter (keepB l))) ∧ E w5 wr ∧ m ≤ j) (fun _ ti _ => k - (intOf ti).toNat)
      case atStart => exact ⟨0, 0, 0, none, Nat.zero_le _, rfl, rfl, Own.nil _ _ _ _, E.refl _, Nat.le_refl _⟩
      case round =>
        obtain ⟨j, m, c', A', hj, rfl, rfl, hO, hEq, hmj⟩ := hrel
        by_cases hjl : (j : Int) < (k : Int)
        · have hEw := hE.trans hEq
          obtain ⟨b, o, x, A1, n1, c1, rfl, hb, hx, hv1, hv2, hN, hcs⟩ := h.item (i := j) (by omega)
          obtain ⟨p1, p2, p3⟩ := hcs wr hEw
          have hgx : l.getD j bd0 = x := by rw [List.getD_eq_getElem?_getD, hx]; rfl
          have hset := fun W hW => set_c x A1 n1 c1 W hW
          clear hx hcs
          obtain ⟨xb, xp, xl⟩ := x
          unfold bdV at hset
          simp only at *
          have HSET := Lib.hid hset
          clear hset
          obtain ⟨A2, n2, c2, e2, hO2⟩ := hF.rows (false, xb)
          have hBr := (hEq.block (lt_blk hB)).trans hB
          obtain ⟨wB, hwB⟩ : ∃ wB, wB = (wr.alloc (.cells #[.int .i64 (j : Int)] 3)).alloc (.cells #[.int .i64 xb, .int .i64 xp, .slice A1 n1 c1] 50) := ⟨_, rfl⟩
          have hEB : E wr wB := by rw [hwB]; exact ((E.refl _).alloc _).alloc _
          have hb1 : wB.heap[wr.heap.size]? = some (.cells #[.int .i64 (j : Int)] 3 (0, 0)) := by
            rw [hwB, Below.heap_alloc _ _ _ (by simp)]; exact heap_alloc_new _ _
          have hb2 : wB.heap[wr.heap.size + 1]? = some (.cells #[.int .i64 xb, .int .i64 xp, .slice A1 n1 c1] 50 (0, 0)) := by
            have := heap_alloc_new (wr.alloc (.cells #[.int .i64 (j : Int)] 3)) (.cells #[.int .i64 xb, .int .i64 xp, .slice A1 n1 c1] 50)
            rw [World.size_alloc] at this
            rw [hwB]; exact this
          go_upto_region 11 with fail
          rw [← hwB]
          clear hwB
          have q1 : wB.cell? ⟨wr.heap.size + 1, 0, none⟩ = some (.int .i64 xb) := by rw [cell_of_row _ _ _ _ _ _ hb2]; rfl
          have q2 : wB.cell? ⟨wr.heap.size + 1, 1, none⟩ = some (.int .i64 xp) := by rw [cell_of_row _ _ _ _ _ _ hb2]; rfl
          have q3 : wB.cell? ⟨wr.heap.size + 1, 2, none⟩ = some (.slice A1 n1 c1) := by rw [cell_of_row _ _ _ _ _ _ hb2]; rfl
          have hNB := (hN.e hEw).e hEB
          clear p1 p2 p3
          go_wp2_with fail
          refine (HSET.out _ hNB).mono ?_
          rintro e w6 ⟨bs, ms, rfl, hbs, hms, hS6, hE6⟩
          clear HSET q1 q2 q3
          have hE7 : E w6 (w6.alloc (.cells #[.map (some bs)] 78)) := (E.refl _).alloc _
          have hbx7 := heap_alloc_new w6 (.cells #[.map (some bs)] 78)
          have hS7 := hS6.e hE7
          go_upto_region 12 with fail
          generalize w6.alloc (.cells #[.map (some bs)] 78) = w7 at *
          have hEB7 := hE6.trans hE7
          have h1 := (hEB7.block (lt_blk hb1)).trans hb1
          have h2 := (hEB7.block (lt_blk hb2)).trans hb2
          have hE57 := (hEq.trans hEB).trans hEB7
          have h3 := (hE57.block (lt_blk hB)).trans hB
          have hO7 := (hO.e hEB).e hEB7
          have q1 : w7.cell? ⟨wr.heap.size + 1, 0, none⟩ = some (.int .i64 xb) := by rw [cell_of_row _ _ _ _ _ _ h2]; rfl
          have qj := cell_of_one h1
          have hlk := (hF.e hE57).look (false, xb) rfl hv1 e2
          have hE07 := hE.trans hE57
          have HC := Lib.hid (containsFunc_c 54 [.pointer (some ⟨wr.heap.size, 0, none⟩), .pointer (some ⟨w.heap.size, 0, none⟩), .pointer (some ⟨w6.heap.size, 0, none⟩)] (fun i => i.toNat != j && useB l i.toNat j) A2 n2 c2 (ints (FB l k (false, xb))) w7 (hO2.e hE57).reads Try.call54 (fun i wq hi hq => by
            obtain ⟨i', hi', rfl⟩ := List.mem_map.1 hi
            have hi2 : i' < k := by
              have : i' ∈ ofB l k xb := hi'
              unfold ofB at this
              rw [List.mem_filter, List.mem_range] at this
              exact this.1
            exact reduce1_c _ k c l i' j bs ms _ _ _ wq ((h.e hE07).e hq) hi2 (by omega) (by rw [hgx]; exact hS7.e hq) (by rw [hq.cell (p := ⟨wr.heap.size, 0, none⟩) (lt_blk h1)]; exact qj) (by rw [hq.cell (p := ⟨w.heap.size, 0, none⟩) (lt_blk h3)]; exact cell_of_one h3) (by rw [hq.cell (p := ⟨w6.heap.size, 0, none⟩) (lt_blk hbx7)]; exact cell_of_one hbx7)))
          have hk1 : keepB l j = !((ints (FB l k (false, xb))).any fun i => i.toNat != j && useB l i.toNat j) := by
            rw [keep_of, hl, hgx, any_ints (FB l k (false, xb)) (fun i => i != j && useB l i j)]; rfl
          generalize ((ints (FB l k (false, xb))).any fun i => i.toNat != j && useB l i.toNat j) = res at *
          have hsz5 : w5.heap.size ≤ w7.heap.size := hE57.le
          have HST := Lib.hid (keep_step l j)
          clear hS6 hS7 hN hNB hE6 hE7 hb1 hb2 hEB hO e2 hO2
          cases res
          · have HK := Lib.hid (show (List.range (j + 1)).filter (keepB l) = (List.range j).filter (keepB l) ++ [j] by rw [HST.out, hk1]; rfl)
            clear HST hk1
            go_wp2_with fail
            refine HC.out.mono ?_
            rintro e w8 ⟨rfl, hE8⟩
            have hO8 := hO7.e hE8
            have qj8 := (hE8.cell (p := ⟨wr.heap.size, 0, none⟩) (lt_blk h1)).trans qj
            have hs8 := Nat.le_trans hsz5 hE8.le
            clear HC hO7 qj hlk q1
            go_wp2_with (first | (refine wpList_app1n intTk _ rfl _ _ rfl w5.heap.size _ _ _ _ rfl hO8 (j : Int) rfl (wf_of_i64 (by omega) (by omega)) (by omega) hs8 ?_; intro g' c9 w9 hO9 hG9 hB9 _) | fail)
            go_roundw
            case rel => exact ⟨j + 1, m + 1, c9, _, by omega, by go_num, rfl, by show Own _ _ _ _ _ _ _ (ints ((List.range (j + 1)).filter (keepB l))); rw [HK.out, ints_app]; exact hO9, (hE57.trans hE8).up hB9, by omega⟩
            case measure => simp [intOf]; omega
          · have HK := Lib.hid (show (List.range (j + 1)).filter (keepB l) = (List.range j).filter (keepB l) by rw [HST.out, hk1]; rfl)
            clear HST hk1
            go_wp2_with fail
            refine HC.out.mono ?_
            rintro e w8 ⟨rfl, hE8⟩
            have hO8 := hO7.e hE8
            clear HC hO7 qj hlk q1
            go_wp2_with fail
            go_roundw
            case rel => exact ⟨j + 1, m, c', _, by omega, by go_num, rfl, by show Own _ _ _ _ _ _ _ (ints ((List.range (j + 1)).filter (keepB l))); rw [HK.out]; exact hO8, hE57.trans hE8, by omega⟩
            case measure => simp [intOf]; omega
        · have hjk : j = k := by omega
          subst hjk
          have HR := Lib.hid (show redS l = (List.range j).filter (keepB l) by unfold redS; rw [hl])
          go_wp2_with fail
          go_ret
          exact ⟨_, _, _, rfl, by rw [HR.out]; exact hO.rebase hE.le, hE.trans hEq⟩
end Go.Proofs.Ytpbkfpkgbfifaaa
