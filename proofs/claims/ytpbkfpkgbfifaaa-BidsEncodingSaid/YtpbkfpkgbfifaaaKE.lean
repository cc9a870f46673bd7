/- The search itself: the recursive closure. -/
import Derived.RangeFuncNested
import Derived.RangeFuncBound
import Derived.RangeFuncCalls
import Derived.RangeFuncLeaves
import Derived.RangeFuncFrom
import Derived.Shelf.Abstract
import Derived.Shelf.RegionOpen
import Derived.WalkKit
import Derived.OwnWalkIn
import Derived.TacticsInMore
import Derived.LoopNIn
import Derived.LoopIn
import Derived.Outline
import Derived.Deep.DeepCutAuto
import Derived.Test.YtpbkfpkgbfifaaaKD
namespace Go.Proofs.Ytpbkfpkgbfifaaa
open Go.RowKit Go.Shelf
attribute [local go_sem] Oper.semAt_some

def restL (l : List Bd) : List Int := (List.range (l.length + 1)).map fun i => rest l (l.length - i)
def boxN (p : Value) (w : World) : Nat := match p with | .pointer (some a) => (match w.cell? a with | some v => (intOf v).toNat | none => 0) | _ => 0
def ptr (b : Nat) : Value := .pointer (some ⟨b, 0, none⟩)

/-- what does not turn during the search -/
structure TX (w W0 : World) (b0 L By Bc Bl Be Br Bt Bf Bm gr : Nat) (A : Option Addr) (n c : Nat) (l : List Bd) : Prop where
  sz : W0.heap.size = b0
  ew : E w W0
  bids : BidsAt w A n c l
  wx : w.heap.size ≤ Bc ∧ w.heap.size ≤ Bf ∧ w.heap.size ≤ Bm
  lx : Bc < b0 ∧ Bf < b0 ∧ Bm < b0
  ncf : Bc ≠ Bf
  ncm : Bc ≠ Bm
  nfm : Bf ≠ Bm
  nx : ∀ i, (i = By ∨ i = Bl ∨ i = Be ∨ i = Br ∨ i = Bt ∨ i = gr) → ¬ (i = Bc ∨ i = Bf ∨ i = Bm)
  y : W0.heap[By]? = some (.cells #[.func (.yield L) #[] #[]] 44 (0, 0))
  l_ : W0.heap[Bl]? = some (.cells #[.slice A n c] 31 (0, 0))
  e_ : W0.heap[Be]? = some (.cells #[.func (.func 78) #[] #[ptr Bm]] 82 (0, 0))
  r_ : W0.heap[Br]? = some (.cells #[.slice (some ⟨gr, 0, none⟩) (n + 1) (n + 1)] 22 (0, 0))
  rr : Own .i64 3 W0 w.heap.size (some ⟨gr, 0, none⟩) (n + 1) (n + 1) (restL l)
  t_ : W0.heap[Bt]? = some (.cells #[.func (.func 92) #[] #[ptr By, ptr Bc, ptr Bl, ptr Be, ptr Br, ptr Bt]] 119 (0, 0))
section
variable {w W0 W : World} {b0 L By Bc Bl Be Br Bt Bf Bm gr : Nat} {A : Option Addr} {n c : Nat} {l : List Bd} {Ac Af : Option Addr} {cc nf cf : Nat} {ch : List Nat} {st : List Nat × Int}
theorem TX.eW (tx : TX w W0 b0 L By Bc Bl Be Br Bt Bf Bm gr A n c l) (h : TS W0 b0 Bc Bf Bm W Ac cc ch Af nf cf st) : E w W := by
  refine (h.ex.trans (X := fun i => i = Bc ∨ i = Bf ∨ i = Bm) (Ex.refl _ W) (fun _ _ x => x) (fun _ _ x => x)) |> fun hx => ?_
  have h1 := tx.wx
  exact ⟨hx.os.trans tx.ew.os, hx.tape.trans tx.ew.tape, hx.output.trans tx.ew.output, Nat.le_trans tx.ew.le hx.size, fun i hi => (hx.block i (Nat.lt_of_lt_of_le hi tx.ew.le) (fun x => by rcases x with x | x | x <;> omega)).trans (tx.ew.block hi)⟩
theorem TX.at_ (tx : TX w W0 b0 L By Bc Bl Be Br Bt Bf Bm gr A n c l) (h : TS W0 b0 Bc Bf Bm W Ac cc ch Af nf cf st) {i : Nat} (hi : i = By ∨ i = Bl ∨ i = Be ∨ i = Br ∨ i = Bt ∨ i = gr) (hl : i < W0.heap.size) : W.heap[i]? = W0.heap[i]? := h.ex.block i hl (tx.nx i hi)
theorem TX.cells (tx : TX w W0 b0 L By Bc Bl Be Br Bt Bf Bm gr A n c l) (h : TS W0 b0 Bc Bf Bm W Ac cc ch Af nf cf st) :
    W.cell? ⟨By, 0, none⟩ = some (.func (.yield L) #[] #[]) ∧ W.cell? ⟨Bl, 0, none⟩ = some (.slice A n c) ∧ W.cell? ⟨Be, 0, none⟩ = some (.func (.func 78) #[] #[ptr Bm]) ∧
    W.cell? ⟨Br, 0, none⟩ = some (.slice (some ⟨gr, 0, none⟩) (n + 1) (n + 1)) ∧ W.cell? ⟨Bt, 0, none⟩ = some (.func (.func 92) #[] #[ptr By, ptr Bc, ptr Bl, ptr Be, ptr Br, ptr Bt]) ∧
    W.cell? ⟨Bc, 0, none⟩ = some (.slice Ac ch.length cc) ∧ W.cell? ⟨Bm, 0, none⟩ = some (.int .i64 st.2) ∧ W.frozen? ⟨Bc, 0, none⟩ = false := by
  refine ⟨cell_of_one ((tx.at_ h (by simp) (lt_blk tx.y)).trans tx.y), cell_of_one ((tx.at_ h (by simp) (lt_blk tx.l_)).trans tx.l_), cell_of_one ((tx.at_ h (by simp) (lt_blk tx.e_)).trans tx.e_), cell_of_one ((tx.at_ h (by simp) (lt_blk tx.r_)).trans tx.r_), cell_of_one ((tx.at_ h (by simp) (lt_blk tx.t_)).trans tx.t_), cell_of_one h.bc, cell_of_one h.bm, frozen_of_row _ _ _ _ _ h.bc⟩
theorem TX.rests (tx : TX w W0 b0 L By Bc Bl Be Br Bt Bf Bm gr A n c l) (h : TS W0 b0 Bc Bf Bm W Ac cc ch Af nf cf st) : Own .i64 3 W w.heap.size (some ⟨gr, 0, none⟩) (n + 1) (n + 1) (restL l) :=
  tx.rr.ex h.ex (fun b hb => by have : gr = b := by simpa [ob] using hb
                                subst this; exact tx.nx _ (by simp))
end
/-- a row that is the elder one, or lies in a block since w -/
def newer (w : World) (A A' : Option Addr) : Prop := ob A' = ob A ∨ ∀ b, ob A' = some b → w.heap.size ≤ b
theorem newer.refl (w : World) (A : Option Addr) : newer w A A := .inl rfl
theorem newer.trans {w w' : World} {A B C : Option Addr} (h : newer w A B) (hw : w.heap.size ≤ w'.heap.size) (k : newer w' B C) : newer w A C := by
  rcases k with k | k
  · rcases h with h | h
    · exact .inl (k.trans h)
    · exact .inr fun b hb => h b (k ▸ hb)
  · exact .inr fun b hb => Nat.le_trans hw (k b hb)
theorem newer.ne {w : World} {A A' : Option Addr} (h : newer w A A') {b : Nat} (hb : b < w.heap.size) (hA : ob A ≠ some b) : ob A' ≠ some b := fun e => by
  rcases h with h | h
  · exact hA (h ▸ e)
  · have := h b e; omega
def TP (W0 : World) (b0 Bc Bf Bm : Nat) (W : World) (Ac Af : Option Addr) (ch : List Nat) (st : List Nat × Int) (W' : World) : Prop :=
  (∃ Ac' cc' Af' nf' cf', TS W0 b0 Bc Bf Bm W' Ac' cc' ch Af' nf' cf' st ∧ newer W Ac Ac' ∧ newer W Af Af') ∧ W.heap.size ≤ W'.heap.size ∧ ∀ i, b0 ≤ i → i < W.heap.size → ob Ac ≠ some i → W'.heap[i]? = W.heap[i]?

theorem enough_c (Bm : Nat) (x v : Int) (w : World) (h : w.cell? ⟨Bm, 0, none⟩ = some (.int .i64 v)) :
    Calls Try.prog 78 #[.int .i64 x, .pointer (some ⟨Bm, 0, none⟩)] w fun e w' => e = .returned (.bool (decide (v < x))) ∧ w = w' := by
  go_enter Try.func78, Try.ntmps78
  go_wp2_with fail
  go_ret
  exact ⟨rfl, rfl⟩

theorem rest_mono {l : List Bd} (hp : ∀ i, 0 ≤ pr l i) {a b : Nat} (h : a ≤ b) : rest l a ≤ rest l b := by
  induction b with
  | zero => rw [Nat.le_zero.1 h]; exact Int.le_refl _
  | succ b ih =>
    by_cases e : a = b + 1
    · rw [e]; exact Int.le_refl _
    · have := ih (by omega); have := hp (l.length - (b + 1)); simp only [rest]; omega
theorem boxN_eq {w : World} {b i : Nat} {t : TypeId} (h : w.heap[b]? = some (.cells #[.int .i64 (i : Int)] t (0, 0))) : boxN (.pointer (some ⟨b, 0, none⟩)) w = i := by
  simp [boxN, cell_of_one h, intOf]
theorem conf_ints (l : List Bd) (i : Nat) (ch : List Nat) : ((ints ch).any fun x => confl (l.getD i bd0) (l.getD x.toNat bd0)) = conf l i ch := by
  simp [ints, conf, List.any_map, Function.comp_def]
theorem lp_stop {l : List Bd} {m : Nat} {v : Int} {ch : List Nat} {s : List Nat × Int} (h : ¬ s.2 < v + rest l m) : lp l m v ch s = s := by
  cases m with
  | zero => rfl
  | succ m => unfold lp; rw [if_neg h]
theorem lp_skip {l : List Bd} {m : Nat} {v : Int} {ch : List Nat} {s : List Nat × Int} (h : s.2 < v + rest l (m + 1)) (hc : conf l (l.length - (m + 1)) ch = true) : lp l (m + 1) v ch s = lp l m v ch s := by
  rw [lp, if_pos h, if_pos hc]
theorem lp_in {l : List Bd} {m : Nat} {v : Int} {ch : List Nat} {s : List Nat × Int} (h : s.2 < v + rest l (m + 1)) (hc : conf l (l.length - (m + 1)) ch = false) :
    lp l (m + 1) v ch s = lp l m v ch (lp l m (v + pr l (l.length - (m + 1))) (ch ++ [l.length - (m + 1)]) (if s.2 < v + pr l (l.length - (m + 1)) then (ch ++ [l.length - (m + 1)], v + pr l (l.length - (m + 1))) else s)) := by
  rw [lp, if_pos h, if_neg (by simp [hc])]

theorem tnext {W0 W w5 wr : World} {b0 Bc Bf Bm f n i Bi Bn : Nat} {Ac Af Ac5 Af5 : Option Addr} {cc5 nf5 cf5 : Nat} {ch : List Nat} {s5 fin : List Nat × Int} {l : List Bd} {v : Int} (hin : i < n) (hfi : f ≤ i) (hBi : wr.heap[Bi]? = some (.cells #[.int .i64 (i : Int)] 3 (0, 0)))
    (hS5 : TS W0 b0 Bc Bf Bm w5 Ac5 cc5 ch Af5 nf5 cf5 s5) (hn5 : newer W Ac Ac5 ∧ newer W Af Af5) (hz5 : W.heap.size ≤ w5.heap.size) (hfr5 : ∀ j, b0 ≤ j → j < W.heap.size → ob Ac ≠ some j → w5.heap[j]? = W.heap[j]?) (hlp5 : lp l (n - (i + 1)) v ch s5 = fin) (hBn : w5.heap.size = Bn) :
    (∃ (i1 Bi : Nat) (Ac' Af' : Option Addr) (cc' nf' cf' : Nat) (s : List Nat × Int), Value.pointer (some ⟨Bn, 0, none⟩) = .pointer (some ⟨Bi, 0, none⟩) ∧ f ≤ i1 ∧ i1 ≤ n ∧ TS W0 b0 Bc Bf Bm (w5.alloc (.cells #[.int .i64 ((i : Int) + 1)] 3)) Ac' cc' ch Af' nf' cf' s ∧ (w5.alloc (.cells #[.int .i64 ((i : Int) + 1)] 3)).heap[Bi]? = some (.cells #[.int .i64 i1] 3 (0, 0)) ∧
      W.heap.size ≤ Bi ∧ ob Ac' ≠ some Bi ∧ ob Af' ≠ some Bi ∧ Hid (newer W Ac Ac' ∧ newer W Af Af') ∧ W.heap.size ≤ (w5.alloc (.cells #[.int .i64 ((i : Int) + 1)] 3)).heap.size ∧ Hid (∀ j, b0 ≤ j → j < W.heap.size → ob Ac ≠ some j → (w5.alloc (.cells #[.int .i64 ((i : Int) + 1)] 3)).heap[j]? = W.heap[j]?) ∧ Hid (lp l (n - i1) v ch s = fin)) ∧
    n - boxN (.pointer (some ⟨Bn, 0, none⟩)) (w5.alloc (.cells #[.int .i64 ((i : Int) + 1)] 3)) < n - boxN (.pointer (some ⟨Bi, 0, none⟩)) wr := by
  subst hBn
  have hnew := heap_alloc_new w5 (.cells #[.int .i64 ((i : Int) + 1)] 3)
  have e : (i : Int) + 1 = ((i + 1 : Nat) : Int) := by omega
  refine ⟨⟨i + 1, w5.heap.size, Ac5, Af5, cc5, nf5, cf5, s5, rfl, by omega, by omega, hS5.e ((E.refl _).alloc _), by rw [e] at hnew ⊢; exact hnew, hz5, fun e => ?_, fun e => ?_, hn5, by simp; omega, fun j h1 h2 h3 => ?_, hlp5⟩, ?_⟩
  · have := (hS5.co.ltN _ e).2; omega
  · have := (hS5.fo.ltN _ e).2; omega
  · rw [Below.heap_alloc _ _ _ (by omega)]; exact hfr5 j h1 h2 h3
  · rw [e] at hnew ⊢
    rw [boxN_eq hnew, boxN_eq hBi]
    omega

set_option maxHeartbeats 4000000 in
set_option maxRecDepth 100000 in
theorem try_c {w W0 : World} {b0 L By Bc Bl Be Br Bt Bf Bm gr : Nat} {A : Option Addr} {n c : Nat} {l : List Bd} (tx : TX w W0 b0 L By Bc Bl Be Br Bt Bf Bm gr A n c l) (hn : n ≤ 10) (hp : ∀ i, 0 ≤ pr l i ∧ pr l i ≤ 1099511627776)
    (hY : ∀ (m : Nat) (W : World) (Ac : Option Addr) (cc : Nat) (ch : List Nat) (Af : Option Addr) (nf cf : Nat) (st : List Nat × Int) (v : Int), TS W0 b0 Bc Bf Bm W Ac cc ch Af nf cf st → ch.length ≤ 10 →
      YieldAt Fence.wide m Try.prog L #[.slice Ac ch.length cc, .int .i64 v] W fun e W' => e = .returned (.bool true) ∧ (∃ Af' nf' cf', TS W0 b0 Bc Bf Bm W' Ac cc ch Af' nf' cf' (if st.2 < v then (ch, v) else st) ∧ newer W Af Af') ∧ W.heap.size ≤ W'.heap.size ∧ ∀ i, b0 ≤ i → i < W.heap.size → W'.heap[i]? = W.heap[i]?) :
    ∀ (m f : Nat) (v : Int) (ch : List Nat) (st : List Nat × Int) (W : World) (Ac Af : Option Addr) (cc nf cf : Nat), f + m = n → 0 ≤ v → v + rest l m ≤ 17592186044416 → ch.length ≤ f → (∀ j ∈ ch, j < n) → TS W0 b0 Bc Bf Bm W Ac cc ch Af nf cf st →
      Calls Try.prog 92 #[.int .i64 f, .int .i64 v, ptr By, ptr Bc, ptr Bl, ptr Be, ptr Br, ptr Bt] W fun e W' => e = .returned (.bool true) ∧ TP W0 b0 Bc Bf Bm W Ac Af ch (lp l m v ch (if st.2 < v then (ch, v) else st)) W' := by
  intro m
  induction m using Nat.strongRecOn with
  | ind m ih =>
  intro f v ch st W Ac Af cc nf cf hfm hv0 hvb hcl hcn hS
  have IH := Lib.hid ih
  clear ih
  obtain ⟨fn, tmps, assign, body, hy, hR⟩ := hY 2 W Ac cc ch Af nf cf st v hS (by omega)
  have HY := Lib.hid hY
  have HP := Lib.hid hp
  clear hY hp
  generalize (if st.2 < v then (ch, v) else st) = s1 at *
  obtain ⟨fin, hfin⟩ : ∃ fin, lp l m v ch s1 = fin := ⟨_, rfl⟩
  have HFIN := Lib.hid hfin
  rw [hfin]
  clear hfin
  obtain ⟨cy, cl, ce, cr, ct, cch, cm, fch⟩ := tx.cells hS
  unfold ptr at *
  go_enter Try.func92, Try.ntmps92
  go_upto_region 1 with fail
  refine (wpIn_wide (n := 3)).1 ?_
  gi_wp2
  refine hR.mono ?_
  rintro e W1 ⟨rfl, ⟨Af1, nf1, cf1, hS1, hnA1⟩, hz1, hfr1⟩
  clear hR hy cy cl ce cr ct cch cm fch
  gi_wp2
  have h0 := tx.sz
  have hb0 : b0 ≤ W.heap.size := by have := hS.ex.size; omega
  obtain ⟨hBc, hBf, hBm⟩ := tx.lx
  have HnA1 := Lib.hid hnA1
  clear hnA1
  go_wp2_with fail
  go_loopw [11] (fun p wr => ∃ (i Bi : Nat) (Ac' Af' : Option Addr) (cc' nf' cf' : Nat) (s : List Nat × Int), p = .pointer (some ⟨Bi, 0, none⟩) ∧ f ≤ i ∧ i ≤ n ∧ TS W0 b0 Bc Bf Bm wr Ac' cc' ch Af' nf' cf' s ∧ wr.heap[Bi]? = some (.cells #[.int .i64 i] 3 (0, 0)) ∧
      W.heap.size ≤ Bi ∧ ob Ac' ≠ some Bi ∧ ob Af' ≠ some Bi ∧ Hid (newer W Ac Ac' ∧ newer W Af Af') ∧ W.heap.size ≤ wr.heap.size ∧ Hid (∀ j, b0 ≤ j → j < W.heap.size → ob Ac ≠ some j → wr.heap[j]? = W.heap[j]?) ∧ Hid (lp l (n - i) v ch s = fin)) (fun p wr => n - boxN p wr)
  case atStart =>
    refine ⟨f, W1.heap.size, Ac, Af1, cc, nf1, cf1, s1, rfl, Nat.le_refl _, by omega, hS1.e ((E.refl _).alloc _), heap_alloc_new _ _, hz1, fun e => ?_, fun e => ?_, ⟨newer.refl _ _, HnA1.out⟩, by simp; omega, fun j h1 h2 _ => ?_, ?_⟩
    · have := (hS1.co.ltN _ e).2; omega
    · have := (hS1.fo.ltN _ e).2; omega
    · rw [Below.heap_alloc _ _ _ (by omega)]; exact hfr1 j h1 h2
    · show _ = _
      rw [show n - f = m by omega]; exact HFIN.out
  case round =>
    clear hS1 hz1 hfr1 HFIN HnA1
    obtain ⟨i, Bi, Ac2, Af2, cc2, nf2, cf2, s, rfl, hfi, hin, hS2, hBi, hWB, hnc, hnf, hnw, hWz, hfr, hlp⟩ := hrel
    obtain ⟨cy, cl, ce, cr, ct, cch, cm, fch⟩ := tx.cells hS2
    unfold ptr at ce ct
    have ci := cell_of_one hBi
    have fi := frozen_of_row _ _ 0 _ _ hBi
    have hln := tx.bids.len
    obtain ⟨R, hRe⟩ : ∃ R, rest l (n - i) = R := ⟨_, rfl⟩
    have hR0 : 0 ≤ R := by rw [← hRe]; exact rest_nn (fun j => (HP.out j).1) _
    have hR1 : v + R ≤ 17592186044416 := by have := rest_mono (fun j => (HP.out j).1) (show n - i ≤ m by omega); omega
    obtain ⟨x, hg1, hg2, hgx, hwx, hcg, hfg⟩ := (tx.rests hS2).getg (i := i) (by omega)
    have hxR : x = R := by
      have : (restL l)[i]? = some (rest l (l.length - i)) := by rw [restL, List.getElem?_map, List.getElem?_range (by omega)]; rfl
      rw [this, hln, hRe] at hgx
      injection hgx with hgx
      exact hgx.symm
    subst hxR
    clear hgx hwx hfg
    have HRE := Lib.hid hRe
    clear hRe
    by_cases hlt : (i : Int) < (n : Int)
    · have hcall := Try.call78
      have hi1 : (i : Int) < (n : Int) + 1 := by omega
      by_cases hen : s.2 < v + x
      · have HC := Lib.hid (show Calls Try.prog 78 #[.int .i64 (v + x), .pointer (some ⟨Bm, 0, none⟩)] wr.drew fun e w' => e = .returned (.bool true) ∧ wr.drew = w' by
          have := enough_c Bm (v + x) s.2 wr.drew cm
          rw [decide_eq_true hen] at this
          exact this)
        have hE0 : E wr wr.drew := (E.refl _).drew
        have hEwr := tx.eW hS2
        have HCF := Lib.hid (containsFunc_c 93 [.pointer (some ⟨Bl, 0, none⟩), .pointer (some ⟨Bi, 0, none⟩)] (fun x => confl (l.getD i bd0) (l.getD x.toNat bd0)) Ac2 ch.length cc2 (ints ch) wr.drew (hS2.co.reads.e hE0) Try.call93 (fun y wq hy hq => by
          obtain ⟨j, hj, rfl⟩ := List.mem_map.1 hy
          have hEq : E wr wq := hE0.trans hq
          exact choices3_c A n c l Bl Bi i j wq ((tx.bids.e hEwr).e hEq) (by omega) (hcn j hj) (by rw [hEq.cell (p := ⟨Bl, 0, none⟩) (lt_blk ((tx.at_ hS2 (by simp) (lt_blk tx.l_)).trans tx.l_))]; exact cl) (by rw [hEq.cell (p := ⟨Bi, 0, none⟩) (lt_blk hBi)]; exact ci)))
        rw [conf_ints] at HCF
        have hlen : l.length - (n - i - 1 + 1) = i := by omega
        have hni : n - i = n - i - 1 + 1 := by omega
        cases hcf : conf l i ch
        · rw [hcf] at HCF
          have HLP := Lib.hid (show lp l (n - (i + 1)) v ch (lp l (n - (i + 1)) (v + pr l i) (ch ++ [i]) (if s.2 < v + pr l i then (ch ++ [i], v + pr l i) else s)) = fin by
            have h1 := lp_in (l := l) (m := n - i - 1) (v := v) (ch := ch) (s := s) (by rw [← hni, HRE.out]; exact hen) (by rw [hlen]; exact hcf)
            rw [hlen, ← hni, hlp.out] at h1
            rw [show n - (i + 1) = n - i - 1 by omega]; exact h1.symm)
          clear hlp
          go_wp2_with fail
          go_still_tail 12, (by kernel_rfl)
          go_wp2_with fail
          refine HC.out.mono ?_
          rintro e w' ⟨rfl, rfl⟩
          go_wp2_with fail
          refine HCF.out.mono ?_
          rintro e w5 ⟨rfl, hE5⟩
          have hE05 : E wr w5 := hE0.trans hE5
          have hBi5 : w5.heap[Bi]? = _ := (hE05.block (lt_blk hBi)).trans hBi
          have ci5 := cell_of_one hBi5
          have hS5 := hS2.e hE05
          have hnc5 : ob Ac2 ≠ some Bc := hS5.co.nblk hS5.bc (by decide)
          have hz5 : b0 ≤ w5.heap.size := by have := hE05.le; omega
          obtain ⟨_, cl5, _, _, ct5, cch5, _, fch5⟩ := tx.cells hS5
          have hchl : ch.length ≤ 10 := by omega
          clear cy cl ce cr ct cch cm fch ci fi HC HCF
          have HPush := Lib.hid (fun (g' c2 : Nat) (w6 : World) hO hG hor => hS5.push (i := i) (w4 := w6) (g' := g') (c2 := c2) h0 hBc hBf hBm tx.ncm tx.ncf hO hG hor)
          go_upto_region 8 with (at_builtin; refine wpList_app1n intTk _ rfl _ _ rfl _ _ _ _ _ rfl hS5.co _ rfl (wf_of_i64 (by omega) (by omega)) (by omega) hz5 ?_; intro g' c2 w6 hO6 hG6 hB6 hor6; have hcB6 : w6.heap[Bc]? = _ := (hG6.block Bc (lt_blk hS5.bc) (fun e => hnc5 (by rw [← ob_eq Ac2 ch.length cc2]; exact e.symm))).trans hS5.bc; have cB6 := cell_of_one hcB6; have fB6 := frozen_of_row _ _ 0 _ _ hcB6)
          obtain ⟨hS6, hfr6, hnw6, hz6⟩ := HPush.out g' c2 w6 hO6 hG6 hor6
          obtain ⟨W6, hW6⟩ : ∃ W6, w6.setCell ⟨Bc, 0, none⟩ (.slice (some ⟨g', 0, none⟩) (ch.length + 1) c2) = W6 := ⟨_, rfl⟩
          rw [hW6] at hS6 hfr6 hz6 ⊢
          have hBi6 : W6.heap[Bi]? = _ := (hfr6 Bi (by omega) (lt_blk hBi5) hnc).trans hBi5
          have ci6 := cell_of_one hBi6
          obtain ⟨_, cl6, _, _, ct6, _, _, _⟩ := tx.cells hS6
          unfold ptr at ct6
          obtain ⟨b, o, y, Ay, ny, cy', rfl, hbs, hy, _, _, _, hy2, _, _⟩ := (tx.bids.e (tx.eW hS6)).get (i := i) (by omega)
          have hpy : pr l i = y.2.1 := by rw [pr, List.getD_eq_getElem?_getD, hy]; rfl
          obtain ⟨p, hpe⟩ : ∃ p, pr l i = p := ⟨_, rfl⟩
          have hpr := HP.out i
          rw [hpe] at hpr hpy
          rw [← hpy] at hy2
          have hpR : v + p + rest l (n - (i + 1)) ≤ 17592186044416 := by
            have : rest l (n - i) = p + rest l (n - (i + 1)) := by rw [hni, rest, hlen, hpe, show n - (i + 1) = n - i - 1 by omega]
            rw [HRE.out] at this
            omega
          have hvp : v + p ≤ 17592186044416 := by have := rest_nn (l := l) (fun j => (HP.out j).1) (n - (i + 1)); omega
          have HI := Lib.hid (IH.out (n - (i + 1)) (by omega) (i + 1) (v + p) (ch ++ [i]) s W6.drew (some ⟨g', 0, none⟩) Af2 c2 nf2 cf2 (by omega) (by omega) hpR (by simp; omega) (by
            intro j hj
            rcases List.mem_append.1 hj with h | h
            · exact hcn j h
            · rw [List.mem_singleton] at h; omega) (hS6.e ((E.refl _).drew)))
          rw [hpe] at HLP
          have hcall2 := Try.call92
          have e1 : ((i + 1 : Nat) : Int) = (i : Int) + 1 := by omega
          rw [e1] at HI
          clear hO6 hG6 hor6 cB6 fB6 hcB6 hy hpy HPush cl5 ct5 cch5 fch5 ci5 hW6
          go_still_tail 10, (by kernel_rfl)
          go_wp2_with fail
          refine HI.out.mono ?_
          rintro e W7 ⟨rfl, ⟨Ac7, cc7, Af7, nf7, cf7, hS7, hnc7, hnf7⟩, hz7, hfr7⟩
          replace hnw6 : newer w5 Ac2 (some ⟨g', 0, none⟩) := hnw6
          have hl7 : (ch ++ [i]).length = ch.length + 1 := by simp
          obtain ⟨g7, rfl, hcap7⟩ : ∃ g7, Ac7 = some ⟨g7, 0, none⟩ ∧ ch.length + 1 ≤ cc7 := by
            rcases hS7.co.form with ⟨_, h0', _⟩ | ⟨g, e, _, _, h1, _⟩
            · omega
            · exact ⟨g, e, by omega⟩
          obtain ⟨_, _, _, _, _, cch7, _, fch7⟩ := tx.cells hS7
          rw [hl7] at cch7
          have hBi7 : W7.heap[Bi]? = _ := (hfr7 Bi (by omega) (lt_blk (w := W6) hBi6) (hnw6.ne (lt_blk hBi5) hnc)).trans hBi6
          have hne : Bi ≠ Bc := by omega
          have hc7I : (ch.length : Int) ≤ (cc7 : Int) := by omega
          have ci8 : ∀ u, (W7.setCell ⟨Bc, 0, none⟩ u).cell? ⟨Bi, 0, none⟩ = some (.int .i64 i) := fun u => cell_of_one (by rw [Below.heap_setCell _ _ _ _ hne]; exact hBi7)
          have HPop := Lib.hid (hS7.pop hBc h0 tx.ncm tx.ncf)
          have hz7' : w5.heap.size ≤ W7.heap.size := Nat.le_trans hz6 hz7
          have HFR := Lib.hid (show ∀ j, b0 ≤ j → j < W.heap.size → ob Ac ≠ some j → (W7.setCell ⟨Bc, 0, none⟩ (.slice (some ⟨g7, 0, none⟩) ch.length cc7)).heap[j]? = W.heap[j]? from fun j h1 h2 h3 => by
            have h4 : j < wr.heap.size := by omega
            have h5 : j < w5.heap.size := by have := hE05.le; omega
            have h6 := hnw.out.1.ne h2 h3
            rw [Below.heap_setCell _ _ _ _ (by intro e; have : j = Bc := e; omega), hfr7 j h1 (Nat.lt_of_lt_of_le h5 hz6) (hnw6.ne h5 h6)]
            exact ((hfr6 j h1 h5 h6).trans (hE05.block h4)).trans (hfr.out j h1 h2 h3))
          have HNW := Lib.hid (show newer W Ac (some ⟨g7, 0, none⟩) ∧ newer W Af Af7 from
            ⟨(hnw.out.1.trans (Nat.le_trans hWz hE05.le) hnw6).trans (w' := W6.drew) (Nat.le_trans (Nat.le_trans hWz hE05.le) hz6) hnc7, hnw.out.2.trans (w' := W6.drew) (Nat.le_trans (Nat.le_trans hWz hE05.le) hz6) hnf7⟩)
          have HZ8 := Lib.hid (show ∀ u, W.heap.size ≤ (W7.setCell ⟨Bc, 0, none⟩ u).heap.size from fun u => Nat.le_trans (Nat.le_trans hWz (Nat.le_trans hE05.le hz7')) ((Below.refl 0 W7).setCell (p := ⟨Bc, 0, none⟩) (Nat.zero_le _) u).size)
          clear hfr7 hfr6 hS6 hnc7 hnf7
          go_wp2_with fail
          exact tnext (by omega) hfi hBi HPop.out HNW.out (HZ8.out _) HFR.out HLP.out (by simp)
        · rw [hcf] at HCF
          have HLP := Lib.hid (show lp l (n - (i + 1)) v ch s = fin by
            rw [← hlp.out, hni, lp_skip (by rw [← hni, HRE.out]; exact hen) (by rw [hlen]; exact hcf), show n - (i + 1) = n - i - 1 by omega])
          clear hlp
          go_wp2_with fail
          go_still_tail 12, (by kernel_rfl)
          go_wp2_with fail
          refine HC.out.mono ?_
          rintro e w' ⟨rfl, rfl⟩
          go_wp2_with fail
          refine HCF.out.mono ?_
          rintro e w5 ⟨rfl, hE5⟩
          have hE05 : E wr w5 := hE0.trans hE5
          have hBi5 : w5.heap[Bi]? = _ := (hE05.block (lt_blk hBi)).trans hBi
          have ci5 := cell_of_one hBi5
          go_wp2_with fail
          exact tnext (by omega) hfi hBi (hS2.e hE05) hnw.out (Nat.le_trans hWz hE05.le) (fun j h1 h2 h3 => (hE05.block (by omega)).trans (hfr.out j h1 h2 h3)) HLP.out rfl
      · have HC := Lib.hid (show Calls Try.prog 78 #[.int .i64 (v + x), .pointer (some ⟨Bm, 0, none⟩)] wr.drew fun e w' => e = .returned (.bool false) ∧ wr.drew = w' by
          have := enough_c Bm (v + x) s.2 wr.drew cm
          rw [decide_eq_false hen] at this
          exact this)
        have HF := Lib.hid (show s = fin by rw [← hlp.out, lp_stop (by rw [HRE.out]; exact hen)])
        clear hlp
        go_wp2_with fail
        go_still_tail 12, (by kernel_rfl)
        go_wp2_with fail
        refine HC.out.mono ?_
        rintro e w' ⟨rfl, rfl⟩
        go_wp2_with fail
        go_ret
        exact ⟨rfl, ⟨Ac2, cc2, Af2, nf2, cf2, HF.out ▸ hS2.e ((E.refl _).drew), hnw.out⟩, hWz, hfr.out⟩
    · have hine : n - i = 0 := by omega
      have HF := Lib.hid (show s = fin by rw [← hlp.out, hine]; rfl)
      clear hlp
      have HN := Lib.hid (show ¬ i < n by omega)
      clear hlt hine
      go_wp2_with fail
      refine wp_region_still_lit (by kernel_rfl) (by kernel_rfl) ?_
      iterate 5 still_step
      iterate 8 (refine wpStill_step (fun K hK => ?_); go_simp; rw [if_neg HN.out]; refine hK _ ?_; clear hK K)
      refine wpStill_step (fun K hK => ?_)
      go_simp
      rw [if_neg HN.out]
      refine hK _ ?_
      clear hK K
      refine wpStill_nil ?_
      go_wp2_with fail
      go_ret
      exact ⟨rfl, ⟨Ac2, cc2, Af2, nf2, cf2, HF.out ▸ hS2.e ((E.refl _).drew), hnw.out⟩, hWz, hfr.out⟩
end Go.Proofs.Ytpbkfpkgbfifaaa
