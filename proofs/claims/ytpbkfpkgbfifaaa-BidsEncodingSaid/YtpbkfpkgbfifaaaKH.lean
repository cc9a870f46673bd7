/- The iterator of the choices. -/
import Derived.Test.YtpbkfpkgbfifaaaKG
import Derived.RegionTactic
import Derived.BigRegion
import Derived.Laws.EntriesVeiled
namespace Go.Proofs.Ytpbkfpkgbfifaaa
open Go.RowKit Go.Shelf

/-- the sums from an index on, as far as they are reckoned: from k on -/
def restP (l : List Bd) (k : Nat) : List Int := (List.range (l.length + 1)).map fun j => if k ≤ j then rest l (l.length - j) else 0
theorem restP_len (l : List Bd) (k : Nat) : (restP l k).length = l.length + 1 := by simp [restP]
theorem restP_get (l : List Bd) (k j : Nat) (h : j < l.length + 1) : (restP l k)[j]? = some (if k ≤ j then rest l (l.length - j) else 0) := by
  rw [restP, List.getElem?_map, List.getElem?_range h]; rfl
theorem restP_top (l : List Bd) : List.replicate (l.length + 1) 0 = restP l l.length := by
  apply List.ext_getElem?
  intro j
  by_cases h : j < l.length + 1
  · rw [restP_get _ _ _ h, List.getElem?_replicate, if_pos h]
    by_cases e : l.length ≤ j
    · rw [if_pos e, show l.length - j = 0 by omega]; rfl
    · rw [if_neg e]
  · rw [List.getElem?_eq_none (by rw [List.length_replicate]; omega), List.getElem?_eq_none (by rw [restP_len]; omega)]
theorem restP_set (l : List Bd) (k : Nat) (h : k + 1 ≤ l.length) : (restP l (k + 1)).set k (rest l (l.length - (k + 1)) + pr l k) = restP l k := by
  apply List.ext_getElem?
  intro j
  rw [List.getElem?_set]
  by_cases hj : j < l.length + 1
  · rw [restP_get _ _ _ hj, restP_get _ _ _ hj, restP_len]
    by_cases e : k = j
    · subst e
      have e1 : rest l (l.length - k) = pr l k + rest l (l.length - (k + 1)) := by
        rw [show l.length - k = (l.length - (k + 1)) + 1 by omega, rest, show l.length - (l.length - (k + 1) + 1) = k by omega]
      simp only [Nat.le_refl, if_true, hj, e1]
      rw [Int.add_comm]
    · rw [if_neg e]
      by_cases e2 : k + 1 ≤ j
      · rw [if_pos e2, if_pos (by omega)]
      · rw [if_neg e2, if_neg (by omega)]
  · rw [List.getElem?_eq_none (l := restP l (k + 1)) (by rw [restP_len]; omega), List.getElem?_eq_none (l := restP l k) (by rw [restP_len]; omega)]
    rw [restP_len]
    split
    · rw [if_neg (by omega)]
    · rfl
theorem restP_zero (l : List Bd) : restP l 0 = restL l := by simp [restP, restL]

theorem rest_le {l : List Bd} (hp : ∀ i, 0 ≤ pr l i ∧ pr l i ≤ 1099511627776) : ∀ m, rest l m ≤ m * 1099511627776
  | 0 => by simp [rest]
  | m + 1 => by have := rest_le hp m; have := hp (l.length - (m + 1)); simp only [rest]; omega

set_option maxHeartbeats 4000000 in
set_option maxRecDepth 100000 in
theorem choices1_c (w W1 : World) (L Bl Be Bf Bm : Nat) (A : Option Addr) (n c : Nat) (l : List Bd) (hw : E w W1) (hB : BidsAt w A n c l) (hn : n ≤ 10) (hp : ∀ i, 0 ≤ pr l i ∧ pr l i ≤ 1099511627776)
    (hl : W1.heap[Bl]? = some (.cells #[.slice A n c] 31 (0, 0))) (he : W1.heap[Be]? = some (.cells #[.func (.func 78) #[] #[ptr Bm]] 82 (0, 0)))
    (hf : W1.heap[Bf]? = some (.cells #[.slice none 0 0] 22 (0, 0))) (hm : W1.heap[Bm]? = some (.cells #[.int .i64 0] 3 (0, 0))) (hwf : w.heap.size ≤ Bf) (hwm : w.heap.size ≤ Bm) (hfm : Bf ≠ Bm)
    (hYY : ∀ (W0 : World) (b0 Bc : Nat), E W1 W0 → W0.heap.size = b0 → W1.heap.size ≤ Bc → Bc < b0 → ∀ (m : Nat) (W : World) (Ac : Option Addr) (cc : Nat) (ch : List Nat) (Af : Option Addr) (nf cf : Nat) (st : List Nat × Int) (v : Int), TS W0 b0 Bc Bf Bm W Ac cc ch Af nf cf st → ch.length ≤ 10 →
      YieldAt Fence.wide m Try.prog L #[.slice Ac ch.length cc, .int .i64 v] W fun e W' => e = .returned (.bool true) ∧ RP W0 b0 Bc Bf Bm W Ac cc ch Af (if st.2 < v then (ch, v) else st) W') :
    Calls Try.prog 91 #[.func (.yield L) #[] #[], ptr Bl, ptr Be] W1 fun e W' => (∃ v, e = .returned v) ∧ ∃ W0 b0 Bc Ac cc Af nf cf, E W1 W0 ∧ W0.heap.size = b0 ∧ W1.heap.size ≤ Bc ∧ TS W0 b0 Bc Bf Bm W' Ac cc [] Af nf cf (bestS l) := by
  have HYY := Lib.hid hYY
  have HP := Lib.hid hp
  clear hYY hp
  have hln := hB.len
  have hm63 := hB.n63
  have cl := cell_of_one hl
  have hltl := lt_blk hl
  have cl2 : ∀ W, E W1 W → W.cell? ⟨Bl, 0, none⟩ = some (.slice A n c) := fun W hE => by rw [hE.cell (p := ⟨Bl, 0, none⟩) hltl]; exact cl
  have hE2 : E W1 (W1.alloc (.cells #[.func (.yield L) #[] #[]] 44)) := (E.refl _).alloc _
  have cl3 := cl2 _ hE2
  unfold ptr
  go_enter Try.func91, Try.ntmps91
  go_upto_region 2 with (at_make; refine wpList_mk intTk _ rfl _ _ rfl _ _ _ _ (n + 1) rfl rfl (by omega) (by omega) (by omega) ?_; intro w3 hO3 hE3 hz3)
  rw [World.size_alloc] at hO3 hz3
  obtain ⟨W4, hW4⟩ : ∃ W4, w3.alloc (.cells #[.slice (some ⟨W1.heap.size + 1, 0, none⟩) (n + 1) (n + 1)] 22) = W4 := ⟨_, rfl⟩
  have hE34 : E w3 W4 := by rw [← hW4]; exact (E.refl _).alloc _
  have hbr : W4.heap[W1.heap.size + 2]? = some (.cells #[.slice (some ⟨W1.heap.size + 1, 0, none⟩) (n + 1) (n + 1)] 22 (0, 0)) := by
    have := heap_alloc_new w3 (.cells #[.slice (some ⟨W1.heap.size + 1, 0, none⟩) (n + 1) (n + 1)] 22)
    rw [hW4, hz3] at this; exact this
  have hz4 : W4.heap.size = W1.heap.size + 3 := by rw [← hW4, World.size_alloc, hz3]
  have hby : W4.heap[W1.heap.size]? = some (.cells #[.func (.yield L) #[] #[]] 44 (0, 0)) := by
    rw [hE34.block (by omega), hE3.block (by simp)]; exact heap_alloc_new _ _
  rw [hW4]
  have hE14 : E W1 W4 := (hE2.trans hE3).trans hE34
  have hO4 := hO3.e hE34
  rw [show List.replicate (n + 1) (0 : Int) = restP l n by rw [← hln]; exact restP_top l] at hO4
  clear hO3 hE3 hz3 cl3 hE2 hE34 hW4
  have cl4 := cl2 _ hE14
  have cbr := cell_of_one hbr
  go_wp2_with fail
  go_loopw [5] (fun ti wr => ∃ k : Nat, k ≤ n ∧ ti = .int .i64 ((k : Int) - 1) ∧ Own .i64 3 wr (W1.heap.size + 1) (some ⟨W1.heap.size + 1, 0, none⟩) (n + 1) (n + 1) (restP l k) ∧ Ex (fun i => i = W1.heap.size + 1) W4 wr) (fun ti _ => (intOf ti + 1).toNat)
  case atStart => exact ⟨n, Nat.le_refl _, rfl, hO4, Ex.refl _ _⟩
  case round =>
    obtain ⟨k, hk, rfl, hO, hX⟩ := hrel
    have hbrr : wr.heap[W1.heap.size + 2]? = _ := (hX.block _ (lt_blk hbr) (by omega)).trans hbr
    have cbr := cell_of_one hbrr
    have hE1r : E W1 wr := ⟨hX.os.trans hE14.os, hX.tape.trans hE14.tape, hX.output.trans hE14.output, Nat.le_trans hE14.le hX.size, fun i hi => (hX.block i (by omega) (by omega)).trans (hE14.block hi)⟩
    have clr := cl2 _ hE1r
    by_cases hlt : 0 < k
    · obtain ⟨k, rfl⟩ : ∃ j, k = j + 1 := ⟨k - 1, by omega⟩
      obtain ⟨b, o, y, Ay, ny, cy', rfl, hbs, hy, _, hwy, _, hy2, _, _⟩ := (hB.e (hw.trans hE1r)).get (i := k) (by omega)
      have hpy : y.2.1 = pr l k := by rw [pr, List.getD_eq_getElem?_getD, hy]; rfl
      have hpr := HP.out k
      obtain ⟨x, _, _, hx, hwx, hcx, hfx⟩ := hO.getg (i := k + 1) (by omega)
      have hxe : x = rest l (l.length - (k + 1)) := by
        rw [restP_get _ _ _ (by omega), if_pos (Nat.le_refl _)] at hx; injection hx with hx; exact hx.symm
      obtain ⟨x', _, _, hx', hwx', hcx', hfx'⟩ := hO.getg (i := k) (by omega)
      have hr0 := rest_nn (l := l) (fun j => (HP.out j).1) (l.length - (k + 1))
      have hr1 := rest_le HP.out (l.length - (k + 1))
      have hr2 : x ≤ 10995116277760 := by omega
      have hset := hO.set k (x + pr l k) (wf_of_i64 (by omega) (by omega))
      rw [hxe, restP_set l k (by omega), ← hxe] at hset
      rw [← hxe] at hr0
      rw [hpy] at hy2
      obtain ⟨p, hpe⟩ : ∃ p, pr l k = p := ⟨_, rfl⟩
      rw [hpe] at hy2 hpr hset
      clear hx hx' hxe hr1 hpy hpe hwy hwx hwx' hy
      have hk1 : (k : Int) < (n : Int) + 1 := by omega
      have hk2 : (k : Int) + 1 < (n : Int) + 1 := by omega
      have hkn : (k : Int) < (n : Int) := by omega
      have e5 : ((k + 1 : Nat) : Int) - 1 = (k : Int) := by omega
      rw [e5]
      have hwr : IntKind.i64.wrap ((k : Int) + 1) = (k : Int) + 1 := by rw [IntKind.wrap_i64]; omega
      have hwr2 : IntKind.i64.wrap (x + p) = x + p := by rw [IntKind.wrap_i64]; omega
      have HX := Lib.hid ((hX.setCell ⟨W1.heap.size + 1, k, none⟩ (.inr rfl) (.int .i64 (x + p))).drew)
      have HS := Lib.hid hset
      clear hset hX hO
      go_wp2_with fail
      go_region
      all_goals go_wp2_with fail
      exact ⟨⟨k, by omega, rfl, HS.out.e ((E.refl _).drew), HX.out⟩, by simp [intOf]⟩
    · obtain rfl : k = 0 := by omega
      have hcall := Try.call92
      rw [restP_zero] at hO
      have HX := Lib.hid hX
      have HO := Lib.hid hO
      clear hO hX
      go_upto_region 8 with fail
      have hbt := heap_alloc_new (wr.alloc (.cells #[.slice none 0 0] 22)) (.cells #[.nilFunc] 119)
      rw [World.size_alloc] at hbt
      obtain ⟨W5, hW5⟩ : ∃ W5, (wr.alloc (.cells #[.slice none 0 0] 22)).alloc (.cells #[.nilFunc] 119) = W5 := ⟨_, rfl⟩
      have hEr5 : E wr W5 := by rw [← hW5]; exact ((E.refl _).alloc _).alloc _
      have hz5 : W5.heap.size = wr.heap.size + 2 := by rw [← hW5, World.size_alloc, World.size_alloc]
      have hbc : W5.heap[wr.heap.size]? = some (.cells #[.slice none 0 0] 22 (0, 0)) := by
        rw [← hW5, Below.heap_alloc _ _ _ (by simp)]; exact heap_alloc_new _ _
      rw [hW5] at hbt ⊢
      have cbt := cell_of_one hbt
      have fbt := frozen_of_row _ _ 0 _ _ hbt
      obtain ⟨fv, hfv⟩ : ∃ fv : Value, fv = .func (.func 92) #[] #[ptr W1.heap.size, ptr wr.heap.size, ptr Bl, ptr Be, ptr (W1.heap.size + 1 + 1), ptr (wr.heap.size + 1)] := ⟨_, rfl⟩
      have hb6 := heap_setCell_same _ _ 0 _ _ fv hbt
      obtain ⟨W6, hW6⟩ : ∃ W6, W5.setCell ⟨wr.heap.size + 1, 0, none⟩ fv = W6 := ⟨_, rfl⟩
      have HX6 := Lib.hid (show Ex (fun i => i = wr.heap.size + 1) W5 W6 by rw [← hW6]; exact (Ex.refl (fun i => i = wr.heap.size + 1) W5).setCell ⟨wr.heap.size + 1, 0, none⟩ (.inr rfl) _)
      have hz6 : W6.heap.size = wr.heap.size + 2 := by rw [← hW6, ← hz5]; simp
      rw [hW6] at hb6
      replace hb6 : W6.heap[wr.heap.size + 1]? = some (.cells #[fv] 119 (0, 0)) := hb6
      have c6 := cell_of_one hb6
      rw [hfv] at hW6 c6
      unfold ptr at hW6 c6
      clear hW5
      have hX := HX.out
      have hX6 := HX6.out
      have hzr : W1.heap.size + 3 ≤ wr.heap.size := by have := hX.size; omega
      have h64 : ∀ i : Nat, i < W1.heap.size + 3 → i ≠ W1.heap.size + 1 → W6.heap[i]? = W4.heap[i]? := fun i hi e => by
        rw [hX6.block i (by omega) (by omega), hEr5.block (by omega)]
        exact hX.block i (by omega) e
      have h61 : ∀ i : Nat, i < W1.heap.size → W6.heap[i]? = W1.heap[i]? := fun i hi => (h64 i (by omega) (by omega)).trans (hE14.block hi)
      have hE16 : E W1 W6 := ⟨hX6.os.trans (hEr5.os.trans hE1r.os), hX6.tape.trans (hEr5.tape.trans hE1r.tape), hX6.output.trans (hEr5.output.trans hE1r.output), by omega, h61⟩
      have hlf := lt_blk hf
      have hlm := lt_blk hm
      have hle := lt_blk he
      have hwz := hw.le
      have nlf : Bl ≠ Bf := fun e => by rw [e, hf] at hl; injection hl with hl; injection hl with _ ht; exact absurd ht (by decide)
      have nlm : Bl ≠ Bm := fun e => by rw [e, hm] at hl; injection hl with hl; injection hl with _ ht; exact absurd ht (by decide)
      have nef : Be ≠ Bf := fun e => by rw [e, hf] at he; injection he with he; injection he with _ ht; exact absurd ht (by decide)
      have nem : Be ≠ Bm := fun e => by rw [e, hm] at he; injection he with he; injection he with _ ht; exact absurd ht (by decide)
      have hrr := ((HO.out.e hEr5).ex hX6 (fun b hb e => by
        have hbb : W1.heap.size + 1 = b := by simpa [ob] using hb
        have e' : b = wr.heap.size + 1 := e
        omega)).rebase (base' := w.heap.size) (by omega)
      have tx : TX w W6 (wr.heap.size + 2) L W1.heap.size wr.heap.size Bl Be (W1.heap.size + 1 + 1) (wr.heap.size + 1) Bf Bm (W1.heap.size + 1) A n c l :=
        { sz := hz6, ew := hw.trans hE16, bids := hB, wx := ⟨by omega, hwf, hwm⟩, lx := ⟨by omega, by omega, by omega⟩, ncf := by omega, ncm := by omega, nfm := hfm,
          nx := fun i hi hx => by rcases hi with hi | hi | hi | hi | hi | hi <;> rcases hx with hx | hx | hx <;> first | omega | exact nlf (hi.symm.trans hx) | exact nlm (hi.symm.trans hx) | exact nef (hi.symm.trans hx) | exact nem (hi.symm.trans hx),
          y := (h64 _ (by omega) (by omega)).trans hby, l_ := (h61 _ hltl).trans hl, e_ := (h61 _ hle).trans he, r_ := (h64 _ (by omega) (by omega)).trans hbr,
          rr := hrr, t_ := by rw [← hfv]; exact hb6 }
      have ts : TS W6 (wr.heap.size + 2) wr.heap.size Bf Bm W6 none 0 [] none 0 0 ([], 0) :=
        ⟨Ex.refl _ _, (hX6.block _ (by omega) (by omega)).trans hbc, Own.nil _ _ _ _, (h61 _ hlf).trans hf, Own.nil _ _ _ _, apart_none _, (h61 _ hlm).trans hm⟩
      have HT := Lib.hid (try_c tx hn HP.out (HYY.out W6 (wr.heap.size + 2) wr.heap.size hE16 hz6 (by omega) (by omega)) n 0 0 [] ([], 0) W6 none none 0 0 0 (by omega) (Int.le_refl _) (by have := rest_le HP.out n; omega) (Nat.le_refl _) (by simp) ts)
      have HFin := Lib.hid (show lp l n 0 [] (if (([], 0) : List Nat × Int).2 < 0 then ([], 0) else ([], 0)) = bestS l by rw [bestS, hln]; rfl)
      rw [HFin.out] at HT
      have HE := Lib.hid hE16
      clear hX hX6 HX HX6 HO tx ts h64 h61 HFin hE16 hbc hb6 hby hbr hbrr
      unfold ptr at HT
      go_upto_region 9 with fail
      go_wp2_with fail
      refine HT.out.mono ?_
      rintro e W7 ⟨rfl, ⟨Ac7, cc7, Af7, nf7, cf7, hS7, _, _⟩, _, _⟩
      go_wp2_with fail
      go_end0
      exact ⟨⟨_, rfl⟩, W6, _, wr.heap.size, Ac7, cc7, Af7, nf7, cf7, HE.out, hz6, by omega, hS7⟩
end Go.Proofs.Ytpbkfpkgbfifaaa
