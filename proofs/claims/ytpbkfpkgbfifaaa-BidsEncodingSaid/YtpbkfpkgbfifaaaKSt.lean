/- slices.Sort on a row of the call's own; slices.Clip, and the append to a clipped slice. -/
import Derived.Sort.OwnSortedInts
import Derived.Deep.AppendSrc
import Derived.Test.YtpbkfpkgbfifaaaSo
import Derived.Test.YtpbkfpkgbfifaaaKMr
namespace Go.Proofs.Ytpbkfpkgbfifaaa
open Go.RowKit Go.Shelf Go.Sort

theorem sortI_c (A : Option Addr) (n c base : Nat) (l : List Int) (w : World) (h : Own .i64 3 w base A n c l) (hn : n ≤ 1099511627776) :
    Calls Try.prog 59 #[.slice A n c] w fun e w' => e = .returned (.tuple #[]) ∧ Own .i64 3 w' base A n c (l.mergeSort fun x y => decide (x ≤ y)) ∧ w.grownBy w' (ob A) := by
  rcases Nat.eq_zero_or_pos n with h0 | h0
  · subst h0
    have hl : l = [] := List.eq_nil_of_length_eq_zero h.1
    subst hl
    have hS := AnyM.slices_Sort_int_none Try.sortI A c w
    change Calls Try.prog 59 _ _ _ at hS
    refine hS.mono ?_
    rintro e w' ⟨rfl, rfl⟩
    exact ⟨rfl, by simpa using h, World.grownBy.refl _ _⟩
  · obtain ⟨a1, ⟨_, a2⟩, a3⟩ := h
    rcases a2 with ⟨hv, h1⟩ | ⟨g, cap, cur, hv, hbase, hh, hnc, hcm, hsz, htk⟩
    · omega
    injection hv with e1 e2 e3
    subst e1 e3
    have hlt : g < w.heap.size := (Array.getElem?_eq_some_iff.1 hh).1
    have hH : Holds (Value.int .i64) w g 0 l.toArray := holds_of_blockI hh (by rw [a1]; simpa using htk)
    have hS := AnyM.slices_Sort_int Try.sortI g 0 c l w hH hlt (by omega)
    change Calls Try.prog 59 _ _ _ at hS
    rw [a1] at hS
    refine hS.mono ?_
    rintro e w' ⟨rfl, m, os, rfl⟩
    refine ⟨rfl, ⟨by simpa using a1, ?_, fun x hx => a3 x (List.mem_mergeSort.1 hx)⟩, grownBy_sortedI _⟩
    have := ownsRow_sortedI (w := w) (base := base) (g := g) (cap := c) (n := m) (e := 3) (os := os) (cur := cur) (ss := l) (ts := l.mergeSort fun x y => decide (x ≤ y)) (by simp) hbase hh (by omega) hcm hsz
    rw [a1] at this
    exact this
theorem sort_filter {l : List Nat} {n : Nat} (hn : l.Nodup) (hlt : ∀ x ∈ l, x < n) : (ints l).mergeSort (fun x y => decide (x ≤ y)) = ints (sortG n l) := by
  have hp : (ints l).Perm (ints (sortG n l)) := by
    unfold ints
    refine List.Perm.map _ ?_
    unfold sortG
    rw [List.perm_ext_iff_of_nodup hn (List.Pairwise.filter _ List.nodup_range)]
    intro x
    rw [List.mem_filter, List.mem_range]
    simp only [List.contains_eq_mem, decide_eq_true_eq]
    exact ⟨fun h => ⟨hlt x h, h⟩, fun h => h.2⟩
  have hs1 : ((ints l).mergeSort fun x y => decide (x ≤ y)).Pairwise fun x y => x ≤ y := by
    have := List.pairwise_mergeSort (le := fun x y : Int => decide (x ≤ y)) (fun a b c h1 h2 => by simp at *; omega) (fun a b => by simp; omega) (ints l)
    exact this.imp (fun h => by simpa using h)
  have hs2 : (ints (sortG n l)).Pairwise fun x y => x ≤ y := by
    unfold ints sortG
    rw [List.pairwise_map]
    exact (List.Pairwise.filter _ List.pairwise_lt_range).imp (fun h => by omega)
  refine ((List.mergeSort_perm _ _).trans hp).eq_of_pairwise (le := fun x y => x ≤ y) (fun a b _ _ h1 h2 => by omega) hs1 hs2

set_option maxHeartbeats 1000000 in
theorem clip_c (A : Option Addr) (n c : Nat) (l : List Int) (w : World) (h : Nums .i64 w A n c l) :
    Calls Try.prog 58 #[.slice A n c] w fun e w' => e = .returned (.slice A n n) ∧ w = w' := by
  have hm := h.n63
  have hcp := h.cap
  have hcI : (n : Int) ≤ (c : Int) := by omega
  rcases Nat.eq_zero_or_pos n with h0 | h0
  · subst h0
    clear h
    cases A with
    | none =>
      go_enter Try.func58, Try.ntmps58
      go_wp2_with fail
      go_ret
      exact ⟨rfl, rfl⟩
    | some a =>
      go_enter Try.func58, Try.ntmps58
      go_wp2_with fail
      go_ret
      exact ⟨rfl, rfl⟩
  · obtain ⟨b, o, rfl, _⟩ := h.at_ h0
    clear h
    go_enter Try.func58, Try.ntmps58
    go_wp2_with fail
    go_ret
    exact ⟨rfl, rfl⟩
theorem Nums.clip {k : IntKind} {w : World} {A : Option Addr} {n c : Nat} {l : List Int} (h : Nums k w A n c l) : Nums k w A n n l := ⟨h.len, Nat.le_refl _, Nat.le_trans h.cap h.mx, h.wf, h.at_⟩
theorem nums_src {w : World} {A : Option Addr} {n c : Nat} {l : List Int} (h : Nums .i64 w A n c l) : Src Try.prog 1 22 (.slice A n c) n (l.map (Value.int .i64)) w := by
  rcases Nat.eq_zero_or_pos n with h0 | h0
  · subst h0
    have := List.eq_nil_of_length_eq_zero h.len
    subst this
    cases A with
    | none => exact Src.ofNil w Try.underlying22 c
    | some a => exact Src.ofSlice w Try.underlying22 a 0 c [] rfl (fun j u hu => by cases hu) (fun u hu => by cases hu)
  · obtain ⟨b, o, rfl, _, hc⟩ := h.at_ h0
    refine Src.ofSlice w Try.underlying22 _ n c _ (by simp [h.len]) (fun j u hu => ?_) (fun u hu => ?_)
    · rw [List.getElem?_map] at hu
      obtain ⟨x, hx, rfl⟩ := Option.map_eq_some_iff.1 hu
      obtain ⟨hj, rfl⟩ := List.getElem?_eq_some_iff.1 hx
      rw [add_plain]; exact hc j hj
    · obtain ⟨x, _, rfl⟩ := List.mem_map.1 hu
      rfl
set_option maxRecDepth 100000 in
theorem run_appClip (w : World) (ty : TypeId) (A : Option Addr) (n : Nat) (l : List Int) (h : Nums .i64 w A n n l) (A2 : Option Addr) (m c2 : Nat) (l2 : List Int) (h2 : Nums .i64 w A2 m c2 l2) (hlen : n + m ≤ 1099511627776) :
    ∃ A' c' w', (Builtin.append_ #[22, 22] ty #[.slice A n n, .slice A2 m c2]).run Try.prog w = .ok (.slice A' (n + m) c') w' ∧ Nums .i64 w' A' (n + m) c' (l ++ l2) ∧ E w w' ∧ ((A' = A ∧ m = 0) ∨ A' = some ⟨w.heap.size, 0, none⟩) := by
  obtain ⟨i, hi, hz0, hz1, hz2⟩ := info_parts intTk.info
  have hs := nums_src h2
  rcases Nat.eq_zero_or_pos m with h0 | h0
  · subst h0
    have := List.eq_nil_of_length_eq_zero h2.len
    subst this
    refine ⟨A, n, w, ?_, by simpa using h, E.refl _, .inl ⟨rfl, rfl⟩⟩
    have hfc := hs.cells
    simp only [List.map_nil] at hfc
    cases A with
    | none => simp [Builtin.append_, run_underlying intTk.und, sizeOf, typeInfo, hi, Builtin.lenOf, hz1, hfc]
    | some a => simp [Builtin.append_, run_underlying intTk.und, sizeOf, typeInfo, hi, Builtin.lenOf, hz1, hfc, storeCells]
  · have hold : (Builtin.firstCells i.size n (.slice A n n)).run Try.prog w.drew = .ok (l.map (Value.int .i64)).toArray w.drew := by rw [hz1]; exact (nums_src h).cellsD
    have hr := run_append_grow_src (P := Try.prog) w 22 22 ty 3 i (.int .i64 0) intTk.und hi hz0 A n n (l.map (Value.int .i64)) hold (.slice A2 m c2) m (l2.map (Value.int .i64)) (by rw [hz1]; exact hs) (by omega) (by omega)
      (growslice_fits (by omega) (by rw [hz2]; omega))
    refine ⟨_, _, _, hr, ⟨by simp [h.len, h2.len], ?_, ?_, ?_, fun _ => ⟨w.heap.size, 0, rfl, by simp, fun j hj => ?_⟩⟩, ((E.refl w).drew).alloc _, .inr rfl⟩
    · exact grownCap_ge _ _ _ _
    · exact grownCap_le_maxLen _ _ _ _ (by unfold maxLen; omega)
    · intro x hx
      rcases List.mem_append.1 hx with hx | hx
      · exact h.wf x hx
      · exact h2.wf x hx
    · have hb := heap_alloc_new w.drew (.cells (((l.map (Value.int .i64)) ++ (l2.map (Value.int .i64))).toArray ++ Builtin.zeroCells (Value.int .i64 0).cells (grownCap w (n + m) n 3 - (n + m))) 3)
      rw [Nat.zero_add, cell_of_row _ w.heap.size j _ _ _ hb]
      rw [← List.map_append]
      rw [Array.getElem?_append_left (by simp; simp at hj; omega)]
      simp only [List.getElem?_toArray, List.getElem?_map]
      rw [List.getElem?_eq_getElem hj]
      rfl
end Go.Proofs.Ytpbkfpkgbfifaaa
