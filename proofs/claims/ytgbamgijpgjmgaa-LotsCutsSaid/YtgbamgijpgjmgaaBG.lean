/- Lemmas of the claim, joined: Sl Ss VA VB VC VD. No condition. -/
import Derived.Ground.SlsfProg
import Derived.Shelf.SlSortCmp.NoneTotal
import Derived.Shelf.SlGeneric
import Derived.Test.YtgbamgijpgjmgaaProg
import Derived.Ground.SlsoProg
import Derived.Shelf.SlSorted.Search
import Derived.Test.YtgbamgijpgjmgaaBE
import Derived.Test.YtgbamgijpgjmgaaBF
/-
  DERIVED: THE SHELF's CONTRACTS AT THIS DUMP, IN PLAIN WORDS (tools/lay-plain.mjs out of 'YtgbamgijpgjmgaaSl.lean', which tools/lay-shelf.mjs wrote): THE SAME DECLARATIONS UNDER THE SAME NAMES: 'import', 'namespace', 'open', 'def', 'theorem' AND NOTHING ELSE: no command of the shelf's: FOR A HAND-IN. Each laying: the table of numbers ('.._ren') and one theorem, a field a fact of the dump's own or the kernel's comparison; each contract: ONE APPLICATION.
-/
namespace Go.Proofs
open Go.Shelf
def Try.sortFuncL_ren : Go.Shelf.Ren := ⟨fun | 6 => 86 | 15 => 97 | 14 => 106 | 28 => 117 | 29 => 118 | 20 => 119 | 21 => 120 | 22 => 121 | 23 => 122 | 24 => 123 | 25 => 124 | 26 => 125 | 27 => 126 | 46 => 132 | 47 => 128 | 48 => 129 | 49 => 133 | 50 => 134 | 57 => 136 | n => n, fun | 22 => 22 | 24 => 39 | 25 => 100 | 3 => 3 | 39 => 106 | 0 => 0 | 53 => 130 | 55 => 60 | 4 => 4 | 46 => 123 | 45 => 122 | 50 => 127 | 5 => 5 | 9 => 9 | 66 => 136 | 70 => 139 | 76 => 143 | 77 => 144 | n => n, fun | n => n⟩
theorem Try.sortFuncL : Go.Proofs.SlLaysF0.n6 Try.prog Try.sortFuncL_ren := {
  mixed := by kernel_rfl
  f6 := ⟨Try.f86.name, by decide, Try.func86.trans (congrArg some (by kernel_rfl))⟩
  f14 := ⟨Try.f106.name, by decide, Try.func106.trans (congrArg some (by kernel_rfl))⟩
  f15 := Try.func97.trans (congrArg some (by kernel_rfl))
  f20 := ⟨Try.f119.name, by decide, Try.func119.trans (congrArg some (by kernel_rfl))⟩
  f21 := ⟨Try.f120.name, by decide, Try.func120.trans (congrArg some (by kernel_rfl))⟩
  f22 := ⟨Try.f121.name, by decide, Try.func121.trans (congrArg some (by kernel_rfl))⟩
  f23 := ⟨Try.f122.name, by decide, Try.func122.trans (congrArg some (by kernel_rfl))⟩
  f24 := ⟨Try.f123.name, by decide, Try.func123.trans (congrArg some (by kernel_rfl))⟩
  f25 := ⟨Try.f124.name, by decide, Try.func124.trans (congrArg some (by kernel_rfl))⟩
  f26 := ⟨Try.f125.name, by decide, Try.func125.trans (congrArg some (by kernel_rfl))⟩
  f27 := ⟨Try.f126.name, by decide, Try.func126.trans (congrArg some (by kernel_rfl))⟩
  f28 := Try.func117.trans (congrArg some (by kernel_rfl))
  f29 := Try.func118.trans (congrArg some (by kernel_rfl))
  f46 := ⟨Try.f132.name, by decide, Try.func132.trans (congrArg some (by kernel_rfl))⟩
  f47 := Try.func128.trans (congrArg some (by kernel_rfl))
  f48 := Try.func129.trans (congrArg some (by kernel_rfl))
  f49 := ⟨Try.f133.name, by decide, Try.func133.trans (congrArg some (by kernel_rfl))⟩
  f50 := ⟨Try.f134.name, by decide, Try.func134.trans (congrArg some (by kernel_rfl))⟩
  f57 := ⟨Try.f136.name, by decide, Try.func136.trans (congrArg some (by kernel_rfl))⟩
  t0 := Try.underlying0
  a0 := Try.isAgg0
  z0 := Try.sizeOf0
  v0 := Try.zeroValue0
  t3 := Try.underlying3
  a3 := Try.isAgg3
  z3 := Try.sizeOf3
  v3 := Try.zeroValue3
  t4 := Try.underlying4
  a4 := Try.isAgg4
  z4 := Try.sizeOf4
  v4 := Try.zeroValue4
  t5 := Try.underlying5
  a5 := Try.isAgg5
  z5 := Try.sizeOf5
  v5 := Try.zeroValue5
  t9 := Try.underlying9
  a9 := Try.isAgg9
  z9 := Try.sizeOf9
  v9 := Try.zeroValue9
  t22 := Try.underlying22
  a22 := Try.isAgg22
  z22 := Try.sizeOf22
  v22 := Try.zeroValue22
  t25 := Try.underlying100
  a25 := Try.isAgg100
  z25 := Try.sizeOf100
  v25 := Try.zeroValue100
  t39 := Try.underlying106
  a39 := Try.isAgg106
  z39 := Try.sizeOf106
  v39 := Try.zeroValue106
  t45 := Try.underlying122
  a45 := Try.isAgg122
  z45 := Try.sizeOf122
  v45 := Try.zeroValue122
  t46 := Try.underlying123
  a46 := Try.isAgg123
  z46 := Try.sizeOf123
  v46 := Try.zeroValue123
  t50 := Try.underlying127
  a50 := Try.isAgg127
  z50 := Try.sizeOf127
  v50 := Try.zeroValue127
  t53 := Try.underlying130
  a53 := Try.isAgg130
  z53 := Try.sizeOf130
  v53 := Try.zeroValue130
  t55 := Try.underlying60
  a55 := Try.isAgg60
  z55 := Try.sizeOf60
  v55 := Try.zeroValue60
  t66 := Try.underlying136
  a66 := Try.isAgg136
  z66 := Try.sizeOf136
  v66 := Try.zeroValue136
  t70 := Try.underlying139
  a70 := Try.isAgg139
  z70 := Try.sizeOf139
  v70 := Try.zeroValue139
  t76 := Try.underlying143
  a76 := Try.isAgg143
  z76 := Try.sizeOf143
  v76 := Try.zeroValue143
  t77 := Try.underlying144
  a77 := Try.isAgg144
  z77 := Try.sizeOf144
  v77 := Try.zeroValue144 }
end Go.Proofs
/-
  DERIVED: THE SHELF's CONTRACTS AT THIS DUMP, IN PLAIN WORDS (tools/lay-plain.mjs out of 'YtgbamgijpgjmgaaSs.lean', which tools/lay-shelf.mjs wrote): THE SAME DECLARATIONS UNDER THE SAME NAMES: 'import', 'namespace', 'open', 'def', 'theorem' AND NOTHING ELSE: no command of the shelf's: FOR A HAND-IN. Each laying: the table of numbers ('.._ren') and one theorem, a field a fact of the dump's own or the kernel's comparison; each contract: ONE APPLICATION.
-/
namespace Go.Proofs
open Go.Shelf
def Try.searchS_ren : Go.Shelf.Ren := ⟨fun | 16 => 104 | n => n, fun | 3 => 3 | 35 => 89 | 4 => 4 | 38 => 106 | n => n, fun | n => n⟩
theorem Try.searchS : Go.Proofs.SlLaysO.n16 Try.prog Try.searchS_ren := {
  mixed := by kernel_rfl
  f16 := Try.func104.trans (congrArg some (by kernel_rfl))
  t3 := Try.underlying3
  a3 := Try.isAgg3
  z3 := Try.sizeOf3
  v3 := Try.zeroValue3
  t4 := Try.underlying4
  a4 := Try.isAgg4
  z4 := Try.sizeOf4
  v4 := Try.zeroValue4
  t35 := Try.underlying89
  a35 := Try.isAgg89
  z35 := Try.sizeOf89
  v35 := Try.zeroValue89
  t38 := Try.underlying106
  a38 := Try.isAgg106
  z38 := Try.sizeOf106
  v38 := Try.zeroValue106 }
end Go.Proofs
/- The sort of lots: by flow, then by place. -/
namespace Go.Proofs.Ytgbamgijpgjmgaa
open Go.RowKit Go.Sort

def cmpL (x y : Lt) : Int := orI (cmpI x.1 y.1) (cmpI x.2.1 y.2.1)
theorem grow3 (W : World) (o1 o2 o3 : Obj) : (((W.alloc o1).alloc o2).drew).alloc o3 = grow (W.drewN 1) #[o1, o2, o3] := by
  show (((W.drewN 1).alloc o1).alloc o2).alloc o3 = _
  rw [alloc_eq_grow, alloc_eq_grow, alloc_eq_grow, grow_grow, grow_grow]
  rfl
set_option maxHeartbeats 4000000 in
set_option maxRecDepth 100000 in
theorem setLess_c (x y : Lt) (W : World) : Calls Try.prog 87 #[ltV x, ltV y] W fun e w' => e = .returned (.int .i64 (cmpL x y)) ∧ ∃ q os, w' = grow (W.drewN q) os := by
  have HF := Lib.hid (show cmpL x y = orI (cmpI x.1 y.1) (cmpI x.2.1 y.2.1) from rfl)
  generalize cmpL x y = v at *
  obtain ⟨f, a, m⟩ := x
  obtain ⟨f', a', m'⟩ := y
  unfold ltV
  simp only at HF
  obtain ⟨w1, hw1⟩ : ∃ w1, (W.alloc (.cells #[.int .i64 f, .int .i64 a, .int .i64 m] 39)).alloc (.cells #[.int .i64 f', .int .i64 a', .int .i64 m'] 39) = w1 := ⟨_, rfl⟩
  have hz : w1.heap.size = W.heap.size + 2 := by rw [← hw1]; simp
  have c := cells3_new W (.int .i64 f) (.int .i64 a) (.int .i64 m) 39
  have e := cells3_new (W.alloc (.cells #[.int .i64 f, .int .i64 a, .int .i64 m] 39)) (.int .i64 f') (.int .i64 a') (.int .i64 m') 39
  rw [World.size_alloc, hw1] at e
  have hE1 : E (W.alloc (.cells #[.int .i64 f, .int .i64 a, .int .i64 m] 39)) w1 := by rw [← hw1]; exact (E.refl _).alloc _
  have c0 : w1.cell? ⟨W.heap.size, 0, none⟩ = some (.int .i64 f) := (hE1.cell (p := ⟨W.heap.size, 0, none⟩) (by simp)).trans c.1
  have c1 : w1.cell? ⟨W.heap.size, 1, none⟩ = some (.int .i64 a) := (hE1.cell (p := ⟨W.heap.size, 1, none⟩) (by simp)).trans c.2.1
  obtain ⟨e0, e1, _⟩ := e
  have HW1 := Lib.hid hw1
  clear hw1 c hE1 hz
  go_enter Try.func87, Try.ntmps87
  go_upto_region 1 with fail
  rw [HW1.out]
  go_region_held3 (fun w' => w'.cell? ⟨W.heap.size, 0, none⟩ = some (.int .i64 f) ∧ w'.cell? ⟨W.heap.size, 1, none⟩ = some (.int .i64 a) ∧ w'.cell? ⟨W.heap.size + 1, 0, none⟩ = some (.int .i64 f') ∧ w'.cell? ⟨W.heap.size + 1, 1, none⟩ = some (.int .i64 a')) (go_keep)
    (first
      | (go_at_call 80; refine (cmpI64_c _ _ _).mono ?_; rintro e w' ⟨rfl, rfl⟩)
      | (go_at_call 78; refine (cmpOr_c _ (cmpI f f') (cmpI a a') _ (by simp [World.cell?_alloc_new]) (by simp [World.cell?_alloc_new])).mono ?_; rintro e w' ⟨rfl, rfl⟩))
  all_goals go_wp2_with fail
  all_goals (go_ret; exact ⟨ret_int HF.out.symm, 1, _, by rw [← HW1.out]; exact grow3 W _ _ _⟩)

theorem cmpL_lt (x y : Lt) : ltOf cmpL x y = true ↔ x.1 < y.1 ∨ (x.1 = y.1 ∧ x.2.1 < y.2.1) := by
  unfold ltOf
  rw [decide_eq_true_eq]
  unfold cmpL orI cmpI
  by_cases h1 : x.1 < y.1
  · rw [if_pos h1]; simp; omega
  · rw [if_neg h1]
    by_cases h2 : y.1 < x.1
    · rw [if_pos h2]; simp; omega
    · rw [if_neg h2, if_pos rfl]
      by_cases h3 : x.2.1 < y.2.1
      · rw [if_pos h3]; omega
      · rw [if_neg h3]; split <;> omega
theorem cmpL_swo : SWO (ltOf cmpL) where
  irrefl x := by rw [Bool.eq_false_iff, ne_eq, cmpL_lt]; omega
  trans x y z h1 h2 := by rw [cmpL_lt] at *; omega
  ntrans x y z h1 h2 := by rw [Bool.eq_false_iff, ne_eq, cmpL_lt] at *; omega
def encL (x : Lt) : List Value := [.int .i64 x.1, .int .i64 x.2.1, .int .i64 x.2.2]
theorem flatK_L (d : Array Lt) : (flatK encL 3 d).toList = flatL d.toList := by
  apply List.ext_getElem?
  intro t
  by_cases h : t < d.size * 3
  · have hi : t / 3 < d.toList.length := by rw [Array.length_toList]; omega
    obtain ⟨c0, c1, c2⟩ := flatL_at d.toList (t / 3) _ (List.getElem?_eq_getElem hi)
    have hg := get_flatK encL 3 d t h
    have hd : d[t / 3]! = d.toList[t / 3]'hi := by
      have hi' : t / 3 < d.size := by rw [← Array.length_toList]; exact hi
      have := getElem!_pos d (t / 3) hi'
      rw [this]
      simp
    have hs : t < (flatK encL 3 d).size := by rw [size_flatK]; exact h
    have e1 : (flatK encL 3 d).toList[t]? = some (flatK encL 3 d)[t]! := by
      have h2 := getElem!_pos (flatK encL 3 d) t hs
      rw [Array.getElem?_toList, Array.getElem?_eq_getElem hs, h2]
    rw [e1, hg, hd]
    have h3 : t % 3 = 0 ∨ t % 3 = 1 ∨ t % 3 = 2 := by omega
    rcases h3 with h3 | h3 | h3
    · have e : t = t / 3 * 3 := by omega
      exact (by rw [h3]; rfl : some (encL (d.toList[t / 3]'hi))[t % 3]! = _).trans (c0.symm.trans (congrArg (fun j => (flatL d.toList)[j]?) e).symm)
    · have e : t = t / 3 * 3 + 1 := by omega
      exact (by rw [h3]; rfl : some (encL (d.toList[t / 3]'hi))[t % 3]! = _).trans (c1.symm.trans (congrArg (fun j => (flatL d.toList)[j]?) e).symm)
    · have e : t = t / 3 * 3 + 2 := by omega
      exact (by rw [h3]; rfl : some (encL (d.toList[t / 3]'hi))[t % 3]! = _).trans (c2.symm.trans (congrArg (fun j => (flatL d.toList)[j]?) e).symm)
  · rw [List.getElem?_eq_none (by rw [Array.length_toList, size_flatK]; omega), List.getElem?_eq_none (by rw [flatL_len, Array.length_toList]; omega)]
/-! the sorted row of lots (the kit's laws for integers, for values as they are) -/
theorem take_putV (cur : Array Value) (F : Array Value) (h : F.size ≤ cur.size) : (putCells id 0 F cur).toList.take F.size = F.toList := by
  apply List.ext_getElem?
  intro j
  by_cases hj : j < F.size
  · rw [List.getElem?_take_of_lt hj, Array.getElem?_toList, Array.getElem?_toList]
    simp [putCells, hj, show j < cur.size by omega]
  · rw [List.getElem?_take_eq_none (by omega), List.getElem?_eq_none (by simp; omega)]
theorem heap_sortedV {w : World} {g n : Nat} {os : Array Obj} {cur : Array Value} {e : TypeId} {fr : Nat × Nat} (F : Array Value) (hb : w.heap[g]? = some (.cells cur e fr)) :
    (grow (putRow id (Sort.ahead w n) g 0 F) os).heap[g]? = some (.cells (putCells id 0 F cur) e fr) := by
  have hg : g < w.heap.size := (Array.getElem?_eq_some_iff.1 hb).1
  rw [heap_grow_old _ _ (by simpa using hg)]
  simp [putRow, mapBlock, Sort.ahead, Array.getElem?_modify, hb, onCells]
theorem grownBy_sortedV {w : World} {g n : Nat} {os : Array Obj} (F : Array Value) : w.grownBy (grow (putRow id (Sort.ahead w n) g 0 F) os) (some g) := by
  refine ⟨rfl, rfl, rfl, by simp, fun k hk hne => ?_⟩
  rw [heap_grow_old _ _ (by simpa using hk)]
  have : g ≠ k := fun e => hne (by rw [e])
  simp [putRow, mapBlock, Sort.ahead, Array.getElem?_modify, this]
theorem holdsV {w : World} {g : Nat} {cur : Array Value} {e : TypeId} (F : Array Value) (hb : w.heap[g]? = some (.cells cur e (0, 0))) (ht : cur.toList.take F.size = F.toList) : Holds id w g 0 F := by
  intro j hj
  refine ⟨?_, by simp [World.frozen?, hb]⟩
  have h1 : (cur.toList.take F.size)[j]? = F.toList[j]? := by rw [ht]
  rw [List.getElem?_take_of_lt hj] at h1
  simp only [World.cell?, hb, Nat.zero_add]
  simp only [Option.isSome_none, Bool.false_eq_true, if_false]
  rw [← Array.getElem?_toList, h1]
  simp [hj]
set_option maxHeartbeats 1000000 in
set_option maxRecDepth 100000 in
/-- slices.SortFunc on a row of the call's own -/
theorem sortL_c (A : Option Addr) (n c base : Nat) (l : List Lt) (w : World) (h : OwnL w base A n c l) (hn : n ≤ 1000000) :
    Calls Try.prog 86 #[.slice A n c, .func (.func 87) #[] #[]] w fun e w' => e = .returned (.tuple #[]) ∧ ∃ l', l'.Perm l ∧ l'.Pairwise (fun x y => ltOf cmpL y x = false) ∧ OwnL w' base A n c l' ∧ w.grownBy w' (ob A) := by
  rcases Nat.eq_zero_or_pos n with h0 | h0
  · subst h0
    have hl : l = [] := List.eq_nil_of_length_eq_zero h.1
    subst hl
    have hS := AnyF.slices_SortFunc_none Try.sortFuncL A c (.func (.func 87) #[] #[]) w
    change Calls Try.prog 86 _ _ _ at hS
    refine hS.mono ?_
    rintro e w' ⟨rfl, rfl⟩
    exact ⟨rfl, [], List.Perm.refl _, List.Pairwise.nil, h, World.grownBy.refl w' _⟩
  · obtain ⟨a1, ⟨a0, a2⟩, a3⟩ := h
    rcases a2 with ⟨hv, _⟩ | ⟨g, cap, cur, hv, hbase, hh, hnc, hcm, hsz, htk⟩
    · injection hv with e1 e2; omega
    injection hv with e1 e2 e3
    subst e1 e3
    have hF : (flatK encL 3 l.toArray).toList = flatL l := flatK_L l.toArray
    have hFs : (flatK encL 3 l.toArray).size = n * 3 := by rw [size_flatK]; simp [a1]
    have hH : HoldsK encL 3 w g 0 l.toArray := holdsV _ hh (by rw [hFs, hF]; exact htk)
    have hlt : g < w.heap.size := lt_blk hh
    have eg : ∀ args w, (callFunc 87 args).run Try.prog w = .ok (.enter 87 args) w := enters_of Try.func87 (by kernel_rfl) rfl
    have hcmp : CmpLays Try.prog 87 #[] encL 3 cmpL g 0 l.toArray.size w := fun m os dk _ x y => setLess_c x y _
    have hS := AnyQ.slices_SortFunc Try.sortFuncL 3 Try.isAgg39 Try.sizeOf39 encL (fun _ => rfl) (fun x v hv => by simp [encL] at hv; rcases hv with rfl | rfl | rfl <;> rfl) cmpL cmpL_swo 87 #[] g 0 c l.toArray w eg hcmp hH hlt (by simp [a1]; omega)
    change Calls Try.prog 86 _ _ _ at hS
    have hsz' : l.toArray.size = n := by simp [a1]
    rw [hsz'] at hS
    refine hS.mono ?_
    rintro e w' ⟨rfl, d', m, os, ⟨p1, _, p3⟩, hs, rfl⟩
    rw [hsz'] at p1
    have pp : d'.toList.Perm l := by
      have e1 : d'.extract 0 n = d' := by rw [← p1]; simp
      have e2 : l.toArray.extract 0 n = l.toArray := by rw [← hsz']; simp
      rw [e1, e2] at p3
      exact p3
    have hFd : (flatK encL 3 d').toList = flatL d'.toList := flatK_L d'
    have hFds : (flatK encL 3 d').size = n * 3 := by rw [size_flatK, p1]
    refine ⟨rfl, d'.toList, pp, ?_, ⟨by rw [Array.length_toList, p1], ⟨by rw [flatL_len, Array.length_toList, p1], .inr ⟨g, c, _, rfl, hbase, heap_sortedV _ hh, hnc, hcm, by simp [putCells, hsz], ?_⟩⟩, fun x hx => a3 x (pp.mem_iff.1 hx)⟩, grownBy_sortedV _⟩
    · rw [List.pairwise_iff_getElem]
      intro i j hi hj hij
      have := hs i j (Nat.zero_le _) hij (by rw [Array.length_toList, p1] at hj; exact hj)
      rw [getElem!_pos d' j (by simpa using hj), getElem!_pos d' i (by simpa using hi)] at this
      simpa using this
    · rw [← hFds, take_putV _ _ (by rw [hFds, hsz]; exact Nat.mul_le_mul_right 3 hnc), hFd]
end Go.Proofs.Ytgbamgijpgjmgaa
/- spans.Set. -/
namespace Go.Proofs.Ytgbamgijpgjmgaa
open Go.RowKit Go.Sort

theorem canon_join {T : List Lt} {p x : Lt} (h : Canon (T ++ [p])) (h1 : p.1 = x.1) (h2 : p.2.1 ≤ x.2.1) (h3 : x.2.1 ≤ p.2.1 + p.2.2) :
    Canon (T ++ [(p.1, p.2.1, max p.2.2 (x.2.1 + x.2.2 - p.2.1))]) ∧ ∀ u, u ∈ U (T ++ [(p.1, p.2.1, max p.2.2 (x.2.1 + x.2.2 - p.2.1))]) ↔ u ∈ U (T ++ [p]) ∨ u ∈ ul x := by
  have hp := h.pos p (by simp)
  refine ⟨canon_wide h rfl rfl (by simp only; omega), fun u => ?_⟩
  rw [U_app, U_app, U_one, U_one, List.mem_append, List.mem_append, mem_ul, mem_ul, mem_ul]
  simp only
  constructor
  · rintro (h | h)
    · exact .inl (.inl h)
    · by_cases hh : u.2 < p.2.1 + p.2.2
      · exact .inl (.inr ⟨h.1, h.2.1, hh⟩)
      · exact .inr ⟨by omega, by omega, by omega⟩
  · rintro ((h | h) | h)
    · exact .inl h
    · exact .inr ⟨h.1, h.2.1, by omega⟩
    · exact .inr ⟨by omega, by omega, by omega⟩
theorem mem_U_snoc (S : List Lt) (x : Lt) (u : Un) : u ∈ U (S ++ [x]) ↔ u ∈ U S ∨ u ∈ ul x := by rw [U_app, U_one, List.mem_append]
theorem U_take_succ {l : List Lt} {k : Nat} {x : Lt} (h : l[k]? = some x) : l.take (k + 1) = l.take k ++ [x] := by rw [List.take_add_one, h]; rfl
/-- the set of the first k lots of a sorted list -/
structure SetSt (l : List Lt) (k : Nat) (S : List Lt) : Prop where
  can : Canon S
  mem : ∀ u, u ∈ U S ↔ u ∈ U (l.take k)
  ini : ∀ p ∈ S, ∃ y ∈ l.take k, y.1 = p.1 ∧ y.2.1 = p.2.1
  poss : ∀ p ∈ S, possB p = true
theorem SetSt.start (l : List Lt) : SetSt l 0 [] := ⟨Canon.nil, fun u => by simp [U_nil], by simp, by simp⟩
theorem SetSt.before {l : List Lt} {k : Nat} {S : List Lt} {x p : Lt} (h : SetSt l k S) (hs : l.Pairwise fun x y => ltOf cmpL y x = false) (hx : l[k]? = some x) (hp : p ∈ S) : p.1 < x.1 ∨ (p.1 = x.1 ∧ p.2.1 ≤ x.2.1) := by
  obtain ⟨y, hy, e1, e2⟩ := h.ini p hp
  obtain ⟨i, hi, hyi⟩ := List.getElem_of_mem hy
  rw [List.length_take] at hi
  obtain ⟨hk, hxk⟩ := List.getElem?_eq_some_iff.1 hx
  have := List.pairwise_iff_getElem.1 hs i k (by omega) hk (by omega)
  rw [List.getElem_take] at hyi
  rw [hyi, hxk, Bool.eq_false_iff, ne_eq, cmpL_lt] at this
  omega
theorem SetSt.first {l : List Lt} {k : Nat} {x : Lt} (h : SetSt l k []) (hx : l[k]? = some x) (hpx : possB x = true) : SetSt l (k + 1) [x] := by
  have hp := possB_iff.1 hpx
  refine ⟨canon_one (by omega), fun u => ?_, fun p hp => ?_, fun p hp => ?_⟩
  · rw [U_take_succ hx, mem_U_snoc (l.take k) x, ← h.mem, U_nil, U_one]; simp
  · rw [List.mem_singleton] at hp; subst hp; exact ⟨p, by rw [U_take_succ hx]; simp, rfl, rfl⟩
  · rw [List.mem_singleton] at hp; subst hp; exact hpx
theorem SetSt.new {l : List Lt} {k : Nat} {T : List Lt} {x p : Lt} (h : SetSt l k (T ++ [p])) (hs : l.Pairwise fun x y => ltOf cmpL y x = false) (hx : l[k]? = some x) (hpx : possB x = true) (hn : ¬ (p.1 = x.1 ∧ x.2.1 ≤ p.2.1 + p.2.2)) : SetSt l (k + 1) (T ++ [p] ++ [x]) := by
  have hp := possB_iff.1 hpx
  have hb := h.before hs hx (p := p) (by simp)
  refine ⟨canon_new h.can (by omega) (by unfold gapL; omega), fun u => ?_, fun q hq => ?_, fun q hq => ?_⟩
  · rw [U_take_succ hx, mem_U_snoc (T ++ [p]) x, mem_U_snoc (l.take k) x, ← h.mem]
  · rw [U_take_succ hx]
    rcases List.mem_append.1 hq with hq | hq
    · obtain ⟨y, hy, e⟩ := h.ini q hq
      exact ⟨y, List.mem_append_left _ hy, e⟩
    · rw [List.mem_singleton] at hq; subst hq; exact ⟨q, by simp, rfl, rfl⟩
  · rcases List.mem_append.1 hq with hq | hq
    · exact h.poss q hq
    · rw [List.mem_singleton] at hq; subst hq; exact hpx
theorem SetSt.join {l : List Lt} {k : Nat} {T : List Lt} {x p : Lt} (h : SetSt l k (T ++ [p])) (hs : l.Pairwise fun x y => ltOf cmpL y x = false) (hx : l[k]? = some x) (hpx : possB x = true) (hn : p.1 = x.1 ∧ x.2.1 ≤ p.2.1 + p.2.2) : SetSt l (k + 1) (T ++ [(p.1, p.2.1, max p.2.2 (x.2.1 + x.2.2 - p.2.1))]) := by
  have hp := possB_iff.1 hpx
  have hpp := possB_iff.1 (h.poss p (by simp))
  have hb := h.before hs hx (p := p) (by simp)
  obtain ⟨c1, c2⟩ := canon_join h.can hn.1 (by omega) hn.2
  refine ⟨c1, fun u => ?_, fun q hq => ?_, fun q hq => ?_⟩
  · rw [c2, U_take_succ hx, mem_U_snoc (l.take k) x, ← h.mem]
  · rw [U_take_succ hx]
    rcases List.mem_append.1 hq with hq | hq
    · obtain ⟨y, hy, e⟩ := h.ini q (List.mem_append_left _ hq)
      exact ⟨y, List.mem_append_left _ hy, e⟩
    · rw [List.mem_singleton] at hq; subst hq
      obtain ⟨y, hy, e⟩ := h.ini p (by simp)
      exact ⟨y, List.mem_append_left _ hy, e⟩
  · rcases List.mem_append.1 hq with hq | hq
    · exact h.poss q (List.mem_append_left _ hq)
    · rw [List.mem_singleton] at hq; subst hq
      rw [possB_iff]; simp only; omega
theorem perm_U {l l' : List Lt} (h : l'.Perm l) (u : Un) : u ∈ U l' ↔ u ∈ U l := by
  rw [mem_U, mem_U]
  constructor
  · rintro ⟨x, hx, hu⟩; exact ⟨x, h.mem_iff.1 hx, hu⟩
  · rintro ⟨x, hx, hu⟩; exact ⟨x, h.mem_iff.2 hx, hu⟩
theorem SetSt.done {l l' : List Lt} {k : Nat} {S : List Lt} (h : SetSt l' k S) (hp : l'.Perm l) (hk : l'.length ≤ k) : S = setS l := by
  refine h.can.eq_set fun u => ?_
  rw [h.mem, List.take_of_length_le hk, perm_U hp]

set_option maxHeartbeats 16000000 in
set_option maxRecDepth 100000 in
theorem spSet_c (A : Option Addr) (n c : Nat) (l : List Lt) (w : World) (h : LotsAt w A n c l) (hl : ∀ x ∈ l, possB x = true) (hn : n ≤ 100000) :
    Calls Try.prog 61 #[.slice A n c] w (RetL w (setS l)) := by
  have HC := Lib.hid (cloneL_c A n c l w h (by omega))
  have HL := Lib.hid hl
  have HLen := Lib.hid h.len
  have hm63 := h.n63
  clear hl h
  generalize hr : setS l = r at *
  have HR := Lib.hid hr
  clear hr
  go_enter Try.func61, Try.ntmps61
  go_wp2_with fail
  refine HC.out.mono ?_
  rintro e w2 ⟨A2, n2, c2, rfl, hO2, hE2⟩
  have hn2 : n2 = n := by rw [← hO2.1, HLen.out]
  subst hn2
  have HS := Lib.hid (sortL_c A2 n2 c2 w.heap.size l w2 hO2 (by omega))
  clear hO2
  go_wp2_with fail
  refine HS.out.mono ?_
  rintro e w3 ⟨rfl, ls, hperm, hsrt, hO3, hG3⟩
  have hE3 := hE2.grown hG3 (fun k hk => (hO3.ltN k hk).1)
  have hA3 := hO3.reads
  have hls : ls.length = n2 := hO3.1
  have HP := Lib.hid (And.intro hperm hsrt)
  have HPo := Lib.hid (fun x hx => HL.out x (hperm.mem_iff.1 hx))
  have HLs := Lib.hid hls
  clear hperm hsrt hG3 hls hE2
  go_wp2_with fail
  go_loopw [4, 15] (fun ts ti wr => ∃ (k n1 c1 : Nat) (A1 : Option Addr) (S : List Lt), k ≤ n2 ∧ ti = .int .i64 k ∧ ts = .slice A1 n1 c1 ∧ OwnL wr w3.heap.size A1 n1 c1 S ∧ n1 ≤ k ∧ E w3 wr ∧ Hid (SetSt ls k S)) (fun _ ti _ => n2 - (intOf ti).toNat)
  case atStart => exact ⟨0, 0, 0, none, [], Nat.zero_le _, rfl, rfl, OwnL.nil _ _, Nat.le_refl _, E.refl _, SetSt.start ls⟩
  case round =>
    obtain ⟨k, n1, c1, A1, S, hk, rfl, rfl, hO, hn1, hE, hS⟩ := hrel
    by_cases hlt : k < n2
    · obtain ⟨b, o, x, rfl, hb, hx, hwx, d0, d1, d2⟩ := (hA3.e hE).get hlt
      have hkI : (k : Int) < (n2 : Int) := by omega
      have hpx := HPo.out x (List.mem_of_getElem? hx)
      have HX := Lib.hid hx
      have HPX := Lib.hid hpx
      have hxx := possB_iff.1 hpx
      obtain ⟨w4, hw4⟩ : ∃ w4, wr.alloc (.cells #[.int .i64 x.1, .int .i64 x.2.1, .int .i64 x.2.2] 39) = w4 := ⟨_, rfl⟩
      have hE4 : E wr w4 := by rw [← hw4]; exact (E.refl wr).alloc _
      have hB4 : LotsAt w4 (some ⟨wr.heap.size, 0, none⟩) 1 1 [x] := by rw [← hw4]; exact lot_new hwx
      obtain ⟨_, _, _, e1, hbb, e2, _, f0, f1, f2⟩ := hB4.get (i := 0) (by omega)
      injection e1 with e1; injection e1 with e1 e1'; subst e1 e1'
      simp at e2; subst e2
      simp only [Nat.zero_mul, Nat.zero_add] at f0 f1 f2
      have hO4 := hO.e hE4
      have hle4 : w3.heap.size ≤ w4.heap.size := Nat.le_trans hE.le hE4.le
      have HW4 := Lib.hid hw4
      have HB4 := Lib.hid hB4
      have HO4 := Lib.hid hO4
      clear hx hpx hw4 hB4 hO hO4
      rcases snoc_cases S with rfl | ⟨T, p, rfl⟩
      · have HNew := Lib.hid (hS.out.first HX.out HPX.out)
        have HN0 := Lib.hid (show n1 = 0 by have := HO4.out.1; simpa using this.symm)
        obtain ⟨f, a, m⟩ := x
        simp only at d0 d1 d2 f0 f1 f2 HW4
        go_upto_region 7 with fail
        rw [HW4.out]
        clear HW4
        go_upto_region 8 with fail
        have dn : decide (0 < n1) = false := by have := HN0.out; simp; omega
        (refine wp_region_quiet_lit (by kernel_rfl) (by kernel_rfl) ?_; (repeat (first | ((with_reducible refine wpQuiet_step (fun K hK => ?_)); go_simp; (with_reducible refine hK _ ?_); clear hK K) | ((with_reducible refine wpQuiet_off (by kernel_rfl) (fun K hK => ?_)); go_simp; (with_reducible refine hK _ ?_); clear hK K))); (with_reducible refine wpQuiet_nil ?_); intro _ hw'; obtain ⟨nq, hw''⟩ := hw'; subst hw'')
        obtain ⟨wa, hwa⟩ : ∃ wa, w4.drewN nq = wa := ⟨_, rfl⟩
        have hEa : E w4 wa := by rw [← hwa]; exact (E.refl w4).drewN nq
        rw [hwa]
        clear hwa
        obtain ⟨_, _, _, e1, hbb2, e2, _, f0, f1, f2⟩ := (HB4.out.e hEa).get (i := 0) (by omega)
        injection e1 with e1; injection e1 with e1 e1'; subst e1 e1'
        simp at e2; subst e2
        simp only [Nat.zero_mul, Nat.zero_add] at f0 f1 f2
        have hO5 := HO4.out.e (hEa.alloc (.cells #[.int .i64 f, .int .i64 a, .int .i64 m] 39))
        have hb5 : w3.heap.size ≤ (wa.alloc (.cells #[.int .i64 f, .int .i64 a, .int .i64 m] 39)).heap.size := by rw [World.size_alloc]; have := hEa.le; omega
        have hL5 := lot_new (w := wa) hwx
        have hk5 : n1 + 1 ≤ 1099511627776 := by omega
        have HE5 := Lib.hid (((hE.trans hE4).trans hEa).alloc (.cells #[.int .i64 f, .int .i64 a, .int .i64 m] 39))
        go_wp2_with (at_builtin; refine wpList_appL _ rfl _ _ rfl w3.heap.size _ _ _ _ rfl hO5 _ 1 1 [(f, a, m)] rfl hL5 hk5 hb5 ?_; intro A6 c6 w6 hO6 hG6 hB6 hor6)
        have hE6 := HE5.out.up hB6
        clear hO5 hb5 hL5 hG6 hB6 hor6
        first
          | exact ⟨⟨k + 1, n1 + 1, c6, A6, _, by omega, by go_num, rfl, hO6, by omega, hE6, HNew.out⟩, by simp [intOf]; omega⟩
          | (go_roundw
             case rel => exact ⟨k + 1, n1 + 1, c6, A6, _, by omega, by go_num, rfl, hO6, by omega, hE6, HNew.out⟩
             case measure => simp [intOf]; omega)
      · obtain ⟨kk, hnk⟩ : ∃ kk, n1 = kk + 1 := ⟨T.length, by have := HO4.out.1; simpa using this.symm⟩
        obtain ⟨hkk, g, rfl, hbg, hg, hpw, p0, p1, p2, pf⟩ := lots_last (k := kk) (by rw [← hnk]; exact HO4.out)
        have hpp := possB_iff.1 (hS.out.poss p (by simp))
        have hwr3 : IntKind.i64.wrap (p.2.1 + p.2.2) = p.2.1 + p.2.2 := by rw [IntKind.wrap_i64]; omega
        have hkkI : (kk : Int) < (n1 : Int) := by omega
        have hkk0 : (0 : Int) ≤ (kk : Int) := by omega
        have HN0 := Lib.hid (show (0 : Int) < (n1 : Int) by omega)
        have hn1' : IntKind.i64.wrap ((n1 : Int) - 1) = (kk : Int) := by rw [IntKind.wrap_i64]; omega
        have HNK := Lib.hid hnk
        have hbf := hS.out.before HP.out.2 HX.out (p := p) (by simp)
        clear hnk
        by_cases hc : p.1 = x.1 ∧ x.2.1 ≤ p.2.1 + p.2.2
        · have HNew := Lib.hid (hS.out.join HP.out.2 HX.out HPX.out hc)
          have bf : (p.1 == x.1) = true := by simpa using hc.1
          have ba : decide (x.2.1 ≤ p.2.1 + p.2.2) = true := by simpa using hc.2
          obtain ⟨v, hv⟩ : ∃ v, max p.2.2 (x.2.1 + x.2.2 - p.2.1) = v := ⟨_, rfl⟩
          have hmx := hv
          have hif : (if p.2.2 < x.2.1 + x.2.2 - p.2.1 then x.2.1 + x.2.2 - p.2.1 else p.2.2) = v := by split <;> omega
          have hwr4 : IntKind.i64.wrap (x.2.1 + x.2.2) = x.2.1 + x.2.2 := by rw [IntKind.wrap_i64]; omega
          have hwr5 : IntKind.i64.wrap (x.2.1 + x.2.2 - p.2.1) = x.2.1 + x.2.2 - p.2.1 := by rw [IntKind.wrap_i64]; omega
          have hvr : (Lit.int .i64 v).wf = true := wf_of_i64 (by omega) (by omega)
          rw [hv] at HNew
          clear hv hc hbf
          obtain ⟨f, a, m⟩ := x
          obtain ⟨fp, ap, np⟩ := p
          simp only at d0 d1 d2 f0 f1 f2 HW4 p0 p1 p2 bf ba hwr3 hmx hif hwr4 hwr5
          clear hpp hxx
          go_upto_region 7 with fail
          rw [HW4.out]
          clear HW4
          go_upto_region 8 with fail
          have dn : decide (0 < n1) = true := by have := HN0.out; simp; omega
          (refine wp_region_quiet_lit (by kernel_rfl) (by kernel_rfl) ?_; (repeat (first | ((with_reducible refine wpQuiet_step (fun K hK => ?_)); go_simp; (with_reducible refine hK _ ?_); clear hK K) | ((with_reducible refine wpQuiet_off (by kernel_rfl) (fun K hK => ?_)); go_simp; (with_reducible refine hK _ ?_); clear hK K))); (with_reducible refine wpQuiet_nil ?_); intro _ hw'; obtain ⟨nq, hw''⟩ := hw'; subst hw'')
          obtain ⟨wa, hwa⟩ : ∃ wa, w4.drewN nq = wa := ⟨_, rfl⟩
          have hEa : E w4 wa := by rw [← hwa]; exact (E.refl w4).drewN nq
          rw [hwa]
          clear hwa
          clear p0 p1 p2 pf f0 f1 f2
          obtain ⟨_, g', e', _, _, _, p0, p1, p2, pf⟩ := lots_last (k := kk) (by rw [← HNK.out]; exact HO4.out.e hEa)
          injection e' with e'; injection e' with e'; subst e'
          obtain ⟨_, _, _, e1, hbb2, e2, _, f0, f1, f2⟩ := (HB4.out.e hEa).get (i := 0) (by omega)
          injection e1 with e1; injection e1 with e1 e1'; subst e1 e1'
          simp at e2; subst e2
          simp only [Nat.zero_mul, Nat.zero_add] at f0 f1 f2 p0 p1 p2
          have hSet := (HO4.out.e hEa).setN (i := kk) (x := (fp, ap, np)) (y := (fp, ap, v)) (by rw [← hkk]; exact last_get _ _) rfl rfl hvr
          have hlast : (T ++ [(fp, ap, np)]).set kk (fp, ap, v) = T ++ [(fp, ap, v)] := by rw [← hkk]; exact set_last _ _ _
          rw [hlast] at hSet
          have HSet := Lib.hid hSet
          have HEa := Lib.hid ((hE.trans hE4).trans hEa)
          clear hSet hlast
          go_wp2_with fail
          go_region
          all_goals go_wp2_with fail
          have hE7 : E w3 (wa.setCell ⟨g, kk * 3 + 2, none⟩ (.int .i64 v)).drew := (HEa.out.setCell (p := ⟨g, kk * 3 + 2, none⟩) hbg _).drew
          have hO7 := HSet.out.1.e ((E.refl (wa.setCell ⟨g, kk * 3 + 2, none⟩ (.int .i64 v))).drew)
          first
            | exact ⟨⟨k + 1, n1, c1, _, _, by omega, by go_num, rfl, hO7, by omega, hE7, HNew.out⟩, by simp [intOf]; omega⟩
            | (go_roundw
               case rel => exact ⟨k + 1, n1, c1, _, _, by omega, by go_num, rfl, hO7, by omega, hE7, HNew.out⟩
               case measure => simp [intOf]; omega)
        · have HNew := Lib.hid (hS.out.new HP.out.2 HX.out HPX.out hc)
          by_cases hf : p.1 = x.1
          · have bf : (p.1 == x.1) = true := by simpa using hf
            have ba : decide (x.2.1 ≤ p.2.1 + p.2.2) = false := by simp; omega
            clear hf
            obtain ⟨f, a, m⟩ := x
            obtain ⟨fp, ap, np⟩ := p
            simp only at d0 d1 d2 f0 f1 f2 HW4 p0 p1 p2 bf ba hwr3
            clear hpp hxx hbf hc
            go_upto_region 7 with fail
            rw [HW4.out]
            clear HW4
            go_upto_region 8 with fail
            have dn : decide (0 < n1) = true := by have := HN0.out; simp; omega
            (refine wp_region_quiet_lit (by kernel_rfl) (by kernel_rfl) ?_; (repeat (first | ((with_reducible refine wpQuiet_step (fun K hK => ?_)); go_simp; (with_reducible refine hK _ ?_); clear hK K) | ((with_reducible refine wpQuiet_off (by kernel_rfl) (fun K hK => ?_)); go_simp; (with_reducible refine hK _ ?_); clear hK K))); (with_reducible refine wpQuiet_nil ?_); intro _ hw'; obtain ⟨nq, hw''⟩ := hw'; subst hw'')
            obtain ⟨wa, hwa⟩ : ∃ wa, w4.drewN nq = wa := ⟨_, rfl⟩
            have hEa : E w4 wa := by rw [← hwa]; exact (E.refl w4).drewN nq
            rw [hwa]
            clear hwa f0 f1 f2
            obtain ⟨_, _, _, e1, hbb2, e2, _, f0, f1, f2⟩ := (HB4.out.e hEa).get (i := 0) (by omega)
            injection e1 with e1; injection e1 with e1 e1'; subst e1 e1'
            simp at e2; subst e2
            simp only [Nat.zero_mul, Nat.zero_add] at f0 f1 f2
            have hO5 := HO4.out.e (hEa.alloc (.cells #[.int .i64 f, .int .i64 a, .int .i64 m] 39))
            have hb5 : w3.heap.size ≤ (wa.alloc (.cells #[.int .i64 f, .int .i64 a, .int .i64 m] 39)).heap.size := by rw [World.size_alloc]; have := hEa.le; omega
            have hL5 := lot_new (w := wa) hwx
            have hk5 : n1 + 1 ≤ 1099511627776 := by omega
            have HE5 := Lib.hid (((hE.trans hE4).trans hEa).alloc (.cells #[.int .i64 f, .int .i64 a, .int .i64 m] 39))
            go_wp2_with (at_builtin; refine wpList_appL _ rfl _ _ rfl w3.heap.size _ _ _ _ rfl hO5 _ 1 1 [(f, a, m)] rfl hL5 hk5 hb5 ?_; intro A6 c6 w6 hO6 hG6 hB6 hor6)
            have hE6 := HE5.out.up hB6
            clear hO5 hb5 hL5 hG6 hB6 hor6
            first
              | exact ⟨⟨k + 1, n1 + 1, c6, A6, _, by omega, by go_num, rfl, hO6, by omega, hE6, HNew.out⟩, by simp [intOf]; omega⟩
              | (go_roundw
                 case rel => exact ⟨k + 1, n1 + 1, c6, A6, _, by omega, by go_num, rfl, hO6, by omega, hE6, HNew.out⟩
                 case measure => simp [intOf]; omega)
          · have bf : (p.1 == x.1) = false := by simpa using hf
            have ba : True := trivial
            clear hf
            obtain ⟨f, a, m⟩ := x
            obtain ⟨fp, ap, np⟩ := p
            simp only at d0 d1 d2 f0 f1 f2 HW4 p0 p1 p2 bf ba hwr3
            clear hpp hxx hbf hc
            go_upto_region 7 with fail
            rw [HW4.out]
            clear HW4
            go_upto_region 8 with fail
            have dn : decide (0 < n1) = true := by have := HN0.out; simp; omega
            (refine wp_region_quiet_lit (by kernel_rfl) (by kernel_rfl) ?_; (repeat (first | ((with_reducible refine wpQuiet_step (fun K hK => ?_)); go_simp; (with_reducible refine hK _ ?_); clear hK K) | ((with_reducible refine wpQuiet_off (by kernel_rfl) (fun K hK => ?_)); go_simp; (with_reducible refine hK _ ?_); clear hK K))); (with_reducible refine wpQuiet_nil ?_); intro _ hw'; obtain ⟨nq, hw''⟩ := hw'; subst hw'')
            obtain ⟨wa, hwa⟩ : ∃ wa, w4.drewN nq = wa := ⟨_, rfl⟩
            have hEa : E w4 wa := by rw [← hwa]; exact (E.refl w4).drewN nq
            rw [hwa]
            clear hwa f0 f1 f2
            obtain ⟨_, _, _, e1, hbb2, e2, _, f0, f1, f2⟩ := (HB4.out.e hEa).get (i := 0) (by omega)
            injection e1 with e1; injection e1 with e1 e1'; subst e1 e1'
            simp at e2; subst e2
            simp only [Nat.zero_mul, Nat.zero_add] at f0 f1 f2
            have hO5 := HO4.out.e (hEa.alloc (.cells #[.int .i64 f, .int .i64 a, .int .i64 m] 39))
            have hb5 : w3.heap.size ≤ (wa.alloc (.cells #[.int .i64 f, .int .i64 a, .int .i64 m] 39)).heap.size := by rw [World.size_alloc]; have := hEa.le; omega
            have hL5 := lot_new (w := wa) hwx
            have hk5 : n1 + 1 ≤ 1099511627776 := by omega
            have HE5 := Lib.hid (((hE.trans hE4).trans hEa).alloc (.cells #[.int .i64 f, .int .i64 a, .int .i64 m] 39))
            go_wp2_with (at_builtin; refine wpList_appL _ rfl _ _ rfl w3.heap.size _ _ _ _ rfl hO5 _ 1 1 [(f, a, m)] rfl hL5 hk5 hb5 ?_; intro A6 c6 w6 hO6 hG6 hB6 hor6)
            have hE6 := HE5.out.up hB6
            clear hO5 hb5 hL5 hG6 hB6 hor6
            first
              | exact ⟨⟨k + 1, n1 + 1, c6, A6, _, by omega, by go_num, rfl, hO6, by omega, hE6, HNew.out⟩, by simp [intOf]; omega⟩
              | (go_roundw
                 case rel => exact ⟨k + 1, n1 + 1, c6, A6, _, by omega, by go_num, rfl, hO6, by omega, hE6, HNew.out⟩
                 case measure => simp [intOf]; omega)
    · have hfin := Lib.hid (hS.out.done HP.out.1 (by rw [HLs.out]; omega))
      rw [hfin.out] at hO
      have hle3 := hE3.le
      go_wp2_with fail
      go_ret
      exact RetL.mk_ HR.out.symm (hO.rebase hle3) (hE3.trans hE)
end Go.Proofs.Ytgbamgijpgjmgaa
/- spans.Pieces: where a lot meets a set. -/
namespace Go.Proofs.Ytgbamgijpgjmgaa
open Go.RowKit Go.Shelf

/-- y ends behind the place a of flow f -/
def behB (f a : Int) (y : Lt) : Bool := decide (f < y.1) || (decide (y.1 = f) && decide (a < y.2.1 + y.2.2))
theorem behB_iff {f a : Int} {y : Lt} : behB f a y = true ↔ f < y.1 ∨ (y.1 = f ∧ a < y.2.1 + y.2.2) := by simp [behB]
theorem behB_mono {s : List Lt} (h : Canon s) {f a : Int} {i j : Nat} {x y : Lt} (hij : i ≤ j) (hx : s[i]? = some x) (hy : s[j]? = some y) (hb : behB f a x = true) : behB f a y = true := by
  rcases Nat.lt_or_eq_of_le hij with hlt | rfl
  · obtain ⟨hi, rfl⟩ := List.getElem?_eq_some_iff.1 hx
    obtain ⟨hj, rfl⟩ := List.getElem?_eq_some_iff.1 hy
    have hg := List.pairwise_iff_getElem.1 h.gap i j hi hj hlt
    have hp := h.pos _ (List.getElem_mem hj)
    rw [behB_iff] at hb ⊢
    unfold gapL at hg
    omega
  · rw [hx] at hy; injection hy with hy; subst hy; exact hb
theorem count_mono {p : Nat → Bool} {n : Nat} (hm : ∀ a b, a ≤ b → b < n → p a = true → p b = true) : ∀ j, j < n → (j < (List.range n).countP (fun i => !p i) ↔ p j = false) := by
  induction n with
  | zero => intro j hj; omega
  | succ n ih =>
    intro j hj
    have ih' := ih fun a b hab hb => hm a b hab (by omega)
    have hle : (List.range n).countP (fun i => !p i) ≤ n := by have := List.countP_le_length (p := fun i => !p i) (l := List.range n); rw [List.length_range] at this; exact this
    rw [List.range_succ, List.countP_append]
    cases hn : p n
    · have hall : ∀ a, a ≤ n → p a = false := fun a ha => by
        cases hpa : p a
        · rfl
        · have := hm a n ha (by omega) hpa; rw [hn] at this; cases this
      have hc : (List.range n).countP (fun i => !p i) = n := by
        rw [List.countP_eq_length.2 (fun a ha => by rw [hall a (by have := List.mem_range.1 ha; omega)]; rfl), List.length_range]
      rw [hc]
      simp [hn, hall j (by omega)]
      omega
    · rw [show List.countP (fun i => !p i) [n] = 0 by simp [hn], Nat.add_zero]
      rcases Nat.lt_or_eq_of_le (show j ≤ n by omega) with h | rfl
      · exact ih' j h
      · rw [hn]; simp; omega
/-- the place at which the search stands: all ahead of i end ahead of the place, all from i on end behind it -/
def AtPlace (s : List Lt) (f a : Int) (i : Nat) : Prop := i ≤ s.length ∧ ∀ j y, s[j]? = some y → (j < i ↔ behB f a y = false)
theorem AtPlace.ahead {s : List Lt} {f a : Int} {i j : Nat} {y : Lt} (h : AtPlace s f a i) (hj : j < i) (hy : s[j]? = some y) : y.1 < f ∨ (y.1 = f ∧ y.2.1 + y.2.2 ≤ a) := by
  have := (h.2 j y hy).1 hj
  rw [Bool.eq_false_iff, ne_eq, behB_iff] at this
  omega
theorem AtPlace.from_ {s : List Lt} {f a : Int} {i j : Nat} {y : Lt} (h : AtPlace s f a i) (hj : i ≤ j) (hy : s[j]? = some y) : f < y.1 ∨ (y.1 = f ∧ a < y.2.1 + y.2.2) := by
  have := h.2 j y hy
  cases hb : behB f a y
  · rw [hb] at this; have := this.2 rfl; omega
  · exact behB_iff.1 hb
/-- what lies ahead of the next lot of the set is outside -/
theorem AtPlace.gap {s : List Lt} (hs : Canon s) {f a m : Int} {i : Nat} (h : AtPlace s f a i) (hno : ∀ y, s[i]? = some y → y.1 ≠ f ∨ a + m ≤ y.2.1) : ∀ u ∈ ul (f, a, m), ¬ u ∈ U s := by
  intro u hu hus
  obtain ⟨y, hy, huy⟩ := mem_U.1 hus
  obtain ⟨j, hj, rfl⟩ := List.getElem_of_mem hy
  have hju : s[j]? = some s[j] := List.getElem?_eq_getElem hj
  have h1 := mem_ul.1 hu
  have h2 := mem_ul.1 huy
  simp only at h1
  rcases Nat.lt_or_ge j i with hji | hji
  · have := h.ahead hji hju; omega
  · have h3 := h.from_ hji hju
    have hi : i < s.length := by omega
    have hiu : s[i]? = some s[i] := List.getElem?_eq_getElem hi
    have h4 := hno _ hiu
    have h5 := h.from_ (Nat.le_refl i) hiu
    rcases Nat.lt_or_eq_of_le hji with hlt | heq
    · have hg := List.pairwise_iff_getElem.1 hs.gap i j hi hj hlt
      have hp := hs.pos _ (List.getElem_mem hi)
      unfold gapL at hg
      omega
    · subst heq; omega
theorem AtPlace.inside {s : List Lt} {f a m : Int} {i : Nat} {y : Lt} (hy : s[i]? = some y) (h1 : y.1 = f) (h2 : y.2.1 ≤ a) (h3 : a + m ≤ y.2.1 + y.2.2) : ∀ u ∈ ul (f, a, m), u ∈ U s := by
  intro u hu
  have h4 := mem_ul.1 hu
  simp only at h4
  exact mem_U.2 ⟨y, List.mem_of_getElem? hy, mem_ul.2 ⟨by omega, by omega, by omega⟩⟩
/-- up to the beginning of lot i -/
theorem AtPlace.upto {s : List Lt} {f a b : Int} {i : Nat} (h : AtPlace s f a i) (hab : a ≤ b) (hi : ∀ y, s[i]? = some y → y.1 = f ∧ b < y.2.1 + y.2.2) (hs : Canon s) : AtPlace s f b i := by
  refine ⟨h.1, fun j y hy => ?_⟩
  constructor
  · intro hj
    have := h.ahead hj hy
    rw [Bool.eq_false_iff, ne_eq, behB_iff]; omega
  · intro hb
    rcases Nat.lt_or_ge j i with hji | hji
    · exact hji
    · have hi' : i < s.length := Nat.lt_of_le_of_lt hji (List.getElem?_eq_some_iff.1 hy).1
      have hiu : s[i]? = some s[i] := List.getElem?_eq_getElem hi'
      obtain ⟨h5, h6⟩ := hi _ hiu
      have := behB_mono hs hji hiu hy ((behB_iff (f := f) (a := b)).2 (.inr ⟨h5, h6⟩))
      rw [hb] at this; cases this
/-- behind lot i -/
theorem AtPlace.next {s : List Lt} {f a b : Int} {i : Nat} {y : Lt} (h : AtPlace s f a i) (hy : s[i]? = some y) (h1 : y.1 = f) (h2 : b = y.2.1 + y.2.2) (hs : Canon s) : AtPlace s f b (i + 1) := by
  have hi := (List.getElem?_eq_some_iff.1 hy).1
  refine ⟨by omega, fun j z hz => ?_⟩
  rw [Bool.eq_false_iff, ne_eq, behB_iff]
  rcases Nat.lt_trichotomy j i with hj | rfl | hj
  · have := h.ahead hj hz
    have h3 := h.from_ (Nat.le_refl i) hy
    omega
  · rw [hy] at hz; injection hz with hz; subst hz
    omega
  · obtain ⟨_, rfl⟩ := List.getElem?_eq_some_iff.1 hy
    obtain ⟨hj', rfl⟩ := List.getElem?_eq_some_iff.1 hz
    have hg := List.pairwise_iff_getElem.1 hs.gap i j hi hj' hj
    have hp := hs.pos _ (List.getElem_mem hj')
    unfold gapL at hg
    omega

/-- the pieces of the units us so far -/
structure Parts (s : List Lt) (us : List Un) (ps : List (Lt × Bool)) : Prop where
  ins : U (sel true ps) = inU s us
  out : U (sel false ps) = outU s us
  pos : ∀ p ∈ ps, 1 ≤ p.1.2.2
theorem Parts.start (s : List Lt) : Parts s [] [] := ⟨rfl, rfl, by simp⟩
theorem Parts.in_ {s : List Lt} {us : List Un} {ps : List (Lt × Bool)} {x : Lt} (h : Parts s us ps) (hx : 1 ≤ x.2.2) (hin : ∀ u ∈ ul x, u ∈ U s) : Parts s (us ++ ul x) (ps ++ [(x, true)]) := by
  obtain ⟨e1, e2⟩ := inU_all hin
  refine ⟨?_, ?_, ?_⟩
  · rw [sel_app, U_app, inU_app, h.ins, e1, show sel true [(x, true)] = [x] by simp [sel], U_one]
  · rw [sel_app, U_app, outU_app, h.out, e2, show sel false [(x, true)] = [] by simp [sel], U_nil]
  · intro p hp
    rcases List.mem_append.1 hp with hp | hp
    · exact h.pos p hp
    · rw [List.mem_singleton] at hp; subst hp; exact hx
theorem Parts.out_ {s : List Lt} {us : List Un} {ps : List (Lt × Bool)} {x : Lt} (h : Parts s us ps) (hx : 1 ≤ x.2.2) (hout : ∀ u ∈ ul x, ¬ u ∈ U s) : Parts s (us ++ ul x) (ps ++ [(x, false)]) := by
  obtain ⟨e1, e2⟩ := outU_all hout
  refine ⟨?_, ?_, ?_⟩
  · rw [sel_app, U_app, inU_app, h.ins, e1, show sel true [(x, false)] = [] by simp [sel], U_nil]
  · rw [sel_app, U_app, outU_app, h.out, e2, show sel false [(x, false)] = [x] by simp [sel], U_one]
  · intro p hp
    rcases List.mem_append.1 hp with hp | hp
    · exact h.pos p hp
    · rw [List.mem_singleton] at hp; subst hp; exact hx

set_option maxHeartbeats 4000000 in
set_option maxRecDepth 100000 in
theorem beh_c (Bs Bx : Nat) (A : Option Addr) (n c : Nat) (s : List Lt) (x y : Lt) (i : Nat) (W : World) (hs : LotsAt W A n c s) (hB : W.cell? ⟨Bs, 0, none⟩ = some (.slice A n c)) (hx0 : W.cell? ⟨Bx, 0, none⟩ = some (.int .i64 x.1)) (hx1 : W.cell? ⟨Bx, 1, none⟩ = some (.int .i64 x.2.1)) (hy : s[i]? = some y) (hp : possB y = true) :
    Calls Try.prog 105 #[.int .i64 i, ptr Bs, ptr Bx] W fun e w' => e = .returned (.bool (behB x.1 x.2.1 y)) ∧ ∃ q, w' = W.drewN q := by
  have hi : i < n := by rw [← hs.len]; exact (List.getElem?_eq_some_iff.1 hy).1
  have hm := hs.n63
  obtain ⟨b, o, z, rfl, hb, hz, _, c0, c1, c2⟩ := hs.get hi
  rw [hy] at hz
  injection hz with hz
  subst hz
  have hpp := possB_iff.1 hp
  have hiI : (i : Int) < (n : Int) := by omega
  have hwr : IntKind.i64.wrap (y.2.1 + y.2.2) = y.2.1 + y.2.2 := by rw [IntKind.wrap_i64]; omega
  have HF := Lib.hid (show behB x.1 x.2.1 y = (decide (x.1 < y.1) || (decide (y.1 = x.1) && decide (x.2.1 < y.2.1 + y.2.2))) from rfl)
  generalize behB x.1 x.2.1 y = r at *
  clear hy hp hpp hs
  obtain ⟨f, a, m⟩ := x
  obtain ⟨g, d, k⟩ := y
  simp only at c0 c1 c2 hx0 hx1 hwr HF
  unfold ptr
  by_cases h1 : f < g
  · have d1 : decide (f < g) = true := by simpa using h1
    go_enter Try.func105, Try.ntmps105
    go_upto_region 1 with fail
    (refine wp_region_quiet_lit (by kernel_rfl) (by kernel_rfl) ?_; (repeat (first | ((with_reducible refine wpQuiet_step (fun K hK => ?_)); go_simp; (with_reducible refine hK _ ?_); clear hK K) | ((with_reducible refine wpQuiet_off (by kernel_rfl) (fun K hK => ?_)); go_simp; (with_reducible refine hK _ ?_); clear hK K))); (with_reducible refine wpQuiet_nil ?_); intro _ hw'; obtain ⟨nq, hw''⟩ := hw'; subst hw'')
    go_wp2_with fail
    go_ret
    exact ⟨ret_bool (by rw [HF.out]; simp [h1]), nq, rfl⟩
  · have d1 : decide (f < g) = false := by simpa using h1
    by_cases h2 : g = f
    · have d2 : (g == f) = true := by simpa using h2
      by_cases h3 : a < d + k
      · have d3 : decide (a < d + k) = true := by simpa using h3
        have HR := Lib.hid (show true = r by rw [HF.out]; simp [h2, h3])
        clear h2
        go_enter Try.func105, Try.ntmps105
        go_upto_region 1 with fail
        (refine wp_region_quiet_lit (by kernel_rfl) (by kernel_rfl) ?_; (repeat (first | ((with_reducible refine wpQuiet_step (fun K hK => ?_)); go_simp; (with_reducible refine hK _ ?_); clear hK K) | ((with_reducible refine wpQuiet_off (by kernel_rfl) (fun K hK => ?_)); go_simp; (with_reducible refine hK _ ?_); clear hK K))); (with_reducible refine wpQuiet_nil ?_); intro _ hw'; obtain ⟨nq, hw''⟩ := hw'; subst hw'')
        go_wp2_with fail
        go_ret
        exact ⟨ret_bool HR.out, nq, rfl⟩
      · have d3 : decide (a < d + k) = false := by simpa using h3
        have HR := Lib.hid (show false = r by rw [HF.out]; simp [h2]; omega)
        clear h2
        go_enter Try.func105, Try.ntmps105
        go_upto_region 1 with fail
        (refine wp_region_quiet_lit (by kernel_rfl) (by kernel_rfl) ?_; (repeat (first | ((with_reducible refine wpQuiet_step (fun K hK => ?_)); go_simp; (with_reducible refine hK _ ?_); clear hK K) | ((with_reducible refine wpQuiet_off (by kernel_rfl) (fun K hK => ?_)); go_simp; (with_reducible refine hK _ ?_); clear hK K))); (with_reducible refine wpQuiet_nil ?_); intro _ hw'; obtain ⟨nq, hw''⟩ := hw'; subst hw'')
        go_wp2_with fail
        go_ret
        exact ⟨ret_bool HR.out, nq, rfl⟩
    · have d2 : (g == f) = false := by simpa using h2
      have HR := Lib.hid (show false = r by rw [HF.out]; simp [h1, h2])
      go_enter Try.func105, Try.ntmps105
      go_upto_region 1 with fail
      (refine wp_region_quiet_lit (by kernel_rfl) (by kernel_rfl) ?_; (repeat (first | ((with_reducible refine wpQuiet_step (fun K hK => ?_)); go_simp; (with_reducible refine hK _ ?_); clear hK K) | ((with_reducible refine wpQuiet_off (by kernel_rfl) (fun K hK => ?_)); go_simp; (with_reducible refine hK _ ?_); clear hK K))); (with_reducible refine wpQuiet_nil ?_); intro _ hw'; obtain ⟨nq, hw''⟩ := hw'; subst hw'')
      go_wp2_with fail
      go_ret
      exact ⟨ret_bool HR.out, nq, rfl⟩
end Go.Proofs.Ytgbamgijpgjmgaa
/- sort.Search over a set; the iterator of the pieces. -/
namespace Go.Proofs.Ytgbamgijpgjmgaa
open Go.RowKit Go.Shelf Go.Sort

theorem grow_none (w : World) : w = grow w #[] := by cases w; simp [grow]
theorem E_grow (w : World) (q : Nat) (os : Array Obj) : E w (grow (w.drewN q) os) := ⟨rfl, rfl, rfl, by simp, fun k hk => heap_grow_old (w.drewN q) os (by simpa using hk)⟩
theorem search_c (Bs Bx : Nat) (A : Option Addr) (n c : Nat) (s : List Lt) (x : Lt) (w : World) (hs : LotsAt w A n c s) (hn : n ≤ 1000000) (hB : w.heap[Bs]? = some (.cells #[.slice A n c] 22 (0, 0))) (hx : w.heap[Bx]? = some (.cells #[.int .i64 x.1, .int .i64 x.2.1, .int .i64 x.2.2] 39 (0, 0))) (hc : Canon s) (hp : ∀ y ∈ s, possB y = true) :
    Calls Try.prog 104 #[.int .i64 n, .func (.func 105) #[] #[ptr Bs, ptr Bx]] w fun e w' => ∃ i : Nat, e = .returned (.int .i64 i) ∧ AtPlace s x.1 x.2.1 i ∧ E w w' := by
  have hlen := hs.len
  have hm : ∀ a b, a ≤ b → b < n → behB x.1 x.2.1 (s.getD a (0, 0, 0)) = true → behB x.1 x.2.1 (s.getD b (0, 0, 0)) = true := fun a b hab hb h => by
    have ha : s[a]? = some (s.getD a (0, 0, 0)) := by rw [List.getD_eq_getElem?_getD, List.getElem?_eq_getElem (by omega)]; rfl
    have hb' : s[b]? = some (s.getD b (0, 0, 0)) := by rw [List.getD_eq_getElem?_getD, List.getElem?_eq_getElem (by omega)]; rfl
    exact behB_mono hc hab ha hb' h
  have hS := Any.sort_Search Try.searchS 105 #[ptr Bs, ptr Bx] n (fun i => behB x.1 x.2.1 (s.getD i (0, 0, 0))) w Try.call105 (by omega)
    (fun m os i hi => by
      have hE := E_grow w m os
      have hy : s[i]? = some (s.getD i (0, 0, 0)) := by rw [List.getD_eq_getElem?_getD, List.getElem?_eq_getElem (by omega)]; rfl
      have hx' : (grow (w.drewN m) os).heap[Bx]? = _ := (hE.block (lt_blk hx)).trans hx
      refine (show Calls Try.prog 105 (#[.int .i64 i] ++ #[ptr Bs, ptr Bx]) _ _ from beh_c Bs Bx A n c s x (s.getD i (0, 0, 0)) i _ (hs.e hE) (cell_one ((hE.block (lt_blk hB)).trans hB)).1 (cell_of_row _ _ 0 _ _ _ hx') (cell_of_row _ _ 1 _ _ _ hx') hy (hp _ (List.mem_of_getElem? hy))).mono ?_
      rintro e w' ⟨rfl, q, rfl⟩
      exact ⟨rfl, q, #[], grow_none _⟩) hm
  change Calls Try.prog 104 _ _ _ at hS
  refine hS.mono ?_
  rintro e w' ⟨rfl, q, os, rfl⟩
  refine ⟨_, rfl, ⟨?_, fun j y hy => ?_⟩, E_grow w q os⟩
  · have := List.countP_le_length (p := fun i => !behB x.1 x.2.1 (s.getD i (0, 0, 0))) (l := List.range n)
    rw [List.length_range] at this
    omega
  · have hj : j < n := by rw [← hlen]; exact (List.getElem?_eq_some_iff.1 hy).1
    have := count_mono hm j hj
    rw [List.getD_eq_getElem?_getD, hy] at this
    exact this

/-- a consumer that takes pieces of the kinds for which 'on' says yes, and stops at the first other one -/
structure EatsX (L : Nat) (N : Nat) (on : Bool → Bool) (J Jx : List (Lt × Bool) → (Nat → Prop) → World → Prop) : Prop where
  lt : ∀ ps X W, J ps X W → ∀ i, X i → N ≤ i ∧ i < W.heap.size
  keep : ∀ ps X W W', J ps X W → (∀ i, X i → W'.heap[i]? = W.heap[i]?) → J ps X W'
  go : ∀ ps X W (x : Lt) (f : Bool) (m : Nat), on f = true → J ps X W → ps.length ≤ 300000 → possB x = true → WfL x →
    YieldAt Fence.wide m Try.prog L #[ltV x, .bool f] W fun e W' => e = .returned (.bool true) ∧ ∃ X', J (ps ++ [(x, f)]) X' W' ∧ Ex X W W' ∧ ∀ i, X' i → X i ∨ W.heap.size ≤ i
  stop : ∀ ps X W (x : Lt) (f : Bool) (m : Nat), on f = false → J ps X W → ps.length ≤ 300000 → possB x = true → WfL x →
    YieldAt Fence.wide m Try.prog L #[ltV x, .bool f] W fun e W' => e = .returned (.bool false) ∧ ∃ X', Jx (ps ++ [(x, f)]) X' W' ∧ Ex X W W' ∧ ∀ i, X' i → X i ∨ W.heap.size ≤ i
end Go.Proofs.Ytgbamgijpgjmgaa
