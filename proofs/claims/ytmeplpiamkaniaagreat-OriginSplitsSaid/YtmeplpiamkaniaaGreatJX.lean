/- Lemmas of the claim, joined: WA WB WP WQ WR GZp WC WG. No condition. -/
import Derived.Test.YtmeplpiamkaniaaGreatJQ
import Derived.Test.YtmeplpiamkaniaaGreatJG
import Derived.Test.YtmeplpiamkaniaaGreatJE
import Derived.Test.YtmeplpiamkaniaaGreatJC
import Derived.Lib.AppendZerosOnto
namespace Go.Proofs.YtmeplpiamkaniaaGreat
set_option linter.unusedVariables false
set_option linter.unusedSimpArgs false
end Go.Proofs.YtmeplpiamkaniaaGreat
namespace Go.Proofs.YtmeplpiamkaniaaGreat
set_option linter.unusedVariables false
set_option linter.unusedSimpArgs false
theorem glue_srt_ext {a b : List Un} (ha : Srt a) (hb : Srt b) (h : ∀ u, u ∈ a ↔ u ∈ b) : glue a = glue b := by rw [srt_ext ha hb h]
end Go.Proofs.YtmeplpiamkaniaaGreat
namespace Go.Proofs.YtmeplpiamkaniaaGreat
set_option linter.unusedVariables false
set_option linter.unusedSimpArgs false
structure Two (a b : List Lt) : Prop where
  va : validB a = true
  vb : validB b = true
  la : a.length ≤ 12
  lb : b.length ≤ 12
section
variable {a b : List Lt}
theorem Two.lset (h : Two a b) : lset a = setS a := by unfold Proofs.YtmeplpiamkaniaaGreat.lset; rw [h.va]; rfl
theorem Two.swap (h : Two a b) : Two b a := ⟨h.vb, h.va, h.lb, h.la⟩
theorem Two.hset (h : Two a b) (u : Un) : hasB (Proofs.YtmeplpiamkaniaaGreat.lset a) u = hasB a u := by rw [h.lset, hasB_set]
end
end Go.Proofs.YtmeplpiamkaniaaGreat
namespace Go.Proofs.YtmeplpiamkaniaaGreat
set_option linter.unusedVariables false
set_option linter.unusedSimpArgs false
def SetOf (s : List Lt) (p : Un → Prop) : Prop := ∃ us, Srt us ∧ s = glue us ∧ ∀ u, u ∈ us ↔ p u
theorem SetOf.eq {s t : List Lt} {p q : Un → Prop} (h : SetOf s p) (k : SetOf t q) (e : ∀ u, p u ↔ q u) : s = t := by
  obtain ⟨us, h1, rfl, h2⟩ := h
  obtain ⟨vs, k1, rfl, k2⟩ := k
  exact glue_srt_ext h1 k1 fun u => by rw [h2, k2, e]
theorem SetOf.mem {s : List Lt} {p : Un → Prop} (h : SetOf s p) (u : Un) : u ∈ U s ↔ p u := by
  obtain ⟨us, h1, rfl, h2⟩ := h
  rw [U_glue, h2]
theorem so_union {a b : List Lt} (ha : validB a = true) (hb : validB b = true) : SetOf (lunion a b) (fun u => u ∈ U a ∨ u ∈ U b) := ⟨sortU (U (a ++ b)), srt_sortU _, by rw [lunion, ha, hb]; rfl, fun u => by rw [mem_sortU, U_app, List.mem_append]⟩
theorem so_meet {a b : List Lt} (ha : validB a = true) (hb : validB b = true) : SetOf (lmeet a b) (fun u => u ∈ U a ∧ u ∈ U b) := ⟨inU b (U (setS a)), srt_inU (srt_setS a), by rw [lmeet, ha, hb]; rfl, fun u => by rw [mem_inU, mem_setS]⟩
end Go.Proofs.YtmeplpiamkaniaaGreat
namespace Go.Proofs.YtmeplpiamkaniaaGreat
set_option linter.unusedVariables false
set_option linter.unusedSimpArgs false
theorem takeS_first {s : List Lt} {a : Int} (hv : validB s = true) (h0 : 0 ≤ a) (h1 : a ≤ 1099511627776) (ht : a ≤ totL s) : takeS s a false = (glue ((U s).take a.toNat), glue ((U s).drop a.toNat), 0) := by
  rw [takeS_yes hv h0 h1 ht]
  have e : countK s a false = firstK a s := by unfold countK; simp
  obtain ⟨p1, p2⟩ := put_first h0 (pos_of (validB_iff.1 hv).2)
  rw [e, p1, p2]
end Go.Proofs.YtmeplpiamkaniaaGreat
namespace Go.Proofs.YtmeplpiamkaniaaGreat
set_option linter.unusedVariables false
set_option linter.unusedSimpArgs false
def lotL (s n : Int) : List Lt := if n = 0 then [] else [(0, s, n)]
theorem U_lotL {s n : Int} : U (lotL s n) = unitsOf 0 s n.toNat := by
  unfold lotL
  by_cases h : n = 0
  · subst h; rfl
  · rw [if_neg h, U_one]; rfl
theorem lotL_glue {s n : Int} (h : 0 ≤ n) : lotL s n = glue (unitsOf 0 s n.toNat) := by
  refine glued_eq ?_ U_lotL
  unfold lotL
  by_cases e : n = 0
  · rw [if_pos e]; trivial
  · rw [if_neg e]; show 1 ≤ n; omega
theorem lotL_valid {s n : Int} (h : 0 ≤ n) (h0 : 0 ≤ s) (h1 : s + n ≤ 1099511627776) : validB (lotL s n) = true := by
  unfold lotL
  by_cases e : n = 0
  · rw [if_pos e]; rfl
  · rw [if_neg e]
    refine validB_iff.2 ⟨by simp, fun x hx => ?_⟩
    rw [List.mem_singleton] at hx
    subst hx
    exact possB_iff.2 ⟨by simp, h0, by simp only; omega, by simp only; omega, by simp only; omega⟩
theorem lotL_tot {s n : Int} : totL (lotL s n) = n := by
  unfold lotL
  by_cases e : n = 0
  · subst e; rfl
  · rw [if_neg e, totL_cons, totL_nil]; simp
theorem mem_lotL {s n : Int} {u : Un} : u ∈ U (lotL s n) ↔ u.1 = 0 ∧ s ≤ u.2 ∧ u.2 < s + (n.toNat : Int) := by rw [U_lotL, mem_unitsOf]
theorem takeS_lotL {s m a : Int} (h0 : 0 ≤ s) (ha : 0 ≤ a) (h : a ≤ m) (hm : s + m ≤ 1099511627776) : takeS (lotL s m) a false = (lotL s a, lotL (s + a) (m - a), 0) := by
  rw [takeS_first (lotL_valid (by omega) h0 hm) ha (by omega) (by rw [lotL_tot]; exact h), U_lotL]
  have e : unitsOf 0 s m.toNat = unitsOf 0 s a.toNat ++ unitsOf 0 (s + a) (m - a).toNat := by
    rw [show m.toNat = a.toNat + (m - a).toNat by omega, unitsOf_add, show ((a.toNat : Nat) : Int) = a by omega]
  rw [e, List.take_append_of_le_length (by rw [unitsOf_len]; exact Nat.le_refl _), List.take_of_length_le (by rw [unitsOf_len]; exact Nat.le_refl _), List.drop_append_of_le_length (by rw [unitsOf_len]; exact Nat.le_refl _), List.drop_of_length_le (by rw [unitsOf_len]; exact Nat.le_refl _), List.nil_append, ← lotL_glue ha, ← lotL_glue (by omega)]
theorem meet_lotL {a n : Int} (h0 : 0 ≤ a) (hn : 0 ≤ n) (h : a + n ≤ 1099511627776) : lmeet (lotL 0 a) (lotL a n) = [] := by
  obtain ⟨us, _, e, hm⟩ := so_meet (lotL_valid (s := 0) h0 (by omega) (by omega)) (lotL_valid (s := a) hn h0 h)
  rw [e]
  have : us = [] := List.eq_nil_iff_forall_not_mem.2 fun u hu => by
    obtain ⟨h1, h2⟩ := (hm u).1 hu
    have h1 := mem_lotL.1 h1
    have h2 := mem_lotL.1 h2
    omega
  rw [this]; rfl
theorem union_lotL {a n : Int} (h0 : 0 ≤ a) (hn : 0 ≤ n) (h : a + n ≤ 1099511627776) : lunion (lotL 0 a) (lotL a n) = lotL 0 (a + n) := by
  refine (so_union (lotL_valid (s := 0) h0 (by omega) (by omega)) (lotL_valid (s := a) hn h0 h)).eq (⟨unitsOf 0 0 (a + n).toNat, srt_units _ _ _, lotL_glue (by omega), fun u => Iff.rfl⟩ : SetOf _ _) fun u => ?_
  rw [mem_lotL, mem_lotL, mem_unitsOf]
  omega
def flR (t : Int) : Fl := ⟨0, 0, 0, 0, 0, 0, 0, 0, t, [], []⟩
def flP (i s n : Int) : Fl := ⟨i, 0, 0, 0, 0, 0, 0, 0, n, [(0, s, n)], []⟩
structure SpF (t : Int) (k : Nat) (s : Int) (rest : List Fl) : Prop where
  ok : GOk (flR t :: rest)
  ids : ∀ f ∈ rest, 1 ≤ f.id ∧ f.id ≤ k
  len : rest.length ≤ k
  made : ∀ f ∈ rest, f.made = []
  at_ : ∀ (j : Nat) (f : Fl), rest[j]? = some f → ∃ i n, f = flP i ((rest.take j).map Fl.n).sum n ∧ 1 ≤ n ∧ 0 ≤ ((rest.take j).map Fl.n).sum ∧ ((rest.take j).map Fl.n).sum + n ≤ s
  sum : (rest.map Fl.n).sum = s
theorem SpF.start {t : Int} (h1 : 1 ≤ t) (h2 : t ≤ 1099511627776) : SpF t 0 0 [] := by
  refine ⟨?_, fun _ h => (by cases h), Nat.le_refl _, fun _ h => (by cases h), fun j f h => (by simp at h), rfl⟩
  have : GOk ([] ++ [flR t]) := GOk.nil.snoc ⟨okF_iff.2 ⟨rfl, by simp [flR], by simp [flR], h1, h2, .inl rfl⟩, fun g hg => (by cases hg), fun p hp => (by cases hp), fun j hj => (by cases hj)⟩
  exact this
theorem SpF.skip {t : Int} {k : Nat} {s : Int} {rest : List Fl} (h : SpF t k s rest) : SpF t (k + 1) s rest :=
  ⟨h.ok, fun f hf => (by have := h.ids f hf; omega), (by have := h.len; omega), h.made, h.at_, h.sum⟩
theorem SpF.put {t : Int} {k : Nat} {s p : Int} {rest : List Fl} (h : SpF t k s rest) (h0 : 0 ≤ s) (hp : 1 ≤ p) (hs : s + p ≤ t) (ht : t ≤ 1099511627776) : SpF t (k + 1) (s + p) (rest ++ [flP (k + 1) s p]) := by
  refine ⟨?_, fun f hf => ?_, ?_, fun f hf => ?_, fun j f hf => ?_, ?_⟩
  · have : GOk ((flR t :: rest) ++ [flP (k + 1) s p]) := by
      refine h.ok.snoc ⟨okF_iff.2 ⟨?_, by simp only [flP]; omega, by simp [flP], hp, by simp only [flP]; omega, .inr ⟨rfl, ?_⟩⟩, fun g hg => ?_, fun q hq => ?_, fun j hj => (by cases hj)⟩
      · refine validB_iff.2 ⟨by simp [flP], fun x hx => ?_⟩
        simp only [flP, List.mem_singleton] at hx
        subst hx
        exact possB_iff.2 ⟨by simp, h0, by simp only; omega, hp, by simp only; omega⟩
      · simp [flP, totL_cons, totL_nil]
      · rcases List.mem_cons.1 hg with rfl | hg
        · simp only [flP, flR]; omega
        · have := h.ids g hg
          simp only [flP]; omega
      · simp only [flP, List.mem_singleton] at hq
        subst hq
        exact ⟨flR t, rfl, by simp only [flR]; omega, rfl⟩
    exact this
  · rcases List.mem_append.1 hf with hf | hf
    · have := h.ids f hf; omega
    · rw [List.mem_singleton] at hf
      subst hf
      simp only [flP]; omega
  · have := h.len
    rw [List.length_append]; simp; omega
  · rcases List.mem_append.1 hf with hf | hf
    · exact h.made f hf
    · rw [List.mem_singleton] at hf
      subst hf; rfl
  · rcases Nat.lt_trichotomy j rest.length with hj | hj | hj
    · rw [List.getElem?_append_left hj] at hf
      obtain ⟨i, n, a, b, c, d⟩ := h.at_ j f hf
      rw [List.take_append_of_le_length (Nat.le_of_lt hj)]
      exact ⟨i, n, a, b, c, by omega⟩
    · subst hj
      rw [List.getElem?_append_right (Nat.le_refl _), Nat.sub_self] at hf
      have hf := Option.some.inj hf
      rw [List.take_append_of_le_length (Nat.le_refl _), List.take_length, h.sum]
      exact ⟨k + 1, p, hf.symm, hp, h0, Int.le_refl _⟩
    · rw [List.getElem?_eq_none (by rw [List.length_append]; simp; omega)] at hf
      cases hf
  · rw [List.map_append, List.sum_append, h.sum]; simp [flP]
theorem SpF.root {t : Int} {k : Nat} {s : Int} {rest : List Fl} (h : SpF t k s rest) (hs : s ≤ t) (ht : t ≤ 1099511627776) {r : Un → Un} (hr : RootOf (flR t :: rest) r) {j : Nat} {i a n : Int} (hj : rest[j]? = some (flP i a n)) (h0 : 0 ≤ a) (hn : 1 ≤ n) (hle : a + n ≤ s) : rootF (flR t :: rest) r (i, 0, n) = lotL a n := by
  have hm : flP i a n ∈ rest := List.mem_of_getElem? hj
  have hid := h.ids _ hm
  have hg : getF (flR t :: rest) i = some (flP i a n) := (h.ok.ids.get (k := j + 1) (by simpa using hj)).2
  have hz : getF (flR t :: rest) 0 = some (flR t) := rfl
  have hh : hasF (flR t :: rest) (i, 0, n) = true := hasF_iff.2 ⟨possB_iff.2 ⟨by simp only [flP] at hid; simp only; omega, by simp, by simp, hn, by simp only; omega⟩, _, hg, by simp only [flP]; omega⟩
  rw [rootF, if_pos hh, lotL_glue (by omega)]
  congr 1
  refine List.ext_getElem? fun q => ?_
  rw [List.getElem?_map]
  have key : ∀ (f b : Int) (m q : Nat), (unitsOf f b m)[q]? = if q < m then some (f, b + (q : Int)) else none := by
    intro f b m
    induction m generalizing b with
    | zero => intro q; simp [unitsOf]
    | succ m ih =>
      intro q
      cases q with
      | zero => simp [unitsOf]
      | succ q =>
        rw [unitsOf, List.getElem?_cons_succ, ih]
        by_cases hq : q < m
        · rw [if_pos hq, if_pos (by omega), show b + 1 + (q : Int) = b + ((q + 1 : Nat) : Int) by omega]
        · rw [if_neg hq, if_neg (by omega)]
  have e1 : ul (i, 0, n) = unitsOf i 0 n.toNat := rfl
  rw [e1, key, key]
  by_cases hq : q < n.toNat
  · rw [if_pos hq, if_pos hq, Option.map_some]
    congr 1
    have hsrc : srcU (flR t :: rest) (i, 0 + (q : Int)) = some (0, a + (q : Int)) := by
      have hU : U (flP i a n).parts = unitsOf 0 a n.toNat := by rw [flP]; simp only; rw [U_one]; rfl
      rw [srcU, hg, Option.bind_some, if_neg (by simp only; omega), hU, key, if_pos (by simp only; omega)]
      simp only
      rw [show ((0 + (q : Int)).toNat : Int) = (q : Int) by omega]
    rw [hr.some_ hsrc]
    exact hr.none_ (src_none hz rfl)
  · rw [if_neg hq, if_neg hq]; rfl
end Go.Proofs.YtmeplpiamkaniaaGreat
namespace Go.Proofs.YtmeplpiamkaniaaGreat
set_option linter.unusedVariables false
set_option linter.unusedSimpArgs false
open Go.RowKit Go.Shelf
attribute [local go_sem] Oper.semAt_some
end Go.Proofs.YtmeplpiamkaniaaGreat
namespace Go.Proofs.YtmeplpiamkaniaaGreat
set_option linter.unusedVariables false
set_option linter.unusedSimpArgs false
open Go.RowKit Go.Shelf
set_option maxHeartbeats 4000000 in
set_option maxRecDepth 100000 in
theorem growL_c (k : Nat) (w : World) (hk : k ≤ 1000000) : Calls Tryz.prog 101 #[.slice none 0 0, .int .i64 k] w (RetL w []) := by
  obtain ⟨i0, hi0, hz0, hs0, hy0⟩ := info_parts lotInfo
  rcases Nat.eq_zero_or_pos k with h0 | h0
  · subst h0
    go_enter Tryz.func101, Tryz.ntmps101
    go_wp2_with fail
    go_ret
    exact RetL.mk_ rfl (OwnL.nil _ _) (E.refl _)
  · have hkp : (0 : Int) < (k : Int) := by omega
    have hkn : ¬ (k : Int) < 0 := by omega
    have hwr : IntKind.i64.wrap ((k : Int)) = (k : Int) := by rw [IntKind.wrap_i64]; omega
    have hrz : ∀ ty, (Builtin.append_ #[41, 3] ty #[.slice none 0 0, .int .i64 (k : Int)]).run Tryz.prog w =
        .ok (.slice (some ⟨w.heap.size, 0, none⟩) k (grownCap w k 0 30)) (w.drew.alloc (.cells (#[] ++ Builtin.zeroCells (Value.agg #[.int .i64 0, .int .i64 0, .int .i64 0]).cells k ++ Builtin.zeroCells (Value.agg #[.int .i64 0, .int .i64 0, .int .i64 0]).cells (grownCap w k 0 30 - k)) 30)) := fun ty => by
      have h := Lib.run_append_grow_zeros (P := Tryz.prog) w 41 3 ty 30 i0 _ .i64 .i64 Tryz.underlying41 Tryz.underlying3 hi0 hz0 none 0 0 [] (run_firstCells_none w.drew i0.size 0 0 0) k h0 (by omega) (by omega) (by omega)
        (by rw [hy0]; omega) (by rw [hy0]; exact growslice_fits (by omega) (by omega))
      rw [Nat.zero_add] at h
      exact h
    have hG1 := grownCap_ge w k 0 30
    have hG2 := grownCap_le_maxLen w k 0 30 (by unfold maxLen; omega)
    generalize grownCap w k 0 30 = G at *
    have hG3 : G ≤ 9223372036854775807 := by unfold maxLen at hG2; omega
    have hO : OwnL (w.drew.alloc (.cells (#[] ++ Builtin.zeroCells (Value.agg #[.int .i64 0, .int .i64 0, .int .i64 0]).cells k ++ Builtin.zeroCells (Value.agg #[.int .i64 0, .int .i64 0, .int .i64 0]).cells (G - k)) 30)) w.heap.size (some ⟨w.heap.size, 0, none⟩) 0 G [] := by
      refine ⟨rfl, ⟨by simp [flatL], .inr ⟨w.heap.size, G, _, rfl, Nat.le_refl _, heap_alloc_new w.drew _, Nat.zero_le _, hG2, ?_, by simp [flatL]⟩⟩, by simp⟩
      rw [Array.size_append, Array.size_append, size_zeroCells, size_zeroCells]
      have : (Value.agg #[.int .i64 0, .int .i64 0, .int .i64 0]).cells.size = 3 := rfl
      rw [this]
      simp
      omega
    have hE := ((E.refl w).drew).alloc (.cells (#[] ++ Builtin.zeroCells (Value.agg #[.int .i64 0, .int .i64 0, .int .i64 0]).cells k ++ Builtin.zeroCells (Value.agg #[.int .i64 0, .int .i64 0, .int .i64 0]).cells (G - k)) 30)
    generalize w.drew.alloc (.cells (#[] ++ Builtin.zeroCells (Value.agg #[.int .i64 0, .int .i64 0, .int .i64 0]).cells k ++ Builtin.zeroCells (Value.agg #[.int .i64 0, .int .i64 0, .int .i64 0]).cells (G - k)) 30) = w2 at hrz hO hE
    have HO := Lib.hid (And.intro hO hE)
    have hG0 : 0 ≤ G := Nat.zero_le _
    clear hO hE hG2 hi0 hz0 hs0 hy0
    go_enter Tryz.func101, Tryz.ntmps101
    go_wp2_with (at_builtin; refine Lib.wpList_append_run _ rfl _ _ _ _ rfl _ _ rfl rfl _ _ (hrz _) ?_)
    go_ret
    exact RetL.mk_ rfl HO.out.1 HO.out.2
theorem cells2_at {w : World} {B : Nat} {x y : Value} {T : TypeId} (h : w.heap[B]? = some (.cells #[x, y] T (0, 0))) : w.cell? ⟨B, 0, none⟩ = some x ∧ w.cell? ⟨B, 1, none⟩ = some y := ⟨cell_of_row _ _ 0 _ _ _ h, cell_of_row _ _ 1 _ _ _ h⟩
set_option maxHeartbeats 4000000 in
set_option maxRecDepth 100000 in
theorem concat_c (B : Nat) (A : Option Addr) (n c : Nat) (l : List Lt) (A' : Option Addr) (n' c' : Nat) (l' : List Lt) (w : World) (hB : w.heap[B]? = some (.cells #[.slice A n c, .slice A' n' c'] 41 (0, 0))) (h1 : LotsAt w A n c l) (h2 : LotsAt w A' n' c' l') (hn : n ≤ 4096) (hn' : n' ≤ 4096) :
    Calls Tryz.prog 66 #[.slice (some ⟨B, 0, none⟩) 2 2] w (RetL w (l ++ l')) := by
  have HB := Lib.hid hB
  have HN := Lib.hid (And.intro hn hn')
  have hwr0 : IntKind.i64.wrap ((n : Int)) = (n : Int) := by rw [IntKind.wrap_i64]; omega
  have hwr1 : IntKind.i64.wrap ((n : Int) + (n' : Int)) = (n : Int) + (n' : Int) := by rw [IntKind.wrap_i64]; omega
  have hp0 : ¬ (n : Int) < 0 := by omega
  have hp1 : ¬ (n : Int) + (n' : Int) < 0 := by omega
  have hBl := lt_blk hB
  have HGr := Lib.hid (fun W => growL_c (n + n') W (by omega))
  rw [Int.natCast_add] at HGr
  clear hB hn hn'
  go_enter Tryz.func66, Tryz.ntmps66
  go_wp2_with fail
  go_loopw [3, 11] (fun ts ti wr => E w wr ∧ ((ti = .int .i64 0 ∧ ts = .int .i64 0) ∨ (ti = .int .i64 1 ∧ ts = .int .i64 n) ∨ (ti = .int .i64 2 ∧ ts = .int .i64 ((n : Int) + n')))) (fun _ ti _ => 2 - (intOf ti).toNat)
  case atStart => exact ⟨E.refl _, .inl ⟨rfl, rfl⟩⟩
  case round =>
    obtain ⟨hE, hr⟩ := hrel
    obtain ⟨b0, b1⟩ := cells2_at ((hE.block hBl).trans HB.out)
    have hBr := Nat.lt_of_lt_of_le hBl hE.le
    rcases hr with ⟨rfl, rfl⟩ | ⟨rfl, rfl⟩ | ⟨rfl, rfl⟩
    · go_wp2_with fail
      go_roundw
      case rel => exact ⟨hE, .inr (.inl ⟨rfl, rfl⟩)⟩
      case measure => simp [intOf]
    · go_wp2_with fail
      go_roundw
      case rel => exact ⟨hE, .inr (.inr ⟨rfl, rfl⟩)⟩
      case measure => simp [intOf]
    · go_wp2_with fail
      refine (HGr.out _).mono ?_
      rintro e w3 ⟨A3, n3, c3, rfl, hO3, hE3⟩
      have hE03 := hE.trans hE3
      have hle := hE.le
      go_wp2_with fail
      go_loopw [6, 27] (fun ts ti wr => ∃ (n1 c1 : Nat) (A1 : Option Addr), ts = .slice A1 n1 c1 ∧ E w wr ∧ ((ti = .int .i64 0 ∧ OwnL wr w.heap.size A1 n1 c1 []) ∨ (ti = .int .i64 1 ∧ OwnL wr w.heap.size A1 n1 c1 l) ∨ (ti = .int .i64 2 ∧ OwnL wr w.heap.size A1 n1 c1 (l ++ l')))) (fun _ ti _ => 2 - (intOf ti).toNat)
      case atStart => exact ⟨n3, c3, A3, rfl, hE03, .inl ⟨rfl, hO3.rebase hle⟩⟩
      case round =>
        clear hO3 hE03 hE3 b0 b1 hBr
        obtain ⟨n1, c1, A1, rfl, hE, hr⟩ := hrel
        obtain ⟨b0, b1⟩ := cells2_at ((hE.block hBl).trans HB.out)
        have hBr := Nat.lt_of_lt_of_le hBl hE.le
        have hle2 := hE.le
        rcases hr with ⟨rfl, hO⟩ | ⟨rfl, hO⟩ | ⟨rfl, hO⟩
        · have hq : n1 + n ≤ 1099511627776 := by have := hO.1; have := HN.out; simp at *; omega
          have hs := h1.e hE
          go_wp2_with (at_builtin; refine wpList_appL _ rfl _ _ rfl w.heap.size A1 n1 c1 _ rfl hO A n c l rfl hs hq hle2 ?_; intro A4 c4 w4 hO4 hG4 hB4 hor4)
          go_roundw
          case rel => exact ⟨n1 + n, c4, A4, rfl, hE.up hB4, .inr (.inl ⟨rfl, hO4⟩)⟩
          case measure => simp [intOf]
        · have hq : n1 + n' ≤ 1099511627776 := by have := hO.1; have := h1.len; have := HN.out; omega
          have hs := h2.e hE
          go_wp2_with (at_builtin; refine wpList_appL _ rfl _ _ rfl w.heap.size A1 n1 c1 _ rfl hO A' n' c' l' rfl hs hq hle2 ?_; intro A4 c4 w4 hO4 hG4 hB4 hor4)
          go_roundw
          case rel => exact ⟨n1 + n', c4, A4, rfl, hE.up hB4, .inr (.inr ⟨rfl, hO4⟩)⟩
          case measure => simp [intOf]
        · go_wp2_with fail
          go_ret
          exact RetL.mk_ rfl hO hE
set_option maxHeartbeats 4000000 in
set_option maxRecDepth 100000 in
theorem lUnion_c (A : Option Addr) (n c : Nat) (l : List Lt) (A' : Option Addr) (n' c' : Nat) (l' : List Lt) (w : World) (h1 : LotsAt w A n c l) (h2 : LotsAt w A' n' c' l') :
    Calls Tryz.prog 23 #[.slice A n c, .slice A' n' c'] w (RetL w (lunion l l')) := by
  have HV := Lib.hid (valid_c A n c l w h1)
  have HV2 := Lib.hid (fun W (hE : E w W) => valid_c A' n' c' l' W (h2.e hE))
  cases hv : validB l
  · rw [hv] at HV
    have HF := Lib.hid (show lunion l l' = [] by rw [lunion, hv]; rfl)
    clear hv
    go_enter Tryz.func23, Tryz.ntmps23
    go_wp2_with fail
    refine HV.out.mono ?_
    rintro e w2 ⟨rfl, hE2⟩
    go_wp2_with fail
    go_ret
    exact RetL.mk_ HF.out (OwnL.nil _ _) hE2
  · rw [hv] at HV
    cases hv2 : validB l'
    · rw [hv2] at HV2
      have HF := Lib.hid (show lunion l l' = [] by rw [lunion, hv, hv2]; rfl)
      clear hv hv2
      go_enter Tryz.func23, Tryz.ntmps23
      go_wp2_with fail
      refine HV.out.mono ?_
      rintro e w2 ⟨rfl, hE2⟩
      go_wp2_with fail
      refine (HV2.out _ hE2).mono ?_
      rintro e w3 ⟨rfl, hE3⟩
      go_wp2_with fail
      go_ret
      exact RetL.mk_ HF.out (OwnL.nil _ _) (hE2.trans hE3)
    · rw [hv2] at HV2
      obtain ⟨v1, v2⟩ := validB_iff.1 hv
      obtain ⟨u1, u2⟩ := validB_iff.1 hv2
      have hl1 := h1.len
      have hl2 := h2.len
      have HF := Lib.hid (show lunion l l' = setS (l ++ l') by rw [lunion, hv, hv2]; rfl)
      have hp : ∀ y ∈ l ++ l', possB y = true := fun y hy => by
        rcases List.mem_append.1 hy with hy | hy
        · exact v2 y hy
        · exact u2 y hy
      have HN := Lib.hid (show n ≤ 4096 ∧ n' ≤ 4096 by omega)
      have HLL := Lib.hid (show (l ++ l').length ≤ 8192 by rw [List.length_append]; omega)
      have HSS := Lib.hid (fun W A9 n9 c9 (h9 : LotsAt W A9 n9 c9 (l ++ l')) (hn9 : n9 ≤ 100000) => spSet_c A9 n9 c9 (l ++ l') W h9 hp hn9)
      clear hv hv2 v1 v2 u1 u2 hl1 hl2 hp
      go_enter Tryz.func23, Tryz.ntmps23
      go_wp2_with fail
      refine HV.out.mono ?_
      rintro e w2 ⟨rfl, hE2⟩
      go_wp2_with fail
      refine (HV2.out _ hE2).mono ?_
      rintro e w3 ⟨rfl, hE3⟩
      have hE23 := hE2.trans hE3
      have hE4 : E w3 (w3.alloc (.cells #[.slice A n c, .slice A' n' c'] 41)) := (E.refl _).alloc _
      have HC := Lib.hid (concat_c w3.heap.size A n c l A' n' c' l' _ (heap_alloc_new w3 (.cells #[.slice A n c, .slice A' n' c'] 41)) (h1.e (hE23.trans hE4)) (h2.e (hE23.trans hE4)) HN.out.1 HN.out.2)
      have HE4 := Lib.hid (hE23.trans hE4)
      go_wp2_with fail
      refine HC.out.mono ?_
      rintro e w5 ⟨A5, n5, c5, rfl, hO5, hE5⟩
      have hE05 := HE4.out.trans hE5
      have hle := hE05.le
      have HS5 := Lib.hid (HSS.out w5 A5 n5 c5 hO5.reads (by have := hO5.1; have := HLL.out; omega))
      go_wp2_with fail
      refine HS5.out.mono ?_
      rintro e w6 ⟨A6, n6, c6, rfl, hO6, hE6⟩
      go_wp2_with fail
      go_ret
      exact RetL.mk_ HF.out (hO6.rebase hle) (hE05.trans hE6)
end Go.Proofs.YtmeplpiamkaniaaGreat
