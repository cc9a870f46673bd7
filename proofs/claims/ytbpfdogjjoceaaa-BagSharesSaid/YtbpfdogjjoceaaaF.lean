/- Slices of amounts (pairs of integers); proper, Of, Valid, Amounts and their references. -/
import Derived.Test.YtbpfdogjjoceaaaE
namespace Go.Proofs.Ytbpfdogjjoceaaa
open Go.RowKit

/-- A slice value that reads as a list of pairs of integers. -/
structure Pairs (w : World) (A : Option Addr) (n c : Nat) (l : List (Int × Int)) : Prop where
  len : l.length = n
  cap : n ≤ c
  mx : c ≤ maxLen
  wf : ∀ x ∈ l, (Lit.int .i64 x.1).wf = true ∧ (Lit.int .i64 x.2).wf = true
  at_ : 0 < n → ∃ b o, A = some ⟨b, o, none⟩ ∧ b < w.heap.size ∧ ∀ i, (h : i < l.length) → w.cell? ⟨b, o + i * 2, none⟩ = some (.int .i64 l[i].1) ∧ w.cell? ⟨b, o + i * 2 + 1, none⟩ = some (.int .i64 l[i].2)
section
variable {w w' : World} {A : Option Addr} {n c : Nat} {l : List (Int × Int)}
theorem Pairs.e (h : Pairs w A n c l) (he : E w w') : Pairs w' A n c l :=
  ⟨h.len, h.cap, h.mx, h.wf, fun hn => by
    obtain ⟨b, o, h1, h2, h3⟩ := h.at_ hn
    exact ⟨b, o, h1, Nat.lt_of_lt_of_le h2 he.le, fun i hi => ⟨(he.cell (p := ⟨b, _, none⟩) h2).trans (h3 i hi).1, (he.cell (p := ⟨b, _, none⟩) h2).trans (h3 i hi).2⟩⟩⟩
theorem Pairs.q (h : Pairs w A n c l) (he : Q w w') : Pairs w' A n c l := h.e (E.of_q he)
theorem Pairs.n63 (h : Pairs w A n c l) : n ≤ 9223372036854775807 := by have := h.cap; have := h.mx; unfold maxLen at this; omega
theorem Pairs.get (h : Pairs w A n c l) {i : Nat} (hi : i < n) :
    ∃ b o x y, A = some ⟨b, o, none⟩ ∧ b < w.heap.size ∧ l[i]? = some (x, y) ∧ (Lit.int .i64 x).wf = true ∧ (Lit.int .i64 y).wf = true ∧ w.cell? ⟨b, o + i * 2, none⟩ = some (.int .i64 x) ∧ w.cell? ⟨b, o + i * 2 + 1, none⟩ = some (.int .i64 y) := by
  obtain ⟨b, o, h1, h2, h3⟩ := h.at_ (by omega)
  have hl : i < l.length := by rw [h.len]; exact hi
  exact ⟨b, o, l[i].1, l[i].2, h1, h2, List.getElem?_eq_getElem hl, (h.wf _ (List.getElem_mem hl)).1, (h.wf _ (List.getElem_mem hl)).2, (h3 i hl).1, (h3 i hl).2⟩
end

def properB (n : Int) (x y : Int) : Bool := decide (0 ≤ x) && (decide (x < n) && (decide (1 ≤ y) && decide (y ≤ 1099511627776)))

theorem ret_boolE {w : World} {a b : Bool} (h : b = a) (o : Obj) : RetB w a (.returned (.bool b)) (w.alloc o) := ⟨by rw [h], (E.refl w).alloc o⟩

set_option maxHeartbeats 400000 in
theorem proper_c (n x y : Int) (w : World) :
    Calls Try.prog 56 #[.int .i64 n, .agg #[.int .i64 x, .int .i64 y]] w (RetB w (properB n x y)) := by
  by_cases h1 : 0 ≤ x
  · have d1 : decide (0 ≤ x) = true := by simpa using h1
    by_cases h2 : x < n
    · have d2 : decide (x < n) = true := by simpa using h2
      by_cases h3 : 1 ≤ y
      · have d3 : decide (1 ≤ y) = true := by simpa using h3
        go_enter Try.func56, Try.ntmps56
        go_wp2
        go_ret
        exact ret_boolE (by simp [properB, h1, h2, h3]) _
      · have d3 : decide (1 ≤ y) = false := by simpa using h3
        go_enter Try.func56, Try.ntmps56
        go_wp2
        go_ret
        exact ret_boolE (by simp [properB]; omega) _
    · have d2 : decide (x < n) = false := by simpa using h2
      go_enter Try.func56, Try.ntmps56
      go_wp2
      go_ret
      exact ret_boolE (by simp [properB]; omega) _
  · have d1 : decide (0 ≤ x) = false := by simpa using h1
    go_enter Try.func56, Try.ntmps56
    go_wp2
    go_ret
    exact ret_boolE (by simp [properB]; omega) _


def ofF : List Int → List (Int × Int) → List Int × Int
  | out, [] => (out, 0)
  | out, (x, y) :: l => if 1099511627776 < out.getD x.toNat 0 + y then ([], 4) else ofF (out.set x.toNat (out.getD x.toNat 0 + y)) l
def allProper (N : Int) (l : List (Int × Int)) : Bool := l.all fun p => properB N p.1 p.2
def ofS (N : Int) (l : List (Int × Int)) : List Int × Int := if 0 ≤ N ∧ N ≤ 64 ∧ allProper N l = true then ofF (List.replicate N.toNat 0) l else ([], 1)

theorem proper_drop {N : Int} {l : List (Int × Int)} {k : Nat} {x y : Int} (h : l[k]? = some (x, y)) : allProper N (l.drop k) = (properB N x y && allProper N (l.drop (k + 1))) := by
  rw [drop_at h]; rfl
theorem proper_get {N : Int} {l : List (Int × Int)} {k : Nat} {x y : Int} (hp : allProper N l = true) (h : l[k]? = some (x, y)) : 0 ≤ x ∧ x < N ∧ 1 ≤ y ∧ y ≤ 1099511627776 := by
  have := (List.all_eq_true.1 hp) _ (List.mem_of_getElem? h)
  simpa [properB] using this
theorem ofF_over {out : List Int} {l : List (Int × Int)} {k : Nat} {x y v : Int} (h : l[k]? = some (x, y)) (hv : out[x.toNat]? = some v) (ho : 1099511627776 < v + y) : ofF out (l.drop k) = ([], 4) := by
  rw [drop_at h]; simp [ofF, List.getD, hv, ho]
theorem ofF_step {out : List Int} {l : List (Int × Int)} {k : Nat} {x y v : Int} (h : l[k]? = some (x, y)) (hv : out[x.toNat]? = some v) (ho : ¬ 1099511627776 < v + y) : ofF out (l.drop k) = ofF (out.set x.toNat (v + y)) (l.drop (k + 1)) := by
  rw [drop_at h]; simp [ofF, List.getD, hv, ho]

def okAll (l : List Int) : Prop := ∀ x ∈ l, 0 ≤ x ∧ x ≤ 1099511627776
theorem okAll_rep (n : Nat) : okAll (List.replicate n 0) := by
  intro x hx; rw [List.eq_of_mem_replicate hx]; omega
theorem okAll_get {l : List Int} (h : okAll l) {i : Nat} {x : Int} (hx : l[i]? = some x) : 0 ≤ x ∧ x ≤ 1099511627776 := h x (List.mem_of_getElem? hx)
theorem okAll_set {l : List Int} (h : okAll l) {i : Nat} {v : Int} (h0 : 0 ≤ v) (h1 : v ≤ 1099511627776) : okAll (l.set i v) := by
  intro x hx
  rcases List.mem_or_eq_of_mem_set hx with hx | rfl
  · exact h x hx
  · exact ⟨h0, h1⟩

set_option maxHeartbeats 1000000 in
theorem of_c (N : Int) (A : Option Addr) (n c : Nat) (l : List (Int × Int)) (w : World) (h : Pairs w A n c l) :
    Calls Try.prog 24 #[.int .i64 N, .slice A n c] w (RetOwnErr .i64 3 w (ofS N l)) := by
  have hm := h.n63
  by_cases hN : N < 0
  · have HT := Lib.hid (show ofS N l = ([], 1) by rw [ofS, if_neg (by omega)])
    go_enter Try.func24, Try.ntmps24
    go_wp2
    go_ret2
    exact RetOwnErr.mk_ HT.out (Own.nil _ _ _ _) (E.refl _)
  by_cases hN2 : 64 < N
  · have HT := Lib.hid (show ofS N l = ([], 1) by rw [ofS, if_neg (by omega)])
    have hd : decide (N < 0) = false := by simpa using hN
    go_enter Try.func24, Try.ntmps24
    go_wp2
    go_ret2
    exact RetOwnErr.mk_ HT.out (Own.nil _ _ _ _) (E.refl _)
  have hd1 : decide (N < 0) = false := by simpa using hN
  have hd2 : decide (64 < N) = false := by simpa using hN2
  obtain ⟨M, rfl⟩ : ∃ M : Nat, N = M := ⟨N.toNat, by omega⟩
  have hM : M ≤ 64 := by omega
  have HS := Lib.hid (show ofS M l = if allProper M l = true then ofF (List.replicate M 0) l else ([], 1) by
    rw [ofS]; simp only [Int.toNat_natCast]; congr 1; simp; omega)
  go_enter Try.func24, Try.ntmps24
  go_wp2
  go_loopw [19] (fun i wr => ∃ (k : Nat), k ≤ n ∧ i = .int .i64 k ∧ E w wr ∧ Hid (allProper M (l.drop k) = allProper M l)) (fun i _ => n - (intOf i).toNat)
  case atStart => exact ⟨0, Nat.zero_le _, rfl, E.refl _, rfl⟩
  case round =>
    obtain ⟨k, hk, rfl, hE, hs⟩ := hrel
    by_cases hlt : k < n
    · obtain ⟨b, o, x, y, rfl, hb, hx, hwx, hwy, hc1, hc2⟩ := (h.e hE).get hlt
      have HX := Lib.hid (proper_drop (N := M) hx)
      clear hx hwx hwy
      cases hp : properB M x y
      · go_wp2_with (go_at_call 56; refine (proper_c _ _ _ _).mono ?_; rintro e w' ⟨rfl, hE2⟩)
        go_ret2
        exact RetOwnErr.mk_ (by rw [HS.out, if_neg (by rw [← hs.out, HX.out, hp]; simp)]) (Own.nil _ _ _ _) ((hE.alloc _).trans hE2)
      · go_wp2_with (go_at_call 56; refine (proper_c _ _ _ _).mono ?_; rintro e w' ⟨rfl, hE2⟩)
        go_roundw
        case rel => exact ⟨k + 1, by omega, by go_num, (hE.alloc _).trans hE2, show _ = _ by rw [← hs.out, HX.out, hp]; rfl⟩
        case measure => simp [intOf]; omega
    · have hall : allProper M l = true := by rw [← hs.out, drop_end h.len (by omega)]; rfl
      have HT := Lib.hid (show ofS M l = ofF (List.replicate M 0) l by rw [HS.out, if_pos hall])
      have HP := Lib.hid hall
      clear hall
      obtain ⟨wo, rfl⟩ : ∃ wo : World, wo = wr := ⟨_, rfl⟩
      have hle := hE.le
      go_wp2_with (at_make; refine wpList_mk intT _ rfl _ _ rfl _ _ _ _ M rfl rfl rfl rfl (by omega) ?_; intro w1 hO1 hE1 hsz1)
      go_loopw [32] (fun i wr => ∃ (k : Nat) (out : List Int), k ≤ n ∧ i = .int .i64 k ∧ Own .i64 3 wr wo.heap.size (some ⟨wo.heap.size, 0, none⟩) M M out ∧ Hid (okAll out) ∧ E wo wr ∧ Hid (ofF out (l.drop k) = ofS M l)) (fun i _ => n - (intOf i).toNat)
      case atStart => exact ⟨0, _, Nat.zero_le _, rfl, hO1, okAll_rep _, hE1, HT.out.symm⟩
      case round =>
        obtain ⟨k, out, hk, rfl, hO, hok, hE2, hs2⟩ := hrel
        have hle2 := hE2.le
        by_cases hlt : k < n
        · obtain ⟨b, o, x, y, rfl, hb, hx, hwx, hwy, hc1, hc2⟩ := ((h.e hE).e hE2).get hlt
          obtain ⟨x0, x1, y0, y1⟩ := proper_get HP.out hx
          obtain ⟨j, rfl⟩ : ∃ j : Nat, x = j := ⟨x.toNat, by omega⟩
          have hj : j < M := by omega
          obtain ⟨v, _, hg2, hv, _, hcv, hfr⟩ := hO.getg hj
          obtain ⟨v0, v1⟩ := okAll_get hok.out hv
          have HX := Lib.hid hx
          have HV := Lib.hid (show out[(j : Int).toNat]? = some v by simpa using hv)
          clear hx hwx hwy hv
          by_cases ho : 1099511627776 < v + y
          · go_wp2
            go_region
            go_wp2
            go_ret2
            exact RetOwnErr.mk_ (by rw [← hs2.out, ofF_over HX.out HV.out ho]) (Own.nil _ _ _ _) ((((hE.trans hE2).setCell (p := ⟨wo.heap.size, j, none⟩) hle _).alloc _).drew)
          · go_wp2
            go_region
            go_wp2
            go_roundw
            case rel =>
              refine ⟨k + 1, out.set (j : Int).toNat (v + y), by omega, by go_num, ?_, okAll_set hok.out (by omega) (by omega), ?_, show _ = _ by rw [← hs2.out, ofF_step HX.out HV.out (by omega)]⟩
              · rw [Int.toNat_natCast]; exact (hO.set j _ (wf_of_i64 (by omega) (by omega))).e (((E.refl _).alloc _).drew)
              · exact ((hE2.setCell (p := ⟨wo.heap.size, j, none⟩) (Nat.le_refl _) _).alloc _).drew
            case measure => simp [intOf]; omega
        · have HF := Lib.hid (show ofS M l = (out, 0) by rw [← hs2.out, drop_end h.len (by omega)]; rfl)
          go_wp2
          go_ret2
          exact RetOwnErr.mk_ HF.out (hO.rebase hle) (hE.trans hE2)
end Go.Proofs.Ytbpfdogjjoceaaa
