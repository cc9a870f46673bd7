/- Lemmas of the claim, joined: S4 S3 PK QP TM TN TO TP TQ QV Sh S5 S6 S7 S8 Sr WA WB. No condition. -/
import Derived.Test.YtmeplpiamkaniaaJB
import Derived.Test.YtmeplpiamkaniaaChecked
import Derived.Test.YtmeplpiamkaniaaJA
import Derived.Test.YtmeplpiamkaniaaJQ
import Derived.Shelf.Small.Bits
import Derived.Test.YtmeplpiamkaniaaProg
import Derived.Deep.DeepCutAuto
import Derived.Deep.CutBlock
import Derived.Laws.Bits64b
import Derived.Ground.SlgnProg
import Derived.Shelf.SlicesQ.Reverse
/- Plain facts for Split: the greatest rest, sums, multiples, the best choice. -/
namespace Go.Proofs.Ytmeplpiamkaniaa
set_option linter.unusedVariables false
set_option linter.unusedSimpArgs false

/-- -1 at each of the places -/
def mark (l : List Int) : List Nat → List Int
  | [] => l
  | i :: is => mark (l.set i (-1)) is
theorem mark_len (l : List Int) (is : List Nat) : (mark l is).length = l.length := by
  induction is generalizing l with
  | nil => rfl
  | cons i is ih => rw [mark, ih]; simp
theorem mark_snoc (l : List Int) (is : List Nat) (i : Nat) : mark l (is ++ [i]) = (mark l is).set i (-1) := by
  induction is generalizing l with
  | nil => rfl
  | cons j is ih => simp only [List.cons_append, mark]; rw [ih]
theorem mark_in {l : List Int} {is : List Nat} {j : Nat} (hj : j < l.length) (h : j ∈ is ∨ l.getD j 0 = -1) : (mark l is).getD j 0 = -1 := by
  induction is generalizing l with
  | nil => rcases h with h | h; · cases h
           exact h
  | cons i is ih =>
    rw [mark]
    refine ih (by simpa using hj) ?_
    by_cases e : j = i
    · right; subst e; simp [List.getD_eq_getElem?_getD, hj]
    · rcases h with h | h
      · rcases List.mem_cons.1 h with h | h
        · exact absurd h e
        · exact .inl h
      · right
        rw [List.getD_eq_getElem?_getD, List.getElem?_set, if_neg (fun x => e x.symm), ← List.getD_eq_getElem?_getD]; exact h
theorem mark_out {l : List Int} {is : List Nat} {j : Nat} (h : ¬ j ∈ is) : (mark l is).getD j 0 = l.getD j 0 := by
  induction is generalizing l with
  | nil => rfl
  | cons i is ih =>
    rw [List.mem_cons] at h
    rw [mark, ih fun x => h (.inr x)]
    rw [List.getD_eq_getElem?_getD, List.getElem?_set, if_neg (fun x => h (.inl x.symm)), ← List.getD_eq_getElem?_getD]

/-- the first of the greatest among the first n -/
def FirstMax (l : List Int) (n a : Nat) : Prop := a < n ∧ (∀ j, j < n → l.getD j 0 ≤ l.getD a 0) ∧ ∀ j, j < a → l.getD j 0 < l.getD a 0
theorem FirstMax.start (l : List Int) : FirstMax l 1 0 := ⟨by omega, fun j hj => by rw [show j = 0 by omega]; omega, fun j hj => by omega⟩
theorem FirstMax.more {l : List Int} {n a : Nat} (h : FirstMax l n a) (hl : l.getD a 0 < l.getD n 0) : FirstMax l (n + 1) n := by
  refine ⟨by omega, fun j hj => ?_, fun j hj => ?_⟩
  · by_cases e : j = n
    · subst e; omega
    · have := h.2.1 j (by omega); omega
  · have := h.2.1 j hj; omega
theorem FirstMax.keep {l : List Int} {n a : Nat} (h : FirstMax l n a) (hl : ¬ l.getD a 0 < l.getD n 0) : FirstMax l (n + 1) a := by
  refine ⟨by have := h.1; omega, fun j hj => ?_, h.2.2⟩
  by_cases e : j = n
  · subst e; omega
  · exact h.2.1 j (by omega)
theorem ord_first {rs : List Int} (h0 : ∀ x ∈ rs, 0 ≤ x) {k a : Nat} (hk : k < rs.length) (h : FirstMax (mark rs ((ordL rs).take k)) rs.length a) : (ordL rs)[k]? = some a := by
  have hkl : k < (ordL rs).length := by rw [ordL_len]; exact hk
  rw [List.getElem?_eq_getElem hkl]
  have hpw := ordL_prec rs
  have hnd := ordL_nodup rs
  have hml : (ordL rs)[k] < rs.length := ordL_mem.1 (List.getElem_mem hkl)
  have hsp : ordL rs = (ordL rs).take k ++ (ordL rs)[k] :: (ordL rs).drop (k + 1) := by rw [← List.drop_eq_getElem_cons hkl, List.take_append_drop]
  generalize hm : (ordL rs)[k] = m at *
  generalize hT : (ordL rs).take k = T at *
  generalize hD : (ordL rs).drop (k + 1) = D at *
  rw [hsp] at hpw hnd
  have hmT : ¬ m ∈ T := fun hx => (List.nodup_append.1 hnd).2.2 m hx m (by simp) rfl
  have hall : ∀ j, j < rs.length → j ∈ T ∨ j = m ∨ j ∈ D := fun j hj => by
    have := ordL_mem.2 hj
    rw [hsp] at this
    simpa using this
  have hg0 : 0 ≤ rs.getD m 0 := by
    rw [List.getD_eq_getElem?_getD, List.getElem?_eq_getElem hml]; exact h0 _ (List.getElem_mem hml)
  have e1 := mark_out (l := rs) hmT
  congr 1
  apply Classical.byContradiction
  intro hne
  have g1 := h.2.1 m hml
  have g2 := h.2.2 m
  rcases hall a h.1 with ha | ha | ha
  · have e2 := mark_in (l := rs) h.1 (.inl ha)
    omega
  · exact hne ha.symm
  · have hp : prec rs m a = true := (List.pairwise_cons.1 (List.pairwise_append.1 hpw).2.1).1 a ha
    have haT : ¬ a ∈ T := fun hx => (List.nodup_append.1 hnd).2.2 a hx a (by simp [ha]) rfl
    have e2 := mark_out (l := rs) haT
    rw [prec_iff] at hp
    omega
theorem bump_sum (l : List Int) : ∀ (is : List Nat), (∀ i ∈ is, i < l.length) → (bump l is).sum = l.sum + is.length := by
  intro is
  induction is generalizing l with
  | nil => intro _; simp [bump]
  | cons i is ih =>
    intro h
    rw [bump, ih _ (fun j hj => by have := h j (by simp [hj]); simpa using this)]
    have hi := h i (by simp)
    have key : ∀ (l : List Int) (i : Nat), i < l.length → (l.set i (l.getD i 0 + 1)).sum = l.sum + 1 := by
      intro l
      induction l with
      | nil => intro i h; simp at h
      | cons a l ih =>
        intro i h
        cases i with
        | zero => simp; omega
        | succ i => simp only [List.set_cons_succ, List.sum_cons, List.getD_cons_succ]; rw [ih i (by simpa using h)]; omega
    rw [key l i hi]
    simp; omega
theorem quos_len (t S : Int) (ws : List Int) : (quos t S ws).length = ws.length := by simp [quos]
theorem rems_len (t S : Int) (ws : List Int) : (rems t S ws).length = ws.length := by simp [rems]
theorem splitL_len (t : Int) (ws : List Int) : (splitL t ws).length = ws.length := by rw [splitL, bump_len, quos_len]
theorem okU_all {l : List Int} (h : l.all okU = true) {x : Int} (hx : x ∈ l) : 0 ≤ x ∧ x ≤ 1099511627776 := okU_iff.1 (List.all_eq_true.1 h x hx)
structure SplitPre (t : Int) (ws : List Int) : Prop where
  t0 : 0 ≤ t
  t1 : t ≤ 1099511627776
  w0 : ∀ x ∈ ws, 0 ≤ x ∧ x ≤ 1099511627776
  s0 : 0 < ws.sum
  s1 : ws.sum ≤ 1152921504606846976
theorem splitPre_of {t : Int} {ws : List Int} (h : splitOk t ws = true) : SplitPre t ws := by
  simp only [splitOk, Bool.and_eq_true, decide_eq_true_eq] at h
  obtain ⟨h1, h2, h3, h4⟩ := h
  exact ⟨(okU_iff.1 h1).1, (okU_iff.1 h1).2, fun x hx => okU_all h2 hx, h3, h4⟩
theorem splitOk_of {t : Int} {ws : List Int} (h : SplitPre t ws) : splitOk t ws = true := by
  simp only [splitOk, Bool.and_eq_true, decide_eq_true_eq, List.all_eq_true]
  exact ⟨okU_iff.2 ⟨h.t0, h.t1⟩, fun x hx => okU_iff.2 (h.w0 x hx), h.s0, h.s1⟩
theorem splitL_sum {t : Int} {ws : List Int} (h : SplitPre t ws) : (splitL t ws).sum = t := by
  have hl := left_le (t := t) h.s0
  have hf := (left_facts (t := t) h.s0).1
  rw [splitL, bump_sum _ _ (fun i hi => by
    have := ordL_mem.1 (List.mem_of_mem_take hi)
    rw [rems_len] at this; rw [quos_len]; exact this)]
  rw [List.length_take, ordL_len, rems_len, Nat.min_eq_left hl]
  unfold leftS; omega
/-- the part at a place: its quota, and one more where it is among the first -/
theorem splitL_get {t : Int} {ws : List Int} {i : Nat} (hi : i < ws.length) :
    (splitL t ws).getD i 0 = t * ws.getD i 0 / ws.sum + (if i ∈ (ordL (rems t ws.sum ws)).take (leftS t ws.sum ws) then 1 else 0) := by
  rw [splitL, bump_get _ _ ((ordL_nodup _).sublist (List.take_sublist _ _)) _ (by rw [quos_len]; exact hi)]
  congr 1
  simp [quos, List.getD_eq_getElem?_getD, List.getElem?_eq_getElem hi]
theorem rems_get {t S : Int} {ws : List Int} {i : Nat} (hi : i < ws.length) : (rems t S ws).getD i 0 = t * ws.getD i 0 % S := by
  simp [rems, List.getD_eq_getElem?_getD, List.getElem?_eq_getElem hi]
/-- a place that gets one more has a rest -/
theorem chosen_pos {t : Int} {ws : List Int} (hS : 0 < ws.sum) {i : Nat} (hi : i ∈ (ordL (rems t ws.sum ws)).take (leftS t ws.sum ws)) : 0 < t * ws.getD i 0 % ws.sum := by
  have := first_pos (left_facts (t := t) hS).2 hi
  have hl := ordL_mem.1 (List.mem_of_mem_take hi)
  rw [rems_len] at hl
  rwa [rems_get hl] at this
/-- a place that gets one more has no less rest than one that does not -/
theorem chosen_more {rs : List Int} {m i j : Nat} (hi : i ∈ (ordL rs).take m) (hj : j < rs.length) (hn : ¬ j ∈ (ordL rs).take m) : prec rs i j = true := by
  have hp := ordL_prec rs
  rw [← List.take_append_drop m (ordL rs), List.pairwise_append] at hp
  refine hp.2.2 i hi j ?_
  have := ordL_mem.2 hj
  rw [← List.take_append_drop m (ordL rs), List.mem_append] at this
  exact this.resolve_left hn
theorem part_le {t x S : Int} (ht : 0 ≤ t) (hx : x ≤ S) (hS : 0 < S) : t * x / S ≤ t := by
  have h1 : t * x ≤ t * S := Int.mul_le_mul_of_nonneg_left hx ht
  have := Int.ediv_le_ediv hS h1
  rwa [Int.mul_ediv_cancel _ (by omega)] at this
/-- below the quota rounded up -/
theorem splitL_quota {t : Int} {ws : List Int} (h : SplitPre t ws) {i : Nat} (hi : i < ws.length) :
    t * ws.getD i 0 / ws.sum ≤ (splitL t ws).getD i 0 ∧ (splitL t ws).getD i 0 ≤ t * ws.getD i 0 / ws.sum + (if 0 < t * ws.getD i 0 % ws.sum then 1 else 0) := by
  rw [splitL_get hi]
  by_cases hc : i ∈ (ordL (rems t ws.sum ws)).take (leftS t ws.sum ws)
  · have := chosen_pos h.s0 hc
    rw [if_pos hc, if_pos this]; omega
  · rw [if_neg hc]; split <;> omega
theorem getD_mem {l : List Int} {i : Nat} (hi : i < l.length) : l.getD i 0 ∈ l := by
  rw [List.getD_eq_getElem?_getD, List.getElem?_eq_getElem hi]; exact List.getElem_mem hi
theorem ceil_le {t x S : Int} (ht : 0 ≤ t) (hx : x ≤ S) (hS : 0 < S) (hr : 0 < t * x % S) : t * x / S + 1 ≤ t := by
  have h1 : t * x ≤ t * S := Int.mul_le_mul_of_nonneg_left hx ht
  have h2 := Int.mul_ediv_add_emod (t * x) S
  have : t * x / S < t := by
    rcases Int.lt_or_le (t * x / S) t with h | h
    · exact h
    · have := Int.mul_le_mul_of_nonneg_left h (show 0 ≤ S by omega)
      rw [Int.mul_comm S t] at this; omega
  omega
theorem splitL_range {t : Int} {ws : List Int} (h : SplitPre t ws) : ∀ x ∈ splitL t ws, 0 ≤ x ∧ x ≤ t := by
  intro x hx
  obtain ⟨i, hi, rfl⟩ := List.getElem_of_mem hx
  rw [splitL_len] at hi
  have hg : (splitL t ws)[i] = (splitL t ws).getD i 0 := by rw [List.getD_eq_getElem?_getD, List.getElem?_eq_getElem (by rw [splitL_len]; exact hi)]; rfl
  rw [hg]
  have hq := splitL_quota h hi
  have hm := getD_mem hi
  have hw := h.w0 _ hm
  have hs := le_sum (fun x hx => (h.w0 x hx).1) hm
  have h0 := Int.ediv_nonneg (Int.mul_nonneg h.t0 hw.1) (Int.le_of_lt h.s0)
  refine ⟨by omega, ?_⟩
  by_cases hr : 0 < t * ws.getD i 0 % ws.sum
  · rw [if_pos hr] at hq
    have := ceil_le h.t0 hs h.s0 hr
    omega
  · rw [if_neg hr] at hq
    have := part_le h.t0 hs h.s0
    omega

/-- multiples of the weights -/
theorem sum_mul (k : Int) (ws : List Int) : (ws.map (k * ·)).sum = k * ws.sum := by
  induction ws with
  | nil => simp
  | cons a l ih => simp only [List.map_cons, List.sum_cons, ih]; grind
theorem splitL_scale {t k : Int} {ws : List Int} (hk : 0 < k) : splitL t (ws.map (k * ·)) = splitL t ws := by
  have hs := sum_mul k ws
  have hq : quos t (k * ws.sum) (ws.map (k * ·)) = quos t ws.sum ws := by
    simp only [quos, List.map_map]
    refine List.map_congr_left fun x _ => ?_
    show t * (k * x) / (k * ws.sum) = _
    rw [show t * (k * x) = k * (t * x) by grind, Int.mul_ediv_mul_of_pos _ _ hk]
  have hr : rems t (k * ws.sum) (ws.map (k * ·)) = (rems t ws.sum ws).map (k * ·) := by
    simp only [rems, List.map_map]
    refine List.map_congr_left fun x _ => ?_
    show t * (k * x) % (k * ws.sum) = k * _
    rw [show t * (k * x) = k * (t * x) by grind, Int.mul_emod_mul_of_pos _ _ hk]
  have ho : ∀ rs : List Int, ordL (rs.map (k * ·)) = ordL rs := by
    intro rs
    have hp : ∀ i j, prec (rs.map (k * ·)) i j = prec rs i j := by
      intro i j
      have hg : ∀ i, (rs.map (k * ·)).getD i 0 = k * rs.getD i 0 := by
        intro i
        simp only [List.getD_eq_getElem?_getD, List.getElem?_map]
        cases rs[i]? <;> simp
      rw [Bool.eq_iff_iff, prec_iff, prec_iff, hg, hg]
      generalize rs.getD i 0 = a
      generalize rs.getD j 0 = b
      have e1 : k * b < k * a ↔ b < a := Int.mul_lt_mul_left hk
      have e2 : k * a = k * b ↔ a = b := ⟨fun h => Int.eq_of_mul_eq_mul_left (by omega) h, fun h => by rw [h]⟩
      rw [e1, e2]
    simp only [ordL, List.length_map, hp]
  have hl : leftS t (k * ws.sum) (ws.map (k * ·)) = leftS t ws.sum ws := by unfold leftS; rw [hq]
  unfold splitL
  rw [hs, hq, hr, ho, hl]
/-- a greater weight does not get less -/
theorem splitL_mono {t : Int} {ws : List Int} (h : SplitPre t ws) {i j : Nat} (hi : i < ws.length) (hj : j < ws.length) (hw : ws.getD j 0 < ws.getD i 0) : (splitL t ws).getD j 0 ≤ (splitL t ws).getD i 0 := by
  rw [splitL_get hi, splitL_get hj]
  have h1 : t * ws.getD j 0 ≤ t * ws.getD i 0 := Int.mul_le_mul_of_nonneg_left (by omega) h.t0
  have h2 := Int.ediv_le_ediv h.s0 h1
  by_cases hc : j ∈ (ordL (rems t ws.sum ws)).take (leftS t ws.sum ws)
  · by_cases hd : i ∈ (ordL (rems t ws.sum ws)).take (leftS t ws.sum ws)
    · rw [if_pos hc, if_pos hd]; omega
    · rw [if_pos hc, if_neg hd]
      have hp := chosen_more hc (by rw [rems_len]; exact hi) hd
      have hpos := chosen_pos h.s0 hc
      rw [prec_iff, rems_get hi, rems_get hj] at hp
      have e1 := Int.mul_ediv_add_emod (t * ws.getD i 0) ws.sum
      have e2 := Int.mul_ediv_add_emod (t * ws.getD j 0) ws.sum
      have ht : 0 < t := by
        rcases Int.lt_or_le 0 t with h' | h'
        · exact h'
        · have : t = 0 := by have := h.t0; omega
          rw [this] at hpos; simp at hpos
      have h3 : t * ws.getD j 0 < t * ws.getD i 0 := Int.mul_lt_mul_of_pos_left hw ht
      have : t * ws.getD j 0 / ws.sum ≠ t * ws.getD i 0 / ws.sum := by
        intro e
        rw [e] at e2
        omega
      omega
  · rw [if_neg hc]
    split <;> omega
def farB (a b : Int) : Int := if a < b then b - a else a - b
/-- moving one does not bring both nearer -/
theorem splitL_best {t : Int} {ws : List Int} (h : SplitPre t ws) {i j : Nat} (hi : i < ws.length) (hj : j < ws.length) :
    ¬ farB (((splitL t ws).getD i 0 - 1) * ws.sum) (t * ws.getD i 0) + farB (((splitL t ws).getD j 0 + 1) * ws.sum) (t * ws.getD j 0) < farB ((splitL t ws).getD i 0 * ws.sum) (t * ws.getD i 0) + farB ((splitL t ws).getD j 0 * ws.sum) (t * ws.getD j 0) := by
  rw [splitL_get hi, splitL_get hj]
  have e1 := Int.mul_ediv_add_emod (t * ws.getD i 0) ws.sum
  have e2 := Int.mul_ediv_add_emod (t * ws.getD j 0) ws.sum
  have m1 := Int.emod_nonneg (t * ws.getD i 0) (show ws.sum ≠ 0 by have := h.s0; omega)
  have m2 := Int.emod_nonneg (t * ws.getD j 0) (show ws.sum ≠ 0 by have := h.s0; omega)
  have n1 := Int.emod_lt_of_pos (t * ws.getD i 0) h.s0
  have n2 := Int.emod_lt_of_pos (t * ws.getD j 0) h.s0
  have hmore := fun hc hd => chosen_more (rs := rems t ws.sum ws) (m := leftS t ws.sum ws) (i := i) (j := j) hc (by rw [rems_len]; exact hj) hd
  have hgi := rems_get (t := t) (S := ws.sum) hi
  have hgj := rems_get (t := t) (S := ws.sum) hj
  simp only [prec_iff, hgi, hgj] at hmore
  generalize t * ws.getD i 0 = a at *
  generalize t * ws.getD j 0 = b at *
  generalize ws.sum = S at *
  generalize a / S = qa at *
  generalize b / S = qb at *
  generalize a % S = ra at *
  generalize b % S = rb at *
  have x1 : ∀ c : Int, (qa + c - 1) * S = S * qa + c * S - S := by intro c; grind
  have x2 : ∀ c : Int, (qb + c + 1) * S = S * qb + c * S + S := by intro c; grind
  have x3 : ∀ c : Int, (qa + c) * S = S * qa + c * S := by intro c; grind
  have x4 : ∀ c : Int, (qb + c) * S = S * qb + c * S := by intro c; grind
  rw [x1, x2, x3, x4]
  unfold farB
  by_cases hc : i ∈ (ordL (rems t S ws)).take (leftS t S ws)
  · by_cases hd : j ∈ (ordL (rems t S ws)).take (leftS t S ws)
    · rw [if_pos hc, if_pos hd, Int.one_mul]; split <;> split <;> split <;> split <;> omega
    · have hm := hmore hc hd
      rw [if_pos hc, if_neg hd, Int.one_mul, Int.zero_mul]; split <;> split <;> split <;> split <;> omega
  · by_cases hd : j ∈ (ordL (rems t S ws)).take (leftS t S ws)
    · rw [if_neg hc, if_pos hd, Int.one_mul, Int.zero_mul]; split <;> split <;> split <;> split <;> omega
    · rw [if_neg hc, if_neg hd, Int.zero_mul]; split <;> split <;> split <;> split <;> omega
/-- what was split is split in the same way again -/
theorem splitL_again {t : Int} {xs : List Int} (h0 : 0 < t) (hs : xs.sum = t) : splitL t xs = xs := by
  have hq : quos t xs.sum xs = xs := by
    rw [quos, hs]
    conv => rhs; rw [← List.map_id xs]
    refine List.map_congr_left fun x _ => ?_
    rw [Int.mul_ediv_cancel_left _ (by omega)]; rfl
  have hl : leftS t xs.sum xs = 0 := by unfold leftS; rw [hq, hs]; simp
  rw [splitL, hl, hq]; rfl
end Go.Proofs.Ytmeplpiamkaniaa
/- Contracts of package share's tests, of the reference's, Around, Same, Sum. -/
namespace Go.Proofs.Ytmeplpiamkaniaa
set_option linter.unusedVariables false
set_option linter.unusedSimpArgs false
open Go.RowKit

def okL (x : Int) : Bool := decide (0 ≤ x) && decide (x ≤ 1152921504606846976)
theorem okL_iff {x : Int} : okL x = true ↔ 0 ≤ x ∧ x ≤ 1152921504606846976 := by simp [okL]

set_option maxHeartbeats 400000 in
theorem aroundR (a m : Int) (w : World) (h1 : -9223372036854775808 ≤ a) (h2 : a ≤ 9223372036854775807) (hm : 0 < m) (hm2 : m ≤ 9223372036854775807) :
    Calls Try.prog 11 #[.int .i64 a, .int .i64 m] w fun e w' => e = .returned (.int .i64 (a % m)) ∧ w = w' := by
  have hz : (m == 0) = false := by simp; omega
  have hz1 : (m == -1) = false := by simp; omega
  have ht : -m < a.tmod m ∧ a.tmod m < m := ⟨Int.lt_tmod_of_pos a hm, Int.tmod_lt_of_pos a hm⟩
  obtain ⟨t1, t2⟩ := ht
  by_cases h : a.tmod m < 0
  · have HF := Lib.hid (show a.tmod m + m = a % m by
      have := Int.tmod_def a m; rw [Int.tmod_eq_emod] at h ⊢; split at h
      · have := Int.emod_nonneg a (show m ≠ 0 by omega); omega
      · split <;> omega)
    go_enter Try.func11, Try.ntmps11
    go_wp2
    go_ret
    exact ⟨ret_int HF.out, rfl⟩
  · have HF := Lib.hid (show a.tmod m = a % m by
      rw [Int.tmod_eq_emod] at h ⊢; split at h
      · rename_i hh; rw [if_pos hh]; omega
      · have := Int.emod_lt_of_pos a hm; omega)
    go_enter Try.func11, Try.ntmps11
    go_wp2
    go_ret
    exact ⟨ret_int HF.out, rfl⟩

theorem neN_t {a b : Nat} (h : ¬ a = b) : ((a : Int) != (b : Int)) = true := by simp; omega
set_option maxHeartbeats 400000 in
theorem sameR (A1 A2 : Option Addr) (n1 c1 n2 c2 : Nat) (l1 l2 : List Int) (w : World) (h1 : Nums .i64 w A1 n1 c1 l1) (h2 : Nums .i64 w A2 n2 c2 l2) :
    Calls Try.prog 21 #[.slice A1 n1 c1, .slice A2 n2 c2] w fun e w' => e = .returned (.bool (sameB l1 l2)) ∧ ∃ m, w' = w.drewN m := by
  have m1 := h1.n63
  have m2 := h2.n63
  by_cases hn : n1 = n2
  · subst hn
    go_enter Try.func21, Try.ntmps21
    go_wp2
    go_loopw [5] (fun i wr => ∃ k : Nat, k ≤ n1 ∧ i = .int .i64 k ∧ Q w wr ∧ Hid (sameB (l1.drop k) (l2.drop k) = sameB l1 l2)) (fun i _ => n1 - (intOf i).toNat)
    case atStart => exact ⟨0, Nat.zero_le _, rfl, Q.refl _, rfl⟩
    case round =>
      obtain ⟨k, hk, rfl, hq, hs⟩ := hrel
      by_cases hlt : k < n1
      · obtain ⟨b1, o1, x, rfl, hb1, hx, hwx, hc1⟩ := (h1.q hq).get hlt
        obtain ⟨b2, o2, y, rfl, hb2, hy, hwy, hc2⟩ := (h2.q hq).get hlt
        have HX := Lib.hid (drop_at hx)
        have HY := Lib.hid (drop_at hy)
        clear hx hy hwx hwy
        by_cases he : x = y
        · have hd : (x != y) = false := by simp [he]
          have HE := Lib.hid he
          clear he
          go_wp2
          go_quiet (fail)
          go_wp2
          go_roundw
          case rel => exact ⟨k + 1, by omega, by go_num, hq.drewN _, show _ = _ by rw [← hs.out, HX.out, HY.out, HE.out]; simp [sameB]⟩
          case measure => simp [intOf]; omega
        · have hd : (x != y) = true := by simpa using he
          go_wp2
          go_quiet (fail)
          go_wp2
          go_ret
          exact ⟨ret_bool (by rw [← hs.out, HX.out, HY.out]; simp [sameB, he]), hq.drewN _⟩
      · have HF := Lib.hid (show sameB l1 l2 = true by rw [← hs.out, drop_end h1.len (by omega), drop_end h2.len (by omega)]; rfl)
        go_wp2
        go_ret
        exact ⟨ret_bool HF.out.symm, hq⟩
  · have hb := neN_t hn
    have HF := Lib.hid (show sameB l1 l2 = false by
      have := h1.len; have := h2.len; simp only [sameB, decide_eq_false_iff_not]; rintro rfl; omega)
    go_enter Try.func21, Try.ntmps21
    go_wp2
    go_ret
    exact ⟨ret_bool HF.out.symm, Q.refl _⟩
end Go.Proofs.Ytmeplpiamkaniaa
/- Pick; literals of lots; Same of a list with itself. -/
namespace Go.Proofs.Ytmeplpiamkaniaa
set_option linter.unusedVariables false
set_option linter.unusedSimpArgs false
open Go.RowKit

def pk (l : List Int) (i : Nat) (m : Int) : Int := match l[i]? with | some x => x % m | none => 0
theorem pk_range (l : List Int) (i : Nat) {m : Int} (hm : 0 < m) : 0 ≤ pk l i m ∧ pk l i m < m := by
  unfold pk
  split
  · exact ⟨Int.emod_nonneg _ (by omega), Int.emod_lt_of_pos _ hm⟩
  · exact ⟨Int.le_refl _, hm⟩
set_option maxHeartbeats 1000000 in
theorem pick13_c (A : Option Addr) (n c : Nat) (l : List Int) (i : Nat) (m : Int) (w : World) (h : Nums .i64 w A n c l) (hi : i ≤ 1000000) (hm : 0 < m) (hm2 : m ≤ 9223372036854775807) :
    Calls Try.prog 37 #[.slice A n c, .int .i64 i, .int .i64 m] w fun e w' => e = .returned (.int .i64 (pk l i m)) ∧ E w w' := by
  have hnn := h.n63
  have d0 : decide ((i : Int) < 0) = false := decide_eq_false (by omega)
  have d2 : decide (m < 1) = false := decide_eq_false (by omega)
  by_cases hlt : (i : Int) < (n : Int)
  · obtain ⟨b, o, x, rfl, hb, hx, hwx, hcx⟩ := h.get (i := i) (by omega)
    have d1 : decide ((n : Int) ≤ (i : Int)) = false := decide_eq_false (by omega)
    have hi0 : (0 : Int) ≤ (i : Int) := by omega
    have HF := Lib.hid (show pk l i m = x % m by rw [pk, hx])
    have HA := Lib.hid (fun w => aroundR x m w (wf_i64 hwx).1 (wf_i64 hwx).2 hm hm2)
    clear hx
    go_enter Try.func37, Try.ntmps37
    go_wp2_with fail
    refine (HA.out _).mono ?_
    rintro e w' ⟨rfl, rfl⟩
    go_wp2_with fail
    go_ret
    exact ⟨ret_int HF.out.symm, E.refl _⟩
  · have HF := Lib.hid (show pk l i m = 0 by rw [pk, List.getElem?_eq_none (by rw [h.len]; omega)])
    have d1 : decide ((n : Int) ≤ (i : Int)) = true := decide_eq_true (by omega)
    go_enter Try.func37, Try.ntmps37
    go_wp2_with fail
    go_ret
    exact ⟨ret_int HF.out.symm, E.refl _⟩

theorem lots_made (w : World) (l : List Lt) (hw : ∀ x ∈ l, WfL x) (h0 : 0 < l.length) (hm : l.length ≤ 1000) : LotsAt (w.alloc (.cells (flatL l).toArray 32)) (some ⟨w.heap.size, 0, none⟩) l.length l.length l :=
  ⟨rfl, Nat.le_refl _, by unfold maxLen; omega, hw, fun _ => ⟨w.heap.size, 0, rfl, by simp, fun i x hi => by
    obtain ⟨h1, h2, h3⟩ := flatL_at l i x hi
    have hb := heap_alloc_new w (.cells (flatL l).toArray 32)
    have e : ∀ j u, (flatL l)[j]? = some u → (w.alloc (.cells (flatL l).toArray 32)).cell? ⟨w.heap.size, j, none⟩ = some u := fun j u hu => by
      rw [cell_of_row _ _ j _ _ _ hb, List.getElem?_toArray, hu]
    rw [Nat.zero_add]
    exact ⟨e _ _ h1, e _ _ h2, e _ _ h3⟩⟩⟩
theorem wfl_lit {f a n : Int} (h : 0 ≤ f ∧ f ≤ 100 ∧ 0 ≤ a ∧ a ≤ 100 ∧ 0 ≤ n ∧ n ≤ 100) : WfL (f, a, n) := ⟨wf_of_i64 (by simp only; omega) (by simp only; omega), wf_of_i64 (by simp only; omega) (by simp only; omega), wf_of_i64 (by simp only; omega) (by simp only; omega)⟩
theorem same_self (A1 A2 : Option Addr) (n1 c1 n2 c2 : Nat) (l : List Lt) (w : World) (h1 : LotsAt w A1 n1 c1 l) (h2 : LotsAt w A2 n2 c2 l) : Calls Try.prog 13 #[.slice A1 n1 c1, .slice A2 n2 c2] w (RetK w true) := by
  have h := sameL_c A1 A2 n1 c1 n2 c2 l l w h1 h2
  rw [show decide (l = l) = true from decide_eq_true rfl] at h
  exact h
end Go.Proofs.Ytmeplpiamkaniaa
/- Sources and roots of lots, plain. -/
namespace Go.Proofs.Ytmeplpiamkaniaa
set_option linter.unusedVariables false
set_option linter.unusedSimpArgs false

/-- the sources of a lot of the graph, put together -/
def srcF (fs : List Fl) (x : Lt) : List Lt := glue ((ul x).filterMap (srcU fs))
theorem has_get {fs : List Fl} {x : Lt} (h : hasF fs x = true) : ∃ f, getF fs x.1 = some f ∧ f ∈ fs ∧ f.id = x.1 ∧ 0 ≤ x.2.1 ∧ 1 ≤ x.2.2 ∧ x.2.1 + x.2.2 ≤ f.n := by
  obtain ⟨h1, f, h2, h3⟩ := hasF_iff.1 h
  have h1 := possB_iff.1 h1
  exact ⟨f, h2, (getF_some h2).1, (getF_some h2).2, h1.2.1, h1.2.2.2.1, h3⟩
theorem src_new {fs : List Fl} {x : Lt} {f : Fl} (hf : getF fs x.1 = some f) (hp : f.parts = []) : (ul x).filterMap (srcU fs) = [] := by
  rw [List.filterMap_eq_nil_iff]
  intro u hu
  exact src_none (by rw [(mem_ul.1 hu).1]; exact hf) hp
theorem srcF_new {fs : List Fl} {x : Lt} {f : Fl} (hf : getF fs x.1 = some f) (hp : f.parts = []) : srcF fs x = [] := by
  rw [srcF, src_new hf hp]; rfl
theorem src_cut {fs : List Fl} (hg : GOk fs) {x : Lt} (h : hasF fs x = true) {f : Fl} (hf : getF fs x.1 = some f) (hp : f.parts ≠ []) : (ul x).filterMap (srcU fs) = cutU f.parts x.2.1 x.2.2 := by
  obtain ⟨f', h1, h2, _, h4, h5, h6⟩ := has_get h
  rw [hf] at h1
  injection h1 with h1
  subst h1
  have := hg.len h2 hp
  exact srcs_eq hf h4 (by omega) (by omega)
theorem src_len {fs : List Fl} (hg : GOk fs) {x : Lt} (h : hasF fs x = true) {f : Fl} (hf : getF fs x.1 = some f) (hp : f.parts ≠ []) : ((ul x).filterMap (srcU fs)).length = x.2.2.toNat := by
  rw [src_cut hg h hf hp, cutU, List.length_take, List.length_drop]
  obtain ⟨f', h1, h2, _, h4, h5, h6⟩ := has_get h
  rw [hf] at h1
  injection h1 with h1
  subst h1
  have := hg.len h2 hp
  omega
theorem U_srcF (fs : List Fl) (x : Lt) : U (srcF fs x) = (ul x).filterMap (srcU fs) := U_glue _
theorem src_roots {fs : List Fl} {r : Un → Un} (hr : RootOf fs r) : ∀ {us : List Un}, (∀ u ∈ us, ∃ v, srcU fs u = some v) → (us.filterMap (srcU fs)).map r = us.map r
  | [], _ => rfl
  | u :: us, h => by
    obtain ⟨v, hv⟩ := h u List.mem_cons_self
    rw [List.filterMap_cons, hv, List.map_cons, List.map_cons, hr.some_ hv, src_roots hr fun w hw => h w (List.mem_cons_of_mem _ hw)]
theorem srcF_roots {fs : List Fl} (hg : GOk fs) {r : Un → Un} (hr : RootOf fs r) {x : Lt} (h : hasF fs x = true) {f : Fl} (hf : getF fs x.1 = some f) (hp : f.parts ≠ []) : (U (srcF fs x)).map r = (ul x).map r := by
  rw [U_srcF, src_roots hr fun u hu => hg.src_some (hasF_units h u hu) (by rw [(mem_ul.1 hu).1]; exact hf) hp]
theorem new_roots {fs : List Fl} {r : Un → Un} (hr : RootOf fs r) {x : Lt} {f : Fl} (hf : getF fs x.1 = some f) (hp : f.parts = []) : (ul x).map r = ul x := by
  have : ∀ u ∈ ul x, r u = id u := fun u hu => hr.none_ (src_none (by rw [(mem_ul.1 hu).1]; exact hf) hp)
  rw [List.map_congr_left this, List.map_id]
theorem srcF_has {fs : List Fl} (hg : GOk fs) {x : Lt} : ∀ y ∈ srcF fs x, hasF fs y = true := fun y hy => by
  have hgl := glue_glued ((ul x).filterMap (srcU fs))
  refine (poss_units hg (hgl.mem y hy) fun u hu => ?_).2
  have hm : u ∈ U (srcF fs x) := mem_U.2 ⟨y, hy, hu⟩
  rw [U_srcF] at hm
  obtain ⟨v, _, hv⟩ := List.mem_filterMap.1 hm
  exact (hg.src hv).1
theorem srcF_ne {fs : List Fl} (hg : GOk fs) {x : Lt} (h : hasF fs x = true) {f : Fl} (hf : getF fs x.1 = some f) (hp : f.parts ≠ []) : srcF fs x ≠ [] := fun e => by
  have h1 := src_len hg h hf hp
  rw [← U_srcF, e] at h1
  obtain ⟨_, _, _, _, _, h5, _⟩ := has_get h
  simp [U_nil] at h1
  omega
theorem srcF_refs {fs : List Fl} (hg : GOk fs) {x : Lt} {f : Fl} (hf : getF fs x.1 = some f) : ∀ y ∈ srcF fs x, y.1 ∈ refsF f := fun y hy => by
  have hgl := glue_glued ((ul x).filterMap (srcU fs))
  have hm : (y.1, y.2.1) ∈ U (srcF fs x) := mem_U.2 ⟨y, hy, mem_ul.2 ⟨rfl, by simp only; omega, by have := hgl.mem y hy; simp only; omega⟩⟩
  rw [U_srcF] at hm
  obtain ⟨u, hu, hv⟩ := List.mem_filterMap.1 hm
  obtain ⟨_, f', h1, h2, _⟩ := hg.src hv
  rw [(mem_ul.1 hu).1, hf] at h1
  injection h1 with h1
  subst h1
  exact h2
/-- the roots of a lot, put together -/
def rootF (fs : List Fl) (r : Un → Un) (x : Lt) : List Lt := if hasF fs x then glue ((ul x).map r) else []
theorem RootOf.inG {fs : List Fl} (hg : GOk fs) {r : Un → Un} (hr : RootOf fs r) : ∀ u, InG fs u → InG fs (r u) := by
  obtain ⟨rk, hrk⟩ := hg.rk
  have key : ∀ n u, rk u.1 < n → InG fs u → InG fs (r u) := by
    intro n
    induction n with
    | zero => intro u h; omega
    | succ n ih =>
      intro u hn hu
      cases hv : srcU fs u with
      | none => rw [hr.none_ hv]; exact hu
      | some v =>
        rw [hr.some_ hv]
        obtain ⟨h1, f, h2, h3, _⟩ := hg.src hv
        have := hrk f (getF_some h2).1 v.1 h3
        rw [(getF_some h2).2] at this
        exact ih v (by omega) h1
  exact fun u => key _ u (Nat.lt_succ_self _)
theorem rootF_has {fs : List Fl} (hg : GOk fs) {r : Un → Un} (hr : RootOf fs r) {x : Lt} : ∀ y ∈ rootF fs r x, hasF fs y = true := fun y hy => by
  unfold rootF at hy
  by_cases h : hasF fs x = true
  · rw [if_pos h] at hy
    have hgl := glue_glued ((ul x).map r)
    refine (poss_units hg (hgl.mem y hy) fun u hu => ?_).2
    have hm : u ∈ U (glue ((ul x).map r)) := mem_U.2 ⟨y, hy, hu⟩
    rw [U_glue] at hm
    obtain ⟨v, hv, rfl⟩ := List.mem_map.1 hm
    exact hr.inG hg v (hasF_units h v hv)
  · rw [if_neg h] at hy; cases hy
theorem RootOf.uniq {fs : List Fl} (hg : GOk fs) {r r' : Un → Un} (hr : RootOf fs r) (hr' : RootOf fs r') : ∀ u, r u = r' u := by
  obtain ⟨rk, hrk⟩ := hg.rk
  have key : ∀ n u, rk u.1 < n → r u = r' u := by
    intro n
    induction n with
    | zero => intro u h; omega
    | succ n ih =>
      intro u hn
      cases hv : srcU fs u with
      | none => rw [hr.none_ hv, hr'.none_ hv]
      | some v =>
        rw [hr.some_ hv, hr'.some_ hv]
        obtain ⟨h1, f, h2, h3, _⟩ := hg.src hv
        have := hrk f (getF_some h2).1 v.1 h3
        rw [(getF_some h2).2] at this
        exact ih v (by omega)
  exact fun u => key _ u (Nat.lt_succ_self _)

/-! the stack of lots whose roots are still to be found -/
structure RtSt (fs : List Fl) (r : Un → Un) (x : Lt) (waiting : List Lt) (us : List Un) : Prop where
  has : ∀ y ∈ waiting, hasF fs y = true
  all : us ++ waiting.reverse.flatMap (fun y => (ul y).map r) = (ul x).map r
theorem flat_roots (r : Un → Un) (l : List Lt) : l.flatMap (fun y => (ul y).map r) = (U l).map r := by
  induction l with
  | nil => rfl
  | cons x l ih => rw [List.flatMap_cons, ih, U_cons, List.map_append]
section
variable {fs : List Fl} {r : Un → Un} {x next : Lt} {waiting : List Lt} {us : List Un}
theorem RtSt.start (h : hasF fs x = true) : RtSt fs r x [x] [] := ⟨by simpa using h, by simp⟩
theorem RtSt.new (h : RtSt fs r x (waiting ++ [next]) us) (hr : RootOf fs r) {f : Fl} (hf : getF fs next.1 = some f) (hp : f.parts = []) : RtSt fs r x waiting (us ++ ul next) :=
  ⟨fun y hy => h.has y (List.mem_append_left _ hy), by
    have := h.all
    rw [List.reverse_append, List.flatMap_append] at this
    simp only [List.reverse_singleton, List.flatMap_cons, List.flatMap_nil, List.append_nil] at this
    rw [new_roots hr hf hp, ← List.append_assoc] at this
    exact this⟩
theorem RtSt.more (h : RtSt fs r x (waiting ++ [next]) us) (hg : GOk fs) (hr : RootOf fs r) {f : Fl} (hf : getF fs next.1 = some f) (hp : f.parts ≠ []) : RtSt fs r x (waiting ++ (srcF fs next).reverse) us :=
  ⟨fun y hy => by
    rcases List.mem_append.1 hy with hy | hy
    · exact h.has y (List.mem_append_left _ hy)
    · exact srcF_has hg y (List.mem_reverse.1 hy), by
    have := h.all
    rw [List.reverse_append, List.flatMap_append] at this
    simp only [List.reverse_singleton, List.flatMap_cons, List.flatMap_nil, List.append_nil] at this
    rw [List.reverse_append, List.reverse_reverse, List.flatMap_append, flat_roots, srcF_roots hg hr (h.has next (by simp)) hf hp]
    exact this⟩
theorem RtSt.done (h : RtSt fs r x [] us) (hx : hasF fs x = true) : glue us = rootF fs r x := by
  have := h.all
  simp at this
  rw [rootF, if_pos hx, this]
/-- how many lots and how many roots there can be -/
theorem RtSt.cnt (h : RtSt fs r x waiting us) : us.length + waiting.length ≤ x.2.2.toNat := by
  have := congrArg List.length h.all
  rw [List.length_append, List.length_map, ul_len, flat_roots, List.length_map] at this
  have h2 := len_units (l := waiting.reverse) (fun y hy => by obtain ⟨_, _, _, _, _, h5, _⟩ := has_get (h.has y (List.mem_reverse.1 hy)); exact h5)
  rw [List.length_reverse] at h2
  omega
end
/-- what is left to do -/
def rtM (rk : Int → Nat) (l : List Lt) : Nat := (l.map fun y => y.2.2.toNat * (rk y.1 + 1)).sum
theorem rtM_app (rk : Int → Nat) (a b : List Lt) : rtM rk (a ++ b) = rtM rk a + rtM rk b := by simp [rtM]
theorem rtM_rev (rk : Int → Nat) (a : List Lt) : rtM rk a.reverse = rtM rk a := by
  induction a with
  | nil => rfl
  | cons x a ih => rw [List.reverse_cons, rtM_app, ih]; simp [rtM]; omega
theorem rtM_one (rk : Int → Nat) (y : Lt) (h : 1 ≤ y.2.2) : 1 ≤ rtM rk [y] := by
  have h1 : 1 ≤ y.2.2.toNat := by omega
  have := Nat.mul_le_mul h1 (Nat.le_add_left 1 (rk y.1))
  simpa [rtM] using this
theorem rtM_le {rk : Int → Nat} {k : Nat} : ∀ {l : List Lt}, (∀ y ∈ l, rk y.1 + 1 ≤ k ∧ 0 ≤ y.2.2) → rtM rk l ≤ (U l).length * k
  | [], _ => Nat.zero_le _
  | y :: l, h => by
    have h1 := rtM_le (rk := rk) (k := k) (l := l) fun z hz => h z (List.mem_cons_of_mem _ hz)
    obtain ⟨h2, _⟩ := h y List.mem_cons_self
    have h3 : rtM rk (y :: l) = y.2.2.toNat * (rk y.1 + 1) + rtM rk l := rfl
    rw [h3, U_cons, List.length_append, ul_len, Nat.add_mul]
    exact Nat.add_le_add (Nat.mul_le_mul (Nat.le_refl _) h2) h1
theorem rtM_src {fs : List Fl} (hg : GOk fs) {rk : Int → Nat} (hrk : ∀ f ∈ fs, ∀ j ∈ refsF f, rk j < rk f.id) {next : Lt} (h : hasF fs next = true) {f : Fl} (hf : getF fs next.1 = some f) (hp : f.parts ≠ []) : rtM rk (srcF fs next) < rtM rk [next] := by
  have h1 : rtM rk (srcF fs next) ≤ (U (srcF fs next)).length * rk next.1 := rtM_le fun y hy => by
    obtain ⟨_, _, _, _, _, h5, _⟩ := has_get (srcF_has hg y hy)
    have := hrk f (getF_some hf).1 y.1 (srcF_refs hg hf y hy)
    rw [(getF_some hf).2] at this
    exact ⟨this, by omega⟩
  rw [U_srcF, src_len hg h hf hp] at h1
  obtain ⟨_, _, _, _, _, h5, _⟩ := has_get h
  have h2 : rtM rk [next] = next.2.2.toNat * (rk next.1 + 1) := by simp [rtM]
  rw [h2, Nat.mul_add]
  omega
end Go.Proofs.Ytmeplpiamkaniaa
/- pieces: its iterator, for any count function and any consumer that never stops. -/
namespace Go.Proofs.Ytmeplpiamkaniaa
set_option linter.unusedVariables false
set_option linter.unusedSimpArgs false
open Go.RowKit Go.Shelf
attribute [local go_sem] Oper.semAt_some

/-- the two pieces of each lot -/
def pcs : List Lt → List Int → List (Lt × Bool)
  | x :: l, k :: ks => ((x.1, x.2.1, k), true) :: ((x.1, x.2.1 + k, x.2.2 - k), false) :: pcs l ks
  | _, _ => []
theorem pcs_take {l : List Lt} {ks : List Int} {i : Nat} {x : Lt} {k : Int} (hx : l[i]? = some x) (hk : ks[i]? = some k) : pcs (l.take (i + 1)) (ks.take (i + 1)) = pcs (l.take i) (ks.take i) ++ [((x.1, x.2.1, k), true)] ++ [((x.1, x.2.1 + k, x.2.2 - k), false)] := by
  induction l generalizing ks i with
  | nil => simp at hx
  | cons y l ih =>
    cases ks with
    | nil => simp at hk
    | cons j ks =>
      cases i with
      | zero => simp at hx hk; subst hx hk; simp [pcs]
      | succ i =>
        have := ih (by simpa using hx) (by simpa using hk)
        rw [List.take_succ_cons, List.take_succ_cons, pcs, this, List.take_succ_cons, List.take_succ_cons, pcs]
        simp
theorem pcs_len : ∀ (l : List Lt) (ks : List Int), (pcs l ks).length ≤ 2 * l.length
  | [], _ => by simp [pcs]
  | _ :: _, [] => by simp [pcs]
  | x :: l, k :: ks => by
    have := pcs_len l ks
    simp only [pcs, List.length_cons]
    omega
/-- a consumer that takes every piece: what it has made of those so far (J), in the blocks X -/
structure Eats (L : Nat) (N : Nat) (J : List (Lt × Bool) → (Nat → Prop) → World → Prop) : Prop where
  lt : ∀ ps X W, J ps X W → ∀ i, X i → N ≤ i ∧ i < W.heap.size
  keep : ∀ ps X W W', J ps X W → (∀ i, X i → W'.heap[i]? = W.heap[i]?) → J ps X W'
  eat : ∀ ps X W (x : Lt) (f : Bool) (m : Nat), J ps X W → ps.length ≤ 300000 → (x.2.2 ≠ 0 → possB x = true) → WfL x →
    YieldAt Fence.wide m Try.prog L #[ltV x, .bool f] W fun e W' => e = .returned (.bool true) ∧ ∃ X', J (ps ++ [(x, f)]) X' W' ∧ Ex X W W' ∧ ∀ i, X' i → X i ∨ W.heap.size ≤ i

theorem pieces_c (v1 v2 : Value) (A : Option Addr) (n c : Nat) (gf : FuncId) (lb : List Value) (w : World) (h1 : v1 = .slice A n c) (h2 : v2 = .func (.func gf) #[] lb.toArray) :
    Calls Try.prog 99 #[v1, v2] w fun e w' => e = .returned (.func (.func 125) #[] #[ptr w.heap.size, ptr (w.heap.size + 1)]) ∧
      w' = (w.alloc (.cells #[v1] 29)).alloc (.cells #[v2] 95) := by
  subst h1 h2
  unfold ptr
  go_enter Try.func99, Try.ntmps99
  go_wp2_with fail
  go_ret
  exact ⟨rfl, rfl⟩

set_option maxHeartbeats 4000000 in
set_option maxRecDepth 100000 in
theorem pieces1_c {gf : FuncId} {lb : List Value} {ks : List Int} {N : Nat} {Y : Nat → Prop} {Cn : Nat → World → Prop} (hC : Counter gf lb ks N Y Cn) {L : Nat} {J : List (Lt × Bool) → (Nat → Prop) → World → Prop} (hJ : Eats L N J)
    (W1 : World) (Bl Bc : Nat) (A : Option Addr) (n c : Nat) (l : List Lt) (hA : LotsAt W1 A n c l) (hAY : 0 < n → ∀ b, ob A = some b → b < N ∧ ¬ Y b) (hp : ∀ x ∈ l, possB x = true) (hks : ks.length = n) (hk : ∀ (i : Nat) (x : Lt) (k : Int), l[i]? = some x → ks[i]? = some k → 0 ≤ k ∧ k ≤ x.2.2)
    (hl : W1.heap[Bl]? = some (.cells #[.slice A n c] 29 (0, 0))) (hc : W1.heap[Bc]? = some (.cells #[.func (.func gf) #[] lb.toArray] 95 (0, 0))) (hNl : N ≤ Bl) (hNc : N ≤ Bc) (hn : n ≤ 100000)
    (X0 : Nat → Prop) (h0 : J [] X0 W1) (hXl : ¬ X0 Bl) (hXc : ¬ X0 Bc) (hc0 : Cn 0 W1) :
    Calls Try.prog 125 #[.func (.yield L) #[] #[], ptr Bl, ptr Bc] W1 fun e W' => (∃ v, e = .returned v) ∧ ∃ X', J (pcs l ks) X' W' ∧ Cn n W' ∧ Ex (fun i => X0 i ∨ Y i) W1 W' ∧ ∀ i, X' i → X0 i ∨ W1.heap.size ≤ i := by
  have HC := Lib.hid hC
  have HJ := Lib.hid hJ
  have HAY := Lib.hid hAY
  have HP := Lib.hid hp
  have HK := Lib.hid hk
  have HX0 := Lib.hid (And.intro hXl hXc)
  have _HNl := Lib.hid hNl
  have hcall := hC.enters
  obtain ⟨cl, _⟩ := cell_one hl
  have HL := Lib.hid hl
  have HCc := Lib.hid hc
  have H0 := Lib.hid (And.intro h0 hc0)
  have HLen := Lib.hid (And.intro hA.len hks)
  clear hC hJ hAY hp hk hXl hXc hl hc h0 hc0 hks
  unfold ptr
  go_enter Try.func125, Try.ntmps125
  go_wp2_with fail
  go_loopw [9] (fun ti wr => ∃ (k : Nat) (X : Nat → Prop), k ≤ n ∧ ti = .int .i64 k ∧ Hid (J (pcs (l.take k) (ks.take k)) X wr) ∧ Hid (Cn k wr) ∧ Hid (Ex (fun i => X0 i ∨ Y i) W1 wr) ∧ Hid (∀ i, X i → X0 i ∨ W1.heap.size ≤ i)) (fun ti _ => n - (intOf ti).toNat)
  case atStart => exact ⟨0, X0, Nat.zero_le _, rfl, show J _ _ _ by simpa [pcs] using H0.out.1, H0.out.2, Ex.refl _ _, fun i hi => .inl hi⟩
  case round =>
    obtain ⟨k, X, hk, rfl, hJk, hCk, hX, hXX⟩ := hrel
    by_cases hlt : k < n
    · have hN0 := fun i hi => (HJ.out.lt _ _ _ H0.out.1 i hi).1
      have hA' := hA.ex hX.out (fun h0 b hb x => by
        rcases x with x | x
        · have := hN0 b x; have := (HAY.out h0 b hb).1; omega
        · exact (HAY.out h0 b hb).2 x)
      obtain ⟨b, o, x, rfl, hb, hx, hwx, c0, c1, c2⟩ := hA'.get hlt
      obtain ⟨kv, hkv⟩ : ∃ kv, ks[k]? = some kv := ⟨_, List.getElem?_eq_getElem (by rw [HLen.out.2]; exact hlt)⟩
      have hkr := HK.out k x kv hx hkv
      have hpx := possB_iff.1 (HP.out x (List.mem_of_getElem? hx))
      have HPC := Lib.hid (pcs_take hx hkv)
      have HXlt := Lib.hid (HJ.out.lt _ _ _ hJk.out)
      have hblx : ∀ i, N ≤ i → ¬ X0 i → ¬ (X0 i ∨ Y i) := fun i hi h0 h => by
        rcases h with h | h
        · exact h0 h
        · have := HC.out.ylt i h; omega
      have hcr : wr.heap[Bc]? = _ := (hX.out.block _ (lt_blk HCc.out) (hblx _ hNc HX0.out.2)).trans HCc.out
      obtain ⟨ccr, _⟩ := cell_one hcr
      have hEr : E wr (wr.alloc (.cells #[.int .i64 x.1, .int .i64 x.2.1, .int .i64 x.2.2] 32)) := (E.refl _).alloc _
      have hbx := heap_alloc_new wr (.cells #[.int .i64 x.1, .int .i64 x.2.1, .int .i64 x.2.2] 32)
      obtain ⟨w2, hw2⟩ : ∃ w2, wr.alloc (.cells #[.int .i64 x.1, .int .i64 x.2.1, .int .i64 x.2.2] 32) = w2 := ⟨_, rfl⟩
      have ccr2 : w2.cell? ⟨Bc, 0, none⟩ = some (.func (.func gf) #[] lb.toArray) := by rw [← hw2, hEr.cell (p := ⟨Bc, 0, none⟩) (lt_blk hcr)]; exact ccr
      rw [hw2] at hEr hbx
      have hWN : N ≤ wr.heap.size := Nat.le_trans hNc (Nat.le_of_lt (lt_blk hcr))
      have HCall := Lib.hid (HC.out.step k kv w2 hkv (HC.out.keep k wr w2 hCk.out (fun b hb => hEr.block (Nat.lt_of_lt_of_le hb hWN))) (Nat.le_trans hWN hEr.le))
      have HJ2 := Lib.hid (HJ.out.keep _ _ _ w2 hJk.out (fun i hi => hEr.block (HXlt.out i hi).2))
      have HW2 := Lib.hid hw2
      have HER := Lib.hid hEr
      have hkI : (k : Int) < (n : Int) := by omega
      clear hx hkv hw2 hcr hblx hA hA' cl ccr hEr
      obtain ⟨f, a, m⟩ := x
      simp only at c0 c1 c2 hkr hpx HPC hbx HW2 hwx
      go_upto_region 3 with fail
      rw [HW2.out]
      clear HW2
      go_wp2_with fail
      refine HCall.out.mono ?_
      rintro e wa ⟨rfl, hCa, hYa⟩
      have hYn : ∀ i, N ≤ i → ¬ Y i := fun i hi hy => by have := HC.out.ylt i hy; omega
      have hJa := HJ.out.keep _ _ _ wa HJ2.out (fun i hi => hYa.block i (Nat.lt_of_lt_of_le (HXlt.out i hi).2 HER.out.le) (hYn i (HXlt.out i hi).1))
      have hbxa : wa.heap[wr.heap.size]? = _ := (hYa.block _ (lt_blk hbx) (hYn _ hWN)).trans hbx
      have d0 := cell_of_row _ _ 0 _ _ _ hbxa
      have d1 := cell_of_row _ _ 1 _ _ _ hbxa
      have d2 := cell_of_row _ _ 2 _ _ _ hbxa
      simp only [List.getElem?_toArray, List.getElem?_cons_zero, List.getElem?_cons_succ] at d0 d1 d2
      obtain ⟨x1, x2⟩ := wf_i64 hwx.1
      obtain ⟨fn, tmps, assign, body, hy, hR⟩ := HJ.out.eat _ _ _ (f, a, kv) true 2 hJa (by have := pcs_len (l.take k) (ks.take k); rw [List.length_take] at this; omega) (fun h => possB_iff.2 (by simp only at h ⊢; omega)) ⟨hwx.1, wf_of_i64 (by simp only; omega) (by simp only; omega), wf_of_i64 (by simp only; omega) (by simp only; omega)⟩
      unfold ltV at hy
      simp only at hy
      have hwr1 : IntKind.i64.wrap (a + kv) = a + kv := by rw [IntKind.wrap_i64]; omega
      have hwr2 : IntKind.i64.wrap (m - kv) = m - kv := by rw [IntKind.wrap_i64]; omega
      have HBXA := Lib.hid hbxa
      have HYA := Lib.hid hYa
      clear hbxa hYa hbx c0 c1 c2 ccr2 hb
      go_upto_region 4 with fail
      refine (wpIn_wide (n := 3)).1 ?_
      gi_wp2
      refine hR.mono ?_
      rintro e wb ⟨rfl, X2, hJb, hXb, hX2⟩
      clear hR hy d0 d1 d2
      have hnx : ¬ X wr.heap.size := fun h => by have := (HXlt.out _ h).2; omega
      have hbxb : wb.heap[wr.heap.size]? = _ := (hXb.block _ (lt_blk HBXA.out) hnx).trans HBXA.out
      have d0 := cell_of_row _ _ 0 _ _ _ hbxb
      have d1 := cell_of_row _ _ 1 _ _ _ hbxb
      have d2 := cell_of_row _ _ 2 _ _ _ hbxb
      simp only [List.getElem?_toArray, List.getElem?_cons_zero, List.getElem?_cons_succ] at d0 d1 d2
      obtain ⟨fn, tmps, assign, body, hy, hR⟩ := HJ.out.eat _ _ _ (f, a + kv, m - kv) false 2 hJb (by rw [List.length_append]; have := pcs_len (l.take k) (ks.take k); rw [List.length_take] at this; simp only [List.length_singleton]; omega) (fun h => possB_iff.2 (by simp only at h ⊢; omega)) ⟨hwx.1, wf_of_i64 (by simp only; omega) (by simp only; omega), wf_of_i64 (by simp only; omega) (by simp only; omega)⟩
      unfold ltV at hy
      simp only at hy
      clear hbxb
      gi_wp2
      refine hR.mono ?_
      rintro e wc ⟨rfl, X3, hJc, hXc, hX3⟩
      clear hR hy d0 d1 d2
      gi_wp2
      have hb3 : ∀ i, X2 i → N ≤ i := fun i hi => by
        rcases hX2 i hi with h | h
        · exact (HXlt.out i h).1
        · have := HER.out.le; have := HYA.out.size; omega
      have hCc := Lib.hid (HC.out.keep _ _ wc (HC.out.keep _ _ wb hCa (fun b hb => hXb.block b (Nat.lt_of_lt_of_le hb (Nat.le_trans hWN (Nat.le_trans HER.out.le HYA.out.size))) (fun h => by have := (HXlt.out b h).1; omega))) (fun b hb => hXc.block b (Nat.lt_of_lt_of_le hb (Nat.le_trans hWN (Nat.le_trans HER.out.le (Nat.le_trans HYA.out.size hXb.size)))) (fun h => by have := hb3 b h; omega)))
      have hX0' : ∀ i, X i → X0 i ∨ W1.heap.size ≤ i := hXX.out
      have hs1 : W1.heap.size ≤ wr.heap.size := hX.out.size
      have hs2 := HER.out.le
      have hs3 := HYA.out.size
      have hs4 := hXb.size
      have hX2' : ∀ i, X2 i → X0 i ∨ W1.heap.size ≤ i := fun i hi => by
        rcases hX2 i hi with h | h
        · exact hX0' i h
        · right; omega
      have hX3' : ∀ i, X3 i → X0 i ∨ W1.heap.size ≤ i := fun i hi => by
        rcases hX3 i hi with h | h
        · exact hX2' i h
        · right; omega
      have hEx := Lib.hid (show Ex (fun i => X0 i ∨ Y i) W1 wc from
        ((((hX.out.trans (Ex.of_e (X := fun _ => False) HER.out) (fun _ _ x => x) (fun _ _ y => y.elim)).trans HYA.out (Z := fun i => X0 i ∨ Y i) (fun _ _ x => x) (fun _ _ y => .inr y)).trans hXb (Z := fun i => X0 i ∨ Y i) (fun _ _ x => x) (fun i hi y => by
          rcases hX0' i y with h | h
          · exact .inl h
          · omega)).trans hXc (Z := fun i => X0 i ∨ Y i) (fun _ _ x => x) (fun i hi y => by
          rcases hX2' i y with h | h
          · exact .inl h
          · omega)))
      have hJf := Lib.hid (show J (pcs (l.take (k + 1)) (ks.take (k + 1))) X3 wc by rw [HPC.out]; exact hJc)
      have hX3f := Lib.hid hX3'
      clear hX3' hX2' hX0' hb3 hJa hJb hJc hXb hXc hX2 hX3 hCa
      go_wp2_with fail
      go_roundw
      case rel => exact ⟨k + 1, X3, by omega, by go_num, hJf.out, hCc.out, hEx.out, hX3f.out⟩
      case measure => simp [intOf]; omega
    · have hJf := Lib.hid (show J (pcs l ks) X wr by
        have := hJk.out
        rw [List.take_of_length_le (by rw [HLen.out.1]; omega), List.take_of_length_le (by rw [HLen.out.2]; omega)] at this
        exact this)
      have hCf := Lib.hid (show Cn n wr by rw [show n = k by omega]; exact hCk.out)
      go_wp2_with fail
      go_end0
      exact ⟨⟨_, rfl⟩, X, hJf.out, hCf.out, hX.out, hXX.out⟩
end Go.Proofs.Ytmeplpiamkaniaa
/- A range over a function whose body may allocate on entry, and may return: one round, and the statement. -/
namespace Go.Proofs.Ytmeplpiamkaniaa
set_option linter.unusedVariables false
set_option linter.unusedSimpArgs false
open Go.RowKit Go.Shelf
attribute [local go_sem] Oper.semAt_some

/-- one round: the assignment leads to W2, the body goes on (b true) or returns (b false) -/
theorem yield_round {P : Program} {m l : Nat} {r : Loop} {W W2 : World} {args : Array Value} (hl : W.heap[l]? = some (.loop r)) (hl2 : W2.heap[l]? = some (.loop r)) (hr : r.state = .ready) (hp : r.pending = none) (hs : args.size = r.params.size) {a₁ : Act} {R : World → Prop} {Rx : World → Prop}
    (hassign : ∀ (K : Act → World → Prop), K a₁ W2 → r.assign.wpIn (Fence.wide.inRound l) m P (Exit.then K (fun _ _ _ => False)) { tmps := (r.params.zip args).foldl (fun t (p, v) => t.setIfInBounds p v) r.tmps, defers := [] } W)
    (hbody : r.body.wpIn (Fence.wide.inRound l) m P (fun e _ V => V.heap[l]? = some (.loop { r with state := .busy }) ∧ ((e = .normal ∧ R (V.putObj l (.loop r))) ∨ (e = .ret ∧ Rx (V.putObj l (.loop { r with state := .done, pending := some .ret }))))) a₁ (W2.putObj l (.loop { r with state := .busy }))) :
    YieldAt Fence.wide m P l args W fun e W' => (e = .returned (.bool true) ∧ R W') ∨ (e = .returned (.bool false) ∧ Rx W') := by
  refine ⟨r.fn, _, r.assign, r.body, run_yield hl hs, roundIn_of_wpIn trivial (hassign _ ⟨_, run_beginRound hl2 hr, wpIn_mono hbody ?_⟩)⟩
  rintro e a V ⟨hV, hor⟩
  rcases hor with ⟨rfl, hR⟩ | ⟨rfl, hR⟩
  · refine ⟨_, _, run_endRound none hV, .inl ⟨rfl, ?_⟩⟩
    obtain ⟨st, pe, fn, tmps, ps, asg, bo, df⟩ := r
    simp only at hr hp hR ⊢
    subst hr hp
    exact hR
  · exact ⟨_, _, run_endRound (some .ret) hV, .inr ⟨rfl, hR⟩⟩

/-- the statement: the iterator's own contract, at this record; the body may have returned -/
theorem wp_rangeX {P : Program} {g : Operand} {ps : Array Tmp} {assign body : Code} {Q : Exit → Act → World → Prop} {a : Act} {w : World} {gf : Nat} {lb : Array Value} (hg : a.eval g = .func (.func gf) #[] lb) (eg : ∀ args w, (callFunc gf args).run P w = .ok (.enter gf args) w) {Post PostX : World → Prop}
    (hit : ∀ r : Loop, r.state = .ready → r.pending = none → r.tmps = a.tmps → r.params = ps → r.assign = assign → r.body = body → Calls P gf (#[.func (.yield (w.heap.size + 1)) #[] #[]] ++ lb) ((w.alloc (.deferred (some []))).alloc (.loop r))
      fun e W' => (∃ v, e = .returned v) ∧ ((W'.heap[w.heap.size + 1]? = some (.loop r) ∧ Post W') ∨ (W'.heap[w.heap.size + 1]? = some (.loop { r with state := .done, pending := some .ret }) ∧ PostX W')))
    (hdone : ∀ (W' : World) (o : Obj), Post W' → w.heap.size + 1 < W'.heap.size → Q .normal { a with defers := { target := .collected w.heap.size, args := #[] } :: a.defers } (W'.putObj (w.heap.size + 1) o))
    (hstop : ∀ (W' : World) (o : Obj), PostX W' → w.heap.size + 1 < W'.heap.size → Code.ret.wp P Q { a with defers := { target := .collected w.heap.size, args := #[] } :: a.defers } (W'.putObj (w.heap.size + 1) o)) :
    (Code.rangeFunc g ps assign body).wp P Q a w := by
  refine (wpIn_wide (n := 3)).1 (wpIn_rangeFunc ?_)
  intro fn hfn
  have hit' := hit { state := .ready, pending := none, fn, tmps := a.tmps, params := ps, assign, body, defers := w.heap.size } rfl rfl rfl rfl rfl rfl
  obtain ⟨W1, hW1⟩ : ∃ W1, (w.alloc (.deferred (some []))).alloc (.loop { state := .ready, pending := none, fn, tmps := a.tmps, params := ps, assign, body, defers := w.heap.size }) = W1 := ⟨_, rfl⟩
  rw [hW1] at hit'
  refine ⟨w.heap.size + 1, [{ target := .collected w.heap.size, args := #[] }], W1, { target := .fn (.func gf) lb, args := #[.func (.yield (w.heap.size + 1)) #[] #[]] }, W1, gf,
    #[.func (.yield (w.heap.size + 1)) #[] #[]] ++ lb, W1, ?_, ?_, ?_, ?_, ?_, ?_⟩
  · rw [← hW1]; exact run_enterLoop_outer _ _ _ _ _
  · simp only [resolve, hg]
    simp [go_sem]
  · intro f' hf'; trivial
  · simp [invoke, go_sem, eg]
  · intro h; cases h
  · refine callsIn_wide.2 (hit'.mono ?_)
    rintro e W2 ⟨⟨v, rfl⟩, ⟨hl, hP⟩ | ⟨hl, hP⟩⟩
    · exact ⟨none, _, run_endLoop hl (by simp), hdone _ _ hP (lt_blk hl)⟩
    · exact ⟨some .ret, _, run_endLoop hl (by simp), wpIn_wide.2 (hstop _ _ hP (lt_blk hl))⟩
end Go.Proofs.Ytmeplpiamkaniaa
/- A consumer of pieces that puts them behind one of two rows: its state, and how it turns. -/
namespace Go.Proofs.Ytmeplpiamkaniaa
set_option linter.unusedVariables false
set_option linter.unusedSimpArgs false
open Go.RowKit Go.Shelf

theorem OwnL.same {w w' : World} {base : Nat} {A : Option Addr} {n c : Nat} {l : List Lt} (h : OwnL w base A n c l) (hb : ∀ b, ob A = some b → w'.heap[b]? = w.heap[b]?) : OwnL w' base A n c l := by
  refine ⟨h.1, ⟨h.2.1.1, ?_⟩, h.2.2⟩
  rcases h.2.1.2 with a2 | ⟨g, cap, cur, hv, hbg, hh, r⟩
  · exact .inl a2
  · have hA : A = some ⟨g, 0, none⟩ := by injection hv
    exact .inr ⟨g, cap, cur, hv, hbg, (hb g (by rw [hA]; rfl)).trans hh, r⟩
/-- the loop's record, its block of deferred calls, two boxes with a row of lots each -/
structure DVL (b0 L D B1 B2 : Nat) (r : Loop) (W : World) (A1 : Option Addr) (n1 c1 : Nat) (l1 : List Lt) (A2 : Option Addr) (n2 c2 : Nat) (l2 : List Lt) : Prop where
  lt : L < b0 ∧ D < b0 ∧ B1 < b0 ∧ B2 < b0
  ne : B1 ≠ B2 ∧ B1 ≠ L ∧ B1 ≠ D ∧ B2 ≠ L ∧ B2 ≠ D ∧ D ≠ L
  l : W.heap[L]? = some (.loop r)
  d : W.heap[D]? = some (.deferred (some []))
  b1 : W.heap[B1]? = some (.cells #[.slice A1 n1 c1] 29 (0, 0))
  b2 : W.heap[B2]? = some (.cells #[.slice A2 n2 c2] 29 (0, 0))
  o1 : OwnL W b0 A1 n1 c1 l1
  o2 : OwnL W b0 A2 n2 c2 l2
  ap : apartS A1 A2
  p1 : ∀ y ∈ l1, possB y = true
  p2 : ∀ y ∈ l2, possB y = true
def XV (L D B1 B2 : Nat) (A1 A2 : Option Addr) (i : Nat) : Prop := i = L ∨ i = D ∨ i = B1 ∨ i = B2 ∨ ob A1 = some i ∨ ob A2 = some i
theorem XV.swap {L D B1 B2 : Nat} {A1 A2 : Option Addr} {i : Nat} (h : XV L D B1 B2 A1 A2 i) : XV L D B2 B1 A2 A1 i := by
  rcases h with h | h | h | h | h | h
  · exact .inl h
  · exact .inr (.inl h)
  · exact .inr (.inr (.inr (.inl h)))
  · exact .inr (.inr (.inl h))
  · exact .inr (.inr (.inr (.inr (.inr h))))
  · exact .inr (.inr (.inr (.inr (.inl h))))
section
variable {b0 L D B1 B2 : Nat} {r : Loop} {W : World} {A1 A2 : Option Addr} {n1 c1 n2 c2 : Nat} {l1 l2 : List Lt}
theorem DVL.swap (h : DVL b0 L D B1 B2 r W A1 n1 c1 l1 A2 n2 c2 l2) : DVL b0 L D B2 B1 r W A2 n2 c2 l2 A1 n1 c1 l1 :=
  ⟨⟨h.lt.1, h.lt.2.1, h.lt.2.2.2, h.lt.2.2.1⟩, ⟨h.ne.1.symm, h.ne.2.2.2.1, h.ne.2.2.2.2.1, h.ne.2.1, h.ne.2.2.1, h.ne.2.2.2.2.2⟩, h.l, h.d, h.b2, h.b1, h.o2, h.o1, h.ap.symm, h.p2, h.p1⟩
theorem DVL.xlt (h : DVL b0 L D B1 B2 r W A1 n1 c1 l1 A2 n2 c2 l2) {i : Nat} (hi : XV L D B1 B2 A1 A2 i) : i < W.heap.size := by
  rcases hi with rfl | rfl | rfl | rfl | hi | hi
  · exact lt_blk h.l
  · exact lt_blk h.d
  · exact lt_blk h.b1
  · exact lt_blk h.b2
  · exact (h.o1.ltN i hi).2
  · exact (h.o2.ltN i hi).2
theorem DVL.keep (h : DVL b0 L D B1 B2 r W A1 n1 c1 l1 A2 n2 c2 l2) {W' : World} (hk : ∀ i, XV L D B1 B2 A1 A2 i → W'.heap[i]? = W.heap[i]?) : DVL b0 L D B1 B2 r W' A1 n1 c1 l1 A2 n2 c2 l2 :=
  ⟨h.lt, h.ne, (hk _ (.inl rfl)).trans h.l, (hk _ (.inr (.inl rfl))).trans h.d, (hk _ (.inr (.inr (.inl rfl)))).trans h.b1, (hk _ (.inr (.inr (.inr (.inl rfl))))).trans h.b2,
    h.o1.same fun b hb => hk b (.inr (.inr (.inr (.inr (.inl hb))))), h.o2.same fun b hb => hk b (.inr (.inr (.inr (.inr (.inr hb))))), h.ap, h.p1, h.p2⟩
/-- a piece was put behind the first row -/
theorem DVL.step (h : DVL b0 L D B1 B2 r W A1 n1 c1 l1 A2 n2 c2 l2) (hb0 : b0 ≤ W.heap.size) {o : Obj} {r' : Loop} {V4 : World} {A' : Option Addr} {n' c' : Nat} {l' : List Lt} (hO : OwnL V4 b0 A' n' c' l') (hG : ((W.alloc o).putObj L (.loop r')).grownBy V4 (ob A1))
    (hor : ob A' = ob A1 ∨ ∀ b, ob A' = some b → ((W.alloc o).putObj L (.loop r')).heap.size ≤ b) (hp : ∀ y ∈ l', possB y = true) :
    (V4.setCell ⟨B1, 0, none⟩ (.slice A' n' c')).heap[L]? = some (.loop r') ∧ DVL b0 L D B1 B2 r ((V4.setCell ⟨B1, 0, none⟩ (.slice A' n' c')).putObj L (.loop r)) A' n' c' l' A2 n2 c2 l2 ∧
      Ex (XV L D B1 B2 A1 A2) W ((V4.setCell ⟨B1, 0, none⟩ (.slice A' n' c')).putObj L (.loop r)) ∧ ∀ i, XV L D B1 B2 A' A2 i → XV L D B1 B2 A1 A2 i ∨ W.heap.size ≤ i := by
  obtain ⟨q1, q2, q3, q4⟩ := h.lt
  obtain ⟨m1, m2, m3, m4, m5, m6⟩ := h.ne
  have hA1 : ∀ b, ob A1 = some b → b0 ≤ b := fun b hb => (h.o1.ltN b hb).1
  have hA' : ∀ b, ob A' = some b → b0 ≤ b := fun b hb => (hO.ltN b hb).1
  have hVs : ((W.alloc o).putObj L (.loop r')).heap.size = W.heap.size + 1 := by rw [World.putObj_size, World.size_alloc]
  have x0 : Ex (fun i => i = L) W ((W.alloc o).putObj L (.loop r')) := ((Ex.refl (fun i => i = L) W).alloc o).put L _ (.inr rfl)
  have x1 : Ex (fun i => i = L ∨ ob A1 = some i) W V4 := (x0.mono (Z := fun i => i = L ∨ ob A1 = some i) (fun _ _ x => .inl x)).grown hG (fun k hk => .inr (.inr hk))
  have x2 : Ex (fun i => i = L ∨ i = B1 ∨ ob A1 = some i) W (V4.setCell ⟨B1, 0, none⟩ (.slice A' n' c')) :=
    (x1.mono (Z := fun i => i = L ∨ i = B1 ∨ ob A1 = some i) (fun _ _ x => x.elim .inl (fun x => .inr (.inr x)))).setCell ⟨B1, 0, none⟩ (.inr (.inr (.inl rfl))) _
  have x3 : Ex (fun i => i = L ∨ i = B1 ∨ ob A1 = some i) W ((V4.setCell ⟨B1, 0, none⟩ (.slice A' n' c')).putObj L (.loop r)) := x2.put L _ (.inr (.inl rfl))
  have hl0 : ((W.alloc o).putObj L (.loop r')).heap[L]? = some (.loop r') := World.putObj_heap_same (by rw [World.size_alloc]; omega)
  have hl4 : V4.heap[L]? = some (.loop r') := (hG.block L (by omega) (fun e => by have := hA1 L e.symm; omega)).trans hl0
  have hb4 : V4.heap[B1]? = some (.cells #[.slice A1 n1 c1] 29 (0, 0)) := (x1.block B1 (lt_blk h.b1) (fun x => by
    rcases x with x | x
    · exact m2 x
    · have := hA1 B1 x; omega)).trans h.b1
  have hl5 : (V4.setCell ⟨B1, 0, none⟩ (.slice A' n' c')).heap[L]? = some (.loop r') := (Below.heap_setCell _ _ _ _ (fun e => m2 e.symm)).trans hl4
  refine ⟨hl5, ⟨h.lt, h.ne, ?_, ?_, ?_, ?_, ?_, ?_, ?_, hp, h.p2⟩, x3.mono (fun i _ x => ?_), fun i hi => ?_⟩
  · exact World.putObj_heap_same (lt_blk hl5)
  · exact (x3.block D (lt_blk h.d) (fun x => by
      rcases x with x | x | x
      · exact m6 x
      · exact m3 x.symm
      · have := hA1 D x; omega)).trans h.d
  · rw [World.putObj_heap_other m2]
    exact heap_setCell_same _ _ 0 _ _ _ hb4
  · exact (x3.block B2 (lt_blk h.b2) (fun x => by
      rcases x with x | x | x
      · exact m4 x
      · exact m1 x.symm
      · have := hA1 B2 x; omega)).trans h.b2
  · refine hO.same fun b hb => ?_
    have := hA' b hb
    rw [World.putObj_heap_other (by omega), Below.heap_setCell _ _ _ _ (by show b ≠ B1; omega)]
  · exact h.o2.ex x3 (fun b hb x => by
      have := (h.o2.ltN b hb).1
      rcases x with x | x | x
      · omega
      · omega
      · exact h.ap b x hb)
  · intro b hb hb2
    rcases hor with e | e
    · exact h.ap b (e ▸ hb) hb2
    · have := e b hb
      have := (h.o2.ltN b hb2).2
      omega
  · rcases x with x | x | x
    · exact .inl x
    · exact .inr (.inr (.inl x))
    · exact .inr (.inr (.inr (.inr (.inl x))))
  · rcases hi with hi | hi | hi | hi | hi | hi
    · exact .inl (.inl hi)
    · exact .inl (.inr (.inl hi))
    · exact .inl (.inr (.inr (.inl hi)))
    · exact .inl (.inr (.inr (.inr (.inl hi))))
    · rcases hor with e | e
      · exact .inl (.inr (.inr (.inr (.inr (.inl (e ▸ hi))))))
      · right
        have := e i hi
        omega
    · exact .inl (.inr (.inr (.inr (.inr (.inr hi)))))
end

/-- the pieces of one kind -/
def sel (b : Bool) (ps : List (Lt × Bool)) : List Lt := (ps.filter fun p => p.2 == b).map Prod.fst
theorem sel_app (b : Bool) (ps qs : List (Lt × Bool)) : sel b (ps ++ qs) = sel b ps ++ sel b qs := by simp [sel]
theorem sel_hit (b : Bool) (ps : List (Lt × Bool)) (x : Lt) : putL [] (sel b (ps ++ [(x, b)])) = addL (putL [] (sel b ps)) x := by
  rw [sel_app, show sel b [(x, b)] = [x] by simp [sel], putL_snoc]
theorem sel_miss (b : Bool) (ps : List (Lt × Bool)) (x : Lt) : putL [] (sel (!b) (ps ++ [(x, b)])) = putL [] (sel (!b) ps) := by
  rw [sel_app, show sel (!b) [(x, b)] = [] by cases b <;> simp [sel], List.append_nil]
theorem putL_len (l s : List Lt) : (putL s l).length ≤ s.length + l.length := by
  induction l generalizing s with
  | nil => simp [putL]
  | cons x l ih =>
    have h1 := ih (addL s x)
    have h2 := add_len s x
    rw [putL_cons, List.length_cons]
    omega
theorem sel_len (b : Bool) (ps : List (Lt × Bool)) : (putL [] (sel b ps)).length ≤ ps.length := by
  have h1 := putL_len (sel b ps) []
  have h2 : (sel b ps).length ≤ ps.length := by rw [sel, List.length_map]; exact List.length_filter_le _ _
  simp only [List.length_nil] at h1
  omega
/-- what the consumer has made of the pieces so far -/
def JV (b0 L D B1 B2 : Nat) (r : Loop) (ps : List (Lt × Bool)) (X : Nat → Prop) (W : World) : Prop :=
  ∃ A1 n1 c1 A2 n2 c2, DVL b0 L D B1 B2 r W A1 n1 c1 (putL [] (sel true ps)) A2 n2 c2 (putL [] (sel false ps)) ∧ X = XV L D B1 B2 A1 A2
end Go.Proofs.Ytmeplpiamkaniaa
/- divide: the pieces of a list by a count function, put into two lists. -/
namespace Go.Proofs.Ytmeplpiamkaniaa
set_option linter.unusedVariables false
set_option linter.unusedSimpArgs false
open Go.RowKit Go.Shelf
attribute [local go_sem] Oper.semAt_some

theorem results_cell2 {fn : Func} {t u : Tmp} {T : TypeId} (h : fn.results = #[.cell t T, .cell u T]) {tmps : Array Value} {P : Program} {w : World} {b1 b2 : Nat} {v1 v2 : Value} (h1 : tmps.getD t undef = .pointer (some ⟨b1, 0, none⟩)) (h2 : tmps.getD u undef = .pointer (some ⟨b2, 0, none⟩))
    (l1 : (loadVar T ⟨b1, 0, none⟩).run P w = .ok v1 w) (l2 : (loadVar T ⟨b2, 0, none⟩).run P w = .ok v2 w) : (results fn tmps).run P w = .ok (.tuple #[v1, v2]) w := by
  have h1' : tmps[t]?.getD undef = .pointer (some ⟨b1, 0, none⟩) := by simpa using h1
  have h2' : tmps[u]?.getD undef = .pointer (some ⟨b2, 0, none⟩) := by simpa using h2
  simp [results, h, h1', h2', l1, l2, asAddr, Result.andThen]
theorem loadVar_lots {w : World} {b : Nat} {A : Option Addr} {n c : Nat} (h : w.cell? ⟨b, 0, none⟩ = some (.slice A n c)) : (loadVar 29 ⟨b, 0, none⟩).run Try.prog w = .ok (.slice A n c) w := by
  simp [loadVar, Try.isAgg29, go_sem, h]
/-- what divide hands back -/
def RetDiv (w : World) (Y : Nat → Prop) (l1 l2 : List Lt) (e : Ending) (w' : World) : Prop :=
  ∃ A1 n1 c1 A2 n2 c2, e = .returned (.tuple #[.slice A1 n1 c1, .slice A2 n2 c2]) ∧ OwnL w' w.heap.size A1 n1 c1 l1 ∧ OwnL w' w.heap.size A2 n2 c2 l2 ∧ apartS A1 A2 ∧ (∀ y ∈ l1, possB y = true) ∧ (∀ y ∈ l2, possB y = true) ∧ Ex Y w w'

set_option maxHeartbeats 8000000 in
set_option maxRecDepth 100000 in
theorem ldivide_c {gf : FuncId} {lb : List Value} {ks : List Int} {N : Nat} {Y : Nat → Prop} {Cn : Nat → World → Prop} (hC : Counter gf lb ks N Y Cn)
    (w : World) (A : Option Addr) (n c : Nat) (l : List Lt) (hA : LotsAt w A n c l) (hAY : 0 < n → ∀ b, ob A = some b → b < N ∧ ¬ Y b) (hp : ∀ x ∈ l, possB x = true) (hks : ks.length = n) (hk : ∀ (i : Nat) (x : Lt) (k : Int), l[i]? = some x → ks[i]? = some k → 0 ≤ k ∧ k ≤ x.2.2) (hN : N ≤ w.heap.size) (hn : n ≤ 100000) (hc0 : Cn 0 w) :
    Calls Try.prog 76 #[.slice A n c, .func (.func gf) #[] lb.toArray] w (RetDiv w Y (putL [] (sel true (pcs l ks))) (putL [] (sel false (pcs l ks)))) := by
  have HC := Lib.hid hC
  have HAY := Lib.hid hAY
  have HP := Lib.hid hp
  have HK := Lib.hid (And.intro hks hk)
  have HC0 := Lib.hid hc0
  clear hC hAY hp hks hk hc0
  refine (callsIn_wide (n := 3)).1 ?_
  refine callsIn_of_wp_marks Try.func76 rfl trivial ?_ rfl
  simp only [Try.ntmps76, List.size_toArray, List.length_cons, List.length_nil, Nat.reduceAdd, Nat.reduceSub, Array.replicate_succ, Array.replicate_zero, List.push_toArray, List.append_toArray, List.nil_append, List.cons_append]
  gi_wp2_with (refine ⟨trivial, ?_⟩; gi_at_call 99; refine (callsIn_wide.2 (pieces_c _ _ A n c gf lb _ rfl rfl)).mono ?_; rintro e w' ⟨rfl, rfl⟩)
  obtain ⟨w2, hw2⟩ : ∃ w2, ((((w.alloc (.cells #[.slice none 0 0] 29)).alloc (.cells #[.slice none 0 0] 29)).alloc (.cells #[.slice A n c] 29)).alloc (.cells #[.func (.func gf) #[] lb.toArray] 95)) = w2 := ⟨_, rfl⟩
  have hEw : E w w2 := by rw [← hw2]; exact ((((E.refl w).alloc _).alloc _).alloc _).alloc _
  have hz2 : w2.heap.size = w.heap.size + 4 := by rw [← hw2]; simp
  have hbt : w2.heap[w.heap.size]? = some (.cells #[.slice none 0 0] 29 (0, 0)) := by
    rw [← hw2, Below.heap_alloc _ _ _ (by simp only [World.size_alloc]; omega), Below.heap_alloc _ _ _ (by simp only [World.size_alloc]; omega), Below.heap_alloc _ _ _ (by simp)]; exact heap_alloc_new _ _
  have hbl : w2.heap[w.heap.size + 1]? = some (.cells #[.slice none 0 0] 29 (0, 0)) := by
    rw [← hw2, Below.heap_alloc _ _ _ (by simp only [World.size_alloc]; omega), Below.heap_alloc _ _ _ (by simp)]
    have := heap_alloc_new (w.alloc (.cells #[.slice none 0 0] 29)) (.cells #[.slice none 0 0] 29)
    rw [World.size_alloc] at this; exact this
  have hba : w2.heap[w.heap.size + 1 + 1]? = some (.cells #[.slice A n c] 29 (0, 0)) := by
    rw [← hw2, Below.heap_alloc _ _ _ (by simp)]
    have := heap_alloc_new ((w.alloc (.cells #[.slice none 0 0] 29)).alloc (.cells #[.slice none 0 0] 29)) (.cells #[.slice A n c] 29)
    rw [World.size_alloc, World.size_alloc] at this; exact this
  have hbc : w2.heap[w.heap.size + 1 + 1 + 1]? = some (.cells #[.func (.func gf) #[] lb.toArray] 95 (0, 0)) := by
    rw [← hw2]
    have := heap_alloc_new (((w.alloc (.cells #[.slice none 0 0] 29)).alloc (.cells #[.slice none 0 0] 29)).alloc (.cells #[.slice A n c] 29)) (.cells #[.func (.func gf) #[] lb.toArray] 95)
    rw [World.size_alloc, World.size_alloc, World.size_alloc] at this; exact this
  rw [hw2]
  clear hw2
  refine wpIn_wide.2 (wp_rangeX (gf := 125) (lb := #[ptr (w.heap.size + 1 + 1), ptr (w.heap.size + 1 + 1 + 1)]) rfl Try.call125
    (Post := fun W' => ∃ A1 n1 c1 A2 n2 c2, W'.heap[w.heap.size]? = some (.cells #[.slice A1 n1 c1] 29 (0, 0)) ∧ W'.heap[w.heap.size + 1]? = some (.cells #[.slice A2 n2 c2] 29 (0, 0)) ∧ W'.heap[w2.heap.size]? = some (.deferred (some [])) ∧ OwnL W' (w2.heap.size + 2) A1 n1 c1 (putL [] (sel true (pcs l ks))) ∧ OwnL W' (w2.heap.size + 2) A2 n2 c2 (putL [] (sel false (pcs l ks))) ∧ apartS A1 A2 ∧ (∀ y ∈ putL [] (sel true (pcs l ks)), possB y = true) ∧ (∀ y ∈ putL [] (sel false (pcs l ks)), possB y = true) ∧ Ex Y w W')
    (PostX := fun _ => False) ?hit ?done (fun _ _ h => h.elim))
  case hit =>
    intro r hr1 hr2 hr3 hr4 hr5 hr6
    obtain ⟨W1, hW1⟩ : ∃ W1, (w2.alloc (.deferred (some []))).alloc (.loop r) = W1 := ⟨_, rfl⟩
    have hE21 : E w2 W1 := by rw [← hW1]; exact ((E.refl _).alloc _).alloc _
    have hz1 : W1.heap.size = w2.heap.size + 2 := by rw [← hW1, World.size_alloc, World.size_alloc]
    have hD1 : W1.heap[w2.heap.size]? = some (.deferred (some [])) := by rw [← hW1, Below.heap_alloc _ _ _ (by simp)]; exact heap_alloc_new _ _
    have hL1 : W1.heap[w2.heap.size + 1]? = some (.loop r) := by
      have := heap_alloc_new (w2.alloc (.deferred (some []))) (.loop r)
      rw [World.size_alloc, hW1] at this; exact this
    rw [hW1]
    clear hW1
    obtain ⟨D, hDd⟩ : ∃ D, w2.heap.size = D := ⟨_, rfl⟩
    obtain ⟨L, hLd⟩ : ∃ L, w2.heap.size + 1 = L := ⟨_, rfl⟩
    have hq1 : w.heap.size + 4 = D := by omega
    have hq2 : D + 1 = L := by omega
    rw [hLd] at hL1
    rw [hDd] at hD1
    have hJ : Eats L N (JV (L + 1) L D w.heap.size (w.heap.size + 1) r) := by
      refine ⟨?_, ?_, ?_⟩
      · rintro ps X W ⟨A1, n1, c1, A2, n2, c2, hD, rfl⟩ i hi
        refine ⟨?_, hD.xlt hi⟩
        rcases hi with rfl | rfl | rfl | rfl | hi | hi
        · omega
        · omega
        · omega
        · omega
        · have := (hD.o1.ltN i hi).1; omega
        · have := (hD.o2.ltN i hi).1; omega
      · rintro ps X W W' ⟨A1, n1, c1, A2, n2, c2, hD, rfl⟩ hk
        exact ⟨A1, n1, c1, A2, n2, c2, hD.keep hk, rfl⟩
      intro ps X W x f m hj hps hpx hwx
      cases f
      · -- false
        obtain ⟨A1, n1, c1, A2, n2, c2, hD, rfl⟩ := hj
        have hlW : W.heap.size ≠ L := by have := lt_blk hD.l; omega
        have hszL : L < W.heap.size := lt_blk hD.l
        refine (yield_round (W2 := W.alloc (.cells #[.int .i64 x.1, .int .i64 x.2.1, .int .i64 x.2.2] 32)) (a₁ := { tmps := #[.slice A n c, .func (.func gf) #[] lb.toArray, undef, undef, .pointer (some ⟨w.heap.size, 0, none⟩), .pointer (some ⟨w.heap.size + 1, 0, none⟩), .pointer (some ⟨W.heap.size, 0, none⟩), .bool false, .slice A n c, .func (.func gf) #[] lb.toArray, .func (.func 125) #[] #[ptr (w.heap.size + 1 + 1), ptr (w.heap.size + 1 + 1 + 1)], .agg #[.int .i64 x.1, .int .i64 x.2.1, .int .i64 x.2.2], .bool false, undef, undef, undef, undef, undef, undef, undef, undef, undef], defers := [] })
          hD.l (((E.refl W).alloc _).block hszL |>.trans hD.l) hr1 hr2 (by rw [hr4]; rfl) (R := fun W' => ∃ X', JV (L + 1) L D w.heap.size (w.heap.size + 1) r (ps ++ [(x, false)]) X' W' ∧ Ex (XV L D w.heap.size (w.heap.size + 1) A1 A2) W W' ∧ ∀ i, X' i → XV L D w.heap.size (w.heap.size + 1) A1 A2 i ∨ W.heap.size ≤ i) (Rx := fun _ => False) ?assign ?body).mono (fun e W' h => ?post)
        case post =>
          rcases h with h | ⟨_, h⟩
          · exact h
          · exact h.elim
        case assign =>
          intro K hK
          unfold ltV
          rw [hr3, hr4, hr5]
          gi_wp2
          exact hK
        case body =>
          obtain ⟨r', hr'⟩ : ∃ r' : Loop, { r with state := .busy } = r' := ⟨_, rfl⟩
          rw [hr', hr6]
          clear hr'
          have hD := hD.swap
          obtain ⟨V0, hV0⟩ : ∃ V0, (W.alloc (.cells #[.int .i64 x.1, .int .i64 x.2.1, .int .i64 x.2.2] 32)).putObj L (.loop r') = V0 := ⟨_, rfl⟩
          have hX0 : Ex (fun i => i = L) W V0 := by rw [← hV0]; exact ((Ex.refl (fun i => i = L) W).alloc _).put L _ (.inr rfl)
          have hz0 : V0.heap.size = W.heap.size + 1 := by rw [← hV0, World.putObj_size, World.size_alloc]
          have hbx : V0.heap[W.heap.size]? = some (.cells #[.int .i64 x.1, .int .i64 x.2.1, .int .i64 x.2.2] 32 (0, 0)) := by
            rw [← hV0, World.putObj_heap_other (by have := lt_blk hD.l; omega)]; exact heap_alloc_new _ _
          have hb1 : V0.heap[w.heap.size + 1]? = _ := (hX0.block _ (lt_blk hD.b1) hD.ne.2.1).trans hD.b1
          have hO1 : OwnL V0 (L + 1) A2 n2 c2 (putL [] (sel false ps)) := hD.o1.ex hX0 (fun b hb e => by have := (hD.o1.ltN b hb).1; omega)
          have HP := Lib.hid (put_c x A2 n2 c2 (L + 1) _ V0 hO1 hD.p1 hpx hwx (by omega) (by have := sel_len false ps; have := hD.o1.1; omega))
          have HSt := Lib.hid (fun (V4 : World) (A' : Option Addr) (n' c' : Nat) (hO : OwnL V4 (L + 1) A' n' c' (addL (putL [] (sel false ps)) x)) (hG : V0.grownBy V4 (ob A2)) (hor : ob A' = ob A2 ∨ ∀ b, ob A' = some b → V0.heap.size ≤ b) =>
            hD.step (by omega) (o := .cells #[.int .i64 x.1, .int .i64 x.2.1, .int .i64 x.2.2] 32) (r' := r') (V4 := V4) hO (by rw [hV0]; exact hG) (by rw [hV0]; exact hor) (poss_add hD.p1 hpx))
          have hltB := lt_blk hb1
          have hA1b : ∀ k, ob A2 = some k → L + 1 ≤ k := fun k hk => (hD.o1.ltN k hk).1
          have hLB1 := hD.lt.2.2.1
          have cb := (cell_one hb1).1
          have cx := And.intro (cell_of_row _ _ 0 _ _ _ hbx) (And.intro (cell_of_row _ _ 1 _ _ _ hbx) (cell_of_row _ _ 2 _ _ _ hbx))
          simp only [List.getElem?_toArray, List.getElem?_cons_zero, List.getElem?_cons_succ] at cx
          obtain ⟨cx0, cx1, cx2⟩ := cx
          have HB1 := Lib.hid hb1
          rw [hV0]
          clear hV0 hX0 hbx hD hO1 hb1
          unfold ltV at HP
          gi_wp2_with (refine ⟨trivial, (fun h => absurd h (by decide)), ?_⟩; gi_at_call 73; refine (CallsIn.inRound L (callsIn_wide.2 HP.out)).mono ?_; rintro e V4 ⟨A', n', c', rfl, hO4, hG4, hor4⟩; have hb4 : V4.heap[w.heap.size + 1]? = _ := (hG4.block (w.heap.size + 1) hltB (fun e => by have := hA1b (w.heap.size + 1) e.symm; omega)).trans HB1.out; have c4 := (cell_one hb4).1; have f4 := (cell_one hb4).2)
          obtain ⟨g1, g2, g3, g4⟩ := HSt.out V4 A' n' c' hO4 hG4 hor4
          exact ⟨g1, _, ⟨A1, n1, c1, A', n', c', by rw [sel_hit false ps x, show true = !false from rfl, sel_miss false ps x]; exact g2.swap, rfl⟩, g3.mono (fun _ _ h => h.swap), fun i hi => (g4 i hi.swap).imp XV.swap id⟩
      · -- true
        obtain ⟨A1, n1, c1, A2, n2, c2, hD, rfl⟩ := hj
        have hlW : W.heap.size ≠ L := by have := lt_blk hD.l; omega
        have hszL : L < W.heap.size := lt_blk hD.l
        refine (yield_round (W2 := W.alloc (.cells #[.int .i64 x.1, .int .i64 x.2.1, .int .i64 x.2.2] 32)) (a₁ := { tmps := #[.slice A n c, .func (.func gf) #[] lb.toArray, undef, undef, .pointer (some ⟨w.heap.size, 0, none⟩), .pointer (some ⟨w.heap.size + 1, 0, none⟩), .pointer (some ⟨W.heap.size, 0, none⟩), .bool true, .slice A n c, .func (.func gf) #[] lb.toArray, .func (.func 125) #[] #[ptr (w.heap.size + 1 + 1), ptr (w.heap.size + 1 + 1 + 1)], .agg #[.int .i64 x.1, .int .i64 x.2.1, .int .i64 x.2.2], .bool true, undef, undef, undef, undef, undef, undef, undef, undef, undef], defers := [] })
          hD.l (((E.refl W).alloc _).block hszL |>.trans hD.l) hr1 hr2 (by rw [hr4]; rfl) (R := fun W' => ∃ X', JV (L + 1) L D w.heap.size (w.heap.size + 1) r (ps ++ [(x, true)]) X' W' ∧ Ex (XV L D w.heap.size (w.heap.size + 1) A1 A2) W W' ∧ ∀ i, X' i → XV L D w.heap.size (w.heap.size + 1) A1 A2 i ∨ W.heap.size ≤ i) (Rx := fun _ => False) ?assign ?body).mono (fun e W' h => ?post)
        case post =>
          rcases h with h | ⟨_, h⟩
          · exact h
          · exact h.elim
        case assign =>
          intro K hK
          unfold ltV
          rw [hr3, hr4, hr5]
          gi_wp2
          exact hK
        case body =>
          obtain ⟨r', hr'⟩ : ∃ r' : Loop, { r with state := .busy } = r' := ⟨_, rfl⟩
          rw [hr', hr6]
          clear hr'
          obtain ⟨V0, hV0⟩ : ∃ V0, (W.alloc (.cells #[.int .i64 x.1, .int .i64 x.2.1, .int .i64 x.2.2] 32)).putObj L (.loop r') = V0 := ⟨_, rfl⟩
          have hX0 : Ex (fun i => i = L) W V0 := by rw [← hV0]; exact ((Ex.refl (fun i => i = L) W).alloc _).put L _ (.inr rfl)
          have hz0 : V0.heap.size = W.heap.size + 1 := by rw [← hV0, World.putObj_size, World.size_alloc]
          have hbx : V0.heap[W.heap.size]? = some (.cells #[.int .i64 x.1, .int .i64 x.2.1, .int .i64 x.2.2] 32 (0, 0)) := by
            rw [← hV0, World.putObj_heap_other (by have := lt_blk hD.l; omega)]; exact heap_alloc_new _ _
          have hb1 : V0.heap[w.heap.size]? = _ := (hX0.block _ (lt_blk hD.b1) hD.ne.2.1).trans hD.b1
          have hO1 : OwnL V0 (L + 1) A1 n1 c1 (putL [] (sel true ps)) := hD.o1.ex hX0 (fun b hb e => by have := (hD.o1.ltN b hb).1; omega)
          have HP := Lib.hid (put_c x A1 n1 c1 (L + 1) _ V0 hO1 hD.p1 hpx hwx (by omega) (by have := sel_len true ps; have := hD.o1.1; omega))
          have HSt := Lib.hid (fun (V4 : World) (A' : Option Addr) (n' c' : Nat) (hO : OwnL V4 (L + 1) A' n' c' (addL (putL [] (sel true ps)) x)) (hG : V0.grownBy V4 (ob A1)) (hor : ob A' = ob A1 ∨ ∀ b, ob A' = some b → V0.heap.size ≤ b) =>
            hD.step (by omega) (o := .cells #[.int .i64 x.1, .int .i64 x.2.1, .int .i64 x.2.2] 32) (r' := r') (V4 := V4) hO (by rw [hV0]; exact hG) (by rw [hV0]; exact hor) (poss_add hD.p1 hpx))
          have hltB := lt_blk hb1
          have hA1b : ∀ k, ob A1 = some k → L + 1 ≤ k := fun k hk => (hD.o1.ltN k hk).1
          have hLB1 := hD.lt.2.2.1
          have cb := (cell_one hb1).1
          have cx := And.intro (cell_of_row _ _ 0 _ _ _ hbx) (And.intro (cell_of_row _ _ 1 _ _ _ hbx) (cell_of_row _ _ 2 _ _ _ hbx))
          simp only [List.getElem?_toArray, List.getElem?_cons_zero, List.getElem?_cons_succ] at cx
          obtain ⟨cx0, cx1, cx2⟩ := cx
          have HB1 := Lib.hid hb1
          rw [hV0]
          clear hV0 hX0 hbx hD hO1 hb1
          unfold ltV at HP
          gi_wp2_with (refine ⟨trivial, (fun h => absurd h (by decide)), ?_⟩; gi_at_call 73; refine (CallsIn.inRound L (callsIn_wide.2 HP.out)).mono ?_; rintro e V4 ⟨A', n', c', rfl, hO4, hG4, hor4⟩; have hb4 : V4.heap[w.heap.size]? = _ := (hG4.block w.heap.size hltB (fun e => by have := hA1b w.heap.size e.symm; omega)).trans HB1.out; have c4 := (cell_one hb4).1; have f4 := (cell_one hb4).2)
          obtain ⟨g1, g2, g3, g4⟩ := HSt.out V4 A' n' c' hO4 hG4 hor4
          exact ⟨g1, _, ⟨A', n', c', A2, n2, c2, by rw [sel_hit true ps x, show false = !true from rfl, sel_miss true ps x]; exact g2, rfl⟩, g3, g4⟩
    have h0 : JV (L + 1) L D w.heap.size (w.heap.size + 1) r [] (XV L D w.heap.size (w.heap.size + 1) none none) W1 :=
      ⟨none, 0, 0, none, 0, 0, ⟨⟨by omega, by omega, by omega, by omega⟩, ⟨by omega, by omega, by omega, by omega, by omega, by omega⟩, hL1, hD1, (hE21.block (by omega)).trans hbt, (hE21.block (by omega)).trans hbl, OwnL.nil _ _, OwnL.nil _ _, apart_none _, by simp [sel, putL], by simp [sel, putL]⟩, rfl⟩
    have hxv : ∀ i, XV L D w.heap.size (w.heap.size + 1) none none i → i = L ∨ i = D ∨ i = w.heap.size ∨ i = w.heap.size + 1 := fun i hi => by
      rcases hi with h | h | h | h | h | h
      · exact .inl h
      · exact .inr (.inl h)
      · exact .inr (.inr (.inl h))
      · exact .inr (.inr (.inr h))
      · cases h
      · cases h
    have hC1 := pieces1_c HC.out hJ W1 (w.heap.size + 1 + 1) (w.heap.size + 1 + 1 + 1) A n c l ((hA.e hEw).e hE21) HAY.out HP.out HK.out.1 HK.out.2 ((hE21.block (by omega)).trans hba) ((hE21.block (by omega)).trans hbc) (by omega) (by omega) hn _ h0
      (fun h => by rcases hxv _ h with h | h | h | h <;> omega) (fun h => by rcases hxv _ h with h | h | h | h <;> omega) (HC.out.keep 0 w W1 HC0.out (fun b hb => by rw [hE21.block (by omega), hEw.block (by omega)]))
    rw [hLd]
    refine (show Calls Try.prog 125 (#[.func (.yield L) #[] #[]] ++ #[ptr (w.heap.size + 1 + 1), ptr (w.heap.size + 1 + 1 + 1)]) W1 _ from hC1).mono ?_
    rintro e W' ⟨hv, X', ⟨A1, n1, c1, A2, n2, c2, hD, rfl⟩, hcn, hX, _⟩
    refine ⟨hv, .inl ⟨hD.l, A1, n1, c1, A2, n2, c2, hD.b1, hD.b2, by rw [hDd]; exact hD.d, hD.o1.rebase (by omega), hD.o2.rebase (by omega), hD.ap, hD.p1, hD.p2, ?_⟩⟩
    refine (Ex.of_e (X := fun _ => False) (hEw.trans hE21)).trans hX (fun _ _ x => x.elim) (fun i hi x => ?_)
    rcases x with x | x
    · rcases hxv i x with h | h | h | h <;> omega
    · exact x
  case done =>
    rintro W' o ⟨A1, n1, c1, A2, n2, c2, hb1, hb2, hd, hO1, hO2, hap, hp1, hp2, hE⟩ hlt
    have vX : Ex (fun i => i = w2.heap.size + 1) W' (W'.putObj (w2.heap.size + 1) o) := (Ex.refl (fun i => i = w2.heap.size + 1) W').put _ _ (.inr rfl)
    have v1 : (W'.putObj (w2.heap.size + 1) o).heap[w.heap.size]? = _ := (World.putObj_heap_other (by omega)).trans hb1
    have v2 : (W'.putObj (w2.heap.size + 1) o).heap[w.heap.size + 1]? = _ := (World.putObj_heap_other (by omega)).trans hb2
    have vD : (W'.putObj (w2.heap.size + 1) o).heap[w2.heap.size]? = _ := (World.putObj_heap_other (by omega)).trans hd
    have vO1 : OwnL (W'.putObj (w2.heap.size + 1) o) (w2.heap.size + 2) A1 n1 c1 _ := hO1.ex vX (fun b hb e => by have := (hO1.ltN b hb).1; omega)
    have vO2 : OwnL (W'.putObj (w2.heap.size + 1) o) (w2.heap.size + 2) A2 n2 c2 _ := hO2.ex vX (fun b hb e => by have := (hO2.ltN b hb).1; omega)
    have vE : Ex Y w (W'.putObj (w2.heap.size + 1) o) := hE.put _ _ (.inl (by omega))
    obtain ⟨V, hV⟩ : ∃ V, W'.putObj (w2.heap.size + 1) o = V := ⟨_, rfl⟩
    obtain ⟨D, hDd⟩ : ∃ D, w2.heap.size = D := ⟨_, rfl⟩
    have hDg : w.heap.size + 1 < D := by omega
    rw [hV] at v1 v2 vD vO1 vO2 vE ⊢
    rw [hDd] at vD vO1 vO2 ⊢
    obtain ⟨q1, f1⟩ := cell_one v1
    obtain ⟨q2, f2⟩ := cell_one v2
    clear hV hDd hlt hz2 hbt hbl hba hbc hb1 hb2 hd hO1 hO2 hE vX
    gi_wp2
    gi_region
    all_goals gi_wp2
    obtain ⟨V5, hV5⟩ : ∃ V5, ((V.setCell ⟨w.heap.size, 0, none⟩ (.slice A1 n1 c1)).setCell ⟨w.heap.size + 1, 0, none⟩ (.slice A2 n2 c2)).drew = V5 := ⟨_, rfl⟩
    have x5 : Ex (fun i => i = w.heap.size ∨ i = w.heap.size + 1) V V5 := by
      rw [← hV5]
      exact (((Ex.refl (fun i => i = w.heap.size ∨ i = w.heap.size + 1) V).setCell ⟨w.heap.size, 0, none⟩ (.inr (.inl rfl)) _).setCell ⟨w.heap.size + 1, 0, none⟩ (.inr (.inr rfl)) _).drew
    have s1 : V5.heap[w.heap.size]? = some (.cells #[.slice A1 n1 c1] 29 (0, 0)) := by
      rw [← hV5]
      exact (Below.heap_setCell _ _ _ _ (by show w.heap.size ≠ w.heap.size + 1; omega)).trans (heap_setCell_same _ _ 0 _ _ _ v1)
    have s2 : V5.heap[w.heap.size + 1]? = some (.cells #[.slice A2 n2 c2] 29 (0, 0)) := by
      rw [← hV5]
      exact heap_setCell_same _ _ 0 _ _ (.slice A2 n2 c2) ((Below.heap_setCell _ _ _ _ (by show w.heap.size + 1 ≠ w.heap.size; omega)).trans v2)
    have sD : V5.heap[D]? = some (.deferred (some [])) := (x5.block D (lt_blk vD) (by omega)).trans vD
    rw [hV5]
    clear hV5
    refine ⟨by simp, .inl ⟨_, _, rfl, run_takeDeferred sD, ?_⟩⟩
    have x6 : Ex (fun i => i = w.heap.size ∨ i = w.heap.size + 1 ∨ i = D) V (V5.putObj D (.deferred none)) := (x5.mono (Z := fun i => i = w.heap.size ∨ i = w.heap.size + 1 ∨ i = D) (fun _ _ x => x.elim .inl (fun x => .inr (.inl x)))).put _ _ (.inr (.inr (.inr rfl)))
    have r1 := (cell_one (show (V5.putObj D (.deferred none)).heap[w.heap.size]? = _ from (World.putObj_heap_other (by omega)).trans s1)).1
    have r2 := (cell_one (show (V5.putObj D (.deferred none)).heap[w.heap.size + 1]? = _ from (World.putObj_heap_other (by omega)).trans s2)).1
    refine ⟨_, results_cell2 rfl rfl rfl (loadVar_lots r1) (loadVar_lots r2), A1, n1, c1, A2, n2, c2, rfl, (vO1.ex x6 (fun b hb e => by have := (vO1.ltN b hb).1; omega)).rebase (by omega), (vO2.ex x6 (fun b hb e => by have := (vO2.ltN b hb).1; omega)).rebase (by omega), hap, hp1, hp2, ?_⟩
    exact vE.trans x6 (fun _ _ x => x) (fun i hi x => by omega)
end Go.Proofs.Ytmeplpiamkaniaa
/- Slice. -/
namespace Go.Proofs.Ytmeplpiamkaniaa
set_option linter.unusedVariables false
set_option linter.unusedSimpArgs false
open Go.RowKit Go.Shelf

theorem sel_cons_t (x y : Lt) (ps : List (Lt × Bool)) : sel true ((x, true) :: (y, false) :: ps) = x :: sel true ps := by simp [sel]
theorem sel_cons_f (x y : Lt) (ps : List (Lt × Bool)) : sel false ((x, true) :: (y, false) :: ps) = y :: sel false ps := by simp [sel]
theorem firstK_range {n : Int} {l : List Lt} (h0 : 0 ≤ n) (hl : ∀ x ∈ l, 1 ≤ x.2.2) : ∀ (i : Nat) (x : Lt) (k : Int), l[i]? = some x → (firstK n l)[i]? = some k → 0 ≤ k ∧ k ≤ x.2.2 := fun i x k hx hk => by
  obtain ⟨h1, _⟩ := firstK_get (n := n) hx
  rw [hk] at h1
  injection h1 with h1
  have := leftK_range h0 hl i
  have := hl x (List.mem_of_getElem? hx)
  omega
theorem pcs_nonneg {l : List Lt} {ks : List Int} (b : Bool) (hk : ∀ (i : Nat) (x : Lt) (k : Int), l[i]? = some x → ks[i]? = some k → 0 ≤ k ∧ k ≤ x.2.2) : ∀ y ∈ sel b (pcs l ks), 0 ≤ y.2.2 := by
  induction l generalizing ks with
  | nil => simp [pcs, sel]
  | cons x l ih =>
    cases ks with
    | nil => simp [pcs, sel]
    | cons k ks =>
      have h0 := hk 0 x k (by simp) (by simp)
      have := ih (ks := ks) (fun i x k hx hk' => hk (i + 1) x k (by simpa using hx) (by simpa using hk'))
      intro y hy
      rw [pcs] at hy
      cases b
      · rw [sel_cons_f] at hy
        rcases List.mem_cons.1 hy with rfl | hy
        · show 0 ≤ x.2.2 - k; omega
        · exact this y hy
      · rw [sel_cons_t] at hy
        rcases List.mem_cons.1 hy with rfl | hy
        · exact h0.1
        · exact this y hy
theorem pcs_first {l : List Lt} {n : Int} (h0 : 0 ≤ n) (hl : ∀ x ∈ l, 1 ≤ x.2.2) : U (sel true (pcs l (firstK n l))) = (U l).take n.toNat ∧ U (sel false (pcs l (firstK n l))) = (U l).drop n.toNat := by
  induction l generalizing n with
  | nil => simp [pcs, sel, U_nil]
  | cons x l ih =>
    have hx := hl x List.mem_cons_self
    obtain ⟨i1, i2⟩ := ih (n := n - min n x.2.2) (by omega) (fun y hy => hl y (List.mem_cons_of_mem _ hy))
    rw [firstK, pcs, sel_cons_t, sel_cons_f, U_cons, U_cons, U_cons, i1, i2]
    have hc := ul_cut (f := x.1) (a := x.2.1) (n := x.2.2) (k := min n x.2.2) (by omega) (by omega)
    have hc : ul x = ul (x.1, x.2.1, min n x.2.2) ++ ul (x.1, x.2.1 + min n x.2.2, x.2.2 - min n x.2.2) := hc
    have e1 := ul_len (x.1, x.2.1, min n x.2.2)
    have e2 := ul_len x
    simp only at e1
    by_cases hn : n ≤ x.2.2
    · have hm : min n x.2.2 = n := by omega
      rw [hm] at hc e1 ⊢
      rw [show (n - n).toNat = 0 by omega, List.take_zero, List.append_nil, List.drop_zero, hc, List.append_assoc, List.take_append_of_le_length (by omega), List.take_of_length_le (by omega), List.drop_append_of_le_length (by omega), show (ul (x.1, x.2.1, n)).drop n.toNat = [] from List.drop_eq_nil_of_le (by omega), List.nil_append]
      exact ⟨rfl, rfl⟩
    · have hm : min n x.2.2 = x.2.2 := by omega
      rw [hm] at hc e1 ⊢
      have e3 : ul (x.1, x.2.1 + x.2.2, x.2.2 - x.2.2) = [] := ul_none (by simp only; omega)
      rw [e3, List.append_nil] at hc
      rw [e3, ← hc, List.nil_append, List.take_append, List.drop_append, show (ul x).take n.toNat = ul x from List.take_of_length_le (by omega), show (ul x).drop n.toNat = [] from List.drop_eq_nil_of_le (by omega), List.nil_append]
      have e4 : (n - x.2.2).toNat = n.toNat - (ul x).length := by omega
      rw [e4]
      exact ⟨rfl, rfl⟩
theorem put_first {l : List Lt} {n : Int} (h0 : 0 ≤ n) (hl : ∀ x ∈ l, 1 ≤ x.2.2) : putL [] (sel true (pcs l (firstK n l))) = glue ((U l).take n.toNat) ∧ putL [] (sel false (pcs l (firstK n l))) = glue ((U l).drop n.toNat) := by
  obtain ⟨h1, h2⟩ := pcs_first h0 hl
  have hk := firstK_range h0 hl
  exact ⟨by rw [putN_eq (pcs_nonneg true hk), h1], by rw [putN_eq (pcs_nonneg false hk), h2]⟩

def sliceS (l : List Lt) (at_ n : Int) : List Lt × Int :=
  if validB l = false ∨ at_ < 0 ∨ n < 0 then ([], 1) else if totL l < at_ ∨ totL l - at_ < n then ([], 5) else (glue (((U l).drop at_.toNat).take n.toNat), 0)
def RetLE (w : World) (r : List Lt × Int) (e : Ending) (w' : World) : Prop := ∃ A n c, e = .returned (.tuple #[.slice A n c, .int .i64 r.2]) ∧ OwnL w' w.heap.size A n c r.1 ∧ E w w'
theorem RetLE.mk_ {w w' : World} {r : List Lt × Int} {A : Option Addr} {n c : Nat} {l : List Lt} {e : Int} (hr : r = (l, e)) (hO : OwnL w' w.heap.size A n c l) (hE : E w w') : RetLE w r (.returned (.tuple #[.slice A n c, .int .i64 e])) w' := ⟨A, n, c, by rw [hr], by rw [hr]; exact hO, hE⟩
theorem RetLE.none_ {w w' : World} {r : List Lt × Int} {e : Int} (hr : r = ([], e)) (hE : E w w') : RetLE w r (.returned (.tuple #[.slice none 0 0, .int .i64 e])) w' := RetLE.mk_ hr (OwnL.nil _ _) hE
/-- divide by the first n units, firstUnits's closure at hand -/
theorem divide_first (n : Int) (A : Option Addr) (len c : Nat) (l : List Lt) (w : World) (bl bn : Nat) (h0 : 0 ≤ n) (h1 : n ≤ 1152921504606846976) (hl : ∀ x ∈ l, possB x = true) (hA : 0 < len → ∀ b, ob A = some b → b < bl) (hne : bl < bn) (hb : bn < w.heap.size) (hlen : len ≤ 100000) (hS : FuSt n A len c l bl bn 0 w) :
    Calls Try.prog 76 #[.slice A len c, .func (.func 100) #[] [ptr bn, ptr bl].toArray] w (RetDiv w (fun b => b = bn) (glue ((U l).take n.toNat)) (glue ((U l).drop n.toNat))) := by
  have hl1 : ∀ x ∈ l, 1 ≤ x.2.2 := fun x hx => (possB_iff.1 (hl x hx)).2.2.2.1
  obtain ⟨e1, e2⟩ := put_first h0 hl1
  rw [← e1, ← e2]
  exact ldivide_c (firstUnits_counter n A len c l bl bn h0 h1 hl hA hne) w A len c l hS.2.2 (fun hl0 b hb => ⟨by have := hA hl0 b hb; omega, by have := hA hl0 b hb; omega⟩) hl (by rw [firstK_len, hS.2.2.len]) (firstK_range h0 hl1) (by omega) hlen hS

theorem glue_poss {us : List Un} (h : ∀ u ∈ us, 0 ≤ u.1 ∧ 0 ≤ u.2 ∧ u.2 < 1099511627776) : ∀ x ∈ glue us, possB x = true := fun x hx => by
  have hg := (glue_glued us).mem x hx
  have hu : ∀ u ∈ ul x, u ∈ us := fun u hu => by rw [← U_glue us]; exact mem_U.2 ⟨x, hx, hu⟩
  have h1 := h (x.1, x.2.1) (hu _ (mem_ul.2 ⟨rfl, by simp only; omega, by simp only; omega⟩))
  have h2 := h (x.1, x.2.1 + x.2.2 - 1) (hu _ (mem_ul.2 ⟨rfl, by simp only; omega, by simp only; omega⟩))
  simp only at h1 h2
  rw [possB_iff]
  omega
theorem U_range {l : List Lt} (hl : ∀ x ∈ l, possB x = true) : ∀ u ∈ U l, 0 ≤ u.1 ∧ 0 ≤ u.2 ∧ u.2 < 1099511627776 := fun u hu => by
  obtain ⟨x, hx, hu⟩ := mem_U.1 hu
  have h1 := possB_iff.1 (hl x hx)
  have h2 := mem_ul.1 hu
  omega
/-- what is left behind the first units has no more lots than there were -/
theorem glue_drop_len (l : List Lt) (k : Nat) (hl : ∀ x ∈ l, 1 ≤ x.2.2) : (glue ((U l).drop k)).length ≤ l.length := by
  induction l generalizing k with
  | nil => rw [U_nil, List.drop_nil]; exact Nat.zero_le _
  | cons x l ih =>
    have hx := hl x List.mem_cons_self
    have ih' := fun k => ih k (fun y hy => hl y (List.mem_cons_of_mem _ hy))
    have h2 := ul_len x
    rw [U_cons, List.drop_append, List.length_cons]
    have h3 := ih' (k - (ul x).length)
    by_cases hk : k ≤ (ul x).length
    · have hc := ul_cut (f := x.1) (a := x.2.1) (n := x.2.2) (k := (k : Int)) (by omega) (by omega)
      have hc : ul x = ul (x.1, x.2.1, (k : Int)) ++ ul (x.1, x.2.1 + k, x.2.2 - k) := hc
      have e1 := ul_len (x.1, x.2.1, (k : Int))
      simp only at e1
      have hd : (ul x).drop k = ul (x.1, x.2.1 + k, x.2.2 - k) := by
        rw [hc, List.drop_append_of_le_length (by omega), List.drop_eq_nil_of_le (by omega), List.nil_append]
      have h4 := glue_app_len ((ul x).drop k) ((U l).drop (k - (ul x).length))
      have h5 := glue_ul_len (x.1, x.2.1 + (k : Int), x.2.2 - k)
      rw [← hd] at h5
      omega
    · rw [List.drop_eq_nil_of_le (by omega), List.nil_append]
      omega
set_option maxHeartbeats 8000000 in
set_option maxRecDepth 100000 in
theorem slice_c (at_ m : Int) (A : Option Addr) (n c : Nat) (l : List Lt) (w : World) (h : LotsAt w A n c l) (ha1 : -9223372036854775808 ≤ at_) (ha2 : at_ ≤ 9223372036854775807) (hm1 : -9223372036854775808 ≤ m) (hm2 : m ≤ 9223372036854775807) :
    Calls Try.prog 36 #[.slice A n c, .int .i64 at_, .int .i64 m] w (RetLE w (sliceS l at_ m)) := by
  have HV := Lib.hid (valid_c A n c l w h)
  cases hv : validB l
  · rw [hv] at HV
    have HF := Lib.hid (show sliceS l at_ m = ([], 1) by rw [sliceS, if_pos (.inl hv)])
    clear hv
    go_enter Try.func36, Try.ntmps36
    go_wp2_with fail
    refine HV.out.mono ?_
    rintro e w2 ⟨rfl, hE2⟩
    go_wp2_with fail
    go_ret2
    exact RetLE.none_ HF.out hE2
  · rw [hv] at HV
    by_cases hab : at_ < 0 ∨ m < 0
    · have HF := Lib.hid (show sliceS l at_ m = ([], 1) by rw [sliceS, if_pos (.inr hab)])
      by_cases ha : at_ < 0
      · have da : decide (at_ < 0) = true := by simpa using ha
        clear hv hab
        go_enter Try.func36, Try.ntmps36
        go_wp2_with fail
        refine HV.out.mono ?_
        rintro e w2 ⟨rfl, hE2⟩
        go_wp2_with fail
        go_ret2
        exact RetLE.none_ HF.out hE2
      · have hm0 : m < 0 := by omega
        have da : decide (at_ < 0) = false := by simpa using ha
        have dm : decide (m < 0) = true := by simpa using hm0
        clear hv hab
        go_enter Try.func36, Try.ntmps36
        go_wp2_with fail
        refine HV.out.mono ?_
        rintro e w2 ⟨rfl, hE2⟩
        go_wp2_with fail
        go_ret2
        exact RetLE.none_ HF.out hE2
    · have ha0 : ¬ at_ < 0 := fun hh => hab (.inl hh)
      have hm0 : ¬ m < 0 := fun hh => hab (.inr hh)
      have da : decide (at_ < 0) = false := by simpa using ha0
      have dm : decide (m < 0) = false := by simpa using hm0
      obtain ⟨v1, v2⟩ := validB_iff.1 hv
      have hT := totL_le v2
      have htot : totalS l = totL l := by rw [totalS, hv]; rfl
      have HTot := Lib.hid (fun W (hE : E w W) => total_c A n c l W (h.e hE))
      rw [htot] at HTot
      have hT1 : totL l ≤ 4503599627370496 := by omega
      have hT0 := hT.1
      have HNo : totL l < at_ ∨ totL l - at_ < m → sliceS l at_ m = ([], 5) := fun hh => by
        rw [sliceS, if_neg (by rw [hv]; rintro (h1 | h1 | h1) <;> first | exact ha0 h1 | exact hm0 h1 | cases h1), if_pos hh]
      have HYes : ¬ (totL l < at_ ∨ totL l - at_ < m) → sliceS l at_ m = (glue (((U l).drop at_.toNat).take m.toNat), 0) := fun hh => by
        rw [sliceS, if_neg (by rw [hv]; rintro (h1 | h1 | h1) <;> first | exact ha0 h1 | exact hm0 h1 | cases h1), if_neg hh]
      have HL := Lib.hid (And.intro h.len v1)
      have HP := Lib.hid v2
      generalize totL l = T at *
      clear hT htot v1 v2 hv hab
      have hwr : IntKind.i64.wrap (T - at_) = T - at_ := by rw [IntKind.wrap_i64]; omega
      by_cases hTa : T < at_
      · have HF := Lib.hid (HNo (.inl hTa))
        clear HNo HYes
        have dT : decide (T < at_) = true := by simpa using hTa
        go_enter Try.func36, Try.ntmps36
        go_wp2_with fail
        refine HV.out.mono ?_
        rintro e w2 ⟨rfl, hE2⟩
        go_wp2_with fail
        refine (HTot.out _ hE2).mono ?_
        rintro e w3 ⟨rfl, hE3⟩
        go_wp2_with fail
        go_ret2
        exact RetLE.none_ HF.out (hE2.trans hE3)
      · have dT : decide (T < at_) = false := by simpa using hTa
        by_cases hTm : T - at_ < m
        · have HF := Lib.hid (HNo (.inr hTm))
          clear HNo HYes
          have dm2 : decide (T - at_ < m) = true := by simpa using hTm
          go_enter Try.func36, Try.ntmps36
          go_wp2_with fail
          refine HV.out.mono ?_
          rintro e w2 ⟨rfl, hE2⟩
          go_wp2_with fail
          refine (HTot.out _ hE2).mono ?_
          rintro e w3 ⟨rfl, hE3⟩
          go_wp2_with fail
          go_ret2
          exact RetLE.none_ HF.out (hE2.trans hE3)
        · have HF := Lib.hid (HYes (fun hh => by rcases hh with hh | hh; exact hTa hh; exact hTm hh))
          clear HNo HYes
          have dm2 : decide (T - at_ < m) = false := by simpa using hTm
          have hn : n ≤ 4096 := by have := HL.out.1; have := HL.out.2; omega
          have hA0 := Lib.hid h.obl
          have hsm : at_ ≤ 1152921504606846976 := by omega
          have hsm2 : m ≤ 1152921504606846976 := by omega
          have ha00 : 0 ≤ at_ := by omega
          have hm00 : 0 ≤ m := by omega
          have HB := Lib.hid (And.intro (And.intro ha00 hsm) (And.intro hm00 hsm2))
          clear ha00 hm00 hsm hsm2 ha1 ha2 hm1 hm2 hT0 hT1 hTa hTm ha0 hm0
          go_enter Try.func36, Try.ntmps36
          go_wp2_with fail
          refine HV.out.mono ?_
          rintro e w2 ⟨rfl, hE2⟩
          go_wp2_with fail
          refine (HTot.out _ hE2).mono ?_
          rintro e w3 ⟨rfl, hE3⟩
          have hE23 := hE2.trans hE3
          go_wp2_with fail
          refine (firstUnits_c at_ A n c l w3 (h.e hE23)).mono ?_
          rintro e w4 ⟨rfl, hS4, hE4, hz4⟩
          go_wp2_with fail
          refine (divide_first at_ A n c l w4 w3.heap.size (w3.heap.size + 1) HB.out.1.1 HB.out.1.2 HP.out (fun h0 b hb => Nat.lt_of_lt_of_le (hA0.out h0 b hb) hE23.le) (by omega) (by omega) (by omega) hS4).mono ?_
          rintro e w5 ⟨A1, n1, c1, A2, n2, c2, rfl, hO1, hO2, _, _, hp2, hX5⟩
          have hw5 : w4.heap.size ≤ w5.heap.size := hX5.size
          have hw4 := hE4.le
          have h2l : n2 ≤ 100000 := by
            have h1 := hO2.1
            have h2 := HL.out.2
            have h3 := glue_drop_len l at_.toNat (fun x hx => (possB_iff.1 (HP.out x hx)).2.2.2.1)
            omega
          have hO2r := hO2.reads
          have HO2 := Lib.hid hO2
          have hXw : Ex (fun b => b = w3.heap.size + 1) w3 w5 := (Ex.of_e (X := fun _ => False) hE4).trans hX5 (fun _ _ x => x.elim) (fun _ _ x => x)
          have HE5 := Lib.hid (show E w w5 from hE23.trans (hXw.e (fun i hi => by omega)))
          clear hO1 hO2 hX5 hS4 hE4 hXw
          go_wp2_with fail
          refine (firstUnits_c m A2 n2 c2 _ w5 hO2r).mono ?_
          rintro e w6 ⟨rfl, hS6, hE6, hz6⟩
          go_wp2_with fail
          refine (divide_first m A2 n2 c2 _ w6 w5.heap.size (w5.heap.size + 1) HB.out.2.1 HB.out.2.2 hp2 hO2r.obl (by omega) (by omega) h2l hS6).mono ?_
          rintro e w7 ⟨A3, n3, c3, A4, n4, c4, rfl, hO3, hO4, _, _, _, hX7⟩
          have hX57 : Ex (fun b => b = w5.heap.size + 1) w5 w7 := (Ex.of_e (X := fun _ => False) hE6).trans hX7 (fun _ _ x => x.elim) (fun _ _ x => x)
          have HE7 := Lib.hid (HE5.out.trans (hX57.e (fun i hi => by omega)))
          have hle := HE7.out.le
          have hw6 := hE6.le
          have hw56 := HE5.out.le
          clear hX7 hX57 hS6 hE6 hO4
          go_wp2_with fail
          go_ret2
          exact RetLE.mk_ (by rw [HF.out, U_glue]) (hO3.rebase (by omega)) HE7.out
end Go.Proofs.Ytmeplpiamkaniaa
/- spans.Slice. -/
namespace Go.Proofs.Ytmeplpiamkaniaa
set_option linter.unusedVariables false
set_option linter.unusedSimpArgs false
open Go.RowKit

set_option maxHeartbeats 2000000 in
theorem spSlice_c (A : Option Addr) (n c : Nat) (l : List Lt) (a0 m0 : Int) (w : World) (h : LotsAt w A n c l) (hp : ∀ x ∈ l, possB x = true) (ha : 0 ≤ a0) (hm : 0 ≤ m0) (hs : a0 + m0 ≤ 4611686018427387904) (hn : n ≤ 100000) :
    Calls Try.prog 91 #[.slice A n c, .int .i64 a0, .int .i64 m0] w (RetL w (glue (cutU l a0 m0))) := by
  have hm63 := h.n63
  have HL := Lib.hid h.len
  have HP := Lib.hid hp
  have HU := Lib.hid (U_range hp)
  clear hp
  go_enter Try.func91, Try.ntmps91
  go_wp2_with fail
  go_loopw [1, 2, 7, 13] (fun t1 t2 t7 ti wr => ∃ (k n1 c1 : Nat) (A1 : Option Addr) (a m : Int) (us : List Un), k ≤ n ∧ ti = .int .i64 k ∧ t1 = .int .i64 a ∧ t2 = .int .i64 m ∧ t7 = .slice A1 n1 c1 ∧ OwnL wr w.heap.size A1 n1 c1 (glue us) ∧ n1 ≤ k ∧ E w wr ∧ 0 ≤ a ∧ 0 ≤ m ∧ a + m ≤ 4611686018427387904 ∧ Hid (us ++ cutU (l.drop k) a m = cutU l a0 m0)) (fun _ _ _ ti _ => n - (intOf ti).toNat)
  case atStart => exact ⟨0, 0, 0, none, a0, m0, [], Nat.zero_le _, rfl, rfl, rfl, rfl, OwnL.nil _ _, Nat.le_refl _, E.refl _, ha, hm, hs, show _ = _ by simp⟩
  case round =>
    clear ha hm hs
    obtain ⟨k, n1, c1, A1, a, m, us, hk, rfl, rfl, rfl, rfl, hO, hn1, hE, ha, hm, hs, hus⟩ := hrel
    by_cases hlt : k < n
    · by_cases hm0 : m = 0
      · have HF := Lib.hid (show glue us = glue (cutU l a0 m0) by
          rw [← hus.out, hm0, cut_zero _ _ (Int.le_refl _), List.append_nil])
        subst hm0
        obtain ⟨b, o, x, rfl, hb, hx, hwx, d0, d1, d2⟩ := (h.e hE).get hlt
        have hkI : (k : Int) < (n : Int) := by omega
        go_wp2_with fail
        go_ret
        exact RetL.mk_ HF.out.symm (hO.e ((E.refl _).alloc _)) (hE.alloc _)
      · have hd0 : (m == 0) = false := by simpa using hm0
        obtain ⟨b, o, x, rfl, hb, hx, hwx, d0, d1, d2⟩ := (h.e hE).get hlt
        have hkI : (k : Int) < (n : Int) := by omega
        have hpx := possB_iff.1 (HP.out x (List.mem_of_getElem? hx))
        have hdr : l.drop k = x :: l.drop (k + 1) := by
          have hkl : k < l.length := by rw [HL.out]; exact hlt
          rw [List.drop_eq_getElem_cons hkl]
          rw [List.getElem?_eq_getElem hkl] at hx
          injection hx with hx
          rw [hx]
        by_cases hax : x.2.2 ≤ a
        · have HN := Lib.hid (show us ++ cutU (l.drop (k + 1)) (a - x.2.2) m = cutU l a0 m0 by
            rw [← hus.out, hdr, cut_skip (by omega) hax])
          have hwr : IntKind.i64.wrap (a - x.2.2) = a - x.2.2 := by rw [IntKind.wrap_i64]; omega
          clear hx hdr hd0
          obtain ⟨f, p, q⟩ := x
          simp only at *
          go_wp2_with fail
          go_roundw
          case rel => exact ⟨k + 1, n1, c1, A1, a - q, m, us, by omega, by go_num, rfl, rfl, rfl, hO.e ((E.refl _).alloc _), by omega, hE.alloc _, by omega, hm, by omega, HN⟩
          case measure => simp [intOf]; omega
        · obtain ⟨cn, hcn⟩ : ∃ cn, min m (x.2.2 - a) = cn := ⟨_, rfl⟩
          have HCN := Lib.hid hcn
          have HIF := Lib.hid (show (if x.2.2 - a < m then x.2.2 - a else m) = cn by split <;> omega)
          have hcn1 : 1 ≤ cn ∧ cn ≤ m ∧ cn ≤ x.2.2 - a := by omega
          have HN := Lib.hid (show (us ++ ul (x.1, x.2.1 + a, cn)) ++ cutU (l.drop (k + 1)) 0 (m - cn) = cutU l a0 m0 by
            rw [← hus.out, hdr, cut_some ha (by omega) hm, hcn, List.append_assoc])
          have hgp : ∀ y ∈ glue us, possB y = true := glue_poss (fun u hu => HU.out u (by
            have : u ∈ cutU l a0 m0 := by rw [← hus.out]; exact List.mem_append_left _ hu
            exact List.mem_of_mem_drop (List.mem_of_mem_take this)))
          have hq : (x.1, x.2.1 + a, cn).2.2 ≠ 0 → possB (x.1, x.2.1 + a, cn) = true := fun _ => possB_iff.2 (by simp only; omega)
          have hw1 : WfL (x.1, x.2.1 + a, cn) := ⟨hwx.1, wf_of_i64 (by simp only; omega) (by simp only; omega), wf_of_i64 (by simp only; omega) (by simp only; omega)⟩
          have HADD := Lib.hid (show addL (glue us) (x.1, x.2.1 + a, cn) = glue (us ++ ul (x.1, x.2.1 + a, cn)) from add_glue (by simp only; omega))
          have HLen := Lib.hid (add_len (glue us) (x.1, x.2.1 + a, cn))
          have hOl := hO.1
          have hle := hE.le
          have HA := Lib.hid (fun W (hW : E wr W) => append_c (x.1, x.2.1 + a, cn) A1 n1 c1 w.heap.size (glue us) W (hO.e hW) hgp hq hw1 (by have := hW.le; omega) (by omega))
          have hwr1 : IntKind.i64.wrap (x.2.2 - a) = x.2.2 - a := by rw [IntKind.wrap_i64]; omega
          have hwr2 : IntKind.i64.wrap (x.2.1 + a) = x.2.1 + a := by rw [IntKind.wrap_i64]; omega
          have hwr3 : IntKind.i64.wrap (m - cn) = m - cn := by rw [IntKind.wrap_i64]; omega
          have hge : decide (x.2.2 ≤ a) = false := by simpa using hax
          have hE1 := (E.refl wr).alloc (.cells #[.int .i64 x.1, .int .i64 x.2.1, .int .i64 x.2.2] 32)
          clear hx hdr hcn hgp hq hw1
          unfold ltV at HA
          obtain ⟨f, p, q⟩ := x
          simp only at *
          go_upto_region 9 with fail
          first | rw [HCN.out] | rw [HIF.out]
          go_wp2_with (go_at_call 61; refine (HA.out _ hE1).mono ?_; rintro e w3 ⟨A3, n3, c3, rfl, hO3, hG3, hor3⟩)
          have hEw3 : E w w3 := (hE.trans hE1).grown hG3 (fun q hq => (hO.ltN q hq).1)
          have hn3 : n3 ≤ k + 1 := by have h1 := hO3.1; have h2 := HLen.out; omega
          rw [HADD.out] at hO3
          go_roundw
          case rel => exact ⟨k + 1, n3, c3, A3, 0, m - cn, _, by omega, by go_num, rfl, rfl, rfl, hO3, hn3, hEw3, by omega, by omega, by omega, HN⟩
          case measure => simp [intOf]; omega
    · have HF := Lib.hid (show glue us = glue (cutU l a0 m0) by
        have := hus.out
        rw [List.drop_eq_nil_of_le (by have := HL.out; omega)] at this
        rw [← this, cutU, U_nil]
        simp)
      go_wp2_with fail
      go_ret
      exact RetL.mk_ HF.out.symm hO hE
end Go.Proofs.Ytmeplpiamkaniaa
/- Nothing of the library is laid here; no condition. -/
namespace Go.Proofs
set_option linter.unusedVariables false
set_option linter.unusedSimpArgs false
end Go.Proofs
/- Contract of math/bits.Div64. -/
namespace Go.Proofs.Ytmeplpiamkaniaa
set_option linter.unusedVariables false
set_option linter.unusedSimpArgs false
open Go.RowKit

theorem bitLen_facts {x : Nat} (h0 : 0 < x) (h1 : x < 18446744073709551616) : ∃ k : Nat, Lib.bitLen x = k + 1 ∧ k < 64 ∧ 2 ^ k ≤ x ∧ x < 2 ^ (k + 1) := by
  have key : ∀ k : Nat, k ≤ 63 → x < 2 ^ (k + 1) → 2 ^ k ≤ x → Lib.bitLen x = k + 1 := by
    intro k hk h2 h3
    have := Lib.bitLen_shift k x h3 h1
    have e : x / 2 ^ k = 1 := by
      have hp : 0 < 2 ^ k := Nat.pow_pos (by omega)
      apply Nat.div_eq_of_lt_le
      · omega
      · rw [Nat.pow_succ] at h2; omega
    rw [this, e]; rfl
  have ex : ∀ m : Nat, m ≤ 64 → x < 2 ^ m → ∃ k, k < 64 ∧ x < 2 ^ (k + 1) ∧ 2 ^ k ≤ x := by
    intro m
    induction m with
    | zero => intro _ h; simp at h; omega
    | succ m ih =>
      intro hm h
      by_cases hlt : x < 2 ^ m
      · exact ih (by omega) hlt
      · exact ⟨m, by omega, h, by omega⟩
  obtain ⟨k, hk, h2, h3⟩ := ex 64 (Nat.le_refl _) (by simpa using h1)
  exact ⟨k, key k (by omega) h2 h3, hk, h3, h2⟩


/-- y moved up until its highest bit is set -/
theorem norm_facts {y : Int} {k s : Nat} (hy : 0 < y) (h1 : 2 ^ k ≤ y.toNat) (h2 : y.toNat < 2 ^ (k + 1)) (hk : k < 64) (hs : 63 - k = s) :
    IntKind.u64.wrap (y * 2 ^ s) = y * 2 ^ s ∧ 9223372036854775808 ≤ y * 2 ^ s ∧ y * 2 ^ s ≤ 18446744073709551615 := by
  obtain ⟨n, rfl⟩ := Int.eq_ofNat_of_zero_le (Int.le_of_lt hy)
  rw [Int.toNat_natCast] at h1 h2
  have e : ((n : Int) * 2 ^ s) = ((n * 2 ^ s : Nat) : Int) := by simp
  have g1 : 2 ^ k * 2 ^ s ≤ n * 2 ^ s := Nat.mul_le_mul_right _ h1
  have g2 : n * 2 ^ s < 2 ^ (k + 1) * 2 ^ s := Nat.mul_lt_mul_of_pos_right h2 (Nat.pow_pos (by omega))
  rw [← Nat.pow_add] at g1 g2
  rw [show k + s = 63 by omega] at g1
  rw [show k + 1 + s = 64 by omega] at g2
  rw [e, IntKind.wrap_u64]
  omega
theorem or_facts {hi lo y : Int} {s : Nat} (hs : s ≤ 63) (h0 : 0 ≤ hi) (hl0 : 0 ≤ lo) (hl1 : lo ≤ 18446744073709551615) (hy : hi < y) (hY : y * 2 ^ s ≤ 18446744073709551615) :
    bits .or .u64 (IntKind.u64.wrap (hi * 2 ^ s)) (lo / 2 ^ (64 - s)) = hi * 2 ^ s + lo / 2 ^ (64 - s) ∧ hi * 2 ^ s + lo / 2 ^ (64 - s) < y * 2 ^ s ∧ 0 ≤ hi * 2 ^ s + lo / 2 ^ (64 - s) := by
  obtain ⟨a, rfl⟩ := Int.eq_ofNat_of_zero_le h0
  obtain ⟨b, rfl⟩ := Int.eq_ofNat_of_zero_le hl0
  obtain ⟨c, rfl⟩ := Int.eq_ofNat_of_zero_le (show 0 ≤ y by omega)
  have e1 : ((a : Int) * 2 ^ s) = ((a * 2 ^ s : Nat) : Int) := by simp
  have e2 : ((c : Int) * 2 ^ s) = ((c * 2 ^ s : Nat) : Int) := by simp
  have e3 : ((b : Int) / 2 ^ (64 - s)) = ((b / 2 ^ (64 - s) : Nat) : Int) := by simp
  have hac : a + 1 ≤ c := by omega
  have g1 : (a + 1) * 2 ^ s ≤ c * 2 ^ s := Nat.mul_le_mul_right _ hac
  have g2 : b / 2 ^ (64 - s) < 2 ^ s := by
    apply Nat.div_lt_of_lt_mul
    rw [← Nat.pow_add, show 64 - s + s = 64 by omega]; omega
  rw [e2] at hY
  rw [Nat.add_mul, Nat.one_mul] at g1
  have ho := Nat.two_pow_add_eq_or_of_lt g2 a
  rw [Nat.mul_comm] at ho
  rw [e1, e2, e3, IntKind.wrap_u64]
  clear e1 e2 e3
  generalize a * 2 ^ s = a' at *
  generalize c * 2 ^ s = c' at *
  generalize b / 2 ^ (64 - s) = b' at *
  generalize 2 ^ s = p at *
  have hb : a' < 18446744073709551616 := by omega
  rw [show ((a' : Nat) : Int) % 18446744073709551616 = (a' : Int) by omega]
  rw [bits_or_u64_nat _ _ hb (by omega), ← ho]
  omega
theorem and_mask {a : Int} (h0 : 0 ≤ a) (h1 : a ≤ 18446744073709551615) : bits .and .u64 a 4294967295 = a % 4294967296 := by
  obtain ⟨n, rfl⟩ := Int.eq_ofNat_of_zero_le h0
  have h := bits_and_u64_nat n 4294967295 (by omega) (by omega)
  have e : n &&& 4294967295 = n % 4294967296 := Nat.and_two_pow_sub_one_eq_mod n 32
  rw [e] at h
  exact h.trans (by omega)
theorem up_facts {hi lo : Int} {s : Nat} (hs : s ≤ 63) : (hi * 18446744073709551616 + lo) * 2 ^ s = (hi * 2 ^ s + lo / 2 ^ (64 - s)) * 18446744073709551616 + IntKind.u64.wrap (lo * 2 ^ s) := by
  rw [IntKind.wrap_u64]
  have hp : (18446744073709551616 : Int) = 2 ^ (64 - s) * 2 ^ s := by rw [← Int.pow_add, show 64 - s + s = 64 by omega]; rfl
  have hd : lo * 2 ^ s / 18446744073709551616 = lo / 2 ^ (64 - s) := by
    conv => lhs; rw [hp]
    exact Int.mul_ediv_mul_of_pos_left _ _ (Int.pow_pos (by omega))
  have := Int.mul_ediv_add_emod (lo * 2 ^ s) 18446744073709551616
  rw [hd] at this
  grind
theorem two_digits {U Y L1 L0 : Int} (hY : 0 < Y) : ((U * 4294967296 + L1) * 4294967296 + L0) / Y = (U * 4294967296 + L1) / Y * 4294967296 + ((U * 4294967296 + L1) % Y * 4294967296 + L0) / Y ∧ ((U * 4294967296 + L1) * 4294967296 + L0) % Y = ((U * 4294967296 + L1) % Y * 4294967296 + L0) % Y := by
  have h := Int.mul_ediv_add_emod (U * 4294967296 + L1) Y
  generalize (U * 4294967296 + L1) / Y = q at *
  generalize (U * 4294967296 + L1) % Y = V at *
  rw [← h]
  have e : (Y * q + V) * 4294967296 + L0 = (V * 4294967296 + L0) + Y * (q * 4294967296) := by grind
  rw [e, Int.add_mul_ediv_left _ _ (by omega), Int.add_mul_emod_self_left]
  omega
theorem down_facts {X y : Int} {s : Nat} : X * 2 ^ s / (y * 2 ^ s) = X / y ∧ X * 2 ^ s % (y * 2 ^ s) / 2 ^ s = X % y := by
  have hp : (0 : Int) < 2 ^ s := Int.pow_pos (by omega)
  refine ⟨Int.mul_ediv_mul_of_pos_left _ _ hp, ?_⟩
  rw [Int.mul_comm X, Int.mul_comm y, Int.mul_emod_mul_of_pos _ _ hp, Int.mul_ediv_cancel_left _ (by omega)]
theorem start_facts {U y1 : Int} (hy : 2147483648 ≤ y1) (hU0 : 0 ≤ U) (hU1 : U ≤ 18446744073709551615) :
    IntKind.u64.wrap (U - IntKind.u64.wrap (U / y1 * y1)) = U % y1 ∧ 0 ≤ U % y1 ∧ U % y1 < y1 ∧ U = U / y1 * y1 + U % y1 ∧ 0 ≤ U / y1 ∧ U / y1 ≤ U := by
  have h := Int.mul_ediv_add_emod U y1
  have h1 := Int.emod_nonneg U (show y1 ≠ 0 by omega)
  have h2 := Int.emod_lt_of_pos U (show 0 < y1 by omega)
  have h3 := Int.ediv_nonneg hU0 (show 0 ≤ y1 by omega)
  have h4 := Int.ediv_le_self y1 hU0
  rw [Int.mul_comm] at h
  have h5 := Int.mul_nonneg h3 (show 0 ≤ y1 by omega)
  generalize U / y1 * y1 = p at *
  generalize U / y1 = q at *
  generalize U % y1 = r at *
  rw [IntKind.wrap_u64, IntKind.wrap_u64]
  omega
theorem kd_start {U Y y1 y0 u1 B Q : Int} (hB : 0 < B) (hY : Y = y1 * B + y0) (h1 : 0 < y1) (h0 : 0 ≤ y0) (hu : u1 < B) (hY0 : 0 < Y) (hU : 0 ≤ U) (hu0 : 0 ≤ u1) (hQ : (U * B + u1) / Y = Q) : Q ≤ U / y1 := by
  have a1 : Q * Y ≤ U * B + u1 := by rw [← hQ]; exact Int.ediv_mul_le _ (by omega)
  have a2 : 0 ≤ Q := by rw [← hQ]; exact Int.ediv_nonneg (Int.add_nonneg (Int.mul_nonneg hU (by omega)) hu0) (by omega)
  have a3 : Q * Y = Q * y1 * B + Q * y0 := by rw [hY]; grind
  have a4 := Int.mul_nonneg a2 h0
  rw [Int.le_ediv_iff_mul_le h1]
  rcases Int.lt_or_le U (Q * y1) with h | h
  · have := Int.mul_le_mul_of_nonneg_right (show U + 1 ≤ Q * y1 by omega) (show 0 ≤ B by omega)
    rw [Int.add_mul, Int.one_mul] at this
    omega
  · exact h
/-- the wrapped rest is the rest -/
theorem rest_facts {U Y u1 q : Int} (hY0 : 0 < Y) (hY1 : Y ≤ 18446744073709551615) (hq : (U * 4294967296 + u1) / Y = q) :
    IntKind.u64.wrap (IntKind.u64.wrap (IntKind.u64.wrap (U * 4294967296) + u1) - IntKind.u64.wrap (q * Y)) = (U * 4294967296 + u1) % Y := by
  have h := Int.mul_ediv_add_emod (U * 4294967296 + u1) Y
  have h1 := Int.emod_nonneg (U * 4294967296 + u1) (show Y ≠ 0 by omega)
  have h2 := Int.emod_lt_of_pos (U * 4294967296 + u1) hY0
  rw [hq, Int.mul_comm] at h
  generalize (U * 4294967296 + u1) % Y = r at *
  generalize q * Y = p at *
  rw [IntKind.wrap_u64, IntKind.wrap_u64, IntKind.wrap_u64, IntKind.wrap_u64]
  omega
theorem small_prod {q y0 : Int} (h0 : 0 ≤ q) (h1 : q < 4294967296) (g0 : 0 ≤ y0) (g1 : y0 ≤ 4294967295) : 0 ≤ q * y0 ∧ q * y0 ≤ 18446744065119617025 := by
  refine ⟨Int.mul_nonneg h0 g0, ?_⟩
  have a1 : q * y0 ≤ 4294967295 * y0 := Int.mul_le_mul_of_nonneg_right (by omega) g0
  omega

end Go.Proofs.Ytmeplpiamkaniaa
/- Contracts of divide, Part, Ceil of package share and of the reference's Divide, Part, Ceil. -/
namespace Go.Proofs.Ytmeplpiamkaniaa
set_option linter.unusedVariables false
set_option linter.unusedSimpArgs false
open Go.RowKit

def divOk (t n d : Int) : Bool := okU t && (okL n && (okL d && decide (d ≠ 0)))
def divFit (t n d : Int) : Bool := decide (t * n / d ≤ 1099511627776)
def divQ (t n d : Int) : Int := if divOk t n d = true ∧ divFit t n d = true then t * n / d else 0
def divR (t n d : Int) : Int := if divOk t n d = true ∧ divFit t n d = true then t * n % d else 0
def divE (t n d : Int) : Int := if divOk t n d then (if divFit t n d then 0 else 5) else 1
def ceilN (t n d : Int) : Int := divQ t n d + (if 0 < divR t n d then 1 else 0)
def ceilQ (t n d : Int) : Int := if divE t n d = 0 ∧ ceilN t n d ≤ 1099511627776 then ceilN t n d else 0
def ceilE (t n d : Int) : Int := if divE t n d = 0 then (if ceilN t n d ≤ 1099511627776 then 0 else 5) else divE t n d
theorem ret_three {k k' k'' : IntKind} {a b c d x y : Int} (h : a = b) (h' : c = d) (h'' : x = y) : Ending.returned (.tuple #[.int k a, .int k' c, .int k'' x]) = .returned (.tuple #[.int k b, .int k' d, .int k'' y]) := by rw [h, h', h'']
theorem divOk_iff {t n d : Int} : divOk t n d = true ↔ (0 ≤ t ∧ t ≤ 1099511627776) ∧ (0 ≤ n ∧ n ≤ 1152921504606846976) ∧ 0 < d ∧ d ≤ 1152921504606846976 := by
  simp only [divOk, Bool.and_eq_true, okU_iff, okL_iff, decide_eq_true_eq]; omega
theorem prod_range {t n : Int} (h0 : 0 ≤ t) (h1 : t ≤ 1152921504606846976) (g0 : 0 ≤ n) (g1 : n ≤ 1152921504606846976) : 0 ≤ t * n ∧ t * n ≤ 1329227995784915872903807060280344576 := by
  refine ⟨Int.mul_nonneg h0 g0, ?_⟩
  have a1 : t * n ≤ 1152921504606846976 * n := Int.mul_le_mul_of_nonneg_right h1 g0
  omega

theorem divQ_range (t n d : Int) : 0 ≤ divQ t n d ∧ divQ t n d ≤ 1099511627776 := by
  unfold divQ
  split
  · rename_i h
    obtain ⟨⟨t0, t1⟩, ⟨n0, n1⟩, d0, d1⟩ := divOk_iff.1 h.1
    have := h.2
    simp only [divFit, decide_eq_true_eq] at this
    exact ⟨Int.ediv_nonneg (Int.mul_nonneg t0 n0) (by omega), this⟩
  · omega
theorem divR_range (t n d : Int) : 0 ≤ divR t n d ∧ divR t n d ≤ 1152921504606846976 := by
  unfold divR
  split
  · rename_i h
    obtain ⟨⟨t0, t1⟩, ⟨n0, n1⟩, d0, d1⟩ := divOk_iff.1 h.1
    exact ⟨Int.emod_nonneg _ (by omega), by have := Int.emod_lt_of_pos (t * n) d0; omega⟩
  · omega
theorem divE_range (t n d : Int) : 0 ≤ divE t n d ∧ divE t n d ≤ 5 := by
  unfold divE; split
  · split <;> omega
  · omega

def DivPost (a b d : Int) (w : World) (e : Ending) (w' : World) : Prop :=
  ((e = .returned (.tuple #[.int .i64 (a * b / d), .int .i64 (a * b % d), .bool true]) ∧ a * b / d ≤ 1152921504606846976) ∨ (e = .returned (.tuple #[.int .i64 0, .int .i64 0, .bool false]) ∧ 1152921504606846976 < a * b / d)) ∧ w = w'
theorem ret_iib {k k' : IntKind} {a b c d : Int} {u : Bool} (h : a = b) (h' : c = d) : Ending.returned (.tuple #[.int k a, .int k' c, .bool u]) = .returned (.tuple #[.int k b, .int k' d, .bool u]) := by rw [h, h']
end Go.Proofs.Ytmeplpiamkaniaa
/- Contracts of cmp.Compare, cmp.Or, of Compare of package share and of the reference. -/
namespace Go.Proofs.Ytmeplpiamkaniaa
set_option linter.unusedVariables false
set_option linter.unusedSimpArgs false
open Go.RowKit

def cmpI (x y : Int) : Int := if x < y then -1 else if y < x then 1 else 0
def orI (a b : Int) : Int := if a = 0 then b else a
theorem cmpI_range (x y : Int) : -1 ≤ cmpI x y ∧ cmpI x y ≤ 1 := by unfold cmpI; split; · omega
                                                                    split <;> omega

set_option maxHeartbeats 400000 in
theorem cmpI64_c (x y : Int) (w : World) : Calls Try.prog 52 #[.int .i64 x, .int .i64 y] w fun e w' => e = .returned (.int .i64 (cmpI x y)) ∧ w = w' := by
  have n1 : (x != x) = false := by simp
  have n2 : (y != y) = false := by simp
  by_cases h1 : x < y
  · have HC := Lib.hid (show -1 = cmpI x y by simp [cmpI, h1])
    generalize cmpI x y = r at *
    go_enter Try.func52, Try.ntmps52
    go_wp2
    go_ret
    exact ⟨ret_int HC.out, rfl⟩
  · by_cases h2 : y < x
    · have HC := Lib.hid (show 1 = cmpI x y by simp [cmpI, h1, h2])
      generalize cmpI x y = r at *
      go_enter Try.func52, Try.ntmps52
      go_wp2
      go_ret
      exact ⟨ret_int HC.out, rfl⟩
    · have HC := Lib.hid (show 0 = cmpI x y by simp [cmpI, h1, h2])
      generalize cmpI x y = r at *
      go_enter Try.func52, Try.ntmps52
      go_wp2
      go_ret
      exact ⟨ret_int HC.out, rfl⟩
set_option maxHeartbeats 400000 in
theorem cmpOr_c (g : Nat) (a b : Int) (w : World) (h0 : w.cell? ⟨g, 0, none⟩ = some (.int .i64 a)) (h1 : w.cell? ⟨g, 1, none⟩ = some (.int .i64 b)) :
    Calls Try.prog 51 #[.slice (some ⟨g, 0, none⟩) 2 2] w fun e w' => e = .returned (.int .i64 (orI a b)) ∧ w = w' := by
  by_cases ha : a = 0
  · subst ha
    have hne : ((0 : Int) != 0) = false := by simp
    by_cases hb : b = 0
    · subst hb
      go_enter Try.func51, Try.ntmps51
      go_wp2
      refine wp_loop_rounds 3 ?_
      rw [rounds_succ]
      go_wp2
      rw [rounds_succ]
      go_wp2
      rw [rounds_succ]
      go_wp2
      go_ret
      exact ⟨rfl, rfl⟩
    · have hnb : (b != 0) = true := by simpa using hb
      have HR := Lib.hid (show b = orI 0 b by simp [orI])
      generalize orI 0 b = r at *
      go_enter Try.func51, Try.ntmps51
      go_wp2
      refine wp_loop_rounds 2 ?_
      rw [rounds_succ]
      go_wp2
      rw [rounds_succ]
      go_wp2
      go_ret
      exact ⟨ret_int HR.out, rfl⟩
  · have hna : (a != 0) = true := by simpa using ha
    have HR := Lib.hid (show a = orI a b by simp [orI, ha])
    generalize orI a b = r at *
    go_enter Try.func51, Try.ntmps51
    go_wp2
    refine wp_loop_rounds 1 ?_
    rw [rounds_succ]
    go_wp2
    go_ret
    exact ⟨ret_int HR.out, rfl⟩
end Go.Proofs.Ytmeplpiamkaniaa
/- Contracts of Compare of package share and of the reference. -/
namespace Go.Proofs.Ytmeplpiamkaniaa
set_option linter.unusedVariables false
set_option linter.unusedSimpArgs false
open Go.RowKit

def cmpOk (a b c d : Int) : Bool := okL a && (okL b && (okL c && (okL d && (decide (b ≠ 0) && decide (d ≠ 0)))))
def cmpV (a b c d : Int) : Int := if cmpOk a b c d then cmpF a b c d else 0
def cmpX (a b c d : Int) : Int := if cmpOk a b c d then 0 else 1
theorem cmpOk_iff {a b c d : Int} : cmpOk a b c d = true ↔ (0 ≤ a ∧ a ≤ 1152921504606846976) ∧ (0 < b ∧ b ≤ 1152921504606846976) ∧ (0 ≤ c ∧ c ≤ 1152921504606846976) ∧ 0 < d ∧ d ≤ 1152921504606846976 := by
  simp only [cmpOk, Bool.and_eq_true, okL_iff, decide_eq_true_eq]; omega
theorem or_words (p r : Int) : orI (cmpI (p / 18446744073709551616) (r / 18446744073709551616)) (cmpI (p % 18446744073709551616) (r % 18446744073709551616)) = if p < r then -1 else if p = r then 0 else 1 := by
  rw [← cmpF_words]
  unfold orI cmpI
  by_cases h1 : p / 18446744073709551616 < r / 18446744073709551616
  · simp [h1]
  · by_cases h2 : r / 18446744073709551616 < p / 18446744073709551616
    · rw [if_neg h1, if_neg h1, if_pos h2, if_neg (show ¬ p / 18446744073709551616 = r / 18446744073709551616 by omega), if_neg (by omega)]
    · have he : p / 18446744073709551616 = r / 18446744073709551616 := by omega
      rw [if_neg h1, if_neg h1, if_neg h2, if_pos he, if_pos rfl]
      by_cases h3 : p % 18446744073709551616 < r % 18446744073709551616
      · rw [if_pos h3, if_pos h3]
      · rw [if_neg h3, if_neg h3]
        by_cases h4 : r % 18446744073709551616 < p % 18446744073709551616
        · rw [if_pos h4, if_neg (by omega)]
        · rw [if_neg h4, if_pos (by omega)]

theorem cmpF_cases (a b c d : Int) : cmpF a b c d = -1 ∨ cmpF a b c d = 0 ∨ cmpF a b c d = 1 := by
  unfold cmpF; split
  · exact .inl rfl
  · split
    · exact .inr (.inl rfl)
    · exact .inr (.inr rfl)
end Go.Proofs.Ytmeplpiamkaniaa
/-
  DERIVED: THE SHELF's CONTRACTS AT THIS DUMP, IN PLAIN WORDS (tools/lay-plain.mjs out of 'YtmeplpiamkaniaaSr.lean', which tools/lay-shelf.mjs wrote): THE SAME DECLARATIONS UNDER THE SAME NAMES: 'import', 'namespace', 'open', 'def', 'theorem' AND NOTHING ELSE: no command of the shelf's: FOR A HAND-IN. Each laying: the table of numbers ('.._ren') and one theorem, a field a fact of the dump's own or the kernel's comparison; each contract: ONE APPLICATION.
-/
namespace Go.Proofs
set_option linter.unusedVariables false
set_option linter.unusedSimpArgs false
open Go.Shelf
def Try.revL_ren : Go.Shelf.Ren := ⟨fun | 35 => 62 | n => n, fun | 22 => 29 | 23 => 32 | 3 => 3 | 4 => 4 | 0 => 0 | n => n, fun | n => n⟩
theorem Try.revL : Go.Proofs.SlLaysE0.n35 Try.prog Try.revL_ren := {
  mixed := by kernel_rfl
  f35 := ⟨Try.f62.name, by decide, Try.func62.trans (congrArg some (by kernel_rfl))⟩
  t0 := Try.underlying0
  a0 := Try.isAgg0
  z0 := Try.sizeOf0
  v0 := Try.zeroValue0
  t3 := Try.underlying3
  a3 := Try.isAgg3
  z3 := Try.sizeOf3
  v3 := Try.zeroValue3
  t4 := Try.underlying4
  a4 := Try.isAgg4
  z4 := Try.sizeOf4
  v4 := Try.zeroValue4
  t22 := Try.underlying29
  a22 := Try.isAgg29
  z22 := Try.sizeOf29
  v22 := Try.zeroValue29 }
end Go.Proofs
/- The model's sets of lots in plain words: insert, subtract. -/
namespace Go.Proofs.Ytmeplpiamkaniaa
set_option linter.unusedVariables false
set_option linter.unusedSimpArgs false

/-! insert -/
structure InsSt where
  b : List Lt
  a : List Lt
  f : Int
  t : Int
def insStep (l : Lt) (st : InsSt) (x : Lt) : InsSt :=
  if x.1 < l.1 ∨ (x.1 = l.1 ∧ x.2.1 + x.2.2 < st.f) then { st with b := st.b ++ [x] }
  else if l.1 < x.1 ∨ st.t < x.2.1 then { st with a := st.a ++ [x] }
  else { st with f := min st.f x.2.1, t := max st.t (x.2.1 + x.2.2) }
def insF (s : List Lt) (l : Lt) : InsSt := s.foldl (insStep l) ⟨[], [], l.2.1, l.2.1 + l.2.2⟩
def insM (s : List Lt) (l : Lt) : List Lt := (insF s l).b ++ [(l.1, (insF s l).f, (insF s l).t - (insF s l).f)] ++ (insF s l).a
theorem insF_snoc (s : List Lt) (l x : Lt) : insF (s ++ [x]) l = insStep l (insF s l) x := by unfold insF; rw [List.foldl_append]; rfl
theorem insF_nil (l : Lt) : insF [] l = ⟨[], [], l.2.1, l.2.1 + l.2.2⟩ := rfl

theorem canon_mid {b a : List Lt} {m : Lt} : Canon (b ++ [m] ++ a) ↔ (∀ x ∈ b ++ [m] ++ a, 1 ≤ x.2.2) ∧ b.Pairwise gapL ∧ a.Pairwise gapL ∧ (∀ x ∈ b, gapL x m) ∧ (∀ y ∈ a, gapL m y) ∧ ∀ x ∈ b, ∀ y ∈ a, gapL x y := by
  constructor
  · intro h
    refine ⟨h.pos, ?_⟩
    have h1 := List.pairwise_append.1 h.gap
    have h2 := List.pairwise_append.1 h1.1
    exact ⟨h2.1, h1.2.1, fun x hx => h2.2.2 x hx m (by simp), fun y hy => h1.2.2 m (by simp) y hy, fun x hx y hy => h1.2.2 x (by simp [hx]) y hy⟩
  · rintro ⟨h0, h1, h2, h3, h4, h5⟩
    refine ⟨h0, List.pairwise_append.2 ⟨List.pairwise_append.2 ⟨h1, by simp, fun x hx y hy => ?_⟩, h2, fun x hx y hy => ?_⟩⟩
    · rw [List.mem_singleton] at hy; subst hy; exact h3 x hx
    · rcases List.mem_append.1 hx with hx | hx
      · exact h5 x hx y hy
      · rw [List.mem_singleton] at hx; subst hx; exact h4 y hy
structure InsInv (p : List Lt) (l : Lt) (st : InsSt) : Prop where
  can : Canon (st.b ++ [(l.1, st.f, st.t - st.f)] ++ st.a)
  sub : ∀ y, y ∈ st.b ∨ y ∈ st.a → y ∈ p
  lt : st.f < st.t
  un : ∀ u, u ∈ U (st.b ++ [(l.1, st.f, st.t - st.f)] ++ st.a) ↔ u ∈ U p ∨ u ∈ ul l
theorem mem_U3 (b a : List Lt) (m : Lt) (u : Un) : u ∈ U (b ++ [m] ++ a) ↔ u ∈ U b ∨ u ∈ ul m ∨ u ∈ U a := by
  rw [U_app, U_app, U_one, List.mem_append, List.mem_append, or_assoc]
theorem ins_inv {s : List Lt} {l : Lt} (hs : Canon s) (hl : 1 ≤ l.2.2) : ∀ p q, s = p ++ q → InsInv p l (insF p l) := by
  intro p
  obtain ⟨k, hk⟩ : ∃ k, p.length = k := ⟨_, rfl⟩
  induction k generalizing p with
  | zero =>
    intro q _
    obtain rfl := List.eq_nil_of_length_eq_zero hk
    rw [insF_nil]
    refine ⟨?_, by simp, by simp only; omega, fun u => ?_⟩
    · simp only [List.nil_append, List.append_nil]
      exact canon_one (by simp only; omega)
    · simp only [List.nil_append, List.append_nil, U_one, U_nil, List.not_mem_nil, false_or]
      rw [mem_ul, mem_ul]
      simp only
      omega
  | succ k ih =>
    intro q hq
    rcases snoc_cases p with rfl | ⟨r, x, rfl⟩
    · simp at hk
    · have hr : r.length = k := by simpa using hk
      have hI := ih r hr ([x] ++ q) (by rw [hq]; simp)
      rw [insF_snoc]
      have hgap : ∀ y ∈ r, gapL y x := by
        have := hs.gap
        rw [hq, List.append_assoc] at this
        exact fun y hy => (List.pairwise_append.1 this).2.2 y hy x (by simp)
      have hx : 1 ≤ x.2.2 := hs.pos x (by rw [hq]; simp)
      generalize insF r l = st at hI
      obtain ⟨b, a, f, t⟩ := st
      obtain ⟨h1, h2, h3, h4⟩ := hI
      simp only at h1 h2 h3 h4
      obtain ⟨c0, c1, c2, c3, c4, c5⟩ := canon_mid.1 h1
      have hno : gapL (l.1, f, t - f) x ∨ a = [] := by
        cases a with
        | nil => exact .inr rfl
        | cons y a => exact .inl (gap_trans (c4 y (by simp)) (c0 y (by simp)) (hgap y (h2 y (by simp))))
      have hgb : ∀ y ∈ b, gapL y x := fun y hy => hgap y (h2 y (.inl hy))
      have hga : ∀ y ∈ a, gapL y x := fun y hy => hgap y (h2 y (.inr hy))
      have key : ∀ u, u ∈ U (r ++ [x]) ∨ u ∈ ul l ↔ (u ∈ U b ∨ u ∈ ul (l.1, f, t - f) ∨ u ∈ U a) ∨ u ∈ ul x := fun u => by
        rw [← mem_U3, h4, U_app, U_one, List.mem_append]
        constructor
        · rintro ((h | h) | h) <;> simp [h]
        · rintro ((h | h) | h) <;> simp [h]
      unfold insStep
      simp only
      by_cases t1 : x.1 < l.1 ∨ (x.1 = l.1 ∧ x.2.1 + x.2.2 < f)
      · rw [if_pos t1]
        have ha : a = [] := hno.resolve_left (fun h => by unfold gapL at h; simp only at h; omega)
        subst ha
        have hxm : gapL x (l.1, f, t - f) := by unfold gapL; simp only; omega
        refine ⟨canon_mid.2 ⟨fun y hy => ?_, List.pairwise_append.2 ⟨c1, by simp, fun y hy z hz => ?_⟩, List.Pairwise.nil, fun y hy => ?_, by simp, by simp⟩, fun y hy => ?_, h3, fun u => ?_⟩
        · simp only [List.append_nil, List.mem_append, List.mem_singleton] at hy
          rcases hy with (hy | rfl) | rfl
          · exact c0 y (by simp [hy])
          · exact hx
          · simp only; omega
        · rw [List.mem_singleton] at hz; subst hz; exact hgb y hy
        · rcases List.mem_append.1 hy with hy | hy
          · exact c3 y hy
          · rw [List.mem_singleton] at hy; subst hy; exact hxm
        · rcases hy with hy | hy
          · rcases List.mem_append.1 hy with hy | hy
            · exact List.mem_append_left _ (h2 y (.inl hy))
            · exact List.mem_append_right _ hy
          · cases hy
        · rw [mem_U3, key]
          simp only [U_app, U_one, List.mem_append]
          constructor
          · rintro ((h | h) | h | h) <;> simp [h]
          · rintro ((h | h | h) | h) <;> simp [h]
      · rw [if_neg t1]
        by_cases t2 : l.1 < x.1 ∨ t < x.2.1
        · rw [if_pos t2]
          have hmx : gapL (l.1, f, t - f) x := by unfold gapL; simp only; omega
          refine ⟨canon_mid.2 ⟨fun y hy => ?_, c1, List.pairwise_append.2 ⟨c2, by simp, fun y hy z hz => ?_⟩, c3, fun y hy => ?_, fun y hy z hz => ?_⟩, fun y hy => ?_, h3, fun u => ?_⟩
          · simp only [List.mem_append, List.mem_singleton] at hy
            rcases hy with (hy | rfl) | hy | rfl
            · exact c0 y (by simp [hy])
            · simp only; omega
            · exact c0 y (by simp [hy])
            · exact hx
          · rw [List.mem_singleton] at hz; subst hz; exact hga y hy
          · rcases List.mem_append.1 hy with hy | hy
            · exact c4 y hy
            · rw [List.mem_singleton] at hy; subst hy; exact hmx
          · rcases List.mem_append.1 hz with hz | hz
            · exact c5 y hy z hz
            · rw [List.mem_singleton] at hz; subst hz; exact hgb y hy
          · rcases hy with hy | hy
            · exact List.mem_append_left _ (h2 y (.inl hy))
            · rcases List.mem_append.1 hy with hy | hy
              · exact List.mem_append_left _ (h2 y (.inr hy))
              · exact List.mem_append_right _ hy
          · rw [mem_U3, key]
            simp only [U_app, U_one, List.mem_append]
            constructor
            · rintro (h | h | h | h) <;> simp [h]
            · rintro ((h | h | h) | h) <;> simp [h]
        · rw [if_neg t2]
          have ha : a = [] := hno.resolve_left (fun h => by unfold gapL at h; simp only at h; omega)
          subst ha
          refine ⟨canon_mid.2 ⟨fun y hy => ?_, c1, List.Pairwise.nil, fun y hy => ?_, by simp, by simp⟩, fun y hy => List.mem_append_left _ (h2 y hy), by simp only; omega, fun u => ?_⟩
          · simp only [List.append_nil, List.mem_append, List.mem_singleton] at hy
            rcases hy with hy | rfl
            · exact c0 y (by simp [hy])
            · simp only; omega
          · have e1 := c3 y hy
            have e2 := hgb y hy
            unfold gapL at *
            simp only at *
            omega
          · rw [mem_U3, key]
            have e : u ∈ ul (l.1, min f x.2.1, max t (x.2.1 + x.2.2) - min f x.2.1) ↔ u ∈ ul (l.1, f, t - f) ∨ u ∈ ul x := by
              rw [mem_ul, mem_ul, mem_ul]
              simp only
              omega
            rw [e]
            simp only [U_nil, List.not_mem_nil, or_false]
            rw [or_assoc]
theorem insM_set {s : List Lt} {l : Lt} {z : List Lt} (hs : Canon s) (hl : 1 ≤ l.2.2) (hz : ∀ u, u ∈ U s ∨ u ∈ ul l ↔ u ∈ U z) : insM s l = setS z := by
  have h := ins_inv hs hl s [] (by simp)
  exact h.can.eq_set fun u => (h.un u).trans (hz u)
/-- ranges and lengths along the way -/
theorem ins_facts (l : Lt) (hl : possB l = true) : ∀ p : List Lt, (∀ x ∈ p, possB x = true) → (∀ x ∈ (insF p l).b, possB x = true) ∧ (∀ x ∈ (insF p l).a, possB x = true) ∧ 0 ≤ (insF p l).f ∧ (insF p l).f < (insF p l).t ∧ (insF p l).t ≤ 1099511627776 ∧
    (insF p l).b.length + (insF p l).a.length ≤ p.length := by
  intro p
  obtain ⟨k, hk⟩ : ∃ k, p.length = k := ⟨_, rfl⟩
  have hl' := possB_iff.1 hl
  induction k generalizing p with
  | zero =>
    intro _
    obtain rfl := List.eq_nil_of_length_eq_zero hk
    rw [insF_nil]
    refine ⟨by simp, by simp, ?_, ?_, ?_, by simp⟩ <;> (simp only; omega)
  | succ k ih =>
    intro hp
    rcases snoc_cases p with rfl | ⟨r, x, rfl⟩
    · simp at hk
    · have hr : r.length = k := by simpa using hk
      obtain ⟨h1, h2, h3, h4, h5, h6⟩ := ih r hr (fun y hy => hp y (List.mem_append_left _ hy))
      have hx0 := hp x (by simp)
      have hx := possB_iff.1 hx0
      rw [insF_snoc]
      unfold insStep
      split
      · refine ⟨fun y hy => ?_, h2, h3, h4, h5, by simp only [List.length_append, List.length_singleton]; omega⟩
        rcases List.mem_append.1 hy with hy | hy
        · exact h1 y hy
        · rw [List.mem_singleton] at hy; subst hy; exact hx0
      · split
        · refine ⟨h1, fun y hy => ?_, h3, h4, h5, by simp only [List.length_append, List.length_singleton]; omega⟩
          rcases List.mem_append.1 hy with hy | hy
          · exact h2 y hy
          · rw [List.mem_singleton] at hy; subst hy; exact hx0
        · refine ⟨h1, h2, ?_, ?_, ?_, ?_⟩
          · simp only; omega
          · simp only; omega
          · simp only; omega
          · simp only [List.length_append, List.length_singleton]; omega

/-! subtract -/
def sub1 (x y : Lt) : List Lt :=
  if y.1 ≠ x.1 ∨ x.2.1 + x.2.2 ≤ y.2.1 ∨ y.2.1 + y.2.2 ≤ x.2.1 then [y]
  else (if y.2.1 < x.2.1 then [(x.1, y.2.1, x.2.1 - y.2.1)] else []) ++ (if x.2.1 + x.2.2 < y.2.1 + y.2.2 then [(x.1, x.2.1 + x.2.2, y.2.1 + y.2.2 - x.2.1 - x.2.2)] else [])
def subM (l : List Lt) (x : Lt) : List Lt := l.flatMap (sub1 x)
theorem subM_nil (x : Lt) : subM [] x = [] := rfl
theorem subM_cons (x y : Lt) (l : List Lt) : subM (y :: l) x = sub1 x y ++ subM l x := rfl
theorem subM_snoc (x y : Lt) (l : List Lt) : subM (l ++ [y]) x = subM l x ++ sub1 x y := by simp [subM]
theorem sub1_U {x y : Lt} (hx : 1 ≤ x.2.2) (hy : 0 ≤ y.2.2) : U (sub1 x y) = outU [x] (ul y) := by
  unfold sub1
  by_cases h0 : y.1 ≠ x.1 ∨ x.2.1 + x.2.2 ≤ y.2.1 ∨ y.2.1 + y.2.2 ≤ x.2.1
  · rw [if_pos h0, U_one, (outU_all fun u hu h => ?_).2]
    rw [U_one] at h
    have h1 := mem_ul.1 hu
    have h2 := mem_ul.1 h
    omega
  · rw [if_neg h0]
    obtain ⟨f, a, n⟩ := x
    obtain ⟨g, b, m⟩ := y
    simp only at hx hy h0 ⊢
    have e : g = f := by omega
    subst e
    have hm : ul (g, b, m) = ul (g, b, max 0 (a - b)) ++ (ul (g, b + max 0 (a - b), min (b + m) (a + n) - (b + max 0 (a - b))) ++ ul (g, min (b + m) (a + n), b + m - min (b + m) (a + n))) := by
      rw [ul_cut (k := max 0 (a - b)) (by omega) (by omega)]
      congr 1
      have e1 : b + max 0 (a - b) + (min (b + m) (a + n) - (b + max 0 (a - b))) = min (b + m) (a + n) := by omega
      have e2 : m - max 0 (a - b) - (min (b + m) (a + n) - (b + max 0 (a - b))) = b + m - min (b + m) (a + n) := by omega
      rw [ul_cut (k := min (b + m) (a + n) - (b + max 0 (a - b))) (by omega) (by omega), e1, e2]
    have o1 : outU [(g, a, n)] (ul (g, b, max 0 (a - b))) = ul (g, b, max 0 (a - b)) := (outU_all fun u hu h => by
      rw [U_one] at h
      have h1 := mem_ul.1 hu
      have h2 := mem_ul.1 h
      simp only at h1 h2
      omega).2
    have o2 : outU [(g, a, n)] (ul (g, b + max 0 (a - b), min (b + m) (a + n) - (b + max 0 (a - b)))) = [] := (inU_all fun u hu => by
      rw [U_one]
      have h1 := mem_ul.1 hu
      refine mem_ul.2 ?_
      simp only at h1 ⊢
      omega).2
    have o3 : outU [(g, a, n)] (ul (g, min (b + m) (a + n), b + m - min (b + m) (a + n))) = ul (g, min (b + m) (a + n), b + m - min (b + m) (a + n)) := (outU_all fun u hu h => by
      rw [U_one] at h
      have h1 := mem_ul.1 hu
      have h2 := mem_ul.1 h
      simp only at h1 h2
      omega).2
    rw [hm, outU_app, outU_app, o1, o2, o3, List.nil_append, U_app]
    congr 1
    · by_cases h1 : b < a
      · rw [if_pos h1, U_one, show max 0 (a - b) = a - b by omega]
      · rw [if_neg h1, U_nil, ul_none (by simp only; omega)]
    · by_cases h1 : a + n < b + m
      · rw [if_pos h1, U_one, show min (b + m) (a + n) = a + n by omega, show b + m - (a + n) = b + m - a - n by omega]
      · rw [if_neg h1, U_nil, ul_none (by simp only; omega)]
theorem subM_U {x : Lt} (hx : 1 ≤ x.2.2) (l : List Lt) (hl : ∀ y ∈ l, 0 ≤ y.2.2) : U (subM l x) = outU [x] (U l) := by
  induction l with
  | nil => rfl
  | cons y l ih => rw [subM_cons, U_app, ih (fun z hz => hl z (List.mem_cons_of_mem _ hz)), sub1_U hx (hl y List.mem_cons_self), U_cons, outU_app]
theorem sub1_poss {x y : Lt} (hx : possB x = true) (hy : possB y = true) : ∀ z ∈ sub1 x y, possB z = true := by
  have h1 := possB_iff.1 hx
  have h2 := possB_iff.1 hy
  intro z hz
  unfold sub1 at hz
  split at hz
  · rw [List.mem_singleton] at hz; subst hz; exact hy
  · rcases List.mem_append.1 hz with hz | hz
    · split at hz
      · rw [List.mem_singleton] at hz; subst hz; rw [possB_iff]; simp only; omega
      · cases hz
    · split at hz
      · rw [List.mem_singleton] at hz; subst hz; rw [possB_iff]; simp only; omega
      · cases hz
theorem subM_poss {l : List Lt} {x : Lt} (hx : possB x = true) (hl : ∀ y ∈ l, possB y = true) : ∀ z ∈ subM l x, possB z = true := by
  intro z hz
  obtain ⟨y, hy, hz⟩ := List.mem_flatMap.1 hz
  exact sub1_poss hx (hl y hy) z hz
theorem sub1_len {x y : Lt} : (sub1 x y).length ≤ 1 ∨ ((sub1 x y).length ≤ 2 ∧ (x.1, x.2.1) ∈ ul y) := by
  unfold sub1
  split
  · left; simp
  · rename_i h0
    by_cases h1 : y.2.1 < x.2.1
    · by_cases h2 : x.2.1 + x.2.2 < y.2.1 + y.2.2
      · right
        rw [if_pos h1, if_pos h2]
        refine ⟨by simp, mem_ul.2 ?_⟩
        simp only
        omega
      · left; rw [if_pos h1, if_neg h2]; simp
    · left
      rw [if_neg h1]
      split <;> simp
theorem subM_len {x : Lt} (l : List Lt) (hn : (U l).Nodup) : (subM l x).length ≤ l.length + 1 ∧ (¬ (x.1, x.2.1) ∈ U l → (subM l x).length ≤ l.length) := by
  induction l with
  | nil => simp [subM_nil]
  | cons y l ih =>
    rw [U_cons] at hn
    obtain ⟨n1, n2, n3⟩ := List.nodup_append.1 hn
    obtain ⟨i1, i2⟩ := ih n2
    rw [subM_cons, List.length_append, List.length_cons]
    have hs := sub1_len (x := x) (y := y)
    refine ⟨?_, fun h => ?_⟩
    · rcases hs with hs | ⟨hs, hm⟩
      · omega
      · have := i2 (fun h => n3 _ hm _ h rfl)
        omega
    · rw [U_cons, List.mem_append] at h
      have := i2 (fun h' => h (.inr h'))
      rcases hs with hs | ⟨hs, hm⟩
      · omega
      · exact absurd (.inl hm) h
theorem lt_ne {a b : Un} (h : ltU a b) : a ≠ b := fun e => by subst e; exact ltU_irrefl _ h
theorem ul_nodup (x : Lt) : (ul x).Nodup := List.Pairwise.imp lt_ne (srt_units x.1 x.2.1 x.2.2.toNat)
/-- what is left of a lot when all lots of a list are taken away -/
def subA (y : Lt) (set : List Lt) : List Lt := set.foldl subM [y]
theorem subA_snoc (y x : Lt) (set : List Lt) : subA y (set ++ [x]) = subM (subA y set) x := by unfold subA; rw [List.foldl_append]; rfl
theorem outU_two (s : List Lt) (x : Lt) (us : List Un) : outU [x] (outU s us) = outU (s ++ [x]) us := by
  unfold outU
  rw [List.filter_filter]
  congr 1
  funext u
  have : hasB (s ++ [x]) u = (hasB s u || hasB [x] u) := by unfold hasB; rw [List.any_append]
  rw [this]
  cases hasB s u <;> cases hasB [x] u <;> rfl
theorem outU_none (us : List Un) : outU [] us = us := (outU_all (s := []) (us := us) fun u _ h => by rw [U_nil] at h; cases h).2
theorem subA_facts {y : Lt} (hy : possB y = true) (set : List Lt) (hs : ∀ x ∈ set, possB x = true) : U (subA y set) = outU set (ul y) ∧ (∀ z ∈ subA y set, possB z = true) ∧ (subA y set).length ≤ set.length + 1 := by
  obtain ⟨k, hk⟩ : ∃ k, set.length = k := ⟨_, rfl⟩
  induction k generalizing set with
  | zero =>
    obtain rfl := List.eq_nil_of_length_eq_zero hk
    refine ⟨by show U [y] = _; rw [U_one, outU_none], fun z hz => ?_, by show [y].length ≤ _; simp⟩
    have : z ∈ [y] := hz
    rw [List.mem_singleton] at this; subst this; exact hy
  | succ k ih =>
    rcases snoc_cases set with rfl | ⟨r, x, rfl⟩
    · simp at hk
    · have hr : r.length = k := by simpa using hk
      obtain ⟨h1, h2, h3⟩ := ih r (fun z hz => hs z (List.mem_append_left _ hz)) hr
      have hx := hs x (by simp)
      have hx1 := (possB_iff.1 hx).2.2.2.1
      rw [subA_snoc]
      refine ⟨by rw [subM_U hx1 _ (fun z hz => by have := (possB_iff.1 (h2 z hz)).2.2.2.1; omega), h1, outU_two], subM_poss hx h2, ?_⟩
      have hn : (U (subA y r)).Nodup := by rw [h1]; exact (ul_nodup y).filter _
      have := (subM_len (x := x) _ hn).1
      rw [List.length_append, List.length_singleton]
      omega
/-- the model's Without: what is left of all lots, put together -/
def wouM (s set : List Lt) : List Lt := s.foldl (fun o y => putL o (subA y set)) []
theorem wouM_snoc (s set : List Lt) (y : Lt) : wouM (s ++ [y]) set = putL (wouM s set) (subA y set) := by unfold wouM; rw [List.foldl_append]; rfl
theorem putL_poss {s l : List Lt} (hs : ∀ x ∈ s, possB x = true) (hl : ∀ x ∈ l, possB x = true) : ∀ x ∈ putL s l, possB x = true := by
  induction l generalizing s with
  | nil => exact hs
  | cons y l ih =>
    rw [putL_cons]
    exact ih (poss_add hs fun _ => hl y List.mem_cons_self) fun z hz => hl z (List.mem_cons_of_mem _ hz)
theorem wouM_facts (s set : List Lt) (hs : ∀ x ∈ s, possB x = true) (hset : ∀ x ∈ set, possB x = true) : wouM s set = glue (outU set (U s)) ∧ (∀ z ∈ wouM s set, possB z = true) ∧ (wouM s set).length ≤ s.length * (set.length + 1) := by
  obtain ⟨k, hk⟩ : ∃ k, s.length = k := ⟨_, rfl⟩
  induction k generalizing s with
  | zero =>
    obtain rfl := List.eq_nil_of_length_eq_zero hk
    exact ⟨rfl, (by intro z hz; cases hz), Nat.zero_le _⟩
  | succ k ih =>
    rcases snoc_cases s with rfl | ⟨r, y, rfl⟩
    · simp at hk
    · have hr : r.length = k := by simpa using hk
      obtain ⟨h1, h2, h3⟩ := ih r (fun z hz => hs z (List.mem_append_left _ hz)) hr
      obtain ⟨a1, a2, a3⟩ := subA_facts (hs y (by simp)) set hset
      rw [wouM_snoc]
      refine ⟨?_, putL_poss h2 a2, ?_⟩
      · rw [h1, putL_eq (glue_glued _) (fun x hx => by have := (possB_iff.1 (a2 x hx)).2.2.2.1; omega), U_glue, a1, U_app, U_one, outU_app]
      · have := putL_len (subA y set) (wouM r set)
        rw [List.length_append, List.length_singleton, Nat.add_mul, Nat.one_mul]
        omega
end Go.Proofs.Ytmeplpiamkaniaa
/- Sets of lots: what the operations give, in plain words; how many units and lots. -/
namespace Go.Proofs.Ytmeplpiamkaniaa
set_option linter.unusedVariables false
set_option linter.unusedSimpArgs false

theorem insM_poss {s : List Lt} {l : Lt} (hp : ∀ x ∈ s, possB x = true) (hl : possB l = true) : ∀ x ∈ insM s l, possB x = true := by
  obtain ⟨h1, h2, h3, h4, h5, h6⟩ := ins_facts l hl s hp
  have hl' := possB_iff.1 hl
  intro x hx
  unfold insM at hx
  simp only [List.mem_append, List.mem_singleton] at hx
  rcases hx with (hx | rfl) | hx
  · exact h1 x hx
  · rw [possB_iff]; simp only; omega
  · exact h2 x hx
theorem insM_len {s : List Lt} {l : Lt} (hp : ∀ x ∈ s, possB x = true) (hl : possB l = true) : (insM s l).length ≤ s.length + 1 := by
  obtain ⟨h1, h2, h3, h4, h5, h6⟩ := ins_facts l hl s hp
  unfold insM
  simp only [List.length_append, List.length_singleton]
  omega
theorem setP (l : List Lt) (hl : ∀ x ∈ l, possB x = true) : Canon (setS l) ∧ (setS l).length ≤ l.length ∧ (∀ x ∈ setS l, possB x = true) ∧ l.foldl insM [] = setS l := by
  obtain ⟨k, hk⟩ : ∃ k, l.length = k := ⟨_, rfl⟩
  induction k generalizing l with
  | zero =>
    obtain rfl := List.eq_nil_of_length_eq_zero hk
    exact ⟨Canon.nil, Nat.zero_le _, (by intro x hx; cases hx), rfl⟩
  | succ k ih =>
    rcases snoc_cases l with rfl | ⟨r, x, rfl⟩
    · simp at hk
    · have hr : r.length = k := by simpa using hk
      obtain ⟨h1, h2, h3, h4⟩ := ih r (fun y hy => hl y (List.mem_append_left _ hy)) hr
      have hx := hl x (by simp)
      have hx1 := (possB_iff.1 hx).2.2.2.1
      have e : insM (setS r) x = setS (r ++ [x]) := insM_set h1 hx1 fun u => by rw [mem_setS, U_app, U_one, List.mem_append]
      have hc := (ins_inv h1 hx1 (setS r) [] (by simp)).can
      have hc : Canon (insM (setS r) x) := hc
      rw [← e]
      refine ⟨hc, ?_, insM_poss h3 hx, ?_⟩
      · have := insM_len h3 hx
        rw [List.length_append, List.length_singleton]
        omega
      · rw [List.foldl_append, h4]; rfl
theorem foldl_ins_from (a b : List Lt) (ha : ∀ x ∈ a, possB x = true) (hb : ∀ x ∈ b, possB x = true) : b.foldl insM (setS a) = setS (a ++ b) := by
  rw [← (setP a ha).2.2.2, ← List.foldl_append]
  exact (setP (a ++ b) (fun x hx => by rcases List.mem_append.1 hx with hx | hx; exact ha x hx; exact hb x hx)).2.2.2
theorem glue_poss' {us : List Un} (h : ∀ u ∈ us, 0 ≤ u.1 ∧ 0 ≤ u.2 ∧ u.2 < 1099511627776) : ∀ x ∈ glue us, possB x = true := fun x hx => by
  have hg := (glue_glued us).mem x hx
  have hu : ∀ u ∈ ul x, u ∈ us := fun u hu => by rw [← U_glue us]; exact mem_U.2 ⟨x, hx, hu⟩
  have h1 := h (x.1, x.2.1) (hu _ (mem_ul.2 ⟨rfl, by simp only; omega, by simp only; omega⟩))
  have h2 := h (x.1, x.2.1 + x.2.2 - 1) (hu _ (mem_ul.2 ⟨rfl, by simp only; omega, by simp only; omega⟩))
  simp only at h1 h2
  rw [possB_iff]
  omega
theorem U_range' {l : List Lt} (hl : ∀ x ∈ l, possB x = true) : ∀ u ∈ U l, 0 ≤ u.1 ∧ 0 ≤ u.2 ∧ u.2 < 1099511627776 := fun u hu => by
  obtain ⟨x, hx, hu⟩ := mem_U.1 hu
  have h1 := possB_iff.1 (hl x hx)
  have h2 := mem_ul.1 hu
  omega
theorem sortU_id {us : List Un} (h : Srt us) : sortU us = us := srt_ext (srt_sortU us) h fun _ => mem_sortU
theorem glue_setS {us : List Un} (h : Srt us) : setS (glue us) = glue us := by rw [setS, U_glue, sortU_id h]
theorem canon_setS {s : List Lt} (h : Canon s) : setS s = s := (h.eq_set fun _ => Iff.rfl).symm
theorem glue_canon {us : List Un} (h : Srt us) (hr : ∀ u ∈ us, 0 ≤ u.1 ∧ 0 ≤ u.2 ∧ u.2 < 1099511627776) : Canon (glue us) := by
  rw [← glue_setS h]
  exact (setP _ (glue_poss' hr)).1
/-- two sets of the same units are the same -/
theorem glue_srt_ext {a b : List Un} (ha : Srt a) (hb : Srt b) (h : ∀ u, u ∈ a ↔ u ∈ b) : glue a = glue b := by rw [srt_ext ha hb h]
theorem setS_ext {a b : List Lt} (h : ∀ u, u ∈ U a ↔ u ∈ U b) : setS a = setS b := by
  unfold setS
  exact glue_srt_ext (srt_sortU _) (srt_sortU _) fun u => by rw [mem_sortU, mem_sortU, h]

/-! what the model's operations are -/
theorem foldl_set (l : List Lt) (hl : ∀ x ∈ l, possB x = true) : l.foldl insM [] = setS l := (setP l hl).2.2.2
theorem wou_minus {a b : List Lt} (ha : ∀ x ∈ a, possB x = true) (hb : ∀ x ∈ b, possB x = true) : wouM (setS a) b = glue (outU b (U (setS a))) := (wouM_facts _ b (setP a ha).2.2.1 hb).1
theorem minus_len {a b : List Lt} (ha : ∀ x ∈ a, possB x = true) (hb : ∀ x ∈ b, possB x = true) : (∀ x ∈ glue (outU b (U a)), possB x = true) ∧ (glue (outU b (U a))).length ≤ a.length * (b.length + 1) := by
  have h := wouM_facts a b ha hb
  rw [h.1] at h
  exact h.2
theorem in_out (s : List Lt) (us : List Un) : outU (glue (outU s us)) us = inU s us := by
  unfold outU inU
  refine List.filter_congr fun u hu => ?_
  rw [Bool.eq_iff_iff]
  have : hasB (glue (List.filter (fun u => !hasB s u) us)) u = true ↔ hasB s u = false := by
    rw [hasB_iff, U_glue, List.mem_filter]
    simp [hu]
  cases h : hasB s u
  · rw [h] at this; simp [this.2 rfl]
  · rw [h] at this
    simp only [iff_true, Bool.not_eq_true']
    rw [Bool.eq_false_iff]
    intro h'
    have := this.1 h'
    cases this
/-- what Meet of the model is -/
theorem meet_model (a b : List Lt) : glue (outU (glue (outU b (U a))) (U a)) = glue (inU b (U a)) := by rw [in_out]
theorem meet_len {a b : List Lt} (ha : ∀ x ∈ a, possB x = true) (hb : ∀ x ∈ b, possB x = true) : (∀ x ∈ glue (inU b (U a)), possB x = true) ∧ (glue (inU b (U a))).length ≤ a.length * (a.length * (b.length + 1) + 1) := by
  obtain ⟨h1, h2⟩ := minus_len ha hb
  obtain ⟨h3, h4⟩ := minus_len ha h1
  rw [in_out] at h3 h4
  refine ⟨h3, Nat.le_trans h4 (Nat.mul_le_mul_left _ (by omega))⟩
theorem out_nil_iff (b : List Lt) (us : List Un) : glue (outU b us) = [] ↔ ∀ u ∈ us, u ∈ U b := by
  constructor
  · intro h u hu
    rcases Classical.em (u ∈ U b) with h1 | h1
    · exact h1
    · have h2 : u ∈ U (glue (outU b us)) := by rw [U_glue, mem_outU]; exact ⟨hu, h1⟩
      rw [h, U_nil] at h2; cases h2
  · intro h
    have : outU b us = [] := (inU_all h).2
    rw [this]; rfl
theorem within_model (a b : List Lt) : lwithin a b = (validB a && (validB b && decide (lminus a b = []))) := by
  unfold lwithin
  cases ha : validB a
  · rfl
  · cases hb : validB b
    · rfl
    · simp only [Bool.true_and]
      rw [Bool.eq_iff_iff, decide_eq_true_eq, lminus, ha, hb, if_pos (show (true && true) = true from rfl), out_nil_iff, List.all_eq_true]
      constructor
      · intro h u hu
        rw [mem_setS] at hu
        exact hasB_iff.1 (h u hu)
      · intro h u hu
        exact hasB_iff.2 (h u (mem_setS.2 hu))

/-! how many units -/
theorem srt_nodup {us : List Un} (h : Srt us) : us.Nodup := List.Pairwise.imp lt_ne h
theorem len_same {a b : List Un} (ha : Srt a) (hb : Srt b) (h : ∀ u, u ∈ a ↔ u ∈ b) : a.length = b.length := by rw [srt_ext ha hb h]
theorem len_in_out (s : List Lt) (us : List Un) : (inU s us).length + (outU s us).length = us.length := by
  induction us with
  | nil => rfl
  | cons u us ih =>
    unfold inU outU at *
    rw [List.filter_cons, List.filter_cons]
    cases hasB s u
    · simp; omega
    · simp; omega
theorem nodup_len {a b : List Un} (ha : a.Nodup) (hb : b.Nodup) (h : ∀ u, u ∈ a ↔ u ∈ b) : a.length = b.length := ((List.perm_ext_iff_of_nodup ha hb).2 h).length_eq
theorem len_union (a b : List Lt) : (sortU (U (a ++ b))).length + (inU b (sortU (U a))).length = (sortU (U a)).length + (sortU (U b)).length := by
  have h1 := len_in_out b (sortU (U a))
  have h3 : (outU b (sortU (U a)) ++ sortU (U b)).Nodup := by
    refine List.nodup_append.2 ⟨srt_nodup (srt_outU (srt_sortU _)), srt_nodup (srt_sortU _), fun u hu v hv e => ?_⟩
    subst e
    exact (mem_outU.1 hu).2 (mem_sortU.1 hv)
  have h2 := nodup_len (srt_nodup (srt_sortU (U (a ++ b)))) h3 (fun u => by
    rw [mem_sortU, U_app, List.mem_append, List.mem_append, mem_outU, mem_sortU, mem_sortU]
    rcases Classical.em (u ∈ U b) with h | h <;> simp [h])
  rw [List.length_append] at h2
  omega
theorem tot_glue (us : List Un) : totL (glue us) = (us.length : Int) := by
  rw [← U_len fun x hx => by have := (glue_glued us).mem x hx; omega, U_glue]
theorem glue_valid {us : List Un} (hr : ∀ u ∈ us, 0 ≤ u.1 ∧ 0 ≤ u.2 ∧ u.2 < 1099511627776) (hl : (glue us).length ≤ 4096) : validB (glue us) = true := validB_iff.2 ⟨hl, glue_poss' hr⟩
end Go.Proofs.Ytmeplpiamkaniaa
