/- Plain facts for Split: the greatest rest, sums, multiples, the best choice. -/
import Derived.Test.YtbpfdogjjoceaaaS2
namespace Go.Proofs.Ytbpfdogjjoceaaa

/-- -1 at each of the places -/
def mark (l : List Int) : List Nat → List Int
  | [] => l
  | i :: is => mark (l.set i (-1)) is
theorem mark_len (l : List Int) (is : List Nat) : (mark l is).length = l.length := by
  induction is generalizing l with
  | nil => rfl
  | cons i is ih => rw [mark, ih]; simp
theorem mark_snoc (l : List Int) (is : List Nat) (i : Nat) : mark l (is ++ [i]) = (mark l is).set i (-1) := by
  induction is generalizing l with
  | nil => rfl
  | cons j is ih => simp only [List.cons_append, mark]; rw [ih]
theorem mark_in {l : List Int} {is : List Nat} {j : Nat} (hj : j < l.length) (h : j ∈ is ∨ l.getD j 0 = -1) : (mark l is).getD j 0 = -1 := by
  induction is generalizing l with
  | nil => rcases h with h | h; · cases h
           exact h
  | cons i is ih =>
    rw [mark]
    refine ih (by simpa using hj) ?_
    by_cases e : j = i
    · right; subst e; simp [List.getD_eq_getElem?_getD, hj]
    · rcases h with h | h
      · rcases List.mem_cons.1 h with h | h
        · exact absurd h e
        · exact .inl h
      · right
        rw [List.getD_eq_getElem?_getD, List.getElem?_set, if_neg (fun x => e x.symm), ← List.getD_eq_getElem?_getD]; exact h
theorem mark_out {l : List Int} {is : List Nat} {j : Nat} (h : ¬ j ∈ is) : (mark l is).getD j 0 = l.getD j 0 := by
  induction is generalizing l with
  | nil => rfl
  | cons i is ih =>
    rw [List.mem_cons] at h
    rw [mark, ih fun x => h (.inr x)]
    rw [List.getD_eq_getElem?_getD, List.getElem?_set, if_neg (fun x => h (.inl x.symm)), ← List.getD_eq_getElem?_getD]

/-- the first of the greatest among the first n -/
def FirstMax (l : List Int) (n a : Nat) : Prop := a < n ∧ (∀ j, j < n → l.getD j 0 ≤ l.getD a 0) ∧ ∀ j, j < a → l.getD j 0 < l.getD a 0
theorem FirstMax.start (l : List Int) : FirstMax l 1 0 := ⟨by omega, fun j hj => by rw [show j = 0 by omega]; omega, fun j hj => by omega⟩
theorem FirstMax.more {l : List Int} {n a : Nat} (h : FirstMax l n a) (hl : l.getD a 0 < l.getD n 0) : FirstMax l (n + 1) n := by
  refine ⟨by omega, fun j hj => ?_, fun j hj => ?_⟩
  · by_cases e : j = n
    · subst e; omega
    · have := h.2.1 j (by omega); omega
  · have := h.2.1 j hj; omega
theorem FirstMax.keep {l : List Int} {n a : Nat} (h : FirstMax l n a) (hl : ¬ l.getD a 0 < l.getD n 0) : FirstMax l (n + 1) a := by
  refine ⟨by have := h.1; omega, fun j hj => ?_, h.2.2⟩
  by_cases e : j = n
  · subst e; omega
  · exact h.2.1 j (by omega)
theorem ord_first {rs : List Int} (h0 : ∀ x ∈ rs, 0 ≤ x) {k a : Nat} (hk : k < rs.length) (h : FirstMax (mark rs ((ordL rs).take k)) rs.length a) : (ordL rs)[k]? = some a := by
  have hkl : k < (ordL rs).length := by rw [ordL_len]; exact hk
  rw [List.getElem?_eq_getElem hkl]
  have hpw := ordL_prec rs
  have hnd := ordL_nodup rs
  have hml : (ordL rs)[k] < rs.length := ordL_mem.1 (List.getElem_mem hkl)
  have hsp : ordL rs = (ordL rs).take k ++ (ordL rs)[k] :: (ordL rs).drop (k + 1) := by rw [← List.drop_eq_getElem_cons hkl, List.take_append_drop]
  generalize hm : (ordL rs)[k] = m at *
  generalize hT : (ordL rs).take k = T at *
  generalize hD : (ordL rs).drop (k + 1) = D at *
  rw [hsp] at hpw hnd
  have hmT : ¬ m ∈ T := fun hx => (List.nodup_append.1 hnd).2.2 m hx m (by simp) rfl
  have hall : ∀ j, j < rs.length → j ∈ T ∨ j = m ∨ j ∈ D := fun j hj => by
    have := ordL_mem.2 hj
    rw [hsp] at this
    simpa using this
  have hg0 : 0 ≤ rs.getD m 0 := by
    rw [List.getD_eq_getElem?_getD, List.getElem?_eq_getElem hml]; exact h0 _ (List.getElem_mem hml)
  have e1 := mark_out (l := rs) hmT
  congr 1
  apply Classical.byContradiction
  intro hne
  have g1 := h.2.1 m hml
  have g2 := h.2.2 m
  rcases hall a h.1 with ha | ha | ha
  · have e2 := mark_in (l := rs) h.1 (.inl ha)
    omega
  · exact hne ha.symm
  · have hp : prec rs m a = true := (List.pairwise_cons.1 (List.pairwise_append.1 hpw).2.1).1 a ha
    have haT : ¬ a ∈ T := fun hx => (List.nodup_append.1 hnd).2.2 a hx a (by simp [ha]) rfl
    have e2 := mark_out (l := rs) haT
    rw [prec_iff] at hp
    omega
theorem bump_sum (l : List Int) : ∀ (is : List Nat), (∀ i ∈ is, i < l.length) → (bump l is).sum = l.sum + is.length := by
  intro is
  induction is generalizing l with
  | nil => intro _; simp [bump]
  | cons i is ih =>
    intro h
    rw [bump, ih _ (fun j hj => by have := h j (by simp [hj]); simpa using this)]
    have hi := h i (by simp)
    have key : ∀ (l : List Int) (i : Nat), i < l.length → (l.set i (l.getD i 0 + 1)).sum = l.sum + 1 := by
      intro l
      induction l with
      | nil => intro i h; simp at h
      | cons a l ih =>
        intro i h
        cases i with
        | zero => simp; omega
        | succ i => simp only [List.set_cons_succ, List.sum_cons, List.getD_cons_succ]; rw [ih i (by simpa using h)]; omega
    rw [key l i hi]
    simp; omega
theorem quos_len (t S : Int) (ws : List Int) : (quos t S ws).length = ws.length := by simp [quos]
theorem rems_len (t S : Int) (ws : List Int) : (rems t S ws).length = ws.length := by simp [rems]
theorem splitL_len (t : Int) (ws : List Int) : (splitL t ws).length = ws.length := by rw [splitL, bump_len, quos_len]
theorem okU_all {l : List Int} (h : l.all okU = true) {x : Int} (hx : x ∈ l) : 0 ≤ x ∧ x ≤ 1099511627776 := okU_iff.1 (List.all_eq_true.1 h x hx)
structure SplitPre (t : Int) (ws : List Int) : Prop where
  t0 : 0 ≤ t
  t1 : t ≤ 1099511627776
  w0 : ∀ x ∈ ws, 0 ≤ x ∧ x ≤ 1099511627776
  s0 : 0 < ws.sum
  s1 : ws.sum ≤ 1152921504606846976
theorem splitPre_of {t : Int} {ws : List Int} (h : splitOk t ws = true) : SplitPre t ws := by
  simp only [splitOk, Bool.and_eq_true, decide_eq_true_eq] at h
  obtain ⟨h1, h2, h3, h4⟩ := h
  exact ⟨(okU_iff.1 h1).1, (okU_iff.1 h1).2, fun x hx => okU_all h2 hx, h3, h4⟩
theorem splitOk_of {t : Int} {ws : List Int} (h : SplitPre t ws) : splitOk t ws = true := by
  simp only [splitOk, Bool.and_eq_true, decide_eq_true_eq, List.all_eq_true]
  exact ⟨okU_iff.2 ⟨h.t0, h.t1⟩, fun x hx => okU_iff.2 (h.w0 x hx), h.s0, h.s1⟩
theorem splitL_sum {t : Int} {ws : List Int} (h : SplitPre t ws) : (splitL t ws).sum = t := by
  have hl := left_le (t := t) h.s0
  have hf := (left_facts (t := t) h.s0).1
  rw [splitL, bump_sum _ _ (fun i hi => by
    have := ordL_mem.1 (List.mem_of_mem_take hi)
    rw [rems_len] at this; rw [quos_len]; exact this)]
  rw [List.length_take, ordL_len, rems_len, Nat.min_eq_left hl]
  unfold leftS; omega
/-- the part at a place: its quota, and one more where it is among the first -/
theorem splitL_get {t : Int} {ws : List Int} {i : Nat} (hi : i < ws.length) :
    (splitL t ws).getD i 0 = t * ws.getD i 0 / ws.sum + (if i ∈ (ordL (rems t ws.sum ws)).take (leftS t ws.sum ws) then 1 else 0) := by
  rw [splitL, bump_get _ _ ((ordL_nodup _).sublist (List.take_sublist _ _)) _ (by rw [quos_len]; exact hi)]
  congr 1
  simp [quos, List.getD_eq_getElem?_getD, List.getElem?_eq_getElem hi]
theorem rems_get {t S : Int} {ws : List Int} {i : Nat} (hi : i < ws.length) : (rems t S ws).getD i 0 = t * ws.getD i 0 % S := by
  simp [rems, List.getD_eq_getElem?_getD, List.getElem?_eq_getElem hi]
/-- a place that gets one more has a rest -/
theorem chosen_pos {t : Int} {ws : List Int} (hS : 0 < ws.sum) {i : Nat} (hi : i ∈ (ordL (rems t ws.sum ws)).take (leftS t ws.sum ws)) : 0 < t * ws.getD i 0 % ws.sum := by
  have := first_pos (left_facts (t := t) hS).2 hi
  have hl := ordL_mem.1 (List.mem_of_mem_take hi)
  rw [rems_len] at hl
  rwa [rems_get hl] at this
/-- a place that gets one more has no less rest than one that does not -/
theorem chosen_more {rs : List Int} {m i j : Nat} (hi : i ∈ (ordL rs).take m) (hj : j < rs.length) (hn : ¬ j ∈ (ordL rs).take m) : prec rs i j = true := by
  have hp := ordL_prec rs
  rw [← List.take_append_drop m (ordL rs), List.pairwise_append] at hp
  refine hp.2.2 i hi j ?_
  have := ordL_mem.2 hj
  rw [← List.take_append_drop m (ordL rs), List.mem_append] at this
  exact this.resolve_left hn
theorem part_le {t x S : Int} (ht : 0 ≤ t) (hx : x ≤ S) (hS : 0 < S) : t * x / S ≤ t := by
  have h1 : t * x ≤ t * S := Int.mul_le_mul_of_nonneg_left hx ht
  have := Int.ediv_le_ediv hS h1
  rwa [Int.mul_ediv_cancel _ (by omega)] at this
/-- below the quota rounded up -/
theorem splitL_quota {t : Int} {ws : List Int} (h : SplitPre t ws) {i : Nat} (hi : i < ws.length) :
    t * ws.getD i 0 / ws.sum ≤ (splitL t ws).getD i 0 ∧ (splitL t ws).getD i 0 ≤ t * ws.getD i 0 / ws.sum + (if 0 < t * ws.getD i 0 % ws.sum then 1 else 0) := by
  rw [splitL_get hi]
  by_cases hc : i ∈ (ordL (rems t ws.sum ws)).take (leftS t ws.sum ws)
  · have := chosen_pos h.s0 hc
    rw [if_pos hc, if_pos this]; omega
  · rw [if_neg hc]; split <;> omega
theorem getD_mem {l : List Int} {i : Nat} (hi : i < l.length) : l.getD i 0 ∈ l := by
  rw [List.getD_eq_getElem?_getD, List.getElem?_eq_getElem hi]; exact List.getElem_mem hi
theorem ceil_le {t x S : Int} (ht : 0 ≤ t) (hx : x ≤ S) (hS : 0 < S) (hr : 0 < t * x % S) : t * x / S + 1 ≤ t := by
  have h1 : t * x ≤ t * S := Int.mul_le_mul_of_nonneg_left hx ht
  have h2 := Int.mul_ediv_add_emod (t * x) S
  have : t * x / S < t := by
    rcases Int.lt_or_le (t * x / S) t with h | h
    · exact h
    · have := Int.mul_le_mul_of_nonneg_left h (show 0 ≤ S by omega)
      rw [Int.mul_comm S t] at this; omega
  omega
theorem splitL_range {t : Int} {ws : List Int} (h : SplitPre t ws) : ∀ x ∈ splitL t ws, 0 ≤ x ∧ x ≤ t := by
  intro x hx
  obtain ⟨i, hi, rfl⟩ := List.getElem_of_mem hx
  rw [splitL_len] at hi
  have hg : (splitL t ws)[i] = (splitL t ws).getD i 0 := by rw [List.getD_eq_getElem?_getD, List.getElem?_eq_getElem (by rw [splitL_len]; exact hi)]; rfl
  rw [hg]
  have hq := splitL_quota h hi
  have hm := getD_mem hi
  have hw := h.w0 _ hm
  have hs := le_sum (fun x hx => (h.w0 x hx).1) hm
  have h0 := Int.ediv_nonneg (Int.mul_nonneg h.t0 hw.1) (Int.le_of_lt h.s0)
  refine ⟨by omega, ?_⟩
  by_cases hr : 0 < t * ws.getD i 0 % ws.sum
  · rw [if_pos hr] at hq
    have := ceil_le h.t0 hs h.s0 hr
    omega
  · rw [if_neg hr] at hq
    have := part_le h.t0 hs h.s0
    omega

/-- multiples of the weights -/
theorem sum_mul (k : Int) (ws : List Int) : (ws.map (k * ·)).sum = k * ws.sum := by
  induction ws with
  | nil => simp
  | cons a l ih => simp only [List.map_cons, List.sum_cons, ih]; grind
theorem splitL_scale {t k : Int} {ws : List Int} (hk : 0 < k) : splitL t (ws.map (k * ·)) = splitL t ws := by
  have hs := sum_mul k ws
  have hq : quos t (k * ws.sum) (ws.map (k * ·)) = quos t ws.sum ws := by
    simp only [quos, List.map_map]
    refine List.map_congr_left fun x _ => ?_
    show t * (k * x) / (k * ws.sum) = _
    rw [show t * (k * x) = k * (t * x) by grind, Int.mul_ediv_mul_of_pos _ _ hk]
  have hr : rems t (k * ws.sum) (ws.map (k * ·)) = (rems t ws.sum ws).map (k * ·) := by
    simp only [rems, List.map_map]
    refine List.map_congr_left fun x _ => ?_
    show t * (k * x) % (k * ws.sum) = k * _
    rw [show t * (k * x) = k * (t * x) by grind, Int.mul_emod_mul_of_pos _ _ hk]
  have ho : ∀ rs : List Int, ordL (rs.map (k * ·)) = ordL rs := by
    intro rs
    have hp : ∀ i j, prec (rs.map (k * ·)) i j = prec rs i j := by
      intro i j
      have hg : ∀ i, (rs.map (k * ·)).getD i 0 = k * rs.getD i 0 := by
        intro i
        simp only [List.getD_eq_getElem?_getD, List.getElem?_map]
        cases rs[i]? <;> simp
      rw [Bool.eq_iff_iff, prec_iff, prec_iff, hg, hg]
      generalize rs.getD i 0 = a
      generalize rs.getD j 0 = b
      have e1 : k * b < k * a ↔ b < a := Int.mul_lt_mul_left hk
      have e2 : k * a = k * b ↔ a = b := ⟨fun h => Int.eq_of_mul_eq_mul_left (by omega) h, fun h => by rw [h]⟩
      rw [e1, e2]
    simp only [ordL, List.length_map, hp]
  have hl : leftS t (k * ws.sum) (ws.map (k * ·)) = leftS t ws.sum ws := by unfold leftS; rw [hq]
  unfold splitL
  rw [hs, hq, hr, ho, hl]
/-- a greater weight does not get less -/
theorem splitL_mono {t : Int} {ws : List Int} (h : SplitPre t ws) {i j : Nat} (hi : i < ws.length) (hj : j < ws.length) (hw : ws.getD j 0 < ws.getD i 0) : (splitL t ws).getD j 0 ≤ (splitL t ws).getD i 0 := by
  rw [splitL_get hi, splitL_get hj]
  have h1 : t * ws.getD j 0 ≤ t * ws.getD i 0 := Int.mul_le_mul_of_nonneg_left (by omega) h.t0
  have h2 := Int.ediv_le_ediv h.s0 h1
  by_cases hc : j ∈ (ordL (rems t ws.sum ws)).take (leftS t ws.sum ws)
  · by_cases hd : i ∈ (ordL (rems t ws.sum ws)).take (leftS t ws.sum ws)
    · rw [if_pos hc, if_pos hd]; omega
    · rw [if_pos hc, if_neg hd]
      have hp := chosen_more hc (by rw [rems_len]; exact hi) hd
      have hpos := chosen_pos h.s0 hc
      rw [prec_iff, rems_get hi, rems_get hj] at hp
      have e1 := Int.mul_ediv_add_emod (t * ws.getD i 0) ws.sum
      have e2 := Int.mul_ediv_add_emod (t * ws.getD j 0) ws.sum
      have ht : 0 < t := by
        rcases Int.lt_or_le 0 t with h' | h'
        · exact h'
        · have : t = 0 := by have := h.t0; omega
          rw [this] at hpos; simp at hpos
      have h3 : t * ws.getD j 0 < t * ws.getD i 0 := Int.mul_lt_mul_of_pos_left hw ht
      have : t * ws.getD j 0 / ws.sum ≠ t * ws.getD i 0 / ws.sum := by
        intro e
        rw [e] at e2
        omega
      omega
  · rw [if_neg hc]
    split <;> omega
def farB (a b : Int) : Int := if a < b then b - a else a - b
/-- moving one does not bring both nearer -/
theorem splitL_best {t : Int} {ws : List Int} (h : SplitPre t ws) {i j : Nat} (hi : i < ws.length) (hj : j < ws.length) :
    ¬ farB (((splitL t ws).getD i 0 - 1) * ws.sum) (t * ws.getD i 0) + farB (((splitL t ws).getD j 0 + 1) * ws.sum) (t * ws.getD j 0) < farB ((splitL t ws).getD i 0 * ws.sum) (t * ws.getD i 0) + farB ((splitL t ws).getD j 0 * ws.sum) (t * ws.getD j 0) := by
  rw [splitL_get hi, splitL_get hj]
  have e1 := Int.mul_ediv_add_emod (t * ws.getD i 0) ws.sum
  have e2 := Int.mul_ediv_add_emod (t * ws.getD j 0) ws.sum
  have m1 := Int.emod_nonneg (t * ws.getD i 0) (show ws.sum ≠ 0 by have := h.s0; omega)
  have m2 := Int.emod_nonneg (t * ws.getD j 0) (show ws.sum ≠ 0 by have := h.s0; omega)
  have n1 := Int.emod_lt_of_pos (t * ws.getD i 0) h.s0
  have n2 := Int.emod_lt_of_pos (t * ws.getD j 0) h.s0
  have hmore := fun hc hd => chosen_more (rs := rems t ws.sum ws) (m := leftS t ws.sum ws) (i := i) (j := j) hc (by rw [rems_len]; exact hj) hd
  have hgi := rems_get (t := t) (S := ws.sum) hi
  have hgj := rems_get (t := t) (S := ws.sum) hj
  simp only [prec_iff, hgi, hgj] at hmore
  generalize t * ws.getD i 0 = a at *
  generalize t * ws.getD j 0 = b at *
  generalize ws.sum = S at *
  generalize a / S = qa at *
  generalize b / S = qb at *
  generalize a % S = ra at *
  generalize b % S = rb at *
  have x1 : ∀ c : Int, (qa + c - 1) * S = S * qa + c * S - S := by intro c; grind
  have x2 : ∀ c : Int, (qb + c + 1) * S = S * qb + c * S + S := by intro c; grind
  have x3 : ∀ c : Int, (qa + c) * S = S * qa + c * S := by intro c; grind
  have x4 : ∀ c : Int, (qb + c) * S = S * qb + c * S := by intro c; grind
  rw [x1, x2, x3, x4]
  unfold farB
  by_cases hc : i ∈ (ordL (rems t S ws)).take (leftS t S ws)
  · by_cases hd : j ∈ (ordL (rems t S ws)).take (leftS t S ws)
    · rw [if_pos hc, if_pos hd, Int.one_mul]; split <;> split <;> split <;> split <;> omega
    · have hm := hmore hc hd
      rw [if_pos hc, if_neg hd, Int.one_mul, Int.zero_mul]; split <;> split <;> split <;> split <;> omega
  · by_cases hd : j ∈ (ordL (rems t S ws)).take (leftS t S ws)
    · rw [if_neg hc, if_pos hd, Int.one_mul, Int.zero_mul]; split <;> split <;> split <;> split <;> omega
    · rw [if_neg hc, if_neg hd, Int.zero_mul]; split <;> split <;> split <;> split <;> omega
/-- what was split is split in the same way again -/
theorem splitL_again {t : Int} {xs : List Int} (h0 : 0 < t) (hs : xs.sum = t) : splitL t xs = xs := by
  have hq : quos t xs.sum xs = xs := by
    rw [quos, hs]
    conv => rhs; rw [← List.map_id xs]
    refine List.map_congr_left fun x _ => ?_
    rw [Int.mul_ediv_cancel_left _ (by omega)]; rfl
  have hl : leftS t xs.sum xs = 0 := by unfold leftS; rw [hq, hs]; simp
  rw [splitL, hl, hq]; rfl
end Go.Proofs.Ytbpfdogjjoceaaa
