/- Lemmas of the claim, joined: WA WB WP WD WE. No condition. -/
import Derived.Test.YtgbamgijpgjmgaaBA
import Derived.Test.YtgbamgijpgjmgaaBB
/- The model's sets of lots in plain words: insert, subtract. -/
namespace Go.Proofs.Ytgbamgijpgjmgaa

/-! insert -/
structure InsSt where
  b : List Lt
  a : List Lt
  f : Int
  t : Int
def insStep (l : Lt) (st : InsSt) (x : Lt) : InsSt :=
  if x.1 < l.1 ∨ (x.1 = l.1 ∧ x.2.1 + x.2.2 < st.f) then { st with b := st.b ++ [x] }
  else if l.1 < x.1 ∨ st.t < x.2.1 then { st with a := st.a ++ [x] }
  else { st with f := min st.f x.2.1, t := max st.t (x.2.1 + x.2.2) }
def insF (s : List Lt) (l : Lt) : InsSt := s.foldl (insStep l) ⟨[], [], l.2.1, l.2.1 + l.2.2⟩
def insM (s : List Lt) (l : Lt) : List Lt := (insF s l).b ++ [(l.1, (insF s l).f, (insF s l).t - (insF s l).f)] ++ (insF s l).a
theorem insF_snoc (s : List Lt) (l x : Lt) : insF (s ++ [x]) l = insStep l (insF s l) x := by unfold insF; rw [List.foldl_append]; rfl
theorem insF_nil (l : Lt) : insF [] l = ⟨[], [], l.2.1, l.2.1 + l.2.2⟩ := rfl

theorem canon_mid {b a : List Lt} {m : Lt} : Canon (b ++ [m] ++ a) ↔ (∀ x ∈ b ++ [m] ++ a, 1 ≤ x.2.2) ∧ b.Pairwise gapL ∧ a.Pairwise gapL ∧ (∀ x ∈ b, gapL x m) ∧ (∀ y ∈ a, gapL m y) ∧ ∀ x ∈ b, ∀ y ∈ a, gapL x y := by
  constructor
  · intro h
    refine ⟨h.pos, ?_⟩
    have h1 := List.pairwise_append.1 h.gap
    have h2 := List.pairwise_append.1 h1.1
    exact ⟨h2.1, h1.2.1, fun x hx => h2.2.2 x hx m (by simp), fun y hy => h1.2.2 m (by simp) y hy, fun x hx y hy => h1.2.2 x (by simp [hx]) y hy⟩
  · rintro ⟨h0, h1, h2, h3, h4, h5⟩
    refine ⟨h0, List.pairwise_append.2 ⟨List.pairwise_append.2 ⟨h1, by simp, fun x hx y hy => ?_⟩, h2, fun x hx y hy => ?_⟩⟩
    · rw [List.mem_singleton] at hy; subst hy; exact h3 x hx
    · rcases List.mem_append.1 hx with hx | hx
      · exact h5 x hx y hy
      · rw [List.mem_singleton] at hx; subst hx; exact h4 y hy
structure InsInv (p : List Lt) (l : Lt) (st : InsSt) : Prop where
  can : Canon (st.b ++ [(l.1, st.f, st.t - st.f)] ++ st.a)
  sub : ∀ y, y ∈ st.b ∨ y ∈ st.a → y ∈ p
  lt : st.f < st.t
  un : ∀ u, u ∈ U (st.b ++ [(l.1, st.f, st.t - st.f)] ++ st.a) ↔ u ∈ U p ∨ u ∈ ul l
theorem mem_U3 (b a : List Lt) (m : Lt) (u : Un) : u ∈ U (b ++ [m] ++ a) ↔ u ∈ U b ∨ u ∈ ul m ∨ u ∈ U a := by
  rw [U_app, U_app, U_one, List.mem_append, List.mem_append, or_assoc]
theorem ins_inv {s : List Lt} {l : Lt} (hs : Canon s) (hl : 1 ≤ l.2.2) : ∀ p q, s = p ++ q → InsInv p l (insF p l) := by
  intro p
  obtain ⟨k, hk⟩ : ∃ k, p.length = k := ⟨_, rfl⟩
  induction k generalizing p with
  | zero =>
    intro q _
    obtain rfl := List.eq_nil_of_length_eq_zero hk
    rw [insF_nil]
    refine ⟨?_, by simp, by simp only; omega, fun u => ?_⟩
    · simp only [List.nil_append, List.append_nil]
      exact canon_one (by simp only; omega)
    · simp only [List.nil_append, List.append_nil, U_one, U_nil, List.not_mem_nil, false_or]
      rw [mem_ul, mem_ul]
      simp only
      omega
  | succ k ih =>
    intro q hq
    rcases snoc_cases p with rfl | ⟨r, x, rfl⟩
    · simp at hk
    · have hr : r.length = k := by simpa using hk
      have hI := ih r hr ([x] ++ q) (by rw [hq]; simp)
      rw [insF_snoc]
      have hgap : ∀ y ∈ r, gapL y x := by
        have := hs.gap
        rw [hq, List.append_assoc] at this
        exact fun y hy => (List.pairwise_append.1 this).2.2 y hy x (by simp)
      have hx : 1 ≤ x.2.2 := hs.pos x (by rw [hq]; simp)
      generalize insF r l = st at hI
      obtain ⟨b, a, f, t⟩ := st
      obtain ⟨h1, h2, h3, h4⟩ := hI
      simp only at h1 h2 h3 h4
      obtain ⟨c0, c1, c2, c3, c4, c5⟩ := canon_mid.1 h1
      have hno : gapL (l.1, f, t - f) x ∨ a = [] := by
        cases a with
        | nil => exact .inr rfl
        | cons y a => exact .inl (gap_trans (c4 y (by simp)) (c0 y (by simp)) (hgap y (h2 y (by simp))))
      have hgb : ∀ y ∈ b, gapL y x := fun y hy => hgap y (h2 y (.inl hy))
      have hga : ∀ y ∈ a, gapL y x := fun y hy => hgap y (h2 y (.inr hy))
      have key : ∀ u, u ∈ U (r ++ [x]) ∨ u ∈ ul l ↔ (u ∈ U b ∨ u ∈ ul (l.1, f, t - f) ∨ u ∈ U a) ∨ u ∈ ul x := fun u => by
        rw [← mem_U3, h4, U_app, U_one, List.mem_append]
        constructor
        · rintro ((h | h) | h) <;> simp [h]
        · rintro ((h | h) | h) <;> simp [h]
      unfold insStep
      simp only
      by_cases t1 : x.1 < l.1 ∨ (x.1 = l.1 ∧ x.2.1 + x.2.2 < f)
      · rw [if_pos t1]
        have ha : a = [] := hno.resolve_left (fun h => by unfold gapL at h; simp only at h; omega)
        subst ha
        have hxm : gapL x (l.1, f, t - f) := by unfold gapL; simp only; omega
        refine ⟨canon_mid.2 ⟨fun y hy => ?_, List.pairwise_append.2 ⟨c1, by simp, fun y hy z hz => ?_⟩, List.Pairwise.nil, fun y hy => ?_, by simp, by simp⟩, fun y hy => ?_, h3, fun u => ?_⟩
        · simp only [List.append_nil, List.mem_append, List.mem_singleton] at hy
          rcases hy with (hy | rfl) | rfl
          · exact c0 y (by simp [hy])
          · exact hx
          · simp only; omega
        · rw [List.mem_singleton] at hz; subst hz; exact hgb y hy
        · rcases List.mem_append.1 hy with hy | hy
          · exact c3 y hy
          · rw [List.mem_singleton] at hy; subst hy; exact hxm
        · rcases hy with hy | hy
          · rcases List.mem_append.1 hy with hy | hy
            · exact List.mem_append_left _ (h2 y (.inl hy))
            · exact List.mem_append_right _ hy
          · cases hy
        · rw [mem_U3, key]
          simp only [U_app, U_one, List.mem_append]
          constructor
          · rintro ((h | h) | h | h) <;> simp [h]
          · rintro ((h | h | h) | h) <;> simp [h]
      · rw [if_neg t1]
        by_cases t2 : l.1 < x.1 ∨ t < x.2.1
        · rw [if_pos t2]
          have hmx : gapL (l.1, f, t - f) x := by unfold gapL; simp only; omega
          refine ⟨canon_mid.2 ⟨fun y hy => ?_, c1, List.pairwise_append.2 ⟨c2, by simp, fun y hy z hz => ?_⟩, c3, fun y hy => ?_, fun y hy z hz => ?_⟩, fun y hy => ?_, h3, fun u => ?_⟩
          · simp only [List.mem_append, List.mem_singleton] at hy
            rcases hy with (hy | rfl) | hy | rfl
            · exact c0 y (by simp [hy])
            · simp only; omega
            · exact c0 y (by simp [hy])
            · exact hx
          · rw [List.mem_singleton] at hz; subst hz; exact hga y hy
          · rcases List.mem_append.1 hy with hy | hy
            · exact c4 y hy
            · rw [List.mem_singleton] at hy; subst hy; exact hmx
          · rcases List.mem_append.1 hz with hz | hz
            · exact c5 y hy z hz
            · rw [List.mem_singleton] at hz; subst hz; exact hgb y hy
          · rcases hy with hy | hy
            · exact List.mem_append_left _ (h2 y (.inl hy))
            · rcases List.mem_append.1 hy with hy | hy
              · exact List.mem_append_left _ (h2 y (.inr hy))
              · exact List.mem_append_right _ hy
          · rw [mem_U3, key]
            simp only [U_app, U_one, List.mem_append]
            constructor
            · rintro (h | h | h | h) <;> simp [h]
            · rintro ((h | h | h) | h) <;> simp [h]
        · rw [if_neg t2]
          have ha : a = [] := hno.resolve_left (fun h => by unfold gapL at h; simp only at h; omega)
          subst ha
          refine ⟨canon_mid.2 ⟨fun y hy => ?_, c1, List.Pairwise.nil, fun y hy => ?_, by simp, by simp⟩, fun y hy => List.mem_append_left _ (h2 y hy), by simp only; omega, fun u => ?_⟩
          · simp only [List.append_nil, List.mem_append, List.mem_singleton] at hy
            rcases hy with hy | rfl
            · exact c0 y (by simp [hy])
            · simp only; omega
          · have e1 := c3 y hy
            have e2 := hgb y hy
            unfold gapL at *
            simp only at *
            omega
          · rw [mem_U3, key]
            have e : u ∈ ul (l.1, min f x.2.1, max t (x.2.1 + x.2.2) - min f x.2.1) ↔ u ∈ ul (l.1, f, t - f) ∨ u ∈ ul x := by
              rw [mem_ul, mem_ul, mem_ul]
              simp only
              omega
            rw [e]
            simp only [U_nil, List.not_mem_nil, or_false]
            rw [or_assoc]
theorem insM_set {s : List Lt} {l : Lt} {z : List Lt} (hs : Canon s) (hl : 1 ≤ l.2.2) (hz : ∀ u, u ∈ U s ∨ u ∈ ul l ↔ u ∈ U z) : insM s l = setS z := by
  have h := ins_inv hs hl s [] (by simp)
  exact h.can.eq_set fun u => (h.un u).trans (hz u)
/-- ranges and lengths along the way -/
theorem ins_facts (l : Lt) (hl : possB l = true) : ∀ p : List Lt, (∀ x ∈ p, possB x = true) → (∀ x ∈ (insF p l).b, possB x = true) ∧ (∀ x ∈ (insF p l).a, possB x = true) ∧ 0 ≤ (insF p l).f ∧ (insF p l).f < (insF p l).t ∧ (insF p l).t ≤ 1099511627776 ∧
    (insF p l).b.length + (insF p l).a.length ≤ p.length := by
  intro p
  obtain ⟨k, hk⟩ : ∃ k, p.length = k := ⟨_, rfl⟩
  have hl' := possB_iff.1 hl
  induction k generalizing p with
  | zero =>
    intro _
    obtain rfl := List.eq_nil_of_length_eq_zero hk
    rw [insF_nil]
    refine ⟨by simp, by simp, ?_, ?_, ?_, by simp⟩ <;> (simp only; omega)
  | succ k ih =>
    intro hp
    rcases snoc_cases p with rfl | ⟨r, x, rfl⟩
    · simp at hk
    · have hr : r.length = k := by simpa using hk
      obtain ⟨h1, h2, h3, h4, h5, h6⟩ := ih r hr (fun y hy => hp y (List.mem_append_left _ hy))
      have hx0 := hp x (by simp)
      have hx := possB_iff.1 hx0
      rw [insF_snoc]
      unfold insStep
      split
      · refine ⟨fun y hy => ?_, h2, h3, h4, h5, by simp only [List.length_append, List.length_singleton]; omega⟩
        rcases List.mem_append.1 hy with hy | hy
        · exact h1 y hy
        · rw [List.mem_singleton] at hy; subst hy; exact hx0
      · split
        · refine ⟨h1, fun y hy => ?_, h3, h4, h5, by simp only [List.length_append, List.length_singleton]; omega⟩
          rcases List.mem_append.1 hy with hy | hy
          · exact h2 y hy
          · rw [List.mem_singleton] at hy; subst hy; exact hx0
        · refine ⟨h1, h2, ?_, ?_, ?_, ?_⟩
          · simp only; omega
          · simp only; omega
          · simp only; omega
          · simp only [List.length_append, List.length_singleton]; omega

/-! subtract -/
def sub1 (x y : Lt) : List Lt :=
  if y.1 ≠ x.1 ∨ x.2.1 + x.2.2 ≤ y.2.1 ∨ y.2.1 + y.2.2 ≤ x.2.1 then [y]
  else (if y.2.1 < x.2.1 then [(x.1, y.2.1, x.2.1 - y.2.1)] else []) ++ (if x.2.1 + x.2.2 < y.2.1 + y.2.2 then [(x.1, x.2.1 + x.2.2, y.2.1 + y.2.2 - x.2.1 - x.2.2)] else [])
def subM (l : List Lt) (x : Lt) : List Lt := l.flatMap (sub1 x)
theorem subM_nil (x : Lt) : subM [] x = [] := rfl
theorem subM_cons (x y : Lt) (l : List Lt) : subM (y :: l) x = sub1 x y ++ subM l x := rfl
theorem subM_snoc (x y : Lt) (l : List Lt) : subM (l ++ [y]) x = subM l x ++ sub1 x y := by simp [subM]
theorem sub1_U {x y : Lt} (hx : 1 ≤ x.2.2) (hy : 0 ≤ y.2.2) : U (sub1 x y) = outU [x] (ul y) := by
  unfold sub1
  by_cases h0 : y.1 ≠ x.1 ∨ x.2.1 + x.2.2 ≤ y.2.1 ∨ y.2.1 + y.2.2 ≤ x.2.1
  · rw [if_pos h0, U_one, (outU_all fun u hu h => ?_).2]
    rw [U_one] at h
    have h1 := mem_ul.1 hu
    have h2 := mem_ul.1 h
    omega
  · rw [if_neg h0]
    obtain ⟨f, a, n⟩ := x
    obtain ⟨g, b, m⟩ := y
    simp only at hx hy h0 ⊢
    have e : g = f := by omega
    subst e
    have hm : ul (g, b, m) = ul (g, b, max 0 (a - b)) ++ (ul (g, b + max 0 (a - b), min (b + m) (a + n) - (b + max 0 (a - b))) ++ ul (g, min (b + m) (a + n), b + m - min (b + m) (a + n))) := by
      rw [ul_cut (k := max 0 (a - b)) (by omega) (by omega)]
      congr 1
      have e1 : b + max 0 (a - b) + (min (b + m) (a + n) - (b + max 0 (a - b))) = min (b + m) (a + n) := by omega
      have e2 : m - max 0 (a - b) - (min (b + m) (a + n) - (b + max 0 (a - b))) = b + m - min (b + m) (a + n) := by omega
      rw [ul_cut (k := min (b + m) (a + n) - (b + max 0 (a - b))) (by omega) (by omega), e1, e2]
    have o1 : outU [(g, a, n)] (ul (g, b, max 0 (a - b))) = ul (g, b, max 0 (a - b)) := (outU_all fun u hu h => by
      rw [U_one] at h
      have h1 := mem_ul.1 hu
      have h2 := mem_ul.1 h
      simp only at h1 h2
      omega).2
    have o2 : outU [(g, a, n)] (ul (g, b + max 0 (a - b), min (b + m) (a + n) - (b + max 0 (a - b)))) = [] := (inU_all fun u hu => by
      rw [U_one]
      have h1 := mem_ul.1 hu
      refine mem_ul.2 ?_
      simp only at h1 ⊢
      omega).2
    have o3 : outU [(g, a, n)] (ul (g, min (b + m) (a + n), b + m - min (b + m) (a + n))) = ul (g, min (b + m) (a + n), b + m - min (b + m) (a + n)) := (outU_all fun u hu h => by
      rw [U_one] at h
      have h1 := mem_ul.1 hu
      have h2 := mem_ul.1 h
      simp only at h1 h2
      omega).2
    rw [hm, outU_app, outU_app, o1, o2, o3, List.nil_append, U_app]
    congr 1
    · by_cases h1 : b < a
      · rw [if_pos h1, U_one, show max 0 (a - b) = a - b by omega]
      · rw [if_neg h1, U_nil, ul_none (by simp only; omega)]
    · by_cases h1 : a + n < b + m
      · rw [if_pos h1, U_one, show min (b + m) (a + n) = a + n by omega, show b + m - (a + n) = b + m - a - n by omega]
      · rw [if_neg h1, U_nil, ul_none (by simp only; omega)]
theorem subM_U {x : Lt} (hx : 1 ≤ x.2.2) (l : List Lt) (hl : ∀ y ∈ l, 0 ≤ y.2.2) : U (subM l x) = outU [x] (U l) := by
  induction l with
  | nil => rfl
  | cons y l ih => rw [subM_cons, U_app, ih (fun z hz => hl z (List.mem_cons_of_mem _ hz)), sub1_U hx (hl y List.mem_cons_self), U_cons, outU_app]
theorem sub1_poss {x y : Lt} (hx : possB x = true) (hy : possB y = true) : ∀ z ∈ sub1 x y, possB z = true := by
  have h1 := possB_iff.1 hx
  have h2 := possB_iff.1 hy
  intro z hz
  unfold sub1 at hz
  split at hz
  · rw [List.mem_singleton] at hz; subst hz; exact hy
  · rcases List.mem_append.1 hz with hz | hz
    · split at hz
      · rw [List.mem_singleton] at hz; subst hz; rw [possB_iff]; simp only; omega
      · cases hz
    · split at hz
      · rw [List.mem_singleton] at hz; subst hz; rw [possB_iff]; simp only; omega
      · cases hz
theorem subM_poss {l : List Lt} {x : Lt} (hx : possB x = true) (hl : ∀ y ∈ l, possB y = true) : ∀ z ∈ subM l x, possB z = true := by
  intro z hz
  obtain ⟨y, hy, hz⟩ := List.mem_flatMap.1 hz
  exact sub1_poss hx (hl y hy) z hz
theorem sub1_len {x y : Lt} : (sub1 x y).length ≤ 1 ∨ ((sub1 x y).length ≤ 2 ∧ (x.1, x.2.1) ∈ ul y) := by
  unfold sub1
  split
  · left; simp
  · rename_i h0
    by_cases h1 : y.2.1 < x.2.1
    · by_cases h2 : x.2.1 + x.2.2 < y.2.1 + y.2.2
      · right
        rw [if_pos h1, if_pos h2]
        refine ⟨by simp, mem_ul.2 ?_⟩
        simp only
        omega
      · left; rw [if_pos h1, if_neg h2]; simp
    · left
      rw [if_neg h1]
      split <;> simp
theorem subM_len {x : Lt} (l : List Lt) (hn : (U l).Nodup) : (subM l x).length ≤ l.length + 1 ∧ (¬ (x.1, x.2.1) ∈ U l → (subM l x).length ≤ l.length) := by
  induction l with
  | nil => simp [subM_nil]
  | cons y l ih =>
    rw [U_cons] at hn
    obtain ⟨n1, n2, n3⟩ := List.nodup_append.1 hn
    obtain ⟨i1, i2⟩ := ih n2
    rw [subM_cons, List.length_append, List.length_cons]
    have hs := sub1_len (x := x) (y := y)
    refine ⟨?_, fun h => ?_⟩
    · rcases hs with hs | ⟨hs, hm⟩
      · omega
      · have := i2 (fun h => n3 _ hm _ h rfl)
        omega
    · rw [U_cons, List.mem_append] at h
      have := i2 (fun h' => h (.inr h'))
      rcases hs with hs | ⟨hs, hm⟩
      · omega
      · exact absurd (.inl hm) h
theorem lt_ne {a b : Un} (h : ltU a b) : a ≠ b := fun e => by subst e; exact ltU_irrefl _ h
theorem ul_nodup (x : Lt) : (ul x).Nodup := List.Pairwise.imp lt_ne (srt_units x.1 x.2.1 x.2.2.toNat)
/-- what is left of a lot when all lots of a list are taken away -/
def subA (y : Lt) (set : List Lt) : List Lt := set.foldl subM [y]
theorem subA_snoc (y x : Lt) (set : List Lt) : subA y (set ++ [x]) = subM (subA y set) x := by unfold subA; rw [List.foldl_append]; rfl
theorem outU_two (s : List Lt) (x : Lt) (us : List Un) : outU [x] (outU s us) = outU (s ++ [x]) us := by
  unfold outU
  rw [List.filter_filter]
  congr 1
  funext u
  have : hasB (s ++ [x]) u = (hasB s u || hasB [x] u) := by unfold hasB; rw [List.any_append]
  rw [this]
  cases hasB s u <;> cases hasB [x] u <;> rfl
theorem outU_none (us : List Un) : outU [] us = us := (outU_all (s := []) (us := us) fun u _ h => by rw [U_nil] at h; cases h).2
theorem subA_facts {y : Lt} (hy : possB y = true) (set : List Lt) (hs : ∀ x ∈ set, possB x = true) : U (subA y set) = outU set (ul y) ∧ (∀ z ∈ subA y set, possB z = true) ∧ (subA y set).length ≤ set.length + 1 := by
  obtain ⟨k, hk⟩ : ∃ k, set.length = k := ⟨_, rfl⟩
  induction k generalizing set with
  | zero =>
    obtain rfl := List.eq_nil_of_length_eq_zero hk
    refine ⟨by show U [y] = _; rw [U_one, outU_none], fun z hz => ?_, by show [y].length ≤ _; simp⟩
    have : z ∈ [y] := hz
    rw [List.mem_singleton] at this; subst this; exact hy
  | succ k ih =>
    rcases snoc_cases set with rfl | ⟨r, x, rfl⟩
    · simp at hk
    · have hr : r.length = k := by simpa using hk
      obtain ⟨h1, h2, h3⟩ := ih r (fun z hz => hs z (List.mem_append_left _ hz)) hr
      have hx := hs x (by simp)
      have hx1 := (possB_iff.1 hx).2.2.2.1
      rw [subA_snoc]
      refine ⟨by rw [subM_U hx1 _ (fun z hz => by have := (possB_iff.1 (h2 z hz)).2.2.2.1; omega), h1, outU_two], subM_poss hx h2, ?_⟩
      have hn : (U (subA y r)).Nodup := by rw [h1]; exact (ul_nodup y).filter _
      have := (subM_len (x := x) _ hn).1
      rw [List.length_append, List.length_singleton]
      omega
/-- the model's Without: what is left of all lots, put together -/
def wouM (s set : List Lt) : List Lt := s.foldl (fun o y => putL o (subA y set)) []
theorem wouM_snoc (s set : List Lt) (y : Lt) : wouM (s ++ [y]) set = putL (wouM s set) (subA y set) := by unfold wouM; rw [List.foldl_append]; rfl
theorem putL_len (l s : List Lt) : (putL s l).length ≤ s.length + l.length := by
  induction l generalizing s with
  | nil => simp [putL]
  | cons x l ih =>
    have h1 := ih (addL s x)
    have h2 := add_len s x
    rw [putL_cons, List.length_cons]
    omega
theorem putL_poss {s l : List Lt} (hs : ∀ x ∈ s, possB x = true) (hl : ∀ x ∈ l, possB x = true) : ∀ x ∈ putL s l, possB x = true := by
  induction l generalizing s with
  | nil => exact hs
  | cons y l ih =>
    rw [putL_cons]
    exact ih (poss_add hs fun _ => hl y List.mem_cons_self) fun z hz => hl z (List.mem_cons_of_mem _ hz)
theorem wouM_facts (s set : List Lt) (hs : ∀ x ∈ s, possB x = true) (hset : ∀ x ∈ set, possB x = true) : wouM s set = glue (outU set (U s)) ∧ (∀ z ∈ wouM s set, possB z = true) ∧ (wouM s set).length ≤ s.length * (set.length + 1) := by
  obtain ⟨k, hk⟩ : ∃ k, s.length = k := ⟨_, rfl⟩
  induction k generalizing s with
  | zero =>
    obtain rfl := List.eq_nil_of_length_eq_zero hk
    exact ⟨rfl, (by intro z hz; cases hz), Nat.zero_le _⟩
  | succ k ih =>
    rcases snoc_cases s with rfl | ⟨r, y, rfl⟩
    · simp at hk
    · have hr : r.length = k := by simpa using hk
      obtain ⟨h1, h2, h3⟩ := ih r (fun z hz => hs z (List.mem_append_left _ hz)) hr
      obtain ⟨a1, a2, a3⟩ := subA_facts (hs y (by simp)) set hset
      rw [wouM_snoc]
      refine ⟨?_, putL_poss h2 a2, ?_⟩
      · rw [h1, putL_eq (glue_glued _) (fun x hx => by have := (possB_iff.1 (a2 x hx)).2.2.2.1; omega), U_glue, a1, U_app, U_one, outU_app]
      · have := putL_len (subA y set) (wouM r set)
        rw [List.length_append, List.length_singleton, Nat.add_mul, Nat.one_mul]
        omega
end Go.Proofs.Ytgbamgijpgjmgaa
/- Sets of lots: what the operations give, in plain words; how many units and lots. -/
namespace Go.Proofs.Ytgbamgijpgjmgaa

theorem insM_poss {s : List Lt} {l : Lt} (hp : ∀ x ∈ s, possB x = true) (hl : possB l = true) : ∀ x ∈ insM s l, possB x = true := by
  obtain ⟨h1, h2, h3, h4, h5, h6⟩ := ins_facts l hl s hp
  have hl' := possB_iff.1 hl
  intro x hx
  unfold insM at hx
  simp only [List.mem_append, List.mem_singleton] at hx
  rcases hx with (hx | rfl) | hx
  · exact h1 x hx
  · rw [possB_iff]; simp only; omega
  · exact h2 x hx
theorem insM_len {s : List Lt} {l : Lt} (hp : ∀ x ∈ s, possB x = true) (hl : possB l = true) : (insM s l).length ≤ s.length + 1 := by
  obtain ⟨h1, h2, h3, h4, h5, h6⟩ := ins_facts l hl s hp
  unfold insM
  simp only [List.length_append, List.length_singleton]
  omega
theorem setP (l : List Lt) (hl : ∀ x ∈ l, possB x = true) : Canon (setS l) ∧ (setS l).length ≤ l.length ∧ (∀ x ∈ setS l, possB x = true) ∧ l.foldl insM [] = setS l := by
  obtain ⟨k, hk⟩ : ∃ k, l.length = k := ⟨_, rfl⟩
  induction k generalizing l with
  | zero =>
    obtain rfl := List.eq_nil_of_length_eq_zero hk
    exact ⟨Canon.nil, Nat.zero_le _, (by intro x hx; cases hx), rfl⟩
  | succ k ih =>
    rcases snoc_cases l with rfl | ⟨r, x, rfl⟩
    · simp at hk
    · have hr : r.length = k := by simpa using hk
      obtain ⟨h1, h2, h3, h4⟩ := ih r (fun y hy => hl y (List.mem_append_left _ hy)) hr
      have hx := hl x (by simp)
      have hx1 := (possB_iff.1 hx).2.2.2.1
      have e : insM (setS r) x = setS (r ++ [x]) := insM_set h1 hx1 fun u => by rw [mem_setS, U_app, U_one, List.mem_append]
      have hc := (ins_inv h1 hx1 (setS r) [] (by simp)).can
      have hc : Canon (insM (setS r) x) := hc
      rw [← e]
      refine ⟨hc, ?_, insM_poss h3 hx, ?_⟩
      · have := insM_len h3 hx
        rw [List.length_append, List.length_singleton]
        omega
      · rw [List.foldl_append, h4]; rfl
theorem foldl_ins_from (a b : List Lt) (ha : ∀ x ∈ a, possB x = true) (hb : ∀ x ∈ b, possB x = true) : b.foldl insM (setS a) = setS (a ++ b) := by
  rw [← (setP a ha).2.2.2, ← List.foldl_append]
  exact (setP (a ++ b) (fun x hx => by rcases List.mem_append.1 hx with hx | hx; exact ha x hx; exact hb x hx)).2.2.2
theorem glue_poss' {us : List Un} (h : ∀ u ∈ us, 0 ≤ u.1 ∧ 0 ≤ u.2 ∧ u.2 < 1099511627776) : ∀ x ∈ glue us, possB x = true := fun x hx => by
  have hg := (glue_glued us).mem x hx
  have hu : ∀ u ∈ ul x, u ∈ us := fun u hu => by rw [← U_glue us]; exact mem_U.2 ⟨x, hx, hu⟩
  have h1 := h (x.1, x.2.1) (hu _ (mem_ul.2 ⟨rfl, by simp only; omega, by simp only; omega⟩))
  have h2 := h (x.1, x.2.1 + x.2.2 - 1) (hu _ (mem_ul.2 ⟨rfl, by simp only; omega, by simp only; omega⟩))
  simp only at h1 h2
  rw [possB_iff]
  omega
theorem U_range' {l : List Lt} (hl : ∀ x ∈ l, possB x = true) : ∀ u ∈ U l, 0 ≤ u.1 ∧ 0 ≤ u.2 ∧ u.2 < 1099511627776 := fun u hu => by
  obtain ⟨x, hx, hu⟩ := mem_U.1 hu
  have h1 := possB_iff.1 (hl x hx)
  have h2 := mem_ul.1 hu
  omega
theorem sortU_id {us : List Un} (h : Srt us) : sortU us = us := srt_ext (srt_sortU us) h fun _ => mem_sortU
theorem glue_setS {us : List Un} (h : Srt us) : setS (glue us) = glue us := by rw [setS, U_glue, sortU_id h]
theorem canon_setS {s : List Lt} (h : Canon s) : setS s = s := (h.eq_set fun _ => Iff.rfl).symm
theorem glue_canon {us : List Un} (h : Srt us) (hr : ∀ u ∈ us, 0 ≤ u.1 ∧ 0 ≤ u.2 ∧ u.2 < 1099511627776) : Canon (glue us) := by
  rw [← glue_setS h]
  exact (setP _ (glue_poss' hr)).1
/-- two sets of the same units are the same -/
theorem glue_srt_ext {a b : List Un} (ha : Srt a) (hb : Srt b) (h : ∀ u, u ∈ a ↔ u ∈ b) : glue a = glue b := by rw [srt_ext ha hb h]
theorem setS_ext {a b : List Lt} (h : ∀ u, u ∈ U a ↔ u ∈ U b) : setS a = setS b := by
  unfold setS
  exact glue_srt_ext (srt_sortU _) (srt_sortU _) fun u => by rw [mem_sortU, mem_sortU, h]

/-! what the model's operations are -/
theorem foldl_set (l : List Lt) (hl : ∀ x ∈ l, possB x = true) : l.foldl insM [] = setS l := (setP l hl).2.2.2
theorem wou_minus {a b : List Lt} (ha : ∀ x ∈ a, possB x = true) (hb : ∀ x ∈ b, possB x = true) : wouM (setS a) b = glue (outU b (U (setS a))) := (wouM_facts _ b (setP a ha).2.2.1 hb).1
theorem minus_len {a b : List Lt} (ha : ∀ x ∈ a, possB x = true) (hb : ∀ x ∈ b, possB x = true) : (∀ x ∈ glue (outU b (U a)), possB x = true) ∧ (glue (outU b (U a))).length ≤ a.length * (b.length + 1) := by
  have h := wouM_facts a b ha hb
  rw [h.1] at h
  exact h.2
theorem in_out (s : List Lt) (us : List Un) : outU (glue (outU s us)) us = inU s us := by
  unfold outU inU
  refine List.filter_congr fun u hu => ?_
  rw [Bool.eq_iff_iff]
  have : hasB (glue (List.filter (fun u => !hasB s u) us)) u = true ↔ hasB s u = false := by
    rw [hasB_iff, U_glue, List.mem_filter]
    simp [hu]
  cases h : hasB s u
  · rw [h] at this; simp [this.2 rfl]
  · rw [h] at this
    simp only [iff_true, Bool.not_eq_true']
    rw [Bool.eq_false_iff]
    intro h'
    have := this.1 h'
    cases this
/-- what Meet of the model is -/
theorem meet_model (a b : List Lt) : glue (outU (glue (outU b (U a))) (U a)) = glue (inU b (U a)) := by rw [in_out]
theorem meet_len {a b : List Lt} (ha : ∀ x ∈ a, possB x = true) (hb : ∀ x ∈ b, possB x = true) : (∀ x ∈ glue (inU b (U a)), possB x = true) ∧ (glue (inU b (U a))).length ≤ a.length * (a.length * (b.length + 1) + 1) := by
  obtain ⟨h1, h2⟩ := minus_len ha hb
  obtain ⟨h3, h4⟩ := minus_len ha h1
  rw [in_out] at h3 h4
  refine ⟨h3, Nat.le_trans h4 (Nat.mul_le_mul_left _ (by omega))⟩
theorem out_nil_iff (b : List Lt) (us : List Un) : glue (outU b us) = [] ↔ ∀ u ∈ us, u ∈ U b := by
  constructor
  · intro h u hu
    rcases Classical.em (u ∈ U b) with h1 | h1
    · exact h1
    · have h2 : u ∈ U (glue (outU b us)) := by rw [U_glue, mem_outU]; exact ⟨hu, h1⟩
      rw [h, U_nil] at h2; cases h2
  · intro h
    have : outU b us = [] := (inU_all h).2
    rw [this]; rfl
theorem within_model (a b : List Lt) : lwithin a b = (validB a && (validB b && decide (lminus a b = []))) := by
  unfold lwithin
  cases ha : validB a
  · rfl
  · cases hb : validB b
    · rfl
    · simp only [Bool.true_and]
      rw [Bool.eq_iff_iff, decide_eq_true_eq, lminus, ha, hb, if_pos (show (true && true) = true from rfl), out_nil_iff, List.all_eq_true]
      constructor
      · intro h u hu
        rw [mem_setS] at hu
        exact hasB_iff.1 (h u hu)
      · intro h u hu
        exact hasB_iff.2 (h u (mem_setS.2 hu))

/-! how many units -/
theorem srt_nodup {us : List Un} (h : Srt us) : us.Nodup := List.Pairwise.imp lt_ne h
theorem len_same {a b : List Un} (ha : Srt a) (hb : Srt b) (h : ∀ u, u ∈ a ↔ u ∈ b) : a.length = b.length := by rw [srt_ext ha hb h]
theorem len_in_out (s : List Lt) (us : List Un) : (inU s us).length + (outU s us).length = us.length := by
  induction us with
  | nil => rfl
  | cons u us ih =>
    unfold inU outU at *
    rw [List.filter_cons, List.filter_cons]
    cases hasB s u
    · simp; omega
    · simp; omega
theorem nodup_len {a b : List Un} (ha : a.Nodup) (hb : b.Nodup) (h : ∀ u, u ∈ a ↔ u ∈ b) : a.length = b.length := ((List.perm_ext_iff_of_nodup ha hb).2 h).length_eq
theorem len_union (a b : List Lt) : (sortU (U (a ++ b))).length + (inU b (sortU (U a))).length = (sortU (U a)).length + (sortU (U b)).length := by
  have h1 := len_in_out b (sortU (U a))
  have h3 : (outU b (sortU (U a)) ++ sortU (U b)).Nodup := by
    refine List.nodup_append.2 ⟨srt_nodup (srt_outU (srt_sortU _)), srt_nodup (srt_sortU _), fun u hu v hv e => ?_⟩
    subst e
    exact (mem_outU.1 hu).2 (mem_sortU.1 hv)
  have h2 := nodup_len (srt_nodup (srt_sortU (U (a ++ b)))) h3 (fun u => by
    rw [mem_sortU, U_app, List.mem_append, List.mem_append, mem_outU, mem_sortU, mem_sortU]
    rcases Classical.em (u ∈ U b) with h | h <;> simp [h])
  rw [List.length_append] at h2
  omega
theorem tot_glue (us : List Un) : totL (glue us) = (us.length : Int) := by
  rw [← U_len fun x hx => by have := (glue_glued us).mem x hx; omega, U_glue]
theorem glue_valid {us : List Un} (hr : ∀ u ∈ us, 0 ≤ u.1 ∧ 0 ≤ u.2 ∧ u.2 < 1099511627776) (hl : (glue us).length ≤ 4096) : validB (glue us) = true := validB_iff.2 ⟨hl, glue_poss' hr⟩
end Go.Proofs.Ytgbamgijpgjmgaa
/- What the operations on sets of lots give, unit by unit; how many units. -/
namespace Go.Proofs.Ytgbamgijpgjmgaa

theorem has_of {a : List Lt} {u : Un} {p : Prop} [Decidable p] (h : u ∈ U a ↔ p) : hasB a u = decide p := by
  rw [Bool.eq_iff_iff, hasB_iff, h, decide_eq_true_eq]
structure Two (a b : List Lt) : Prop where
  va : validB a = true
  vb : validB b = true
  la : a.length ≤ 12
  lb : b.length ≤ 12
section
variable {a b : List Lt}
theorem Two.lset (h : Two a b) : lset a = setS a := by unfold Proofs.Ytgbamgijpgjmgaa.lset; rw [h.va]; rfl
theorem Two.union (h : Two a b) : lunion a b = setS (a ++ b) := by rw [lunion, h.va, h.vb]; rfl
theorem Two.minus (h : Two a b) : lminus a b = glue (outU b (U (setS a))) := by rw [lminus, h.va, h.vb]; rfl
theorem Two.meet (h : Two a b) : lmeet a b = glue (inU b (U (setS a))) := by rw [lmeet, h.va, h.vb]; rfl
theorem Two.without (h : Two a b) : lwithout a b = glue (outU b (U a)) := by rw [lwithout, h.va, h.vb]; rfl
theorem Two.pa (h : Two a b) : ∀ x ∈ a, possB x = true := (validB_iff.1 h.va).2
theorem Two.pb (h : Two a b) : ∀ x ∈ b, possB x = true := (validB_iff.1 h.vb).2
theorem Two.pab (h : Two a b) : ∀ x ∈ a ++ b, possB x = true := fun x hx => by
  rcases List.mem_append.1 hx with hx | hx
  · exact h.pa x hx
  · exact h.pb x hx
theorem Two.swap (h : Two a b) : Two b a := ⟨h.vb, h.va, h.lb, h.la⟩
theorem Two.hset (h : Two a b) (u : Un) : hasB (Proofs.Ytgbamgijpgjmgaa.lset a) u = hasB a u := by rw [h.lset, hasB_set]
theorem Two.hunion (h : Two a b) (u : Un) : hasB (lunion a b) u = (hasB a u || hasB b u) := by
  rw [h.union, hasB_set]
  unfold hasB
  rw [List.any_append]
theorem Two.hminus (h : Two a b) (u : Un) : hasB (lminus a b) u = (hasB a u && !hasB b u) := by
  rw [h.minus, Bool.eq_iff_iff, hasB_iff, U_glue, mem_outU, mem_setS, ← hasB_iff, ← hasB_iff]
  cases hasB a u <;> cases hasB b u <;> simp
theorem Two.hmeet (h : Two a b) (u : Un) : hasB (lmeet a b) u = (hasB a u && hasB b u) := by
  rw [h.meet, Bool.eq_iff_iff, hasB_iff, U_glue, mem_inU, mem_setS, ← hasB_iff, ← hasB_iff]
  cases hasB a u <;> cases hasB b u <;> simp
theorem Two.hwithout (h : Two a b) (u : Un) : hasB (lwithout a b) u = (hasB a u && !hasB b u) := by
  rw [h.without, Bool.eq_iff_iff, hasB_iff, U_glue, mem_outU, ← hasB_iff, ← hasB_iff]
  cases hasB a u <;> cases hasB b u <;> simp
theorem Two.vset (h : Two a b) : validB (Proofs.Ytgbamgijpgjmgaa.lset a) = true := by
  obtain ⟨h1, h2, h3, h4⟩ := setP a h.pa
  rw [h.lset]
  exact validB_iff.2 ⟨by have := h.la; omega, h3⟩
theorem Two.vunion (h : Two a b) : validB (lunion a b) = true ∧ (lunion a b).length ≤ 24 := by
  obtain ⟨h1, h2, h3, h4⟩ := setP (a ++ b) h.pab
  rw [h.union]
  rw [List.length_append] at h2
  have := h.la
  have := h.lb
  exact ⟨validB_iff.2 ⟨by omega, h3⟩, by omega⟩
theorem Two.len1 (h : Two a b) : a.length * (b.length + 1) ≤ 156 := Nat.le_trans (Nat.mul_le_mul h.la (show b.length + 1 ≤ 13 by have := h.lb; omega)) (by omega)
theorem Two.vminus (h : Two a b) : validB (lminus a b) = true ∧ (lminus a b).length ≤ 156 := by
  obtain ⟨h1, h2, h3, h4⟩ := setP a h.pa
  obtain ⟨m1, m2⟩ := minus_len h3 h.pb
  have m3 : (setS a).length * (b.length + 1) ≤ 156 := Nat.le_trans (Nat.mul_le_mul_right _ h2) h.len1
  rw [h.minus]
  exact ⟨validB_iff.2 ⟨by omega, m1⟩, by omega⟩
theorem Two.vmeet (h : Two a b) : validB (lmeet a b) = true ∧ (lmeet a b).length ≤ 1884 := by
  obtain ⟨h1, h2, h3, h4⟩ := setP a h.pa
  obtain ⟨m1, m2⟩ := meet_len h3 h.pb
  have m3 : (setS a).length * (b.length + 1) ≤ 156 := Nat.le_trans (Nat.mul_le_mul_right _ h2) h.len1
  have m4 : (setS a).length * ((setS a).length * (b.length + 1) + 1) ≤ 12 * 157 := Nat.mul_le_mul (by have := h.la; omega) (by omega)
  rw [h.meet]
  exact ⟨validB_iff.2 ⟨by omega, m1⟩, by omega⟩
theorem Two.vwithout (h : Two a b) : validB (lwithout a b) = true ∧ (lwithout a b).length ≤ 156 := by
  obtain ⟨m1, m2⟩ := minus_len h.pa h.pb
  have m3 := h.len1
  rw [h.without]
  exact ⟨validB_iff.2 ⟨by omega, m1⟩, by omega⟩
theorem tot_valid {l : List Lt} (h : validB l = true) : totalS l = ((U l).length : Int) := by
  rw [totalS, h, U_len fun x hx => by have := possB_iff.1 ((validB_iff.1 h).2 x hx); omega]; rfl
theorem Two.tots (h : Two a b) : totalS (lunion a b) = totalS (Proofs.Ytgbamgijpgjmgaa.lset a) + totalS (Proofs.Ytgbamgijpgjmgaa.lset b) - totalS (lmeet a b) ∧ totalS (Proofs.Ytgbamgijpgjmgaa.lset a) = totalS (lminus a b) + totalS (lmeet a b) := by
  rw [tot_valid h.vunion.1, tot_valid h.vset, tot_valid h.swap.vset, tot_valid h.vmeet.1, tot_valid h.vminus.1, h.union, h.lset, h.swap.lset, h.meet, h.minus, U_setS, U_setS, U_setS, U_glue, U_glue]
  have h1 := len_union a b
  have h2 := len_in_out b (sortU (U a))
  omega
theorem tot_range {l : List Lt} : 0 ≤ totalS l ∧ totalS l ≤ 4503599627370496 := by
  unfold totalS
  cases hv : validB l
  · simp
  · have h1 := totL_le (validB_iff.1 hv).2
    have h2 := (validB_iff.1 hv).1
    simp only [if_true]
    omega
theorem within_of_not {a b : List Lt} {u : Un} (h1 : hasB a u = true) (h2 : hasB b u = false) : lwithin a b = false := by
  unfold lwithin
  have : (U a).all (hasB b) = false := by
    rw [Bool.eq_false_iff, ne_eq, List.all_eq_true]
    intro h
    have := h u (hasB_iff.1 h1)
    rw [h2] at this; cases this
  rw [this, Bool.and_false, Bool.and_false]
end
end Go.Proofs.Ytgbamgijpgjmgaa
/- The model's insert. -/
namespace Go.Proofs.Ytgbamgijpgjmgaa
open Go.RowKit

theorem insF_take {s : List Lt} {k : Nat} {x : Lt} (l : Lt) (h : s[k]? = some x) : insF (s.take (k + 1)) l = insStep l (insF (s.take k) l) x := by rw [List.take_add_one, h]; exact insF_snoc _ _ _
theorem insStep_b {l x : Lt} {b a : List Lt} {f t : Int} (h : x.1 < l.1 ∨ (x.1 = l.1 ∧ x.2.1 + x.2.2 < f)) : insStep l ⟨b, a, f, t⟩ x = ⟨b ++ [x], a, f, t⟩ := by unfold insStep; rw [if_pos h]
theorem insStep_a {l x : Lt} {b a : List Lt} {f t : Int} (h : ¬ (x.1 < l.1 ∨ (x.1 = l.1 ∧ x.2.1 + x.2.2 < f))) (h2 : l.1 < x.1 ∨ t < x.2.1) : insStep l ⟨b, a, f, t⟩ x = ⟨b, a ++ [x], f, t⟩ := by unfold insStep; rw [if_neg h, if_pos h2]
theorem insStep_m {l x : Lt} {b a : List Lt} {f t : Int} (h : ¬ (x.1 < l.1 ∨ (x.1 = l.1 ∧ x.2.1 + x.2.2 < f))) (h2 : ¬ (l.1 < x.1 ∨ t < x.2.1)) : insStep l ⟨b, a, f, t⟩ x = ⟨b, a, min f x.2.1, max t (x.2.1 + x.2.2)⟩ := by unfold insStep; rw [if_neg h, if_neg h2]
set_option maxHeartbeats 8000000 in
set_option maxRecDepth 100000 in
theorem refInsert_c (x : Lt) (A : Option Addr) (n c : Nat) (s : List Lt) (w : World) (h : LotsAt w A n c s) (hs : ∀ y ∈ s, possB y = true) (hx : possB x = true) (hxw : WfL x) (hn : n ≤ 1000000) :
    Calls Try.prog 65 #[.slice A n c, ltV x] w (RetL w (insM s x)) := by
  obtain ⟨w1, hw1⟩ : ∃ w1, w.alloc (.cells #[.int .i64 x.1, .int .i64 x.2.1, .int .i64 x.2.2] 39) = w1 := ⟨_, rfl⟩
  have hE1 : E w w1 := by rw [← hw1]; exact (E.refl w).alloc _
  have hB1 : LotsAt w1 (some ⟨w.heap.size, 0, none⟩) 1 1 [x] := by rw [← hw1]; exact lot_new hxw
  have hA1 := h.e hE1
  have hle1 := hE1.le
  have hm63 := h.n63
  have HLen := Lib.hid h.len
  have HW1 := Lib.hid hw1
  have HE01 := Lib.hid hE1
  have HFac := Lib.hid (fun k => ins_facts x hx (s.take k) (fun y hy => hs y (List.mem_of_mem_take hy)))
  have HPoss := Lib.hid hs
  have HStep := Lib.hid (fun k y (hy : s[k]? = some y) => insF_take (s := s) (k := k) x hy)
  have HIns : ∀ b a f t, insF (s.take n) x = ⟨b, a, f, t⟩ → insM s x = b ++ [(x.1, f, t - f)] ++ a := fun b a f t he => by
    rw [List.take_of_length_le (by have := h.len; omega)] at he
    unfold insM; rw [he]
  have HI := Lib.hid HIns
  have hxx := possB_iff.1 hx
  have HSB := Lib.hid (fun y b a f t h => insStep_b (l := x) (x := y) (b := b) (a := a) (f := f) (t := t) h)
  have HSA := Lib.hid (fun y b a f t h h2 => insStep_a (l := x) (x := y) (b := b) (a := a) (f := f) (t := t) h h2)
  have HSM := Lib.hid (fun y b a f t h h2 => insStep_m (l := x) (x := y) (b := b) (a := a) (f := f) (t := t) h h2)
  have HSt0 := Lib.hid (show insF (s.take 0) x = ⟨[], [], x.2.1, x.2.1 + x.2.2⟩ from rfl)
  obtain ⟨_, _, _, e1, hbb, e2, _, d0, d1, d2⟩ := hB1.get (i := 0) (by omega)
  injection e1 with e1; injection e1 with e1 e1'; subst e1 e1'
  simp at e2; subst e2
  simp only [Nat.zero_mul, Nat.zero_add] at d0 d1 d2
  have HB1 := Lib.hid hB1
  clear hw1 hB1 HIns hs hx hE1 h
  generalize insM s x = r at *
  obtain ⟨lf, la, ln⟩ := x
  unfold ltV
  simp only at hxx d0 d1 d2 HW1 HI HSt0 HSB HSA HSM
  have hwr0 : IntKind.i64.wrap (la + ln) = la + ln := by rw [IntKind.wrap_i64]; omega
  go_enter Try.func65, Try.ntmps65
  go_upto_region 2 with fail
  rw [HW1.out]
  clear HW1
  go_wp2_with fail
  clear d0 d1 d2
  go_loopw [5, 6, 7, 8, 9] (fun t5 t6 t7 t8 ti wr => ∃ (k n1 c1 n2 c2 : Nat) (A1 A2 : Option Addr) (b a : List Lt) (f t : Int), k ≤ n ∧ ti = .int .i64 k ∧ t5 = .slice A1 n1 c1 ∧ t6 = .slice A2 n2 c2 ∧ t7 = .int .i64 f ∧ t8 = .int .i64 t ∧ OwnL wr w1.heap.size A1 n1 c1 b ∧ OwnL wr w1.heap.size A2 n2 c2 a ∧ apartS A1 A2 ∧ E w1 wr ∧ Hid (insF (s.take k) (lf, la, ln) = ⟨b, a, f, t⟩)) (fun _ _ _ _ ti _ => n - (intOf ti).toNat)
  case atStart => exact ⟨0, 0, 0, 0, 0, none, none, [], [], la, la + ln, Nat.zero_le _, rfl, rfl, rfl, rfl, rfl, OwnL.nil _ _, OwnL.nil _ _, apart_none _, E.refl _, HSt0.out⟩
  case round =>
    obtain ⟨k, n1, c1, n2, c2, A1, A2, b, a, f, t, hk, rfl, rfl, rfl, rfl, rfl, hO1, hO2, hap, hE, hI⟩ := hrel
    have hfc := HFac.out k
    rw [hI.out] at hfc
    obtain ⟨_, _, r0, r1, r2, r3⟩ := hfc
    simp only at r0 r1 r2 r3
    have hl1 := hO1.1
    have hl2 := hO2.1
    have hkl : (s.take k).length ≤ k := List.length_take_le _ _
    have hn12 : n1 + n2 ≤ 1000000 := by omega
    clear r3 hl1 hl2 hkl
    obtain ⟨_, _, _, e1, hbb2, e2, _, d0, d1, d2⟩ := (HB1.out.e hE).get (i := 0) (by omega)
    injection e1 with e1; injection e1 with e1 e1'; subst e1 e1'
    simp at e2; subst e2
    simp only [Nat.zero_mul, Nat.zero_add] at d0 d1 d2
    have hwle : w1.heap.size ≤ wr.heap.size := hE.le
    by_cases hlt : k < n
    · obtain ⟨bb, o, y, rfl, hb, hy, hwy, g0, g1, g2⟩ := (hA1.e hE).get hlt
      have hkI : (k : Int) < (n : Int) := by omega
      have hyy := possB_iff.1 (HPoss.out y (List.mem_of_getElem? hy))
      have HY := Lib.hid (HStep.out k y hy)
      rw [hI.out] at HY
      have hwr1 : IntKind.i64.wrap (y.2.1 + y.2.2) = y.2.1 + y.2.2 := by rw [IntKind.wrap_i64]; omega
      have HN := Lib.hid (show n1 + 1 ≤ 1099511627776 ∧ n2 + 1 ≤ 1099511627776 by omega)
      have hHB := HSB.out y b a f t
      have hHA := HSA.out y b a f t
      have hHM := HSM.out y b a f t
      obtain ⟨yf, ya, yn⟩ := y
      simp only at g0 g1 g2 hyy hwr1 hHB hHA hHM
      have hO1a := hO1.e (((E.refl wr).alloc (.cells #[.int .i64 yf, .int .i64 ya, .int .i64 yn] 39)).alloc (.cells #[.int .i64 yf, .int .i64 ya, .int .i64 yn] 39))
      have hO2a := hO2.e (((E.refl wr).alloc (.cells #[.int .i64 yf, .int .i64 ya, .int .i64 yn] 39)).alloc (.cells #[.int .i64 yf, .int .i64 ya, .int .i64 yn] 39))
      have hO1b := hO1.e ((E.refl wr).alloc (.cells #[.int .i64 yf, .int .i64 ya, .int .i64 yn] 39))
      have hO2b := hO2.e ((E.refl wr).alloc (.cells #[.int .i64 yf, .int .i64 ya, .int .i64 yn] 39))
      have hEa := (hE.alloc (.cells #[.int .i64 yf, .int .i64 ya, .int .i64 yn] 39)).alloc (.cells #[.int .i64 yf, .int .i64 ya, .int .i64 yn] 39)
      have hEb := hE.alloc (.cells #[.int .i64 yf, .int .i64 ya, .int .i64 yn] 39)
      have hLn := lot_new (w := wr.alloc (.cells #[.int .i64 yf, .int .i64 ya, .int .i64 yn] 39)) hwy
      rw [World.size_alloc] at hLn
      have hba : w1.heap.size ≤ ((wr.alloc (.cells #[.int .i64 yf, .int .i64 ya, .int .i64 yn] 39)).alloc (.cells #[.int .i64 yf, .int .i64 ya, .int .i64 yn] 39)).heap.size := by rw [World.size_alloc, World.size_alloc]; omega
      have hb1 : ∀ q, ob A1 = some q → q < wr.heap.size := fun q hq => (hO1.ltN q hq).2
      have hb2 : ∀ q, ob A2 = some q → q < wr.heap.size := fun q hq => (hO2.ltN q hq).2
      have HLT := Lib.hid (And.intro hb1 hb2)
      have HR := Lib.hid (And.intro r0 (And.intro r1 r2))
      have HE1 := Lib.hid hle1
      clear hy hb1 hb2 r0 r1 r2 hle1
      by_cases q1 : yf < lf
      · have s1 : decide (yf < lf) = true := by simpa using q1
        have HF := Lib.hid (HY.out.trans (hHB (.inl q1)))
        clear hHB hHA hHM HY q1
        go_wp2_with (at_builtin; refine wpList_appL _ rfl _ _ rfl w1.heap.size A1 n1 c1 b rfl hO1a _ 1 1 [(yf, ya, yn)] rfl hLn HN.out.1 hba ?_; intro A3 c3 w3 hO3 hG3 hB3 hor3)
        have hO2c := hO2a.kept hG3 hap.symm
        have hap3 : apartS A3 A2 := by
          rcases hor3 with hor3 | hor3
          · intro q hq; rw [hor3] at hq; exact hap q hq
          · intro q hq hq2; rw [hor3] at hq; injection hq with hq; have := HLT.out.2 q hq2; simp only [World.size_alloc] at hq; omega
        have hE3 : E w1 w3 := hEa.grown hG3 (fun q hq => (hO1.ltN q hq).1)
        go_roundw
        case rel => exact ⟨k + 1, n1 + 1, c3, n2, c2, A3, A2, _, _, _, _, by omega, by go_num, rfl, rfl, rfl, rfl, hO3, hO2c, hap3, hE3, HF.out⟩
        case measure => simp [intOf]; omega
      · have s1 : decide (yf < lf) = false := by simpa using q1
        by_cases q2 : yf = lf
        · have s2 : (yf == lf) = true := by simpa using q2
          by_cases q3 : ya + yn < f
          · have s3 : decide (ya + yn < f) = true := by simpa using q3
            have HF := Lib.hid (HY.out.trans (hHB (.inr ⟨q2, q3⟩)))
            clear hHB hHA hHM HY q1 q2 q3
            go_wp2_with (at_builtin; refine wpList_appL _ rfl _ _ rfl w1.heap.size A1 n1 c1 b rfl hO1a _ 1 1 [(yf, ya, yn)] rfl hLn HN.out.1 hba ?_; intro A3 c3 w3 hO3 hG3 hB3 hor3)
            have hO2c := hO2a.kept hG3 hap.symm
            have hap3 : apartS A3 A2 := by
              rcases hor3 with hor3 | hor3
              · intro q hq; rw [hor3] at hq; exact hap q hq
              · intro q hq hq2; rw [hor3] at hq; injection hq with hq; have := HLT.out.2 q hq2; simp only [World.size_alloc] at hq; omega
            have hE3 : E w1 w3 := hEa.grown hG3 (fun q hq => (hO1.ltN q hq).1)
            go_roundw
            case rel => exact ⟨k + 1, n1 + 1, c3, n2, c2, A3, A2, _, _, _, _, by omega, by go_num, rfl, rfl, rfl, rfl, hO3, hO2c, hap3, hE3, HF.out⟩
            case measure => simp [intOf]; omega
          · have s3 : decide (ya + yn < f) = false := by simpa using q3
            have s4 : decide (lf < yf) = false := by simpa using (show ¬ lf < yf by omega)
            by_cases q4 : t < ya
            · have s5 : decide (t < ya) = true := by simpa using q4
              have HF := Lib.hid (HY.out.trans (hHA (by omega) (.inr q4)))
              clear hHB hHA hHM HY q1 q2 q3 q4
              go_wp2_with (at_builtin; refine wpList_appL _ rfl _ _ rfl w1.heap.size A2 n2 c2 a rfl hO2a _ 1 1 [(yf, ya, yn)] rfl hLn HN.out.2 hba ?_; intro A3 c3 w3 hO3 hG3 hB3 hor3)
              have hO1c := hO1a.kept hG3 hap
              have hap3 : apartS A1 A3 := by
                rcases hor3 with hor3 | hor3
                · intro q hq; rw [hor3]; exact hap q hq
                · intro q hq hq2; rw [hor3] at hq2; injection hq2 with hq2; have := HLT.out.1 q hq; simp only [World.size_alloc] at hq2; omega
              have hE3 : E w1 w3 := hEa.grown hG3 (fun q hq => (hO2.ltN q hq).1)
              go_roundw
              case rel => exact ⟨k + 1, n1, c1, n2 + 1, c3, A1, A3, _, _, _, _, by omega, by go_num, rfl, rfl, rfl, rfl, hO1c, hO3, hap3, hE3, HF.out⟩
              case measure => simp [intOf]; omega
            · have s5 : decide (t < ya) = false := by simpa using q4
              have HF := Lib.hid (HY.out.trans (hHM (by omega) (by omega)))
              clear hHB hHA hHM HY q1 q2 q3 q4
              obtain ⟨mi, hmi⟩ : ∃ mi, min f ya = mi := ⟨_, rfl⟩
              obtain ⟨ma, hma⟩ : ∃ ma, max t (ya + yn) = ma := ⟨_, rfl⟩
              rw [hmi, hma] at HF
              have HM1 := Lib.hid hmi
              have HM2 := Lib.hid (show (if ya < f then ya else f) = mi by split <;> omega)
              have HM3 := Lib.hid hma
              have HM4 := Lib.hid (show (if t < ya + yn then ya + yn else t) = ma by split <;> omega)
              clear hmi hma hO1a hO2a hEa
              go_upto_region 13 with fail
              first | rw [HM1.out] | rw [HM2.out]
              clear HM1 HM2
              go_upto_region 6 with fail
              first | rw [HM3.out] | rw [HM4.out]
              clear HM3 HM4
              go_wp2_with fail
              go_roundw
              case rel => exact ⟨k + 1, n1, c1, n2, c2, A1, A2, _, _, _, _, by omega, by go_num, rfl, rfl, rfl, rfl, hO1b, hO2b, hap, hEb, HF.out⟩
              case measure => simp [intOf]; omega
        · have s2 : (yf == lf) = false := by simpa using q2
          have s4 : decide (lf < yf) = true := by simpa using (show lf < yf by omega)
          have HF := Lib.hid (HY.out.trans (hHA (by omega) (.inl (by omega))))
          clear hHB hHA hHM HY q1 q2
          go_wp2_with (at_builtin; refine wpList_appL _ rfl _ _ rfl w1.heap.size A2 n2 c2 a rfl hO2a _ 1 1 [(yf, ya, yn)] rfl hLn HN.out.2 hba ?_; intro A3 c3 w3 hO3 hG3 hB3 hor3)
          have hO1c := hO1a.kept hG3 hap
          have hap3 : apartS A1 A3 := by
            rcases hor3 with hor3 | hor3
            · intro q hq; rw [hor3]; exact hap q hq
            · intro q hq hq2; rw [hor3] at hq2; injection hq2 with hq2; have := HLT.out.1 q hq; simp only [World.size_alloc] at hq2; omega
          have hE3 : E w1 w3 := hEa.grown hG3 (fun q hq => (hO2.ltN q hq).1)
          go_roundw
          case rel => exact ⟨k + 1, n1, c1, n2 + 1, c3, A1, A3, _, _, _, _, by omega, by go_num, rfl, rfl, rfl, rfl, hO1c, hO3, hap3, hE3, HF.out⟩
          case measure => simp [intOf]; omega
    · have hkn : k = n := by omega
      have HF := Lib.hid (HI.out b a f t (by rw [← hI.out, hkn]))
      have hwr4 : IntKind.i64.wrap (t - f) = t - f := by rw [IntKind.wrap_i64]; omega
      have hwl : WfL (lf, f, t - f) := ⟨wf_of_i64 (by simp only; omega) (by have := wf_i64 hxw.1; simp only at this ⊢; omega), wf_of_i64 (by simp only; omega) (by simp only; omega), wf_of_i64 (by simp only; omega) (by simp only; omega)⟩
      have hO1a := hO1.e ((E.refl wr).alloc (.cells #[.int .i64 lf, .int .i64 f, .int .i64 (t - f)] 39))
      have hO2a := hO2.e ((E.refl wr).alloc (.cells #[.int .i64 lf, .int .i64 f, .int .i64 (t - f)] 39))
      have hLn := lot_new (w := wr) hwl
      have hba : w1.heap.size ≤ (wr.alloc (.cells #[.int .i64 lf, .int .i64 f, .int .i64 (t - f)] 39)).heap.size := by rw [World.size_alloc]; omega
      have HEw := Lib.hid (hE.alloc (.cells #[.int .i64 lf, .int .i64 f, .int .i64 (t - f)] 39))
      have hk1 : n1 + 1 ≤ 1099511627776 := by omega
      have hk2 : n1 + 1 + n2 ≤ 1099511627776 := by omega
      have HAp := Lib.hid hap
      clear hkn hI hn12 r0 r1 r2 hwl hap
      go_wp2_with (first
        | (at_builtin; refine wpList_appL _ rfl _ _ rfl w1.heap.size _ (n1 + 1) _ _ rfl hO3 A2 n2 c2 a rfl hO2c.reads hk2 hb3 ?_; intro A4 c4 w4 hO4 hG4 hB4 hor4)
        | (at_builtin; refine wpList_appL _ rfl _ _ rfl w1.heap.size A1 n1 c1 b rfl hO1a _ 1 1 [(lf, f, t - f)] rfl hLn hk1 hba ?_; intro A3 c3 w3 hO3 hG3 hB3 hor3; have hO2c := hO2a.kept hG3 HAp.out.symm; have hb3 := Nat.le_trans hba hB3.size))
      go_ret
      exact RetL.mk_ HF.out (hO4.rebase hle1) (HE01.out.trans ((HEw.out.up hB3).up hB4))
end Go.Proofs.Ytgbamgijpgjmgaa
/- The model's subtract. -/
namespace Go.Proofs.Ytgbamgijpgjmgaa
open Go.RowKit

theorem subM_take {s : List Lt} {k : Nat} {y : Lt} (x : Lt) (h : s[k]? = some y) : subM (s.take (k + 1)) x = subM (s.take k) x ++ sub1 x y := by rw [List.take_add_one, h]; exact subM_snoc x y _
theorem sub1_all {x y : Lt} (h : y.1 ≠ x.1 ∨ x.2.1 + x.2.2 ≤ y.2.1 ∨ y.2.1 + y.2.2 ≤ x.2.1) : sub1 x y = [y] := by unfold sub1; rw [if_pos h]
theorem sub1_lr {x y : Lt} (h : ¬ (y.1 ≠ x.1 ∨ x.2.1 + x.2.2 ≤ y.2.1 ∨ y.2.1 + y.2.2 ≤ x.2.1)) : sub1 x y = (if y.2.1 < x.2.1 then [(x.1, y.2.1, x.2.1 - y.2.1)] else []) ++ (if x.2.1 + x.2.2 < y.2.1 + y.2.2 then [(x.1, x.2.1 + x.2.2, y.2.1 + y.2.2 - x.2.1 - x.2.2)] else []) := by unfold sub1; rw [if_neg h]
theorem sub1_two (x y : Lt) : (sub1 x y).length ≤ 2 := by
  rcases sub1_len (x := x) (y := y) with h | h
  · omega
  · exact h.1
theorem subM_two (l : List Lt) (x : Lt) : (subM l x).length ≤ 2 * l.length := by
  induction l with
  | nil => simp [subM_nil]
  | cons y l ih =>
    rw [subM_cons, List.length_append, List.length_cons]
    have := sub1_two x y
    omega
set_option maxHeartbeats 16000000 in
set_option maxRecDepth 100000 in
theorem refSubtract_c (x : Lt) (A : Option Addr) (n c : Nat) (s : List Lt) (w : World) (h : LotsAt w A n c s) (hs : ∀ y ∈ s, possB y = true) (hx : possB x = true) (hxw : WfL x) (hn : n ≤ 100000) :
    Calls Try.prog 66 #[.slice A n c, ltV x] w (RetL w (subM s x)) := by
  obtain ⟨w1, hw1⟩ : ∃ w1, w.alloc (.cells #[.int .i64 x.1, .int .i64 x.2.1, .int .i64 x.2.2] 39) = w1 := ⟨_, rfl⟩
  have hE1 : E w w1 := by rw [← hw1]; exact (E.refl w).alloc _
  have hB1 : LotsAt w1 (some ⟨w.heap.size, 0, none⟩) 1 1 [x] := by rw [← hw1]; exact lot_new hxw
  have hA1 := h.e hE1
  have hle1 := hE1.le
  have hm63 := h.n63
  have HLen := Lib.hid h.len
  have HW1 := Lib.hid hw1
  have HE01 := Lib.hid hE1
  have HPoss := Lib.hid hs
  have HStep := Lib.hid (fun k y (hy : s[k]? = some y) => subM_take (s := s) (k := k) x hy)
  have HEnd := Lib.hid (show subM (s.take n) x = subM s x by rw [List.take_of_length_le (by have := h.len; omega)])
  have HTwo := Lib.hid (fun k => subM_two (s.take k) x)
  have hxx := possB_iff.1 hx
  have HS1 := Lib.hid (fun y h => sub1_all (x := x) (y := y) h)
  have HS2 := Lib.hid (fun y h => sub1_lr (x := x) (y := y) h)
  obtain ⟨_, _, _, e1, hbb, e2, _, d0, d1, d2⟩ := hB1.get (i := 0) (by omega)
  injection e1 with e1; injection e1 with e1 e1'; subst e1 e1'
  simp at e2; subst e2
  simp only [Nat.zero_mul, Nat.zero_add] at d0 d1 d2
  have HB1 := Lib.hid hB1
  have HR := Lib.hid (rfl : subM s x = subM s x)
  clear hw1 hB1 hs hx hE1 h
  generalize hrr : subM s x = r at HEnd HR ⊢
  clear HR hrr
  obtain ⟨lf, la, ln⟩ := x
  unfold ltV
  simp only at hxx d0 d1 d2 HW1 HS1 HS2
  have hwr0 : IntKind.i64.wrap (la + ln) = la + ln := by rw [IntKind.wrap_i64]; omega
  go_enter Try.func66, Try.ntmps66
  go_upto_region 2 with fail
  rw [HW1.out]
  clear HW1
  go_wp2_with fail
  clear d0 d1 d2
  go_loopw [5, 6] (fun t5 ti wr => ∃ (k n1 c1 : Nat) (A1 : Option Addr), k ≤ n ∧ ti = .int .i64 k ∧ t5 = .slice A1 n1 c1 ∧ OwnL wr w1.heap.size A1 n1 c1 (subM (s.take k) (lf, la, ln)) ∧ E w1 wr) (fun _ ti _ => n - (intOf ti).toNat)
  case atStart => exact ⟨0, 0, 0, none, Nat.zero_le _, rfl, rfl, OwnL.nil _ _, E.refl _⟩
  case round =>
    obtain ⟨k, n1, c1, A1, hk, rfl, rfl, hO1, hE⟩ := hrel
    by_cases hlt : k < n
    · obtain ⟨_, _, _, e1, hbb2, e2, _, d0, d1, d2⟩ := (HB1.out.e hE).get (i := 0) (by omega)
      injection e1 with e1; injection e1 with e1 e1'; subst e1 e1'
      simp at e2; subst e2
      simp only [Nat.zero_mul, Nat.zero_add] at d0 d1 d2
      obtain ⟨bb, o, y, rfl, hb, hy, hwy, g0, g1, g2⟩ := (hA1.e hE).get hlt
      have hkI : (k : Int) < (n : Int) := by omega
      have hyy := possB_iff.1 (HPoss.out y (List.mem_of_getElem? hy))
      have hn1 : n1 ≤ 1000000 := by
        have h1 := hO1.1
        have h2 := HTwo.out k
        have h3 : (s.take k).length ≤ k := List.length_take_le _ _
        omega
      have HY := Lib.hid (HStep.out k y hy)
      have hAll := HS1.out y
      have hLR := HS2.out y
      have hwr1 : IntKind.i64.wrap (y.2.1 + y.2.2) = y.2.1 + y.2.2 := by rw [IntKind.wrap_i64]; omega
      have HCell := Lib.hid (fun W (hW : E wr W) => And.intro (And.intro ((hW.cell (p := ⟨bb, _, none⟩) hb).trans g0) (And.intro ((hW.cell (p := ⟨bb, _, none⟩) hb).trans g1) ((hW.cell (p := ⟨bb, _, none⟩) hb).trans g2))) (And.intro ((hW.cell (p := ⟨w.heap.size, 0, none⟩) hbb2).trans d0) (And.intro ((hW.cell (p := ⟨w.heap.size, 1, none⟩) hbb2).trans d1) ((hW.cell (p := ⟨w.heap.size, 2, none⟩) hbb2).trans d2))))
      have HO := Lib.hid hO1
      have HEr := Lib.hid hE
      have hk0 : (0 : Int) ≤ (k : Int) := by omega
      obtain ⟨yf, ya, yn⟩ := y
      simp only at g0 g1 g2 hyy hwr1 hAll hLR HCell
      clear hO1 hE
      by_cases q1 : yf = lf
      · have q1s := q1.symm
        subst q1s
        clear q1
        by_cases q2 : la + ln ≤ ya
        · have s2 : decide (la + ln ≤ ya) = true := by simpa using q2
          have HF := Lib.hid (show subM (s.take (k + 1)) (lf, la, ln) = subM (s.take k) (lf, la, ln) ++ [(lf, ya, yn)] by rw [HY.out, hAll (.inr (.inl q2))])
          clear q2 hAll hLR HY
          go_upto_region 6 with fail
          (refine wp_region_quiet_lit (by kernel_rfl) (by kernel_rfl) ?_; (repeat (first | ((with_reducible refine wpQuiet_step (fun K hK => ?_)); go_simp; (with_reducible refine hK _ ?_); clear hK K) | ((with_reducible refine wpQuiet_off (by kernel_rfl) (fun K hK => ?_)); go_simp; (with_reducible refine hK _ ?_); clear hK K))); (with_reducible refine wpQuiet_nil ?_); intro _ hw'; obtain ⟨nq, hw''⟩ := hw'; subst hw'')
          obtain ⟨wa, hwa⟩ : ∃ wa, wr.drewN nq = wa := ⟨_, rfl⟩
          have hEa : E wr wa := by rw [← hwa]; exact (E.refl wr).drewN nq
          rw [hwa]
          clear hwa g0 g1 g2 d0 d1 d2
          obtain ⟨⟨g0, g1, g2⟩, d0, d1, d2⟩ := HCell.out wa hEa
          have hbb3 := Nat.lt_of_lt_of_le hbb2 hEa.le
          have hb3 := Nat.lt_of_lt_of_le hb hEa.le
          go_upto_region 7 with fail
          (refine wp_region_quiet_lit (by kernel_rfl) (by kernel_rfl) ?_; (repeat (first | ((with_reducible refine wpQuiet_step (fun K hK => ?_)); go_simp; (with_reducible refine hK _ ?_); clear hK K) | ((with_reducible refine wpQuiet_off (by kernel_rfl) (fun K hK => ?_)); go_simp; (with_reducible refine hK _ ?_); clear hK K))); (with_reducible refine wpQuiet_nil ?_); intro _ hw'; obtain ⟨nq, hw''⟩ := hw'; subst hw'')
          obtain ⟨wb, hwb⟩ : ∃ wb, wa.drewN nq = wb := ⟨_, rfl⟩
          have hEb : E wr wb := by rw [← hwb]; exact hEa.drewN nq
          rw [hwb]
          clear hwb g0 g1 g2 d0 d1 d2 hEa hbb3 hb3
          obtain ⟨⟨g0, g1, g2⟩, d0, d1, d2⟩ := HCell.out wb hEb
          have hbb3 := Nat.lt_of_lt_of_le hbb2 hEb.le
          have hb3 := Nat.lt_of_lt_of_le hb hEb.le
          have HEb := Lib.hid (HEr.out.trans hEb)
          have hOb := HO.out.e hEb
          have hlb := HEb.out.le
          have hO2 := hOb.e ((E.refl wb).alloc (.cells #[.int .i64 lf, .int .i64 ya, .int .i64 yn] 39))
          have hL2 := lot_new (w := wb) hwy
          have hb2 : w1.heap.size ≤ (wb.alloc (.cells #[.int .i64 lf, .int .i64 ya, .int .i64 yn] 39)).heap.size := by rw [World.size_alloc]; omega
          have hn2 : n1 + 1 ≤ 1099511627776 := by omega
          go_wp2_with (at_builtin; refine wpList_appL _ rfl _ _ rfl w1.heap.size A1 n1 c1 _ rfl hO2 _ 1 1 [(lf, ya, yn)] rfl hL2 hn2 hb2 ?_; intro A3 c3 w3 hO3 hG3 hB3 hor3)
          have hE3 := (HEb.out.alloc (.cells #[.int .i64 lf, .int .i64 ya, .int .i64 yn] 39)).up hB3
          go_roundw
          case rel => exact ⟨k + 1, n1 + 1, c3, A3, by omega, by go_num, rfl, by rw [HF.out]; exact hO3, hE3⟩
          case measure => simp [intOf]; omega
        · have s2 : decide (la + ln ≤ ya) = false := by simpa using q2
          by_cases q3 : ya + yn ≤ la
          · have s3 : decide (ya + yn ≤ la) = true := by simpa using q3
            have HF := Lib.hid (show subM (s.take (k + 1)) (lf, la, ln) = subM (s.take k) (lf, la, ln) ++ [(lf, ya, yn)] by rw [HY.out, hAll (.inr (.inr q3))])
            clear q2 q3 hAll hLR HY
            go_upto_region 6 with fail
            (refine wp_region_quiet_lit (by kernel_rfl) (by kernel_rfl) ?_; (repeat (first | ((with_reducible refine wpQuiet_step (fun K hK => ?_)); go_simp; (with_reducible refine hK _ ?_); clear hK K) | ((with_reducible refine wpQuiet_off (by kernel_rfl) (fun K hK => ?_)); go_simp; (with_reducible refine hK _ ?_); clear hK K))); (with_reducible refine wpQuiet_nil ?_); intro _ hw'; obtain ⟨nq, hw''⟩ := hw'; subst hw'')
            obtain ⟨wa, hwa⟩ : ∃ wa, wr.drewN nq = wa := ⟨_, rfl⟩
            have hEa : E wr wa := by rw [← hwa]; exact (E.refl wr).drewN nq
            rw [hwa]
            clear hwa g0 g1 g2 d0 d1 d2
            obtain ⟨⟨g0, g1, g2⟩, d0, d1, d2⟩ := HCell.out wa hEa
            have hbb3 := Nat.lt_of_lt_of_le hbb2 hEa.le
            have hb3 := Nat.lt_of_lt_of_le hb hEa.le
            go_upto_region 7 with fail
            (refine wp_region_quiet_lit (by kernel_rfl) (by kernel_rfl) ?_; (repeat (first | ((with_reducible refine wpQuiet_step (fun K hK => ?_)); go_simp; (with_reducible refine hK _ ?_); clear hK K) | ((with_reducible refine wpQuiet_off (by kernel_rfl) (fun K hK => ?_)); go_simp; (with_reducible refine hK _ ?_); clear hK K))); (with_reducible refine wpQuiet_nil ?_); intro _ hw'; obtain ⟨nq, hw''⟩ := hw'; subst hw'')
            obtain ⟨wb, hwb⟩ : ∃ wb, wa.drewN nq = wb := ⟨_, rfl⟩
            have hEb : E wr wb := by rw [← hwb]; exact hEa.drewN nq
            rw [hwb]
            clear hwb g0 g1 g2 d0 d1 d2 hEa hbb3 hb3
            obtain ⟨⟨g0, g1, g2⟩, d0, d1, d2⟩ := HCell.out wb hEb
            have hbb3 := Nat.lt_of_lt_of_le hbb2 hEb.le
            have hb3 := Nat.lt_of_lt_of_le hb hEb.le
            have HEb := Lib.hid (HEr.out.trans hEb)
            have hOb := HO.out.e hEb
            have hlb := HEb.out.le
            have hO2 := hOb.e ((E.refl wb).alloc (.cells #[.int .i64 lf, .int .i64 ya, .int .i64 yn] 39))
            have hL2 := lot_new (w := wb) hwy
            have hb2 : w1.heap.size ≤ (wb.alloc (.cells #[.int .i64 lf, .int .i64 ya, .int .i64 yn] 39)).heap.size := by rw [World.size_alloc]; omega
            have hn2 : n1 + 1 ≤ 1099511627776 := by omega
            go_wp2_with (at_builtin; refine wpList_appL _ rfl _ _ rfl w1.heap.size A1 n1 c1 _ rfl hO2 _ 1 1 [(lf, ya, yn)] rfl hL2 hn2 hb2 ?_; intro A3 c3 w3 hO3 hG3 hB3 hor3)
            have hE3 := (HEb.out.alloc (.cells #[.int .i64 lf, .int .i64 ya, .int .i64 yn] 39)).up hB3
            go_roundw
            case rel => exact ⟨k + 1, n1 + 1, c3, A3, by omega, by go_num, rfl, by rw [HF.out]; exact hO3, hE3⟩
            case measure => simp [intOf]; omega
          · have s3 : decide (ya + yn ≤ la) = false := by simpa using q3
            have hLR := hLR (by omega)
            have hwrl : IntKind.i64.wrap (la - ya) = la - ya := by rw [IntKind.wrap_i64]; omega
            have hwrr : IntKind.i64.wrap (ya + yn - la) = ya + yn - la := by rw [IntKind.wrap_i64]; omega
            have hwrr2 : IntKind.i64.wrap (ya + yn - la - ln) = ya + yn - la - ln := by rw [IntKind.wrap_i64]; omega
            by_cases q4 : ya < la
            · have s4 : decide (ya < la) = true := by simpa using q4
              by_cases q5 : la + ln < ya + yn
              · have s5 : decide (la + ln < ya + yn) = true := by simpa using q5
                have HF := Lib.hid (show subM (s.take (k + 1)) (lf, la, ln) = subM (s.take k) (lf, la, ln) ++ [(lf, ya, la - ya)] ++ [(lf, la + ln, ya + yn - la - ln)] by rw [HY.out, hLR, if_pos q4, if_pos q5, List.append_assoc])
                clear q2 q3 q4 q5 hAll hLR HY
                go_upto_region 6 with fail
                (refine wp_region_quiet_lit (by kernel_rfl) (by kernel_rfl) ?_; (repeat (first | ((with_reducible refine wpQuiet_step (fun K hK => ?_)); go_simp; (with_reducible refine hK _ ?_); clear hK K) | ((with_reducible refine wpQuiet_off (by kernel_rfl) (fun K hK => ?_)); go_simp; (with_reducible refine hK _ ?_); clear hK K))); (with_reducible refine wpQuiet_nil ?_); intro _ hw'; obtain ⟨nq, hw''⟩ := hw'; subst hw'')
                obtain ⟨wa, hwa⟩ : ∃ wa, wr.drewN nq = wa := ⟨_, rfl⟩
                have hEa : E wr wa := by rw [← hwa]; exact (E.refl wr).drewN nq
                rw [hwa]
                clear hwa g0 g1 g2 d0 d1 d2
                obtain ⟨⟨g0, g1, g2⟩, d0, d1, d2⟩ := HCell.out wa hEa
                have hbb3 := Nat.lt_of_lt_of_le hbb2 hEa.le
                have hb3 := Nat.lt_of_lt_of_le hb hEa.le
                go_upto_region 7 with fail
                (refine wp_region_quiet_lit (by kernel_rfl) (by kernel_rfl) ?_; (repeat (first | ((with_reducible refine wpQuiet_step (fun K hK => ?_)); go_simp; (with_reducible refine hK _ ?_); clear hK K) | ((with_reducible refine wpQuiet_off (by kernel_rfl) (fun K hK => ?_)); go_simp; (with_reducible refine hK _ ?_); clear hK K))); (with_reducible refine wpQuiet_nil ?_); intro _ hw'; obtain ⟨nq, hw''⟩ := hw'; subst hw'')
                obtain ⟨wb, hwb⟩ : ∃ wb, wa.drewN nq = wb := ⟨_, rfl⟩
                have hEb : E wr wb := by rw [← hwb]; exact hEa.drewN nq
                rw [hwb]
                clear hwb g0 g1 g2 d0 d1 d2 hEa hbb3 hb3
                obtain ⟨⟨g0, g1, g2⟩, d0, d1, d2⟩ := HCell.out wb hEb
                have hbb3 := Nat.lt_of_lt_of_le hbb2 hEb.le
                have hb3 := Nat.lt_of_lt_of_le hb hEb.le
                have HEb := Lib.hid (HEr.out.trans hEb)
                have hOb := HO.out.e hEb
                have hlb := HEb.out.le
                have hO2 := hOb.e ((E.refl wb).alloc (.cells #[.int .i64 lf, .int .i64 ya, .int .i64 (la - ya)] 39))
                have hL2 := lot_new (w := wb) (x := (lf, ya, (la - ya))) ⟨hxw.1, wf_of_i64 (by simp only; omega) (by simp only; omega), wf_of_i64 (by simp only; omega) (by simp only; omega)⟩
                have hb2 : w1.heap.size ≤ (wb.alloc (.cells #[.int .i64 lf, .int .i64 ya, .int .i64 (la - ya)] 39)).heap.size := by rw [World.size_alloc]; omega
                have hn2 : n1 + 1 ≤ 1099511627776 := by omega
                go_upto_region 11 with (at_builtin; refine wpList_appL _ rfl _ _ rfl w1.heap.size A1 (n1) c1 _ rfl hO2 _ 1 1 [(lf, ya, (la - ya))] rfl hL2 hn2 hb2 ?_; intro A3 c3 w3 hO3 hG3 hB3 hor3)
                have hE3 := (HEb.out.alloc (.cells #[.int .i64 lf, .int .i64 ya, .int .i64 (la - ya)] 39)).up hB3
                obtain ⟨g3, rfl⟩ : ∃ g3, A3 = some ⟨g3, 0, none⟩ := by
                  rcases hO3.form with ⟨_, hz, _⟩ | ⟨g, hg, _⟩
                  · omega
                  · exact ⟨g, hg⟩
                have hlb3 := hE3.le
                have HE3 := Lib.hid hE3
                clear g0 g1 g2 d0 d1 d2 hbb3 hb3 hO2 hL2 hb2 hn2 hG3 hB3 hor3 hOb
                obtain ⟨_, _, _, e1, hbb4, e2, _, d0, d1, d2⟩ := (HB1.out.e hE3).get (i := 0) (by omega)
                injection e1 with e1; injection e1 with e1 e1'; subst e1 e1'
                simp at e2; subst e2
                simp only [Nat.zero_mul, Nat.zero_add] at d0 d1 d2
                have hO2 := hO3.e ((E.refl w3).alloc (.cells #[.int .i64 lf, .int .i64 (la + ln), .int .i64 (ya + yn - la - ln)] 39))
                have hL2 := lot_new (w := w3) (x := (lf, (la + ln), (ya + yn - la - ln))) ⟨hxw.1, wf_of_i64 (by simp only; omega) (by simp only; omega), wf_of_i64 (by simp only; omega) (by simp only; omega)⟩
                have hb2 : w1.heap.size ≤ (w3.alloc (.cells #[.int .i64 lf, .int .i64 (la + ln), .int .i64 (ya + yn - la - ln)] 39)).heap.size := by rw [World.size_alloc]; omega
                have hn2 : (n1 + 1) + 1 ≤ 1099511627776 := by omega
                go_wp2_with (at_builtin; refine wpList_appL _ rfl _ _ rfl w1.heap.size (some ⟨g3, 0, none⟩) ((n1 + 1)) c3 _ rfl hO2 _ 1 1 [(lf, (la + ln), (ya + yn - la - ln))] rfl hL2 hn2 hb2 ?_; intro A4 c4 w4 hO4 hG4 hB4 hor4)
                have hE4 := (HE3.out.alloc (.cells #[.int .i64 lf, .int .i64 (la + ln), .int .i64 (ya + yn - la - ln)] 39)).up hB4
                go_roundw
                case rel => exact ⟨k + 1, n1 + 1 + 1, c4, A4, by omega, by go_num, rfl, by rw [HF.out]; exact hO4, hE4⟩
                case measure => simp [intOf]; omega
              · have s5 : decide (la + ln < ya + yn) = false := by simpa using q5
                have HF := Lib.hid (show subM (s.take (k + 1)) (lf, la, ln) = subM (s.take k) (lf, la, ln) ++ [(lf, ya, la - ya)] by rw [HY.out, hLR, if_pos q4, if_neg q5, List.append_nil])
                clear q2 q3 q4 q5 hAll hLR HY
                go_upto_region 6 with fail
                (refine wp_region_quiet_lit (by kernel_rfl) (by kernel_rfl) ?_; (repeat (first | ((with_reducible refine wpQuiet_step (fun K hK => ?_)); go_simp; (with_reducible refine hK _ ?_); clear hK K) | ((with_reducible refine wpQuiet_off (by kernel_rfl) (fun K hK => ?_)); go_simp; (with_reducible refine hK _ ?_); clear hK K))); (with_reducible refine wpQuiet_nil ?_); intro _ hw'; obtain ⟨nq, hw''⟩ := hw'; subst hw'')
                obtain ⟨wa, hwa⟩ : ∃ wa, wr.drewN nq = wa := ⟨_, rfl⟩
                have hEa : E wr wa := by rw [← hwa]; exact (E.refl wr).drewN nq
                rw [hwa]
                clear hwa g0 g1 g2 d0 d1 d2
                obtain ⟨⟨g0, g1, g2⟩, d0, d1, d2⟩ := HCell.out wa hEa
                have hbb3 := Nat.lt_of_lt_of_le hbb2 hEa.le
                have hb3 := Nat.lt_of_lt_of_le hb hEa.le
                go_upto_region 7 with fail
                (refine wp_region_quiet_lit (by kernel_rfl) (by kernel_rfl) ?_; (repeat (first | ((with_reducible refine wpQuiet_step (fun K hK => ?_)); go_simp; (with_reducible refine hK _ ?_); clear hK K) | ((with_reducible refine wpQuiet_off (by kernel_rfl) (fun K hK => ?_)); go_simp; (with_reducible refine hK _ ?_); clear hK K))); (with_reducible refine wpQuiet_nil ?_); intro _ hw'; obtain ⟨nq, hw''⟩ := hw'; subst hw'')
                obtain ⟨wb, hwb⟩ : ∃ wb, wa.drewN nq = wb := ⟨_, rfl⟩
                have hEb : E wr wb := by rw [← hwb]; exact hEa.drewN nq
                rw [hwb]
                clear hwb g0 g1 g2 d0 d1 d2 hEa hbb3 hb3
                obtain ⟨⟨g0, g1, g2⟩, d0, d1, d2⟩ := HCell.out wb hEb
                have hbb3 := Nat.lt_of_lt_of_le hbb2 hEb.le
                have hb3 := Nat.lt_of_lt_of_le hb hEb.le
                have HEb := Lib.hid (HEr.out.trans hEb)
                have hOb := HO.out.e hEb
                have hlb := HEb.out.le
                have hO2 := hOb.e ((E.refl wb).alloc (.cells #[.int .i64 lf, .int .i64 ya, .int .i64 (la - ya)] 39))
                have hL2 := lot_new (w := wb) (x := (lf, ya, (la - ya))) ⟨hxw.1, wf_of_i64 (by simp only; omega) (by simp only; omega), wf_of_i64 (by simp only; omega) (by simp only; omega)⟩
                have hb2 : w1.heap.size ≤ (wb.alloc (.cells #[.int .i64 lf, .int .i64 ya, .int .i64 (la - ya)] 39)).heap.size := by rw [World.size_alloc]; omega
                have hn2 : n1 + 1 ≤ 1099511627776 := by omega
                go_upto_region 11 with (at_builtin; refine wpList_appL _ rfl _ _ rfl w1.heap.size A1 (n1) c1 _ rfl hO2 _ 1 1 [(lf, ya, (la - ya))] rfl hL2 hn2 hb2 ?_; intro A3 c3 w3 hO3 hG3 hB3 hor3)
                have hE3 := (HEb.out.alloc (.cells #[.int .i64 lf, .int .i64 ya, .int .i64 (la - ya)] 39)).up hB3
                clear g0 g1 g2 d0 d1 d2 hbb3 hb3 hO2 hL2 hb2 hn2 hG3 hB3 hor3 hOb
                obtain ⟨_, _, _, e1, hbb4, e2, _, d0, d1, d2⟩ := (HB1.out.e hE3).get (i := 0) (by omega)
                injection e1 with e1; injection e1 with e1 e1'; subst e1 e1'
                simp at e2; subst e2
                simp only [Nat.zero_mul, Nat.zero_add] at d0 d1 d2
                go_wp2_with fail
                go_roundw
                case rel => exact ⟨k + 1, n1 + 1, c3, A3, by omega, by go_num, rfl, by rw [HF.out]; exact hO3, hE3⟩
                case measure => simp [intOf]; omega
            · have s4 : decide (ya < la) = false := by simpa using q4
              by_cases q5 : la + ln < ya + yn
              · have s5 : decide (la + ln < ya + yn) = true := by simpa using q5
                have HF := Lib.hid (show subM (s.take (k + 1)) (lf, la, ln) = subM (s.take k) (lf, la, ln) ++ [(lf, la + ln, ya + yn - la - ln)] by rw [HY.out, hLR, if_neg q4, if_pos q5, List.nil_append])
                clear q2 q3 q4 q5 hAll hLR HY
                go_upto_region 6 with fail
                (refine wp_region_quiet_lit (by kernel_rfl) (by kernel_rfl) ?_; (repeat (first | ((with_reducible refine wpQuiet_step (fun K hK => ?_)); go_simp; (with_reducible refine hK _ ?_); clear hK K) | ((with_reducible refine wpQuiet_off (by kernel_rfl) (fun K hK => ?_)); go_simp; (with_reducible refine hK _ ?_); clear hK K))); (with_reducible refine wpQuiet_nil ?_); intro _ hw'; obtain ⟨nq, hw''⟩ := hw'; subst hw'')
                obtain ⟨wa, hwa⟩ : ∃ wa, wr.drewN nq = wa := ⟨_, rfl⟩
                have hEa : E wr wa := by rw [← hwa]; exact (E.refl wr).drewN nq
                rw [hwa]
                clear hwa g0 g1 g2 d0 d1 d2
                obtain ⟨⟨g0, g1, g2⟩, d0, d1, d2⟩ := HCell.out wa hEa
                have hbb3 := Nat.lt_of_lt_of_le hbb2 hEa.le
                have hb3 := Nat.lt_of_lt_of_le hb hEa.le
                go_upto_region 7 with fail
                (refine wp_region_quiet_lit (by kernel_rfl) (by kernel_rfl) ?_; (repeat (first | ((with_reducible refine wpQuiet_step (fun K hK => ?_)); go_simp; (with_reducible refine hK _ ?_); clear hK K) | ((with_reducible refine wpQuiet_off (by kernel_rfl) (fun K hK => ?_)); go_simp; (with_reducible refine hK _ ?_); clear hK K))); (with_reducible refine wpQuiet_nil ?_); intro _ hw'; obtain ⟨nq, hw''⟩ := hw'; subst hw'')
                obtain ⟨wb, hwb⟩ : ∃ wb, wa.drewN nq = wb := ⟨_, rfl⟩
                have hEb : E wr wb := by rw [← hwb]; exact hEa.drewN nq
                rw [hwb]
                clear hwb g0 g1 g2 d0 d1 d2 hEa hbb3 hb3
                obtain ⟨⟨g0, g1, g2⟩, d0, d1, d2⟩ := HCell.out wb hEb
                have hbb3 := Nat.lt_of_lt_of_le hbb2 hEb.le
                have hb3 := Nat.lt_of_lt_of_le hb hEb.le
                have HEb := Lib.hid (HEr.out.trans hEb)
                have hOb := HO.out.e hEb
                have hlb := HEb.out.le
                have hO2 := hOb.e ((E.refl wb).alloc (.cells #[.int .i64 lf, .int .i64 (la + ln), .int .i64 (ya + yn - la - ln)] 39))
                have hL2 := lot_new (w := wb) (x := (lf, (la + ln), (ya + yn - la - ln))) ⟨hxw.1, wf_of_i64 (by simp only; omega) (by simp only; omega), wf_of_i64 (by simp only; omega) (by simp only; omega)⟩
                have hb2 : w1.heap.size ≤ (wb.alloc (.cells #[.int .i64 lf, .int .i64 (la + ln), .int .i64 (ya + yn - la - ln)] 39)).heap.size := by rw [World.size_alloc]; omega
                have hn2 : n1 + 1 ≤ 1099511627776 := by omega
                go_wp2_with (at_builtin; refine wpList_appL _ rfl _ _ rfl w1.heap.size A1 (n1) c1 _ rfl hO2 _ 1 1 [(lf, (la + ln), (ya + yn - la - ln))] rfl hL2 hn2 hb2 ?_; intro A3 c3 w3 hO3 hG3 hB3 hor3)
                have hE3 := (HEb.out.alloc (.cells #[.int .i64 lf, .int .i64 (la + ln), .int .i64 (ya + yn - la - ln)] 39)).up hB3
                go_roundw
                case rel => exact ⟨k + 1, n1 + 1, c3, A3, by omega, by go_num, rfl, by rw [HF.out]; exact hO3, hE3⟩
                case measure => simp [intOf]; omega
              · have s5 : decide (la + ln < ya + yn) = false := by simpa using q5
                have HF := Lib.hid (show subM (s.take (k + 1)) (lf, la, ln) = subM (s.take k) (lf, la, ln) by rw [HY.out, hLR, if_neg q4, if_neg q5, List.append_nil, List.append_nil])
                clear q2 q3 q4 q5 hAll hLR HY
                go_upto_region 6 with fail
                (refine wp_region_quiet_lit (by kernel_rfl) (by kernel_rfl) ?_; (repeat (first | ((with_reducible refine wpQuiet_step (fun K hK => ?_)); go_simp; (with_reducible refine hK _ ?_); clear hK K) | ((with_reducible refine wpQuiet_off (by kernel_rfl) (fun K hK => ?_)); go_simp; (with_reducible refine hK _ ?_); clear hK K))); (with_reducible refine wpQuiet_nil ?_); intro _ hw'; obtain ⟨nq, hw''⟩ := hw'; subst hw'')
                obtain ⟨wa, hwa⟩ : ∃ wa, wr.drewN nq = wa := ⟨_, rfl⟩
                have hEa : E wr wa := by rw [← hwa]; exact (E.refl wr).drewN nq
                rw [hwa]
                clear hwa g0 g1 g2 d0 d1 d2
                obtain ⟨⟨g0, g1, g2⟩, d0, d1, d2⟩ := HCell.out wa hEa
                have hbb3 := Nat.lt_of_lt_of_le hbb2 hEa.le
                have hb3 := Nat.lt_of_lt_of_le hb hEa.le
                go_upto_region 7 with fail
                (refine wp_region_quiet_lit (by kernel_rfl) (by kernel_rfl) ?_; (repeat (first | ((with_reducible refine wpQuiet_step (fun K hK => ?_)); go_simp; (with_reducible refine hK _ ?_); clear hK K) | ((with_reducible refine wpQuiet_off (by kernel_rfl) (fun K hK => ?_)); go_simp; (with_reducible refine hK _ ?_); clear hK K))); (with_reducible refine wpQuiet_nil ?_); intro _ hw'; obtain ⟨nq, hw''⟩ := hw'; subst hw'')
                obtain ⟨wb, hwb⟩ : ∃ wb, wa.drewN nq = wb := ⟨_, rfl⟩
                have hEb : E wr wb := by rw [← hwb]; exact hEa.drewN nq
                rw [hwb]
                clear hwb g0 g1 g2 d0 d1 d2 hEa hbb3 hb3
                obtain ⟨⟨g0, g1, g2⟩, d0, d1, d2⟩ := HCell.out wb hEb
                have hbb3 := Nat.lt_of_lt_of_le hbb2 hEb.le
                have hb3 := Nat.lt_of_lt_of_le hb hEb.le
                have HEb := Lib.hid (HEr.out.trans hEb)
                have hOb := HO.out.e hEb
                have hlb := HEb.out.le
                go_wp2_with fail
                go_roundw
                case rel => exact ⟨k + 1, n1, c1, A1, by omega, by go_num, rfl, by rw [HF.out]; exact hOb, HEb.out⟩
                case measure => simp [intOf]; omega
      · have s1 : (yf == lf) = false := by simpa using q1
        have HF := Lib.hid (show subM (s.take (k + 1)) (lf, la, ln) = subM (s.take k) (lf, la, ln) ++ [(yf, ya, yn)] by rw [HY.out, hAll (.inl q1)])
        clear hAll hLR HY
        go_upto_region 6 with fail
        (refine wp_region_quiet_lit (by kernel_rfl) (by kernel_rfl) ?_; (repeat (first | ((with_reducible refine wpQuiet_step (fun K hK => ?_)); go_simp; (with_reducible refine hK _ ?_); clear hK K) | ((with_reducible refine wpQuiet_off (by kernel_rfl) (fun K hK => ?_)); go_simp; (with_reducible refine hK _ ?_); clear hK K))); (with_reducible refine wpQuiet_nil ?_); intro _ hw'; obtain ⟨nq, hw''⟩ := hw'; subst hw'')
        obtain ⟨wa, hwa⟩ : ∃ wa, wr.drewN nq = wa := ⟨_, rfl⟩
        have hEa : E wr wa := by rw [← hwa]; exact (E.refl wr).drewN nq
        rw [hwa]
        clear hwa g0 g1 g2 d0 d1 d2
        obtain ⟨⟨g0, g1, g2⟩, d0, d1, d2⟩ := HCell.out wa hEa
        have hbb3 := Nat.lt_of_lt_of_le hbb2 hEa.le
        have hb3 := Nat.lt_of_lt_of_le hb hEa.le
        go_upto_region 7 with fail
        (refine wp_region_quiet_lit (by kernel_rfl) (by kernel_rfl) ?_; (repeat (first | ((with_reducible refine wpQuiet_step (fun K hK => ?_)); go_simp; (with_reducible refine hK _ ?_); clear hK K) | ((with_reducible refine wpQuiet_off (by kernel_rfl) (fun K hK => ?_)); go_simp; (with_reducible refine hK _ ?_); clear hK K))); (with_reducible refine wpQuiet_nil ?_); intro _ hw'; obtain ⟨nq, hw''⟩ := hw'; subst hw'')
        obtain ⟨wb, hwb⟩ : ∃ wb, wa.drewN nq = wb := ⟨_, rfl⟩
        have hEb : E wr wb := by rw [← hwb]; exact hEa.drewN nq
        rw [hwb]
        clear hwb g0 g1 g2 d0 d1 d2 hEa hbb3 hb3
        obtain ⟨⟨g0, g1, g2⟩, d0, d1, d2⟩ := HCell.out wb hEb
        have hbb3 := Nat.lt_of_lt_of_le hbb2 hEb.le
        have hb3 := Nat.lt_of_lt_of_le hb hEb.le
        have HEb := Lib.hid (HEr.out.trans hEb)
        have hOb := HO.out.e hEb
        have hlb := HEb.out.le
        have hO2 := hOb.e ((E.refl wb).alloc (.cells #[.int .i64 yf, .int .i64 ya, .int .i64 yn] 39))
        have hL2 := lot_new (w := wb) hwy
        have hb2 : w1.heap.size ≤ (wb.alloc (.cells #[.int .i64 yf, .int .i64 ya, .int .i64 yn] 39)).heap.size := by rw [World.size_alloc]; omega
        have hn2 : n1 + 1 ≤ 1099511627776 := by omega
        go_wp2_with (at_builtin; refine wpList_appL _ rfl _ _ rfl w1.heap.size A1 n1 c1 _ rfl hO2 _ 1 1 [(yf, ya, yn)] rfl hL2 hn2 hb2 ?_; intro A3 c3 w3 hO3 hG3 hB3 hor3)
        have hE3 := (HEb.out.alloc (.cells #[.int .i64 yf, .int .i64 ya, .int .i64 yn] 39)).up hB3
        go_roundw
        case rel => exact ⟨k + 1, n1 + 1, c3, A3, by omega, by go_num, rfl, by rw [HF.out]; exact hO3, hE3⟩
        case measure => simp [intOf]; omega
    · have HF := Lib.hid (show r = subM (s.take k) (lf, la, ln) by rw [← HEnd.out, show n = k by omega])
      go_wp2_with fail
      go_ret
      exact RetL.mk_ HF.out (hO1.rebase hle1) (HE01.out.trans hE)
end Go.Proofs.Ytgbamgijpgjmgaa
