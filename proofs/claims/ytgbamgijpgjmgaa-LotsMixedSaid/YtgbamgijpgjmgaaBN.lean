/- Lemmas of the claim, joined: WU. No condition. -/
import Derived.Test.YtgbamgijpgjmgaaBM
import Derived.Test.YtgbamgijpgjmgaaBE
/- A mixed Take of lots of different flows: each lot gives its quota, rounded. -/
namespace Go.Proofs.Ytgbamgijpgjmgaa

theorem quota14 {t : Int} {ws : List Int} (h : SplitPre t ws) {i : Nat} {y x : Int} (hy : ws[i]? = some y) (hx : (splitL t ws)[i]? = some x) :
    divE t y ws.sum = 0 ∧ ceilE t y ws.sum = 0 ∧ divQ t y ws.sum ≤ x ∧ x ≤ ceilQ t y ws.sum := by
  obtain ⟨hi, rfl⟩ := List.getElem?_eq_some_iff.1 hy
  have hg : ws.getD i 0 = ws[i] := by rw [List.getD_eq_getElem?_getD, List.getElem?_eq_getElem hi]; rfl
  have hgx : (splitL t ws).getD i 0 = x := by rw [List.getD_eq_getElem?_getD, hx]; rfl
  have hm := List.getElem_mem hi
  have hq := splitL_quota h hi
  rw [hg, hgx] at hq
  generalize ws[i] = y at *
  have hw := h.w0 _ hm
  have hs := le_sum (fun x hx => (h.w0 x hx).1) hm
  have hok : divOk t y ws.sum = true := divOk_iff.2 ⟨⟨h.t0, h.t1⟩, ⟨hw.1, by omega⟩, h.s0, h.s1⟩
  have hle := part_le h.t0 hs h.s0
  have ht1 := h.t1
  have hfit : divFit t y ws.sum = true := by simp only [divFit, decide_eq_true_eq]; omega
  have e1 : divQ t y ws.sum = t * y / ws.sum := by simp [divQ, hok, hfit]
  have e2 : divR t y ws.sum = t * y % ws.sum := by simp [divR, hok, hfit]
  have e3 : divE t y ws.sum = 0 := by simp [divE, hok, hfit]
  have hcl : t * y / ws.sum + (if 0 < t * y % ws.sum then 1 else 0) ≤ 1099511627776 := by
    by_cases hr : 0 < t * y % ws.sum
    · rw [if_pos hr]
      have := ceil_le h.t0 hs h.s0 hr
      omega
    · rw [if_neg hr]; omega
  have e4 : ceilN t y ws.sum = t * y / ws.sum + (if 0 < t * y % ws.sum then 1 else 0) := by rw [ceilN, e1, e2]
  have e5 : ceilQ t y ws.sum = t * y / ws.sum + (if 0 < t * y % ws.sum then 1 else 0) := by rw [ceilQ, if_pos ⟨e3, by rw [e4]; exact hcl⟩, e4]
  have e6 : ceilE t y ws.sum = 0 := by rw [ceilE, if_pos e3, if_pos (by rw [e4]; exact hcl)]
  rw [e5, e1]
  exact ⟨e3, e6, hq.1, hq.2⟩
theorem nums_get {l : List Lt} {i : Nat} {y : Lt} (h : l[i]? = some y) : (nums l)[i]? = some y.2.2 := by simp [nums, h]
theorem quota_mixed {s : List Lt} {k : Int} (hv : validB s = true) (h0 : 0 ≤ k) (h1 : k ≤ 1099511627776) (ht : k ≤ totL s) (hp : 0 < totL s) {i : Nat} {y : Lt} {x : Int} (hy : s[i]? = some y) (hx : (countK s k true)[i]? = some x) :
    divE k y.2.2 (totL s) = 0 ∧ ceilE k y.2.2 (totL s) = 0 ∧ divQ k y.2.2 (totL s) ≤ x ∧ x ≤ ceilQ k y.2.2 (totL s) := by
  obtain ⟨v1, v2⟩ := validB_iff.1 hv
  have hsp : SplitPre k (nums s) := by
    have h2 := totL_le v2
    refine ⟨h0, h1, fun z hz => ?_, hp, ?_⟩
    · obtain ⟨w, hw, rfl⟩ := List.mem_map.1 hz
      have := possB_iff.1 (v2 w hw)
      omega
    · rw [← totL_nums]; omega
  have hlen : (splitL k (nums s)).length = s.length := by rw [splitL_len, nums_len]
  have hi : i < s.length := (List.getElem?_eq_some_iff.1 hy).1
  have hx2 : (splitL k (nums s))[i]? = some x := by
    by_cases hk : 0 < k
    · rw [countK, if_pos ⟨rfl, hk⟩] at hx; exact hx
    · have hk0 : k = 0 := by omega
      subst hk0
      rw [countK, if_neg (by simp)] at hx
      have hr := firstK_range (n := 0) (Int.le_refl _) (pos_of v2) i y x hy hx
      have hs := firstK_get (n := 0) hy
      obtain ⟨hs1, _⟩ := hs
      rw [hx] at hs1
      injection hs1 with hs1
      have hl := leftK_range (n := 0) (Int.le_refl _) (pos_of v2) i
      have hx0 : x = 0 := by omega
      obtain ⟨z, hz⟩ : ∃ z, (splitL 0 (nums s))[i]? = some z := ⟨_, List.getElem?_eq_getElem (by rw [hlen]; exact hi)⟩
      have := splitL_range hsp z (List.mem_of_getElem? hz)
      rw [hz, hx0]
      congr 1
      omega
  exact quota14 hsp (nums_get hy) hx2
theorem mem_selT {s : List Lt} : ∀ {ks : List Int} {u : Un}, u ∈ U (sel true (pcs s ks)) ↔ ∃ (j : Nat) (y : Lt) (x : Int), s[j]? = some y ∧ ks[j]? = some x ∧ u ∈ ul (y.1, y.2.1, x) := by
  induction s with
  | nil => intro ks u; simp [pcs, sel, U_nil]
  | cons y s ih =>
    intro ks u
    cases ks with
    | nil => simp [pcs, sel, U_nil]
    | cons x ks =>
      rw [pcs, sel_cons_t, U_cons, List.mem_append, ih]
      constructor
      · rintro (h | ⟨j, y', x', h1, h2, h3⟩)
        · exact ⟨0, y, x, rfl, rfl, h⟩
        · exact ⟨j + 1, y', x', h1, h2, h3⟩
      · rintro ⟨j, y', x', h1, h2, h3⟩
        cases j with
        | zero => simp at h1 h2; subst h1 h2; exact .inl h3
        | succ j => exact .inr ⟨j, y', x', h1, h2, h3⟩
/-- of lots of different flows, what a Take takes from one of them -/
theorem got_mixed {s : List Lt} {k : Int} {mixed : Bool} {r : List Lt × List Lt × Int} (hv : validB s = true) (h0 : 0 ≤ k) (h1 : k ≤ 1099511627776) (ht : k ≤ totL s) (hd : ∀ (j : Nat) (y : Lt), s[j]? = some y → y.1 = 10 + (j : Int)) (hr : takeS s k mixed = r)
    {i : Nat} {y : Lt} {x : Int} (hy : s[i]? = some y) (hx : (countK s k mixed)[i]? = some x) : totalS (lmeet r.1 [y]) = x ∧ validB (lmeet r.1 [y]) = true := by
  have hF := take_facts (mixed := mixed) hv h0 h1 ht
  rw [hr] at hF
  have hrg := countK_range (mixed := mixed) hv h0 h1 ht
  have e1 : r.1 = putL [] (sel true (pcs s (countK s k mixed))) := by rw [← hr, takeS_yes hv h0 h1 ht]
  have hU : U r.1 = U (sel true (pcs s (countK s k mixed))) := by
    have := (putL_glued (s := []) trivial (pcs_nonneg true hrg)).2
    rw [e1, this, U_nil, List.nil_append]
  have hvy := take_one_valid hv hy
  have hx0 := hrg i y x hy hx
  have hm : lmeet r.1 [y] = glue (inU [y] (U (setS r.1))) := by rw [lmeet, hF.v1, hvy]; rfl
  have hlen : (inU [y] (U (setS r.1))).length = (ul (y.1, y.2.1, x)).length := by
    refine len_same (srt_inU (srt_setS _)) (srt_units _ _ _) fun u => ?_
    rw [mem_inU, mem_setS, hU, mem_selT, U_one]
    constructor
    · rintro ⟨⟨j, y', x', h2, h3, h4⟩, h5⟩
      have a1 := mem_ul.1 h4
      have a2 := mem_ul.1 h5
      simp only at a1
      have d1 := hd j y' h2
      have d2 := hd i y hy
      have : j = i := by omega
      subst this
      rw [hy] at h2; injection h2 with h2; subst h2
      rw [hx] at h3; injection h3 with h3; subst h3
      exact h4
    · intro h4
      refine ⟨⟨i, y, x, hy, hx, h4⟩, ?_⟩
      have a1 := mem_ul.1 h4
      simp only at a1
      exact mem_ul.2 (by omega)
  have hval : validB (lmeet r.1 [y]) = true := by
    obtain ⟨g1, g2, g3, _⟩ := setP r.1 (validB_iff.1 hF.v1).2
    obtain ⟨m1, m2⟩ := meet_len g3 (validB_iff.1 hvy).2
    rw [hm]
    have hl : (glue (inU [y] (U (setS r.1)))).length ≤ 1 := by
      have e : inU [y] (U (setS r.1)) = ul (y.1, y.2.1, x) := by
        refine srt_ext (srt_inU (srt_setS _)) (srt_units _ _ _) fun u => ?_
        rw [mem_inU, mem_setS, hU, mem_selT, U_one]
        constructor
        · rintro ⟨⟨j, y', x', h2, h3, h4⟩, h5⟩
          have a1 := mem_ul.1 h4
          have a2 := mem_ul.1 h5
          simp only at a1
          have d1 := hd j y' h2
          have d2 := hd i y hy
          have : j = i := by omega
          subst this
          rw [hy] at h2; injection h2 with h2; subst h2
          rw [hx] at h3; injection h3 with h3; subst h3
          exact h4
        · intro h4
          refine ⟨⟨i, y, x, hy, hx, h4⟩, ?_⟩
          have a1 := mem_ul.1 h4
          simp only at a1
          exact mem_ul.2 (by omega)
      rw [e]
      exact glue_ul_len _
    exact validB_iff.2 ⟨by omega, m1⟩
  refine ⟨?_, hval⟩
  rw [tot_valid hval, hm, U_glue, hlen, ul_len]
  simp only
  omega
end Go.Proofs.Ytgbamgijpgjmgaa
