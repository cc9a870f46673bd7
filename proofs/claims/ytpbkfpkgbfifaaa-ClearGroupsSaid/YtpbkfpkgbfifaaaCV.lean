/- What the groups are good for (plain): each bid in one group, no conflicts between groups, groups connected, choices feasible group by group. -/
import Derived.Test.YtpbkfpkgbfifaaaCU
namespace Go.Proofs.Ytpbkfpkgbfifaaa

theorem mem_heads {l : List Bd} {k i : Nat} : i ∈ heads l k ↔ i < k ∧ ∀ j, j < i → ¬ Reach l j i := by
  unfold heads; rw [List.mem_filter, List.mem_range]; simp
theorem heads_pw (l : List Bd) (k : Nat) : (heads l k).Pairwise (· < ·) := List.Pairwise.filter _ List.pairwise_lt_range
theorem comp_pw (l : List Bd) (i : Nat) : (comp l i).Pairwise (· < ·) := List.Pairwise.filter _ List.pairwise_lt_range
theorem head_one {l : List Bd} {k a b x : Nat} (ha : a ∈ heads l k) (hb : b ∈ heads l k) (hk : k ≤ l.length) (h1 : x ∈ comp l a) (h2 : x ∈ comp l b) : a = b := by
  obtain ⟨a1, a2⟩ := mem_heads.1 ha
  obtain ⟨b1, b2⟩ := mem_heads.1 hb
  have r1 := (mem_comp.1 h1).2
  have r2 := (mem_comp.1 h2).2
  have hab : Reach l a b := r1.trans (r2.symm (by omega))
  have hba : Reach l b a := r2.trans (r1.symm (by omega))
  rcases Nat.lt_trichotomy a b with h | h | h
  · exact absurd hab (b2 a h)
  · exact h
  · exact absurd hba (a2 b h)
theorem head_ex {l : List Bd} {x : Nat} (hx : x < l.length) : ∃ a, a ∈ heads l l.length ∧ x ∈ comp l a := by
  obtain ⟨m, h1, h2⟩ := least (P := Reach l x) x .refl
  have hm : m < l.length := h1.lt hx
  refine ⟨m, mem_heads.2 ⟨hm, fun j hj hr => ?_⟩, mem_comp.2 ⟨hx, h1.symm hx⟩⟩
  have := h2 j (h1.trans (hr.symm (by omega)))
  omega
theorem parts_lt {l : List Bd} {g : List Nat} (hg : g ∈ partsF l) : ∀ x ∈ g, x < l.length := by
  rw [partsF_eq] at hg
  obtain ⟨a, _, rfl⟩ := List.mem_map.1 hg
  exact fun x hx => (mem_comp.1 hx).1
theorem parts_pw {l : List Bd} {g : List Nat} (hg : g ∈ partsF l) : g.Pairwise (· < ·) := by
  rw [partsF_eq] at hg
  obtain ⟨a, _, rfl⟩ := List.mem_map.1 hg
  exact comp_pw l a
theorem parts_len (l : List Bd) : (partsF l).flatten.length = l.length := by
  have hnd : (partsF l).flatten.Nodup := by
    rw [partsF_eq]
    show List.Pairwise (· ≠ ·) _
    rw [List.pairwise_flatten]
    constructor
    · intro g hg
      obtain ⟨a, _, rfl⟩ := List.mem_map.1 hg
      exact (comp_pw l a).imp (fun h => by omega)
    · rw [List.pairwise_map]
      refine (List.Pairwise.and_mem.1 (heads_pw l l.length)).imp fun {a b} h x hx y hy e => ?_
      subst e
      have := head_one h.1 h.2.1 (Nat.le_refl _) hx hy
      have := h.2.2
      omega
  have hp : (partsF l).flatten.Perm (List.range l.length) := by
    rw [List.perm_ext_iff_of_nodup hnd List.nodup_range]
    intro x
    rw [List.mem_flatten, List.mem_range]
    constructor
    · rintro ⟨g, hg, hx⟩; exact parts_lt hg x hx
    · intro hx
      obtain ⟨a, h1, h2⟩ := head_ex hx
      exact ⟨comp l a, by rw [partsF_eq]; exact List.mem_map_of_mem h1, h2⟩
  rw [hp.length_eq, List.length_range]
theorem parts_cnt (l : List Bd) {x : Nat} (hx : x < l.length) : ((partsF l).filter fun g => g.contains x).length = 1 := by
  obtain ⟨a, h1, h2⟩ := head_ex hx
  rw [partsF_eq, List.filter_map, List.length_map]
  have hp : ((heads l l.length).filter ((fun g => g.contains x) ∘ comp l)).Perm [a] := by
    rw [List.perm_ext_iff_of_nodup (List.Pairwise.filter _ ((heads_pw l l.length).imp (fun h => by omega))) (by simp)]
    intro b
    rw [List.mem_filter, List.mem_singleton]
    simp only [Function.comp, List.contains_eq_mem, decide_eq_true_eq]
    constructor
    · rintro ⟨h3, h4⟩; exact (head_one h1 h3 (Nat.le_refl _) h2 h4).symm
    · rintro rfl; exact ⟨h1, h2⟩
  rw [hp.length_eq]; rfl
def touchB (l : List Bd) (a b : List Nat) : Bool := a.any fun x => b.any fun y => confl (l.getD x bd0) (l.getD y bd0)
/-- bids of different groups do not conflict -/
theorem parts_apart {l : List Bd} {i k : Nat} {g g' : List Nat} (hi : (partsF l)[i]? = some g) (hk : (partsF l)[k]? = some g') (hne : i ≠ k) : touchB l g g' = false := by
  rw [partsF_eq, List.getElem?_map] at hi hk
  obtain ⟨a, ha, rfl⟩ := Option.map_eq_some_iff.1 hi
  obtain ⟨b, hb, rfl⟩ := Option.map_eq_some_iff.1 hk
  have hma := List.mem_of_getElem? ha
  have hmb := List.mem_of_getElem? hb
  unfold touchB
  rw [List.any_eq_false]
  intro x hx h
  rw [List.any_eq_true] at h
  obtain ⟨y, hy, hc⟩ := h
  obtain ⟨x1, x2⟩ := mem_comp.1 hx
  obtain ⟨y1, y2⟩ := mem_comp.1 hy
  have hy' : y ∈ comp l a := mem_comp.2 ⟨y1, x2.step y1 hc⟩
  have e := head_one hma hmb (Nat.le_refl _) hy' hy
  subst e
  obtain ⟨hi', rfl⟩ := List.getElem?_eq_some_iff.1 ha
  obtain ⟨hk', hb'⟩ := List.getElem?_eq_some_iff.1 hb
  rcases Nat.lt_or_gt_of_ne hne with h | h
  · have := (List.pairwise_iff_getElem.1 (heads_pw l l.length)) i k hi' hk' h; omega
  · have := (List.pairwise_iff_getElem.1 (heads_pw l l.length)) k i hk' hi' h; omega
/-- a group that is divided in two has a conflict between the two -/
theorem parts_conn {l : List Bd} {g : List Nat} (hg : g ∈ partsF l) {cut : Nat} (h1 : 1 ≤ cut) (h2 : cut < g.length) : touchB l (g.take cut) (g.drop cut) = true := by
  rw [partsF_eq] at hg
  obtain ⟨a, ha, rfl⟩ := List.mem_map.1 hg
  obtain ⟨u, hu⟩ : ∃ u, u ∈ (comp l a).take cut := ⟨((comp l a).take cut)[0]'(by rw [List.length_take]; omega), List.getElem_mem _⟩
  obtain ⟨v, hv⟩ : ∃ v, v ∈ (comp l a).drop cut := ⟨((comp l a).drop cut)[0]'(by rw [List.length_drop]; omega), List.getElem_mem _⟩
  obtain ⟨u1, u2⟩ := mem_comp.1 (List.mem_of_mem_take hu)
  obtain ⟨v1, v2⟩ := mem_comp.1 (List.mem_of_mem_drop hv)
  have hal : a < l.length := (mem_heads.1 ha).1
  have huv : Reach l u v := (u2.symm hal).trans v2
  have hdis : v ∉ (comp l a).take cut := by
    intro hv'
    have := comp_pw l a
    rw [← List.take_append_drop cut (comp l a), List.pairwise_append] at this
    have := this.2.2 v hv' v hv
    omega
  have key : ∀ x, Reach l u x → x ∉ (comp l a).take cut → touchB l ((comp l a).take cut) ((comp l a).drop cut) = true := by
    intro x hx
    induction hx with
    | refl => intro h; exact absurd hu h
    | step hr hk hc ih =>
      rename_i p q
      intro hq
      by_cases hp : p ∈ (comp l a).take cut
      · have hqc : q ∈ comp l a := mem_comp.2 ⟨hk, (u2.trans hr).step hk hc⟩
        rw [← List.take_append_drop cut (comp l a), List.mem_append] at hqc
        have hqd : q ∈ (comp l a).drop cut := hqc.resolve_left hq
        unfold touchB
        rw [List.any_eq_true]
        exact ⟨p, hp, List.any_eq_true.2 ⟨q, hqd, hc⟩⟩
      · exact ih hp
  exact key v huv hdis
/-- a choice is feasible just where its parts in the groups are -/
theorem parts_feas (l : List Bd) {c : List Nat} (hc : c.Pairwise (· < ·)) (hr : ∀ i ∈ c, i < l.length) : ((partsF l).all fun g => apartB l (c.filter fun x => g.contains x)) = apartB l c := by
  rw [Bool.eq_iff_iff, List.all_eq_true]
  constructor
  · intro h
    rw [apartB_iff]
    refine (List.Pairwise.and_mem.1 hc).imp_of_mem ?_ |> fun h' => h'
    intro x y hx hy hxy
    cases hcf : confl (l.getD x bd0) (l.getD y bd0)
    · rfl
    · exfalso
      obtain ⟨a, h1, h2⟩ := head_ex (hr x hx)
      have hy2 : y ∈ comp l a := mem_comp.2 ⟨hr y hy, (mem_comp.1 h2).2.step (hr y hy) hcf⟩
      have hg := h (comp l a) (by rw [partsF_eq]; exact List.mem_map_of_mem h1)
      rw [apartB_iff] at hg
      have hxf : x ∈ c.filter fun z => (comp l a).contains z := List.mem_filter.2 ⟨hx, by simpa using h2⟩
      have hyf : y ∈ c.filter fun z => (comp l a).contains z := List.mem_filter.2 ⟨hy, by simpa using hy2⟩
      have hpw : (c.filter fun z => (comp l a).contains z).Pairwise (· < ·) := List.Pairwise.filter _ hc
      obtain ⟨i, hi, rfl⟩ := List.getElem_of_mem hxf
      obtain ⟨j, hj, rfl⟩ := List.getElem_of_mem hyf
      have hij : i < j := by
        rcases Nat.lt_trichotomy i j with h | h | h
        · exact h
        · subst h; have := hxy.2.2; omega
        · have := (List.pairwise_iff_getElem.1 hpw) j i hj hi h; have := hxy.2.2; omega
      have := (List.pairwise_iff_getElem.1 hg) i j hi hj hij
      rw [hcf] at this; cases this
  · intro h g _
    rw [apartB_iff] at h ⊢
    exact List.Pairwise.filter _ h
end Go.Proofs.Ytpbkfpkgbfifaaa
