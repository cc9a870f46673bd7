/- Best choices of groups, and payments (plain). -/
import Derived.Test.YtpbkfpkgbfifaaaCW
namespace Go.Proofs.Ytpbkfpkgbfifaaa

/-- the first number in which two choices differ is one of a -/
def sml (a b : List Nat) : Prop := ∃ m, m ∈ a ∧ m ∉ b ∧ ∀ x, x < m → (x ∈ a ↔ x ∈ b)
theorem sml_asymm {a b : List Nat} (h : sml a b) (k : sml b a) : False := by
  obtain ⟨m, h1, h2, h3⟩ := h
  obtain ⟨p, k1, k2, k3⟩ := k
  rcases Nat.lt_trichotomy m p with e | e | e
  · exact h2 ((k3 m e).2 h1)
  · subst e; exact h2 k1
  · exact k2 ((h3 p e).2 k1)
theorem sml_total {a b : List Nat} (h : ¬ ∀ x, x ∈ a ↔ x ∈ b) : sml a b ∨ sml b a := by
  have : ∃ n, ¬ (n ∈ a ↔ n ∈ b) := Classical.byContradiction fun hn => h fun x => Classical.byContradiction fun hx => hn ⟨x, hx⟩
  obtain ⟨n, hn⟩ := this
  obtain ⟨m, h1, h2⟩ := least (P := fun n => ¬ (n ∈ a ↔ n ∈ b)) n hn
  have hlt : ∀ x, x < m → (x ∈ a ↔ x ∈ b) := fun x hx => Classical.byContradiction fun h => by have := h2 x h; omega
  by_cases ha : m ∈ a
  · left; exact ⟨m, ha, fun hb => h1 ⟨fun _ => hb, fun _ => ha⟩, hlt⟩
  · right
    refine ⟨m, Classical.byContradiction fun hb => h1 ⟨fun h => absurd h ha, fun h => absurd h hb⟩, ha, fun x hx => (hlt x hx).symm⟩
theorem srt_ext {a b : List Nat} (ha : a.Pairwise (· < ·)) (hb : b.Pairwise (· < ·)) (h : ∀ x, x ∈ a ↔ x ∈ b) : a = b := by
  have hp : a.Perm b := (List.perm_ext_iff_of_nodup (ha.imp (fun h => by omega)) (hb.imp (fun h => by omega))).2 h
  exact hp.eq_of_pairwise (le := fun x y => x < y) (fun x y _ _ h1 h2 => by omega) ha hb
theorem sml_less : ∀ (a b : List Nat), a.Pairwise (· < ·) → b.Pairwise (· < ·) → sml a b → lessN a b = true ∨ ∃ t, t ≠ [] ∧ a = b ++ t
  | [], _, _, _, h => by obtain ⟨m, h1, _⟩ := h; cases h1
  | x :: a, [], _, _, _ => .inr ⟨x :: a, by simp, rfl⟩
  | x :: a, y :: b, ha, hb, h => by
    rw [List.pairwise_cons] at ha hb
    obtain ⟨m, h1, h2, h3⟩ := h
    by_cases e : x = y
    · subst e
      have hxm : x ≠ m := fun e' => h2 (e' ▸ List.mem_cons_self)
      have hma : m ∈ a := (List.mem_cons.1 h1).resolve_left (fun e' => hxm e'.symm)
      have hxlt := ha.1 m hma
      have hs : sml a b := by
        refine ⟨m, hma, fun hm => h2 (List.mem_cons_of_mem _ hm), fun z hz => ?_⟩
        have := h3 z hz
        rw [List.mem_cons, List.mem_cons] at this
        by_cases ez : z = x
        · subst ez
          exact ⟨fun h => absurd (ha.1 z h) (by omega), fun h => absurd (hb.1 z h) (by omega)⟩
        · exact ⟨fun h => (this.1 (.inr h)).resolve_left ez, fun h => (this.2 (.inr h)).resolve_left ez⟩
      rcases sml_less a b ha.2 hb.2 hs with h | ⟨t, ht, e⟩
      · left; unfold lessN; rw [if_pos rfl]; exact h
      · right; exact ⟨t, ht, by rw [e]; rfl⟩
    · left
      unfold lessN
      rw [if_neg e]
      have hxy : x < y := by
        rcases Nat.lt_or_gt_of_ne e with h | h
        · exact h
        · exfalso
          have hmx : x ≤ m := by
            rcases List.mem_cons.1 h1 with h | h
            · omega
            · have := ha.1 m h; omega
          have := (h3 y (by omega)).2 List.mem_cons_self
          rcases List.mem_cons.1 this with h' | h'
          · omega
          · have := ha.1 y h'; omega
      simpa using hxy
/-- the best of S, ties broken by the first number in which two choices differ -/
def OptM (S : List Nat → Prop) (l : List Bd) (c : List Nat) : Prop := S c ∧ ∀ d, S d → val l d < val l c ∨ (val l d = val l c ∧ (c = d ∨ sml c d))
theorem OptM.unique {S : List Nat → Prop} {l : List Bd} {c d : List Nat} (h : OptM S l c) (k : OptM S l d) : c = d := by
  rcases h.2 d k.1 with h1 | ⟨h1, h2⟩
  · rcases k.2 c h.1 with k1 | ⟨k1, _⟩ <;> omega
  · rcases h2 with h2 | h2
    · exact h2
    · rcases k.2 c h.1 with k1 | ⟨k1, k2⟩
      · omega
      · rcases k2 with k2 | k2
        · exact k2.symm
        · exact (sml_asymm h2 k2).elim
theorem val_pos {l : List Bd} (hp : ∀ i, i < l.length → 1 ≤ pr l i) : ∀ t : List Nat, (∀ i ∈ t, i < l.length) → t ≠ [] → 0 < val l t
  | [], _, h => absurd rfl h
  | [x], h, _ => by have := hp x (h x List.mem_cons_self); simp only [val]; omega
  | x :: y :: t, h, _ => by
    have := hp x (h x List.mem_cons_self)
    have := val_pos hp (y :: t) (fun i hi => h i (List.mem_cons_of_mem _ hi)) (by simp)
    simp only [val] at *; omega
theorem opt_to_m {l : List Bd} {S : List Nat → Prop} (hp : ∀ i, i < l.length → 1 ≤ pr l i) (hS : ∀ c, S c → feas l c) {st : List Nat × Int} (h : Opt S l st) : OptM S l st.1 ∧ st.2 = val l st.1 := by
  refine ⟨⟨h.1, fun d hd => ?_⟩, h.2.1⟩
  rcases h.2.2 d hd with h1 | ⟨h1, h2⟩
  · left; rw [← h.2.1]; exact h1
  · right
    rw [h.2.1] at h1
    refine ⟨h1, ?_⟩
    rcases h2 with h2 | h2
    · exact .inl h2
    · right
      have f1 := hS _ h.1
      have f2 := hS _ hd
      by_cases e : ∀ x, x ∈ st.1 ↔ x ∈ d
      · rw [srt_ext f1.1 f2.1 e, lessN_irrefl] at h2; cases h2
      · rcases sml_total e with k | k
        · exact k
        · exfalso
          rcases sml_less _ _ f2.1 f1.1 k with k1 | ⟨t, ht, e'⟩
          · rw [lessN_asymm _ _ h2] at k1; cases k1
          · rw [e', val_app] at h1
            have := val_pos hp t (fun i hi => f2.2.1 i (by rw [e']; exact List.mem_append_right _ hi)) ht
            omega
/-- a strictly increasing list of indices: what is chosen of its bids, as indices -/
def lift (g c : List Nat) : List Nat := c.map fun i => g.getD i 0
theorem lift_get {g : List Nat} {i : Nat} (h : i < g.length) : g.getD i 0 = g[i] := by rw [List.getD_eq_getElem?_getD, List.getElem?_eq_getElem h]; rfl
theorem lift_lt {g : List Nat} (hg : g.Pairwise (· < ·)) {i j : Nat} (hi : i < g.length) (hj : j < g.length) : g.getD i 0 < g.getD j 0 ↔ i < j := by
  rw [lift_get hi, lift_get hj]
  rcases Nat.lt_trichotomy i j with e | e | e
  · have := (List.pairwise_iff_getElem.1 hg) i j hi hj e; exact ⟨fun _ => e, fun _ => this⟩
  · subst e; exact ⟨fun h => absurd h (by omega), fun h => absurd h (by omega)⟩
  · have := (List.pairwise_iff_getElem.1 hg) j i hj hi e; exact ⟨fun h => absurd h (by omega), fun h => absurd h (by omega)⟩
theorem lift_inj {g : List Nat} (hg : g.Pairwise (· < ·)) {i j : Nat} (hi : i < g.length) (hj : j < g.length) (h : g.getD i 0 = g.getD j 0) : i = j := by
  rcases Nat.lt_trichotomy i j with e | e | e
  · have := (lift_lt hg hi hj).2 e; omega
  · exact e
  · have := (lift_lt hg hj hi).2 e; omega
theorem mem_lift {g c : List Nat} {x : Nat} : x ∈ lift g c ↔ ∃ i ∈ c, g.getD i 0 = x := by unfold lift; rw [List.mem_map]
def partOf (l : List Bd) (g : List Nat) : List Bd := g.map fun i => l.getD i bd0
theorem partOf_get (l : List Bd) (g : List Nat) {i : Nat} (h : i < g.length) : (partOf l g).getD i bd0 = l.getD (g.getD i 0) bd0 := by
  rw [lift_get h]
  unfold partOf
  rw [List.getD_eq_getElem?_getD, List.getElem?_map, List.getElem?_eq_getElem h]; rfl
theorem lift_val (l : List Bd) (g : List Nat) : ∀ c : List Nat, (∀ i ∈ c, i < g.length) → val (partOf l g) c = val l (lift g c)
  | [], _ => rfl
  | i :: c, h => by
    have := lift_val l g c (fun j hj => h j (List.mem_cons_of_mem _ hj))
    show pr _ i + val _ c = pr l (g.getD i 0) + val l (lift g c)
    rw [this]
    unfold pr
    rw [partOf_get l g (h i List.mem_cons_self)]
theorem pw_map_of {R R' : Nat → Nat → Prop} {f : Nat → Nat} : ∀ {c : List Nat}, (∀ i ∈ c, ∀ j ∈ c, R i j → R' (f i) (f j)) → c.Pairwise R → (c.map f).Pairwise R'
  | [], _, _ => List.Pairwise.nil
  | x :: c, h, hp => by
    rw [List.pairwise_cons] at hp
    rw [List.map_cons, List.pairwise_cons]
    refine ⟨fun y hy => ?_, pw_map_of (fun i hi j hj => h i (List.mem_cons_of_mem _ hi) j (List.mem_cons_of_mem _ hj)) hp.2⟩
    obtain ⟨z, hz, rfl⟩ := List.mem_map.1 hy
    exact h x List.mem_cons_self z (List.mem_cons_of_mem _ hz) (hp.1 z hz)
theorem lift_feas {l : List Bd} {g c : List Nat} (hg : g.Pairwise (· < ·)) (hl : ∀ x ∈ g, x < l.length) (h : feas (partOf l g) c) : feas l (lift g c) ∧ ∀ x ∈ lift g c, x ∈ g := by
  obtain ⟨h1, h2, h3⟩ := h
  have hlen : (partOf l g).length = g.length := by unfold partOf; simp
  rw [hlen] at h2
  have hin : ∀ x ∈ lift g c, x ∈ g := by
    intro x hx
    obtain ⟨i, hi, rfl⟩ := mem_lift.1 hx
    rw [lift_get (h2 i hi)]; exact List.getElem_mem _
  refine ⟨⟨pw_map_of (fun i hi j hj hij => (lift_lt hg (h2 i hi) (h2 j hj)).2 hij) h1, fun x hx => hl x (hin x hx), pw_map_of (fun i hi j hj hij => ?_) h3⟩, hin⟩
  rw [partOf_get l g (h2 i hi), partOf_get l g (h2 j hj)] at hij
  exact hij
/-- a choice within g, as places in g -/
def sink (g d : List Nat) : List Nat := (List.range g.length).filter fun i => d.contains (g.getD i 0)
theorem lift_sink {g d : List Nat} (hg : g.Pairwise (· < ·)) (hd : d.Pairwise (· < ·)) (hin : ∀ x ∈ d, x ∈ g) : lift g (sink g d) = d := by
  have hlt : ∀ i ∈ sink g d, i < g.length := fun i hi => List.mem_range.1 (List.mem_filter.1 hi).1
  refine srt_ext (pw_map_of (fun i hi j hj hij => (lift_lt hg (hlt i hi) (hlt j hj)).2 hij) (List.Pairwise.filter _ List.pairwise_lt_range)) hd (fun x => ?_)
  rw [mem_lift]
  constructor
  · rintro ⟨i, hi, rfl⟩
    have := (List.mem_filter.1 hi).2
    simpa using this
  · intro hx
    obtain ⟨i, hi, rfl⟩ := List.getElem_of_mem (hin x hx)
    refine ⟨i, List.mem_filter.2 ⟨List.mem_range.2 hi, ?_⟩, lift_get hi⟩
    rw [lift_get hi]; simpa using hx
theorem sink_feas {l : List Bd} {g d : List Nat} (hg : g.Pairwise (· < ·)) (hd : feas l d) (hin : ∀ x ∈ d, x ∈ g) : feas (partOf l g) (sink g d) := by
  have hlt : ∀ i ∈ sink g d, i < g.length := fun i hi => List.mem_range.1 (List.mem_filter.1 hi).1
  have hs : (sink g d).Pairwise (· < ·) := List.Pairwise.filter _ List.pairwise_lt_range
  refine ⟨hs, fun i hi => by have := hlt i hi; unfold partOf; simpa using this, ?_⟩
  have hls := lift_sink hg hd.1 hin
  have h3 := hd.2.2
  rw [← hls] at h3
  unfold lift at h3
  rw [List.pairwise_map] at h3
  refine List.Pairwise.imp_of_mem (fun {i j} hi hj hij => ?_) h3
  rw [partOf_get l g (hlt i hi), partOf_get l g (hlt j hj)]
  exact hij
theorem sml_lift {g a b : List Nat} (hg : g.Pairwise (· < ·)) (ha : ∀ i ∈ a, i < g.length) (hb : ∀ i ∈ b, i < g.length) (h : sml a b) : sml (lift g a) (lift g b) := by
  obtain ⟨m, h1, h2, h3⟩ := h
  refine ⟨g.getD m 0, mem_lift.2 ⟨m, h1, rfl⟩, fun hm => ?_, fun x hx => ?_⟩
  · obtain ⟨i, hi, e⟩ := mem_lift.1 hm
    exact h2 (lift_inj hg (hb i hi) (ha m h1) e ▸ hi)
  · rw [mem_lift, mem_lift]
    constructor
    · rintro ⟨i, hi, rfl⟩; exact ⟨i, (h3 i ((lift_lt hg (ha i hi) (ha m h1)).1 hx)).1 hi, rfl⟩
    · rintro ⟨i, hi, rfl⟩; exact ⟨i, (h3 i ((lift_lt hg (hb i hi) (ha m h1)).1 hx)).2 hi, rfl⟩
theorem partOf_pr {l : List Bd} {g : List Nat} (hl : ∀ x ∈ g, x < l.length) (hp : ∀ i, i < l.length → 1 ≤ pr l i) : ∀ i, i < (partOf l g).length → 1 ≤ pr (partOf l g) i := by
  intro i hi
  have hi' : i < g.length := by unfold partOf at hi; simpa using hi
  unfold pr
  rw [partOf_get l g hi', lift_get hi']
  exact hp _ (hl _ (List.getElem_mem _))
/-- the best choice of some bids, as indices of the whole list -/
theorem part_opt {l : List Bd} {g : List Nat} (hg : g.Pairwise (· < ·)) (hl : ∀ x ∈ g, x < l.length) (hp : ∀ i, i < l.length → 1 ≤ pr l i) (hp0 : ∀ i, 0 ≤ pr (partOf l g) i) :
    OptM (fun d => feas l d ∧ ∀ x ∈ d, x ∈ g) l (lift g (bestS (partOf l g)).1) ∧ (bestS (partOf l g)).2 = val l (lift g (bestS (partOf l g)).1) := by
  have hlen : (partOf l g).length = g.length := by unfold partOf; simp
  obtain ⟨h1, h2⟩ := opt_to_m (partOf_pr hl hp) (fun c h => h) (bestS_opt hp0)
  generalize (bestS (partOf l g)).1 = c at *
  have hc : ∀ i ∈ c, i < g.length := fun i hi => by have := h1.1.2.1 i hi; omega
  refine ⟨⟨lift_feas hg hl h1.1, fun d hd => ?_⟩, by rw [h2, lift_val l g c hc]⟩
  have hs : ∀ i ∈ sink g d, i < g.length := fun i hi => List.mem_range.1 (List.mem_filter.1 hi).1
  have hls := lift_sink hg hd.1.1 hd.2
  have hv := lift_val l g (sink g d) hs
  rw [hls] at hv
  rcases h1.2 (sink g d) (sink_feas hg hd.1 hd.2) with h | ⟨h, h'⟩
  · left; rw [← hv, ← lift_val l g c hc]; exact h
  · right
    refine ⟨by rw [← hv, ← lift_val l g c hc]; exact h, ?_⟩
    rcases h' with h' | h'
    · left; rw [h', hls]
    · right; rw [← hls]; exact sml_lift hg hc hs h'
theorem val_split (l : List Bd) (f : Nat → Bool) : ∀ c : List Nat, val l c = val l (c.filter f) + val l (c.filter fun x => !f x)
  | [] => rfl
  | x :: c => by
    have := val_split l f c
    cases h : f x
    · rw [List.filter_cons_of_neg (by simp [h]), List.filter_cons_of_pos (by simp [h])]; simp only [val]; omega
    · rw [List.filter_cons_of_pos h, List.filter_cons_of_neg (by simp [h])]; simp only [val]; omega
/-- a choice with its bids of g replaced -/
def swapG (n : Nat) (c g d : List Nat) : List Nat := (List.range n).filter fun x => (c.contains x && !g.contains x) || d.contains x
theorem mem_swap {n : Nat} {c g d : List Nat} {x : Nat} : x ∈ swapG n c g d ↔ x < n ∧ ((x ∈ c ∧ x ∉ g) ∨ x ∈ d) := by
  unfold swapG; rw [List.mem_filter, List.mem_range]; simp
/-- the best choice, in a group, is the group's best one -/
theorem group_opt {l : List Bd} {win g : List Nat} (hw : OptM (feas l) l win) (hg : g ∈ partsF l) : OptM (fun d => feas l d ∧ ∀ x ∈ d, x ∈ g) l (win.filter fun x => g.contains x) := by
  have hwf := hw.1
  have hf : feas l (win.filter fun x => g.contains x) := ⟨List.Pairwise.filter _ hwf.1, fun i hi => hwf.2.1 i (List.mem_filter.1 hi).1, List.Pairwise.filter _ hwf.2.2⟩
  have hcl : ∀ x ∈ g, ∀ y, y < l.length → confl (l.getD x bd0) (l.getD y bd0) = true → y ∈ g := by
    rw [partsF_eq] at hg
    obtain ⟨a, _, rfl⟩ := List.mem_map.1 hg
    intro x hx y hy hc
    exact mem_comp.2 ⟨hy, (mem_comp.1 hx).2.step hy hc⟩
  refine ⟨⟨hf, fun x hx => by have := (List.mem_filter.1 hx).2; simpa using this⟩, fun d hd => ?_⟩
  obtain ⟨hdf, hdg⟩ := hd
  have hsf : feas l (swapG l.length win g d) := by
    refine ⟨List.Pairwise.filter _ List.pairwise_lt_range, fun i hi => (mem_swap.1 hi).1, ?_⟩
    have hpw : (swapG l.length win g d).Pairwise (· < ·) := List.Pairwise.filter _ List.pairwise_lt_range
    have pick : ∀ {c : List Nat}, feas l c → ∀ x ∈ c, ∀ y ∈ c, x ≠ y → confl (l.getD x bd0) (l.getD y bd0) = false := by
      intro c hc x hx y hy hne
      obtain ⟨i, hi, rfl⟩ := List.getElem_of_mem hx
      obtain ⟨j, hj, rfl⟩ := List.getElem_of_mem hy
      have hp := List.pairwise_iff_getElem.1 hc.2.2
      rcases Nat.lt_trichotomy i j with e | e | e
      · exact hp i j hi hj e
      · subst e; exact absurd rfl hne
      · rw [confl_symm]; exact hp j i hj hi e
    refine List.Pairwise.imp_of_mem (fun {x y} hx hy hxy => ?_) hpw
    obtain ⟨x1, hx'⟩ := mem_swap.1 hx
    obtain ⟨y1, hy'⟩ := mem_swap.1 hy
    have hne : x ≠ y := by omega
    rcases hx' with ⟨a1, a2⟩ | a1 <;> rcases hy' with ⟨b1, b2⟩ | b1
    · exact pick hwf x a1 y b1 hne
    · cases hc : confl (l.getD x bd0) (l.getD y bd0)
      · rfl
      · exact absurd (hcl y (hdg y b1) x x1 (by rw [confl_symm]; exact hc)) a2
    · cases hc : confl (l.getD x bd0) (l.getD y bd0)
      · rfl
      · exact absurd (hcl x (hdg x a1) y y1 hc) b2
    · exact pick hdf x a1 y b1 hne
  have e1 : (swapG l.length win g d).filter (fun x => g.contains x) = d := by
    refine srt_ext (List.Pairwise.filter _ hsf.1) hdf.1 (fun x => ?_)
    rw [List.mem_filter, mem_swap]
    simp only [List.contains_eq_mem, decide_eq_true_eq]
    constructor
    · rintro ⟨⟨_, ⟨_, h⟩ | h⟩, h'⟩
      · exact absurd h' h
      · exact h
    · intro h; exact ⟨⟨hdf.2.1 x h, .inr h⟩, hdg x h⟩
  have e2 : (swapG l.length win g d).filter (fun x => !g.contains x) = win.filter fun x => !g.contains x := by
    refine srt_ext (List.Pairwise.filter _ hsf.1) (List.Pairwise.filter _ hwf.1) (fun x => ?_)
    rw [List.mem_filter, List.mem_filter, mem_swap]
    simp only [List.contains_eq_mem, Bool.not_eq_true', decide_eq_false_iff_not]
    constructor
    · rintro ⟨⟨_, ⟨h, _⟩ | h⟩, h'⟩
      · exact ⟨h, h'⟩
      · exact absurd (hdg x h) h'
    · rintro ⟨h, h'⟩; exact ⟨⟨hwf.2.1 x h, .inl ⟨h, h'⟩⟩, h'⟩
  have v1 := val_split l (fun x => g.contains x) (swapG l.length win g d)
  have v2 := val_split l (fun x => g.contains x) win
  rw [e1, e2] at v1
  rcases hw.2 _ hsf with h | ⟨h, h'⟩
  · left; omega
  · right
    refine ⟨by omega, ?_⟩
    rcases h' with h' | h'
    · left
      rw [← e1, ← h']
    · right
      obtain ⟨m, m1, m2, m3⟩ := h'
      have hmg : m ∈ g := by
        apply Classical.byContradiction
        intro hmg
        exact m2 (mem_swap.2 ⟨hwf.2.1 m m1, .inl ⟨m1, hmg⟩⟩)
      refine ⟨m, List.mem_filter.2 ⟨m1, by simpa using hmg⟩, fun hm => m2 (mem_swap.2 ⟨hdf.2.1 m hm, .inr hm⟩), fun x hx => ?_⟩
      rw [List.mem_filter]
      simp only [List.contains_eq_mem, decide_eq_true_eq]
      constructor
      · rintro ⟨h, h'⟩
        rcases (mem_swap.1 ((m3 x hx).1 h)).2 with ⟨_, h2⟩ | h2
        · exact absurd h' h2
        · exact h2
      · intro h
        exact ⟨(m3 x hx).2 (mem_swap.2 ⟨hdf.2.1 x h, .inr h⟩), hdg x h⟩
/-- the best choice is one of the bids that Reduce leaves -/
theorem red_opt {l : List Bd} {win : List Nat} (hw : Opt (feas l) l (win, val l win)) (hm : OptM (feas l) l win) : (∀ x ∈ win, x ∈ redS l) ∧ OptM (fun d => feas l d ∧ ∀ x ∈ d, x ∈ redS l) l win := by
  have hin : ∀ x ∈ win, x ∈ redS l := by
    intro x hx
    have hxl := hw.1.2.1 x hx
    cases hk : keepB l x
    · exfalso
      obtain ⟨i, hi, rfl⟩ := List.getElem_of_mem hx
      obtain ⟨k, _, _, _, h4, h5⟩ := exch_ok (c := win) (show feas l win from hw.1) (List.getElem?_eq_getElem hi) hk
      rcases hw.2.2 _ h4 with h | ⟨h, h'⟩
      · simp only at h
        rcases h5 with h5 | h5 <;> omega
      · simp only at h h'
        rcases h5 with h5 | ⟨h5, h6⟩
        · omega
        · rcases h' with h' | h'
          · rw [← h', lessN_irrefl] at h6; cases h6
          · rw [lessN_asymm _ _ h6] at h'; cases h'
    · exact List.mem_filter.2 ⟨List.mem_range.2 hxl, hk⟩
  exact ⟨hin, ⟨hm.1, hin⟩, fun d hd => hm.2 d hd.1⟩
theorem redS_pw (l : List Bd) : (redS l).Pairwise (· < ·) := List.Pairwise.filter _ List.pairwise_lt_range
theorem redS_lt {l : List Bd} : ∀ x ∈ redS l, x < l.length := fun _ hx => List.mem_range.1 (List.mem_filter.1 hx).1
theorem val_flat (l : List Bd) (f : List Nat → List Nat) : ∀ P : List (List Nat), val l (P.flatMap f) = (P.map fun g => val l (f g)).sum
  | [] => rfl
  | g :: P => by rw [List.flatMap_cons, val_app, val_flat l f P, List.map_cons, List.sum_cons]
/-- the value of a choice is the sum of the values of its parts in the groups -/
theorem parts_val (l : List Bd) {c : List Nat} (hc : c.Pairwise (· < ·)) (hr : ∀ i ∈ c, i < l.length) : ((partsF l).map fun g => val l (c.filter fun x => g.contains x)).sum = val l c := by
  rw [← val_flat]
  refine val_perm l ?_
  have hnd : ((partsF l).flatMap fun g => c.filter fun x => g.contains x).Nodup := by
    rw [partsF_eq, List.flatMap_map]
    show List.Pairwise (· ≠ ·) _
    rw [List.flatMap_def, List.pairwise_flatten]
    constructor
    · intro g hg
      obtain ⟨a, _, rfl⟩ := List.mem_map.1 hg
      exact (List.Pairwise.filter _ hc).imp (fun h => by omega)
    · rw [List.pairwise_map]
      refine (List.Pairwise.and_mem.1 (heads_pw l l.length)).imp fun {a b} h x hx y hy e => ?_
      subst e
      have h1 := (List.mem_filter.1 hx).2
      have h2 := (List.mem_filter.1 hy).2
      have := head_one h.1 h.2.1 (Nat.le_refl _) (by simpa using h1) (by simpa using h2)
      have := h.2.2
      omega
  rw [List.perm_ext_iff_of_nodup hnd (hc.imp (fun h => by omega))]
  intro x
  rw [List.mem_flatMap]
  constructor
  · rintro ⟨g, _, h⟩; exact (List.mem_filter.1 h).1
  · intro h
    obtain ⟨a, h1, h2⟩ := head_ex (hr x h)
    exact ⟨comp l a, by rw [partsF_eq]; exact List.mem_map_of_mem h1, List.mem_filter.2 ⟨h, by simpa using h2⟩⟩
theorem val_mem_erase (l : List Bd) {c : List Nat} {i : Nat} (h : i ∈ c) (hc : c.Pairwise (· < ·)) : val l c = pr l i + val l (c.filter fun x => x != i) := by
  have h1 := val_split l (fun x => x == i) c
  have h2 : c.filter (fun x => x == i) = [i] := by
    refine srt_ext (List.Pairwise.filter _ hc) (by simp) (fun x => ?_)
    rw [List.mem_filter, List.mem_singleton]
    simp only [beq_iff_eq]
    exact ⟨fun h => h.2, fun e => ⟨e ▸ h, e⟩⟩
  rw [h2] at h1
  have h3 : val l [i] = pr l i := by simp [val]
  have h4 : (c.filter fun x => !(x == i)) = c.filter fun x => x != i := rfl
  rw [h3, h4] at h1
  exact h1
theorem pick_nc {l : List Bd} {c : List Nat} (hc : feas l c) : ∀ x ∈ c, ∀ y ∈ c, x ≠ y → confl (l.getD x bd0) (l.getD y bd0) = false := by
  intro x hx y hy hne
  obtain ⟨i, hi, rfl⟩ := List.getElem_of_mem hx
  obtain ⟨j, hj, rfl⟩ := List.getElem_of_mem hy
  have hp := List.pairwise_iff_getElem.1 hc.2.2
  rcases Nat.lt_trichotomy i j with e | e | e
  · exact hp i j hi hj e
  · subst e; exact absurd rfl hne
  · rw [confl_symm]; exact hp j i hj hi e
def payV (l : List Bd) (i : Nat) : Int := (bestS (l.filter fun x => x.1 != (l.getD i bd0).1)).2 - (bestS l).2 + pr l i
theorem pay_range {l : List Bd} (hp : ∀ x ∈ l, 0 ≤ x.2.1) {i : Nat} (hi : i ∈ (bestS l).1) : 0 ≤ payV l i ∧ payV l i ≤ pr l i := by
  have hO := bestS_opt (pr_nn hp)
  have hR := refBest_opt l (l.getD i bd0).1
  have hw := without_ref hp (l.getD i bd0).1
  unfold payV
  rw [hw]
  constructor
  · have hf : feas l ((bestS l).1.filter fun x => x != i) := ⟨List.Pairwise.filter _ hO.1.1, fun x hx => hO.1.2.1 x (List.mem_filter.1 hx).1, List.Pairwise.filter _ hO.1.2.2⟩
    have h1 := hR.2.2 ((bestS l).1.filter fun x => x != i) ⟨hf, fun x hx => by
      obtain ⟨x1, x2⟩ := List.mem_filter.1 hx
      have hne : x ≠ i := by simpa using x2
      have := pick_nc hO.1 x x1 i hi hne
      unfold confl at this
      rw [Bool.or_eq_false_iff] at this
      simpa using this.1⟩
    have h2 := val_mem_erase l hi hO.1.1
    have h3 := hO.2.1
    rcases h1 with h1 | ⟨h1, _⟩ <;> omega
  · have h1 := hO.2.2 _ hR.1.1
    have h2 := hR.2.1
    rcases h1 with h1 | ⟨h1, _⟩ <;> omega
theorem pay_alone {l : List Bd} (hp : ∀ x ∈ l, 1 ≤ x.2.1) {i : Nat} (hg : [i] ∈ partsF l) : i ∈ (bestS l).1 ∧ payV l i = 0 := by
  have hil : i < l.length := parts_lt hg i (by simp)
  have hp0 : ∀ x ∈ l, 0 ≤ x.2.1 := fun x hx => by have := hp x hx; omega
  have hpi : 1 ≤ pr l i := by
    unfold pr
    rw [List.getD_eq_getElem?_getD, List.getElem?_eq_getElem hil]
    exact hp _ (List.getElem_mem _)
  have hal : ∀ j, j < l.length → j ≠ i → confl (l.getD i bd0) (l.getD j bd0) = false := by
    intro j hj hne
    rw [partsF_eq] at hg
    obtain ⟨a, _, e⟩ := List.mem_map.1 hg
    cases hc : confl (l.getD i bd0) (l.getD j bd0)
    · rfl
    · exfalso
      have him : i ∈ comp l a := by rw [e]; simp
      have hjm : j ∈ comp l a := mem_comp.2 ⟨hj, (mem_comp.1 him).2.step hj hc⟩
      rw [e] at hjm
      exact hne (by simpa using hjm)
  have add : ∀ c, feas l c → i ∉ c → feas l (exch c c.length i) ∧ val l (exch c c.length i) = pr l i + val l c := by
    intro c hc hn
    have hpm : (exch c c.length i).Perm (i :: c) := by
      have := exF_perm c.length i 0 c
      rw [if_neg (by omega), Nat.sub_zero, List.eraseIdx_of_length_le (Nat.le_refl _)] at this
      exact this
    refine ⟨⟨exF_sorted 0 c hc.1 hn, fun x hx => ?_, ?_⟩, by rw [val_perm l hpm]; rfl⟩
    · rcases List.mem_cons.1 (hpm.mem_iff.1 hx) with h | h
      · subst h; exact hil
      · exact hc.2.1 x h
    · refine (hpm.pairwise_iff (fun {a b} h => by rw [confl_symm]; exact h)).2 ?_
      rw [List.pairwise_cons]
      exact ⟨fun x hx => hal x (hc.2.1 x hx) (fun e => hn (e ▸ hx)), hc.2.2⟩
  have hO := bestS_opt (pr_nn hp0)
  have hR := refBest_opt l (l.getD i bd0).1
  have hw := without_ref hp0 (l.getD i bd0).1
  have hin : i ∈ (bestS l).1 := by
    apply Classical.byContradiction
    intro hn
    obtain ⟨a1, a2⟩ := add _ hO.1 hn
    have h1 := hO.2.2 _ a1
    have h2 := hO.2.1
    rcases h1 with h1 | ⟨h1, _⟩ <;> omega
  refine ⟨hin, ?_⟩
  have hnr : i ∉ (refBestS l (l.getD i bd0).1).1 := fun h => hR.1.2 i h rfl
  obtain ⟨a1, a2⟩ := add _ hR.1.1 hnr
  have h1 := hO.2.2 _ a1
  have h2 := hR.2.1
  have h3 := (pay_range hp0 hin).1
  unfold payV at h3 ⊢
  rw [hw] at h3 ⊢
  rcases h1 with h1 | ⟨h1, _⟩ <;> omega
end Go.Proofs.Ytpbkfpkgbfifaaa
